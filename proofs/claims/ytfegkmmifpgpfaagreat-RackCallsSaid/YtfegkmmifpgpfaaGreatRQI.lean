/- Parts of a proof, joined in build order: a calculus of contracts, contracts of functions. -/
import Derived.Test.YtfegkmmifpgpfaaGreatRQH
import Derived.Test.YtfegkmmifpgpfaaGreatRQF
import Derived.Test.YtfegkmmifpgpfaaGreatRQG
set_option linter.unusedVariables false
set_option linter.unusedSimpArgs false
set_option maxHeartbeats 8000000
set_option maxRecDepth 100000
namespace Go.Vc
open Go.Proofs Classical
abbrev Ei:=nL × Value × Value
def iN(e:Ei):PA:=⟨qe e.1 e.2.1 e.2.2,[⟨e.2.1,149,1025,e.1.data.map zy⟩,⟨e.2.2,241,2,e.1.kA.map yh⟩]⟩
def vU(iv:Value)(f s:Int):Array Value:=#[iv,zg f,zg s]
theorem PU:ZZ TP 26=some (.agg (vU (.slice none 0 0) 0 0)):=by kernel_rfl
theorem TA:zo TP 26 []=some (.agg (vU (.slice none 0 0) 0 0)):=by kernel_rfl
theorem Xj(a b:Int):zo TP 26 [(1,zg a),(2,zg b)]=some (.agg (vU (.slice none 0 0) a b)):=by kernel_rfl
theorem BN{b:Option Addr}{n c:Nat}{f s:Int}:zv (vU (.slice b n c) f s):=by unfold zv;rw[<- iV];rfl
noncomputable def S0:ZX:=Ms (zQ TP 24)
theorem ahA:zQ TP 24=some S0:=by kernel_rfl
theorem adG:S0.type=142/\S0.size=7/\S0.zero.size=7/\S0.bytes=88:=⟨by kernel_rfl,by kernel_rfl,by kernel_rfl,by kernel_rfl⟩
noncomputable def Iy(B L I:Int)(l:List (Int × jn))(n:Nat):List Nat:=((List.range n).map (·+1)).filter fun i=>decide (YP B L I l i 0≠0)
noncomputable def itI(B L I:Int)(l:List (Int × jn))(i:Nat):nL:=rI l ⟨i,YP B L I l i,.bool false,YG B L I l (YP B L I l i)⟩
theorem lN.kU{B L I:Int}{l:List (Int × jn)}{n:Nat}{fs:List Fl}(h:lN B L I l n fs):fs.map (rI l)=(Iy B L I l n).map (itI B L I l):=by
 have e:Iy B L I l n=fs.map (·.i):=h.ids.symm;rw[e,ad8];refine List.map_congr_left fun x hx=>?_;obtain⟨h1,h2⟩:=h.is x hx;obtain⟨i,f,v,sp⟩:=x;simp only at h1 h2;subst h1;subst h2;rfl
theorem lN.ahV{B L I:Int}{l:List (Int × jn)}{n:Nat}{fs:List Fl}(h:lN B L I l n fs):Zf fs=(Iy B L I l n).flatMap fun i=>(YG B L I l (YP B L I l i)).map (·.2):=by
 have e:Iy B L I l n=fs.map (·.i):=h.ids.symm;have key:∀ gs:List Fl,(∀ x∈gs,x∈fs)->Zf gs=(gs.map (·.i)).flatMap fun i=>(YG B L I l (YP B L I l i)).map (·.2):=by
  intro gs;induction gs with
  | nil=>intro _;rfl
  | cons x r ih=>
   intro hg;obtain⟨h1,h2⟩:=h.is x (hg x (eH ..));have e1:Zf (x :: r)=x.sp.map (·.2)++Zf r:=by simp[Zf]
   rw[e1,ih fun y hy=>hg y (dH _ hy),jb,Ao,h2,h1]
 rw[e];exact key fs fun x hx=>hx
theorem lN.af1{B L I:Int}{l:List (Int × jn)}{n:Nat}{fs:List Fl}(h:lN B L I l n fs):fs.length=(Iy B L I l n).length:=by
 have e:Iy B L I l n=fs.map (·.i):=h.ids.symm;rw[e,bR]
section
variable{H:Hp}{R:Value->Hp->Prop}{d:Nat}{dv:Value}{B L I:Int}{l:List (Int × jn)}
theorem afg{H H':Hp}{iv:Value}{es:List Ei}(h:oh H H' (.nest 142 7 iv (es.map iN))):Am H' iv (es.map (·.1)):=by
 refine⟨es.map fun e=>qe e.1 e.2.1 e.2.2,?_,by simp,fun i t ht=>?_⟩
 ·have:=h.F5.sr;rw[ad8]at this;exact this
 ·rw[dR]at ht;cases he:es[i]? with
  | none=>rw[he]at ht;cases ht
  | some e=>
   rw[he]at ht;injection ht with ht;have hm:iN e∈es.map iN:=iT.2 ⟨e,jV he,rfl⟩;refine⟨e.2.1,e.2.2,by rw[dR,he,<- ht];rfl,?_,?_⟩
   ·rw[<- ht];exact(h.Ci _ hm _ (eH ..)).sr
   ·rw[<- ht];exact(h.Ci _ hm _ (dH _ (eH ..))).sr
theorem ab2(h:PD H dv B L I l)
   (aj1:∀ H' s' (n:Nat) fs,Ext H H'->n≠0->j9 TP 131 s'=some (zg n)->lN B L I l I.toNat fs->¬ Sound B L I l fs->R (.tuple #[.agg (vU (.slice none 0 0) 0 0),s']) H')
   (k:∀ H' iv (es:List Ei) fs,Ext H H'->lN B L I l I.toNat fs->Sound B L I l fs->es.map (·.1)=fs.map (rI l)->oh H H' (.nest 142 7 iv (es.map iN))->R (.tuple #[.agg (vU iv (B - (zf B L I).kb - ((Zf fs).length:Nat)) (I - (fs.length:Nat))),.slice none 0 0]) H') :
   Fc TP 74 #[.agg #[zg B,dv]] H R:=by
 obtain⟨xP,xO,wI,xQ,vP,vO,gD⟩:=id h.ok
 have hDA:(zf B L I).kb=1+L+(I+16) / 16+(B+8191) / 8192:=rfl
 have hBB:(zf B L I).B=B:=rfl
 have hII:(zf B L I).I=I:=rfl
 have x3:∀ {a b:Value},zq (.tuple #[a,b]) 0=some a:=rfl
 have x4:∀ {a b:Value},zq (.tuple #[a,b]) 1=some b:=rfl
 refine fn74 ?_
 simp only[sh74,Ul,UL,UA,Us,Ub,Uz,Ux,UI,Uf,Uw,Ui,Ug,Uj,Uo,Uv,PU,TA,za,zm]
 refine(Lo.start _ H:Lx H H []).jc fun b1 H1 _ l1=>?_
 refine l1.jc fun b2 H2 _ l2=>?_
 have l2:Lx H H2 [.box b1 #[zg B,dv] 81,.box b2 (vU (.slice none 0 0) 0 0) 26]:=l2
 rw[l2.je (i:=0) (n:=2) rfl rfl,za]
 have hx:∀ {H'},Ext H H'->PD H' dv B L I l:=fun e=>⟨h.rd.ext e,h.whole,h.is,h.len,h.ok,h.sup,h.hd⟩
 refine abF (hx l2.iZ) fun H3 d e3 lk=>?_
 have l3:=l2.ext e3
 rw[x3,za,x4,za,show ya TP 181 true .eql (zD d) (.pointer none) H3=some (.bool false) from Z6 (e:=188) (by kernel_rfl),za,zh]
 refine P4 lk fun H4 s4 ps kd fs e4 n4 re q4=>?_
 have l4:=l3.ext e4
 rw[Y4 n4,za,zJ,za,zb]
 refine⟨fun hp=>?_,fun hp=>?_⟩
 · have jZ:=Yj.1 hp
   refine l4.ret (i:=1) (K:=fun x H4=>R (.tuple #[x,s4]) H4) rfl rfl rfl BN fun H' l'=>aj1 H' s4 ps.length fs l'.iZ ?_ (Y4 n4) re fun S=>jZ (q4.2 S)
   rintro e
   exact jZ (List.length_eq_zero_iff.1 e)
 · have hs:=q4.1 (jh.1 fun e=>hp (Yj.2 e))
   refine Ic (lk.ext e4) fun H5 fv wJ e5 n5 Ww=>?_
   have tW:=IV (lk.ext e4) (by omega) Ww n5
   have lk5:=(lk.ext e4).ext e5
   have l5:=l4.ext e5
   have uK:=tW.len
   have sa:=Ai tW.M9
   simp only[zl,zc,aR,bH,Nat.reduceAdd,za]
   rw[zi lk5.top,ab5,za,zi lk5.top,RE,za,zP,za,zi lk5.top,V5,za,tW.row.j9 Ya,za,bR,zP,za,hBB,hII,zd (x:=B - (zf B L I).kb) (by omega) (by omega),zd (x:=I - (wJ.length:Int)) (by omega) (by omega),Xj,za,zj]
   intro H6 e6
   refine((Lo.start _ H5:Lx H5 H5 []).ext e6).jc fun b3 H7 _ l7=>?_
   rw[zj]
   intro H8 e8
   refine(l7.ext e8).jE (i:=0) (n:=3) rfl rfl rfl BN fun H9 l9=>?_
   rw[zj]
   intro mX sA
   have mn:=(l9.ext sA).new (Ext.refl _) (oh.afS mX 142 7)
   have s0:∀ {iv:Value} {f s:Int},(vU iv f s)[0]?=some iv:=rfl
   have s1:∀ {iv:Value} {f s:Int},(vU iv f s)[1]?=some (zg f):=rfl
   refine zF.mk (fun t H'=>∃ (i:Nat) (iv:Value) (es:List Ei),i<=wJ.length/\t=(zg i,())/\es.map (·.1)=(wJ.take i).map (rI l)/\Lx H5 H' [.box b3 (vU iv (B - (zf B L I).kb - ((Zf (wJ.take i)).length:Nat)) (I - (wJ.length:Nat))) 26,.nest 142 7 iv (es.map iN)])
     (fun t _=>mi t.1 fun i=>(wJ.length - i).toNat) ⟨0,.slice none 0 0,[],by omega,rfl,rfl,by
       have e0:B - (zf B L I).kb - ((Zf (wJ.take 0)).length:Nat)=B - (zf B L I).kb:=by simp[Zf]
       rw[e0];exact mn⟩ ?_
   rintro _ mN ⟨i,iv,es,hi,rfl,AB,lO⟩
   have acZ:=tW.ext lO.iZ
   have af0:=lk5.ext lO.iZ
   rw[za,zk,za,zb]
   refine⟨fun kc=>?_,fun lA=>?_⟩
   · have kI:i<wJ.length:=by omega
     have lP:(wJ.map lQ)[i]?=some (lQ wJ[i]):=by rw[dR,bU kI];rfl
     have mR:wJ.take (i+1)=wJ.take i++[wJ[i]]:=fU kI
     have kL:wJ[i]∈wJ:=ju kI
     have nX:=Ai (fs:=wJ.take i) fun y hy=>tW.M9 y (List.mem_of_mem_take hy)
     rw[mg]at nX
     have wG:es.length<=i:=by
       have:=congrArg List.length AB
       rw[bR,bR,mg]at this;omega
     generalize wJ[i]=x at lP mR kL
     have WC:(Zf (wJ.take (i+1))).length=(Zf (wJ.take i)).length+x.sp.length:=by rw[mR,Aj,Ah,cR,bR]
     have Gh:=tW.M9 x kL
     obtain⟨bv,cv,exv⟩:=(tW.sub x kL).len
     obtain⟨b,o,ha,lI,kE⟩:=acZ.row.el lP
     have hr:=kE 0 18 (by omega)
     rw[bH,qI (c:=lQ x) (n:=18) rfl]at hr
     refine Zg.mk (fun _ H'=>∃ (RM:Value) (e:Ei),e.1=rI l x/\Lx H5 H' [.box b3 (vU RM (B - (zf B L I).kb - ((Zf (wJ.take i)).length:Nat)) (I - (wJ.length:Nat))) 26,.nest 142 7 RM ((es++[e]).map iN)]) ?_ ?_
     · rintro t tF ⟨RM,e,he,oC⟩
       obtain⟨b',o',mq,KM,_⟩:=(tW.ext oC.iZ).row.el lP
       simp only[zc,aR,bH,za]
       rw[oC.ld (i:=0) rfl,s1,za,mq,za,zc,za,KM 17 (by omega),show(lQ x)[17]?=some x.v from rfl,za,(tW.sub x kL).j9 qt,za,bR,zP,za,zd (by omega) (by omega)]
       refine oC.st (i:=0) (j:=1) (v:=zg (B - (zf B L I).kb - ((Zf (wJ.take i)).length:Nat) - (x.sp.length:Int))) rfl (by exact(by decide:1<3)) rfl rfl fun sD oM=>?_
       rw[ze,za,zE,zr (by omega)]
       refine⟨⟨i+1,RM,es++[e],by omega,rfl,?_,?_⟩,by simp only[zu];omega⟩
       · rw[mR,cU,cU,AB]
         show _++[e.1]=_++[rI l x]
         rw[he]
       · have e2:B - (zf B L I).kb - ((Zf (wJ.take i)).length:Nat) - (x.sp.length:Int)=B - (zf B L I).kb - ((Zf (wJ.take (i+1))).length:Nat):=by rw[WC];omega
         rw[<- e2];exact oM
     · simp only[zc,aR,bH,za]
       rw[ha,za,hr,za]
       have fin:∀ {H':Hp} {v1 v2:Value} {C:Hp->Prop},Lx H5 H' [.box b3 (vU iv (B - (zf B L I).kb - ((Zf (wJ.take i)).length:Nat)) (I - (wJ.length:Nat))) 26,.nest 142 7 iv (es.map iN),.Hj [⟨v1,149,1025,(rI l x).data.map zy⟩,⟨v2,241,2,(rI l x).kA.map yh⟩]] ->
           (∀ oZ RM ,Lx H5 oZ [.box b3 (vU RM (B - (zf B L I).kb - ((Zf (wJ.take i)).length:Nat)) (I - (wJ.length:Nat))) 26,.nest 142 7 RM ((es++[(rI l x,v1,v2)]).map iN)]->C oZ) ->
           lC true H' fun H27=>Pu (zQ TP 24) fun x64=>Pu (zT (some x64) 1 [(0,.agg (qe (rI l x) v1 v2))]) fun x65=>nK x64.type 1 x65 H27 fun x66 H28=>lC true H28 fun H29=>mD (zQ TP 24) iv x66 H29 fun x67 H30=>lC true H30 fun H31=>Pu (zY (some 1) (zD b3) x67 H31) fun H32=>lC true H32 fun H33=>C H33:=by
         intro H' v1 v2 C l6 hk
         rw[zj]
         intro H27 e27
         obtain⟨q1,w1,ew1⟩:=((l6.abg (i:=2) rfl) _ (eH ..)).len
         obtain⟨q2,w2,ew2⟩:=((l6.abg (i:=2) rfl) _ (dH _ (eH ..))).len
         simp only at ew1 ew2
         subst ew1
         subst ew2
         refine(l6.ext e27).HU ahA (i:=1) (j:=2) (by decide) (x:=iN (rI l x,_,_)) rfl rfl adG (by omega) (by omega) rfl rfl Bi (by rw[bR];omega) fun s' H30 XU=>?_
         have XU:=XU.takeN 2
         rw[zj]
         intro H31 e31
         obtain⟨q3,w3,ew3⟩:=(XU.nsv (i:=1) rfl).len
         have lT:=(XU.nsv (i:=1) rfl).one
         refine(XU.ext e31).st (i:=0) (j:=0) (v:=s') rfl (by exact(by decide:0<3)) lT.2 lT.1 fun H32 l32=>?_
         rw[zj]
         intro H33 e33
         refine hk H33 s' ?_
         rw[cU]
         exact l32.ext e33
       refine⟨?_,?_,trivial⟩
       · rw[lO.ld (i:=0) rfl,s0,za,zj]
         intro H25 I9
         refine RR (af0.ext I9) ((acZ.ext I9).sub x kL) Gh (tW.ok x kL) (Gr exv) fun H26 v1 v2 e26 n26=>?_
         refine fin ((lO.ext I9).new e26 n26) ?_
         exact fun oZ RM l'=>⟨RM,_,rfl,l'⟩
       · rw[zj]
         intro H25 I9
         refine RR (af0.ext I9) ((acZ.ext I9).sub x kL) Gh (tW.ok x kL) (Gr exv) fun H26 v1 v2 e26 n26=>?_
         have l26:=(lO.ext I9).new e26 n26
         rw[l26.ld (i:=0) rfl,s0,za]
         refine fin l26 ?_
         exact fun oZ RM l'=>⟨RM,_,rfl,l'⟩
   · have ei:i=wJ.length:=by omega
     subst ei
     rw[jk]at AB lO
     have ivs:=lO.nsv (i:=1) rfl
     obtain⟨q3,w3,ew3⟩:=ivs.len
     have lf:=l5.new lO.iZ (lO.nY (i:=1) rfl)
     rw[lO.je (i:=0) (n:=3) rfl rfl,za]
     refine lf.ret (i:=1) (K:=fun x H4=>R (.tuple #[x,.slice none 0 0]) H4) rfl rfl rfl (by rw[ew3];exact BN) fun H' l'=>?_
     have:=k H' iv es fs l'.iZ re hs (by rw[AB,Ww.kU,re.kU]) (l'.nY (i:=2) rfl)
     rw[re.ahV,<- Ww.ahV,re.af1,<- Ww.af1]at this
     exact this
end
section
variable{P:Program}{T:TypeId}{a b x y:Array Value}{lit:Bool}{H:Hp}
theorem IS{d:Nat}{f:Field}{n:Nat}{k:IntKind}(hn:f.name ≠ "_")(hr:pN P f.type n k)(hk:r5 P f.type=some (some n))(ea:a.extract f.offset (f.offset+n)=x)(eb:b.extract f.offset (f.offset+n)=y)(hsx:x.size=n)(hsy:y.size=n)(hx:∀ i,i<n->∃ z,x[i]?=some (.int k z))(hy:∀ i,i<n->∃ z,y[i]?=some (.int k z)):AX P (d+2) a b f=some (decide (x=y)):=by
 unfold AX;rw[aH hn];simp only[hk,Yl,ea,eb,jG];rw[Nb hr hx hy d,iH];refine ZO ⟨fun h=>?_,fun h i _=>by rw[h]⟩;apply jm;intro i;by_cases hi:i<n
 ·exact h i (ki.2 hi)
 ·rw[iQ (by omega),iQ (by omega)]
end
theorem ag7:TP.underlying 149=some (.struct (KS 149)):=by kernel_rfl
theorem ac4:(KS 149).toList=[yk 149 0,yk 149 1]:=by kernel_rfl
theorem ac3:(yk 149 0).name = "Index" := by kernel_rfl
theorem ac2:(yk 149 1).name = "Data" := by kernel_rfl
theorem Sl:(yk 149 0).offset=0:=by kernel_rfl
theorem Sk:(yk 149 1).offset=1:=by kernel_rfl
theorem ac1:TP.underlying (yk 149 0).type=some (.int .i64):=by kernel_rfl
theorem Sj:(yk 149 1).type=65:=by kernel_rfl
theorem ag9:TP.eqGuardType TP.depth 149=false:=by kernel_rfl
theorem ag8:TP.stoodInHeld 149=false:=by kernel_rfl
theorem alW:r5 TP 65=some (some 1024):=by kernel_rfl
theorem adx{x y:Int × jn}(hx:jR x.2)(hy:jR y.2){lit:Bool}{H:Hp}:CZ TP 149 lit (.agg (zy x)) (.agg (zy y)) H=some (decide (x=y)):=by
 rw[vB ag7 ac4 ag9 ag8];have h0:AX TP 9999 (zy x) (zy y) (yk 149 0)=some (decide (x.1=y.1)):=YW (d:=9998) (by rw[ac3];decide) ac1 (by rw[Sl];exact yg x) (by rw[Sl];exact yg y);have h1:AX TP 9999 (zy x) (zy y) (yk 149 1)=some (decide (x.2=y.2)):=IS (d:=9997) (by rw[ac2];decide) (by rw[Sj];exact HE) (by rw[Sj];exact alW) (by rw[Sk];exact Ym hx) (by rw[Sk];exact Ym hy) hx.size hy.size (fun i hi=>⟨_,hx.get hi⟩) (fun i hi=>⟨_,hy.get hi⟩);obtain⟨x1,x2⟩:=x;obtain⟨y1,y2⟩:=y;simp only at h0 h1;unfold Y5;rw[h0];by_cases e1:x1=y1
 ·rw[gU e1];unfold Y5;rw[h1];by_cases e2:x2=y2
  ·simp[e1,e2,Y5]
  ·simp[e1,e2]
 ·simp[e1]
theorem xD{α:Type}{a b:List α}(hl:a.length=b.length){i:Nat}{x y:α}(hx:a[i]?=some x)(hy:b[i]?=some y)(h:a.take i=b.take i):(a.take (i+1)=b.take (i+1)↔x=y):=by
 have h1:i<a.length:=by
  rcases jx i a.length with h1 | h1
  ·exact h1
  ·rw[eR h1]at hx;cases hx
 have h2:i<b.length:=by omega
 rw[fU h1,fU h2,h];rw[bU h1]at hx;rw[bU h2]at hy;injection hx with hx;injection hy with hy;rw[hx,hy];exact⟨fun e=>by simpa using e,fun e=>by rw[e]⟩
section
variable{H:Hp}{R:Value->Hp->Prop}
theorem QP{v w:Value}{a b:List (Int × jn)}(hv:Sr 1025 H v (a.map zy))(hw:Sr 1025 H w (b.map zy))(ha:∀ x∈a,jR x.2)(hb:∀ x∈b,jR x.2)(hla:a.length<281474976710656)(Wp:b.length<281474976710656)(k:R (.bool (decide (a=b))) H):Fc TP 164 #[v,w] H R:=by
 refine fn164 ?_;simp only[sh164,UL,Ub,Ui,Ug,Uo,Uv,U1,U0,zm];rw[hv.j9 yw,za,bR,hw.j9 yw,za,bR,zn,za,zb];have fin:∀ {c:Bool},(c=true↔a=b)->R (.bool c) H:=fun {c} hc=>by
  rw[show decide (a=b)=c from by rw[jL,iS,hc]]at k;exact k
 refine⟨fun jZ=>fin ⟨fun e=>(by cases e),fun e=>(by rw[e]at jZ;exact absurd rfl jZ)⟩,fun hl=>?_⟩;have hl:a.length=b.length:=by omega
 refine zF.mk (fun t H'=>H'=H/\∃ i:Nat,i<=a.length/\t=(zg i,())/\a.take i=b.take i) (fun t _=>mi t.1 fun i=>(a.length - i).toNat) ⟨rfl,0,by omega,rfl,rfl⟩ ?_;rintro _ H3 ⟨rfl,i,hi,rfl,hs⟩;rw[za,zk,za,zb];refine⟨fun kc=>?_,fun lA=>?_⟩
 ·have h1:i<a.length:=by omega
  have h2:i<b.length:=by omega
  have g1:a[i]?=some a[i]:=bU h1;have g2:b[i]?=some b[i]:=bU h2;have m1:=ha _ (ju h1);have m2:=hb _ (ju h2);generalize a[i]=x at g1 m1;generalize b[i]=y at g2 m2;have kH:=xD hl g1 g2 hs;obtain⟨b1,o1,wH,KJ⟩:=hv.row (i:=i) (v:=zy x) (by rw[dR,g1];rfl);obtain⟨b2,o2,uM,wF⟩:=hw.row (i:=i) (v:=zy y) (by rw[dR,g2];rfl);rw[wH,za,KJ,za,uM,za,wF,za,Yy,adx m1 m2,iR,za,Zm];refine⟨fun e=>fin ⟨fun e=>(by cases e),fun e2=>?_⟩,fun e=>?_⟩
  ·rw[jq]at e;exact absurd (kH.1 (by rw[e2])) e
  ·rw[iS]at e;rw[ze,za,zE,zr (by omega)];exact⟨⟨rfl,i+1,by omega,rfl,kH.2 e⟩,by simp only[zu];omega⟩
 ·have ei:i=a.length:=by omega
  subst ei;refine fin ⟨fun _=>?_,fun _=>rfl⟩;rw[jk,hl,jk]at hs;exact hs
theorem QQ{v w:Value}{a b:List A1}(hv:Sr 2 H v (a.map yh))(hw:Sr 2 H w (b.map yh))(hla:a.length<281474976710656)(Wp:b.length<281474976710656)(k:R (.bool (decide (a=b))) H):Fc TP 165 #[v,w] H R:=by
 refine fn165 ?_;simp only[sh165,UL,Ub,Ui,Ug,Uo,Uv,U1,U0,zm];rw[hv.j9 tH,za,bR,hw.j9 tH,za,bR,zn,za,zb];have fin:∀ {c:Bool},(c=true↔a=b)->R (.bool c) H:=fun {c} hc=>by
  rw[show decide (a=b)=c from by rw[jL,iS,hc]]at k;exact k
 refine⟨fun jZ=>fin ⟨fun e=>(by cases e),fun e=>(by rw[e]at jZ;exact absurd rfl jZ)⟩,fun hl=>?_⟩;have hl:a.length=b.length:=by omega
 refine zF.mk (fun t H'=>H'=H/\∃ i:Nat,i<=a.length/\t=(zg i,())/\a.take i=b.take i) (fun t _=>mi t.1 fun i=>(a.length - i).toNat) ⟨rfl,0,by omega,rfl,rfl⟩ ?_;rintro _ H3 ⟨rfl,i,hi,rfl,hs⟩;rw[za,zk,za,zb];refine⟨fun kc=>?_,fun lA=>?_⟩
 ·have h1:i<a.length:=by omega
  have h2:i<b.length:=by omega
  have g1:a[i]?=some a[i]:=bU h1;have g2:b[i]?=some b[i]:=bU h2;generalize a[i]=x at g1;generalize b[i]=y at g2;have kH:=xD hl g1 g2 hs;obtain⟨b1,o1,wH,KJ⟩:=hv.row (i:=i) (v:=yh x) (by rw[dR,g1];rfl);obtain⟨b2,o2,uM,wF⟩:=hw.row (i:=i) (v:=yh y) (by rw[dR,g2];rfl);rw[wH,za,KJ,za,uM,za,wF,za,Yy,aan,iR,za,Zm];refine⟨fun e=>fin ⟨fun e=>(by cases e),fun e2=>?_⟩,fun e=>?_⟩
  ·rw[jq]at e;exact absurd (kH.1 (by rw[e2])) e
  ·rw[iS]at e;rw[ze,za,zE,zr (by omega)];exact⟨⟨rfl,i+1,by omega,rfl,kH.2 e⟩,by simp only[zu];omega⟩
 ·have ei:i=a.length:=by omega
  subst ei;refine fin ⟨fun _=>?_,fun _=>rfl⟩;rw[jk,hl,jk]at hs;exact hs
theorem QO{t u:nL}{d1 s1 d2 s2:Value}(PN:Sr 1025 H d1 (t.data.map zy))(X1:Sr 2 H s1 (t.kA.map yh))(AW:Sr 1025 H d2 (u.data.map zy))(sH:Sr 2 H s2 (u.kA.map yh))(ht:yv t)(hu:yv u)(k:∀ H',Ext H H'->R (.bool (decide (t=u))) H'):Fc TP 120 #[.agg (qe t d1 s1),.agg (qe u d2 s2)] H R:=by
 have g0:∀ {t:nL} {d s:Value},(qe t d s)[0]?=some (zg t.lh):=rfl;have g1:∀ {t:nL} {d s:Value},(qe t d s)[1]?=some (.int .u16 t.kind):=rfl;have g2:∀ {t:nL} {d s:Value},(qe t d s)[2]?=some (zg t.uJ):=rfl;have g3:∀ {t:nL} {d s:Value},(qe t d s)[3]?=some (zg t.size):=rfl;have g4:∀ {t:nL} {d s:Value},(qe t d s)[4]?=some (zg t.blocks):=rfl;have g5:∀ {t:nL} {d s:Value},(qe t d s)[5]?=some d:=rfl;have g6:∀ {t:nL} {d s:Value},(qe t d s)[6]?=some s:=rfl;refine fn120 ?_;simp only[sh120,Ul,UA,Ub,Uf,U0];refine(Lo.start _ H:Lx H H []).jc fun b1 H1 _ l1=>?_;refine l1.jc fun b2 H2 _ l2=>?_;have l2:Lx H H2 [.box b1 (qe t d1 s1) 142,.box b2 (qe u d2 s2) 142]:=l2;have fin:∀ {H'} {c:Bool},Ext H H'->(c=true↔t=u)->R (.bool c) H':=fun {H' c} e hc=>by
  have:=k H' e;rw[show decide (t=u)=c from by rw[jL,iS,hc]]at this;exact this
 have no:∀ {H'},Ext H H'->t≠u->R (.bool false) H':=fun e h=>fin e ⟨fun e=>(by cases e),fun e=>absurd e h⟩;simp only[zc,aR,bH,za];rw[l2.ld (i:=0) rfl,g0,za,l2.ld (i:=1) rfl,g0,za,zp,za,zb];refine⟨fun e0=>?_,fun e=>no l2.iZ fun h=>e (by rw[h])⟩;rw[l2.ld (i:=0) rfl,g1,za,l2.ld (i:=1) rfl,g1,za,zp,za,zb];refine⟨fun e1=>?_,fun e=>no l2.iZ fun h=>e (by rw[h])⟩;rw[l2.ld (i:=0) rfl,g2,za,l2.ld (i:=1) rfl,g2,za,zp,za,zb];refine⟨fun e2=>?_,fun e=>no l2.iZ fun h=>e (by rw[h])⟩;rw[l2.ld (i:=0) rfl,g3,za,l2.ld (i:=1) rfl,g3,za,zp,za,zb];refine⟨fun e3=>?_,fun e=>no l2.iZ fun h=>e (by rw[h])⟩;rw[l2.ld (i:=0) rfl,g4,za,l2.ld (i:=1) rfl,g4,za,zp,za,zb];refine⟨fun e4=>?_,fun e=>no l2.iZ fun h=>e (by rw[h])⟩;rw[l2.ld (i:=0) rfl,g5,za,l2.ld (i:=1) rfl,g5,za];refine QP (PN.ext l2.iZ) (AW.ext l2.iZ) (fun x hx=>(ht.data x hx).2) (fun x hx=>(hu.data x hx).2) ht.adJ hu.adJ ?_;rw[zb];refine⟨fun e5=>?_,fun e=>no l2.iZ fun h=>e (by rw[h])⟩;rw[l2.ld (i:=0) rfl,g6,za,l2.ld (i:=1) rfl,g6,za];refine QQ (X1.ext l2.iZ) (sH.ext l2.iZ) ht.abl hu.abl ?_;refine fin l2.iZ ?_;rw[iS];refine⟨fun e6=>?_,fun h=>by rw[h]⟩;obtain⟨a0,a1,a2,a3,a4,a5,a6⟩:=t;obtain⟨c0,c1,c2,c3,c4,c5,c6⟩:=u;simp only at e0 e1 e2 e3 e4 e5 e6;have e1:a1=c1:=by omega
 subst e0 e1 e2 e3 e4 e5 e6;rfl
theorem abq{iv jv:Value}{is js:List nL}{f s f' s':Int}(hi:Am H iv is)(hj:Am H jv js)(hio:∀ t∈is,yv t)(hjo:∀ t∈js,yv t)(hli:is.length<281474976710656)(JJ:js.length<281474976710656)(k:∀ H',Ext H H'->R (.bool (decide (f=f'/\s=s'/\is=js))) H'):Fc TP 75 #[.agg (vU iv f s),.agg (vU jv f' s')] H R:=by
 have g0:∀ {iv:Value} {f s:Int},(vU iv f s)[0]?=some iv:=rfl;have g1:∀ {iv:Value} {f s:Int},(vU iv f s)[1]?=some (zg f):=rfl;have g2:∀ {iv:Value} {f s:Int},(vU iv f s)[2]?=some (zg s):=rfl;have FD:TP.underlying 24=some (.slice 142):=by kernel_rfl
 obtain⟨cs,i1,i2,i3⟩:=hi;obtain⟨ds,j1,j2,j3⟩:=hj;refine fn75 ?_;simp only[sh75,Ul,UL,UA,Ub,Uf,Ui,Ug,Uu,Uj,Uo,Uv,U1,U0,zm];refine(Lo.start _ H:Lx H H []).jc fun b1 H1 _ l1=>?_;refine l1.jc fun b2 H2 _ l2=>?_;have l2:Lx H H2 [.box b1 (vU iv f s) 26,.box b2 (vU jv f' s') 26]:=l2;have fin:∀ {H'} {c:Bool},Ext H H'->(c=true↔f=f'/\s=s'/\is=js)->R (.bool c) H':=fun {H' c} e hc=>by
  have:=k H' e;rw[show decide (f=f'/\s=s'/\is=js)=c from by rw[jL,iS,hc]]at this;exact this
 simp only[zc,aR,bH,za];refine Zg.mk (fun t H'=>H'=H2/\t.1=.bool (decide (¬ (f=f'/\s=s'/\is.length=js.length)))) ?_ ?_
 ·rintro⟨t,u⟩ H3 ⟨rfl,ht⟩;simp only at ht;subst ht;rw[zb];refine⟨fun hb=>fin l2.iZ ⟨fun e=>(by cases e),fun e=>absurd ⟨e.1,e.2.1,by rw[e.2.2]⟩ hb⟩,fun hb=>?_⟩;obtain⟨hf,hs,hl⟩:=jh.1 hb;refine zF.mk (fun t H'=>∃ i:Nat,i<=is.length/\t=(zg i,())/\is.take i=js.take i/\Lx H H' [.box b1 (vU iv f s) 26,.box b2 (vU jv f' s') 26]) (fun t _=>mi t.1 fun i=>(is.length - i).toNat) ⟨0,by omega,rfl,rfl,l2⟩ ?_;rintro _ H4 ⟨i,hi,rfl,kH,l4⟩;rw[l4.ld (i:=0) rfl,g0,za,i1.j9 FD,za,i2,zk,za,zb];refine⟨fun kc=>?_,fun lA=>?_⟩
  ·have q1:i<is.length:=by omega
   have q2:i<js.length:=by omega
   have e1:is[i]?=some is[i]:=bU q1;have e2:js[i]?=some js[i]:=bU q2;have m1:=hio _ (ju q1);have m2:=hjo _ (ju q2);generalize is[i]=x at e1 m1;generalize js[i]=y at e2 m2;have hss:=xD hl e1 e2 kH;obtain⟨d1,s1,r1,r2,r3⟩:=i3 i x e1;obtain⟨d2,s2,t1,t2,t3⟩:=j3 i y e2;obtain⟨b3,o3,Gn,hr3⟩:=(i1.ext l4.iZ).row r1;obtain⟨b4,o4,PO,hr4⟩:=(j1.ext l4.iZ).row t1;rw[za,Gn,za,hr3,za,l4.ld (i:=1) rfl,g0,za,PO,za,hr4,za];refine QO (r2.ext l4.iZ) (r3.ext l4.iZ) (t2.ext l4.iZ) (t3.ext l4.iZ) m1 m2 fun H5 e5=>?_;rw[zx,za,Zm];refine⟨fun e=>?_,fun e=>?_⟩
   ·rw[jq]at e;exact fin (l4.iZ.trans e5) ⟨fun e=>(by cases e),fun h=>absurd (hss.1 (by rw[h.2.2])) e⟩
   ·rw[iS]at e;rw[ze,za,zE,zr (by omega)];exact⟨⟨i+1,by omega,rfl,hss.2 e,l4.ext e5⟩,by simp only[zu];omega⟩
  ·have ei:i=is.length:=by omega
   subst ei;rw[jk,hl,jk]at kH;exact fin l4.iZ ⟨fun _=>⟨hf,hs,kH⟩,fun _=>rfl⟩
 ·rw[l2.ld (i:=0) rfl,g1,za,l2.ld (i:=1) rfl,g1,za,zn,za,zb];refine⟨fun e=>⟨rfl,yB fun h=>e h.1⟩,fun e=>?_⟩;have e:=jh.1 e;rw[l2.ld (i:=0) rfl,g2,za,l2.ld (i:=1) rfl,g2,za,zn,za,zb];refine⟨fun e=>⟨rfl,yB fun h=>e h.2.1⟩,fun e'=>?_⟩;have e':=jh.1 e';rw[l2.ld (i:=0) rfl,g0,za,i1.j9 FD,za,l2.ld (i:=1) rfl,g0,za,j1.j9 FD,za,i2,j2,zn,za];refine⟨rfl,YF ⟨fun h h2=>h (by rw[h2.2.2]),fun h h2=>h ⟨e,e',by omega⟩⟩⟩
end
theorem Ge:∀ (L:List jn) (k:Nat) (x:Int × jn),x∈Y3 k L->(k:Int)<=x.1
 | [],_,_,h=>by cases h
 | c :: l,k,x,h=>by
  rw[Ye]at h;split at h
  ·have:=Ge l (k+1) x h;omega
  ·rcases jg.1 h with e | e
   ·rw[e];show(k:Int)<=k;omega
   ·have:=Ge l (k+1) x e;omega
theorem wD:∀ (L:List jn) (k:Nat),(∀ c∈L,jR c)->∀ x∈Y3 k L,jR x.2
 | [],_,_,_,h=>by cases h
 | c :: l,k,hL,x,h=>by
  rw[Ye]at h;split at h
  ·exact wD l (k+1) (fun z hz=>hL z (dH _ hz)) x h
  ·rcases jg.1 h with e | e
   ·rw[e];exact hL c (eH ..)
   ·exact wD l (k+1) (fun z hz=>hL z (dH _ hz)) x e
theorem wB{n:Int}:∀ (L:List jn) (k:Nat) (b:Int),(∀ c∈L,jR c)->b<k->(k:Int)+L.length<=n->HN n b (Y3 k L)
 | [],_,_,_,_,_=>trivial
 | c :: l,k,b,hL,hb,hn=>by
  have hn':((k+1:Nat):Int)+l.length<=n:=by simp only[gR]at hn;omega
  have hL':∀ z∈l,jR z:=fun z hz=>hL z (dH _ hz);rw[Ye];split
  ·exact wB l (k+1) b hL' (by omega) hn'
  ·rename_i hc;exact⟨hb,by show(k:Int)<n;omega,hc,hL c (eH ..),wB l (k+1) k hL' (by omega) hn'⟩
theorem vm(x:Int × jn)(l:List (Int × jn))(a:Int):z9 (x :: l) a=if x.1=a then x.2 else z9 l a:=by
 unfold z9;by_cases h:x.1=a
 ·rw[jT (by simpa using h),aU h];rfl
 ·rw[j8 (by simpa using h),aH h]
theorem xJ{l:List (Int × jn)}{a:Int}(h:∀ x∈l,x.1≠a):z9 l a=zB:=by
 unfold z9;rw[j0.2 fun x hx=>by simpa using h x hx];rfl
theorem rK:∀ (L:List jn) (k j:Nat) (c:jn),L[j]?=some c->z9 (Y3 k L) ((k+j:Nat):Int)=c
 | [],_,_,_,h=>by simp at h
 | z :: l,k,0,c,h=>by
  injection h with h;subst h;rw[Ye];split
  ·rename_i hz;rw[xJ fun x hx=>by have:=Ge l (k+1) x hx;omega,hz]
  ·rw[vm,aU (by show(k:Int)=((k+0:Nat):Int);omega)]
 | z :: l,k,j+1,c,h=>by
  have ih:=rK l (k+1) j c h;rw[show k+1+j=k+(j+1) by omega]at ih;rw[Ye];split
  ·exact ih
  ·rw[vm,aH (by show ¬ (k:Int)=((k+(j+1):Nat):Int);omega)];exact ih
theorem Tc{f:kM}{n:Nat}{y:Jz}(h:y∈vG f n) : -1<=y.1/\y.1<=n:=by
 unfold vG at h;obtain⟨i,hi,e⟩:=List.mem_filterMap.1 h;rw[ki]at hi;split at e
 ·cases e
 ·injection e with e;rw[<- e];show -1<=(i:Int)/\(i:Int)<=n;omega
theorem FZ{n:Nat}{y:Jz}(h:y∈pe n):y.1 = -1:=by
 unfold pe at h;split at h
 ·cases h
 ·rw[eU.1 h]
theorem L0{B L I:Int}{l:List (Int × jn)}{a:Nat}{first:Int}{y:Jz}(h:y∈JF B L I l a first):first<=y.1/\y.1<=first+256:=by
 unfold JF at h;split at h
 ·unfold rj at h;obtain⟨i,hi,e⟩:=List.mem_filterMap.1 h;rw[ki]at hi;split at e
  ·cases e
  ·injection e with e;rw[<- e];show first<=first+(i:Int)/\first+(i:Int)<=first+256;omega
 ·cases h
theorem JZ{B L I:Int}{l:List (Int × jn)}{f:kM}{y:Jz}(h:y∈YG B L I l f) : -1<=y.1/\y.1<=70000:=by
 unfold YG at h;simp only[fH]at h;rcases h with (((h | h) | h) | h) | h
 ·have:=Tc h;omega
 ·have:=FZ h;omega
 ·have:=L0 h;omega
 ·have:=FZ h;omega
 ·split at h
  ·unfold Df at h;obtain⟨i,hi,h⟩:=List.mem_flatMap.1 h;rw[ki]at hi;rcases fH.1 h with h | h
   ·have:=FZ h;omega
   ·have:=L0 h;omega
  ·cases h
theorem Mx(c:Array Value):∀ f i,HQ c f i<=i+f
 | 0,i=>iU _
 | f+1,i=>by
  unfold HQ;split
  ·omega
  ·have:=Mx c f (i+1);omega
theorem J5(c:Array Value):(oG c).2.size<=14:=by
 unfold oG;split
 ·show(Eb c (HQ c 14 0)).size<=14;rw[ue];have:=Mx c 14 0;omega
 ·exact mT _
theorem acj{B L I:Int}{l:List (Int × jn)}{n:Nat}{fs:List Fl}(sY:∀ x∈l,jR x.2)(hn:n<=65535)(hf:lN B L I l n fs):∀ t∈fs.map (rI l),yv t:=by
 intro t ht;obtain⟨x,hx,rfl⟩:=iT.1 ht;have hm:=hf.mem hx;obtain⟨e1,e2⟩:=hf.is x hx;have kD:lE x.f:=by rw[e1];exact Gc sY _
 have h0:=kD 0 (by omega);have h1:=kD 1 (by omega);have h2:=kD 2 (by omega);have h3:=kD 3 (by omega);simp only[fw,Nat.reduceLT,jD,jO,Nat.reducePow,uD]at h0 h1 h2 h3;have oI:x.sp.length<=66100:=by rw[e2];exact BO _ _ _ _ _
 refine⟨?_,h0,?_,?_,?_,?_,?_,fun y hy=>?_,fun e he=>?_⟩
 ·show -9223372036854775808<=(x.i:Int)/\(x.i:Int)<=9223372036854775807;omega
 ·show -9223372036854775808<=(x.f 1:Int)/\(x.f 1:Int)<=9223372036854775807;omega
 ·show -9223372036854775808<=(x.f 2:Int)/\(x.f 2:Int)<=9223372036854775807;omega
 ·show -9223372036854775808<=(x.f 3:Int)/\(x.f 3:Int)<=9223372036854775807;omega
 ·unfold rI;simp only;split
  ·simp
  ·have:=Fb l x x.sp.length;omega
 ·unfold rI;simp only;split
  ·rw[rq];omega
  ·simp
 ·unfold rI at hy;simp only at hy;split at hy
  ·cases hy
  ·unfold wT at hy;obtain⟨z,hz,rfl⟩:=iT.1 hy;have hz:=List.mem_of_mem_take (GP.1 hz).1;rw[e2]at hz;have:=JZ hz;exact⟨by show -9223372036854775808<=z.1/\z.1<=9223372036854775807;omega,ZS sY _⟩
 ·unfold rI at he;simp only at he;split at he
  ·unfold yd at he;obtain⟨i,_,rfl⟩:=iT.1 he;refine⟨sS (v9 sY x i),?_⟩;have:=J5 (DP l x i);omega
  ·cases he
section
variable{H:Hp}{R:Value->Hp->Prop}
theorem Kx:j9 TP 131 (.slice none 0 0)=some (zg 0):=by kernel_rfl
theorem XX{B L I:Int}{m:Pm}{kU:List nL}{sd:Nat}{dv:Value}(hg:Zy B L I)(hm:Bx m B L I)(mY:∀ t∈kU,yv t)(hb:(m.B:Int)=B)(hr:Sr 1025 H dv ((Y3 0 (ZW m (zK m kU (nE m)) sd)).map zy)):PD H dv B L I (Y3 0 (ZW m (zK m kU (nE m)) sd)):=by
 obtain⟨xP,xO,wI,xQ,vP,vO,gD⟩:=id hg;obtain⟨h0,h1,h2,h3⟩:=Ct hm hg mY sd;refine⟨hr,wB _ 0 (-1) h3 (by omega) (by omega),wD _ 0 h3,?_,hg,?_,?_⟩
 ·have:=wC (ZW m (zK m kU (nE m)) sd) 0;omega
 ·exact rK _ 0 0 _ h0
 ·exact rK _ 0 1 _ h1
structure JC(B L I:Int)(kU:List nL)(fr sp:Int)(m:Pm)(fs:List Fl):Prop where
 small:B<=4096
 ok:Zy B L I
 mof:Bx m B L I
 room:(zK m kU (nE m)).full=false
 files:lN B L I (Y3 0 (ZW m (zK m kU (nE m)) 0)) I.toNat fs
 sound:Sound B L I (Y3 0 (ZW m (zK m kU (nE m)) 0)) fs
 kU:kU=fs.map (rI (Y3 0 (ZW m (zK m kU (nE m)) 0)))
 free:fr=B - (zf B L I).kb - ((Zf fs).length:Nat)
 spare:sp=I - (fs.length:Nat)
theorem VX{B L I:Int}(hB : -9223372036854775808<=B/\B<=9223372036854775807){iv:Value}{kU:List nL}(kH:Am H iv kU)(mY:∀ t∈kU,yv t)(hlen:kU.length<281474976710656){fr sp:Int}(Ua:∃ b n c,iv=.slice b n c)
   (k0:∀ H',Ext H H'->R (.bool false) H') (k:∀ H' m fs,Ext H H'->JC B L I kU fr sp m fs->R (.bool true) H') :
   Fc TP 27 #[.agg #[zg B,zg L,zg I],.agg (vU iv fr sp)] H R:=by
 have x3:∀ {a b:Value},zq (.tuple #[a,b]) 0=some a:=rfl
 have x4:∀ {a b:Value},zq (.tuple #[a,b]) 1=some b:=rfl
 refine fn27 ?_
 simp only[sh27,Ul,UL,UA,Us,Ub,Uz,Ux,Uf,Ug,Uv,U0,A2,PU,za]
 refine(Lo.start _ H:Lx H H []).jc fun b1 H1 _ l1=>?_
 refine l1.jc fun b2 H2 _ l2=>?_
 have l2:Lx H H2 [.box b1 #[zg B,zg L,zg I] 23,.box b2 (vU iv fr sp) 26]:=l2
 simp only[zc,aR,bH,za]
 rw[l2.ld (i:=0) rfl,show(#[zg B,zg L,zg I]:Array Value)[0]?=some (zg B) from rfl,za,zJ,za,zb]
 refine⟨fun _=>k0 _ l2.iZ,fun mL=>?_⟩
 rw[l2.je (i:=0) (n:=3) rfl rfl,za,l2.je (i:=1) (n:=3) rfl rfl,za]
 refine MO hB (kH.ext l2.iZ) mY hlen (by decide) (fun H3 e3 _=>?_) (fun H3 dv m e3 hg hm CK n3=>?_)
 · refine(l2.ext e3).jc fun b3 H4 _ l4=>?_
   refine l4.jE (i:=2) (n:=2) (vs:=#[zg 0,.slice none 0 0]) rfl rfl rfl (by unfold zv;rw[<- iV];rfl) fun H5 l5=>?_
   rw[zc,za,aR,l5.ld (i:=2) rfl,show(#[zg 0,.slice none 0 0]:Array Value)[0]?=some (zg 0) from rfl,za,zp,za,gU rfl,zA]
   exact k0 _ l5.iZ
 · obtain⟨xP,xO,wI,xQ,vP,vO,gD⟩:=id hg
   have hsd:((0:Int) % 1000003).toNat=0:=rfl
   rw[hsd]at n3
   obtain⟨q,r,edv⟩:=n3.sv.sr.len
   have sY:∀ x∈Y3 0 (ZW m (zK m kU (nE m)) 0),jR x.2:=wD _ 0 (Ct hm hg mY 0).2.2.2
   have im:PD H3 dv B L I (Y3 0 (ZW m (zK m kU (nE m)) 0)):=XX hg hm mY hm.B n3.sv.sr
   have hx:∀ {H'},Sr 1025 H' dv ((Y3 0 (ZW m (zK m kU (nE m)) 0)).map zy)->PD H' dv B L I (Y3 0 (ZW m (zK m kU (nE m)) 0)):=fun hr=>⟨hr,im.whole,im.is,im.len,im.ok,im.sup,im.hd⟩
   have oa:∀ fs,lN B L I (Y3 0 (ZW m (zK m kU (nE m)) 0)) I.toNat fs->Sound B L I (Y3 0 (ZW m (zK m kU (nE m)) 0)) fs->kU=fs.map (rI (Y3 0 (ZW m (zK m kU (nE m)) 0)))->fr=B - (zf B L I).kb - ((Zf fs).length:Nat)->sp=I - (fs.length:Nat)->JC B L I kU fr sp m fs:=fun fs h1 h2 h3 h4 h5=>⟨by omega,hg,hm,CK,h1,h2,h3,h4,h5⟩
   have l3:=l2.new e3 n3
   generalize Y3 0 (ZW m (zK m kU (nE m)) 0)=l at sY im hx oa l3
   have e00:(#[zg B,dv]:Array Value)[0]?=some (zg B):=rfl
   refine l3.jc fun b3 H4 f4 l4=>?_
   refine l4.jE (i:=3) (n:=2) (vs:=#[zg B,dv]) rfl rfl rfl (by rw[edv];unfold zv;rw[<- iV];rfl) fun H5 l5=>?_
   have l5:Lx H H5 [.box b1 #[zg B,zg L,zg I] 23,.box b2 (vU iv fr sp) 26,.sl 149 1025 dv (l.map zy),.box b3 #[zg B,dv] 81]:=l5
   rw[zc,za,aR,l5.ld (i:=3) rfl,e00,za,zp,za,cH (by omega),zh,l5.je (i:=3) (n:=2) rfl rfl,za]
   refine ab2 (hx (l5.sv (i:=2) rfl).sr) (fun H6 s' n fs e6 hn hle _ _=>?_) (fun H6 iv2 es fs e6 re hS AB n6=>?_)
   · rw[x3,za,x4,za]
     refine(l5.ext e6).jc fun b4 H7 _ l7=>?_
     refine l7.jE (i:=4) (n:=3) (vs:=vU (.slice none 0 0) 0 0) rfl rfl rfl BN fun H8 l8=>?_
     rw[hle,za,zp,za,cH (by omega),zh]
     exact k0 _ l8.iZ
   · have l6:=l5.new e6 n6
     obtain⟨q2,r2,eiv⟩:=n6.F5.len
     rw[x3,za,x4,za]
     refine l6.jc fun b4 H7 _ l7=>?_
     refine l7.jE (i:=5) (n:=3) (vs:=vU iv2 (B - (zf B L I).kb - ((Zf fs).length:Nat)) (I - (fs.length:Nat))) rfl rfl rfl (by rw[eiv];exact BN) fun H8 l8=>?_
     rw[Kx,za,zp,za,gU rfl,zA,l8.je (i:=5) (n:=3) rfl rfl,za,l8.je (i:=1) (n:=3) rfl rfl,za]
     have Hr:=afg (l8.nY (i:=4) rfl)
     have uK:=re.len
     rw[AB]at Hr
     refine abq Hr (kH.ext l8.iZ) (acj sY (by omega) re) mY (by rw[bR];omega) hlen fun H9 e9=>?_
     by_cases hc:B - (zf B L I).kb - ((Zf fs).length:Nat)=fr/\I - (fs.length:Nat)=sp/\fs.map (rI l)=kU
     · rw[gU hc]
       exact k H9 m fs (l8.iZ.trans e9) (oa fs re hS hc.2.2.symm hc.1.symm hc.2.1.symm)
     · rw[cH hc]
       exact k0 _ (l8.iZ.trans e9)
end
structure kj where
 n:Int
 held:List (Int × jn)
 wait:List (Int × jn)
 kF:Bool
 left:Int
 dead:Bool
 ops:List (Array Value)
 count:Int
 seen:Int
 jS:Int
 owner:Int
def qB(D:kj)(hv wv ov:Value):Array Value:=#[zg D.n,hv,wv,.bool D.kF,zg D.left,.bool D.dead,ov,zg D.count,zg D.seen,zg D.jS,zg D.owner]
structure AK(D:kj):Prop where
 held:∀ x∈D.held,jR x.2
 wait:∀ x∈D.wait,jR x.2
 hlen:D.held.length<=2000000000
 ow:D.wait.length<1099511627776
 seen:0<=D.seen/\D.seen<4611686018427387904
 jS:0<=D.jS/\D.jS<4611686018427387904
def oz(r:Nat)(D:kj)(hv wv ov:Value):List Ob:=[.box r (qB D hv wv ov) 130,.sl 149 1025 hv (D.held.map zy),.sl 149 1025 wv (D.wait.map zy),.sl 211 1026 ov D.ops]
def Zd(r:Nat)(D:kj):Ob:=
 ⟨fun H O=>∃ hv wv ov,(Ob.all (oz r D hv wv ov)).at_ H O,
  fun⟨_,_,_,h⟩=>Ob.own _ h,fun⟨hv,wv,ov,h⟩ hb hs ho hl=>⟨hv,wv,ov,Ob.frame _ h hb hs ho hl⟩⟩
def kj.load(n:Int)(l:List (Int × jn)):kj:=⟨n,l,[],false,0,false,[],0,0,0,0⟩
theorem kj.V3{n:Int}{l:List (Int × jn)}(h:∀ x∈l,jR x.2)(hl:l.length<=1048576):AK (kj.load n l):=⟨h,fun x hx=>(by cases hx),(by show l.length<=_;omega),(by simp[kj.load]),(by simp[kj.load]),(by simp[kj.load])⟩
theorem TC(n:Int)(b:Option Addr)(k c:Nat):zo TP 130 [(0,zg n),(1,.slice b k c)]=some (.agg (qB (kj.load n []) (.slice b k c) (.slice none 0 0) (.slice none 0 0))):=by kernel_rfl
noncomputable def kj.at_(D:kj)(a:Int):jn:=match D.wait.reverse.find? fun x=>decide (x.1=a) with
 | some x=>x.2
 | none=>z9 D.held a
theorem kj.TR{D:kj}(h:AK D)(a:Int):jR (D.at_ a):=by
 unfold kj.at_;split
 ·rename_i x hx;exact h.wait x (List.mem_reverse.1 (sK hx))
 ·exact ZS h.held a
section
variable{H:Hp}{R:Value->Hp->Prop}{dv:Value}{B L I:Int}{l:List (Int × jn)}
theorem GI{c:jn}(hc:jR c)(k:∀ H',Ext H H'->R (.bool (decide (c=zB))) H'):Fc TP 131 #[.agg c] H R:=by
 refine fn131 ?_;simp only[sh131,Ul,Ub,Uk,Uo,Uv,U1,U0,zm];refine(Lo.start _ H:Lx H H []).jc fun b1 H1 _ l1=>?_;have fin:∀ {b:Bool},(b=true↔c=zB)->R (.bool b) H1:=fun {b} hb=>by
  have:=k H1 l1.iZ;rw[show decide (c=zB)=b from by rw[jL,iS,hb]]at this;exact this
 refine zF.mk (fun t H'=>H'=H1/\∃ i:Nat,i<=1024/\t=(zg i,())/\∀ j,j<i->kv c j=0) (fun t _=>mi t.1 fun i=>(1024 - i).toNat) ⟨rfl,0,by omega,rfl,fun j hj=>by omega⟩ ?_;rintro _ H2 ⟨rfl,i,hi,rfl,hz⟩;rw[zk,za,zb];refine⟨fun kc=>?_,fun lA=>?_⟩
 ·rw[zC (by omega),za,aR,iX,l1.ld (i:=0) rfl,hc.get (by omega),za,zn,za,zb];refine⟨fun jZ=>fin ⟨fun e=>(by cases e),fun e=>?_⟩,fun he=>?_⟩
  ·exfalso;have:kv c i=0:=by rw[e];unfold kv;rw[BD (by omega)];rfl
   omega
  ·rw[ze,za,zE,zr (by omega)];refine⟨⟨rfl,i+1,by omega,rfl,fun j hj=>?_⟩,by simp only[zu];omega⟩;by_cases e:j=i
   ·subst e;omega
   ·exact hz j (by omega)
 ·refine fin ⟨fun _=>hc.ext z6 fun j hj=>?_,fun _=>rfl⟩;rw[hz j (by omega)];unfold kv;rw[BD hj];rfl
theorem afY(hB:1<=B/\B<=1048576)(oq:Sr 1025 H dv (l.map zy))(hl:HN B (-1) l)(hlen:l.length<=1048576)(k:∀ H',Ext H H'->R (.bool true) H'):Fc TP 86 #[.agg #[zg B,dv]] H R:=by
 have d0:(#[zg B,dv]:Array Value)[0]?=some (zg B):=rfl;have d1:(#[zg B,dv]:Array Value)[1]?=some dv:=rfl;refine fn86 ?_;simp only[sh86,Ul,UL,UA,Ub,Uf,Ui,Ug,Uj,Uo,Uv,U1,U0,zm];refine(Lo.start _ H:Lx H H []).jc fun b1 H1 _ l1=>?_;have l1:Lx H H1 [.box b1 #[zg B,dv] 81]:=l1;simp only[zc,aR,bH,za];refine Zg.mk (fun t H'=>H'=H1/\t.1=.bool false) ?_ ?_
 ·rintro⟨t,u⟩ H2 ⟨rfl,ht⟩;simp only at ht;subst ht;rw[zh];refine zF.mk (fun t H'=>∃ (i:Nat) (p:Int),i<=l.length/\t=(zg i,())/\HN B p (l.drop i) /\ -1<=p/\(∀ j,i=j+1->∃ x,l[j]?=some x/\x.1=p)/\Lx H H' [.box b1 #[zg B,dv] 81])
   (fun t _=>mi t.1 fun i=>(l.length - i).toNat) ⟨0,-1,by omega,rfl,hl,by omega,fun j hj=>by omega,l1⟩ ?_
  rintro _ H4 ⟨i,p,hi,rfl,AV,hp1,hpv,l4⟩;have h4:=oq.ext l4.iZ;rw[l4.ld (i:=0) rfl,d1,za,h4.j9 yw,za,bR,zk,za,zb];refine⟨fun kc=>?_,fun lA=>k H4 l4.iZ⟩;have kI:i<l.length:=by omega
  have lP:(l.map zy)[i]?=some (zy l[i]):=by rw[dR,bU kI];rfl
  have wG:l[i]?=some l[i]:=bU kI;have IG:l.drop i=l[i] :: l.drop (i+1):=jF kI;generalize l[i]=x at lP IG wG;rw[IG]at AV;obtain⟨q1,q2,q3,q4,q5⟩:=AV;obtain⟨b,o,ha,lI,kE⟩:=h4.el lP;have c0:=lI 0 (by omega);rw[bH,yg]at c0;rw[za,ha,za,zc,za,bH,c0,za];refine Zg.mk (fun t H'=>t.1=.bool false/\Lx H H' [.box b1 #[zg B,dv] 81]) ?_ ?_
  ·rintro⟨t,u⟩ H7 ⟨ht,l7⟩;simp only at ht;subst ht;rw[zh,ze,za,zE,zr (by omega)];refine⟨⟨i+1,x.1,by omega,rfl,q5,by omega,fun j hj=>⟨x,?_,rfl⟩,l7⟩,by simp only[zu];omega⟩;rw[<- show i=j by omega];exact wG
  ·rw[zk,za,cH (by omega),zh,l4.ld (i:=0) rfl,d0,za,zN,za,cH (by omega),zh,zJ,za,zb];refine⟨fun h0=>?_,fun h0=>?_⟩
   ·obtain⟨j,ej⟩:∃ j:Nat,i=j+1:=⟨i - 1,by omega⟩;obtain⟨z,hz,ez⟩:=hpv j ej;obtain⟨b',o',mq,KM,_⟩:=h4.el (v:=zy z) (i:=j) (by rw[dR,hz];rfl);have c0':=KM 0 (by omega);rw[bH,yg]at c0';rw[za,zP,za,zd (by omega) (by omega),show(i:Int) - 1=(j:Int) by omega,mq,za,zc,za,bH,c0',za,zN,za,cH (by omega),zh,za,ha,za,zc,za,kE 1 1024 (by omega),Ym q4,za];refine GI q4 fun H5 e5=>?_;rw[cH q3];exact⟨rfl,l4.ext e5⟩
   ·rw[za,ha,za,zc,za,kE 1 1024 (by omega),Ym q4,za];refine GI q4 fun H5 e5=>?_;rw[cH q3];exact⟨rfl,l4.ext e5⟩
 ·rw[l1.ld (i:=0) rfl,d0,za,zk,za,cH (by omega),zh,za,zJ,za,cH (by omega)];exact⟨rfl,rfl⟩
theorem Tk(oq:Sr 1025 H dv (l.map zy))(sY:∀ x∈l,jR x.2)(hlen:l.length<=1048576)(k:∀ H' hv,Ext H H'->oh H H' (.sl 149 1025 hv (l.map zy))->R hv H'):Fc TP 87 #[dv] H R:=by
 refine fn87 ?_;simp only[sh87,UL,Ub,Ui,Ug,Uo,Uq,Uv,zm];have l1:=(Lo.start _ H:Lx H H []).nt 149 1025;refine zF.mk (fun t H'=>∃ (i:Nat) (v:Value),i<=l.length/\t=(v,zg i,())/\Lx H H' [.sl 149 1025 v ((l.take i).map zy)])
  (fun t _=>mi t.2.1 fun i=>(l.length - i).toNat) ⟨0,.slice none 0 0,by omega,rfl,l1⟩ ?_
 rintro _ H2 ⟨i,v,hi,rfl,l2⟩;have h2:=oq.ext l2.iZ;rw[h2.j9 yw,za,bR,zk,za,zb];refine⟨fun kc=>?_,fun lA=>?_⟩
 ·have kI:i<l.length:=by omega
  have lP:(l.map zy)[i]?=some (zy l[i]):=by rw[dR,bU kI];rfl
  have mR:l.take (i+1)=l.take i++[l[i]]:=fU kI;have hm:=sY _ (ju kI);generalize l[i]=x at lP mR hm;obtain⟨b,o,ha,hr⟩:=h2.row lP;rw[ha,za,hr,za];refine l2.qY ti pz (i:=0) (c:=zy x) rfl rfl (by omega) (by omega) (zZ hm) (Z8 hm) (by rw[bR,mg];omega) fun s' H3 l3=>?_;rw[ze,za,zE,zr (by omega)];refine⟨⟨i+1,s',by omega,rfl,?_⟩,by simp only[zu];omega⟩;rw[mR,cU];exact l3
 ·have ei:i=l.length:=by omega
  subst ei;rw[jk]at l2;exact k H2 v l2.iZ (l2.nY (i:=0) rfl)
theorem ab4(hB:1<=B/\B<=1048576)(oq:Sr 1025 H dv (l.map zy))(hl:HN B (-1) l)(sY:∀ x∈l,jR x.2)(hlen:l.length<=1048576)(k:∀ H' r,Ext H H'->oh H H' (Zd r (kj.load B l))->R (.tuple #[zD r,zg 0]) H'):Fc TP 32 #[.agg #[zg B,dv]] H R:=by
 have d0:(#[zg B,dv]:Array Value)[0]?=some (zg B):=rfl
 have d1:(#[zg B,dv]:Array Value)[1]?=some dv:=rfl
 refine fn32 ?_
 simp only[sh32,Ul,UL,UA,Uf,Uw,Uu,Uv]
 refine(Lo.start _ H:Lx H H []).jc fun b1 H1 _ l1=>?_
 have l1:Lx H H1 [.box b1 #[zg B,dv] 81]:=l1
 rw[l1.je (i:=0) (n:=2) rfl rfl,za]
 refine afY hB (oq.ext l1.iZ) hl hlen fun H2 e2=>?_
 have l2:=l1.ext e2
 rw[zx,za,iW,zh]
 simp only[zc,aR,bH,za]
 rw[l2.ld (i:=0) rfl,d1,za]
 have fin:∀ {H':Hp} {hv:Value},Lx H H' [.box b1 #[zg B,dv] 81,.sl 149 1025 hv (l.map zy)] ->
     Pu (zo TP 130 [(0,zg B),(1,hv)]) fun TY=>lC true H' fun mX=>kT 130 TY mX fun JE mN=>lC true mN fun tF=>R (.tuple #[JE,zg 0]) tF:=by
   intro H' hv l3
   obtain⟨q,w,e⟩:=(l3.sv (i:=1) rfl).len
   subst e
   rw[TC,za,zj]
   intro mX sA
   refine(l3.ext sA).jc fun r mN _ l4=>?_
   rw[zj]
   intro tF GX
   have l5:=((l4.ext GX).nt 149 1025).nt 211 1026
   have l6:=l5.pick [2,1,3,4] (by decide) (by simp)
   have l7:=Lo.pack (l:=[]) l6
   have n7:=l7.nY (i:=0) rfl
   obtain⟨O,ho,hO⟩:=n7
   exact k tF r l7.iZ ⟨O,⟨_,_,_,ho⟩,hO⟩
 refine⟨?_,?_,trivial⟩
 · rw[l2.ld (i:=0) rfl,d0,za,zj]
   intro H8 e8
   refine Tk (oq.ext (l2.iZ.trans e8)) sY hlen fun H9 hv e9 n9=>?_
   exact fin ((l2.ext e8).new e9 n9)
 · rw[zj]
   intro H8 e8
   refine Tk (oq.ext (l2.iZ.trans e8)) sY hlen fun H9 hv e9 n9=>?_
   have l9:=(l2.ext e8).new e9 n9
   rw[l9.ld (i:=0) rfl,d0,za]
   exact fin l9
end
theorem pF:TP.underlying 39=some (.pointer 130):=by kernel_rfl
section
variable{D:kj}{hv wv ov:Value}
theorem afy:(qB D hv wv ov)[0]?=some (zg D.n):=rfl
theorem ajz:(qB D hv wv ov)[1]?=some hv:=rfl
theorem afw:(qB D hv wv ov)[2]?=some wv:=rfl
theorem abv:(qB D hv wv ov)[5]?=some (.bool D.dead):=rfl
theorem ajy:(qB D hv wv ov)[8]?=some (zg D.seen):=rfl
theorem abu:(qB D hv wv ov)[9]?=some (zg D.jS):=rfl
theorem afx:(qB D hv wv ov)[10]?=some (zg D.owner):=rfl
end
noncomputable def kj.read(D:kj)(a:Int):kj × jn × Int:=
 if D.dead then(D,zB,3) else if a<0\/D.n<=a then(D,zB,2) else({ D with seen:=D.seen+1 },D.at_ a,0)
def kj.kB(D:kj):kj:={ D with jS:=D.jS+1,owner:=D.jS+1 }
section
variable{H:Hp}{R:Value->Hp->Prop}{r:Nat}{D:kj}{O:Nat->Prop}
theorem vZ(h:(Zd r D).at_ H O):∃ hv wv ov,H[r]?=some (.cells (qB D hv wv ov) 130):=by
 obtain⟨hv,wv,ov,ha⟩:=h;exact⟨hv,wv,ov,(Lo.open ha).at (i:=0) rfl⟩
theorem RG(h:(Zd r D).at_ H O)(k:R (zg D.n) H):Fc TP 73 #[zD r] H R:=by
 obtain⟨hv,wv,ov,ht⟩:=vZ h;refine fn73 ?_;simp only[sh73,Ul,UA,UI,Uv];rw[show ya TP 39 true .eql (zD r) (.pointer none) H=some (.bool false) from Z6 pF,za,zh];simp only[zl,zc,aR,bH,za];rw[zi ht,afy,za];exact k
theorem alX{hv:Value}{l:List (Int × jn)}{a:Int}(oq:Sr 1025 H hv (l.map zy))(sY:∀ x∈l,jR x.2)(hlen:l.length<=2000000000)(k:∀ H',Ext H H'->R (.agg (z9 l a)) H'):Fc TP 137 #[hv,zg a] H R:=by
 refine fn137 ?_;simp only[sh137,Ul,UL,UA,Us,Ub,Uz,Ui,Ug,Uo,Uv,ZI,yP,za,zm];refine(Lo.start _ H:Lx H H []).jc fun b2 H2 _ l2=>?_;refine zF.mk (fun t H'=>H'=H2/\∃ i:Nat,i<=l.length/\t=(zg i,())/\∀ x∈l.take i,x.1≠a) (fun t _=>mi t.1 fun i=>(l.length - i).toNat) ⟨rfl,0,by omega,rfl,by simp⟩ ?_;rintro _ H3 ⟨rfl,i,hi,rfl,kG⟩;have h3:=oq.ext l2.iZ;rw[h3.j9 yw,za,bR,zk,za,zb];refine⟨fun kc=>?_,fun lA=>?_⟩
 ·have kI:i<l.length:=by omega
  have lP:(l.map zy)[i]?=some (zy l[i]):=by rw[dR,bU kI];rfl
  have uL:l[i]∈l:=ju kI;have AV:l.drop i=l[i] :: l.drop (i+1):=jF kI;have mR:l.take (i+1)=l.take i++[l[i]]:=fU kI;generalize l[i]=x at lP uL AV mR;obtain⟨b,o,ha,lI,kE⟩:=h3.el lP;rw[ha,za,zc,za,lI 0 (by omega),yg,za,zp,za,zb];refine⟨fun he=>?_,fun jZ=>?_⟩
  ·rw[za,zc,za,kE 1 1024 (by omega),za,Ym (sY x uL)];have e:z9 l a=x.2:=by
    unfold z9;rw[show l=l.take i++l.drop i from(nf i l).symm,jH,j0.2 (fun y hy=>by simpa using kG y hy),AV,jT (by simpa using he)];rfl
   refine l2.ret (i:=0) rfl zw (sY x uL).size (sY x uL).ok fun H' l'=>?_;rw[<- e];exact k H' l'.iZ
  ·rw[ze,za,zE,zr (by omega)];refine⟨⟨rfl,i+1,by omega,rfl,fun y hy=>?_⟩,by simp only[zu];omega⟩;rw[mR]at hy;rcases fH.1 hy with h1 | h1
   ·exact kG y h1
   ·rw[eU.1 h1];exact jZ
 ·have ei:i=l.length:=by omega
  subst ei;rw[jk]at kG;refine l2.ret (i:=0) rfl zw zw z6.ok fun H' l'=>?_;rw[<- xJ kG];exact k H' l'.iZ
theorem QY(h:(Zd r D).at_ H O)(kD:AK D){a:Int}(k:∀ H' O',kS O O' H H'->(Zd r (D.read a).1).at_ H' O'->R (.tuple #[.agg (D.read a).2.1,zg (D.read a).2.2]) H'):Fc TP 91 #[zD r,zg a] H R:=by
 obtain⟨hv,wv,ov,mc⟩:=h;have hs:=kD.seen;have hw:=kD.ow;have l0:Lo O H H (oz r D hv wv ov):=Lo.open mc;refine fn91 ?_;simp only[sh91,Ul,UL,UA,Us,Ub,Uz,UI,Uf,Ui,Ug,Uj,Uo,Uv,U1,ZI,yP,za,zm];refine l0.jc fun b2 H1 _ l1=>?_;have l1:Lo O H H1 [.box r (qB D hv wv ov) 130,.sl 149 1025 hv (D.held.map zy),.sl 149 1025 wv (D.wait.map zy),.sl 211 1026 ov D.ops,.box b2 zB 65]:=l1;rw[show ya TP 39 true .eql (zD r) (.pointer none) H1=some (.bool false) from Z6 pF,za,zh];simp only[zl,zc,aR,bH,za];have out:∀ {H':Hp} {D':kj} {c:jn},Lo O H H' [.box r (qB D' hv wv ov) 130,.sl 149 1025 hv (D'.held.map zy),.sl 149 1025 wv (D'.wait.map zy),.sl 211 1026 ov D'.ops,.box b2 c 65]->∃ O',kS O O' H H'/\(Zd r D').at_ H' O':=fun l'=>by
  obtain⟨O',st,ha⟩:=Lo.close (l:=[_,_,_,_]) (r:=[_]) l';exact⟨O',st,⟨_,_,_,ha⟩⟩
 rw[l1.ld (i:=0) rfl,abv,za,Zj];refine⟨fun hd=>?_,fun hd=>?_⟩
 ·have e:D.read a=(D,zB,3):=by unfold kj.read;rw[aU hd]
  rw[e]at k;refine l1.ret (i:=4) rfl zw zw z6.ok fun H' l'=>?_;obtain⟨O',st,ha⟩:=out (D':=D) l';exact k H' O' st ha
 ·refine Zg.mk (fun t H'=>H'=H1/\t.1=.bool (decide (a<0\/D.n<=a))) ?_ ?_
  ·rintro⟨t,u⟩ H2 ⟨rfl,ht⟩;simp only at ht;subst ht;rw[zb];refine⟨fun hb=>?_,fun hb=>?_⟩
   ·have e:D.read a=(D,zB,2):=by unfold kj.read;rw[aH (by simp[hd]),aU hb]
    rw[e]at k;refine l1.ret (i:=4) rfl zw zw z6.ok fun H' l'=>?_;obtain⟨O',st,ha⟩:=out (D':=D) l';exact k H' O' st ha
   ·have e:D.read a=({ D with seen:=D.seen+1 },D.at_ a,0):=by unfold kj.read;rw[aH (by simp[hd]),aH hb]
    rw[e]at k;rw[l1.ld (i:=0) rfl,ajy,za,ze,za,zd (by omega) (by omega)];refine l1.st (i:=0) (j:=8) (v:=zg (D.seen+1)) rfl (by exact(by decide:8<11)) rfl rfl fun H3 l3=>?_;have l3:Lo O H H3 [.box r (qB { D with seen:=D.seen+1 } hv wv ov) 130,.sl 149 1025 hv (D.held.map zy),.sl 149 1025 wv (D.wait.map zy),.sl 211 1026 ov D.ops,.box b2 zB 65]:=l3;have hwl:=(l3.sv (i:=2) rfl).sr;rw[l3.ld (i:=0) rfl,afw,za,hwl.j9 yw,za,bR,zP,za,zd (by omega) (by omega)];refine zF.mk (fun t H'=>H'=H3/\∃ j:Nat,j<=D.wait.length/\t=(zg ((j:Int) - 1),())/\∀ x∈D.wait.drop j,x.1≠a) (fun t _=>mi t.1 fun x=>(x+1).toNat) ⟨rfl,D.wait.length,by omega,rfl,by simp⟩ ?_;rintro _ H4 ⟨rfl,j,hj,rfl,kG⟩;rw[zN,za,zb];refine⟨fun lA=>?_,fun kc=>?_⟩
    ·obtain⟨i,ei⟩:∃ i:Nat,j=i+1:=⟨j - 1,by omega⟩;subst ei;have kI:i<D.wait.length:=by omega
     have lP:(D.wait.map zy)[i]?=some (zy D.wait[i]):=by rw[dR,bU kI];rfl
     have uL:D.wait[i]∈D.wait:=ju kI;have AV:D.wait.drop i=D.wait[i] :: D.wait.drop (i+1):=jF kI;generalize D.wait[i]=x at lP uL AV;have hxb:=kD.wait x uL;obtain⟨b,o,ha,lI,kE⟩:=hwl.el lP;have mq:zG (some (none,1025)) wv (zg (((i+1:Nat):Int) - 1))=some (.pointer (some ⟨b,o,none⟩)):=by rw[show((i+1:Nat):Int) - 1=(i:Int) by omega];exact ha .i64
     rw[l3.ld (i:=0) rfl,afw,za,mq,za,zc,za,lI 0 (by omega),yg,za,zp,za,zb];refine⟨fun he=>?_,fun jZ=>?_⟩
     ·rw[za,mq,za,zc,za,kE 1 1024 (by omega),za,Ym hxb];have ea:D.at_ a=x.2:=by
       unfold kj.at_;have er:D.wait.reverse.find? (fun x=>decide (x.1=a))=some x:=by
        rw[show D.wait=D.wait.take i++D.wait.drop i from(nf i _).symm,AV,List.reverse_append,List.reverse_cons,jP,jH,j0.2 (fun y hy=>by simpa using kG y (List.mem_reverse.1 hy))];rw[List.singleton_append,jT (by simpa using he)];rfl
       rw[er]
      rw[ea]at k;refine l3.ret (i:=4) rfl zw hxb.size hxb.ok fun H' l'=>?_;obtain⟨O',st,ha⟩:=out (D':={ D with seen:=D.seen+1 }) l';exact k H' O' st ha
     ·rw[zP,za,zd (by omega) (by omega)];refine⟨⟨rfl,i,by omega,?_,fun y hy=>?_⟩,by simp only[zu];omega⟩
      ·rw[show(((i+1:Nat):Int) - 1 - 1)=(i:Int) - 1 by omega];rfl
      ·rw[AV]at hy;rcases jg.1 hy with e2 | e2
       ·rw[e2];exact jZ
       ·exact kG y e2
    ·have ej:j=0:=by omega
     subst ej;rw[List.drop_zero]at kG;have ea:D.at_ a=z9 D.held a:=by
      unfold kj.at_;rw[j0.2 fun x hx=>by simpa using kG x (List.mem_reverse.1 hx)]
     rw[ea]at k;have hb:=ZS kD.held a;rw[l3.ld (i:=0) rfl,ajz,za];refine alX (l3.sv (i:=1) rfl).sr kD.held kD.hlen fun H5 e5=>?_;refine(l3.ext e5).ret (i:=4) rfl zw hb.size hb.ok fun H' l'=>?_;obtain⟨O',st,ha⟩:=out (D':={ D with seen:=D.seen+1 }) l';exact k H' O' st ha
  ·rw[zk,za,zb];refine⟨fun h0=>⟨rfl,yB (.inl h0)⟩,fun h0=>?_⟩;rw[l1.ld (i:=0) rfl,afy,za,zN,za];exact⟨rfl,YF ⟨fun e=>.inr e,fun e=>e.resolve_left h0⟩⟩
theorem Nu(h:(Zd r D).at_ H O)(kD:AK D)(hd:D.dead=false)(k:∀ H' O',kS O O' H H'->(Zd r D.kB).at_ H' O'->R (zg (D.jS+1)) H'):Fc TP 89 #[zD r] H R:=by
 obtain⟨hv,wv,ov,mc⟩:=h;have hc:=kD.jS;have l0:Lo O H H [.box r (qB D hv wv ov) 130,.sl 149 1025 hv (D.held.map zy),.sl 149 1025 wv (D.wait.map zy),.sl 211 1026 ov D.ops]:=Lo.open mc;refine fn89 ?_;simp only[sh89,Ul,UA,Us,Ub,UI,Uj,Uv,U1,zm];simp only[zl,zc,aR,bH,za];refine Zg.mk (fun t H'=>H'=H/\t.1=.bool false) ?_ ?_
 ·rintro⟨t,u⟩ H2 ⟨rfl,ht⟩;simp only at ht;subst ht;rw[zh,l0.ld (i:=0) rfl,abu,za,ze,za,zd (by omega) (by omega)];refine l0.st (i:=0) (j:=9) (v:=zg (D.jS+1)) rfl (by exact(by decide:9<11)) rfl rfl fun H3 l3=>?_;have l3:Lo O H2 H3 [.box r (qB { D with jS:=D.jS+1 } hv wv ov) 130,.sl 149 1025 hv (D.held.map zy),.sl 149 1025 wv (D.wait.map zy),.sl 211 1026 ov D.ops]:=l3;rw[l3.ld (i:=0) rfl,abu,za];refine l3.st (i:=0) (j:=10) (v:=zg (D.jS+1)) rfl (by exact(by decide:10<11)) rfl rfl fun H4 l4=>?_;have l4:Lo O H2 H4 [.box r (qB D.kB hv wv ov) 130,.sl 149 1025 hv (D.held.map zy),.sl 149 1025 wv (D.wait.map zy),.sl 211 1026 ov D.ops]:=l4;rw[l4.ld (i:=0) rfl,abu,za];obtain⟨O',st,ha⟩:=Lo.close (l:=[_,_,_,_]) (r:=[]) l4;exact k H4 O' st ⟨_,_,_,ha⟩
 ·rw[show ya TP 39 true .eql (zD r) (.pointer none) H=some (.bool false) from Z6 pF,za,zh,l0.ld (i:=0) rfl,abv,za,hd];exact⟨rfl,rfl⟩
end
theorem Lo.mQ{O:Nat->Prop}{H H':Hp}{x:Ob}{r:List Ob}(l:Lo O H H' (x :: r)):∃ O',kS O O' H H'/\x.at_ H' O':=by
 obtain⟨O',s,ha⟩:=Lo.close (l:=[x]) (r:=r) l;refine⟨O',s,?_⟩;obtain⟨⟨kP,w,hc⟩,hl⟩:=ha;exact Ob.frame _ (w.Rm 0 _ rfl) (fun _ _=>rfl) (iU _) (fun b hb=>hc b (by have hb:kP b=0+1:=hb;omega)) hl
structure mW where
 mine:Int
 made:Bool
 group:List (Int × jn)
 step:Bool
 room:Int
 wrote:List Int
 me:Int
 over:Int
def yx(r:Nat)(x:kh)(G:mW)(gv tv:Value):Array Value:=#[zD r,zg x.B,zg x.L,zg x.I,zg x.logAt,zg x.nodeAt,zg x.kO,zg x.lM,zg x.lF,zg x.kb,zg G.mine,.bool G.made,gv,.bool G.step,zg G.room,tv,zg G.me,zg G.over]
def nI(n:Int):Array Value:=#[zg n]
def yT(w r:Nat)(D:kj)(x:kh)(G:mW)(gv tv:Value):List Ob:=[Zd r D,.box w (yx r x G gv tv) 128,.sl 161 1025 gv (G.group.map zy),.sl 3 1 tv (G.wrote.map nI)]
def ZN(w r:Nat)(D:kj)(x:kh)(G:mW):Ob:=
 ⟨fun H O=>∃ gv tv,(Ob.all (yT w r D x G gv tv)).at_ H O,
  fun⟨_,_,h⟩=>Ob.own _ h,fun⟨gv,tv,h⟩ hb hs ho hl=>⟨gv,tv,Ob.frame _ h hb hs ho hl⟩⟩
def mW.new(mine:Int):mW:=⟨mine,true,[],false,0,[],0,0⟩
theorem TB(r:Nat)(a b c d e f g h i mine:Int):zo TP 128 [(0,zD r),(1,.agg (kh.cells ⟨a,b,c,d,e,f,g,h,i⟩)),(2,zg mine),(3,.bool true)]=some (.agg (yx r ⟨a,b,c,d,e,f,g,h,i⟩ (mW.new mine) (.slice none 0 0) (.slice none 0 0))):=by kernel_rfl
section
variable{H:Hp}{R:Value->Hp->Prop}{r:Nat}{D:kj}{O:Nat->Prop}{B L I:Int}
theorem afW(h:(Zd r D).at_ H O)(hg:Zy B L I)(hn:B<=D.n)(k:∀ H',Ext H H'->R (.bool true) H'):Fc TP 132 #[zD r,.agg (zf B L I).cells] H R:=by
 obtain⟨xP,xO,wI,xQ,vP,vO,gD⟩:=id hg;have c0:(zf B L I).cells[0]?=some (zg B):=rfl;have hx:∀ {H'},Ext H H'->∃ O',(Zd r D).at_ H' O':=fun e=>((Lo.own h).ext e).get (i:=0) rfl;refine fn132 ?_;simp only[sh132,Ul,UL,UA,Ub,Uf,Uw,U0];refine(Lo.start _ H:Lx H H []).jc fun b1 H1 _ l1=>?_;rw[l1.je (i:=0) (n:=9) rfl (kh.size _),za];refine M6 (by omega) hg fun H2 e2=>?_;have l2:=l1.ext e2;rw[zA];simp only[zc,aR,bH,za];refine⟨?_,?_,trivial⟩
 ·rw[l2.ld (i:=0) rfl,c0,za,zj];intro H3 e3;obtain⟨O',h3⟩:=hx (l2.iZ.trans e3);refine RG h3 ?_;rw[yp,za,gU hn,zj];exact fun H4 e4=>k H4 ((l2.iZ.trans e3).trans e4)
 ·rw[zj];intro H3 e3;obtain⟨O',h3⟩:=hx (l2.iZ.trans e3);refine RG h3 ?_;rw[(l2.ext e3).ld (i:=0) rfl,c0,za,yp,za,gU hn,zj];exact fun H4 e4=>k H4 ((l2.iZ.trans e3).trans e4)
theorem kj.Kc{a:Int}(hd:D.dead=false)(h0:0<=a)(h1:a<D.n):D.read a=({ D with seen:=D.seen+1 },D.at_ a,0):=by
 unfold kj.read;rw[aH (by simp[hd]),aH (by omega)]
theorem So(h:(Zd r D).at_ H O)(kD:AK D)(hd:D.dead=false)(hg:Zy B L I)(hn:B<=D.n)(hz:D.at_ 1=zB)(k:∀ H' O',kS O O' H H'->(Zd r { D with seen:=D.seen+1 }).at_ H' O'->R (.tuple #[.agg Dx,zg 0]) H'):Fc TP 88 #[zD r,.agg (zf B L I).cells] H R:=by
 obtain⟨xP,xO,wI,xQ,vP,vO,gD⟩:=id hg;have hDA:(zf B L I).kb=1+L+(I+16) / 16+(B+8191) / 8192:=rfl;have c3:(zf B L I).cells[3]?=some (zg 1):=rfl;have x3:∀ {a b:Value},zq (.tuple #[a,b]) 0=some a:=rfl;have x4:∀ {a b:Value},zq (.tuple #[a,b]) 1=some b:=rfl;have oq:=kj.Kc (a:=1) hd (by omega) (by omega);refine fn88 ?_;simp only[sh88,Ul,UL,UA,Us,Ub,Uz,Ux,Uf,Uu,Uv,oN,ZI,za];refine(Lo.own h).jc fun b1 H1 _ l1=>?_;refine l1.jc fun b2 H2 _ l2=>?_;have l2:Lo O H H2 [Zd r D,.box b1 (zf B L I).cells 62,.box b2 Dx 151]:=l2;rw[show ya TP 39 true .eql (zD r) (.pointer none) H2=some (.bool false) from Z6 pF,za,zh,l2.je (i:=1) (n:=9) rfl (kh.size _),za];obtain⟨O2,h2,_⟩:=l2.call (i:=0) rfl;refine afW h2 hg hn fun H3 e3=>?_;have l3:=l2.ext e3;rw[zx,za,iW,zh,zc,za,aR,l3.ld (i:=1) rfl,c3,za];obtain⟨O3,h3,mJ⟩:=l3.call (i:=0) rfl;refine QY h3 kD fun H4 O4 s4 h4=>?_;rw[oq]at h4 ⊢;have l4:Lo O H H4 [Zd r { D with seen:=D.seen+1 },.box b1 (zf B L I).cells 62,.box b2 Dx 151]:=mJ H4 _ O4 s4 h4;simp only[hz];rw[x3,za,x4,za];refine l4.jc fun b3 H5 _ l5=>?_;refine l5.jE (i:=3) rfl zw zw z6.ok fun H6 l6=>?_;rw[zn,za,cH (by omega),zh,l6.je (i:=1) (n:=9) rfl (kh.size _),za,l6.je (i:=3) (n:=1024) rfl zw,za];refine Tf hg fun H7 e7=>?_;rw[x3,za,x4,za];refine(l6.ext e7).jc fun b4 H8 _ l8=>?_;refine l8.jE (i:=4) rfl rfl rfl sN fun H9 l9=>?_;rw[zn,za,cH (by omega),zh,l9.je (i:=4) (n:=1) rfl rfl,za];refine l9.ret (i:=2) (K:=fun x H4=>R (.tuple #[x,zg 0]) H4) rfl rfl rfl sN fun H' l'=>?_;obtain⟨O',s',h'⟩:=Lo.mQ (x:=Zd r { D with seen:=D.seen+1 }) (r:=[_,_,_,_]) l';exact k H' O' s' h'
theorem afT(h:(Zd r D).at_ H O)(kD:AK D)(hd:D.dead=false)(hg:Zy B L I)(hn:B<=D.n)(hz:D.at_ 1=zB)(hs:D.seen<4611686018427387903)(k:∀ H' O' w,kS O O' H H'->(ZN w r ({ D with seen:=D.seen+1 }:kj).kB (zf B L I) (mW.new (D.jS+1))).at_ H' O'->R (.tuple #[zD w,zg 0]) H'):Fc TP 33 #[zD r,.agg (zf B L I).cells] H R:=by
 have x3:∀ {a b:Value},zq (.tuple #[a,b]) 0=some a:=rfl
 have x4:∀ {a b:Value},zq (.tuple #[a,b]) 1=some b:=rfl
 have z0:Dx[0]?=some (.slice none 0 0):=rfl
 have agD:AK { D with seen:=D.seen+1 }:={ kD with seen:=by have:=kD.seen;exact⟨by show 0<=D.seen+1;omega,by show D.seen+1<_;omega⟩ }
 refine fn33 ?_
 simp only[sh33,Ul,UL,UA,Us,Ub,Uz,Ux,Uf,Uw,Ug,Uv,U1,oN,za]
 refine(Lo.own h).jc fun b1 H1 _ l1=>?_
 have l1:Lo O H H1 [Zd r D,.box b1 (zf B L I).cells 62]:=l1
 rw[l1.je (i:=1) (n:=9) rfl (kh.size _),za]
 obtain⟨O1,h1,pH⟩:=l1.call (i:=0) rfl
 refine So h1 kD hd hg hn hz fun H2 O2 s2 h2=>?_
 have l2:Lo O H H2 [Zd r { D with seen:=D.seen+1 },.box b1 (zf B L I).cells 62]:=pH H2 _ O2 s2 h2
 rw[x3,za,x4,za]
 refine l2.jc fun b2 H3 _ l3=>?_
 refine l3.jE (i:=2) rfl rfl rfl sN fun H4 l4=>?_
 have l4:Lo O H H4 [Zd r { D with seen:=D.seen+1 },.box b1 (zf B L I).cells 62,.box b2 Dx 151]:=l4
 rw[zn,za,cH (by omega),zh,zc,za,aR,l4.ld (i:=2) rfl,z0,za,rF,za,zJ,za,cH (by omega),zh]
 have fin:∀ {H':Hp},Lo O H H' [Zd r ({ D with seen:=D.seen+1 }:kj).kB,.box b1 (zf B L I).cells 62,.box b2 Dx 151] ->
     Pu (zo TP 128 [(0,zD r),(1,.agg (zf B L I).cells),(2,zg (D.jS+1)),(3,(.bool true))]) fun x19=>lC true H' fun tF=>kT 128 x19 tF fun x20 sD=>lC true sD fun By=>R (.tuple #[x20,zg 0]) By:=by
   intro H' l5
   unfold zf
   rw[TB,za,zj]
   intro tF GX
   refine(l5.ext GX).jc fun w sD _ l6=>?_
   rw[zj]
   intro By Nf
   have l7:=((l6.ext Nf).nt 161 1025).nt 3 1
   have l8:=l7.pick [0,3,4,5] (by decide) (by simp)
   obtain⟨O',s',h'⟩:=Lo.close (l:=[_,_,_,_]) (r:=[]) l8
   exact k By O' w s' ⟨_,_,h'⟩
 refine⟨?_,?_,trivial⟩
 · rw[l4.je (i:=1) (n:=9) rfl (kh.size _),za,zj]
   intro H5 e5
   obtain⟨O5,h5,Hq⟩:=(l4.ext e5).call (i:=0) rfl
   refine Nu h5 agD hd fun H6 O6 s6 h6=>?_
   exact fin (Hq H6 _ O6 s6 h6)
 · rw[zj]
   intro H5 e5
   obtain⟨O5,h5,Hq⟩:=(l4.ext e5).call (i:=0) rfl
   refine Nu h5 agD hd fun H6 O6 s6 h6=>?_
   have l6:Lo O H H6 [Zd r ({ D with seen:=D.seen+1 }:kj).kB,.box b1 (zf B L I).cells 62,.box b2 Dx 151]:=Hq H6 _ O6 s6 h6
   rw[l6.je (i:=1) (n:=9) rfl (kh.size _),za]
   exact fin l6
end
theorem Rk{n:Int}:∀ {l:List (Int × jn)} {b:Int},HN n b l->∀ x∈l,b<x.1
 | [],_,_,x,h=>by cases h
 | y :: l,b,h,x,hx=>by
  rcases jg.1 hx with e | e
  ·rw[e];exact h.1
  ·have:=Rk h.2.2.2.2 x e;have:=h.1;omega
theorem ER{n:Int}:∀ {l:List (Int × jn)} {b:Int} (g:Int->jn) (a:Int),HN n b l->(l.foldl (fun g x=>nG g x.1 x.2) g) a=if ∃ x∈l,x.1=a then z9 l a else g a
 | [],_,g,a,_=>by simp
 | y :: l,b,g,a,h=>by
  rw[List.foldl_cons,ER (nG g y.1 y.2) a h.2.2.2.2,vm];have AS:=Rk h.2.2.2.2;by_cases e:y.1=a
  ·rw[aH (by rintro⟨x,hx,ex⟩;have:=AS x hx;omega),aU ⟨y,eH ..,e⟩,aU e];unfold nG;rw[aU e.symm]
  ·rw[aH e];by_cases e2:∃ x∈l,x.1=a
   ·rw[aU e2,aU];obtain⟨x,hx,ex⟩:=e2;exact⟨x,dH _ hx,ex⟩
   ·rw[aH e2,aH]
    ·unfold nG;rw[aH (fun e3=>e e3.symm)]
    ·rintro⟨x,hx,ex⟩;rcases jg.1 hx with e4 | e4
     ·rw[e4]at ex;exact e ex
     ·exact e2 ⟨x,e4,ex⟩
theorem ES{n b:Int}{l:List (Int × jn)}(h:HN n b l)(a:Int):ET l a=z9 l a:=by
 unfold ET;rw[ER _ a h];split
 ·rfl
 ·rename_i kG;rw[xJ fun x hx e=>kG ⟨x,hx,e⟩]
def Tb(p:Nat)(s:DS):Ob:=
 ⟨fun H O=>(∃ Od,jQ H p s Od/\∀ b,Od b->O b)/\∀ b,O b->b<H.size,fun h=>h.2,
  fun⟨⟨Od,h1,h2⟩,_⟩ hb hs ho hl=>⟨⟨Od,h1.of (fun b hh=>hb b (h2 b hh)) hs,fun b hh=>ho b (h2 b hh)⟩,hl⟩⟩
theorem NA.of{H H':Hp}{lb p cb mb:Nat}{s:DS}{cs:List Pl}{x:kh}{mine:Int}{O Oc:Nat->Prop}(h:NA H lb p cb mb s cs x mine O Oc)(h1:∀ b,O b->H'[b]?=H[b]?)(h2:∀ b,Oc b->H'[b]?=H[b]?)(h3:H'[mb]?=H[mb]?)(h4:H'[lb]?=H[lb]?)(hs:H.size<=H'.size):NA H' lb p cb mb s cs x mine O Oc:=
 { h with dk:=h.dk.of h1 hs,ca:=h.ca.of h2 hs,mp:=h.mp.of h3,top:=by rw[h4];exact h.top }
def ED(lb p:Nat)(s:DS)(cs:List Pl)(x:kh)(mine:Int):Ob:=
 ⟨fun H O=>(∃ cb mb Od Oc,NA H lb p cb mb s cs x mine Od Oc/\(∀ b,Od b->O b)/\(∀ b,Oc b->O b)/\O mb/\O lb)/\∀ b,O b->b<H.size,fun h=>h.2,
  fun⟨⟨cb,mb,Od,Oc,h1,h2,h3,h4,h5⟩,_⟩ hb hs ho hl=>⟨⟨cb,mb,Od,Oc,h1.of (fun b hh=>hb b (h2 b hh)) (fun b hh=>hb b (h3 b hh)) (hb _ h4) (hb _ h5) hs,fun b hh=>ho b (h2 b hh),fun b hh=>ho b (h3 b hh),ho _ h4,ho _ h5⟩,hl⟩⟩
theorem SV{P:Program}{T e:TypeId}{lit:Bool}{a:Addr}{H:Hp}(hu:P.underlying T=some (.pointer e)):ya P T lit .neq (.pointer (some a)) (.pointer none) H=some (.bool true):=by
 simp[ya,CZ,K0,hu]
def prC(p lb r w:Nat):Array Value:=#[zD p,zD lb,zD r,zD w]
theorem Xk(p lb r w:Nat):zo TP 42 [(0,zD p),(1,zD lb),(2,zD r),(3,zD w)]=some (.agg (prC p lb r w)):=by kernel_rfl
def oK(B L I:Int)(iv:Value)(fr sp lB:Int):Array Value:=#[zg B,zg L,zg I,iv,zg fr,zg sp,zg lB]
noncomputable def OI(B:Int)(l:List (Int × jn)):DS:=({ DS.load B l with reads:=1 }:DS).pB
noncomputable def QZ(B:Int)(l:List (Int × jn)):kj:=({ kj.load B l with seen:=1 }:kj).kB
section
variable{H:Hp}{R:Value->Hp->Prop}
theorem Pp{B L I:Int}(hB : -9223372036854775808<=B/\B<=9223372036854775807){iv:Value}{kU:List nL}(kH:Am H iv kU)(mY:∀ t∈kU,yv t)(hlen:kU.length<281474976710656){fr sp lB:Int}(CF : -9223372036854775808<=lB/\lB<=9223372036854775807)(Ua:∃ b n c,iv=.slice b n c)
   (kno:∀ H',Ext H H'->R (.tuple #[.pointer none,.bool false,.bool false]) H')
   (k:∀ H' pp p lb r w m0 fs m,JC B L I kU fr sp m0 fs->Bx m B L I->(zK m kU (nE m)).full=false ->
     Lx H H' [.box pp (prC p lb r w) 42,ED lb p (OI B (Y3 0 (ZW m (zK m kU (nE m)) (lB % 1000003).toNat))) [] (zf B L I) 1,ZN w r (QZ B (Y3 0 (ZW m (zK m kU (nE m)) (lB % 1000003).toNat))) (zf B L I) (mW.new 1)]->R (.tuple #[zD pp,.bool true,.bool true]) H') :
   Fc TP 6 #[.agg (oK B L I iv fr sp lB)] H R:=by
 have x3:∀ {a b:Value},zq (.tuple #[a,b]) 0=some a:=rfl
 have x4:∀ {a b:Value},zq (.tuple #[a,b]) 1=some b:=rfl
 obtain⟨ivb,ivn,ivc,eiv⟩:=Ua
 have w0:(oK B L I iv fr sp lB).extract 0 (0+3)=#[zg B,zg L,zg I]:=by simp[oK]
 have w3:(oK B L I iv fr sp lB).extract 3 (3+3)=vU iv fr sp:=by simp[oK,vU]
 have w6:(oK B L I iv fr sp lB)[6]?=some (zg lB):=rfl
 have wsz:(oK B L I iv fr sp lB).size=7:=rfl
 refine fn6 ?_
 simp only[sh6,Ul,UL,UA,Us,Ub,Uz,Ux,Uf,Uu,Uj,Uv,U1,U0,A2,yq,za,zm]
 refine(Lo.start _ H:Lx H H []).jc fun b1 H1 _ l1=>?_
 have l1:Lx H H1 [.box b1 (oK B L I iv fr sp lB) 28]:=l1
 simp only[zc,aR,bH,za]
 rw[Za (l1.at (i:=0) rfl) (show 0+3<=7 by omega),za,w0,Za (l1.at (i:=0) rfl) (show 3+3<=7 by omega),za,w3]
 refine VX hB (kH.ext l1.iZ) mY hlen ⟨ivb,ivn,ivc,eiv⟩ (fun H2 e2=>?_) (fun H2 m0 fs e2 oa=>?_)
 · rw[zx,za,jN,zA]
   exact kno H2 (l1.ext e2).iZ
 have l2:=l1.ext e2
 rw[zx,za,iW,zh]
 rw[Za (l2.at (i:=0) rfl) (show 0+3<=7 by omega),za,w0,Za (l2.at (i:=0) rfl) (show 3+3<=7 by omega),za,w3,l2.ld (i:=0) rfl,w6,za]
 refine MO hB (kH.ext l2.iZ) mY hlen CF (fun H3 e3 oT=>?_) (fun H3 dv m e3 hg hm CK n3=>?_)
 · exfalso
   obtain⟨m',vN,hf'⟩:=oT oa.ok
   have:=(Es oa.mof vN oa.ok mY).full
   rw[hf',oa.room]at this
   cases this
 have k:=fun H' pp p lb r w=>k H' pp p lb r w m0 fs m oa hm CK
 obtain⟨xP,xO,wI,xQ,vP,vO,gD⟩:=id hg
 have hDA:(zf B L I).kb=1+L+(I+16) / 16+(B+8191) / 8192:=rfl
 have im:=XX hg hm mY hm.B n3.sv.sr
 obtain⟨q,r0,edv⟩:=n3.sv.len
 have l3:=l2.new e3 n3
 generalize Y3 0 (ZW m (zK m kU (nE m)) (lB % 1000003).toNat)=l at im l3 k n3 edv
 refine l3.jc fun b3 H4 _ l4=>?_
 refine l4.jE (i:=2) (n:=2) (vs:=#[zg B,dv]) rfl rfl rfl (by rw[edv];unfold zv;rw[<- iV];rfl) fun H5 l5=>?_
 rw[Za (l5.at (i:=0) rfl) (show 0+3<=7 by omega),za,w0]
 refine of3 hB (fun H6 e6 _=>?_) (fun H6 e6 kG=>absurd hg kG)
 rw[x3,za,x4,za]
 refine(l5.ext e6).jc fun b4 H7 _ l7=>?_
 refine l7.jE (i:=3) (n:=9) rfl rfl (kh.size _) (kh.Ns _) fun H8 l8=>?_
 have l8:Lx H H8 [.box b1 (oK B L I iv fr sp lB) 28,.sl 149 1025 dv (l.map zy),.box b3 #[zg B,dv] 81,.box b4 (zf B L I).cells 62]:=l8
 rw[l8.je (i:=2) (n:=2) rfl rfl,za]
 refine OO vP vO (l8.sv (i:=1) rfl) im.whole im.len fun H9 p e9 hdk=>?_
 have l9:Lx H H9 [.box b1 (oK B L I iv fr sp lB) 28,.sl 149 1025 dv (l.map zy),.box b3 #[zg B,dv] 81,.box b4 (zf B L I).cells 62,Tb p (DS.load B l)]:=l8.add e9 (x:=Tb p (DS.load B l)) (O:=fun b=>H8.size<=b/\b<H9.size) ⟨⟨_,hdk,fun b hb=>hb⟩,fun b hb=>hb.2⟩ fun b hb=>hb.1
 rw[x3,za,x4,za]
 refine Zg.mk (fun t H'=>H'=H9/\t.1=.bool false) ?_ ?_
 rotate_left
 · rw[show ya TP 37 true .eql (zD p) (.pointer none) H9=some (.bool false) from Z6 (e:=115) (by kernel_rfl),za,zh,zn,za]
   exact⟨rfl,rfl⟩
 rintro⟨t,u⟩ mX ⟨rfl,ht⟩
 simp only at ht
 subst ht
 rw[zh,l9.je (i:=3) (n:=9) rfl (kh.size _),za]
 obtain⟨O9,⟨⟨Od,hd9,mK⟩,hO9⟩,L5⟩:=l9.call (i:=4) rfl
 refine UW hd9 hB hg (show B<=B from Int.le_refl _) rfl (by show(0:Int)<_/\(0:Int)<=0;omega) (by show ET l 1=zB;rw[ES im.whole];exact im.hd) (by show(0:Int)<=0/\(0:Int)<_;omega) fun mN lb mb cb Oc Dy WA KN agM o1 o2 o3 o4 o5 o6 KG=>?_
 have hdl:=hd9.lt
 have lO:Lx H mN [.box b1 (oK B L I iv fr sp lB) 28,.sl 149 1025 dv (l.map zy),.box b3 #[zg B,dv] 81,.box b4 (zf B L I).cells 62,ED lb p (OI B l) [] (zf B L I) 1]:=by
   refine L5 mN (ED lb p (OI B l) [] (zf B L I) 1) (fun b=>O9 b\/Oc b\/b=mb\/b=lb) ⟨Dy.kp.mono fun b _ hb=>mK b hb,fun b hb=>?_⟩ ⟨⟨cb,mb,Od,Oc,⟨WA,KN,agM,KG,fun b hb hc=>?_,⟨fun hh=>?_,o5,fun hh=>?_,o4,o6⟩,⟨by omega,rfl⟩⟩,fun b hb=>.inl (mK b hb),fun b hb=>.inr (.inl hb),.inr (.inr (.inl rfl)),.inr (.inr (.inr rfl))⟩,fun b hb=>?_⟩
   · rcases hb with hb | hb | hb | hb
     · exact .inl hb
     · exact .inr (o1 b hb)
     · rw[hb];exact .inr o2
     · rw[hb];exact .inr o3
   · have:=hdl b hb;have:=o1 b hc;omega
   · have:=hdl _ hh;omega
   · have:=hdl _ hh;omega
   · rcases hb with hb | hb | hb | hb
     · exact jj (hO9 b hb) Dy.kp.le
     · exact KN.lt b hb
     · rw[hb];exact agM.lt
     · rw[hb];exact(kQ.1 KG).1
 rw[x3,za,x4,za]
 refine Zg.mk (fun t H'=>H'=mN/\t.1=.bool false) ?_ ?_
 rotate_left
 · rw[show ya TP 38 true .eql (zD lb) (.pointer none) mN=some (.bool false) from Z6 (e:=100) (by kernel_rfl),za,zh,zn,za]
   exact⟨rfl,rfl⟩
 rintro⟨t,u⟩ tF ⟨rfl,ht⟩
 simp only at ht
 subst ht
 rw[zh,lO.je (i:=2) (n:=2) rfl rfl,za]
 refine ab4 ⟨vP,vO⟩ (lO.sv (i:=1) rfl).sr im.whole im.is im.len fun sD r se n13=>?_
 have oM:=lO.new se n13
 have oM:Lx H sD [.box b1 (oK B L I iv fr sp lB) 28,.sl 149 1025 dv (l.map zy),.box b3 #[zg B,dv] 81,.box b4 (zf B L I).cells 62,ED lb p (OI B l) [] (zf B L I) 1,Zd r (kj.load B l)]:=oM
 rw[x3,za,x4,za,oM.je (i:=3) (n:=9) rfl (kh.size _),za]
 obtain⟨O13,h13,ajp⟩:=oM.call (i:=5) rfl
 refine afT h13 (kj.V3 im.is im.len) rfl hg (show B<=B from Int.le_refl _) (by rw[show(kj.load B l).at_ 1=z9 l 1 from rfl];exact im.hd) (by show(0:Int)<_;omega) fun By O14 w s14 h14=>?_
 have vh:Lx H By [.box b1 (oK B L I iv fr sp lB) 28,.sl 149 1025 dv (l.map zy),.box b3 #[zg B,dv] 81,.box b4 (zf B L I).cells 62,ED lb p (OI B l) [] (zf B L I) 1,ZN w r (QZ B l) (zf B L I) (mW.new 1)]:=ajp By _ O14 s14 h14
 rw[x3,za,x4,za,Xk,za]
 refine vh.jc fun pp DH _ pO=>?_
 rw[show ya TP 40 true .neq (zD w) (.pointer none) DH=some (.bool true) from SV (e:=128) (by kernel_rfl),za]
 exact k DH pp p lb r w (pO.pick [6,4,5] (by decide) (by simp))
end
theorem Rf{x y e z:Nat}(hx:x<2 ^ e)(hy:y=2 ^ e*z):x ||| y=x+y:=by
 rw[hy,Nat.or_comm,<- Nat.two_pow_add_eq_or_of_lt hx,ad7]
section
variable{H:Hp}{R:Value->Hp->Prop}
theorem afI{x y e z:Nat}(hx:x<2 ^ e)(hy:y=2 ^ e*z)(hs:x+y<65536){td:Option TypeDesc}:z8 td .or (.int .u16 x) (.int .u16 y)=some (.int .u16 ((x+y:Nat):Int)):=by
 rw[GJ];have e1:tD .or .u16 (x:Int) (y:Int)=IntKind.u16.wrap (((BitVec.ofInt 16 (x:Int) ||| BitVec.ofInt 16 (y:Int)).toNat:Nat):Int):=rfl;rw[e1,BitVec.ofInt_natCast,BitVec.ofInt_natCast,BitVec.toNat_or,BitVec.toNat_ofNat,BitVec.toNat_ofNat,mf (by omega),mf (by omega),Rf hx hy,ZR (by omega) (by omega)]
theorem Rg{x y e z:Nat}(hx:x<2 ^ e)(hy:y=2 ^ e*z)(hs:x+y<4294967296){td:Option TypeDesc}:z8 td .or (.int .u32 x) (.int .u32 y)=some (.int .u32 ((x+y:Nat):Int)):=by
 rw[GJ];have e1:tD .or .u32 (x:Int) (y:Int)=IntKind.u32.wrap (((BitVec.ofInt 32 (x:Int) ||| BitVec.ofInt 32 (y:Int)).toNat:Nat):Int):=rfl;rw[e1,BitVec.ofInt_natCast,BitVec.ofInt_natCast,BitVec.toNat_or,BitVec.toNat_ofNat,BitVec.toNat_ofNat,mf (by omega),mf (by omega),Rf hx hy,ZB (by omega) (by omega)]
theorem afn{x:Nat}(hx:x<256){td:Option TypeDesc}:z8 td .shl (.int .u16 x) (.int .u64 8)=some (.int .u16 ((256*x:Nat):Int)):=by
 rw[Dq (by decide),show min (8:Int).toNat IntKind.u16.bits=8 from rfl,show(x:Int)*2 ^ 8=((256*x:Nat):Int) by omega,ZR (by omega) (by omega)]
theorem afm{x s:Nat}(hs:s=8\/s=16\/s=24)(hx:x<256){td:Option TypeDesc}:z8 td .shl (.int .u32 x) (.int .u64 s)=some (.int .u32 ((2 ^ s*x:Nat):Int)):=by
 rw[Dq (by omega)];rcases hs with rfl | rfl | rfl
 ·rw[show min ((8:Nat):Int).toNat IntKind.u32.bits=8 from rfl,show(x:Int)*2 ^ 8=((2 ^ 8*x:Nat):Int) by omega,ZB (by omega) (by omega)]
 ·rw[show min ((16:Nat):Int).toNat IntKind.u32.bits=16 from rfl,show(x:Int)*2 ^ 16=((2 ^ 16*x:Nat):Int) by omega,ZB (by omega) (by omega)]
 ·rw[show min ((24:Nat):Int).toNat IntKind.u32.bits=24 from rfl,show(x:Int)*2 ^ 24=((2 ^ 24*x:Nat):Int) by omega,ZB (by omega) (by omega)]
theorem QA{c:jn}(hc:jR c){a:Nat}(ha:a+2<=1024)(k:∀ H',Ext H H'->R (.int .u16 (nQ c a 2)) H'):Fc TP 135 #[.agg c,zg a] H R:=by
 have q0:=hc.lt a;have q1:=hc.lt (a+1);refine fn135 ?_;simp only[sh135,Ul,Ub,Uf,Uk,Uu,Uv];refine(Lo.start _ H:Lx H H []).jc fun b1 H1 _ l1=>?_;refine p0 (by omega) ?_;rw[gU (by omega),zx,za,iW,zh];rw[zC (by omega),za,aR,iX,l1.ld (i:=0) rfl,hc.get (by omega),za,zz,za,ZR (by omega) (by omega),ze,za,zE,zr (by omega),zC (by omega),za,aR,iX,l1.ld (i:=0) rfl,hc.get (by omega),za,zz,za,ZR (by omega) (by omega),afn q1,za,afI (e:=8) (z:=kv c (a+1)) (by omega) (by omega) (by omega),za];have e:nQ c a 2=kv c a+256*kv c (a+1):=by
  show kv c a+256*(kv c (a+1)+256*0)=_;omega
 rw[<- e];exact k H1 l1.iZ
theorem Hu{c:jn}(hc:jR c){a:Nat}(ha:a+4<=1024)(k:∀ H',Ext H H'->R (.int .u32 (nQ c a 4)) H'):Fc TP 136 #[.agg c,zg a] H R:=by
 have q0:=hc.lt a;have q1:=hc.lt (a+1);have q2:=hc.lt (a+2);have q3:=hc.lt (a+3);have sh:∀ {x:Nat} (n:Nat),n=8\/n=16\/n=24->x<256->z8 (some (.int .u32)) .shl (.int .u32 x) (.int .u64 n)=some (.int .u32 ((2 ^ n*x:Nat):Int)):=fun n hn hx=>afm hn hx;have s8:=@sh (kv c (a+1)) 8 (by omega) q1;have s16:=@sh (kv c (a+2)) 16 (by omega) q2;have s24:=@sh (kv c (a+3)) 24 (by omega) q3;refine fn136 ?_;simp only[sh136,Ul,Ub,Uf,Uk,Uu,Uv];refine(Lo.start _ H:Lx H H []).jc fun b1 H1 _ l1=>?_;refine p0 (by omega) ?_;rw[gU (by omega),zx,za,iW,zh];rw[zC (by omega),za,aR,iX,l1.ld (i:=0) rfl,hc.get (by omega),za,zz,za,ZB (by omega) (by omega)];rw[ze,za,zE a,zr (v:=a+1) (by omega),zC (by omega),za,aR,iX,l1.ld (i:=0) rfl,hc.get (by omega),za,zz,za,ZB (by omega) (by omega)]
 erw [s8]
 rw[za,Rg (e:=8) (z:=kv c (a+1)) (by omega) (by omega) (by omega),za];rw[ze,za,show(a:Int)+2=((a+2:Nat):Int) by omega,zr (v:=a+2) (by omega),zC (by omega),za,aR,iX,l1.ld (i:=0) rfl,hc.get (by omega),za,zz,za,ZB (by omega) (by omega)]
 erw [s16]
 rw[za,Rg (e:=16) (z:=kv c (a+2)) (by omega) (by omega) (by omega),za];rw[ze,za,show(a:Int)+3=((a+3:Nat):Int) by omega,zr (v:=a+3) (by omega),zC (by omega),za,aR,iX,l1.ld (i:=0) rfl,hc.get (by omega),za,zz,za,ZB (by omega) (by omega)]
 erw [s24]
 rw[za,Rg (e:=24) (z:=kv c (a+3)) (by omega) (by omega) (by omega),za];have e:nQ c a 4=kv c a+2 ^ 8*kv c (a+1)+2 ^ 16*kv c (a+2)+2 ^ 24*kv c (a+3):=by
  show kv c a+256*(kv c (a+1)+256*(kv c (a+1+1)+256*(kv c (a+1+1+1)+256*0)))=_;rw[show a+1+1=a+2 by omega,show a+2+1=a+3 by omega];omega
 rw[<- e];exact k H1 l1.iZ
end
theorem QB{P:Program}{T e n:Nat}{i:TypeInfo}(hu:P.underlying T=some (.array n e))(hi:P.info? e=some i)(hs:i.size=1){b lo DD:Nat}(h1:lo<=DD)(h2:DD<=n)(h3:lo<n):yF P T (.pointer (some ⟨b,0,none⟩)) (some (zg lo)) (some (zg DD)) none=some (.slice (some ⟨b,lo,none⟩) (DD - lo) (n - lo)):=by
 unfold yF;rw[hu];have q1:(0:Int)<=(DD:Int)/\(DD:Int)<=(n:Int):=by omega
 have q2:(0:Int)<=(lo:Int)/\(lo:Int)<=(DD:Int):=by omega
 simp only[Z2,Wt,jG,jK,hi,iR];rw[aU q1];simp only[jG];rw[aU q2];simp only[jG,iR,hs,iX];rw[aH (by omega)];simp only[Addr.oE,aR]
theorem QD{P:Program}{T e n:Nat}{i:TypeInfo}(hu:P.underlying T=some (.array n e))(hi:P.info? e=some i)(hs:i.size=1){b:Nat}(h3:0<n):yF P T (.pointer (some ⟨b,0,none⟩)) none none none=some (.slice (some ⟨b,0,none⟩) n n):=by
 unfold yF;rw[hu];simp only[Z2,Wt,jG,hi,iR];rw[aH (by omega)];simp only[Addr.oE,An,aR,Nat.sub_zero]
theorem XL:TP.underlying 105=some (.array 64 5):=by kernel_rfl
theorem aa6:TP.underlying 107=some (.slice 5):=by kernel_rfl
theorem Ls(a b c d e f:Int):zo TP 54 [(0,.int .u16 a),(1,.int .u16 b),(2,.int .u32 c),(3,.int .u32 d),(5,.int .u32 e),(6,.int .u32 f)]=some (.agg #[.int .u16 a,.int .u16 b,.int .u32 c,.int .u32 d,.int .u32 0,.int .u32 0,.int .u32 0,.int .u32 0,.int .u32 0,.int .u32 0,.int .u32 0,.int .u32 0,.int .u32 0,.int .u32 0,.int .u32 e,.int .u32 f]):=by kernel_rfl
def KB(f:kM)(n:Nat):kM:=fun j=>if j<4+n\/14<=j then f j else 0
theorem RT(f:kM){n:Nat}(h:n<10):(zS (KB f n)).setIfInBounds (4+n) (.int .u32 (f (4+n)))=zS (KB f (n+1)):=by
 rw[Yw _ _ (4+n) (by omega) (by omega)];refine yH fun j hj=>?_;unfold uU KB;by_cases e:j=4+n
 ·subst e;rw[aU rfl,aU (by omega)]
 ·rw[aH e];by_cases h3:j<4+n\/14<=j
  ·rw[aU h3,aU (by omega)]
  ·rw[aH h3,aH (by omega)]
section
variable{H:Hp}{R:Value->Hp->Prop}
theorem abj(k:R (.tuple #[zg 0,zg 64]) H):Fc TP 174 #[zg 0,zg 64] H R:=by
 refine fn174 ?_;simp only[sh174,Ub,Uj,Uv,U1,U0,zm];refine Zg.mk (fun t H'=>H'=H/\t.1=.bool false) ?_ ?_
 ·rintro⟨t,u⟩ H2 ⟨rfl,ht⟩;simp only at ht;subst ht;rw[zh,show xB (zg 0) (.int .i64 0)=some (zg 0) from rfl,za,zk,za,cH (by omega),zh,zP,za,zd (by omega) (by omega),zk,za,gU (by omega),zA,ze,za,zd (by omega) (by omega),show xB (zg 0) (.int .i64 (0+64))=some (zg 64) from rfl,za];exact k
 ·rw[zk,za,cH (by omega),zh,zN,za,cH (by omega),zh,zk,za,cH (by omega),zh];exact⟨rfl,rfl⟩
theorem af3{pb:Nat}{pc:Array Value}{T:TypeId}(hp:H[pb]?=some (.cells pc T))(hpc:mu 64 pc)(k:∀ H',Ext H H'->R (.agg (zL zB 0 pc)) H'):Fc TP 134 #[.agg zB,zg 0,.slice (some ⟨pb,0,none⟩) 64 64] H R:=by
 have x3:∀ {a b:Value},zq (.tuple #[a,b]) 0=some a:=rfl;have x4:∀ {a b:Value},zq (.tuple #[a,b]) 1=some b:=rfl;have oI:jR (zL zB 0 pc):=(yc z6.n hpc (by omega)).b;refine fn134 ?_;simp only[sh134,Ul,UL,Us,Ub,Uz,Ux,Uf,Ui,Uk,Ug,Uo,Uv,ZI,za,zm];refine(Lo.start _ H:Lx H H []).jc fun b1 H1 _ l1=>?_;refine l1.jc fun b2 H2 _ l2=>?_;rw[show j9 TP 107 (.slice (some ⟨pb,0,none⟩) 64 64)=some (zg 64) from tU aa6,za];refine abj ?_;rw[x3,za,x4,za];refine zF.mk (fun t H'=>∃ (i:Nat) (c:jn),i<=64/\t=(zg i,())/\xd zB pc 0 i c/\Lx H H' [.box b1 c 65,.box b2 zB 65])
  (fun t _=>mi t.1 fun i=>(64 - i).toNat) ⟨0,zB,by omega,rfl,xd.zero z6,l2⟩ ?_
 rintro _ H3 ⟨i,c,hi,rfl,Gl,l3⟩;rw[zk,za,zb];refine⟨fun kc=>?_,fun lA=>?_⟩
 ·have hp3:=l3.iZ.at hp;rw[zP,za,zd (by omega) (by omega),show(i:Int) - 0=(i:Int) by omega,@Bk 64 64 1 pb 0 .i64 i (by omega) (by omega),za,iX,aR,zi hp3,hpc.get (by omega),za,zC (by omega),za,iX,aR];refine l3.st (i:=0) (j:=i) (v:=.int .u8 (kv pc i)) rfl (by rw[Gl.1.size];omega) rfl rfl fun H4 l4=>?_;rw[ze,za,zE,zr (by omega)];have kH:=Gl.step hpc (by omega) (by omega);rw[aR]at kH;exact⟨⟨i+1,_,by omega,rfl,kH,l4⟩,by simp only[zu];omega⟩
 ·have ei:i=64:=by omega
  subst ei;have e:=Gl.done z6 hpc (by omega);rw[l3.je (i:=0) (n:=1024) rfl Gl.1.size,za];refine l3.ret (i:=1) rfl zw Gl.1.size Gl.1.ok fun H' l'=>?_;rw[e];exact k H' l'.iZ
theorem HR{c:Array Value}(hc:mu 64 c)(k:∀ H',Ext H H'->R (.agg (zS (ZD c 0))) H'):Fc TP 90 #[.agg c] H R:=by
 have hX:jR (zL zB 0 c):=(yc z6.n hc (by omega)).b;have hle:∀ {a n:Nat},a+n<=64->nQ (zL zB 0 c) a n=nQ c a n:=fun {a n} han=>qc _ _ _ fun i hi=>by
  rw[rT z6.n hc (by omega),aU (by omega),Nat.sub_zero]
 have eF:∀ j,nQ c (fo j) (fw j)=ZD c 0 j:=fun j=>by unfold ZD;rw[aR]
 refine fn90 ?_;simp only[sh90,UL,UA,Us,Ub,Uz,Uf,Uw,Uk,Uo,Uv,ZE,ZI,yP,za,zm];refine(Lo.start _ H:Lx H H []).jc fun b1 H1 _ l1=>?_;refine l1.jc fun b2 H2 _ l2=>?_;rw[QD XL vl vk (by omega),za];refine af3 (l2.at (i:=0) rfl) hc fun H3 e3=>?_;generalize zL zB 0 c=X at hX hle;refine(l2.ext e3).jc fun b3 H4 _ l4=>?_;refine l4.jE (i:=2) rfl zw hX.size hX.ok fun H5 l5=>?_;have l5:Lx H H5 [.box b1 c 105,.box b2 (zS fun _=>0) 54,.box b3 X 65]:=l5;have q2:∀ {H':Hp} {a:Nat},a+2<=64->QC true TP 135 #[.agg X,zg a] H' (.int .u16 (nQ c a 2)):=fun {H' a} ha oZ _=>QA hX (by omega) fun H3 e3=>⟨by rw[hle ha],e3⟩;have q4:∀ {H':Hp} {a:Nat},a+4<=64->QC true TP 136 #[.agg X,zg a] H' (.int .u32 (nQ c a 4)):=fun {H' a} ha oZ _=>Hu hX (by omega) fun H3 e3=>⟨by rw[hle ha],e3⟩;rw[l5.je (i:=2) (n:=1024) rfl hX.size,za];refine⟨_,q2 (a:=0) (by omega),?_⟩;rw[za];refine⟨_,q2 (a:=2) (by omega),?_⟩;rw[za];refine⟨_,q4 (a:=4) (by omega),?_⟩;rw[za];refine⟨_,q4 (a:=8) (by omega),?_⟩;rw[za];refine⟨_,q4 (a:=52) (by omega),?_⟩;rw[za];refine⟨_,q4 (a:=56) (by omega),?_⟩;have e0:=eF 0;have e1:=eF 1;have e2:=eF 2;have e3':=eF 3;have Nf:=eF 14;have JK:=eF 15;simp only[fo,fw,Nat.reduceLT,jO,jD,Nat.reduceMul,Nat.reduceSub,uD]at e0 e1 e2 e3' Nf JK;rw[e0,e1,e2,e3',Nf,JK,Ls,za,zj];intro H6 f6;refine(l5.ext f6).jc fun b4 H7 _ l7=>?_;rw[zj];intro H8 f8;refine(l7.ext f8).jE (i:=3) (vs:=zS (KB (ZD c 0) 0)) rfl (zt _) (zt _) (ZA _) fun H9 l9=>?_;rw[zj];intro mX f10;have mn:Lx H mX [.box b1 c 105,.box b2 (zS fun _=>0) 54,.box b3 X 65,.box b4 (zS (KB (ZD c 0) 0)) 54]:=l9.ext f10;refine zF.mk (fun t H'=>∃ i:Nat,i<=10/\t=(zg i,())/\Lx H H' [.box b1 c 105,.box b2 (zS fun _=>0) 54,.box b3 X 65,.box b4 (zS (KB (ZD c 0) i)) 54])
  (fun t _=>mi t.1 fun i=>(10 - i).toNat) ⟨0,by omega,rfl,mn⟩ ?_
 rintro _ mN ⟨i,hi,rfl,lO⟩;rw[zk,za,zb];refine⟨fun kc=>?_,fun lA=>?_⟩
 ·rw[lO.je (i:=2) (n:=1024) rfl hX.size,za,zW,za,zd (by omega) (by omega),ze,za,zd (by omega) (by omega),show(12:Int)+4*(i:Int)=((12+4*i:Nat):Int) by omega];refine Hu hX (by omega) fun tF GX=>?_;have e4:nQ c (12+4*i) 4=ZD c 0 (4+i):=by
   have:=eF (4+i);rw[show fo (4+i)=12+4*i by unfold fo;rw[aH (by omega)];omega,show fw (4+i)=4 by unfold fw;rw[aH (by omega)]]at this;exact this
  rw[hle (by omega),e4,zc,za,aR,zC (by omega),za,iX];refine(lO.ext GX).st (i:=3) (j:=4+i) (v:=.int .u32 (ZD c 0 (4+i))) rfl (by rw[zt];omega) rfl rfl fun sD oM=>?_;rw[RT _ (by omega)]at oM;rw[ze,za,zE,zr (by omega)];exact⟨⟨i+1,by omega,rfl,oM⟩,by simp only[zu];omega⟩
 ·have ei:i=10:=by omega
  subst ei;rw[lO.je (i:=3) (n:=16) rfl (zt _),za];refine lO.ret (i:=1) rfl (zt _) (zt _) (ZA _) fun H' l'=>?_;rw[yH (g:=ZD c 0) fun j hj=>by unfold KB;rw[aU (by omega)]];exact k H' l'.iZ
end
theorem Cp{os:Value}{mb p cb:Nat}{x:kh}{mine:Int}{op:Bool}{room:Int}{wr:Value}{co st:Int}:(yN os mb p cb x mine op room wr co st).extract 4 (4+9)=x.cells:=by simp[yN,kh.cells]
section
variable{H:Hp}{R:Value->Hp->Prop}{lb p cb mb:Nat}{s:DS}{cs:List Pl}{x:kh}{mine:Int}{O Oc:Nat->Prop}{B L I:Int}
theorem A7:TP.underlying 65=some (.array 1024 5):=by kernel_rfl
end
section
variable{m:Pm}{q:Pg}{f:kM}{B L I:Int}
theorem wY{f:kM}{j:Nat}(hj:j<3):tB f j=f j:=by
 unfold tB uU;rw[aH (by omega)]
theorem FC{f:kM}{i v j:Nat}(hj:j<3)(hi:3<=i):uU f i v j=f j:=by
 unfold uU;rw[aH (by omega)]
theorem A9{i j:Nat}(hj:j<3):(Pg.top m q f i).2.1 j=f j:=by
 unfold Pg.top;split
 ·exact wY hj
 ·rfl
theorem Gt{tp pl:Nat}{b:jn}{j:Nat}(hj:j<3):(Pg.fin m q f tp pl b).2 j=f j:=by
 unfold Pg.fin;split
 ·rfl
 ·exact wY hj
theorem W7{tp pl r:Nat}{b:jn}{j:Nat}(hj:j<3):(Pg.Tg m q f tp pl r b).2 j=f j:=by
 unfold Pg.Tg;split
 ·split
  ·rfl
  ·rw[Gt hj,wY hj]
 ·exact Gt hj
theorem E3{idx:Int}{b:jn}{j:Nat}(hj:j<3):(Pg.file m q f idx b).2 j=f j:=by
 unfold Pg.file;split
 ·rfl
 ·split
  ·rfl
  ·split
   ·split
    ·rfl
    ·show tB _ j=f j;rw[wY hj,FC hj (by omega)]
   ·split
    ·split
     ·exact A9 hj
     ·rw[Gt hj,FC hj (by omega),A9 hj]
    ·split
     ·exact A9 hj
     ·rw[W7 hj,FC hj (by omega),A9 hj]
theorem wR(m:Pm)(len:Nat){j:Nat}(hj:j<3):∀ (l:List A1) (s:Nat) (q:Pg) (f:kM) (b:jn),(yl m len l s q f b).2 j=f j
 | [],_,_,_,_=>rfl
 | e :: l,s,q,f,b=>by
  rw[YD];split
  ·rfl
  ·split
   ·rw[wR m len hj l,E3 hj]
   ·exact wR m len hj l _ _ _ _
theorem Fa(m:Pm){j:Nat}(hj:j<3):∀ (l:List (Int × jn)) (q:Pg) (f:kM),(YM m l q f).2 j=f j
 | [],_,_=>rfl
 | d :: l,q,f=>by
  unfold YM;split
  ·rfl
  ·rw[Fa m hj l,E3 hj]
theorem RN{t:nL}{j:Nat}(hj:j<3):(yO m q t).2 j=Yr t j:=by
 unfold yO;simp only;split
 ·rw[Fa m hj];split
  ·exact wR m _ hj _ _ _ _ _
  ·rfl
 ·split
  ·exact wR m _ hj _ _ _ _ _
  ·rfl
def wm(L:Int)(i:Int):Nat:=(1+L).toNat+i.toNat / 16
def T1(i:Int):Nat:=64*(i.toNat % 16)
theorem Cy{m:Pm}:∀ (l:List nL) (q:Pg),q.full=true->(zK m l q).full=true
 | [],_,h=>h
 | t :: l,q,h=>by rw[Z3,aU h];exact h
theorem It{t:nL}(h:t.lh<1\/m.x.I<t.lh):(Pg.item m q t).full=true:=by unfold Pg.item;rw[aU h]
theorem RP(hm:Bx m B L I)(hg:Zy B L I)(h:PS m q){t:nL}(ht:yv t)(hf:(Pg.item m q t).full=false) :
   1<=t.lh/\t.lh<=I/\∃ c,(Pg.item m q t).L[wm L t.lh]?=some c/\jR c/\∀ j,j<3->ZD c (T1 t.lh) j=Yr t j:=by
 have hx:m.x=zf B L I:=hm.x
 have hI:m.x.I=I:=by rw[hx];rfl
 have hN:m.x.nodeAt=1+L:=by rw[hx];rfl
 have KI:¬ (t.lh<1\/m.x.I<t.lh):=fun hh=>by rw[It hh]at hf;cases hf
 obtain⟨g1,g2,g3,g4,g5,g6,g7⟩:=id hg
 have hd:(m.da:Int)=(zf B L I).kb:=by rw[<- hm.ok.da,hx]
 have hB:(m.B:Int)=B:=hm.B
 simp only[zf]at hd g7
 have hk:=Cw hm.ok ht h.ok h.z
 refine⟨by omega,by omega,zL ((yO m q t).1.L.getD (wm L t.lh) zB) (T1 t.lh) (mP (yO m q t).2),?_,?_,fun j hj=>?_⟩
 · unfold Pg.item
   rw[aH KI,hN]
   show((yO m q t).1.L.set (wm L t.lh) _)[wm L t.lh]?=_
   rw[jX (by rw[hk.ok.len];unfold wm;omega)]
   rfl
 · have hc:jR ((yO m q t).1.L.getD (wm L t.lh) zB):=by
     rw[jr]
     cases e:(yO m q t).1.L[wm L t.lh]? with
     | none=>exact z6
     | some c=>exact hk.ok.is c (jV e)
   exact(yc hc.n (ZG _) (by unfold T1;omega)).b
 · have hc:jR ((yO m q t).1.L.getD (wm L t.lh) zB):=by
     rw[jr]
     cases e:(yO m q t).1.L[wm L t.lh]? with
     | none=>exact z6
     | some c=>exact hk.ok.is c (jV e)
   rw[Gd hc.n (by unfold T1;omega) hk.ino (by omega)]
   exact RN hj
theorem RQ(hm:Bx m B L I)(hg:Zy B L I)(h:PS m q){t:nL}(ht:yv t)(hf:(Pg.item m q t).full=false){i:Int}(hi:1<=i/\i<=I)(jZ:t.lh≠i){c:jn}(hc:q.L[wm L i]?=some c) :
   ∃ c',(Pg.item m q t).L[wm L i]?=some c'/\∀ j,j<16->ZD c' (T1 i) j=ZD c (T1 i) j:=by
 have hx:m.x=zf B L I:=hm.x
 have hN:m.x.nodeAt=1+L:=by rw[hx];rfl
 have hI:m.x.I=I:=by rw[hx];rfl
 have KI:¬ (t.lh<1\/m.x.I<t.lh):=fun hh=>by rw[It hh]at hf;cases hf
 obtain⟨g1,g2,g3,g4,g5,g6,g7⟩:=id hg
 have hd:(m.da:Int)=(zf B L I).kb:=by rw[<- hm.ok.da,hx]
 have hB:(m.B:Int)=B:=hm.B
 simp only[zf]at hd g7
 have hk:=Cw hm.ok ht h.ok h.z
 have ho:(yO m q t).1.L[wm L i]?=some c:=by rw[MR hm.ok h ht (by unfold wm;omega)];exact hc
 have hcb:=hk.ok.is c (jV ho)
 unfold Pg.item
 rw[aH KI,hN]
 show ∃ c',((yO m q t).1.L.set (wm L t.lh) _)[wm L i]?=some c'/\_
 by_cases e:wm L t.lh=wm L i
 · rw[e,jX (by rw[hk.ok.len];unfold wm;omega)]
   refine⟨_,rfl,fun j hj=>?_⟩
   rw[jr,show(1+L).toNat+t.lh.toNat / 16=wm L i from e,ho]
   refine Iu hcb.n (ZG _) (by omega) ?_ hj
   unfold wm at e
   unfold T1
   omega
 · rw[jy e]
   exact⟨c,ho,fun j _=>rfl⟩
theorem EK(hm:Bx m B L I)(hg:Zy B L I){i:Int}(hi:1<=i/\i<=I):∀ (l:List nL) (q:Pg) (c:jn),(∀ t∈l,yv t)->(∀ t∈l,t.lh≠i)->PS m q->(zK m l q).full=false->q.L[wm L i]?=some c ->
   ∃ c',(zK m l q).L[wm L i]?=some c'/\∀ j,j<16->ZD c' (T1 i) j=ZD c (T1 i) j
 | [],q,c,_,_,_,_,hc=>⟨c,hc,fun _ _=>rfl⟩
 | t :: l,q,c,hl,jZ,h,hf,hc=>by
   have ht:=hl t eH
   rw[Z3]at hf ⊢
   cases hq:q.full with
   | true=>rw[hq,aU rfl]at hf;rw[hf]at hq;cases hq
   | false=>
     rw[hq,aH (by decide)]at hf
     rw[aH (by decide)]
     have hft:(Pg.item m q t).full=false:=by
       cases e:(Pg.item m q t).full with
       | false=>rfl
       | true=>rw[Cy l _ e]at hf;cases hf
     obtain⟨c1,h1,e1⟩:=RQ hm hg h ht hft hi (jZ t eH) hc
     obtain⟨c2,h2,e2⟩:=EK hm hg hi l _ c1 (fun x hx=>hl x (dH _ hx)) (fun x hx=>jZ x (dH _ hx)) (qg hm hg h ht) hf h1
     exact⟨c2,h2,fun j hj=>by rw[e2 j hj,e1 j hj]⟩
theorem EM(hm:Bx m B L I)(hg:Zy B L I):∀ (l:List nL) (q:Pg),(∀ t∈l,yv t)->(l.map (·.lh)).Nodup->PS m q->(zK m l q).full=false->∀ t∈l,
   1<=t.lh/\t.lh<=I/\∃ c,(zK m l q).L[wm L t.lh]?=some c/\∀ j,j<3->ZD c (T1 t.lh) j=Yr t j
 | [],q,_,_,_,_,t,ht=>by cases ht
 | t :: l,q,hl,lj,h,hf,u,hu=>by
   have ht:=hl t eH
   rw[jb,jo]at lj
   rw[Z3]at hf ⊢
   cases hq:q.full with
   | true=>rw[hq,aU rfl]at hf;rw[hf]at hq;cases hq
   | false=>
     rw[hq,aH (by decide)]at hf
     rw[aH (by decide)]
     have hft:(Pg.item m q t).full=false:=by
       cases e:(Pg.item m q t).full with
       | false=>rfl
       | true=>rw[Cy l _ e]at hf;cases hf
     have hk:=qg hm hg h ht
     rcases jg.1 hu with e | e
     · subst e
       obtain⟨r1,r2,c,h1,_,e1⟩:=RP hm hg h ht hft
       obtain⟨c2,h2,e2⟩:=EK hm hg ⟨r1,r2⟩ l _ c (fun x hx=>hl x (dH _ hx)) (fun x hx e=>lj.1 (by rw[<- e];exact iT.2 ⟨x,hx,rfl⟩)) hk hf h1
       exact⟨r1,r2,c2,h2,fun j hj=>by rw[e2 j (by omega),e1 j hj]⟩
     · exact EM hm hg l _ (fun x hx=>hl x (dH _ hx)) lj.2 hk hf u e
theorem RJ(hm:Bx m B L I)(hg:Zy B L I){q:Pg}(sd:Nat){i:Nat}(h1:1+L<=i)(h2:(i:Int)<1+L+(I+16) / 16):(ZW m q sd)[i]?=q.L[i]?:=by
 have hx:m.x=zf B L I:=hm.x;obtain⟨g1,g2,g3,g4,g5,g6,g7⟩:=id hg;have hd:(m.da:Int)=(zf B L I).kb:=by rw[<- hm.ok.da,hx]
 have hb:m.x.lM=1+L+(I+16) / 16:=by rw[hx];rfl
 have ha:m.x.logAt=1:=by rw[hx];rfl
 have hL:m.x.L=L:=by rw[hx];rfl
 simp only[zf]at hd g7;have adh:=qm (m:=m) (c:=q.c) (sd:=sd) (L:=q.L.set 0 (yb m.x)) (i:=i) (by rw[hb];omega) (by omega) m.B;rw[jy (by omega)]at adh;unfold ZW;split
 ·have agI:sd % (m.x.L.toNat - 1)<m.x.L.toNat - 1:=kV _ (by rw[hL];omega);rw[jy (by rw[ha];rw[hL]at agI ⊢;omega)];exact adh
 ·exact adh
theorem RK(hm:Bx m B L I)(hg:Zy B L I){kU:List nL}(mY:∀ t∈kU,yv t)(lj:(kU.map (·.lh)).Nodup)(hf:(zK m kU (nE m)).full=false)(sd:Nat){t:nL}(ht:t∈kU) :
   1<=t.lh/\t.lh<=I/\∀ j,j<3->ZD (z9 (Y3 0 (ZW m (zK m kU (nE m)) sd)) (1+L+((t.lh.toNat / 16:Nat):Int))) (64*(t.lh.toNat % 16)) j=Yr t j:=by
 obtain⟨g1,g2,g3,g4,g5,g6,g7⟩:=id hg
 obtain⟨r1,r2,c,hc,e⟩:=EM hm hg kU (nE m) mY lj (B5 hm.ok) hf t ht
 refine⟨r1,r2,fun j hj=>?_⟩
 have agK:=RJ hm hg (q:=zK m kU (nE m)) sd (i:=wm L t.lh) (by unfold wm;omega) (by unfold wm;omega)
 rw[hc]at agK
 have:=rK _ 0 (wm L t.lh) c agK
 rw[aR,show((wm L t.lh:Nat):Int)=1+L+((t.lh.toNat / 16:Nat):Int) by unfold wm;omega]at this
 rw[this]
 exact e j hj
theorem Rv{kU:List nL}{fr sp:Int}{m0:Pm}{fs:List Fl}(oa:JC B L I kU fr sp m0 fs)(hm:Bx m B L I)(hf:(zK m kU (nE m)).full=false)(mY:∀ t∈kU,yv t)(sd:Nat):ZD (z9 (Y3 0 (ZW m (zK m kU (nE m)) sd)) (1+L)) 64 0=2:=by
 obtain⟨g1,g2,g3,g4,g5,g6,g7⟩:=id oa.ok;have Sd:=oa.kU;have uK:=oa.files;have hn1:=oa.sound.nodes.1 1 (by omega);generalize Y3 0 (ZW m0 (zK m0 kU (nE m0)) 0)=l0 at Sd uK hn1;have akS:kU.map (·.lh)=(Iy B L I l0 I.toNat).map fun i:Nat=>(i:Int):=by
  rw[Sd,uK.kU,ad8];rfl
 have lj:(kU.map (·.lh)).Nodup:=by
  rw[akS];have hr:((List.range I.toNat).map (·+1)).Nodup:=List.pairwise_map.2 (List.Pairwise.imp (R:=fun a b=>a≠b) (fun {a b} II (e:a+1=b+1)=>II (by omega)) List.nodup_range);have hp:(Iy B L I l0 I.toNat).Nodup:=List.Pairwise.filter _ hr;exact List.pairwise_map.2 (List.Pairwise.imp (R:=fun(a b:Nat)=>a≠b) (fun {a b:Nat} II (e:(a:Int)=(b:Int))=>II (by omega)) hp)
 have uA:YP B L I l0 1 0=2:=by
  by_cases e:YP B L I l0 1 0=2
  ·exact e
  ·exact absurd (.inr (.inr ⟨rfl,.inl e⟩)) hn1
 obtain⟨x,hx,hxi⟩:=uK.has (i:=1) (by omega) (by omega) (by omega);have kL:rI l0 x∈kU:=by
  rw[Sd];exact iT.2 ⟨x,hx,rfl⟩
 obtain⟨r1,r2,e⟩:=RK hm oa.ok mY lj hf sd kL;have e0:=e 0 (by omega);have o8:(rI l0 x).lh=1:=by show(x.i:Int)=1;omega
 rw[o8]at e0;have Sb:Yr (rI l0 x) 0=2:=by
  show x.f 0=2;rw[(uK.is x hx).1,hxi];exact uA
 rw[Sb]at e0;have e1:1+L+((((1:Int).toNat / 16:Nat)):Int)=1+L:=by
  show 1+L+((0:Nat):Int)=1+L;omega
 rw[e1]at e0;exact e0
end
def Zt(s:DS)(cs:List Pl)(a:Int):jn:=match Zl cs a with
 | some x=>x.data
 | none=>s.now a
structure Vw(s:DS)(cs:List Pl):Prop where
 nd:(cs.map (·.at_)).Nodup
 J4:∀ y∈cs,y.j7=false->y.data=s.now y.at_
theorem Zi{cs:List Pl}(hn:(cs.map (·.at_)).Nodup){a:Int}{x:Pl}:Zl cs a=some x↔x∈cs/\x.at_=a:=by
 constructor
 ·intro h;obtain⟨l1,l2,e,h1,_,_⟩:=qi h;exact⟨by rw[e];simp,h1⟩
 ·rintro⟨hx,e⟩;cases h:Zl cs a with
  | none=>exact absurd e (Yz.1 h x hx)
  | some y=>
   obtain⟨l1,l2,ey,h1,h2,_⟩:=qi h;rw[ey]at hx hn;rcases fH.1 hx with h3 | h3
   ·exact absurd e (h2 x h3)
   ·rcases jg.1 h3 with h4 | h4
    ·rw[h4]
    ·rw[cU,jb]at hn;have h5:=(jJ.1 hn).2.1;rw[jo]at h5;exact absurd (iT.2 ⟨x,h4,by rw[e,h1]⟩) h5.1
structure PF(cs c1:List Pl)(a:Int):Prop where
 nd:(c1.map (·.at_)).Nodup
 sub:∀ y∈c1,y∈cs/\y.at_≠a
 lost:∀ y∈cs,y.at_≠a->y∈c1\/y.j7=false
theorem xj{s s':DS}{cs c1:List Pl}{a:Int}(h:Vw s cs)(hb:PF cs c1 a){z:Pl}(hz:z.at_=a)(hs:s'.now=s.now)(b:Int):Zt s' (c1++[z]) b=if b=a then z.data else Zt s cs b:=by
 have hn:((c1++[z]).map (·.at_)).Nodup:=u2 hb.nd fun y hy=>by rw[hz];exact(hb.sub y hy).2
 by_cases e:b=a
 ·rw[aU e];have:Zl (c1++[z]) b=some z:=(Zi hn).2 ⟨by simp,by rw[hz,e]⟩;unfold Zt;rw[this]
 ·rw[aH e];cases h1:Zl cs b with
  | some y=>
   obtain⟨m1,m2⟩:=(Zi h.nd).1 h1;have hv:Zt s cs b=y.data:=by unfold Zt;rw[h1]
   rw[hv];by_cases hy:y∈c1
   ·have:Zl (c1++[z]) b=some y:=(Zi hn).2 ⟨jI _ hy,m2⟩;unfold Zt;rw[this]
   ·have uy:=(hb.lost y m1 (by rw[m2];exact e)).resolve_left hy;have:Zl (c1++[z]) b=none:=by
     rw[Yz];intro w hw hwe;rcases fH.1 hw with h3 | h3
     ·have h4:=(hb.sub w h3).1;have h5:=(Zi h.nd).2 ⟨h4,hwe⟩;rw[h1]at h5;injection h5 with h5;exact hy (h5 ▸ h3)
     ·rw[eU.1 h3,hz]at hwe;exact e hwe.symm
    unfold Zt;rw[this];show s'.now b=y.data;rw[hs,h.J4 y m1 uy,m2]
  | none=>
   have hv:Zt s cs b=s.now b:=by unfold Zt;rw[h1]
   have:Zl (c1++[z]) b=none:=by
    rw[Yz];intro w hw hwe;rcases fH.1 hw with h3 | h3
    ·exact Yz.1 h1 w (hb.sub w h3).1 hwe
    ·rw[eU.1 h3,hz]at hwe;exact e hwe.symm
   rw[hv];unfold Zt;rw[this];show s'.now b=s.now b;rw[hs]
theorem vI{cs:List Pl}{a:Int}{x:Pl}(hn:(cs.map (·.at_)).Nodup)(h:Zl cs a=some x):PF cs (u0 cs a) a/\ZJ cs=ZJ (u0 cs a)+(if x.j7 then 1 else 0):=by
 obtain⟨l1,l2,e,h1,_,h2⟩:=qi h;rw[h2];subst e;obtain⟨n1,n2⟩:=Cf hn;refine⟨⟨n1,fun y hy=>⟨pU.2 (.inr hy),by rw[<- h1];exact n2 y hy⟩,fun y hy jZ=>?_⟩,?_⟩
 ·rcases pU.1 hy with e | e
  ·rw[e]at jZ;exact absurd h1 jZ
  ·exact .inl e
 ·simp only[qj,YA];omega
theorem Fm{cs c1:List Pl}{a size:Int}(hn:(cs.map (·.at_)).Nodup)(h:Zl cs a=none)(hr:oH size cs=some c1):PF cs c1 a/\ZJ cs=ZJ c1:=by
 have ha:=Yz.1 h;obtain⟨_,h2⟩:=BV hr;rcases h2 with ⟨_,rfl⟩ | ⟨l1,x,l2,rfl,rfl,hx,_⟩
 ·exact⟨⟨hn,fun y hy=>⟨hy,ha y hy⟩,fun y hy _=>.inl hy⟩,rfl⟩
 ·obtain⟨n1,n2⟩:=Cf hn;refine⟨⟨n1,fun y hy=>⟨pU.2 (.inr hy),ha y (pU.2 (.inr hy))⟩,fun y hy jZ=>?_⟩,?_⟩
  ·rcases pU.1 hy with e | e
   ·rw[e];exact .inr hx
   ·exact .inl e
  ·simp only[qj,YA,hx,jl,jD];omega
theorem Mj{cs:List Pl}{size:Int}(h:ZJ cs<size):∃ c1,oH size cs=some c1:=by
 unfold oH;rw[aH (by omega)];split
 ·exact⟨_,rfl⟩
 ·exact⟨_,rfl⟩
theorem GK{s s':DS}{cs c1:List Pl}{a:Int}(h:Vw s cs)(hb:PF cs c1 a){z:Pl}(hz:z.at_=a)(hs:s'.now=s.now)(hzs:z.j7=false->z.data=s.now a):Vw s' (c1++[z]):=by
 refine⟨u2 hb.nd fun y hy=>by rw[hz];exact(hb.sub y hy).2,fun y hy hf=>?_⟩;rw[hs];rcases fH.1 hy with h1 | h1
 ·exact h.J4 y (hb.sub y h1).1 hf
 ·rw[eU.1 h1]at hf ⊢;rw[hz];exact hzs hf
theorem Ej{size:Int}{s:DS}{cs:List Pl}(h:Vw s cs){a:Int}(hw:s.ly a=0)(hf:ZJ cs<size) :
   ∃ s' ke,Zk size s cs a=(s',ke,Zt s cs a,0)/\JA s s'/\Vw s' ke/\(∀ b,Zt s' ke b=Zt s cs b)/\ZJ ke=ZJ cs/\(∀ b x,Zl cs b=some x->x.j7=true->Zl ke b=some x)/\∀ y∈ke,y∈cs\/y.at_=a:=by
 unfold Zk
 rw[aH (by omega)]
 have kp:∀ {c1:List Pl} {z:Pl} {s':DS},PF cs c1 a->z.at_=a->Vw s' (c1++[z])->(∀ x,Zl cs a=some x->x.j7=true->x=z)->∀ b x,Zl cs b=some x->x.j7=true->Zl (c1++[z]) b=some x:=by
   intro c1 z s' hb hz hv hx b x h1 h2
   obtain⟨m1,m2⟩:=(Zi h.nd).1 h1
   refine(Zi hv.nd).2 ⟨?_,m2⟩
   by_cases e:b=a
   · rw[hx x (e ▸ h1) h2];simp
   · rcases hb.lost x m1 (by rw[m2];exact e) with h3 | h3
     · exact jI _ h3
     · rw[h3]at h2;cases h2
 cases h1:Zl cs a with
 | some x=>
   obtain⟨hb,Uc⟩:=vI h.nd h1
   obtain⟨m1,m2⟩:=(Zi h.nd).1 h1
   have hv:Zt s cs a=x.data:=by unfold Zt;rw[h1]
   have KF:Vw s (u0 cs a++[x]):=GK h hb m2 rfl fun Ud=>by rw[h.J4 x m1 Ud,m2]
   refine⟨s,u0 cs a++[x],by rw[hv],JA.refl s,KF,fun b=>?_,?_,kp hb m2 KF (fun y hy _=>by rw[h1]at hy;injection hy with hy;exact hy.symm),fun y hy=>?_⟩
   · rw[xj h hb m2 rfl b]
     by_cases e:b=a
     · rw[aU e,e,hv]
     · rw[aH e]
   · rw[qj,YA,uc];omega
   · rcases fH.1 hy with h3 | h3
     · exact .inl (hb.sub y h3).1
     · rw[eU.1 h3];exact .inr m2
 | none=>
   obtain⟨c1,hr⟩:=Mj hf
   obtain⟨hb,Uc⟩:=Fm h.nd h1 hr
   have hv:Zt s cs a=s.now a:=by unfold Zt;rw[h1]
   have mL:=DS.NO s a
   rw[hr]
   have KF:Vw (s.read a).1 (c1++[⟨a,s.now a,false⟩]):=GK h hb rfl mL.now fun _=>rfl
   refine⟨(s.read a).1,c1++[⟨a,s.now a,false⟩],by rw[hv],mL,KF,fun b=>?_,?_,kp hb rfl KF (fun y hy _=>by rw[h1]at hy;cases hy),fun y hy=>?_⟩
   · rw[xj h hb rfl mL.now b]
     by_cases e:b=a
     · rw[aU e,e,hv]
     · rw[aH e]
   · rw[qj,YA,uc]
     simp only[jl,jD];omega
   · rcases fH.1 hy with h3 | h3
     · exact .inl (hb.sub y h3).1
     · rw[eU.1 h3];exact .inr rfl
theorem P9{size:Int}{s:DS}{cs:List Pl}(h:Vw s cs){a:Int}{d:jn}(hw:s.ly a=0)(hf:ZJ cs<size) :
   ∃ ke,pa size s cs a d=(ke,0)/\Vw s ke/\(∀ b,Zt s ke b=if b=a then d else Zt s cs b)/\ZJ ke<=ZJ cs+1/\(∀ x,Zl cs a=some x->x.j7=true->ZJ ke=ZJ cs)/\(∃ x,Zl ke a=some x/\x.j7=true)/\(∀ b x,b≠a->Zl cs b=some x->x.j7=true->Zl ke b=some x):=by
 unfold pa uQ
 rw[aH (by omega)]
 have fin:∀ {c1:List Pl},PF cs c1 a->ZJ c1<=ZJ cs->(∀ x,Zl cs a=some x->x.j7=true->ZJ c1+1=ZJ cs)->∃ ke,((c1++[⟨a,d,true⟩],0):List Pl × Int)=(ke,0)/\Vw s ke/\(∀ b,Zt s ke b=if b=a then d else Zt s cs b)/\ZJ ke<=ZJ cs+1/\(∀ x,Zl cs a=some x->x.j7=true->ZJ ke=ZJ cs)/\(∃ x,Zl ke a=some x/\x.j7=true)/\(∀ b x,b≠a->Zl cs b=some x->x.j7=true->Zl ke b=some x):=by
   intro c1 hb h1 h2
   have KF:=GK (s':=s) h hb (z:=⟨a,d,true⟩) rfl rfl fun e=>by cases e
   refine⟨_,rfl,KF,fun b=>xj h hb rfl rfl b,?_,fun x hx XY=>?_,⟨⟨a,d,true⟩,(Zi KF.nd).2 ⟨by simp,rfl⟩,rfl⟩,fun b x jZ hx XY=>?_⟩
   · rw[qj,YA,uc]
     simp only[jO];omega
   · have:=h2 x hx XY
     rw[qj,YA,uc]
     simp only[jO];omega
   · obtain⟨m1,m2⟩:=(Zi h.nd).1 hx
     refine(Zi KF.nd).2 ⟨?_,m2⟩
     rcases hb.lost x m1 (by rw[m2];exact jZ) with h3 | h3
     · exact jI _ h3
     · rw[h3]at XY;cases XY
 cases h1:Zl cs a with
 | some x=>
   obtain⟨hb,Uc⟩:=vI h.nd h1
   rw[h1]at fin
   refine fin hb (by split at Uc<;>omega) fun y hy PK=>?_
   injection hy with hy
   rw[hy,PK]at Uc
   simp only[jO]at Uc
   omega
 | none=>
   obtain⟨c1,hr⟩:=Mj hf
   obtain⟨hb,Uc⟩:=Fm h.nd h1 hr
   rw[h1]at fin
   rw[hr]
   exact fin hb (by omega) fun y hy=>by cases hy
theorem B8{cs:List Pl}{a:Int}{z:Pl}(h:Zl cs a=some z):(u0 cs a).length+1=cs.length:=by
 obtain⟨l1,l2,e,_,_,h2⟩:=qi h;rw[h2,e];simp only[cR,gR];omega
theorem Et{cs c1:List Pl}{size:Int}(h:oH size cs=some c1)(hl:(cs.length:Int)<=size):(c1.length:Int)+1<=size:=by
 obtain⟨_,h2⟩:=BV h;rcases h2 with ⟨h3,rfl⟩ | ⟨l1,z,l2,rfl,rfl,_,_⟩
 ·omega
 ·simp only[cR,gR]at hl ⊢;omega
theorem xr{size:Int}{s:DS}{cs:List Pl}{a:Int}(hl:(cs.length:Int)<=size):((Zk size s cs a).2.1.length:Int)<=size:=by
 unfold Zk;split
 ·exact hl
 ·split
  ·rename_i z hz;have:=B8 hz;simp only[cR,gR,jW];omega
  ·split
   ·exact hl
   ·rename_i c1 hc;have:=Et hc hl;simp only[cR,gR,jW];omega
theorem Q1{size:Int}{s:DS}{cs:List Pl}{a:Int}{d:jn}(hl:(cs.length:Int)<=size):((pa size s cs a d).1.length:Int)<=size:=by
 unfold pa uQ;split
 ·exact hl
 ·cases hz:Zl cs a with
  | some z=>
   have:=B8 hz;simp only[cR,gR,jW];omega
  | none=>
   simp only;cases hr:oH size cs with
   | none=>exact hl
   | some c1=>
    have:=Et hr hl;simp only[cR,gR,jW];omega
noncomputable def oV(l:List Int):Int->Option Value:=fun k=>if k∈l then some (.agg #[]) else none
def mA(p cb:Nat)(size:Int)(s:DS)(cs:List Pl):Ob:=
 ⟨fun H O=>(∃ Od Oc,jQ H p s Od/\kJ H cb p size cs Oc/\(∀ b,Od b->¬ Oc b)/\(∀ b,Od b->O b)/\∀ b,Oc b->O b)/\∀ b,O b->b<H.size,fun h=>h.2,
  fun⟨⟨Od,Oc,h1,h2,h3,h4,h5⟩,_⟩ hb hs ho hl=>⟨⟨Od,Oc,h1.of (fun b hh=>hb b (h4 b hh)) hs,h2.of (fun b hh=>hb b (h5 b hh)) hs,h3,fun b hh=>ho b (h4 b hh),fun b hh=>ho b (h5 b hh)⟩,hl⟩⟩
def nA(mb:Nat)(f:Int->Option Value)(n:Nat):Ob:=.of (fun H O=>kq H mb f n/\O mb) fun h hb _ ho=>⟨h.1.of (hb _ h.2),ho _ h.2⟩
noncomputable def pD(w:Option (List Int))(v:Value):Ob:=.of (fun H O=>match w with
   | none=>v=.map none
   | some l=>∃ wb,v=.map (some wb)/\kq H wb (oV l) l.length/\O wb) fun {H H' O O'} h hb _ ho=>by
 cases w with
 | none=>exact h
 | some l=>
   obtain⟨wb,h1,h2,h3⟩:=h
   exact⟨wb,h1,h2.of (hb _ h3),ho _ h3⟩
structure mS where
 s:DS
 cs:List Pl
 order:List Int
 open_:Bool
 room:Int
 wrote:Option (List Int)
 jA:Int
 steps:Int
noncomputable def Yc(lb p cb mb:Nat)(ov wv:Value)(x:kh)(mine:Int)(P:mS):List Ob:=
 [mA p cb (x.L+32) P.s P.cs,nA mb (oV P.order) P.order.length,.sl 3 1 ov (P.order.map nI),pD P.wrote wv,.box lb (yN ov mb p cb x mine P.open_ P.room wv P.jA P.steps) 100]
noncomputable def Yv(lb p:Nat)(x:kh)(mine:Int)(P:mS):Ob:=
 ⟨fun H O=>∃ cb mb ov wv,(Ob.all (Yc lb p cb mb ov wv x mine P)).at_ H O,
  fun⟨_,_,_,_,h⟩=>Ob.own _ h,fun⟨cb,mb,ov,wv,h⟩ hb hs ho hl=>⟨cb,mb,ov,wv,Ob.frame _ h hb hs ho hl⟩⟩
structure UF(x:kh)(mine:Int)(P:mS):Prop where
 alive:P.s.jt=false
 mine:0<mine/\P.s.kB=mine
 vw:Vw P.s P.cs
 n:x.B<=P.s.n
 reads:P.s.reads<4611686018427387904/\0<=P.s.reads
 lay:x.logAt=1/\32<=x.L/\x.L<=256/\x.B<=1048576
 j7:ZJ P.cs<=P.order.length
 M9:(P.order.length:Int)<=x.L - 1
 tu:(P.cs.length:Int)<=x.L+32
 held:∀ a∈P.order,∃ y,Zl P.cs a=some y/\y.j7=true
structure Rd(x:kh)(P:mS)(s':DS)(ke:List Pl)(m:Int):Prop where
 n:s'.n=P.s.n
 now:s'.now=P.s.now
 held:s'.held=P.s.held
 jC:s'.jC=P.s.jC
 jt:s'.jt=P.s.jt
 made:s'.made=P.s.made
 jS:s'.jS=P.s.jS
 kB:s'.kB=P.s.kB
 pl:s'.pl=P.s.pl
 hl:s'.hl=P.s.hl
 reads:P.s.reads<=s'.reads/\s'.reads<=P.s.reads+m
 vw:Vw s' ke
 view:∀ b,Zt s' ke b=Zt P.s P.cs b
 j7:ZJ ke=ZJ P.cs
 Gb:∀ b y,Zl P.cs b=some y->y.j7=true->Zl ke b=some y
 tu:(ke.length:Int)<=x.L+32
 off:(∀ y∈P.cs,y.at_<x.logAt\/x.logAt+x.L<=y.at_)->∀ y∈ke,y.at_<x.logAt\/x.logAt+x.L<=y.at_
theorem Rd.refl{x:kh}{mine:Int}{P:mS}(h:UF x mine P):Rd x P P.s P.cs 0:=⟨rfl,rfl,rfl,rfl,rfl,rfl,rfl,rfl,rfl,rfl,by omega,h.vw,fun _=>rfl,rfl,fun _ _ h _=>h,h.tu,id⟩
theorem Rd.mk1{x:kh}{P:mS}{s':DS}{ke:List Pl}(hs:JA P.s s')(hv:Vw s' ke)(h1:∀ b,Zt s' ke b=Zt P.s P.cs b)(h2:ZJ ke=ZJ P.cs)(h3:∀ b y,Zl P.cs b=some y->y.j7=true->Zl ke b=some y)(h4:(ke.length:Int)<=x.L+32)(h5:(∀ y∈P.cs,y.at_<x.logAt\/x.logAt+x.L<=y.at_)->∀ y∈ke,y.at_<x.logAt\/x.logAt+x.L<=y.at_):Rd x P s' ke 1:=
 ⟨hs.n,hs.now,hs.held,hs.jC,hs.jt,hs.made,hs.jS,hs.kB,hs.pl,hs.hl,hs.reads,hv,h1,h2,h3,h4,h5⟩
theorem Rd.trans{x:kh}{P:mS}{s1 s2:DS}{c1 c2:List Pl}{m n k:Int}(h:Rd x P s1 c1 m)(g:Rd x { P with s:=s1,cs:=c1 } s2 c2 n)(hk:m+n<=k):Rd x P s2 c2 k:=by
 have h1:=h.reads;have h2:=g.reads;have h2:s1.reads<=s2.reads/\s2.reads<=s1.reads+n:=h2;exact⟨g.n.trans h.n,g.now.trans h.now,g.held.trans h.held,g.jC.trans h.jC,g.jt.trans h.jt,g.made.trans h.made,g.jS.trans h.jS,g.kB.trans h.kB,g.pl.trans h.pl,g.hl.trans h.hl,by omega,g.vw,fun b=>(g.view b).trans (h.view b),g.j7.trans h.j7,fun b y h1 h2=>g.Gb b y (h.Gb b y h1 h2) h2,g.tu,fun h0=>g.off (h.off h0)⟩
theorem Rd.mono{x:kh}{P:mS}{s':DS}{ke:List Pl}{m n:Int}(h:Rd x P s' ke m)(hm:m<=n):Rd x P s' ke n:={ h with reads:=⟨h.reads.1,by have:=h.reads.2;omega⟩ }
theorem Rd.ok{x:kh}{mine:Int}{P:mS}{s':DS}{ke:List Pl}{m:Int}(hs:Rd x P s' ke m)(h:UF x mine P)(hr:P.s.reads+m<4611686018427387904):UF x mine { P with s:=s',cs:=ke }:=by
 have h1:=hs.reads;have h2:=h.reads;exact⟨by show s'.jt=false;rw[hs.jt];exact h.alive,⟨h.mine.1,by show s'.kB=mine;rw[hs.kB];exact h.mine.2⟩,hs.vw,by show x.B<=s'.n;rw[hs.n];exact h.n,⟨by show s'.reads<_;omega,by show 0<=s'.reads;omega⟩,h.lay,by show ZJ ke<=_;rw[hs.j7];exact h.j7,h.M9,hs.tu,fun a ha=>by
  obtain⟨y,q1,q2⟩:=h.held a ha;exact⟨y,hs.Gb a y q1 q2,q2⟩⟩
section
variable{H:Hp}{R:Value->Hp->Prop}{lb p cb mb:Nat}{s:DS}{cs:List Pl}{x:kh}{mine:Int}{O:Nat->Prop}{ov wr:Value}{op:Bool}{room co st:Int}
theorem Ff(ht:H[lb]?=some (.cells (yN ov mb p cb x mine op room wr co st) 100))(hd:jQ H p s O)(hm:0<mine/\s.kB=mine)(k:R (.int .i64 (if s.jt then 3 else 0)) H):Fc TP 36 #[zD lb] H R:=by
 obtain⟨q2,q3,q4,q5,q7,Vz⟩:=wu (os:=ov) (mb:=mb) (p:=p) (cb:=cb) (x:=x) (mine:=mine) (op:=op) (room:=room) (wr:=wr) (co:=co) (st:=st);refine fn36 ?_;simp only[sh36,Ul,UA,UI,Uf,Uu,Uj,Uv,U1,zm];refine Zg.mk (fun t H'=>H'=H/\t.1=.bool false) ?_ ?_
 ·rintro⟨t,u⟩ H1 ⟨rfl,vM⟩;simp only at vM;subst vM;simp only[zh,zl,za,zc,aR,zi ht,q2,Vz];refine wQ hd ?_;have e:decide (0<mine/\s.kB=mine)=true:=gU hm;rw[e,Bool.and_true];cases kH:s.jt<;>simp only[kH,jO,jl,jD,zx,iW,jN,za,zA,zh]at k ⊢<;>exact k
 ·simp only[Z6 XJ,za,zh,zl,zc,aR,zi ht,q2,Z6 LW];exact⟨trivial,trivial⟩
theorem Co(ht:H[lb]?=some (.cells (yN ov mb p cb x mine op room wr co st) 100)){a:Int}(hx:0<=x.logAt/\x.logAt<4611686018427387904/\0<=x.L/\x.L<4611686018427387904)(k:R (.bool (decide (x.logAt<=a/\a<x.logAt+x.L))) H):Fc TP 45 #[zD lb,.int .i64 a] H R:=by
 obtain⟨q2,q3,q4,q5,q7,Vz⟩:=wu (os:=ov) (mb:=mb) (p:=p) (cb:=cb) (x:=x) (mine:=mine) (op:=op) (room:=room) (wr:=wr) (co:=co) (st:=st);refine fn45 ?_;simp only[sh45,Ul,UA,Ub,UI,U0,zl,za,zc,aR,Nat.reduceAdd,zi ht,q7,q5,zN,ze,zb];refine⟨fun h0=>?_,fun h0=>?_⟩
 ·rw[zd (by omega) (by omega),zk,za];have e:decide (a<x.logAt+x.L)=decide (x.logAt<=a/\a<x.logAt+x.L):=by rw[kr];omega
  rw[e];exact k
 ·have e:decide (x.logAt<=a/\a<x.logAt+x.L)=false:=by rw[jq];omega
  rw[e]at k;exact k
theorem pJ{S:Nat->Prop}{H0:Hp}{r:List Ob}{P:mS}(l:Lo S H0 H (Yc lb p cb mb ov wr x mine P++r)):H[lb]?=some (.cells (yN ov mb p cb x mine P.open_ P.room wr P.jA P.steps) 100)/\∃ Od Oc,jQ H p P.s Od/\kJ H cb p (x.L+32) P.cs Oc/\∀ b,Od b->¬ Oc b:=by
 refine⟨l.at (i:=4) rfl,?_⟩;obtain⟨O,ho⟩:=l.get (i:=0) (x:=mA p cb (x.L+32) P.s P.cs) rfl;obtain⟨⟨Od,Oc,h1,h2,h3,_⟩,_⟩:=ho;exact⟨Od,Oc,h1,h2,h3⟩
theorem B1{P:mS}(h:(Yv lb p x mine P).at_ H O)(kD:UF x mine P)(k:R (.int .i64 0) H):Fc TP 36 #[zD lb] H R:=by
 obtain⟨cb,mb,ov,wv,ha⟩:=h;obtain⟨ht,Od,Oc,hd,_⟩:=pJ (r:=[]) (Lo.open ha);refine Ff ht hd kD.mine ?_;rw[kD.alive];exact k
theorem VE{P:mS}(h:(Yv lb p x mine P).at_ H O)(kD:UF x mine P){a:Int}(h0:0<=a)(h1:a<x.B)(agP:a<1\/1+x.L<=a)
   (k:∀ H' O' s' ke,kS O O' H H'->(Yv lb p x mine { P with s:=s',cs:=ke }).at_ H' O'->Rd x P s' ke 1->jR (Zt P.s P.cs a)->R (.tuple #[.agg (Zt P.s P.cs a),.int .i64 0]) H'):Fc TP 18 #[zD lb,.int .i64 a] H R:=by
 obtain⟨XZ,hx2,hx3,hx4⟩:=kD.lay
 have mc:=h
 obtain⟨cb,mb,ov,wv,ha⟩:=h
 have hn:=kD.n
 have hf:=kD.j7
 have Gh:=kD.M9
 have hw:P.s.ly a=0:=by unfold DS.ly;rw[aH (by rw[kD.alive];decide),aH (by omega)]
 obtain⟨s',ke,e,Iz,KF,CB,Uc,hkp,kL⟩:=Ej (size:=x.L+32) kD.vw hw (by omega)
 have X9:=xr (size:=x.L+32) (s:=P.s) (cs:=P.cs) (a:=a) kD.tu
 rw[e]at X9
 refine fn18 ?_
 simp only[sh18,Ul,UL,UA,Us,Ub,Uz,Ux,UI,Uf,Uj,Uv,U1,ZI,za,zm]
 refine(Lo.open ha).jc fun b1 H1 e1 l1=>?_
 obtain⟨ht,Od,Oc,hd,hc,ahd⟩:=pJ (r:=[_]) l1
 obtain⟨q2,q3,q4,q5,q7,Vz⟩:=wu (os:=ov) (mb:=mb) (p:=p) (cb:=cb) (x:=x) (mine:=mine) (op:=P.open_) (room:=P.room) (wr:=wv) (co:=P.jA) (st:=P.steps)
 refine Ff ht hd kD.mine ?_
 rw[kD.alive]
 simp only[jl,jD]
 rw[zn,za,cH (by omega),zh]
 refine Zg.mk (fun t H'=>H'=H1/\t.1=.bool false) ?_ ?_
 · rintro⟨t,u⟩ H2 ⟨rfl,vM⟩
   simp only at vM
   subst vM
   rw[zh]
   refine Co ht (by omega) ?_
   rw[cH (by omega),zh]
   simp only[zl,zc,aR,bH,za]
   rw[zi ht,q3,za]
   obtain⟨O1,⟨⟨Od1,Oc1,d1,d2,d3,d4,d5⟩,dO⟩,pH⟩:=l1.call (i:=0) (x:=mA p cb (x.L+32) P.s P.cs) rfl
   refine Dm d1 d2 d3 kD.reads (by omega) fun H3 A0 k3 X4 qN EV=>?_
   have lK:=(HF (size:=x.L+32) d1 d2 a).1
   rw[e]at qN EV lK ⊢
   have l3:=pH H3 (mA p cb (x.L+32) s' ke) (fun b=>O1 b\/A0 b) ⟨k3.mono fun b _ hb=>by
       rcases hb with hb | hb
       · exact d4 b hb
       · exact d5 b hb,fun b hb=>by
       rcases hb with hb | hb
       · exact .inl hb
       · rcases X4 b hb with h2 | h2
         · exact .inl (d5 b h2)
         · exact .inr h2⟩ ⟨⟨Od1,A0,qN,EV,fun b hb qO=>by
       rcases X4 b qO with h2 | h2
       · exact d3 b hb h2
       · have:=d1.lt b hb;omega,fun b hb=>.inl (d4 b hb),fun b hb=>.inr hb⟩,fun b hb=>by
       rcases hb with hb | hb
       · exact jj (dO b hb) k3.le
       · exact EV.lt b hb⟩
   have l3:Lo O H H3 (Yc lb p cb mb ov wv x mine { P with s:=s',cs:=ke }++[.box b1 zB 65]):=l3
   rw[show zq (.tuple #[.agg (Zt P.s P.cs a),.int .i64 0]) 0=some (.agg (Zt P.s P.cs a)) from rfl,za,show zq (.tuple #[.agg (Zt P.s P.cs a),.int .i64 0]) 1=some (.int .i64 0) from rfl,za]
   refine l3.ret (i:=5) (K:=fun y H4=>R (.tuple #[y,.int .i64 0]) H4) rfl zw lK.size lK.ok fun H' l'=>?_
   obtain⟨O',NH,mq⟩:=Lo.close (l:=Yc lb p cb mb ov wv x mine { P with s:=s',cs:=ke }) (r:=[_]) l'
   exact k H' O' s' ke NH ⟨cb,mb,ov,wv,mq⟩ (.mk1 Iz KF CB Uc hkp X9 fun h0 y hy=>by
     rcases kL y hy with h3 | h3
     · exact h0 y h3
     · rw[h3,XZ];omega) lK
 · rw[zk,za,cH (by omega),zh]
   simp only[zl,zc,aR,bH,za]
   rw[zi ht,q4,za,zN,za,cH (by omega)]
   exact⟨trivial,rfl⟩
end
theorem Bq:oV []=fun _=>none:=by funext k;simp[oV]
section
variable{H:Hp}{R:Value->Hp->Prop}{lb p cb mb:Nat}{s:DS}{cs:List Pl}{x:kh}{mine:Int}{O:Nat->Prop}{ov wr:Value}{op:Bool}{room co st:Int}
theorem ab3(h:(ED lb p s cs x mine).at_ H O):(Yv lb p x mine ⟨s,cs,[],false,0,none,0,0⟩).at_ H O:=by
 obtain⟨⟨cb,mb,Od,Oc,hl,q1,q2,q3,q4⟩,hO⟩:=h;have Wp:lb<H.size:=(kQ.1 hl.top).1;refine⟨cb,mb,.slice none 0 0,.map none,⟨fun b=>if Od b\/Oc b then 1 else if b=mb then 2 else if b=lb then 5 else 0,⟨fun i y hy=>?_,fun b hb=>?_⟩,fun b hb=>?_⟩,hO⟩
 ·match i,hy with
  | 0,hy=>
   injection hy with hy;subst hy;refine⟨⟨Od,Oc,hl.dk,hl.ca,hl.dis,fun b hb=>?_,fun b hb=>?_⟩,fun b hb=>?_⟩
   ·show(if Od b\/Oc b then 1 else if b=mb then 2 else if b=lb then 5 else 0)=0+1;rw[aU (.inl hb)]
   ·show(if Od b\/Oc b then 1 else if b=mb then 2 else if b=lb then 5 else 0)=0+1;rw[aU (.inr hb)]
   ·have hb:(if Od b\/Oc b then 1 else if b=mb then 2 else if b=lb then 5 else 0)=0+1:=hb;by_cases e:Od b\/Oc b
    ·rcases e with e | e
     ·exact hl.dk.lt b e
     ·exact hl.ca.lt b e
    ·rw[aH e]at hb;split at hb
     ·omega
     ·split at hb<;>omega
  | 1,hy=>
   injection hy with hy;subst hy;refine⟨⟨by show kq H mb (oV []) 0;rw[Bq];exact hl.mp,?_⟩,fun b hb=>?_⟩
   ·show(if Od mb\/Oc mb then 1 else if mb=mb then 2 else if mb=lb then 5 else 0)=1+1;rw[aH (by rintro(e | e);exact hl.lo.2.2.1 e;exact hl.lo.2.2.2.1 e),aU rfl]
   ·have hb:(if Od b\/Oc b then 1 else if b=mb then 2 else if b=lb then 5 else 0)=1+1:=hb;split at hb
    ·omega
    ·split at hb
     ·rename_i e;rw[e];exact hl.mp.lt
     ·split at hb<;>omega
  | 2,hy=>
   injection hy with hy;subst hy;refine⟨⟨Sv.nil _ _ _,fun b hb=>by cases hb⟩,fun b hb=>?_⟩;have hb:(if Od b\/Oc b then 1 else if b=mb then 2 else if b=lb then 5 else 0)=2+1:=hb;split at hb
   ·omega
   ·split at hb
    ·omega
    ·split at hb<;>omega
  | 3,hy=>
   injection hy with hy;subst hy;refine⟨rfl,fun b hb=>?_⟩;have hb:(if Od b\/Oc b then 1 else if b=mb then 2 else if b=lb then 5 else 0)=3+1:=hb;split at hb
   ·omega
   ·split at hb
    ·omega
    ·split at hb<;>omega
  | 4,hy=>
   injection hy with hy;subst hy;refine⟨⟨hl.top,?_⟩,fun b hb=>?_⟩
   ·show(if Od lb\/Oc lb then 1 else if lb=mb then 2 else if lb=lb then 5 else 0)=4+1;rw[aH (by rintro(e | e);exact hl.lo.1 e;exact hl.lo.2.1 e),aH hl.lo.2.2.2.2,aU rfl]
   ·have hb:(if Od b\/Oc b then 1 else if b=mb then 2 else if b=lb then 5 else 0)=4+1:=hb;split at hb
    ·omega
    ·split at hb
     ·omega
     ·split at hb
      ·rename_i e;rw[e];exact Wp
      ·omega
  | n+5,hy=>simp[Yc]at hy
 ·have h1:¬ (Od b\/Oc b):=by
   rintro(e | e)
   ·have:=hl.dk.lt b e;omega
   ·have:=hl.ca.lt b e;omega
  have h2:b≠mb:=fun e=>by have:=hl.mp.lt;omega
  show(if Od b\/Oc b then 1 else if b=mb then 2 else if b=lb then 5 else 0)=0;rw[aH h1,aH h2,aH (by omega)]
 ·have hb:(if Od b\/Oc b then 1 else if b=mb then 2 else if b=lb then 5 else 0)≠0:=hb;by_cases e:Od b\/Oc b
  ·rcases e with e | e
   ·exact q1 b e
   ·exact q2 b e
  ·rw[aH e]at hb;by_cases e2:b=mb
   ·rw[e2];exact q3
   ·rw[aH e2]at hb;by_cases e3:b=lb
    ·rw[e3];exact q4
    ·rw[aH e3]at hb;exact absurd rfl hb
theorem NS{P:mS}(h:(Yv lb p x mine P).at_ H O)(kD:UF x mine P)(k:∀ H',Ext H H'->R (.agg x.cells) H'):Fc TP 17 #[zD lb] H R:=by
 refine fn17 ?_;simp only[sh17,UL,UA,Us,Ub,Uz,UI,Uf,Uv,yq,za];refine(Lo.start _ H:Lx H H []).jc fun b1 H1 e1 l1=>?_;obtain⟨O1,h1⟩:=((Lo.own h).ext e1).get (i:=0) rfl;refine B1 h1 kD ?_;rw[zn,za,cH (by omega),zh];obtain⟨cb,mb,ov,wv,ha⟩:=h1;obtain⟨ht,_⟩:=pJ (r:=[]) (Lo.open ha);simp only[zl,zc,aR,bH,za];rw[Za ht (show 4+9<=19 by omega),za,Cp];exact l1.ret (i:=0) rfl rfl (kh.size _) (kh.Ns _) fun H' l'=>k H' l'.iZ
end
theorem C4{l:List Int}{a:Int}(h:a∈l):oV l a=some (.agg #[]):=by unfold oV;rw[aU h]
theorem ud{l:List Int}{a:Int}(h:a ∉ l):oV l a=none:=by unfold oV;rw[aH h]
theorem Gw(l:List Int)(a:Int):sQ (oV l) a (some (.agg #[]))=oV (l++[a]):=by
 funext k;unfold sQ oV;by_cases e:k=a
 ·rw[aU e,aU (by simp[e])]
 ·rw[aH e];by_cases h:k∈l
  ·rw[aU h,aU (by simp[h])]
  ·rw[aH h,aH (by simp[h,e])]
noncomputable def Y0(l:List Int)(a:Int):List Int:=if a∈l then l else l++[a]
theorem pQ:ZZ TP 165=some (.agg #[]):=by kernel_rfl
theorem Af:zo TP 165 []=some (.agg #[]):=by kernel_rfl
section
variable{H:Hp}{R:Value->Hp->Prop}{lb p cb mb:Nat}{s:DS}{cs:List Pl}{x:kh}{mine:Int}{O:Nat->Prop}
theorem abA{P:mS}(h:(Yv lb p x mine P).at_ H O)(hlen:P.order.length<1000000){a:Int}
   (k:∀ H' O',kS O O' H H'->(Yv lb p x mine { P with order:=Y0 P.order a }).at_ H' O'->R (.tuple #[]) H'):Fc TP 101 #[zD lb,zg a] H R:=by
 obtain⟨cb,mb,ov,wv,ha⟩:=h
 have l0:Lo O H H [mA p cb (x.L+32) P.s P.cs,nA mb (oV P.order) P.order.length,.sl 3 1 ov (P.order.map nI),pD P.wrote wv,.box lb (yN ov mb p cb x mine P.open_ P.room wv P.jA P.steps) 100]:=Lo.open ha
 have g0:(yN ov mb p cb x mine P.open_ P.room wv P.jA P.steps)[0]?=some ov:=rfl
 have g1:∀ {ov:Value},(yN ov mb p cb x mine P.open_ P.room wv P.jA P.steps)[1]?=some (.map (some mb)):=rfl
 refine fn101 ?_
 simp only[sh101,Ul,UA,Us,Uz,Ux,UI,Uu,Uq,pQ,Af,za]
 simp only[zl,zc,aR,bH,za]
 obtain⟨Om,hmp⟩:=l0.get (i:=1) (x:=nA mb (oV P.order) P.order.length) rfl
 rw[l0.ld (i:=4) rfl,g1,za,YT hmp.1.1 true a,pQ]
 by_cases o8:a∈P.order
 · rw[C4 o8]
   show Pu (some (Value.tuple #[.agg #[],.bool true])) _
   rw[za,show zq (.tuple #[.agg #[],.bool true]) 0=some (.agg #[]) from rfl,za,show zq (.tuple #[.agg #[],.bool true]) 1=some (.bool true) from rfl,za]
   refine l0.jc fun b1 H1 _ l1=>?_
   refine l1.jE (i:=5) (n:=0) (vs:=#[]) rfl rfl rfl (by unfold zv;rw[<- iV];rfl) fun H2 l2=>?_
   rw[zx,za,iW,zh]
   have l2:Lo O H H2 (Yc lb p cb mb ov wv x mine P++[.box b1 #[] 165]):=l2
   obtain⟨O',st,mq⟩:=Lo.close l2
   have:=k H2 O' st
   unfold Y0 at this
   rw[aU o8]at this
   exact this ⟨cb,mb,ov,wv,mq⟩
 · rw[ud o8]
   show Pu (some (Value.tuple #[.agg #[],.bool false])) _
   rw[za,show zq (.tuple #[.agg #[],.bool false]) 0=some (.agg #[]) from rfl,za,show zq (.tuple #[.agg #[],.bool false]) 1=some (.bool false) from rfl,za]
   refine l0.jc fun b1 H1 _ l1=>?_
   refine l1.jE (i:=5) (n:=0) (vs:=#[]) rfl rfl rfl (by unfold zv;rw[<- iV];rfl) fun H2 l2=>?_
   have l2:Lo O H H2 [mA p cb (x.L+32) P.s P.cs,nA mb (oV P.order) P.order.length,.sl 3 1 ov (P.order.map nI),pD P.wrote wv,.box lb (yN ov mb p cb x mine P.open_ P.room wv P.jA P.steps) 100,.box b1 #[] 165]:=l2
   rw[zx,za,jN,zA,l2.ld (i:=4) rfl,g0,za]
   refine l2.qY Lb C7 (i:=2) (c:=nI a) rfl rfl (by omega) (by omega) rfl (by unfold zv;rw[<- iV];rfl) (by rw[bR];omega) fun Rc H3 l3=>?_
   have lT:=(l3.sv (i:=2) rfl).one
   refine l3.st (i:=4) (j:=0) (v:=Rc) rfl (by exact(by decide:0<19)) lT.2 lT.1 fun H4 l4=>?_
   have l4:Lo O H H4 [mA p cb (x.L+32) P.s P.cs,nA mb (oV P.order) P.order.length,.sl 3 1 Rc (P.order.map nI++[nI a]),pD P.wrote wv,.box lb (yN Rc mb p cb x mine P.open_ P.room wv P.jA P.steps) 100,.box b1 #[] 165]:=l4
   rw[l4.ld (i:=4) rfl,g1,za]
   obtain⟨O4,h4,xh⟩:=l4.call (i:=1) (x:=nA mb (oV P.order) P.order.length) rfl
   refine YU h4.1.1 fun H5 k5 s5 m5=>?_
   rw[ud o8,aU rfl,Gw]at m5
   have l5:=xh H5 (nA mb (oV (P.order++[a])) (P.order.length+1)) O4 ⟨k5.mono fun b _ e=>e ▸ h4.1.2,fun b hb=>.inl hb⟩ ⟨⟨m5,h4.1.2⟩,fun b hb=>by rw[s5];exact h4.2 b hb⟩
   have l5:Lo O H H5 (Yc lb p cb mb Rc wv x mine { P with order:=P.order++[a] }++[.box b1 #[] 165]):=by
     unfold Yc
     simp only[cU,cR,gR,jW]
     exact l5
   obtain⟨O',st,mq⟩:=Lo.close l5
   have:=k H5 O' st
   unfold Y0 at this
   rw[aH o8]at this
   exact this ⟨cb,mb,Rc,wv,mq⟩
end
theorem u8w(v:Nat):IntKind.u8.wrap (v:Int)=((v % 256:Nat):Int):=by
 simp[IntKind.wrap,IntKind.bits,IntKind.signed]
theorem aal(v n:Nat):((v:Int).fdiv ((n:Nat):Int))=((v / n:Nat):Int):=by
 rw[Int.fdiv_eq_ediv_of_nonneg _ (by omega)];rfl
section
variable{H:Hp}{R:Value->Hp->Prop}
theorem Md{c:jn}(hc:jR c){a v:Nat}(ha:a+2<=1024)(hv:v<65536)(k:∀ H',Ext H H'->R (.agg (nW c a 2 v)) H'):Fc TP 98 #[.agg c,zg a,.int .u16 v] H R:=by
 have hs:jR (nW c a 2 v):=(Y9 _ _ _ hc.n).b;refine fn98 ?_;simp only[sh98,UL,Us,Ub,Uz,Uf,Uk,Uj,Uv,ZI,za,zm];refine(Lo.start _ H:Lx H H []).jc fun b1 H1 _ l1=>?_;refine l1.jc fun b2 H2 _ l2=>?_;refine Zg.mk (fun _ H'=>Lx H H' [.box b1 (nW c a 2 v) 65,.box b2 zB 65]) ?_ ?_
 ·rintro t H3 l3;rw[l3.je (i:=0) (n:=1024) rfl hs.size,za];exact l3.ret (i:=1) rfl zw hs.size hs.ok fun H' l'=>k H' l'.iZ
 ·refine p0 (by omega) ?_;rw[gU (by omega),zA,ze,za,zE,zr (by omega),zz,za,u8w,Ju (by omega),za,show(2:Int) ^ (min (8:Int).toNat IntKind.u16.bits)=((256:Nat):Int) from rfl,aal,zz,za,u8w,zC (by omega),za,aR,iX];refine l2.st (i:=0) (j:=a) (v:=.int .u8 ((v % 256:Nat):Int)) rfl (by rw[hc.size];omega) rfl rfl fun H3 l3=>?_;rw[zC (by omega),za,aR,iX];exact l3.st (i:=0) (j:=a+1) (v:=.int .u8 ((v / 256 % 256:Nat):Int)) rfl (by rw[lL,hc.size];omega) rfl rfl fun H4 l4=>l4
theorem rr{c:jn}(hc:jR c){a v:Nat}(ha:a+4<=1024)(hv:v<4294967296)(k:∀ H',Ext H H'->R (.agg (nW c a 4 v)) H'):Fc TP 99 #[.agg c,zg a,.int .u32 v] H R:=by
 have hs:jR (nW c a 4 v):=(Y9 _ _ _ hc.n).b;have hsh:∀ j,j<4->(2:Int) ^ (min ((8*j:Nat):Int).toNat IntKind.u32.bits)=((256 ^ j:Nat):Int):=fun j hj=>by
  match j,hj with
  | 0,_=>rfl
  | 1,_=>rfl
  | 2,_=>rfl
  | 3,_=>rfl
 refine fn99 ?_;simp only[sh99,UL,Us,Ub,Uz,Uf,Uk,Uj,Uo,Uv,ZI,za,zm];refine(Lo.start _ H:Lx H H []).jc fun b1 H1 _ l1=>?_;refine l1.jc fun b2 H2 _ l2=>?_;refine Zg.mk (fun _ H'=>Lx H H' [.box b1 (nW c a 4 v) 65,.box b2 zB 65]) ?_ ?_
 ·rintro t H3 l3;rw[l3.je (i:=0) (n:=1024) rfl hs.size,za];exact l3.ret (i:=1) rfl zw hs.size hs.ok fun H' l'=>k H' l'.iZ
 ·refine p0 (by omega) ?_;rw[gU (by omega),zA];refine zF.mk (fun t H'=>∃ (j:Nat) (cj:jn),j<=4/\t=(zg j,())/\jR cj/\nW cj (a+j) (4 - j) (v / 256 ^ j)=nW c a 4 v/\Lx H H' [.box b1 cj 65,.box b2 zB 65])
   (fun t _=>mi t.1 fun j=>(4 - j).toNat) ⟨0,c,by omega,rfl,hc,by rw[ad6,Nat.div_one];rfl,l2⟩ ?_
  rintro _ H3 ⟨j,cj,hj,rfl,hcj,he,l3⟩;rw[zk,za,zb];refine⟨fun kc=>?_,fun lA=>?_⟩
  ·rw[ze,za,Px,zr (by omega),zW,za,show(8:Int)*(j:Int)=((8*j:Nat):Int) by omega,zr (by omega),Ju (by omega),za,hsh j (by omega),aal,zz,za,u8w,zC (by omega),za,aR,iX];refine l3.st (i:=0) (j:=a+j) (v:=.int .u8 ((v / 256 ^ j % 256:Nat):Int)) rfl (by rw[hcj.size];omega) rfl rfl fun H4 l4=>?_;rw[ze,za,zE,zr (by omega)];refine⟨⟨j+1,_,by omega,rfl,hcj.set (a+j) (m:=v / 256 ^ j % 256) (kV _ (by omega)),?_,l4⟩,by simp only[zu];omega⟩;rw[<- he,show 4 - j=(4 - (j+1))+1 by omega,sE,<- o0];rfl
  ·have ej:j=4:=by omega
   subst ej;have he:cj=nW c a 4 v:=he;rw[<- he];exact l3
end
theorem Mf{m n:Nat}:∀ (w:Nat) (a c:Array Value) (o v:Nat),mu m a->mu n c->o+w<=m->o+w<=n->(∀ i,i<64->kv a i=kv c i)->∀ i,i<64->kv (nW a o w v) i=kv (nW c o w v) i
 | 0,_,_,_,_,_,_,_,_,h=>h
 | w+1,a,c,o,v,ha,hc,h1,h2,h=>by
  have hm:v % 256<256:=kV _ (by omega);refine Mf w _ _ (o+1) (v / 256) (ha.set o hm) (hc.set o hm) (by omega) (by omega) fun i hi=>?_;rw[ha.oL (by omega),hc.oL (by omega)];split
  ·rfl
  ·exact h i hi
theorem Io(f:kM):∀ n,n<=16->∀ i,i<64->kv (mH zB 0 f n) i=kv (mH (zR 64) 0 f n) i
 | 0,_,i,hi=>by
  show kv zB i=kv (zR 64) i;have e1:zB[i]?=some (.int .u8 0):=BD (by omega);have e2:(zR 64)[i]?=some (.int .u8 0):=by rw[kX,aU hi]
  unfold kv;rw[e1,e2]
 | n+1,hn,i,hi=>by
  have hle:=E1 (j:=n) (by omega);exact Mf (m:=1024) (n:=64) _ _ _ _ _ (Y1 z6.n 0 n) (Y1 (yz 64) 0 n) (by omega) (by omega) (Io f n (by omega)) i hi
theorem V9(f:kM):(mH zB 0 f 16).extract 0 (0+64)=mP f:=by
 have hb:jR (mH zB 0 f 16):=(Y1 z6.n 0 16).b;have hc:=rR (o:=0) hb (by omega);refine mu.ext hc (ZG f) fun i hi=>?_;have h1:=wX (o:=0) hb (by omega) hi;rw[aR]at h1;exact h1.trans (Io f 16 (by omega) i hi)
theorem ae3:TP.underlying 52=some (.array 10 51):=by kernel_rfl
theorem af2:r5 TP 51=some none:=by kernel_rfl
noncomputable def XW:TypeInfo:=(TP.info? 51).getD default
theorem Wh:TP.info? 51=some XW:=by kernel_rfl
theorem Wg:XW.size=1:=by kernel_rfl
theorem age{cs:Array Value}{i:Nat}(hi:i<10):xK TP 52 (.agg cs) (zg i)=cs[i]?:=by
 unfold xK;rw[ae3];simp only[af2,Wh,Wg,jK,iX];rw[aU (by omega)]
theorem abm{P:Program}{T e n:Nat}{i:TypeInfo}(hu:P.underlying T=some (.array n e))(hi:P.info? e=some i)(hs:i.size=1){b DD:Nat}(h2:DD<=n)(h3:0<n):yF P T (.pointer (some ⟨b,0,none⟩)) none (some (zg DD)) none=some (.slice (some ⟨b,0,none⟩) DD n):=by
 unfold yF;rw[hu];have q1:(0:Int)<=(DD:Int)/\(DD:Int)<=(n:Int):=by omega
 simp only[Z2,Wt,jG,jK,hi,iR];rw[aU q1];simp only[jG,iR];rw[aH (by omega)];simp only[Addr.oE,An,aR,Nat.sub_zero]
theorem PY:ZZ TP 105=some (.agg (zR 64)):=by kernel_rfl
section
variable{H:Hp}{R:Value->Hp->Prop}
theorem Rq{f:kM}(hf:lE f)(k:∀ H',Ext H H'->R (.agg (mP f)) H'):Fc TP 40 #[.agg (zS f)] H R:=by
 have hL:∀ n,jR (mH zB 0 f n):=fun n=>(Y1 z6.n 0 n).b;have hs:∀ n,mH zB 0 f (n+1)=nW (mH zB 0 f n) (0+fo n) (fw n) (f n):=fun n=>rfl;have b2:∀ j,j<2->f j<65536:=fun j hj=>by have:=hf j (by omega);unfold fw at this;rw[aU hj]at this;exact this
 have b4:∀ j,2<=j->j<16->f j<4294967296:=fun j h2 h16=>by have:=hf j h16;unfold fw at this;rw[aH (by omega)]at this;exact this
 have s0:mH zB 0 f 1=nW (mH zB 0 f 0) 0 2 (f 0):=rfl;have s1:mH zB 0 f 2=nW (mH zB 0 f 1) 2 2 (f 1):=rfl;have s4:∀ j,2<=j->mH zB 0 f (j+1)=nW (mH zB 0 f j) (4*(j - 1)) 4 (f j):=fun j hj=>by
  rw[hs];unfold fo fw;rw[aH (by omega),aH (by omega),aR]
 have i0:(zS f)[0]?=some (.int .u16 (f 0)):=rfl;have i1:(zS f)[1]?=some (.int .u16 (f 1)):=rfl;refine fn40 ?_;simp only[sh40,Ul,UL,UA,Us,Ub,Uz,Uf,Uo,Uv,ZI,yP,PY,za,zm];refine(Lo.start _ H:Lx H H []).jc fun p1 H1 _ l1=>?_;refine l1.jc fun p2 H2 _ l2=>?_;simp only[zc,aR,bH,za];rw[l2.ld (i:=0) rfl,i0,za];refine Md (hL 0) (a:=0) (by omega) (b2 0 (by omega)) fun H3 e3=>?_;rw[<- s0];refine(l2.ext e3).jc fun p3 H4 _ l4=>?_;refine l4.jE (i:=2) rfl zw (hL 1).size (hL 1).ok fun H5 l5=>?_;have l5:Lx H H5 [.box p1 (zS f) 54,.box p2 (zR 64) 105,.box p3 (mH zB 0 f 1) 65]:=l5;rw[l5.je (i:=2) (n:=1024) rfl (hL 1).size,za,l5.ld (i:=0) rfl,i1,za];refine Md (hL 1) (a:=2) (by omega) (b2 1 (by omega)) fun H6 e6=>?_;rw[<- s1];refine(l5.ext e6).jE (i:=2) rfl (hL 1).size (hL 2).size (hL 2).ok fun H7 l7=>?_;have l7:Lx H H7 [.box p1 (zS f) 54,.box p2 (zR 64) 105,.box p3 (mH zB 0 f 2) 65]:=l7;rw[l7.je (i:=2) (n:=1024) rfl (hL 2).size,za,l7.ld (i:=0) rfl,Zq f 2 (by omega) (by omega),za];refine rr (hL 2) (a:=4) (by omega) (b4 2 (by omega) (by omega)) fun H8 e8=>?_;rw[<- s4 2 (by omega)];refine(l7.ext e8).jE (i:=2) rfl (hL 2).size (hL 3).size (hL 3).ok fun H9 l9=>?_;have l9:Lx H H9 [.box p1 (zS f) 54,.box p2 (zR 64) 105,.box p3 (mH zB 0 f 3) 65]:=l9;rw[l9.je (i:=2) (n:=1024) rfl (hL 3).size,za,l9.ld (i:=0) rfl,Zq f 3 (by omega) (by omega),za];refine rr (hL 3) (a:=8) (by omega) (b4 3 (by omega) (by omega)) fun mX sA=>?_;rw[<- s4 3 (by omega)];refine(l9.ext sA).jE (i:=2) rfl (hL 3).size (hL 4).size (hL 4).ok fun mN lO=>?_;have lO:Lx H mN [.box p1 (zS f) 54,.box p2 (zR 64) 105,.box p3 (mH zB 0 f 4) 65]:=lO;rw[Za (lO.at (i:=0) rfl) (show 4+10<=16 by omega),za];refine zF.mk (fun t H'=>∃ i:Nat,i<=10/\t=(zg i,())/\Lx H H' [.box p1 (zS f) 54,.box p2 (zR 64) 105,.box p3 (mH zB 0 f (4+i)) 65])
  (fun t _=>mi t.1 fun i=>(10 - i).toNat) ⟨0,by omega,rfl,lO⟩ ?_
 rintro _ tF ⟨i,hi,rfl,oC⟩;rw[zk,za,zb];refine⟨fun kc=>?_,fun lA=>?_⟩
 ·rw[age (by omega),ji,aU (by rw[zt];omega),Zq f (4+i) (by omega) (by omega),za,oC.je (i:=2) (n:=1024) rfl (hL _).size,za,zW,za,zd (by omega) (by omega),ze,za,zd (by omega) (by omega),show(12:Int)+4*(i:Int)=((4*(4+i - 1):Nat):Int) by omega];refine rr (hL (4+i)) (by omega) (b4 (4+i) (by omega) (by omega)) fun sD se=>?_;rw[<- s4 (4+i) (by omega)];refine(oC.ext se).jE (i:=2) rfl (hL _).size (hL (4+i+1)).size (hL _).ok fun By vh=>?_;rw[ze,za,zE,zr (by omega)];exact⟨⟨i+1,by omega,rfl,vh⟩,by simp only[zu];omega⟩
 ·have ei:i=10:=by omega
  subst ei;rw[oC.je (i:=2) (n:=1024) rfl (hL _).size,za,oC.ld (i:=0) rfl,Zq f 14 (by omega) (by omega),za];refine rr (hL 14) (a:=52) (by omega) (b4 14 (by omega) (by omega)) fun DH JK=>?_;rw[<- s4 14 (by omega)];refine(oC.ext JK).jE (i:=2) rfl (hL _).size (hL 15).size (hL 15).ok fun NC PI=>?_;have PI:Lx H NC [.box p1 (zS f) 54,.box p2 (zR 64) 105,.box p3 (mH zB 0 f 15) 65]:=PI;rw[PI.je (i:=2) (n:=1024) rfl (hL 15).size,za,PI.ld (i:=0) rfl,Zq f 15 (by omega) (by omega),za];refine rr (hL 15) (a:=56) (by omega) (b4 15 (by omega) (by omega)) fun XB UB=>?_;rw[<- s4 15 (by omega)];refine(PI.ext UB).jE (i:=2) rfl (hL 15).size (hL 16).size (hL 16).ok fun H18 l18=>?_;have l18:Lx H H18 [.box p1 (zS f) 54,.box p2 (zR 64) 105,.box p3 (mH zB 0 f 16) 65]:=l18;rw[show(some (Value.int .i64 64))=some (zg ((64:Nat):Int)) from rfl,abm A7 vl vk (by omega) (by omega),za,show GL (some 64) (.slice (some ⟨p3,0,none⟩) 64 1024)=some (.pointer (some ⟨p3,0,none⟩)) from rfl,za,Za (l18.at (i:=2) rfl) (by rw[(hL 16).size];omega),za,V9];exact l18.ret (i:=1) rfl (yU 64) (ZG f).size (ZG f).ok fun H' l'=>k H' l'.iZ
end
theorem Ti{e:ZX}{b o dl c sb c' n:Nat}{cs:Array Value}{H:Hp}{K:Value × Hp->Prop}(he:e.size=1)(hr:np H ⟨sb,0,none⟩ n=some cs)(hn:n<=dl)(lH:cs.size=n)(h:Pu (zY (some n) (.pointer (some ⟨b,o,none⟩)) (.agg cs) H) fun H'=>K (.int .i64 (n:Nat),H')) :
   Pu (Fe (some e) (.slice (some ⟨b,o,none⟩) dl c) (.slice (some ⟨sb,0,none⟩) n c') H) K:=by
 unfold Fe
 simp only[ab8,jG,GG,he,iX]
 rw[Nat.min_eq_left hn,hr]
 simp only[jG]
 unfold zY at h
 simp only[zI,lH,jO]at h
 cases hp:AO H ⟨b,o,none⟩ cs with
 | none=>
   rw[hp]at h
   obtain⟨v,he2,_⟩:=h
   cases he2
 | some H'=>
   rw[hp,za]at h
   rw[iR,za]
   exact h
theorem alO:∃ e,zQ TP 107=some e/\e.size=1:=⟨Ms (zQ TP 107),by kernel_rfl,by kernel_rfl⟩
theorem Vi{P:Program}{T e n:Nat}{i:TypeInfo}(hu:P.underlying T=some (.array n e))(hi:P.info? e=some i)(hs:i.size=1){b lo:Nat}(h3:lo<n):yF P T (.pointer (some ⟨b,0,none⟩)) (some (zg lo)) none none=some (.slice (some ⟨b,lo,none⟩) (n - lo) (n - lo)):=by
 unfold yF;rw[hu];have q2:(0:Int)<=(lo:Int)/\(lo:Int)<=(n:Int):=by omega
 simp only[Z2,Wt,jG,jK,hi,iR];rw[aU q2];simp only[jG,iR,hs,iX];rw[aH (by omega)];simp only[Addr.oE,aR]
section
variable{S:Nat->Prop}{H0 H:Hp}{l:List Ob}
theorem Lo.unpack{r:List Ob}(h:Lo S H0 H (l++[.all r])):Lo S H0 H (l++r):=by
 obtain⟨k,kP,w,hc⟩:=h;have hx:(l++[Ob.all r])[l.length]?=some (.all r):=by simp
 obtain⟨⟨cr,wr,hr⟩,hO⟩:=w.get hx;have hr:∀ b,cr b≠0->kP b=l.length+1:=hr;refine⟨k,fun b=>if cr b≠0 then l.length+cr b else if kP b<=l.length then kP b else 0,⟨fun i x hx=>?_,fun b hb=>?_⟩,fun b hb hn=>hc b hb fun e=>hn ?_⟩
 ·by_cases hi:i<l.length
  ·have AQ:(l++[Ob.all r])[i]?=some x:=by rw[ko hi];rw[ko hi]at hx;exact hx
   have ho:=w.get AQ;refine x.frame ho (fun _ _=>rfl) (iU _) (fun b hb=>?_) fun b hb=>?_
   ·have hb:kP b=i+1:=hb;show(if cr b≠0 then l.length+cr b else if kP b<=l.length then kP b else 0)=i+1;rw[aH (fun e=>by have:=hr b e;omega),aU (by omega)];exact hb
   ·have hb:(if cr b≠0 then l.length+cr b else if kP b<=l.length then kP b else 0)=i+1:=hb;rcases jx b H.size with h1 | h1
    ·exact h1
    ·rw[wr.out b h1,w.out b h1]at hb;simp at hb
  ·rw[jB (by omega)]at hx;have ho:=wr.get hx;refine x.frame ho (fun _ _=>rfl) (iU _) (fun b hb=>?_) fun b hb=>?_
   ·have hb:cr b=i - l.length+1:=hb;show(if cr b≠0 then l.length+cr b else if kP b<=l.length then kP b else 0)=i+1;rw[aU (by omega)];omega
   ·have hb:(if cr b≠0 then l.length+cr b else if kP b<=l.length then kP b else 0)=i+1:=hb;rcases jx b H.size with h1 | h1
    ·exact h1
    ·rw[wr.out b h1,w.out b h1]at hb;simp at hb
 ·show(if cr b≠0 then l.length+cr b else if kP b<=l.length then kP b else 0)=0;rw[wr.out b hb,w.out b hb];simp
 ·have hz:cr b=0:=by
   by_cases hz:cr b=0
   ·exact hz
   ·have:=hr b hz;omega
  simp[hz,e]
end
theorem om.mono{P:Program}{y:Value}{args:Array Value}{H:Hp}{K K':Value->Hp->Prop}(h:om P y args H K)(hk:∀ v H',K v H'->K' v H'):om P y args H K':=by
 unfold om at h ⊢;split at h
 ·exact⟨h.1,h.2.mono hk⟩
 ·unfold Yld at h ⊢;split at h
  ·exact⟨h.1,h.2.mono hk⟩
  ·exact h.elim
 ·exact h.elim
noncomputable def Bf(P:mS)(L:Int)(i:Nat):kM:=ZD (Zt P.s P.cs (1+L+((i / 16:Nat):Int))) (64*(i % 16))
def wk(I:Int)(n:Nat):Nat:=max 1 (min n (I.toNat+1))
theorem yR{n:Nat}{c:Int}(h:(n:Int)<c):(c - ((n+1:Nat):Int)).toNat<(c - (n:Int)).toNat:=by omega
theorem WW:pL TP 18=true:=by kernel_rfl
section
variable{S:Nat->Prop}{H0 H:Hp}{R:Value->Hp->Prop}{lb p:Nat}{mine:Int}{B L I:Int}{r:List Ob}
theorem FB{X:Nat->Ob}{go:Nat->Bool}{av:Value}{P:mS}(l:Lo S H0 H ([Yv lb p (zf B L I) mine P,X 1]++r))(kD:UF (zf B L I) mine P)(hg:Zy B L I)(Gf:P.s.reads+5000<4611686018427387904)
   (adk:∀ (H:Hp) (O:Nat->Prop) (j:Nat),1<=j->(j:Int)<=I->(X j).at_ H O->om TP av #[zg j,.agg (zS (Bf P L j))] H fun v H'=>v=.bool (go j)/\∃ O',kS O O' H H'/\(X (j+1)).at_ H' O')
   (k:∀ H' s' ke m,Lo S H0 H' ([Yv lb p (zf B L I) mine { P with s:=s',cs:=ke },X m]++r)->Rd (zf B L I) P s' ke 4097->1<=m->(m:Int)<=I+1->(∀ j,1<=j->j+1<m->go j=true)->((m:Int)=I+1/\(∀ j,1<=j->j<m->go j=true)\/2<=m/\go (m - 1)=false)->R (.int .i64 0) H') :
   Fc TP 42 #[zD lb,.func (.func 18) #[zD lb] #[],av] H R:=by
 obtain⟨xP,xO,wI,xQ,vP,vO,gD⟩:=id hg
 have hDA:(zf B L I).kb=1+L+(I+16) / 16+(B+8191) / 8192:=rfl
 have hBB:(zf B L I).B=B:=rfl
 have Bm:(zf B L I).L=L:=rfl
 have c5:(zf B L I).cells[5]?=some (zg ((I+16) / 16)):=rfl
 have c4:(zf B L I).cells[4]?=some (zg (1+L)):=rfl
 have c2:(zf B L I).cells[2]?=some (zg I):=rfl
 have y3:∀ {a b:Value},zq (.tuple #[a,b]) 0=some a:=rfl
 have y4:∀ {a b:Value},zq (.tuple #[a,b]) 1=some b:=rfl
 have l:=Lo.pack (l:=[Yv lb p (zf B L I) mine P,X 1]) l
 refine fn42 ?_
 simp only[sh42,Ul,UL,UA,Us,Ub,Uz,Ux,Uf,Uu,Uj,Uo,Uv,U1,yq,ZI,za,zm]
 obtain⟨O1,h1,pH⟩:=l.call (i:=0) rfl
 refine NS h1 kD fun H1 e1=>?_
 refine(l.ext e1).jc fun b1 H2 _ l2=>?_
 refine l2.jE (i:=3) rfl rfl (kh.size _) (kh.Ns _) fun H3 l3=>?_
 have l3:Lo S H0 H3 [Yv lb p (zf B L I) mine P,X 1,.all r,.box b1 (zf B L I).cells 62]:=l3
 simp only[zc,aR,bH,za]
 rw[l3.ld (i:=3) rfl,c5,za]
 refine zF.mk (fun t H'=>∃ (n:Nat) (s':DS) (ke:List Pl),(n:Int)<=(I+16) / 16/\t=(zg n,())/\Rd (zf B L I) P s' ke n/\(∀ j,1<=j->j<wk I (16*n)->go j=true)/\Lo S H0 H' [Yv lb p (zf B L I) mine { P with s:=s',cs:=ke },X (wk I (16*n)),.all r,.box b1 (zf B L I).cells 62])
   (fun t _=>mi t.1 fun i=>(5000 - i).toNat) ⟨0,P.s,P.cs,by omega,rfl,Rd.refl kD,fun j h1 h2=>by unfold wk at h2;omega,l3⟩ ?_
 rintro _ H4 ⟨n,s',ke,hn,rfl,oq,sI,l4⟩
 rw[zk,za,zb]
 refine⟨fun kc=>?_,fun lA=>?_⟩
 rotate_left
 · have en:wk I (16*n)=I.toNat+1:=by unfold wk;omega
   rw[en]at sI l4
   have l5:=Lo.unpack (l:=[Yv lb p (zf B L I) mine { P with s:=s',cs:=ke },X (I.toNat+1)]) (r:=r) (l4.takeN 3)
   exact k H4 s' ke (I.toNat+1) l5 (oq.mono (by omega)) (by omega) (by omega) (fun j h1 h2=>sI j h1 (by omega)) (.inl ⟨by omega,sI⟩)
 have ako:=oq.ok kD (by omega)
 rw[l4.ld (i:=3) rfl,c4,za,ze,za,zd (by omega) (by omega)]
 obtain⟨O4,h4,xh⟩:=l4.call (i:=0) rfl
 refine⟨WW,?_⟩
 refine VE h4 ako (by omega) (by rw[hBB];omega) (by rw[Bm];omega) fun H5 O5 s2 cs2 s5 h5 akk lK=>?_
 have l5:=xh H5 _ O5 s5 h5
 have l5:Lo S H0 H5 [Yv lb p (zf B L I) mine { P with s:=s2,cs:=cs2 },X (wk I (16*n)),.all r,.box b1 (zf B L I).cells 62]:=l5
 have agx:=oq.trans akk (k:=((n+1:Nat):Int)) (by omega)
 have ev:Zt s' ke (1+L+(n:Int))=Zt P.s P.cs (1+L+(n:Int)):=oq.view _
 rw[y3,za,y4,za,show Zt ({ P with s:=s',cs:=ke }:mS).s ({ P with s:=s',cs:=ke }:mS).cs (1+L+(n:Int))=Zt P.s P.cs (1+L+(n:Int)) from ev]
 have lK:jR (Zt P.s P.cs (1+L+(n:Int))):=ev ▸ lK
 generalize hc:Zt P.s P.cs (1+L+(n:Int))=c at lK
 refine l5.jc fun b2 H6 _ l6=>?_
 refine l6.jE (i:=4) rfl zw lK.size lK.ok fun H7 l7=>?_
 have l7:Lo S H0 H7 [Yv lb p (zf B L I) mine { P with s:=s2,cs:=cs2 },X (wk I (16*n)),.all r,.box b1 (zf B L I).cells 62,.box b2 c 65]:=l7
 rw[zn,za,cH (by omega),zh]
 refine zF.mk (fun t H'=>∃ i:Nat,i<=16/\t=(zg i,())/\(∀ j,1<=j->j<wk I (16*n+i)->go j=true)/\Lo S H0 H' [Yv lb p (zf B L I) mine { P with s:=s2,cs:=cs2 },X (wk I (16*n+i)),.all r,.box b1 (zf B L I).cells 62,.box b2 c 65])
   (fun t _=>mi t.1 fun i=>(16 - i).toNat) ⟨0,by omega,rfl,by rw[bH];exact sI,by rw[bH];exact l7⟩ ?_
 rintro _ H8 ⟨i,hi,rfl,Ol,l8⟩
 rw[zk,za,zb]
 refine⟨fun apM=>?_,fun ap6=>?_⟩
 rotate_left
 · have ei:i=16:=by omega
   subst ei
   rw[ze,za,zE,zr (by omega)]
   have T8:=yR (n:=n) (c:=5000) (by omega)
   have e16:16*(n+1)=16*n+16:=by omega
   have l9:=l8.takeN 4
   generalize 16*n+16=q at e16 Ol l9
   subst e16
   exact⟨⟨n+1,s2,cs2,by omega,rfl,agx,Ol,l9⟩,by simp only[zu];exact T8⟩
 rw[zW,za,zd (by omega) (by omega),ze,za,zd (by omega) (by omega),show(n:Int)*16+(i:Int)=((16*n+i:Nat):Int) by omega]
 have R7:∀ {K:Prop},(K->Pu (some (zg ((i+1:Nat):Int))) fun x=>K):=fun {K} h=>by rw[za];exact h
 refine Zg.mk (fun t H'=>H'=H8/\t.1=.bool (decide (¬ (1<=16*n+i/\((16*n+i:Nat):Int)<=I)))) ?_ ?_
 rotate_left
 · rw[zk,za,zb]
   refine⟨fun h=>⟨rfl,?_⟩,fun h=>?_⟩
   · rw[gU (by omega)]
   · rw[l8.ld (i:=3) rfl,c2,za,zJ,za]
     refine⟨rfl,?_⟩
     rw[ZO (q:=¬ (1<=16*n+i/\((16*n+i:Nat):Int)<=I)) ⟨fun e e2=>by omega,fun e=>by omega⟩]
 rintro⟨t,u⟩ H9 ⟨rfl,ht⟩
 simp only at ht
 subst ht
 rw[zb]
 refine⟨fun kG=>?_,fun pf=>?_⟩
 · rw[ze,za,zE,zr (by omega)]
   have e:wk I (16*n+(i+1))=wk I (16*n+i):=by unfold wk;omega
   exact⟨⟨i+1,by omega,rfl,by rw[e];exact Ol,by rw[e];exact l8⟩,by simp only[zu];omega⟩
 have pf:1<=16*n+i/\((16*n+i:Nat):Int)<=I:=jh.1 pf
 have e8:wk I (16*n+i)=16*n+i:=by unfold wk;omega
 rw[e8]at Ol l8
 rw[zW,za,zd (by omega) (by omega),show(i:Int)*64=((64*i:Nat):Int) by omega,ze,za,zE,zr (by omega),zW,za,zd (by omega) (by omega),show((i+1:Nat):Int)*64=((64*i+64:Nat):Int) by omega,QB A7 vl vk (by omega) (by omega) (by omega),za,show 64*i+64 - 64*i=64 by omega,show GL (some 64) (.slice (some ⟨b2,64*i,none⟩) 64 (1024 - 64*i))=some (.pointer (some ⟨b2,64*i,none⟩)) from rfl,za,Za (l8.at (i:=4) rfl) (by rw[lK.size];omega),za]
 refine HR (rR lK (by omega)) fun mX sA=>?_
 have e:zS (ZD (c.extract (64*i) (64*i+64)) 0)=zS (Bf P L (16*n+i)):=yH fun j hj=>by
   unfold Bf
   rw[show(16*n+i) / 16=n by omega,show(16*n+i) % 16=i by omega,hc]
   exact rJ lK (by omega) hj
 rw[e]
 have mn:=l8.ext sA
 obtain⟨O10,tY,Qo⟩:=mn.call (i:=1) rfl
 refine om.mono (adk mX O10 (16*n+i) pf.1 pf.2 tY) fun v mN ⟨hv,LH,Dy,KQ⟩=>?_
 subst hv
 have lO:=Qo mN _ LH Dy KQ
 have lO:Lo S H0 mN [Yv lb p (zf B L I) mine { P with s:=s2,cs:=cs2 },X (16*n+i+1),.all r,.box b1 (zf B L I).cells 62,.box b2 c 65]:=lO
 rw[zx,za]
 cases hgv:go (16*n+i) with
 | true=>
   rw[iW,zh,za]
   have e:wk I (16*n+(i+1))=16*n+i+1:=by unfold wk;omega
   refine⟨⟨i+1,by omega,rfl,fun j h1 h2=>?_,by rw[e];exact lO⟩,by simp only[zu];omega⟩
   rw[e]at h2
   by_cases ej:j=16*n+i
   · rw[ej];exact hgv
   · exact Ol j h1 (by omega)
 | false=>
   rw[jN,zA]
   have l5:=Lo.unpack (l:=[Yv lb p (zf B L I) mine { P with s:=s2,cs:=cs2 },X (16*n+i+1)]) (r:=r) (lO.takeN 3)
   exact k mN s2 cs2 (16*n+i+1) l5 (agx.mono (by omega)) (by omega) (by omega) (fun j h1 h2=>Ol j h1 (by omega)) (.inr ⟨by omega,hgv⟩)
end
def CR(f:Nat->kM):Nat->Nat
 | 0=>0
 | n+1=>CR f n+if f (n+1) 0=0 then 1 else 0
def MH(f:Nat->kM):Nat->Nat
 | 0=>0
 | n+1=>if f (n+1) 0=0 then n+1 else MH f n
def DQ(f:Nat->kM):Nat->List Int
 | 0=>[]
 | n+1=>DQ f n++if f (n+1) 0≠0/\f (n+1) 1=0 then [((n+1:Nat):Int)] else []
theorem KT(f:Nat->kM):∀ n,CR f n<=n
 | 0=>iU 0
 | n+1=>by have:=KT f n;unfold CR;split<;>omega
theorem Be(f:Nat->kM):∀ n,(DQ f n).length<=n
 | 0=>iU 0
 | n+1=>by
  have:=Be f n;unfold DQ;split<;>simp only[cR,gR,jW]<;>omega
theorem Cn{f:Nat->kM}:∀ {n},MH f n=0->∀ j,1<=j->j<=n->f j 0≠0
 | 0,_,j,h1,h2=>by omega
 | n+1,h,j,h1,h2=>by
  unfold MH at h;split at h
  ·omega
  ·rename_i jZ;by_cases e:j=n+1
   ·rw[e];exact jZ
   ·exact Cn h j h1 (by omega)
def Rh(p:Nat)(l:List Int):Ob:=
 ⟨fun H O=>∃ s,(Ob.all [.box p #[s] 29,.sl 3 1 s (l.map nI)]).at_ H O,
  fun⟨_,h⟩=>Ob.own _ h,fun⟨s,h⟩ hb hs ho hl=>⟨s,Ob.frame _ h hb hs ho hl⟩⟩
theorem JM:ZZ TP 3=some (.int .i64 0):=by kernel_rfl
theorem LN:ZZ TP 29=some (.slice none 0 0):=by kernel_rfl
theorem WV:pL TP 43=true:=by kernel_rfl
theorem WX:pL TP 44=true:=by kernel_rfl
theorem WU:pL TP 48=true:=by kernel_rfl
section
variable{H:Hp}{R:Value->Hp->Prop}{lb p:Nat}{mine:Int}{O:Nat->Prop}{B L I:Int}
theorem abi{f:kM}{i b:Nat}{c:Int}(h:(Ob.box b #[zg c] 3).at_ H O)(hc:0<=c/\c<=70000)(k:∀ H' O',kS O O' H H'->(Ob.box b #[zg (c+if f 0=0 then 1 else 0)] 3).at_ H' O'->R (.bool true) H'):Fc TP 43 #[zg i,.agg (zS f),zD b] H R:=by
 have i0:(zS f)[0]?=some (.int .u16 (f 0)):=rfl;refine fn43 ?_;simp only[sh43,Ul,UA,Us,Ub,Uv,U1];refine(Lo.own h).jc fun b1 H1 _ l1=>?_;have l1:Lo O H H1 [.box b #[zg c] 3,.box b1 (zS f) 54]:=l1;simp only[zc,aR,bH,za];rw[l1.ld (i:=1) rfl,i0,za,zp,za,zb];refine⟨fun h0=>?_,fun h0=>?_⟩
 ·rw[l1.ld (i:=0) rfl,show(#[zg c]:Array Value)[0]?=some (zg c) from rfl,za,ze,za,zd (by omega) (by omega)];refine l1.st (i:=0) (j:=0) (v:=zg (c+1)) rfl (by simp) rfl rfl fun H2 l2=>?_;obtain⟨O',st,h'⟩:=Lo.mQ (x:=.box b #[zg (c+1)] 3) (r:=[_]) l2;have:=k H2 O' st;rw[aU (by omega)]at this;exact this h'
 ·obtain⟨O',st,h'⟩:=Lo.mQ l1;have:=k H1 O' st;rw[aH (by omega),Int.add_zero]at this;exact this h'
theorem afc{f:kM}{i b:Nat}{c:Int}(h:(Ob.box b #[zg c] 3).at_ H O)(k:∀ H' O',kS O O' H H'->(Ob.box b #[zg (if f 0=0 then i else c)] 3).at_ H' O'->R (.bool (decide ((if f 0=0 then(i:Int) else c)=0))) H'):Fc TP 48 #[zg i,.agg (zS f),zD b] H R:=by
 have i0:(zS f)[0]?=some (.int .u16 (f 0)):=rfl;refine fn48 ?_;simp only[sh48,Ul,UA,Us,Ub,Uj,Uv,zm];refine(Lo.own h).jc fun b1 H1 _ l1=>?_;have l1:Lo O H H1 [.box b #[zg c] 3,.box b1 (zS f) 54]:=l1;simp only[zc,aR,bH,za];refine Zg.mk (fun _ H'=>Lo O H H' [.box b #[zg (if f 0=0 then i else c)] 3,.box b1 (zS f) 54]) ?_ ?_
 ·intro _ H2 l2;rw[l2.ld (i:=0) rfl,show(#[zg (if f 0=0 then(i:Int) else c)]:Array Value)[0]?=some (zg (if f 0=0 then(i:Int) else c)) from rfl,za,zp,za];obtain⟨O',st,h'⟩:=Lo.mQ l2;exact k H2 O' st h'
 ·rw[l1.ld (i:=1) rfl,i0,za,zp,za,zb];refine⟨fun h0=>?_,fun h0=>?_⟩
  ·refine l1.st (i:=0) (j:=0) (v:=zg i) rfl (by simp) rfl rfl fun H2 l2=>?_;rw[aU (by omega)];exact l2
  ·rw[aH (by omega)];exact l1
theorem VM{f:kM}{i b:Nat}{ls:List Int}(h:(Rh b ls).at_ H O)(hlen:ls.length<1000000)(k:∀ H' O',kS O O' H H'->(Rh b (ls++if f 0≠0/\f 1=0 then [(i:Int)] else [])).at_ H' O'->R (.bool true) H'):Fc TP 44 #[zg i,.agg (zS f),zD b] H R:=by
 have i0:(zS f)[0]?=some (.int .u16 (f 0)):=rfl;have i1:(zS f)[1]?=some (.int .u16 (f 1)):=rfl;obtain⟨s,ha⟩:=h;refine fn44 ?_;simp only[sh44,Ul,UA,Us,Uj,Uq,U1,U0,zm];refine(Lo.open ha).jc fun b1 H1 _ l1=>?_;have l1:Lo O H H1 [.box b #[s] 29,.sl 3 1 s (ls.map nI),.box b1 (zS f) 54]:=l1;simp only[zc,aR,bH,za];refine Zg.mk (fun t H'=>H'=H1/\t.1=.bool (decide (f 0≠0/\f 1=0))) ?_ ?_
 ·rintro⟨t,u⟩ H2 ⟨rfl,ht⟩;simp only at ht;subst ht;rw[zb];refine⟨fun h0=>?_,fun h0=>?_⟩
  ·rw[l1.ld (i:=0) rfl,show(#[s]:Array Value)[0]?=some s from rfl,za];refine l1.qY Lb C7 (i:=1) (c:=nI i) rfl rfl (by omega) (by omega) rfl (by unfold zv;rw[<- iV];rfl) (by rw[bR];omega) fun s' H3 l3=>?_;have lT:=(l3.sv (i:=1) rfl).one;refine l3.st (i:=0) (j:=0) (v:=s') rfl (by simp) lT.2 lT.1 fun H4 l4=>?_;have l4:Lo O H H4 ([.box b #[s'] 29,.sl 3 1 s' ((ls++[(i:Int)]).map nI)]++[.box b1 (zS f) 54]):=by rw[cU];exact l4
   obtain⟨O',st,h'⟩:=Lo.close l4;have:=k H4 O' st;rw[aU h0]at this;exact this ⟨s',h'⟩
  ·have l1:Lo O H H2 ([.box b #[s] 29,.sl 3 1 s (ls.map nI)]++[.box b1 (zS f) 54]):=l1;obtain⟨O',st,h'⟩:=Lo.close l1;have:=k H2 O' st;rw[aH h0,jY]at this;exact this ⟨s,h'⟩
 ·rw[l1.ld (i:=2) rfl,i0,za,zn,za,zb];refine⟨fun h0=>?_,fun h0=>?_⟩
  ·rw[l1.ld (i:=2) rfl,i1,za,zp,za];refine⟨rfl,?_⟩;rw[ZO (q:=f 0≠0/\f 1=0) ⟨fun e=>⟨by omega,by omega⟩,fun e=>by omega⟩]
  ·refine⟨rfl,?_⟩;rw[cH (fun e=>e.1 (by omega))]
theorem Qr{P:mS}(h:(Yv lb p (zf B L I) mine P).at_ H O)(kD:UF (zf B L I) mine P)(hg:Zy B L I)(Gf:P.s.reads+5000<4611686018427387904)
   (k:∀ H' O' s' ke,kS O O' H H'->(Yv lb p (zf B L I) mine { P with s:=s',cs:=ke }).at_ H' O'->Rd (zf B L I) P s' ke 4097->R (.tuple #[zg (CR (Bf P L) I.toNat),.int .i64 0]) H'):Fc TP 14 #[zD lb] H R:=by
 obtain⟨xP,xO,wI,xQ,vP,vO,gD⟩:=id hg
 refine fn14 ?_
 simp only[sh14,Ul,Us,Ub,Uz,Uf,Uv,JM,za]
 refine B1 h kD ?_
 rw[zn,za,cH (by omega),zh]
 refine(Lo.own h).box fun b H1 _ l1=>?_
 refine l1.st (i:=1) (j:=0) (v:=.int .i64 0) rfl (show 0<1 by omega) rfl rfl fun H2 l2=>?_
 refine FB (X:=fun j=>.box b #[zg ((CR (Bf P L) (j - 1):Nat):Int)] 3) (go:=fun _=>true) (r:=[]) l2 kD hg Gf (fun H3 O3 j h1 h2 hx=>?_) fun H3 s' ke m l3 oq h1 h2 _ ID=>?_
 · refine⟨WV,?_⟩
   have:=KT (Bf P L) (j - 1)
   refine abi hx (by omega) fun H4 O4 s4 h4=>⟨rfl,O4,s4,?_⟩
   obtain⟨j,rfl⟩:∃ q,j=q+1:=⟨j - 1,by omega⟩
   have e:((CR (Bf P L) j:Nat):Int)+(if Bf P L (j+1) 0=0 then 1 else 0)=((CR (Bf P L) (j+1):Nat):Int):=by
     rw[show CR (Bf P L) (j+1)=CR (Bf P L) j+if Bf P L (j+1) 0=0 then 1 else 0 from rfl]
     split<;>omega
   rw[LJ,e]at h4
   rw[LJ]
   exact h4
 · have em:m=I.toNat+1:=by
     rcases ID with ⟨e,_⟩ | ⟨_,e⟩
     · omega
     · cases e
   subst em
   have l3:Lo O H H3 [Yv lb p (zf B L I) mine { P with s:=s',cs:=ke },.box b #[zg ((CR (Bf P L) I.toNat:Nat):Int)] 3]:=l3
   rw[zn,za,cH (by omega),zh,l3.ld (i:=1) rfl,show(#[zg ((CR (Bf P L) I.toNat:Nat):Int)]:Array Value)[0]?=some (zg ((CR (Bf P L) I.toNat:Nat):Int)) from rfl,za]
   obtain⟨O',st,h'⟩:=Lo.mQ l3
   exact k H3 O' s' ke st h' oq
theorem Kg{P:mS}(h:(Yv lb p (zf B L I) mine P).at_ H O)(kD:UF (zf B L I) mine P)(hg:Zy B L I)(Gf:P.s.reads+5000<4611686018427387904)
   (k:∀ H' s' ke v,Lo O H H' [Yv lb p (zf B L I) mine { P with s:=s',cs:=ke },.sl 3 1 v ((DQ (Bf P L) I.toNat).map nI)]->Rd (zf B L I) P s' ke 4097->R (.tuple #[v,.int .i64 0]) H'):Fc TP 15 #[zD lb] H R:=by
 obtain⟨xP,xO,wI,xQ,vP,vO,gD⟩:=id hg
 refine fn15 ?_
 simp only[sh15,Ul,Ub,Uz,Uf,Uv,LN,za]
 refine B1 h kD ?_
 rw[zn,za,cH (by omega),zh]
 refine(Lo.own h).box fun b H1 _ l1=>?_
 have l2:Lo O H H1 ([Yv lb p (zf B L I) mine P]++[.box b #[.slice none 0 0] 29,.sl 3 1 (.slice none 0 0) (([]:List Int).map nI)]):=l1.nt 3 1
 have l2:Lo O H H1 ([Yv lb p (zf B L I) mine P,Rh b []]++[]):=(Lo.pack l2).nth (i:=1) rfl fun O' ho=>⟨_,ho⟩
 refine FB (X:=fun j=>Rh b (DQ (Bf P L) (j - 1))) (go:=fun _=>true) (r:=[]) l2 kD hg Gf (fun H3 O3 j h1 h2 hx=>?_) fun H3 s' ke m l3 oq h1 h2 _ ID=>?_
 · refine⟨WX,?_⟩
   obtain⟨j,rfl⟩:∃ q,j=q+1:=⟨j - 1,by omega⟩
   simp only[LJ]at hx ⊢
   have:=Be (Bf P L) j
   refine VM hx (by omega) fun H4 O4 s4 h4=>⟨rfl,O4,s4,h4⟩
 · have em:m=I.toNat+1:=by
     rcases ID with ⟨e,_⟩ | ⟨_,e⟩
     · omega
     · cases e
   subst em
   have l3:Lo O H H3 [Yv lb p (zf B L I) mine { P with s:=s',cs:=ke },Rh b (DQ (Bf P L) I.toNat)]:=l3
   obtain⟨O3,⟨s,ha⟩,mJ⟩:=l3.call (i:=1) rfl
   have l4:=Lo.open ha
   rw[zn,za,cH (by omega),zh,l4.ld (i:=0) rfl,show(#[s]:Array Value)[0]?=some s from rfl,za]
   obtain⟨O4,s4,h4⟩:=Lo.mQ (x:=.sl 3 1 s ((DQ (Bf P L) I.toNat).map nI)) (r:=[]) (l4.pick [1] (by decide) (by simp))
   have l5:Lo O H H3 [Yv lb p (zf B L I) mine { P with s:=s',cs:=ke },.sl 3 1 s ((DQ (Bf P L) I.toNat).map nI)]:=mJ H3 _ O4 s4 h4
   exact k H3 s' ke s l5 oq
end
theorem afN:TP.underlying 54=some (.struct (KS 54)):=by kernel_rfl
theorem abO:(KS 54).toList=(List.range 7).map (yk 54):=by kernel_rfl
theorem afR:TP.eqGuardType TP.depth 54=false:=by kernel_rfl
theorem afO:TP.stoodInHeld 54=false:=by kernel_rfl
theorem afQ:((List.range 7).map fun i=>(yk 54 i).name != "_")=List.replicate 7 true:=by kernel_rfl
theorem afP:((List.range 7).map fun i=>(yk 54 i).offset)=[0,1,2,3,4,14,15]:=by kernel_rfl
theorem abP:r5 TP (yk 54 4).type=some (some 10):=by kernel_rfl
theorem abN:pN TP (yk 54 4).type 10 .u32:=⟨⟨51,by kernel_rfl,by kernel_rfl,by kernel_rfl,by kernel_rfl⟩,by kernel_rfl⟩
theorem abM:TP.underlying (yk 54 0).type=some (.int .u16):=by kernel_rfl
theorem abL:TP.underlying (yk 54 1).type=some (.int .u16):=by kernel_rfl
theorem abK:TP.underlying (yk 54 2).type=some (.int .u32):=by kernel_rfl
theorem abJ:TP.underlying (yk 54 3).type=some (.int .u32):=by kernel_rfl
theorem abI:TP.underlying (yk 54 5).type=some (.int .u32):=by kernel_rfl
theorem abH:TP.underlying (yk 54 6).type=some (.int .u32):=by kernel_rfl
theorem VN{f:kM}:Y5 (AX TP 9999 (zS f) (zS f)) ((List.range 7).map (yk 54))=some true:=by
 have hn:∀ i,i<7->(yk 54 i).name ≠ "_" := fun i hi=>by
  have:=congrArg (fun l=>l[i]?) afQ;simp only[dR,kN hi,mE,hi,jO,iR,iH,bne_iff_ne]at this;exact this
 have ho:∀ i o,i<7->[0,1,2,3,4,14,15][i]?=some o->(yk 54 i).offset=o:=fun i o hi he=>by
  have:=congrArg (fun l=>l[i]?) afP;simp only[dR,kN hi,iR]at this;rw[he]at this;injection this
 refine(Aa (g:=fun _=>True) fun a ha=>?_).trans (congrArg some (gU fun _ _=>trivial));obtain⟨i,hi,rfl⟩:=iT.1 ha;have hi:i<7:=ki.1 hi;have h1:=hn i hi;have hc:i=0\/i=1\/i=2\/i=3\/i=4\/i=5\/i=6:=by omega
 rcases hc with rfl | rfl | rfl | rfl | rfl | rfl | rfl
 ·rw[YW (d:=9998) (k:=.u16) (x:=f 0) (y:=f 0) h1 abM (by rw[ho 0 0 hi rfl];rfl) (by rw[ho 0 0 hi rfl];rfl)];simp
 ·rw[YW (d:=9998) (k:=.u16) (x:=f 1) (y:=f 1) h1 abL (by rw[ho 1 1 hi rfl];rfl) (by rw[ho 1 1 hi rfl];rfl)];simp
 ·rw[YW (d:=9998) (k:=.u32) (x:=f 2) (y:=f 2) h1 abK (by rw[ho 2 2 hi rfl];rfl) (by rw[ho 2 2 hi rfl];rfl)];simp
 ·rw[YW (d:=9998) (k:=.u32) (x:=f 3) (y:=f 3) h1 abJ (by rw[ho 3 3 hi rfl];rfl) (by rw[ho 3 3 hi rfl];rfl)];simp
 ·have hx:∀ j,j<10->∃ z,((zS f).extract 4 (4+10))[j]?=some (.int .u32 z):=fun j hj=>by
   rw[ji,aU (by rw[zt];omega),Zq f (4+j) (by omega) (by omega)];exact⟨_,rfl⟩
  rw[IS (d:=9997) (x:=(zS f).extract 4 (4+10)) (y:=(zS f).extract 4 (4+10)) h1 abN abP (by rw[ho 4 4 hi rfl]) (by rw[ho 4 4 hi rfl]) (by simp[zt]) (by simp[zt]) hx hx];simp
 ·rw[YW (d:=9998) (k:=.u32) (x:=f 14) (y:=f 14) h1 abI (by rw[ho 5 14 hi rfl];rfl) (by rw[ho 5 14 hi rfl];rfl)];simp
 ·rw[YW (d:=9998) (k:=.u32) (x:=f 15) (y:=f 15) h1 abH (by rw[ho 6 15 hi rfl];rfl) (by rw[ho 6 15 hi rfl];rfl)];simp
theorem WS{f:kM}{lit:Bool}{H:Hp}:CZ TP 54 lit (.agg (zS f)) (.agg (zS f)) H=some true:=(vB afN abO afR afO).trans VN
section
variable{H:Hp}{R:Value->Hp->Prop}{lb p:Nat}{mine:Int}{O:Nat->Prop}{B L I:Int}
theorem Z0:TP.underlying 29=some (.slice 3):=by kernel_rfl
theorem HB{v w:Value}{l:List Int}(hx:Sr 1 H v (l.map nI))(hy:Sr 1 H w (l.map nI))(hlen:l.length<1000000)(k:R (.bool true) H):Fc TP 19 #[v,w] H R:=by
 refine fn19 ?_;simp only[sh19,Ul,Ub,Ui,Ug,Uo,Uv,U1,U0,zm];rw[hx.j9 Z0,za,hy.j9 Z0,za,bR,zn,za,cH (by omega),zh];refine zF.mk (fun t H'=>H'=H/\∃ i:Nat,i<=l.length/\t=(zg i,())) (fun t _=>mi t.1 fun i=>(l.length - i).toNat) ⟨rfl,0,by omega,rfl⟩ ?_;rintro _ H1 ⟨rfl,i,hi,rfl⟩;rw[za,zk,za,zb];refine⟨fun kc=>?_,fun lA=>k⟩;have hxi:(l.map nI)[i]?=some (nI l[i]):=by rw[dR,bU (by omega)];rfl
 obtain⟨b,o,ha,hr⟩:=hx.cell (j:=0) hxi (by omega);obtain⟨b2,o2,uM,wF⟩:=hy.cell (j:=0) hxi (by omega);rw[bH]at hr wF;have n0:(nI l[i])[0]?=some (zg l[i]):=rfl;rw[ha,za,hr,n0,za,uM,za,wF,n0,za,zn,za,cH (by omega),zh,ze,za,zE,zr (by omega)];exact⟨⟨rfl,i+1,by omega,rfl⟩,by simp only[zu];exact yR (by omega)⟩
end
section
variable{H:Hp}{R:Value->Hp->Prop}{lb p:Nat}{mine:Int}{O:Nat->Prop}{x:kh}
theorem VF{P:mS}(h:(Yv lb p x mine P).at_ H O)(k:R (zg P.s.made) H):Fc TP 21 #[zD p] H R:=by
 obtain⟨cb,mb,ov,wv,ha⟩:=h;obtain⟨_,Od,Oc,hd,_⟩:=pJ (r:=[]) (Lo.open ha);refine fn21 ?_;simp only[sh21,Ul,UA,UI,Uf,Uu,Uv,Ul,UA,UI,Uf,Uu,Uv];refine wP hd ?_;obtain⟨⟨mh,ml,ps,hs,fh,fl,nh,nl,kK,lJ,hd,_⟩,_⟩:=hd;simp only[zx,za,iW,zh,zl,zc,aR,zi hd.top,Zn];exact k
end
theorem aa4:TP.underlying 40=some (.pointer 128):=by kernel_rfl
theorem LX:TP.underlying 126=some (.slice 161):=by kernel_rfl
noncomputable def kj.ours(D:kj)(m:Int):Bool:=decide (D.dead=false/\0<m/\m=D.owner)
noncomputable def Z4(D:kj)(G:mW):Int:=if G.made then(if D.ours G.mine then 0 else 3) else 1
noncomputable def wN(D:kj)(G:mW)(a:Int):jn:=match G.group.find? fun y=>decide (y.1=a) with
 | some y=>y.2
 | none=>D.at_ a
noncomputable def zU(x:kh)(D:kj)(G:mW)(a:Int):kj × jn × Int:=
 if Z4 D G≠0 then(D,zB,Z4 D G) else if a<0\/x.B<=a then(D,zB,2) else
  match G.group.find? fun y=>decide (y.1=a) with
  | some y=>(D,y.2,0)
  | none=>((D.read a).1,(D.read a).2.1,0)
structure DOk(D:kj)(G:mW):Prop where
 Ll:AK D
 is:∀ y∈G.group,jR y.2
 len:G.group.length<=1048576
section
variable{G:mW}{r:Nat}{x:kh}{gv tv:Value}
theorem afv:(yx r x G gv tv)[0]?=some (zD r):=rfl
theorem ajx:(yx r x G gv tv)[1]?=some (zg x.B):=rfl
theorem afu:(yx r x G gv tv)[10]?=some (zg G.mine):=rfl
theorem aft:(yx r x G gv tv)[11]?=some (.bool G.made):=rfl
theorem afs:(yx r x G gv tv)[12]?=some gv:=rfl
end
section
variable{H:Hp}{R:Value->Hp->Prop}{w r:Nat}{D:kj}{G:mW}{x:kh}{O:Nat->Prop}
theorem OW(h:(Zd r D).at_ H O){m:Int}(k:R (.bool (D.ours m)) H):Fc TP 115 #[zD r,zg m] H R:=by
 obtain⟨hv,wv,ov,ht⟩:=vZ h;refine fn115 ?_;simp only[sh115,Ul,UA,Ub,UI,Uu,Uv,U0];rw[show ya TP 39 true .neq (zD r) (.pointer none) H=some (.bool true) from MD pF,za,zA];simp only[zl,zc,aR,bH,za];rw[zi ht,abv,za,zx,za];unfold kj.ours at k;cases hd:D.dead with
 | true=>
  rw[iW,zh];rw[cH (fun e=>by rw[hd]at e;cases e.1)]at k;exact k
 | false=>
  rw[jN,zA,zJ,za,zb];refine⟨fun h0=>?_,fun h0=>?_⟩
  ·rw[zi ht,afx,za,zp,za];rw[ZO (q:=m=D.owner) ⟨fun e=>e.2.2,fun e=>⟨hd,h0,e⟩⟩]at k;exact k
  ·rw[cH (fun e=>h0 e.2.1)]at k;exact k
theorem yu(h:(ZN w r D x G).at_ H O)(k:R (zg (Z4 D G)) H):Fc TP 67 #[zD w] H R:=by
 obtain⟨gv,tv,ha⟩:=h;have l0:Lo O H H [Zd r D,.box w (yx r x G gv tv) 128,.sl 161 1025 gv (G.group.map zy),.sl 3 1 tv (G.wrote.map nI)]:=Lo.open ha;refine fn67 ?_;simp only[sh67,Ul,UA,UI,Uf,Uu,Uj,Uv,U1,zm];simp only[zl,zc,aR,bH,za];refine Zg.mk (fun t H'=>H'=H/\t.1=.bool (!G.made)) ?_ ?_
 ·rintro⟨t,u⟩ H1 ⟨rfl,ht⟩;simp only at ht;subst ht;unfold Z4 at k;cases hm:G.made with
  | false=>
   rw[jN,zA];rw[hm]at k;exact k
  | true=>
   rw[iW,zh,l0.ld (i:=1) rfl,afv,za,l0.ld (i:=1) rfl,afu,za];obtain⟨O1,h1,_⟩:=l0.call (i:=0) rfl;refine OW h1 ?_;rw[hm]at k;simp only[jO]at k;rw[zx,za];cases ho:D.ours G.mine with
   | true=>rw[iW,zh];rw[ho]at k;exact k
   | false=>rw[jN,zA];rw[ho]at k;exact k
 ·rw[show ya TP 40 true .eql (zD w) (.pointer none) H=some (.bool false) from Z6 aa4,za,zh,l0.ld (i:=1) rfl,aft,za,zx,za];exact⟨rfl,rfl⟩
theorem C9(h:(ZN w r D x G).at_ H O)(kD:DOk D G){a:Int}(k:∀ H' O',kS O O' H H'->(ZN w r (zU x D G a).1 x G).at_ H' O'->R (.tuple #[.agg (zU x D G a).2.1,zg (zU x D G a).2.2]) H'):Fc TP 35 #[zD w,zg a] H R:=by
 obtain⟨gv,tv,ha⟩:=h;have l0:Lo O H H [Zd r D,.box w (yx r x G gv tv) 128,.sl 161 1025 gv (G.group.map zy),.sl 3 1 tv (G.wrote.map nI)]:=Lo.open ha;have hlen:=kD.len;refine fn35 ?_;simp only[sh35,Ul,UL,UA,Us,Ub,Uz,Ux,UI,Uf,Ui,Ug,Uj,Uo,Uv,U1,ZI,yP,za,zm];refine l0.jc fun b H1 e1 l1=>?_;have l1:Lo O H H1 [Zd r D,.box w (yx r x G gv tv) 128,.sl 161 1025 gv (G.group.map zy),.sl 3 1 tv (G.wrote.map nI),.box b zB 65]:=l1;have out:∀ {H':Hp} {D':kj} {c:jn},Lo O H H' [Zd r D',.box w (yx r x G gv tv) 128,.sl 161 1025 gv (G.group.map zy),.sl 3 1 tv (G.wrote.map nI),.box b c 65]->∃ O',kS O O' H H'/\(ZN w r D' x G).at_ H' O':=fun l'=>by
  obtain⟨O',st,ha⟩:=Lo.close (l:=[_,_,_,_]) (r:=[_]) l';exact⟨O',st,⟨_,_,ha⟩⟩
 obtain⟨O1,pH,h1⟩:=out l1;refine yu h1 ?_;simp only[zl,zc,aR,bH,za];rw[zn,za,zb];refine⟨fun jZ=>?_,fun heq=>?_⟩
 ·have e:zU x D G a=(D,zB,Z4 D G):=by unfold zU;rw[aU jZ]
  rw[e]at k;refine l1.ret (i:=4) (K:=fun y H4=>R (.tuple #[y,zg (Z4 D G)]) H4) rfl zw zw z6.ok fun H' l'=>?_;obtain⟨O',st,h'⟩:=out (D':=D) l';exact k H' O' st h'
 ·have heq:Z4 D G=0:=jh.1 heq;refine Zg.mk (fun t H'=>H'=H1/\t.1=.bool (decide (a<0\/x.B<=a))) ?_ ?_
  rotate_left
  ·rw[zk,za,zb];refine⟨fun h0=>⟨rfl,yB (.inl h0)⟩,fun h0=>?_⟩;rw[l1.ld (i:=1) rfl,ajx,za,zN,za];exact⟨rfl,YF ⟨fun e=>.inr e,fun e=>e.resolve_left h0⟩⟩
  rintro⟨t,u⟩ H2 ⟨rfl,ht⟩;simp only at ht;subst ht;rw[zb];refine⟨fun hb=>?_,fun hb=>?_⟩
  ·have e:zU x D G a=(D,zB,2):=by unfold zU;rw[aH (by rw[heq];simp),aU hb]
   rw[e]at k;refine l1.ret (i:=4) (K:=fun y H4=>R (.tuple #[y,zg 2]) H4) rfl zw zw z6.ok fun H' l'=>?_;obtain⟨O',st,h'⟩:=out (D':=D) l';exact k H' O' st h'
  have e0:zU x D G a=match G.group.find? fun y=>decide (y.1=a) with
   | some y=>(D,y.2,0)
   | none=>((D.read a).1,(D.read a).2.1,0):=by unfold zU;rw[aH (by rw[heq];simp),aH hb]
  refine zF.mk (fun t H'=>H'=H2/\∃ i:Nat,i<=G.group.length/\t=(zg i,())/\∀ y∈G.group.take i,y.1≠a) (fun t _=>mi t.1 fun i=>(G.group.length - i).toNat) ⟨rfl,0,by omega,rfl,by simp⟩ ?_;rintro _ H3 ⟨rfl,i,hi,rfl,kG⟩;have h3:=(l1.sv (i:=2) rfl).sr;rw[l1.ld (i:=1) rfl,afs,za,h3.j9 LX,za,bR,zk,za,zb];refine⟨fun kc=>?_,fun lA=>?_⟩
  ·have kI:i<G.group.length:=by omega
   have lP:(G.group.map zy)[i]?=some (zy G.group[i]):=by rw[dR,bU kI];rfl
   have uL:G.group[i]∈G.group:=ju kI;have AV:G.group.drop i=G.group[i] :: G.group.drop (i+1):=jF kI;have mR:G.group.take (i+1)=G.group.take i++[G.group[i]]:=fU kI;generalize G.group[i]=y at lP uL AV mR;obtain⟨b4,o,PO,lI,kE⟩:=h3.el lP;rw[za,PO,za,zc,za,lI 0 (by omega),yg,za,zp,za,zb];refine⟨fun he=>?_,fun jZ=>?_⟩
   ·have hyb:=kD.is y uL;rw[za,PO,za,zc,za,kE 1 1024 (by omega),za,Ym hyb];have ef:(G.group.find? fun y=>decide (y.1=a))=some y:=by
     rw[show G.group=G.group.take i++G.group.drop i from(nf i _).symm,jH,j0.2 (fun z hz=>by simpa using kG z hz),AV,jT (by simpa using he)];rfl
    rw[ef]at e0;rw[e0]at k;refine l1.ret (i:=4) (K:=fun y H4=>R (.tuple #[y,zg 0]) H4) rfl zw hyb.size hyb.ok fun H' l'=>?_;obtain⟨O',st,h'⟩:=out (D':=D) l';exact k H' O' st h'
   ·rw[ze,za,zE,zr (by omega)];refine⟨⟨rfl,i+1,by omega,rfl,fun z hz=>?_⟩,by simp only[zu];omega⟩;rw[mR]at hz;rcases fH.1 hz with e2 | e2
    ·exact kG z e2
    ·rw[eU.1 e2];exact jZ
  ·have ei:i=G.group.length:=by omega
   subst ei;rw[jk]at kG;have ef:(G.group.find? fun y=>decide (y.1=a))=none:=j0.2 fun z hz=>by simpa using kG z hz
   rw[ef]at e0;rw[e0]at k;rw[l1.ld (i:=1) rfl,afv,za];obtain⟨O5,h5,Hq⟩:=l1.call (i:=0) rfl;refine QY h5 kD.Ll fun H6 O6 s6 h6=>?_;have lK:jR (D.read a).2.1:=by
    unfold kj.read;split
    ·exact z6
    ·split
     ·exact z6
     ·exact kj.TR kD.Ll a
   have l6:=Hq H6 _ O6 s6 h6;have l6:Lo O H H6 [Zd r (D.read a).1,.box w (yx r x G gv tv) 128,.sl 161 1025 gv (G.group.map zy),.sl 3 1 tv (G.wrote.map nI),.box b zB 65]:=l6;generalize D.read a=q at lK l6 k;rw[show zq (.tuple #[.agg q.2.1,zg q.2.2]) 0=some (.agg q.2.1) from rfl,za,show zq (.tuple #[.agg q.2.1,zg q.2.2]) 1=some (zg q.2.2) from rfl,za];refine l6.jc fun b7 H7 _ l7=>?_;refine l7.jE (i:=5) rfl zw lK.size lK.ok fun H8 l8=>?_;rw[l8.je (i:=5) (n:=1024) rfl lK.size,za];refine l8.ret (i:=4) (K:=fun y H4=>R (.tuple #[y,zg 0]) H4) rfl zw lK.size lK.ok fun H' l'=>?_;obtain⟨O',st,h'⟩:=out (D':=q.1) (l'.takeN 5);exact k H' O' st h'
end
section
variable{S:Nat->Prop}{H0 H H':Hp}{l r:List Ob}
theorem Lo.join(h:Lo S H0 H l)(m:Lx H H' r):Lo S H0 H' (l++r):=by
 have hp:Lx H H' [.all r]:=Lo.pack (l:=[]) m;exact Lo.unpack (h.new m.iZ (hp.nY (i:=0) rfl))
end
noncomputable def pl0(B:Int)(l:List (Int × jn)):mS:=⟨OI B l,[],[],false,0,none,0,0⟩
section
variable{B L I:Int}{l:List (Int × jn)}
theorem Q8{n b:Int}(h:HN n b l)(a:Int):Zt (pl0 B l).s (pl0 B l).cs a=z9 l a:=ES h a
end
theorem SM{g:Nat->kM}:∀ {n},(∀ j,1<=j->j<=n->g j 0≠0)->CR g n=0
 | 0,_=>rfl
 | n+1,h=>by
  unfold CR;rw[SM (n:=n) fun j h1 h2=>h j h1 (by omega),aH (h (n+1) (by omega) (by omega))]
theorem EZ{g g':Nat->kM}:∀ {n},(∀ j,1<=j->j<=n->g j 0=g' j 0)->CR g n=CR g' n
 | 0,_=>rfl
 | n+1,h=>by
  unfold CR;rw[EZ (n:=n) fun j h1 h2=>h j h1 (by omega),h (n+1) (by omega) (by omega)]
theorem rU:zo TP 54 []=some (.agg (zS fun _=>0)):=by kernel_rfl
theorem pr0{p lb r w:Nat}:(prC p lb r w)[0]?=some (zD p):=rfl
theorem pr1{p lb r w:Nat}:(prC p lb r w)[1]?=some (zD lb):=rfl
theorem pr3{p lb r w:Nat}:(prC p lb r w)[3]?=some (zD w):=rfl
def mF(x:kh)(ts:List Int):Prop:=(ts.length:Int)<=x.L - 1/\ts.Nodup/\∀ t∈ts,1+x.L<=t/\t<x.B
noncomputable def I3:List Int->Nat->jn->jn
 | [],_,b=>b
 | t :: l,i,b=>I3 l (i+1) (nW b (4*(i+1)) 4 t.toNat)
noncomputable def sZ(ts:List Int):jn:=I3 ts 0 (nW zB 0 4 ts.length)
theorem I2:∀ (ts:List Int) (i:Nat) {b:jn},jR b->jR (I3 ts i b)
 | [],_,_,h=>h
 | _ :: l,i,_,h=>I2 l (i+1) (Y9 _ _ _ h.n).b
theorem Gj(ts:List Int):jR (sZ ts):=I2 _ _ (Y9 _ _ _ z6.n).b
theorem Bu:zo TP 65 []=some (.agg zB):=by kernel_rfl
section
variable{H:Hp}{R:Value->Hp->Prop}
theorem Sp{x:kh}(hL:1<=x.L/\x.L<=256){ov:Value}{ts:List Int}(hs:Sr 1 H ov (ts.map nI))(hlen:ts.length<281474976710656)
   (k:∀ H',Ext H H'->R (.bool (decide (mF x ts))) H'):Fc TP 140 #[.agg x.cells,ov] H R:=by
 have c1:x.cells[1]?=some (zg x.L):=rfl
 have c0:x.cells[0]?=some (zg x.B):=rfl
 have kf:∀ {H'},Ext H H'->¬ mF x ts->R (.bool false) H':=fun {H'} e hn=>by
   have:=k H' e
   rw[cH hn]at this;exact this
 refine fn140 ?_
 simp only[sh140,Ul,UA,Us,Ub,Uz,Ux,Ui,Ug,Uj,Uo,Uv,U1,U0,zm,pQ,Af,za]
 refine(Lo.start _ H:Lx H H []).jc fun b1 H1 _ l1=>?_
 have l1:Lx H H1 [.box b1 x.cells 62]:=l1
 simp only[zc,aR,bH,za]
 rw[hs.j9 Z0,za,bR,l1.ld (i:=0) rfl,c1,za,zP,za,zd (by omega) (by omega),zJ,za,zb]
 refine⟨fun KO=>kf l1.iZ fun h=>by have:=h.1;omega,fun mL=>?_⟩
 refine yL fun m H2 hm e2 s2 g2=>?_
 have l2:=l1.add e2 (x:=nA m (oV []) 0) (O:=(·=m)) ⟨⟨by rw[Bq];exact kq.new g2,rfl⟩,fun b hb=>by omega⟩ fun b hb=>by omega
 rw[za]
 refine zF.mk (fun t H'=>∃ (pre post:List Int),ts=pre++post/\t=(zg (pre.length:Nat),())/\pre.Nodup/\(∀ t∈pre,1+x.L<=t/\t<x.B)/\Lx H H' [.box b1 x.cells 62,nA m (oV pre) pre.length])
   (fun t _=>mi t.1 fun i=>(ts.length - i).toNat) ⟨[],ts,rfl,rfl,rV,fun t ht=>(by cases ht),l2⟩ ?_
 clear l2 l1
 rintro _ H3 ⟨pre,post,mO,rfl,lj,SC,l3⟩
 have hl:ts.length=pre.length+post.length:=by rw[mO,cR]
 rw[zk,za,zb]
 refine⟨fun kc=>?_,fun lA=>?_⟩
 · match post,mO,hl with
   | [],_,hl=>simp at hl;omega
   | t :: post,mO,hl=>
     rw[gR]at hl
     have wG:(ts.map nI)[pre.length]?=some (nI t):=by rw[mO,cU,jB (by simp)];simp
     obtain⟨bb,oo,ha,hv⟩:=(hs.ext l3.iZ).cell wG (j:=0) (by omega)
     rw[bH]at hv
     rw[show zG (some (none,1)) ov (zg (pre.length:Nat))=_ from ha .i64,za,hv,show(nI t)[0]?=some (zg t) from rfl,za]
     obtain⟨Om,hmp⟩:=l3.get (i:=1) (x:=nA m (oV pre) pre.length) rfl
     rw[YT hmp.1.1 true t,pQ]
     by_cases o8:t∈pre
     · rw[C4 o8]
       show Pu (some (Value.tuple #[.agg #[],.bool true])) _
       rw[za,show zq (.tuple #[.agg #[],.bool true]) 0=some (.agg #[]) from rfl,za,show zq (.tuple #[.agg #[],.bool true]) 1=some (.bool true) from rfl,za]
       refine l3.jc fun b4 H4 _ l4=>?_
       refine l4.jE (i:=2) (n:=0) (vs:=#[]) rfl rfl rfl (by unfold zv;rw[<- iV];rfl) fun H5 l5=>?_
       refine Zg.mk (fun t' H'=>t'.1=.bool true/\H'=H5) ?_ ?_
       · rintro⟨tt,u⟩ H6 ⟨ht,rfl⟩
         simp only at ht
         subst ht
         rw[zA]
         refine kf l5.iZ fun h=>?_
         have h2:=h.2.1
         rw[mO,jJ]at h2
         exact h2.2.2 t o8 t eH rfl
       · rw[zA];exact⟨rfl,rfl⟩
     · rw[ud o8]
       show Pu (some (Value.tuple #[.agg #[],.bool false])) _
       rw[za,show zq (.tuple #[.agg #[],.bool false]) 0=some (.agg #[]) from rfl,za,show zq (.tuple #[.agg #[],.bool false]) 1=some (.bool false) from rfl,za]
       refine l3.jc fun b4 H4 _ l4=>?_
       refine l4.jE (i:=2) (n:=0) (vs:=#[]) rfl rfl rfl (by unfold zv;rw[<- iV];rfl) fun H5 l5=>?_
       have l5:Lx H H5 [.box b1 x.cells 62,nA m (oV pre) pre.length,.box b4 #[] 165]:=l5
       refine Zg.mk (fun t' H'=>t'.1=.bool (decide (¬ (1+x.L<=t/\t<x.B)))/\H'=H5) ?_ ?_
       · rintro⟨tt,u⟩ H6 ⟨ht,rfl⟩
         simp only at ht
         subst ht
         rw[zb]
         refine⟨fun hb=>kf l5.iZ fun h=>hb (h.2.2 t (by rw[mO];simp)),fun hb=>?_⟩
         have hgd:=jh.1 hb
         obtain⟨O5,h5,Hq⟩:=l5.call (i:=1) (x:=nA m (oV pre) pre.length) rfl
         refine YU h5.1.1 fun H7 k7 s7 m7=>?_
         rw[ud o8,aU rfl,Gw]at m7
         have l7:=Hq H7 (nA m (oV (pre++[t])) (pre.length+1)) O5 ⟨k7.mono fun b _ e=>e ▸ h5.1.2,fun b hb=>.inl hb⟩ ⟨⟨m7,h5.1.2⟩,fun b hb=>by rw[s7];exact h5.2 b hb⟩
         rw[ze,za,zE,zr (by omega)]
         refine⟨⟨pre++[t],post,by rw[mO];simp,by rw[cR];rfl,?_,fun u hu=>?_,?_⟩,by simp only[zu];exact yR (by omega)⟩
         · rw[jJ]
           exact⟨lj,by simp,fun a ha b hb e=>by rw[eU.1 hb]at e;exact o8 (e ▸ ha)⟩
         · rcases fH.1 hu with h1 | h1
           · exact SC u h1
           · rw[eU.1 h1];exact hgd
         · rw[cR];exact l7.takeN 2
       · rw[zh,l5.ld (i:=0) rfl,c1,za,ze,za,zd (by omega) (by omega),zk,za,zb]
         refine⟨fun h1=>⟨?_,rfl⟩,fun h1=>?_⟩
         · rw[gU (show ¬ (1+x.L<=t/\t<x.B) from fun h=>by omega)]
         · rw[l5.ld (i:=0) rfl,c0,za,zN,za]
           refine⟨?_,rfl⟩
           rw[ZO (show(x.B<=t)↔¬ (1+x.L<=t/\t<x.B) from⟨fun h hh=>by omega,fun h=>by omega⟩)]
 · have:post=[]:=jz (by omega)
   subst this
   rw[jY]at mO
   subst mO
   have:=k H3 l3.iZ
   rw[gU (show mF x ts from⟨by omega,lj,SC⟩)]at this;exact this
theorem IF{B L I:Int}(hB : -9223372036854775808<=B/\B<=9223372036854775807)(hg:Zy B L I){ov:Value}{ts:List Int}(hs:Sr 1 H ov (ts.map nI))(hlen:ts.length<281474976710656)
   (k:∀ H',Ext H H'->R (.tuple #[.agg (if mF (zf B L I) ts then sZ ts else zB),.int .i64 (if mF (zf B L I) ts then 0 else 4)]) H'):Fc TP 95 #[.agg (zf B L I).cells,.agg #[ov]] H R:=by
 obtain⟨xP,xO,wI,xQ,vP,vO,gD⟩:=id hg
 have Bm:(zf B L I).L=L:=rfl
 have hBB:(zf B L I).B=B:=rfl
 have g0:(#[ov]:Array Value)[0]?=some ov:=rfl
 refine fn95 ?_
 simp only[sh95,Ul,UL,UA,Us,Ub,Uz,Uf,Ui,Ug,Uu,Uo,Uv,ZI,Bu,zm,za]
 refine(Lo.start _ H:Lx H H []).jc fun b1 H1 _ l1=>?_
 refine l1.jc fun b2 H2 _ l2=>?_
 refine l2.jc fun b3 H3 _ l3=>?_
 have l3:Lx H H3 [.box b1 (zf B L I).cells 62,.box b2 #[ov] 151,.box b3 zB 65]:=l3
 simp only[zc,aR,bH,za]
 rw[l3.je (i:=0) (n:=9) rfl (kh.size _),za]
 refine M5 hB hg fun H4 e4=>?_
 have l4:=l3.ext e4
 rw[zx,za,iW,zh,l4.je (i:=0) (n:=9) rfl (kh.size _),za,l4.ld (i:=1) rfl,g0,za]
 refine Sp (x:=zf B L I) ⟨by rw[Bm];omega,by rw[Bm];omega⟩ (hs.ext l4.iZ) hlen fun H5 e5=>?_
 have l5:=l4.ext e5
 by_cases hm:mF (zf B L I) ts
 · rw[aU hm,aU hm]at k
   have hm1:=hm.1
   rw[Bm]at hm1
   rw[gU hm,zx,za,iW,zh,l5.ld (i:=1) rfl,g0,za,(hs.ext l5.iZ).j9 Z0,za,bR,zz,za,ox (by omega)]
   refine rr z6 (a:=0) (v:=ts.length) (by omega) (by omega) fun H6 e6=>?_
   have hi0:jR (nW zB 0 4 ts.length):=(Y9 _ _ _ z6.n).b
   refine(l5.ext e6).jc fun b4 H7 _ l7=>?_
   refine l7.jE (i:=3) rfl zw hi0.size hi0.ok fun H8 l8=>?_
   have l8:Lx H H8 [.box b1 (zf B L I).cells 62,.box b2 #[ov] 151,.box b3 zB 65,.box b4 (nW zB 0 4 ts.length) 65]:=l8
   rw[l8.ld (i:=1) rfl,g0,za,(hs.ext l8.iZ).j9 Z0,za,bR]
   refine zF.mk (fun t H'=>∃ (pre post:List Int) (c:jn),ts=pre++post/\t=(zg (pre.length:Nat),())/\jR c/\I3 post pre.length c=sZ ts/\Lx H H' [.box b1 (zf B L I).cells 62,.box b2 #[ov] 151,.box b3 zB 65,.box b4 c 65])
     (fun t _=>mi t.1 fun i=>(ts.length - i).toNat) ⟨[],ts,_,rfl,rfl,hi0,rfl,l8⟩ ?_
   clear l8 l7 l5 l4 l3 l2 l1
   rintro _ H9 ⟨pre,post,c,mO,rfl,hc,xM,l9⟩
   have hl:ts.length=pre.length+post.length:=by rw[mO,cR]
   rw[zk,za,zb]
   refine⟨fun kc=>?_,fun lA=>?_⟩
   · match post,mO,hl,xM with
     | [],_,hl,_=>simp at hl;omega
     | t :: post,mO,hl,xM=>
       rw[gR]at hl
       have wG:(ts.map nI)[pre.length]?=some (nI t):=by rw[mO,cU,jB (by simp)];simp
       obtain⟨bb,oo,ha,hv⟩:=(hs.ext l9.iZ).cell wG (j:=0) (by omega)
       rw[bH]at hv
       obtain⟨N9,PL⟩:=hm.2.2 t (by rw[mO];simp)
       rw[Bm]at N9
       rw[hBB]at PL
       have htn:t=((t.toNat:Nat):Int):=by omega
       have hcv:IntKind.u32.wrap t=((t.toNat:Nat):Int):=by
         have:=ox (v:=t.toNat) (by omega)
         rw[<- htn]at this
         rw[this];exact htn
       rw[show zG (some (none,1)) ov (zg (pre.length:Nat))=_ from ha .i64,za,hv,show(nI t)[0]?=some (zg t) from rfl,za,l9.je (i:=3) (n:=1024) rfl hc.size,za,ze,za,zE,zr (by omega),zW,za,zd (by omega) (by omega),show(4:Int)*((pre.length+1:Nat):Int)=((4*(pre.length+1):Nat):Int) by omega,zz,za,hcv]
       refine rr hc (a:=4*(pre.length+1)) (v:=t.toNat) (by omega) (by omega) fun mX sA=>?_
       have Gm:jR (nW c (4*(pre.length+1)) 4 t.toNat):=(Y9 _ _ _ hc.n).b
       refine(l9.ext sA).jE (i:=3) rfl hc.size Gm.size Gm.ok fun mN lO=>?_
       rw[za]
       refine⟨⟨pre++[t],post,_,by rw[mO];simp,by rw[cR];rfl,Gm,?_,lO⟩,by simp only[zu];exact yR (by omega)⟩
       rw[cR];exact xM
   · have:post=[]:=jz (by omega)
     subst this
     have xM:c=sZ ts:=xM
     rw[l9.je (i:=3) (n:=1024) rfl hc.size,za]
     refine l9.ret (i:=2) (K:=fun y H'=>R (.tuple #[y,.int .i64 0]) H') rfl zw hc.size hc.ok fun mX mn=>?_
     rw[xM]
     exact k mX mn.iZ
 · rw[aH hm,aH hm]at k
   rw[cH hm,zx,za,jN,zA]
   exact l5.ret (i:=2) (K:=fun y H'=>R (.tuple #[y,.int .i64 4]) H') rfl zw zw z6.ok fun H6 l6=>k H6 l6.iZ
end
theorem Vy{size:Int}{s:DS}{cs:List Pl}{k:Nat}(h:s.fit k)(a:Int):(Zk size s cs a).1.fit (k+1):=by
 have h0:=h.mono (mC k);unfold Zk;split
 ·exact h0
 ·split
  ·exact h0
  ·split
   ·exact h0
   ·exact DS.QX h a
theorem WO{s:DS}{cs:List Pl}{k:Nat}(h:s.fit k)(a:Int):(Zw s cs a).1.fit (k+1):=by
 have h0:=h.mono (mC k);unfold Zw;split
 ·exact h0
 ·split
  ·exact h0
  ·split
   ·exact h0
   ·split<;>exact DS.pS h _ _
theorem Fi(cs:List Pl)(a:Int):(qV cs a).length=cs.length:=by unfold qV;rw[bR]
theorem WN(s:DS)(cs:List Pl)(a:Int):(Zw s cs a).2.1.length=cs.length:=by
 unfold Zw;split
 ·rfl
 ·split
  ·rfl
  ·split
   ·rfl
   ·split
    ·rfl
    ·exact Fi _ _
noncomputable def uB(size at0:Int):List Int->Nat->DS->List Pl->DS × List Pl × Bool
 | [],_,s,cs=>(s,cs,true)
 | a :: l,i,s,cs=>
  if (Zk size s cs a).2.2.2≠0 then((Zk size s cs a).1,(Zk size s cs a).2.1,false) else
  if ((Zk size s cs a).1.write (at0+(i:Int)) (Zk size s cs a).2.2.1).2≠0 then(((Zk size s cs a).1.write (at0+(i:Int)) (Zk size s cs a).2.2.1).1,(Zk size s cs a).2.1,false)
  else uB size at0 l (i+1) ((Zk size s cs a).1.write (at0+(i:Int)) (Zk size s cs a).2.2.1).1 (Zk size s cs a).2.1
noncomputable def JL(s:DS)(a:Int)(c:jn):DS × Bool:=
 if s.ja.2≠0 then(s.ja.1,false) else
 if (s.ja.1.write a c).2≠0 then((s.ja.1.write a c).1,false) else
 ((s.ja.1.write a c).1.ja.1,decide ((s.ja.1.write a c).1.ja.2=0))
noncomputable def AZ:List Int->DS->List Pl->DS × List Pl × Bool
 | [],s,cs=>(s,cs,true)
 | a :: l,s,cs=>if (Zw s cs a).2.2≠0 then((Zw s cs a).1,(Zw s cs a).2.1,false) else AZ l (Zw s cs a).1 (Zw s cs a).2.1
noncomputable def nH(x:kh)(P:mS):mS × Int:=
 let a:=uB (x.L+32) (x.logAt+1) P.order 0 P.s P.cs
 if a.2.2=false then({ P with s:=a.1,cs:=a.2.1 },3) else
 if ¬ mF x P.order then({ P with s:=a.1,cs:=a.2.1 },4) else
 let b:=JL a.1 x.logAt (sZ P.order)
 if b.2=false then({ P with s:=b.1,cs:=a.2.1 },3) else
 let f:=AZ P.order b.1 a.2.1
 if f.2.2=false then({ P with s:=f.1,cs:=f.2.1 },3) else
 let d:=JL f.1 x.logAt zB
 if d.2=false then({ P with s:=d.1,cs:=f.2.1 },3) else({ P with s:=d.1,cs:=f.2.1,order:=[],jA:=P.jA+1 },0)
section
variable{H:Hp}{R:Value->Hp->Prop}{p cb:Nat}{size:Int}{s:DS}{cs:List Pl}{O:Nat->Prop}
theorem Nw(h:(mA p cb size s cs).at_ H O)(hr:s.reads<4611686018427387904/\0<=s.reads)(lH:size<=4611686018427387904){a:Int}
   (k:∀ H' O',kS O O' H H'->(mA p cb size (Zk size s cs a).1 (Zk size s cs a).2.1).at_ H' O'->jR (Zk size s cs a).2.2.1->R (.tuple #[.agg (Zk size s cs a).2.2.1,.int .i64 (Zk size s cs a).2.2.2]) H'):Fc TP 47 #[zD cb,.int .i64 a] H R:=by
 obtain⟨⟨Od,Oc,d1,d2,d3,d4,d5⟩,dO⟩:=h
 have lK:=(HF (size:=size) d1 d2 a).1
 refine Dm d1 d2 d3 hr lH fun H' A0 k3 X4 qN EV=>?_
 refine k H' (fun b=>O b\/A0 b) ⟨k3.mono fun b _ hb=>?_,fun b hb=>?_⟩ ⟨⟨Od,A0,qN,EV,fun b hb qO=>?_,fun b hb=>.inl (d4 b hb),fun b hb=>.inr hb⟩,fun b hb=>?_⟩ lK
 · rcases hb with hb | hb
   · exact d4 b hb
   · exact d5 b hb
 · rcases hb with hb | hb
   · exact .inl hb
   · rcases X4 b hb with h2 | h2
     · exact .inl (d5 b h2)
     · exact .inr h2
 · rcases X4 b qO with h2 | h2
   · exact d3 b hb h2
   · have:=d1.lt b hb;omega
 · rcases hb with hb | hb
   · exact jj (dO b hb) k3.le
   · exact EV.lt b hb
theorem Bs{Od Oc JB:Nat->Prop}{H':Hp}{s':DS}(d1:jQ H p s Od)(d2:kJ H cb p size cs Oc)(d3:∀ b,Od b->¬ Oc b)(d4:∀ b,Od b->O b)(d5:∀ b,Oc b->O b)(dO:∀ b,O b->b<H.size)(st:kS Od JB H H')(hd:jQ H' p s' JB) :
   kS O (fun b=>O b\/JB b) H H'/\(mA p cb size s' cs).at_ H' (fun b=>O b\/JB b):=by
 refine⟨⟨st.kp.mono fun b _ hb=>d4 b hb,fun b hb=>?_⟩,⟨⟨JB,Oc,hd,d2.of (fun b hh=>st.kp.same b (d2.lt b hh) fun ho=>d3 b ho hh) st.kp.le,fun b hb qO=>?_,fun b hb=>.inr hb,fun b hb=>.inl (d5 b hb)⟩,fun b hb=>?_⟩⟩
 · rcases hb with hb | hb
   · exact .inl hb
   · rcases st.new b hb with h2 | h2
     · exact .inl (d4 b h2)
     · exact .inr h2
 · rcases st.new b hb with h2 | h2
   · exact d3 b h2 qO
   · have:=d2.lt b qO;omega
 · rcases hb with hb | hb
   · exact jj (dO b hb) st.kp.le
   · exact hd.lt b hb
theorem Dj(h:(mA p cb size s cs).at_ H O){kf:Nat}(hf:s.fit kf)(hk:kf<100000000000){a:Int}{c:jn}(hc:jR c)
   (k:∀ H' O',kS O O' H H'->(mA p cb size (s.write a c).1 cs).at_ H' O'->R (.int .i64 (s.write a c).2) H'):Fc TP 94 #[zD p,.int .i64 a,.agg c] H R:=by
 obtain⟨⟨Od,Oc,d1,d2,d3,d4,d5⟩,dO⟩:=h
 refine Db d1 hf hk hc fun H' JB st hd=>?_
 obtain⟨q1,q2⟩:=Bs d1 d2 d3 d4 d5 dO st hd
 exact k H' _ q1 q2
theorem rS(h:(mA p cb size s cs).at_ H O){kf:Nat}(hf:s.fit kf)(hk:kf<100000000000)
   (k:∀ H' O',kS O O' H H'->(mA p cb size s.ja.1 cs).at_ H' O'->R (.int .i64 s.ja.2) H'):Fc TP 96 #[zD p] H R:=by
 obtain⟨⟨Od,Oc,d1,d2,d3,d4,d5⟩,dO⟩:=h
 refine GB d1 hf hk fun H' JB st hd=>?_
 obtain⟨q1,q2⟩:=Bs d1 d2 d3 d4 d5 dO st hd
 exact k H' _ q1 q2
theorem Ts(h:(mA p cb size s cs).at_ H O){kf:Nat}(hf:s.fit kf)(hk:kf<100000000000)(lI:(cs.length:Int)<4611686018427387904){a:Int}
   (k:∀ H' O',kS O O' H H'->(mA p cb size (Zw s cs a).1 (Zw s cs a).2.1).at_ H' O'->R (.int .i64 (Zw s cs a).2.2) H'):Fc TP 97 #[zD cb,.int .i64 a] H R:=by
 obtain⟨⟨Od,Oc,d1,d2,d3,d4,d5⟩,dO⟩:=h
 refine Jq d1 d2 d3 hf hk lI fun H' JB k3 hod qN EV=>?_
 refine k H' (fun b=>O b\/JB b) ⟨k3.mono fun b _ hb=>?_,fun b hb=>?_⟩ ⟨⟨JB,Oc,qN,EV,fun b hb qO=>?_,fun b hb=>.inr hb,fun b hb=>.inl (d5 b hb)⟩,fun b hb=>?_⟩
 · rcases hb with hb | hb
   · exact d4 b hb
   · exact d5 b hb
 · rcases hb with hb | hb
   · exact .inl hb
   · rcases hod b hb with h2 | h2
     · exact .inl (d4 b h2)
     · exact .inr h2
 · rcases hod b hb with h2 | h2
   · exact d3 b h2 qO
   · have:=d2.lt b qO;omega
 · rcases hb with hb | hb
   · exact jj (dO b hb) k3.le
   · exact qN.lt b hb
end
theorem G0.mono{P:Program}{f:FuncId}{args:Array Value}{H:Hp}{K K':Hp->Prop}(h:G0 P f args H K)(hk:∀ H',K H'->K' H'):G0 P f args H K':=fun u w hw=>(h u w hw).mono fun e u' w' ⟨h1,h2,h3,h4⟩=>⟨h1,h2,hk _ h3,h4⟩
noncomputable def sf(lb p cb mb:Nat)(ov wv:Value)(x:kh)(mine:Int)(P:mS)(b1 b2:Nat)(e:Int):List Ob:=
 [mA p cb (x.L+32) P.s P.cs,nA mb (oV P.order) P.order.length,.sl 3 1 ov (P.order.map nI),pD P.wrote wv,.box lb (yN ov mb p cb x mine P.open_ P.room wv P.jA P.steps) 100,.box b1 #[zD lb] 38,.box b2 #[zg e] 46]
section
variable{S:Nat->Prop}{H0 H:Hp}{lb p cb mb b1 b2:Nat}{ov wv:Value}{x:kh}{mine:Int}{P:mS}{K:Hp->Prop}
theorem Xf{e:Int}(he:e≠0)(l:Lo S H0 H (sf lb p cb mb ov wv x mine P b1 b2 e))(k:K H):G0 TP 93 #[zD b2,zD b1] H K:=by
 refine G0.mono (fd93 (R:=fun _ H'=>K H') ?_) fun H' ⟨_,h⟩=>h;simp only[sh93,Ul,UA,Us,Ub,UI,Uv];have l:Lo S H0 H [mA p cb (x.L+32) P.s P.cs,nA mb (oV P.order) P.order.length,.sl 3 1 ov (P.order.map nI),pD P.wrote wv,.box lb (yN ov mb p cb x mine P.open_ P.room wv P.jA P.steps) 100,.box b1 #[zD lb] 38,.box b2 #[zg e] 46]:=l;rw[l.ld (i:=6) rfl,show(#[zg e]:Array Value)[0]?=some (zg e) from rfl,za,zp,za,cH he,zh];exact k
theorem Xe(hco : -9223372036854775808<=P.jA/\P.jA<9223372036854775807)(l:Lo S H0 H (sf lb p cb mb ov wv x mine P b1 b2 0))(k:∀ H' mb',Lo S H0 H' (sf lb p cb mb' (.slice none 0 0) wv x mine { P with order:=[],jA:=P.jA+1 } b1 b2 0)->K H'):G0 TP 93 #[zD b2,zD b1] H K:=by
 refine G0.mono (fd93 (R:=fun _ H'=>K H') ?_) fun H' ⟨_,h⟩=>h;have g17:∀ {ov:Value} {mb:Nat},(yN ov mb p cb x mine P.open_ P.room wv P.jA P.steps)[17]?=some (zg P.jA):=rfl;simp only[sh93,Ul,UA,Us,Ub,UI,Uv];have l:Lo S H0 H [mA p cb (x.L+32) P.s P.cs,nA mb (oV P.order) P.order.length,.sl 3 1 ov (P.order.map nI),pD P.wrote wv,.box lb (yN ov mb p cb x mine P.open_ P.room wv P.jA P.steps) 100,.box b1 #[zD lb] 38,.box b2 #[zg 0] 46]:=l;have q1:(#[zD lb]:Array Value)[0]?=some (zD lb):=rfl;rw[l.ld (i:=6) rfl,show(#[zg 0]:Array Value)[0]?=some (zg 0) from rfl,za,zp,za,gU rfl,zA,l.ld (i:=5) rfl,q1,za];refine yL fun m H2 hm e2 s2 g2=>?_;have l2:=l.add e2 (x:=nA m (oV []) 0) (O:=(·=m)) ⟨⟨by rw[Bq];exact kq.new g2,rfl⟩,fun b hb=>by omega⟩ fun b hb=>by omega
 have l2:Lo S H0 H2 [mA p cb (x.L+32) P.s P.cs,nA mb (oV P.order) P.order.length,.sl 3 1 ov (P.order.map nI),pD P.wrote wv,.box lb (yN ov mb p cb x mine P.open_ P.room wv P.jA P.steps) 100,.box b1 #[zD lb] 38,.box b2 #[zg 0] 46,nA m (oV []) 0]:=l2;rw[qW,za];simp only[zl,zc,aR,bH,za];refine l2.XN (i:=4) (j:=0) (n:=2) (vs:=#[.slice none 0 0,.map (some m)]) rfl (by exact(by decide:0+2<=19)) rfl (by unfold zv;rw[<- iV];rfl) fun H3 l3=>?_;have esp:zL (yN ov mb p cb x mine P.open_ P.room wv P.jA P.steps) 0 #[.slice none 0 0,.map (some m)]=yN (.slice none 0 0) m p cb x mine P.open_ P.room wv P.jA P.steps:=rfl;rw[esp]at l3;have l3:Lo S H0 H3 [mA p cb (x.L+32) P.s P.cs,nA mb (oV P.order) P.order.length,.sl 3 1 ov (P.order.map nI),pD P.wrote wv,.box lb (yN (.slice none 0 0) m p cb x mine P.open_ P.room wv P.jA P.steps) 100,.box b1 #[zD lb] 38,.box b2 #[zg 0] 46,nA m (oV []) 0]:=l3;rw[l3.ld (i:=5) rfl,q1,za];simp only[zl,zc,aR,bH,za];rw[l3.ld (i:=4) rfl,g17,za,ze,za,zd (by omega) (by omega)];refine l3.st (i:=4) (j:=17) (v:=zg (P.jA+1)) rfl (by exact(by decide:17<19)) rfl rfl fun H4 l4=>?_;have l4:Lo S H0 H4 [mA p cb (x.L+32) P.s P.cs,nA mb (oV P.order) P.order.length,.sl 3 1 ov (P.order.map nI),pD P.wrote wv,.box lb (yN (.slice none 0 0) m p cb x mine P.open_ P.room wv (P.jA+1) P.steps) 100,.box b1 #[zD lb] 38,.box b2 #[zg 0] 46,nA m (oV []) 0]:=l4;have l5:=l4.nt 3 1;have l6:=l5.pick [0,7,8,3,4,5,6] (by decide) (by simp);exact k H4 m l6
end
theorem UH:ZZ TP 46=some (.int .i64 0):=by kernel_rfl
theorem TF(b:Option Addr)(n c:Nat):zo TP 151 [(0,.slice b n c)]=some (.agg #[.slice b n c]):=by kernel_rfl
theorem Tn{x:kh}{P:mS}{s':DS}{ke:List Pl}(h:uB (x.L+32) (x.logAt+1) P.order 0 P.s P.cs=(s',ke,false)):nH x P=({ P with s:=s',cs:=ke },3):=by
 unfold nH;simp only[h,jO]
theorem ahS{x:kh}{P:mS}{s':DS}{ke:List Pl}(h:uB (x.L+32) (x.logAt+1) P.order 0 P.s P.cs=(s',ke,true))(hm:¬ mF x P.order):nH x P=({ P with s:=s',cs:=ke },4):=by
 unfold nH;simp only[h,mj,jD,hm,not_false_eq_true,jO]
theorem aaI{x:kh}{P:mS}{s' s2:DS}{ke:List Pl}(h:uB (x.L+32) (x.logAt+1) P.order 0 P.s P.cs=(s',ke,true))(hm:mF x P.order)(hb:JL s' x.logAt (sZ P.order)=(s2,false)):nH x P=({ P with s:=s2,cs:=ke },3):=by
 unfold nH;simp only[h,mj,jD,hm,not_true_eq_false,hb,jO]
theorem aaH{x:kh}{P:mS}{s' s2 s3:DS}{ke Nr:List Pl}(h:uB (x.L+32) (x.logAt+1) P.order 0 P.s P.cs=(s',ke,true))(hm:mF x P.order)(hb:JL s' x.logAt (sZ P.order)=(s2,true))(hf:AZ P.order s2 ke=(s3,Nr,false)):nH x P=({ P with s:=s3,cs:=Nr },3):=by
 unfold nH;simp only[h,mj,jD,hm,not_true_eq_false,hb,hf,jO]
theorem aaG{x:kh}{P:mS}{s' s2 s3 s4:DS}{ke Nr:List Pl}(h:uB (x.L+32) (x.logAt+1) P.order 0 P.s P.cs=(s',ke,true))(hm:mF x P.order)(hb:JL s' x.logAt (sZ P.order)=(s2,true))(hf:AZ P.order s2 ke=(s3,Nr,true))(hd:JL s3 x.logAt zB=(s4,false)):nH x P=({ P with s:=s4,cs:=Nr },3):=by
 unfold nH;simp only[h,mj,jD,hm,not_true_eq_false,hb,hf,hd,jO]
theorem aaF{x:kh}{P:mS}{s' s2 s3 s4:DS}{ke Nr:List Pl}(h:uB (x.L+32) (x.logAt+1) P.order 0 P.s P.cs=(s',ke,true))(hm:mF x P.order)(hb:JL s' x.logAt (sZ P.order)=(s2,true))(hf:AZ P.order s2 ke=(s3,Nr,true))(hd:JL s3 x.logAt zB=(s4,true)):nH x P=({ P with s:=s4,cs:=Nr,order:=[],jA:=P.jA+1 },0):=by
 unfold nH;simp only[h,mj,jD,hm,not_true_eq_false,hb,hf,hd]
section
variable{H:Hp}{R:Value->Hp->Prop}{lb p:Nat}{mine:Int}{O:Nat->Prop}{B L I:Int}
theorem Ew(hB : -9223372036854775808<=B/\B<=9223372036854775807)(hg:Zy B L I){P:mS}(h:(Yv lb p (zf B L I) mine P).at_ H O){kf:Nat}(ob:P.s.fit kf)(Sc:kf<90000000000)(lI:(P.cs.length:Int)<=L+32)(akn:P.order.length<=100000)(hco : -9223372036854775808<=P.jA/\P.jA<9223372036854775807)
   (k:∀ H' O',kS O O' H H'->(Yv lb p (zf B L I) mine (nH (zf B L I) P).1).at_ H' O'->R (.int .i64 (nH (zf B L I) P).2) H'):Fc TP 37 #[zD lb] H R:=by
 obtain⟨xP,xO,wI,xQ,vP,vO,gD⟩:=id hg
 have y3:∀ {a b:Value},zq (.tuple #[a,b]) 0=some a:=rfl
 have y4:∀ {a b:Value},zq (.tuple #[a,b]) 1=some b:=rfl
 have Bm:(zf B L I).L=L:=rfl
 have MY:(zf B L I).logAt=1:=rfl
 have q1:(#[zD lb]:Array Value)[0]?=some (zD lb):=rfl
 have q2:∀ {e:Int},(#[zg e]:Array Value)[0]?=some (zg e):=rfl
 obtain⟨cb,mb,ov,wv,ha⟩:=h
 have g0:(yN ov mb p cb (zf B L I) mine P.open_ P.room wv P.jA P.steps)[0]?=some ov:=rfl
 have g2:(yN ov mb p cb (zf B L I) mine P.open_ P.room wv P.jA P.steps)[2]?=some (zD p):=rfl
 have g3:(yN ov mb p cb (zf B L I) mine P.open_ P.room wv P.jA P.steps)[3]?=some (zD cb):=rfl
 have g7:(yN ov mb p cb (zf B L I) mine P.open_ P.room wv P.jA P.steps)[7]?=some (zg 1):=rfl
 refine fn37 ?_
 simp only[sh37,Ul,UL,UA,Us,Ub,Uz,Ux,UI,Uf,Uw,Ui,Ug,Uj,Uo,Uv,U1,UH,ZI,Bu,zm,za]
 refine(Lo.open ha).box fun b1 H1 _ l1=>?_
 refine l1.box fun b2 H2 _ l2=>?_
 have l2:Lo O H H2 (sf lb p cb mb ov wv (zf B L I) mine P b1 b2 0):=l2
 have leave:∀ {H':Hp} {s':DS} {ke:List Pl} {e0 e:Int},e≠0->Lo O H H' (sf lb p cb mb ov wv (zf B L I) mine { P with s:=s',cs:=ke } b1 b2 e0)->nH (zf B L I) P=({ P with s:=s',cs:=ke },e) ->
     Pu (zY (some 1) (.pointer (some ⟨b2,0,none⟩)) (zg e) H') fun H7=>G0 TP 93 #[.pointer (some ⟨b2,0,none⟩),.pointer (some ⟨b1,0,none⟩)] H7 fun H8=>Pu (zX (some none) (.pointer (some ⟨b2,0,none⟩)) H8) fun x25=>R x25 H8:=by
   intro H' s' ke e0 e he l' hc
   unfold sf at l'
   refine l'.st (i:=6) (j:=0) (v:=zg e) rfl (by exact(by decide:0<1)) rfl rfl fun H7 l7=>?_
   have l7:Lo O H H7 (sf lb p cb mb ov wv (zf B L I) mine { P with s:=s',cs:=ke } b1 b2 e):=l7
   refine Xf he l7 ?_
   have l8:=l7
   unfold sf at l8
   rw[l8.ld (i:=6) rfl,q2,za]
   obtain⟨O',st,mq⟩:=Lo.close (l:=Yc lb p cb mb ov wv (zf B L I) mine { P with s:=s',cs:=ke }) (r:=[_,_]) l7
   have:=k H7 O' st
   rw[hc]at this
   exact this ⟨cb,mb,ov,wv,mq⟩
 have l2':=l2
 unfold sf at l2'
 rw[l2'.ld (i:=5) rfl,q1,za]
 simp only[zl,zc,aR,bH,za]
 rw[l2'.ld (i:=4) rfl,g0,za,(l2'.sv (i:=2) rfl).sr.j9 Z0,za,bR]
 obtain⟨cA,Ue⟩:∃ r,r=uB (L+32) 2 P.order 0 P.s P.cs:=⟨_,rfl⟩
 refine zF.mk (fun t H'=>∃ (pre post:List Int) (s':DS) (ke:List Pl),P.order=pre++post/\t=(zg (pre.length:Nat),())/\uB (L+32) 2 post pre.length s' ke=cA/\s'.fit (kf+2*pre.length)/\(ke.length:Int)<=L+32/\Lo O H H' (sf lb p cb mb ov wv (zf B L I) mine { P with s:=s',cs:=ke } b1 b2 0))
   (fun t _=>mi t.1 fun i=>(P.order.length - i).toNat) ⟨[],P.order,P.s,P.cs,rfl,rfl,Ue.symm,ob,lI,l2⟩ ?_
 clear l2 l2'
 rintro _ H3 ⟨pre,post,s',ke,mO,rfl,nU,D5,EV,l3⟩
 have hl:P.order.length=pre.length+post.length:=by rw[mO,cR]
 have MQ:=l3
 unfold sf at MQ
 rw[zk,za,zb]
 refine⟨fun kc=>?_,fun lA=>?_⟩
 · match post,mO,hl,nU with
   | [],_,hl,_=>simp at hl;omega
   | a :: post,mO,hl,nU=>
     rw[gR]at hl
     have wG:(P.order.map nI)[pre.length]?=some (nI a):=by rw[mO,cU,jB (by simp)];simp
     obtain⟨bb,oo,Gn,DW⟩:=(MQ.sv (i:=2) rfl).sr.cell wG (j:=0) (by omega)
     rw[bH]at DW
     rw[show zG (some (none,1)) ov (zg (pre.length:Nat))=_ from Gn .i64,za,DW,show(nI a)[0]?=some (zg a) from rfl,za,MQ.ld (i:=5) rfl,q1,za]
     simp only[zl,zc,aR,bH,za]
     rw[MQ.ld (i:=4) rfl,g3,za]
     obtain⟨O3,h3,mJ⟩:=MQ.call (i:=0) rfl
     refine Nw h3 ⟨by have:=D5.reads;show s'.reads<_;omega,D5.reads.1⟩ (by rw[Bm];omega) fun H4 O4 s4 h4 lK=>?_
     have l4:=mJ H4 _ O4 s4 h4
     have hf4:=Vy (size:=(zf B L I).L+32) (cs:=ke) D5 a
     have R9:=xr (size:=(zf B L I).L+32) (s:=s') (a:=a) (show(ke.length:Int)<=(zf B L I).L+32 by rw[Bm];omega)
     have CL:uB (L+32) 2 (a :: post) pre.length s' ke=if (Zk ((zf B L I).L+32) s' ke a).2.2.2≠0 then((Zk ((zf B L I).L+32) s' ke a).1,(Zk ((zf B L I).L+32) s' ke a).2.1,false) else
         if ((Zk ((zf B L I).L+32) s' ke a).1.write (2+(pre.length:Int)) (Zk ((zf B L I).L+32) s' ke a).2.2.1).2≠0 then(((Zk ((zf B L I).L+32) s' ke a).1.write (2+(pre.length:Int)) (Zk ((zf B L I).L+32) s' ke a).2.2.1).1,(Zk ((zf B L I).L+32) s' ke a).2.1,false)
         else uB (L+32) 2 post (pre.length+1) ((Zk ((zf B L I).L+32) s' ke a).1.write (2+(pre.length:Int)) (Zk ((zf B L I).L+32) s' ke a).2.2.1).1 (Zk ((zf B L I).L+32) s' ke a).2.1:=rfl
     rw[CL]at nU
     clear CL
     have l4:Lo O H H4 (sf lb p cb mb ov wv (zf B L I) mine { P with s:=(Zk ((zf B L I).L+32) s' ke a).1,cs:=(Zk ((zf B L I).L+32) s' ke a).2.1 } b1 b2 0):=l4
     clear h4
     generalize Zk ((zf B L I).L+32) s' ke a=r at lK hf4 R9 nU l4 ⊢
     rw[y3,za,y4,za]
     unfold sf at l4
     refine l4.jc fun b3 H5 _ l5=>?_
     refine l5.jE (i:=7) rfl zw lK.size lK.ok fun H6 l6=>?_
     rw[zn,za,zb]
     refine⟨fun jZ=>?_,fun heq=>?_⟩
     · rw[aU jZ]at nU
       exact leave (by decide) (l6.takeN 7) (Tn (by rw[Bm,MY];exact Ue.symm.trans nU.symm))
     · rw[aH (by omega)]at nU
       have l6:Lo O H H6 (sf lb p cb mb ov wv (zf B L I) mine { P with s:=r.1,cs:=r.2.1 } b1 b2 0++[.box b3 r.2.2.1 65]):=l6
       have JI:=l6
       unfold sf at JI
       rw[JI.ld (i:=5) rfl,q1,za]
       simp only[zl,zc,aR,bH,Nat.reduceAdd,za]
       rw[JI.ld (i:=4) rfl,g2,za,JI.ld (i:=4) rfl,g7,za,ze,za,zd (by omega) (by omega),ze,za,zd (by omega) (by omega),JI.je (i:=7) (n:=1024) rfl lK.size,za]
       obtain⟨O6,h6,Ho⟩:=JI.call (i:=0) rfl
       refine Dj h6 hf4 (by omega) lK fun H7 O7 s7 h7=>?_
       have l7:=Ho H7 _ O7 s7 h7
       have sJ:=DS.pS hf4 (2+(pre.length:Int)) r.2.2.1
       have l7:Lo O H H7 (sf lb p cb mb ov wv (zf B L I) mine { P with s:=(r.1.write (2+(pre.length:Int)) r.2.2.1).1,cs:=r.2.1 } b1 b2 0++[.box b3 r.2.2.1 65]):=l7
       clear h7
       rw[show(1:Int)+1+(pre.length:Int)=2+(pre.length:Int) by omega]
       generalize r.1.write (2+(pre.length:Int)) r.2.2.1=w7 at sJ nU l7 ⊢
       rw[zn,za,zb]
       refine⟨fun jZ=>?_,fun AU=>?_⟩
       · rw[aU jZ]at nU
         exact leave (by decide) (l7.takeN 7) (Tn (by rw[Bm,MY];exact Ue.symm.trans nU.symm))
       · rw[aH (by omega)]at nU
         rw[ze,za,zE,zr (by omega)]
         exact⟨⟨pre++[a],post,w7.1,r.2.1,by rw[mO];simp,by rw[cR];rfl,by rw[cR];exact nU,by rw[cR];exact sJ.mono (by simp;omega),by rw[Bm]at R9;exact R9,l7.takeN 7⟩,by simp only[zu];exact yR (by omega)⟩
 have:post=[]:=jz (by omega)
 subst this
 have nU:cA=(s',ke,true):=nU.symm
 have hA:uB ((zf B L I).L+32) ((zf B L I).logAt+1) P.order 0 P.s P.cs=(s',ke,true):=by rw[Bm,MY];exact Ue.symm.trans nU
 have nX:pre.length<=100000:=by omega
 clear nU Ue hl lA mO
 obtain⟨vb,vc,eov⟩:=(MQ.sv (i:=2) rfl).sr.len
 have hbh:zo TP 151 [(0,ov)]=some (.agg #[ov]):=by rw[eov];exact TF _ _ _
 refine Zg.mk (fun t H'=>∃ b4:Nat,t.1=zD b4/\Lo O H H' (sf lb p cb mb ov wv (zf B L I) mine { P with s:=s',cs:=ke } b1 b2 (if mF (zf B L I) P.order then 0 else 4)++[.box b4 (if mF (zf B L I) P.order then sZ P.order else zB) 65])) ?_ ?_
 rotate_left
 · have sY:jR (if mF (zf B L I) P.order then sZ P.order else zB):=by
     split
     · exact Gj _
     · exact z6
   rw[MQ.ld (i:=5) rfl,q1,za]
   simp only[zl,zc,aR,bH,za]
   rw[Za (MQ.at (i:=4) rfl) (show 4+9<=19 by omega),za,Cp,MQ.ld (i:=4) rfl,g0,za,hbh,za]
   have mL:P.order.length<281474976710656:=by omega
   refine⟨?_,?_,trivial⟩
   · rw[zj]
     intro H4 e4
     have l4:=MQ.ext e4
     refine IF hB hg (l4.sv (i:=2) rfl).sr mL fun H5 e5=>?_
     rw[y3,za,y4,za,zj]
     intro H6 e6
     refine((l4.ext e5).ext e6).jc fun b4 H7 _ l7=>?_
     rw[zj]
     intro H8 e8
     refine(l7.ext e8).jE (i:=7) rfl zw sY.size sY.ok fun H9 l9=>?_
     rw[zj]
     intro mX sA
     refine(l9.ext sA).st (i:=6) (j:=0) (v:=zg (if mF (zf B L I) P.order then 0 else 4)) rfl (by exact(by decide:0<1)) rfl rfl fun mN lO=>?_
     rw[zj]
     intro tF GX
     exact⟨b4,rfl,lO.ext GX⟩
   · rw[zj]
     intro H4 e4
     refine(MQ.ext e4).jc fun b4 H7 _ l7=>?_
     rw[zj]
     intro H8 e8
     have l8:=l7.ext e8
     refine IF hB hg (l8.sv (i:=2) rfl).sr mL fun H5 e5=>?_
     rw[y3,za,y4,za,zj]
     intro H6 e6
     refine((l8.ext e5).ext e6).jE (i:=7) rfl zw sY.size sY.ok fun H9 l9=>?_
     rw[zj]
     intro mX sA
     refine(l9.ext sA).st (i:=6) (j:=0) (v:=zg (if mF (zf B L I) P.order then 0 else 4)) rfl (by exact(by decide:0<1)) rfl rfl fun mN lO=>?_
     rw[zj]
     intro tF GX
     exact⟨b4,rfl,lO.ext GX⟩
 rintro⟨t,u⟩ H4 ⟨b4,ht,l4⟩
 simp only at ht
 subst ht
 clear l3 MQ
 by_cases hm:mF (zf B L I) P.order
 rotate_left
 · rw[aH hm,aH hm]at l4
   have Wb:=l4
   unfold sf at Wb
   rw[Wb.ld (i:=6) rfl,q2,za,zn,za,gU (by decide),zA,za]
   exact leave (by decide) (l4.takeN 7) (ahS hA hm)
 rw[aU hm,aU hm]at l4
 have Wb:=l4
 unfold sf at Wb
 rw[Wb.ld (i:=6) rfl,q2,za,zn,za,cH (by decide),zh]
 have hhd:=Gj P.order
 obtain⟨rb,DB⟩:∃ r,r=JL s' 1 (sZ P.order):=⟨_,rfl⟩
 refine Zg.mk (fun t H'=>t.1=.bool (!rb.2)/\rb.1.fit (kf+2*pre.length+3)/\Lo O H H' (sf lb p cb mb ov wv (zf B L I) mine { P with s:=rb.1,cs:=ke } b1 b2 0)) ?_ ?_
 rotate_left
 · rw[Wb.ld (i:=5) rfl,q1,za]
   simp only[zl,zc,aR,bH,Nat.reduceAdd,za]
   rw[Wb.ld (i:=4) rfl,g2,za]
   obtain⟨O4,h4,xh⟩:=Wb.call (i:=0) rfl
   refine rS h4 D5 (by omega) fun H5 O5 s5 h5=>?_
   have l5:Lo O H H5 (sf lb p cb mb ov wv (zf B L I) mine { P with s:=s'.ja.1,cs:=ke } b1 b2 0++[.box b4 (sZ P.order) 65]):=xh H5 _ O5 s5 h5
   have tW:=DS.pC D5
   clear h5
   unfold JL at DB
   rw[zn,za,zb]
   refine⟨fun jZ=>?_,fun heq=>?_⟩
   · have jZ:s'.ja.2≠0:=jZ
     rw[aU jZ]at DB
     subst DB
     exact⟨rfl,tW.mono (by omega),l5.takeN 7⟩
   have heq:s'.ja.2=0:=by exact jh.1 heq
   rw[aH (by omega)]at DB
   have MP:=l5
   unfold sf at MP
   rw[MP.ld (i:=5) rfl,q1,za]
   simp only[zl,zc,aR,bH,Nat.reduceAdd,za]
   rw[MP.ld (i:=4) rfl,g2,za,MP.ld (i:=4) rfl,g7,za,MP.je (i:=7) (n:=1024) rfl hhd.size,za]
   obtain⟨O6,h6,Ho⟩:=MP.call (i:=0) rfl
   refine Dj h6 tW (by omega) hhd fun H7 O7 s7 h7=>?_
   have l7:Lo O H H7 (sf lb p cb mb ov wv (zf B L I) mine { P with s:=(s'.ja.1.write 1 (sZ P.order)).1,cs:=ke } b1 b2 0++[.box b4 (sZ P.order) 65]):=Ho H7 _ O7 s7 h7
   have sJ:=DS.pS tW 1 (sZ P.order)
   clear h7
   rw[zn,za,zb]
   refine⟨fun jZ=>?_,fun AU=>?_⟩
   · have jZ:(s'.ja.1.write 1 (sZ P.order)).2≠0:=jZ
     rw[aU jZ]at DB
     subst DB
     exact⟨rfl,sJ.mono (by omega),l7.takeN 7⟩
   have AU:(s'.ja.1.write 1 (sZ P.order)).2=0:=by exact jh.1 AU
   rw[aH (by omega)]at DB
   have PH:=l7
   unfold sf at PH
   rw[PH.ld (i:=5) rfl,q1,za]
   simp only[zl,zc,aR,bH,Nat.reduceAdd,za]
   rw[PH.ld (i:=4) rfl,g2,za]
   obtain⟨O8,h8,PG⟩:=PH.call (i:=0) rfl
   refine rS h8 sJ (by omega) fun H9 O9 s9 h9=>?_
   have l9:Lo O H H9 (sf lb p cb mb ov wv (zf B L I) mine { P with s:=(s'.ja.1.write 1 (sZ P.order)).1.ja.1,cs:=ke } b1 b2 0++[.box b4 (sZ P.order) 65]):=PG H9 _ O9 s9 h9
   have hf9:=DS.pC sJ
   rw[zn,za]
   subst DB
   refine⟨?_,hf9.mono (by omega),l9.takeN 7⟩
   show Value.bool _=Value.bool (!(decide _))
   rw[<- decide_not]
 rintro⟨t,u⟩ H5 ⟨ht,tW,l5⟩
 simp only at ht
 subst ht
 clear l4 Wb
 cases qO:rb.2 with
 | false=>
   rw[jN,zA]
   refine leave (by decide) l5 (aaI hA hm ?_)
   rw[MY,<- DB,<- qO]
 | true=>
 rw[iW,zh]
 have hBW:JL s' (zf B L I).logAt (sZ P.order)=(rb.1,true):=by rw[MY,<- DB,<- qO]
 have MP:=l5
 unfold sf at MP
 rw[MP.ld (i:=5) rfl,q1,za]
 simp only[zl,zc,aR,bH,Nat.reduceAdd,za]
 rw[MP.ld (i:=4) rfl,g0,za,(MP.sv (i:=2) rfl).sr.j9 Z0,za,bR]
 obtain⟨rf,hrf⟩:∃ r,r=AZ P.order rb.1 ke:=⟨_,rfl⟩
 have hF0:∃ k5,k5=kf+2*pre.length+3/\k5<=90001000000:=⟨_,rfl,by omega⟩
 obtain⟨k5,hk5,apV⟩:=hF0
 rw[<- hk5]at tW
 clear ob D5
 refine zF.mk (fun t H'=>∃ (pr po:List Int) (s6:DS) (AY:List Pl),P.order=pr++po/\t=(zg (pr.length:Nat),())/\AZ po s6 AY=rf/\s6.fit (k5+pr.length)/\(AY.length:Int)<=L+32/\Lo O H H' (sf lb p cb mb ov wv (zf B L I) mine { P with s:=s6,cs:=AY } b1 b2 0))
   (fun t _=>mi t.1 fun i=>(P.order.length - i).toNat) ⟨[],P.order,rb.1,ke,rfl,rfl,hrf.symm,tW,EV,l5⟩ ?_
 clear l5 MP
 rintro _ H6 ⟨pr,po,s6,AY,GS,rfl,nU,Gi,hc6,l6⟩
 have hl:P.order.length=pr.length+po.length:=by rw[GS,cR]
 have JI:=l6
 unfold sf at JI
 rw[zk,za,zb]
 refine⟨fun kc=>?_,fun lA=>?_⟩
 · have kc:(pr.length:Int)<(P.order.length:Int):=kc
   match po,GS,hl,nU with
   | [],_,hl,_=>simp at hl;omega
   | a :: po,GS,hl,nU=>
     rw[gR]at hl
     have wG:(P.order.map nI)[pr.length]?=some (nI a):=by rw[GS,cU,jB (by simp)];simp
     obtain⟨bb,oo,Gn,DW⟩:=(JI.sv (i:=2) rfl).sr.cell wG (j:=0) (by omega)
     rw[bH]at DW
     rw[show zG (some (none,1)) ov (zg (pr.length:Nat))=_ from Gn .i64,za,DW,show(nI a)[0]?=some (zg a) from rfl,za,JI.ld (i:=5) rfl,q1,za]
     simp only[zl,zc,aR,bH,za]
     rw[JI.ld (i:=4) rfl,g3,za]
     obtain⟨O3,h3,mJ⟩:=JI.call (i:=0) rfl
     refine Ts h3 Gi (by omega) (by show(AY.length:Int)<_;omega) fun H7 O7 s7 h7=>?_
     have l7:Lo O H H7 (sf lb p cb mb ov wv (zf B L I) mine { P with s:=(Zw s6 AY a).1,cs:=(Zw s6 AY a).2.1 } b1 b2 0):=mJ H7 _ O7 s7 h7
     have sJ:=WO (cs:=AY) Gi a
     have agR:=WN s6 AY a
     have CL:AZ (a :: po) s6 AY=if (Zw s6 AY a).2.2≠0 then((Zw s6 AY a).1,(Zw s6 AY a).2.1,false) else AZ po (Zw s6 AY a).1 (Zw s6 AY a).2.1:=rfl
     rw[CL]at nU
     clear CL h7
     show Pu (z8 _ .neq (.int .i64 (Zw s6 AY a).2.2) _) _
     generalize Zw s6 AY a=r7 at sJ agR nU l7 ⊢
     rw[zn,za,zb]
     refine⟨fun jZ=>?_,fun heq=>?_⟩
     · rw[aU jZ]at nU
       exact leave (by decide) l7 (aaH hA hm hBW (hrf.symm.trans nU.symm))
     · rw[aH heq]at nU
       rw[ze,za,zE,zr (by omega)]
       exact⟨⟨pr++[a],po,r7.1,r7.2.1,by rw[GS];simp,by rw[cR];rfl,nU,by rw[cR];exact sJ.mono (by simp;omega),by omega,l7⟩,by simp only[zu];exact yR (by omega)⟩
 have lA:¬ (pr.length:Int)<(P.order.length:Int):=lA
 have:po=[]:=jz (by omega)
 subst this
 have hF:AZ P.order rb.1 ke=(s6,AY,true):=hrf.symm.trans nU.symm
 have hpr:pr.length<=100000:=by omega
 clear nU hl lA GS
 obtain⟨rd,oq⟩:∃ r,r=JL s6 1 zB:=⟨_,rfl⟩
 refine Zg.mk (fun t H'=>t.1=.bool (!rd.2)/\Lo O H H' (sf lb p cb mb ov wv (zf B L I) mine { P with s:=rd.1,cs:=AY } b1 b2 0)) ?_ ?_
 rotate_left
 · rw[JI.ld (i:=5) rfl,q1,za]
   simp only[zl,zc,aR,bH,Nat.reduceAdd,za]
   rw[JI.ld (i:=4) rfl,g2,za]
   obtain⟨O4,h4,xh⟩:=JI.call (i:=0) rfl
   refine rS h4 Gi (by omega) fun H7 O5 s5 h5=>?_
   have l7:Lo O H H7 (sf lb p cb mb ov wv (zf B L I) mine { P with s:=s6.ja.1,cs:=AY } b1 b2 0):=xh H7 _ O5 s5 h5
   have sJ:=DS.pC Gi
   clear h5
   unfold JL at oq
   rw[zn,za,zb]
   refine⟨fun jZ=>?_,fun heq=>?_⟩
   · have jZ:s6.ja.2≠0:=jZ
     rw[aU jZ]at oq
     subst oq
     exact⟨rfl,l7⟩
   have heq:s6.ja.2=0:=by exact jh.1 heq
   rw[aH (by omega)]at oq
   have PH:=l7
   unfold sf at PH
   rw[PH.ld (i:=5) rfl,q1,za]
   simp only[zl,zc,aR,bH,Nat.reduceAdd,za]
   rw[PH.ld (i:=4) rfl,g2,za,PH.ld (i:=4) rfl,g7,za]
   obtain⟨O6,h6,Ho⟩:=PH.call (i:=0) rfl
   refine Dj h6 sJ (by omega) z6 fun H8 O7 s7 h7=>?_
   have l8:Lo O H H8 (sf lb p cb mb ov wv (zf B L I) mine { P with s:=(s6.ja.1.write 1 zB).1,cs:=AY } b1 b2 0):=Ho H8 _ O7 s7 h7
   have hf8:=DS.pS sJ 1 zB
   clear h7
   rw[zn,za,zb]
   refine⟨fun jZ=>?_,fun AU=>?_⟩
   · have jZ:(s6.ja.1.write 1 zB).2≠0:=jZ
     rw[aU jZ]at oq
     subst oq
     exact⟨rfl,l8⟩
   have AU:(s6.ja.1.write 1 zB).2=0:=by exact jh.1 AU
   rw[aH (by omega)]at oq
   have l8':=l8
   unfold sf at l8'
   rw[l8'.ld (i:=5) rfl,q1,za]
   simp only[zl,zc,aR,bH,Nat.reduceAdd,za]
   rw[l8'.ld (i:=4) rfl,g2,za]
   obtain⟨O8,h8,PG⟩:=l8'.call (i:=0) rfl
   refine rS h8 hf8 (by omega) fun H9 O9 s9 h9=>?_
   have l9:Lo O H H9 (sf lb p cb mb ov wv (zf B L I) mine { P with s:=(s6.ja.1.write 1 zB).1.ja.1,cs:=AY } b1 b2 0):=PG H9 _ O9 s9 h9
   rw[zn,za]
   subst oq
   refine⟨?_,l9⟩
   show Value.bool _=Value.bool (!(decide _))
   rw[<- decide_not]
 rintro⟨t,u⟩ H7 ⟨ht,l7⟩
 simp only at ht
 subst ht
 clear l6 JI
 cases AW:rd.2 with
 | false=>
   rw[jN,zA]
   refine leave (by decide) l7 (aaG hA hm hBW hF ?_)
   rw[MY,<- oq,<- AW]
 | true=>
 rw[iW,zh]
 have hD:JL s6 (zf B L I).logAt zB=(rd.1,true):=by rw[MY,<- oq,<- AW]
 have hc:=aaF hA hm hBW hF hD
 unfold sf at l7
 refine l7.st (i:=6) (j:=0) (v:=zg 0) rfl (by exact(by decide:0<1)) rfl rfl fun H8 l8=>?_
 have l8:Lo O H H8 (sf lb p cb mb ov wv (zf B L I) mine { P with s:=rd.1,cs:=AY } b1 b2 0):=l8
 refine Xe (P:={ P with s:=rd.1,cs:=AY }) hco l8 fun H9 mb' l9=>?_
 have l9':=l9
 unfold sf at l9'
 rw[l9'.ld (i:=6) rfl,q2,za]
 obtain⟨O',st,mq⟩:=Lo.close (l:=Yc lb p cb mb' (.slice none 0 0) wv (zf B L I) mine { P with s:=rd.1,cs:=AY,order:=[],jA:=P.jA+1 }) (r:=[_,_]) l9
 have:=k H9 O' st
 rw[hc]at this
 exact this ⟨cb,mb',_,wv,mq⟩
end
noncomputable def nP(mine:Int)(s:DS):Int:=if s.jt=false/\0<mine/\s.kB=mine then 0 else 3
noncomputable def FY(mine:Int)(P:mS):Int:=if nP mine P.s≠0 then 0 else P.order.length
noncomputable def oP(x:kh)(mine:Int)(P:mS):mS × Int:=
 if nP mine P.s≠0 then(P,nP mine P.s) else if P.open_=true then(P,180) else if P.order.length=0 then(P,0) else nH x P
noncomputable def YH(x:kh)(mine:Int)(P:mS)(n:Int):mS × Int:=
 if nP mine P.s≠0 then(P,nP mine P.s) else if P.open_=true then(P,180) else if n<1\/x.L - 1<n then(P,2) else
 if x.L - 1<(P.order.length:Int)+n then
  (if (nH x P).2≠0 then nH x P else({ (nH x P).1 with open_:=true,room:=n,wrote:=some [] },0))
 else({ P with open_:=true,room:=n,wrote:=some [] },0)
section
variable{H:Hp}{R:Value->Hp->Prop}{lb p cb mb:Nat}{s:DS}{x:kh}{mine:Int}{O:Nat->Prop}{ov wr:Value}{op:Bool}{room co st:Int}
theorem Ae(ht:H[lb]?=some (.cells (yN ov mb p cb x mine op room wr co st) 100))(hd:jQ H p s O)(k:R (.int .i64 (nP mine s)) H):Fc TP 36 #[zD lb] H R:=by
 obtain⟨q2,q3,q4,q5,q7,Vz⟩:=wu (os:=ov) (mb:=mb) (p:=p) (cb:=cb) (x:=x) (mine:=mine) (op:=op) (room:=room) (wr:=wr) (co:=co) (st:=st);refine fn36 ?_;simp only[sh36,Ul,UA,UI,Uf,Uu,Uj,Uv,U1,zm];refine Zg.mk (fun t H'=>H'=H/\t.1=.bool false) ?_ ?_
 ·rintro⟨t,u⟩ H1 ⟨rfl,vM⟩;simp only at vM;subst vM;simp only[zh,zl,za,zc,aR,zi ht,q2,Vz];refine wQ hd ?_;unfold nP at k;by_cases e:0<mine/\s.kB=mine
  ·rw[gU e,Bool.and_true];cases kH:s.jt with
   | true=>
    rw[aH (fun h=>by rw[kH]at h;exact absurd h.1 (by decide))]at k;simp only[iW,zx,jN,za,zA];exact k
   | false=>
    rw[aU ⟨kH,e⟩]at k;simp only[jN,zx,iW,za,zh];exact k
  ·rw[aH (fun h=>e h.2)]at k;rw[cH e,Bool.and_false];simp only[zx,jN,za,zA];exact k
 ·simp only[Z6 XJ,za,zh,zl,zc,aR,zi ht,q2,Z6 LW];exact⟨trivial,trivial⟩
theorem pT{P:mS}(h:(Yv lb p x mine P).at_ H O)(k:R (.int .i64 (nP mine P.s)) H):Fc TP 36 #[zD lb] H R:=by
 obtain⟨cb,mb,ov,wv,ha⟩:=h;obtain⟨ht,Od,Oc,hd,_⟩:=pJ (r:=[]) (Lo.open ha);exact Ae ht hd k
theorem Q3{P:mS}(h:(Yv lb p x mine P).at_ H O)(k:R (.int .i64 (FY mine P)) H):Fc TP 23 #[zD lb] H R:=by
 refine fn23 ?_;simp only[sh23,Ul,UA,Ub,UI,Uf,Ug,Uv,zl,zc,aR,bH,za];refine pT h ?_;obtain⟨cb,mb,ov,wv,ha⟩:=h;have l0:Lo O H H [mA p cb (x.L+32) P.s P.cs,nA mb (oV P.order) P.order.length,.sl 3 1 ov (P.order.map nI),pD P.wrote wv,.box lb (yN ov mb p cb x mine P.open_ P.room wv P.jA P.steps) 100]:=Lo.open ha;unfold FY at k;rw[zn,za,zb];refine⟨fun jZ=>?_,fun heq=>?_⟩
 ·have jZ:nP mine P.s≠0:=jZ;rw[aU jZ]at k;exact k
 ·have heq:¬ nP mine P.s≠0:=heq;rw[aH heq]at k;rw[l0.ld (i:=4) rfl,show(yN ov mb p cb x mine P.open_ P.room wv P.jA P.steps)[0]?=some ov from rfl,za,(l0.sv (i:=2) rfl).sr.j9 Z0,za,bR];exact k
end
section
variable{H:Hp}{R:Value->Hp->Prop}{lb p:Nat}{mine:Int}{O:Nat->Prop}{B L I:Int}
structure ad5(L:Int)(P:mS)(kf:Nat):Prop where
 fit:P.s.fit kf
 tu:(P.cs.length:Int)<=L+32
 ord:P.order.length<=100000
 co : -9223372036854775808<=P.jA/\P.jA<9223372036854775807
theorem Q4(hB : -9223372036854775808<=B/\B<=9223372036854775807)(hg:Zy B L I){P:mS}(h:(Yv lb p (zf B L I) mine P).at_ H O){kf:Nat}(kD:ad5 L P kf)(Sc:kf<90000000000)
   (k:∀ H' O',kS O O' H H'->(Yv lb p (zf B L I) mine (oP (zf B L I) mine P).1).at_ H' O'->R (.int .i64 (oP (zf B L I) mine P).2) H'):Fc TP 58 #[zD lb] H R:=by
 refine fn58 ?_
 simp only[sh58,Ul,UA,Ub,UI,Uf,Ug,Uv,zl,zc,aR,bH,za]
 refine pT h ?_
 have h0:=h
 obtain⟨cb,mb,ov,wv,ha⟩:=h
 have l0:Lo O H H [mA p cb ((zf B L I).L+32) P.s P.cs,nA mb (oV P.order) P.order.length,.sl 3 1 ov (P.order.map nI),pD P.wrote wv,.box lb (yN ov mb p cb (zf B L I) mine P.open_ P.room wv P.jA P.steps) 100]:=Lo.open ha
 have k0:∀ {e:Int},oP (zf B L I) mine P=(P,e)->R (.int .i64 e) H:=fun {e} he=>by
   rw[he]at k
   exact k H O (kS.refl _ _) h0
 rw[zn,za,zb]
 refine⟨fun jZ=>k0 (by unfold oP;rw[aU jZ]),fun heq=>?_⟩
 rw[l0.ld (i:=4) rfl,show(yN ov mb p cb (zf B L I) mine P.open_ P.room wv P.jA P.steps)[14]?=some (.bool P.open_) from rfl,za,Zj]
 refine⟨fun hs=>k0 (by unfold oP;rw[aH heq,aU hs]),fun hs=>?_⟩
 have CE:¬ P.open_=true:=by rw[hs];decide
 rw[l0.ld (i:=4) rfl,show(yN ov mb p cb (zf B L I) mine P.open_ P.room wv P.jA P.steps)[0]?=some ov from rfl,za,(l0.sv (i:=2) rfl).sr.j9 Z0,za,bR,zp,za,zb]
 refine⟨fun hz=>k0 (by unfold oP;rw[aH heq,aH CE,aU (by omega)]),fun hz=>?_⟩
 have e:oP (zf B L I) mine P=nH (zf B L I) P:=by unfold oP;rw[aH heq,aH CE,aH (by omega)]
 rw[e]at k
 exact Ew hB hg h0 kD.fit Sc kD.tu kD.ord kD.co k
theorem NR(hB : -9223372036854775808<=B/\B<=9223372036854775807)(hg:Zy B L I){P:mS}(h:(Yv lb p (zf B L I) mine P).at_ H O){kf:Nat}(kD:ad5 L P kf)(Sc:kf<90000000000){n:Int}
   (k:∀ H' O',kS O O' H H'->(Yv lb p (zf B L I) mine (YH (zf B L I) mine P n).1).at_ H' O'->R (.int .i64 (YH (zf B L I) mine P n).2) H'):Fc TP 11 #[zD lb,zg n] H R:=by
 obtain⟨xP,xO,wI,xQ,vP,vO,gD⟩:=id hg
 have Bm:(zf B L I).L=L:=rfl
 have akn:=kD.ord
 refine fn11 ?_
 simp only[sh11,Ul,UA,Us,Ub,UI,Uf,Ug,Uj,Uv,U1,zm,zl,zc,aR,bH,Nat.reduceAdd,za]
 refine pT h ?_
 have h0:=h
 obtain⟨cb,mb,ov,wv,ha⟩:=h
 have l0:Lo O H H [mA p cb ((zf B L I).L+32) P.s P.cs,nA mb (oV P.order) P.order.length,.sl 3 1 ov (P.order.map nI),pD P.wrote wv,.box lb (yN ov mb p cb (zf B L I) mine P.open_ P.room wv P.jA P.steps) 100]:=Lo.open ha
 have k0:∀ {e:Int},YH (zf B L I) mine P n=(P,e)->R (.int .i64 e) H:=fun {e} he=>by
   rw[he]at k
   exact k H O (kS.refl _ _) h0
 have g5:(yN ov mb p cb (zf B L I) mine P.open_ P.room wv P.jA P.steps)[5]?=some (zg L):=rfl
 rw[zn,za,zb]
 refine⟨fun jZ=>k0 (by unfold YH;rw[aU jZ]),fun heq=>?_⟩
 rw[l0.ld (i:=4) rfl,show(yN ov mb p cb (zf B L I) mine P.open_ P.room wv P.jA P.steps)[14]?=some (.bool P.open_) from rfl,za,Zj]
 refine⟨fun hs=>k0 (by unfold YH;rw[aH heq,aU hs]),fun hs=>?_⟩
 have CE:¬ P.open_=true:=by rw[hs];decide
 refine Zg.mk (fun t H'=>t.1=.bool (decide (n<1\/L - 1<n))/\H'=H) ?_ ?_
 rotate_left
 · rw[zk,za,zb]
   refine⟨fun h1=>⟨by rw[gU (show n<1\/L - 1<n from .inl h1)],rfl⟩,fun h1=>?_⟩
   rw[l0.ld (i:=4) rfl,g5,za,zP,za,zd (by omega) (by omega),zJ,za]
   exact⟨by rw[ZO (show(L - 1<n)↔(n<1\/L - 1<n) from⟨fun h=>.inr h,fun h=>h.resolve_left h1⟩)],rfl⟩
 rintro⟨t,u⟩ H1 ⟨R2,rfl⟩
 simp only at R2
 subst R2
 rw[zb]
 refine⟨fun hb=>k0 (by unfold YH;rw[aH heq,aH CE,Bm,aU hb]),fun hb=>?_⟩
 have e0:YH (zf B L I) mine P n=if L - 1<(P.order.length:Int)+n then
     (if (nH (zf B L I) P).2≠0 then nH (zf B L I) P else({ (nH (zf B L I) P).1 with open_:=true,room:=n,wrote:=some [] },0))
   else({ P with open_:=true,room:=n,wrote:=some [] },0):=by unfold YH;rw[aH heq,aH CE,Bm,aH hb]
 rw[e0]at k
 clear e0 k0
 refine Zg.mk (fun _ H'=>∃ P' O',kS O O' H1 H'/\(Yv lb p (zf B L I) mine P').at_ H' O'/\(if L - 1<(P.order.length:Int)+n then
     (if (nH (zf B L I) P).2≠0 then nH (zf B L I) P else({ (nH (zf B L I) P).1 with open_:=true,room:=n,wrote:=some [] },0))
   else({ P with open_:=true,room:=n,wrote:=some [] },0))=({ P' with open_:=true,room:=n,wrote:=some [] },0)) ?_ ?_
 · rintro t H2 ⟨P',O',st,hd,e⟩
   rw[e]at k
   obtain⟨cb,mb,ov,wv,ha⟩:=hd
   have l1:Lo O' H2 H2 [mA p cb ((zf B L I).L+32) P'.s P'.cs,nA mb (oV P'.order) P'.order.length,.sl 3 1 ov (P'.order.map nI),pD P'.wrote wv,.box lb (yN ov mb p cb (zf B L I) mine P'.open_ P'.room wv P'.jA P'.steps) 100]:=Lo.open ha
   refine yL fun wb H3 hb3 e3 hs3 g3=>?_
   have l2:=l1.add e3 (x:=pD (some []) (.map (some wb))) (O:=(·=wb)) ⟨⟨wb,rfl,by rw[Bq];exact kq.new g3,rfl⟩,fun b hh=>by omega⟩ fun b hh=>by omega
   refine l2.st (i:=4) (j:=14) (v:=.bool true) rfl (by exact(by decide:14<19)) rfl rfl fun H4 l4=>?_
   refine l4.st (i:=4) (j:=15) (v:=zg n) rfl (by exact(by decide:15<19)) rfl rfl fun H5 l5=>?_
   refine l5.st (i:=4) (j:=16) (v:=.map (some wb)) rfl (by exact(by decide:16<19)) rfl rfl fun H6 l6=>?_
   have l7:=l6.pick [0,1,2,5,4] (by decide) (by simp)
   obtain⟨O2,Hr,mq⟩:=Lo.close (l:=Yc lb p cb mb ov (.map (some wb)) (zf B L I) mine { P' with open_:=true,room:=n,wrote:=some [] }) (r:=[]) l7
   exact k H6 O2 (st.trans Hr) ⟨_,_,_,_,mq⟩
 · rw[l0.ld (i:=4) rfl,show(yN ov mb p cb (zf B L I) mine P.open_ P.room wv P.jA P.steps)[0]?=some ov from rfl,za,(l0.sv (i:=2) rfl).sr.j9 Z0,za,bR,ze,za,zd (by omega) (by omega),l0.ld (i:=4) rfl,g5,za,zP,za,zd (by omega) (by omega),zJ,za,zb]
   refine⟨fun KO=>?_,fun mL=>?_⟩
   · rw[aU KO]at k
     refine Ew hB hg h0 kD.fit Sc kD.tu kD.ord kD.co fun H2 O2 st hd=>?_
     rw[zn,za,zb]
     refine⟨fun jZ=>?_,fun he=>?_⟩
     · rw[aU jZ]at k
       exact k H2 O2 st hd
     · exact⟨_,O2,st,hd,by rw[aU KO,aH he]⟩
   · exact⟨P,O,kS.refl _ _,h0,by rw[aH mL]⟩
noncomputable def uH(mine:Int)(P:mS):mS × Int:=
 if nP mine P.s≠0 then(P,nP mine P.s) else if P.open_=false then(P,180) else({ P with open_:=false,steps:=P.steps+1 },0)
theorem VD{x:kh}{P:mS}(h:(Yv lb p x mine P).at_ H O)(kH : -9223372036854775808<=P.steps/\P.steps<9223372036854775807)
   (k:∀ H' O',kS O O' H H'->(Yv lb p x mine (uH mine P).1).at_ H' O'->R (.int .i64 (uH mine P).2) H'):Fc TP 13 #[zD lb] H R:=by
 refine fn13 ?_
 simp only[sh13,Ul,UA,Us,Ub,UI,Uf,Uu,Uv,U0,zl,zc,aR,bH,za]
 refine pT h ?_
 have h0:=h
 obtain⟨cb,mb,ov,wv,ha⟩:=h
 have l0:Lo O H H [mA p cb (x.L+32) P.s P.cs,nA mb (oV P.order) P.order.length,.sl 3 1 ov (P.order.map nI),pD P.wrote wv,.box lb (yN ov mb p cb x mine P.open_ P.room wv P.jA P.steps) 100]:=Lo.open ha
 have k0:∀ {e:Int},uH mine P=(P,e)->R (.int .i64 e) H:=fun {e} he=>by
   rw[he]at k
   exact k H O (kS.refl _ _) h0
 rw[zn,za,zb]
 refine⟨fun jZ=>k0 (by unfold uH;rw[aU jZ]),fun heq=>?_⟩
 rw[l0.ld (i:=4) rfl,show(yN ov mb p cb x mine P.open_ P.room wv P.jA P.steps)[14]?=some (.bool P.open_) from rfl,za,zx,za,Zm]
 refine⟨fun hs=>k0 (by unfold uH;rw[aH heq,aU hs]),fun hs=>?_⟩
 have e:uH mine P=({ P with open_:=false,steps:=P.steps+1 },0):=by unfold uH;rw[aH heq,aH (by rw[hs];decide)]
 rw[e]at k
 refine l0.st (i:=4) (j:=14) (v:=.bool false) rfl (by exact(by decide:14<19)) rfl rfl fun H2 l2=>?_
 have l2:Lo O H H2 [mA p cb (x.L+32) P.s P.cs,nA mb (oV P.order) P.order.length,.sl 3 1 ov (P.order.map nI),pD P.wrote wv,.box lb (yN ov mb p cb x mine false P.room wv P.jA P.steps) 100]:=l2
 rw[l2.ld (i:=4) rfl,show(yN ov mb p cb x mine false P.room wv P.jA P.steps)[18]?=some (zg P.steps) from rfl,za,ze,za,zd (by omega) (by omega)]
 refine l2.st (i:=4) (j:=18) (v:=zg (P.steps+1)) rfl (by exact(by decide:18<19)) rfl rfl fun H3 l3=>?_
 obtain⟨O',st,mq⟩:=Lo.close (l:=Yc lb p cb mb ov wv x mine { P with open_:=false,steps:=P.steps+1 }) (r:=[]) l3
 exact k H3 O' st ⟨_,_,_,_,mq⟩
end
theorem Tr{H:Hp}{R:Value->Hp->Prop}{p cb:Nat}{size:Int}{s:DS}{cs:List Pl}{O:Nat->Prop}(h:(mA p cb size s cs).at_ H O)(hr:s.reads<4611686018427387904/\0<=s.reads){a:Int}
   (k:∀ H' O',kS O O' H H'->(mA p cb size (s.read a).1 cs).at_ H' O'->jR (s.read a).2.1->R (.tuple #[.agg (s.read a).2.1,.int .i64 (s.read a).2.2]) H'):Fc TP 46 #[zD p,.int .i64 a] H R:=by
 obtain⟨⟨Od,Oc,d1,d2,d3,d4,d5⟩,dO⟩:=h
 have lK:jR (s.read a).2.1:=by
   unfold DS.read
   split
   · exact z6
   · split
     · exact z6
     · exact d1.Kh a
 refine Ac d1 hr fun H' st hd=>?_
 obtain⟨q1,q2⟩:=Bs d1 d2 d3 d4 d5 dO st hd
 exact k H' _ q1 q2 lK
noncomputable def YR(x:kh)(mine:Int)(P:mS)(a:Int):mS × jn × Int:=
 if nP mine P.s≠0 then(P,zB,nP mine P.s) else if a<0\/x.B<=a then(P,zB,2) else
 if x.logAt<=a/\a<x.logAt+x.L then({ P with s:=(P.s.read a).1 },(P.s.read a).2.1,(P.s.read a).2.2) else
  ({ P with s:=(Zk (x.L+32) P.s P.cs a).1,cs:=(Zk (x.L+32) P.s P.cs a).2.1 },(Zk (x.L+32) P.s P.cs a).2.2.1,(Zk (x.L+32) P.s P.cs a).2.2.2)
section
variable{H:Hp}{R:Value->Hp->Prop}{lb p:Nat}{mine:Int}{O:Nat->Prop}{x:kh}
theorem Q5(hx:0<=x.logAt/\x.logAt<4611686018427387904/\0<=x.L/\x.L<4611686018427380000){P:mS}(h:(Yv lb p x mine P).at_ H O)(hr:P.s.reads<4611686018427387904/\0<=P.s.reads){a:Int}
   (k:∀ H' O',kS O O' H H'->(Yv lb p x mine (YR x mine P a).1).at_ H' O'->jR (YR x mine P a).2.1->R (.tuple #[.agg (YR x mine P a).2.1,.int .i64 (YR x mine P a).2.2]) H'):Fc TP 18 #[zD lb,.int .i64 a] H R:=by
 have hzi:jR zB:=z6
 obtain⟨cb,mb,ov,wv,ha⟩:=h
 refine fn18 ?_
 simp only[sh18,Ul,UL,UA,Us,Ub,Uz,Ux,UI,Uf,Uj,Uv,U1,ZI,za,zm]
 refine(Lo.open ha).jc fun b1 H1 e1 l1=>?_
 have l1:Lo O H H1 (Yc lb p cb mb ov wv x mine P++[.box b1 zB 65]):=l1
 obtain⟨ht,Od,Oc,hd,hc,ahd⟩:=pJ (r:=[_]) l1
 obtain⟨q2,q3,q4,q5,q7,Vz⟩:=wu (os:=ov) (mb:=mb) (p:=p) (cb:=cb) (x:=x) (mine:=mine) (op:=P.open_) (room:=P.room) (wr:=wv) (co:=P.jA) (st:=P.steps)
 have kz:∀ {e:Int},YR x mine P a=(P,zB,e)->Pu (zY (some 1024) (.pointer (some ⟨b1,0,none⟩)) (.agg zB) H1) fun H'=>Pu (zX (some (some 1024)) (.pointer (some ⟨b1,0,none⟩)) H') fun y=>R (.tuple #[y,.int .i64 e]) H':=fun {e} he=>by
   rw[he]at k
   refine l1.ret (i:=5) (K:=fun y H4=>R (.tuple #[y,.int .i64 e]) H4) rfl zw hzi.size hzi.ok fun H' l'=>?_
   obtain⟨O',NH,mq⟩:=Lo.close (l:=Yc lb p cb mb ov wv x mine P) (r:=[_]) l'
   exact k H' O' NH ⟨cb,mb,ov,wv,mq⟩ hzi
 refine Ae ht hd ?_
 rw[zn,za,zb]
 refine⟨fun jZ=>by
   rw[yP,za]
   exact kz (by unfold YR;rw[aU jZ]),fun heq=>?_⟩
 refine Zg.mk (fun t H'=>H'=H1/\t.1=.bool (decide (a<0\/x.B<=a))) ?_ ?_
 rotate_left
 · rw[zk,za,zb]
   refine⟨fun h1=>⟨by trivial,by rw[gU (show a<0\/x.B<=a from .inl h1)]⟩,fun h1=>?_⟩
   simp only[zl,zc,aR,bH,za]
   rw[zi ht,q4,za,zN,za]
   exact⟨by trivial,by rw[ZO (show(x.B<=a)↔(a<0\/x.B<=a) from⟨fun h=>.inr h,fun h=>h.resolve_left h1⟩)]⟩
 rintro⟨t,u⟩ H2 ⟨rfl,R2⟩
 simp only at R2
 subst R2
 rw[zb]
 refine⟨fun hb=>by
   rw[yP,za]
   exact kz (by unfold YR;rw[aH heq,aU hb]),fun hb=>?_⟩
 clear kz
 refine Co ht (by omega) ?_
 rw[zb]
 refine⟨fun o8=>?_,fun acL=>?_⟩
 · have e:YR x mine P a=({ P with s:=(P.s.read a).1 },(P.s.read a).2.1,(P.s.read a).2.2):=by unfold YR;rw[aH heq,aH hb,aU o8]
   rw[e]at k
   simp only[zl,zc,aR,bH,za]
   rw[zi ht,q2,za]
   obtain⟨O1,hcd,pH⟩:=l1.call (i:=0) (x:=mA p cb (x.L+32) P.s P.cs) rfl
   refine Tr hcd hr fun H3 O3 oF WB lK=>?_
   have l3:=pH H3 (mA p cb (x.L+32) (P.s.read a).1 P.cs) O3 oF WB
   have l3:Lo O H H3 (Yc lb p cb mb ov wv x mine { P with s:=(P.s.read a).1 }++[.box b1 zB 65]):=l3
   rw[show zq (.tuple #[.agg (P.s.read a).2.1,.int .i64 (P.s.read a).2.2]) 0=some (.agg (P.s.read a).2.1) from rfl,za,show zq (.tuple #[.agg (P.s.read a).2.1,.int .i64 (P.s.read a).2.2]) 1=some (.int .i64 (P.s.read a).2.2) from rfl,za]
   refine l3.ret (i:=5) (K:=fun y H4=>R (.tuple #[y,.int .i64 (P.s.read a).2.2]) H4) rfl zw lK.size lK.ok fun H' l'=>?_
   obtain⟨O',NH,mq⟩:=Lo.close (l:=Yc lb p cb mb ov wv x mine { P with s:=(P.s.read a).1 }) (r:=[_]) l'
   exact k H' O' NH ⟨cb,mb,ov,wv,mq⟩ lK
 · have e:YR x mine P a=({ P with s:=(Zk (x.L+32) P.s P.cs a).1,cs:=(Zk (x.L+32) P.s P.cs a).2.1 },(Zk (x.L+32) P.s P.cs a).2.2.1,(Zk (x.L+32) P.s P.cs a).2.2.2):=by unfold YR;rw[aH heq,aH hb,aH acL]
   rw[e]at k
   simp only[zl,zc,aR,bH,za]
   rw[zi ht,q3,za]
   obtain⟨O1,hcd,pH⟩:=l1.call (i:=0) (x:=mA p cb (x.L+32) P.s P.cs) rfl
   refine Nw hcd hr (by omega) fun H3 O3 oF WB lK=>?_
   have l3:=pH H3 (mA p cb (x.L+32) (Zk (x.L+32) P.s P.cs a).1 (Zk (x.L+32) P.s P.cs a).2.1) O3 oF WB
   generalize hz:Zk (x.L+32) P.s P.cs a=z at k WB lK l3 ⊢
   have l3:Lo O H H3 (Yc lb p cb mb ov wv x mine { P with s:=z.1,cs:=z.2.1 }++[.box b1 zB 65]):=l3
   rw[show zq (.tuple #[.agg z.2.2.1,.int .i64 z.2.2.2]) 0=some (.agg z.2.2.1) from rfl,za,show zq (.tuple #[.agg z.2.2.1,.int .i64 z.2.2.2]) 1=some (.int .i64 z.2.2.2) from rfl,za]
   refine l3.ret (i:=5) (K:=fun y H4=>R (.tuple #[y,.int .i64 z.2.2.2]) H4) rfl zw lK.size lK.ok fun H' l'=>?_
   obtain⟨O',NH,mq⟩:=Lo.close (l:=Yc lb p cb mb ov wv x mine { P with s:=z.1,cs:=z.2.1 }) (r:=[_]) l'
   exact k H' O' NH ⟨cb,mb,ov,wv,mq⟩ lK
end
noncomputable def plW(P:mS):List Int:=P.wrote.getD []
noncomputable def Yk(x:kh)(mine:Int)(P:mS)(a:Int)(d:jn):mS × Int:=
 if nP mine P.s≠0 then(P,nP mine P.s) else if P.open_=false then(P,180) else
 if a<1\/x.B<=a\/(x.logAt<=a/\a<x.logAt+x.L) then(P,2) else
 if a ∉ plW P/\P.room<=((plW P).length:Int) then(P,181) else
 if (pa (x.L+32) P.s P.cs a d).2≠0 then({ P with cs:=(pa (x.L+32) P.s P.cs a d).1 },(pa (x.L+32) P.s P.cs a d).2) else
  ({ P with cs:=(pa (x.L+32) P.s P.cs a d).1,wrote:=some (Y0 (plW P) a),order:=Y0 P.order a },0)
section
variable{H:Hp}{R:Value->Hp->Prop}{lb p:Nat}{mine:Int}{O:Nat->Prop}{x:kh}
theorem NQ(hx:0<=x.logAt/\x.logAt<4611686018427387904/\0<=x.L/\x.L<4611686018427380000){P:mS}(h:(Yv lb p x mine P).at_ H O)(lI:(P.cs.length:Int)<4611686018427387904)(X3:P.order.length<1000000)(hwo:P.open_=true->P.wrote=some (plW P)){a:Int}{d:jn}(hd:jR d)
   (k:∀ H' O',kS O O' H H'->(Yv lb p x mine (Yk x mine P a d).1).at_ H' O'->R (.int .i64 (Yk x mine P a d).2) H'):Fc TP 41 #[zD lb,zg a,.agg d] H R:=by
 obtain⟨cb,mb,ov,wv,ha⟩:=h
 refine fn41 ?_
 simp only[sh41,Ul,UL,UA,Us,Ub,Uz,Ux,UI,Uf,Uu,Uj,Uv,U1,U0,pQ,Af,za,zm]
 refine(Lo.open ha).jc fun b1 H1 e1 l1=>?_
 have l1:Lo O H H1 (Yc lb p cb mb ov wv x mine P++[.box b1 d 65]):=l1
 obtain⟨ht,Od,Oc,hdk,hca,ahd⟩:=pJ l1
 have kz:∀ {e:Int} {P':mS} {H2:Hp} {r:List Ob},Lo O H H2 (Yc lb p cb mb ov wv x mine P'++r)->Yk x mine P a d=(P',e)->R (.int .i64 e) H2:=fun {e P' H2 r} l he=>by
   rw[he]at k
   obtain⟨O',NH,mq⟩:=Lo.close (l:=Yc lb p cb mb ov wv x mine P') (r:=r) l
   exact k H2 O' NH ⟨cb,mb,ov,wv,mq⟩
 refine Ae ht hdk ?_
 rw[zn,za,zb]
 refine⟨fun jZ=>kz l1 (by unfold Yk;rw[aU jZ]),fun heq=>?_⟩
 have g3:(yN ov mb p cb x mine P.open_ P.room wv P.jA P.steps)[3]?=some (zD cb):=rfl
 have g4:(yN ov mb p cb x mine P.open_ P.room wv P.jA P.steps)[4]?=some (zg x.B):=rfl
 have g14:(yN ov mb p cb x mine P.open_ P.room wv P.jA P.steps)[14]?=some (.bool P.open_):=rfl
 have D9:(yN ov mb p cb x mine P.open_ P.room wv P.jA P.steps)[15]?=some (zg P.room):=rfl
 have Ut:(yN ov mb p cb x mine P.open_ P.room wv P.jA P.steps)[16]?=some wv:=rfl
 simp only[zl,zc,aR,bH,za]
 rw[zi ht,g14,za,zx,za,Zm]
 refine⟨fun hs=>kz l1 (by unfold Yk;rw[aH heq,aU hs]),fun hs=>?_⟩
 have DX:¬ P.open_=false:=by rw[hs];decide
 refine Zg.mk (fun t H'=>H'=H1/\t.1=.bool (decide (a<1\/x.B<=a\/(x.logAt<=a/\a<x.logAt+x.L)))) ?_ ?_
 rotate_left
 · rw[zk,za,zb]
   refine⟨fun h1=>⟨rfl,by rw[gU (show a<1\/x.B<=a\/(x.logAt<=a/\a<x.logAt+x.L) from .inl h1)]⟩,fun h1=>?_⟩
   rw[zi ht,g4,za,zN,za,zb]
   refine⟨fun h2=>⟨rfl,by rw[gU (show a<1\/x.B<=a\/(x.logAt<=a/\a<x.logAt+x.L) from .inr (.inl h2))]⟩,fun h2=>?_⟩
   refine Co ht (by omega) ?_
   exact⟨rfl,by rw[ZO (show(x.logAt<=a/\a<x.logAt+x.L)↔(a<1\/x.B<=a\/(x.logAt<=a/\a<x.logAt+x.L)) from⟨fun h=>.inr (.inr h),fun h=>(h.resolve_left h1).resolve_left h2⟩)]⟩
 rintro⟨t,u⟩ H2 ⟨rfl,vM⟩
 simp only at vM
 subst vM
 rw[zb]
 refine⟨fun hb=>kz l1 (by unfold Yk;rw[aH heq,aH DX,aU hb]),fun hb=>?_⟩
 rw[zi ht,Ut,za]
 have hwr:=hwo hs
 generalize hW:plW P=W at hwr
 obtain⟨Ow,hwm⟩:=l1.get (i:=3) (x:=pD P.wrote wv) rfl
 have aj7:∃ wb,wv=.map (some wb)/\kq H2 wb (oV W) W.length:=by
   have:=hwm.1
   rw[hwr]at this
   obtain⟨wb,q1,q2,_⟩:=this
   exact⟨wb,q1,q2⟩
 obtain⟨wb,ewv,X6⟩:=aj7
 rw[ewv,YT X6 true a,pQ]
 have T9:EC true (some (.agg #[])) (oV W a)=some (.tuple #[.agg #[],.bool (decide (a∈W))]):=by
   by_cases o8:a∈W
   · rw[C4 o8,gU o8];rfl
   · rw[ud o8,cH o8];rfl
 rw[T9,za,show zq (.tuple #[.agg #[],.bool (decide (a∈W))]) 0=some (.agg #[]) from rfl,za,show zq (.tuple #[.agg #[],.bool (decide (a∈W))]) 1=some (.bool (decide (a∈W))) from rfl,za]
 refine l1.jc fun b2 H3 _ l3=>?_
 refine l3.jE (i:=6) (n:=0) (vs:=#[]) rfl rfl rfl (by unfold zv;rw[<- iV];rfl) fun H4 l4=>?_
 have l4:Lo O H H4 (Yc lb p cb mb ov wv x mine P++[.box b1 d 65,.box b2 #[] 165]):=l4
 obtain⟨ht4,_⟩:=pJ l4
 refine Zg.mk (fun t H'=>H'=H4/\t.1=.bool (decide (a ∉ W/\P.room<=(W.length:Int)))) ?_ ?_
 rotate_left
 · rw[zx,za,Zm]
   refine⟨fun Wn=>?_,fun hi=>⟨rfl,?_⟩⟩
   · rw[jq]at Wn
     obtain⟨Ow4,hw4⟩:=l4.get (i:=3) (x:=pD P.wrote wv) rfl
     have hm4:kq H4 wb (oV W) W.length:=by
       have:=hw4.1
       rw[hwr]at this
       obtain⟨wb',q1,q2,_⟩:=this
       rw[ewv]at q1
       injection q1 with q1
       injection q1 with q1
       rw[q1];exact q2
     rw[zi ht4,Ut,za,ewv,MG hm4,za,zi ht4,D9,za,zN,za]
     exact⟨rfl,by rw[ZO (show(P.room<=(W.length:Int))↔(a ∉ W/\P.room<=(W.length:Int)) from⟨fun h=>⟨Wn,h⟩,fun h=>h.2⟩)]⟩
   · rw[iS]at hi
     rw[cH (fun h=>h.1 hi)]
 rintro⟨t,u⟩ H5 ⟨rfl,vM⟩
 simp only at vM
 subst vM
 rw[zb]
 refine⟨fun hr=>kz l4 (by unfold Yk;rw[aH heq,aH DX,aH hb,hW,aU hr]),fun hr=>?_⟩
 have e0:Yk x mine P a d=if (pa (x.L+32) P.s P.cs a d).2≠0 then({ P with cs:=(pa (x.L+32) P.s P.cs a d).1 },(pa (x.L+32) P.s P.cs a d).2) else
   ({ P with cs:=(pa (x.L+32) P.s P.cs a d).1,wrote:=some (Y0 W a),order:=Y0 P.order a },0):=by unfold Yk;rw[aH heq,aH DX,aH hb,hW,aH hr]
 rw[zi ht4,g3,za,l4.je (i:=5) (n:=1024) rfl hd.size,za]
 obtain⟨O1,⟨⟨Od1,Oc1,d1,d2,d3,d4,d5⟩,dO⟩,pH⟩:=l4.call (i:=0) (x:=mA p cb (x.L+32) P.s P.cs) rfl
 refine OZ d1 d2 d3 (by omega) lI hd fun H6 A0 k6 X4 hd6 hc6=>?_
 generalize hz:pa (x.L+32) P.s P.cs a d=z at e0 hc6 ⊢
 have l6:=pH H6 (mA p cb (x.L+32) P.s z.1) (fun b=>O1 b\/A0 b) ⟨k6.mono fun b _ hb=>d5 b hb,fun b hb=>by
     rcases hb with hb | hb
     · exact .inl hb
     · rcases X4 b hb with h2 | h2
       · exact .inl (d5 b h2)
       · exact .inr h2⟩ ⟨⟨Od1,A0,hd6,hc6,fun b hb qO=>by
     rcases X4 b qO with h2 | h2
     · exact d3 b hb h2
     · have:=d1.lt b hb;omega,fun b hb=>.inl (d4 b hb),fun b hb=>.inr hb⟩,fun b hb=>by
     rcases hb with hb | hb
     · exact jj (dO b hb) k6.le
     · exact hc6.lt b hb⟩
 have l6:Lo O H H6 (Yc lb p cb mb ov wv x mine { P with cs:=z.1 }++[.box b1 d 65,.box b2 #[] 165]):=l6
 obtain⟨ht6,_⟩:=pJ l6
 rw[zn,za,zb]
 refine⟨fun jZ=>kz l6 (by rw[e0,aU jZ]),fun he=>?_⟩
 rw[aH he]at e0
 rw[zi ht6,Ut,za]
 obtain⟨O6,hw6,Ho⟩:=l6.call (i:=3) (x:=pD P.wrote wv) rfl
 have hm6:kq H6 wb (oV W) W.length/\O6 wb:=by
   have:=hw6.1
   rw[hwr]at this
   obtain⟨wb',q1,q2,q3⟩:=this
   rw[ewv]at q1
   injection q1 with q1
   injection q1 with q1
   rw[q1];exact⟨q2,q3⟩
 rw[ewv]
 refine YU hm6.1 fun H7 k7 s7 m7=>?_
 have m8:kq H7 wb (oV (Y0 W a)) (Y0 W a).length:=by
   unfold Y0
   by_cases o8:a∈W
   · rw[aU o8]
     rw[C4 o8,aH (by simp)]at m7
     have e2:sQ (oV W) a (some (.agg #[]))=oV W:=by
       funext z
       unfold sQ
       by_cases ez:z=a
       · rw[aU ez,ez,C4 o8]
       · rw[aH ez]
     rw[e2]at m7;exact m7
   · rw[aH o8]
     rw[ud o8,aU rfl,Gw]at m7
     rw[cR];exact m7
 have l7:=Ho H7 (pD (some (Y0 W a)) wv) O6 ⟨k7.mono fun b _ e=>e ▸ hm6.2,fun b hb=>.inl hb⟩ ⟨⟨wb,ewv,m8,hm6.2⟩,fun b hb=>by rw[s7];exact hw6.2 b hb⟩
 have l7:Lo O H H7 (Yc lb p cb mb ov wv x mine { P with cs:=z.1,wrote:=some (Y0 W a) }++[.box b1 d 65,.box b2 #[] 165]):=l7
 have l8:=Lo.pack (l:=[]) l7.take
 have l9:Lo O H H7 [Yv lb p x mine { P with cs:=z.1,wrote:=some (Y0 W a) }]:=l8.nth (i:=0) rfl fun O' ho=>⟨cb,mb,ov,wv,ho⟩
 obtain⟨O9,h9,L5⟩:=l9.call (i:=0) rfl
 refine abA h9 X3 fun mX O10 Vr tY=>?_
 have mn:Lo O H mX [Yv lb p x mine { P with cs:=z.1,wrote:=some (Y0 W a),order:=Y0 P.order a }]:=L5 mX _ O10 Vr tY
 obtain⟨O',st,h'⟩:=Lo.mQ mn
 rw[e0]at k
 exact k mX O' st h'
end
structure LS where
 view:Int->jn
 lY:List Int
 op:Bool
 room:Int
 wr:List Int
 co:Int
 st:Int
 dead:Bool
 stop:Bool
 jC:Int
 made:Int
noncomputable def LS.nS(S:LS):Int:=if S.dead=true then 3 else 0
noncomputable def LS.rd(B:Int)(S:LS)(a:Int):jn × Int:=if S.dead=true then(zB,3) else if a<0\/B<=a then(zB,2) else(S.view a,0)
noncomputable def LS.tq(S:LS):LS × Int:=
 if S.jC<0\/2*(S.lY.length:Int)+6<=S.jC then({ S with lY:=[],co:=S.co+1,made:=S.made+(2*(S.lY.length:Int)+6),jC:=if S.jC<0 then S.jC else S.jC - (2*(S.lY.length:Int)+6) },0)
 else({ S with stop:=true,dead:=true,made:=S.made+S.jC,jC:=0 },3)
noncomputable def LS.mB(L:Int)(S:LS)(r:Int):LS × Int:=
 if S.dead=true then(S,3) else if S.op=true then(S,180) else if r<1\/L - 1<r then(S,2) else
 if L - 1<(S.lY.length:Int)+r then(if S.tq.2≠0 then S.tq else({ S.tq.1 with op:=true,room:=r,wr:=[] },0))
 else({ S with op:=true,room:=r,wr:=[] },0)
noncomputable def LS.fin(S:LS):LS × Int:=if S.dead=true then(S,3) else if S.op=false then(S,180) else({ S with op:=false,st:=S.st+1 },0)
noncomputable def LS.sync(S:LS):LS × Int:=if S.dead=true then(S,3) else if S.op=true then(S,180) else if S.lY.length=0 then(S,0) else S.tq
noncomputable def LS.wt(B L:Int)(S:LS)(a:Int)(d:jn):LS × Int:=
 if S.dead=true then(S,3) else if S.op=false then(S,180) else if a<1+L\/B<=a then(S,2) else
 if a ∉ S.wr/\S.room<=(S.wr.length:Int) then(S,181) else({ S with view:=nG S.view a d,wr:=Y0 S.wr a,lY:=Y0 S.lY a },0)
noncomputable def LS.mG(S:LS)(n:Int):LS:=if S.stop=true then S else { S with jC:=max n (-1) }
def LS.mI(S:LS):LS:={ S with dead:=true,stop:=false,jC := -1 }
noncomputable def LS.used(S:LS):Int:=if S.dead=true then 0 else S.lY.length
structure pP(B L:Int)(S:LS):Prop where
 nd:S.lY.Nodup
 ins:∀ a∈S.lY,1+L<=a/\a<B
 sub:S.op=true->∀ a∈S.wr,a∈S.lY
 Ih:(S.lY.length:Int)+(if S.op=true then S.room - S.wr.length else 0)<=L - 1
 ow:S.op=true->(S.wr.length:Int)<=S.room
 jC : -1<=S.jC/\S.jC<=9223372036854775807
 oF:S.stop=true->S.dead=true
 rm:S.op=true->S.room<=L - 1
 wl:(S.wr.length:Int)<=L - 1
theorem Xy{l:List Int}{a:Int}(h:l.Nodup):(Y0 l a).Nodup:=by
 unfold Y0;split
 ·exact h
 ·rename_i hn;rw[jJ];refine⟨h,by simp,fun x hx y hy=>?_⟩;rw[eU.1 hy];intro e;exact hn (e ▸ hx)
theorem YZ{l:List Int}{a b:Int}:b∈Y0 l a↔b∈l\/b=a:=by
 unfold Y0;split
 ·rename_i h;exact⟨.inl,fun e=>e.elim id fun e=>e ▸ h⟩
 ·simp
section
variable{B L:Int}{S:LS}
theorem pP.tq(h:pP B L S)(hs:S.op=false):pP B L S.tq.1:=by
 have h1:=h.Ih;have hf:=h.jC;rw[aH (by rw[hs];decide)]at h1;unfold LS.tq;split
 ·refine⟨rV,fun a ha=>(by cases ha),fun e=>?_,?_,fun e=>?_,?_,h.oF,h.rm,h.wl⟩
  ·have e:S.op=true:=e;rw[hs]at e;cases e
  ·show(([]:List Int).length:Int)+(if S.op=true then _ else 0)<=_;rw[aH (by rw[hs];decide)];simp;omega
  ·have e:S.op=true:=e;rw[hs]at e;cases e
  ·show -1<=(if S.jC<0 then S.jC else S.jC - (2*(S.lY.length:Int)+6))/\(if S.jC<0 then S.jC else S.jC - (2*(S.lY.length:Int)+6))<=_;split<;>omega
 ·exact⟨h.nd,h.ins,h.sub,h.Ih,h.ow,by show(-1:Int)<=0/\(0:Int)<=_;omega,fun _=>rfl,h.rm,h.wl⟩
theorem adN{S:LS}(h:S.tq.2=0):S.tq.1.dead=S.dead/\S.tq.1.stop=S.stop/\S.tq.1.lY=[]:=by
 unfold LS.tq at h ⊢;split
 ·exact⟨rfl,rfl,rfl⟩
 ·rename_i hn;rw[aH hn]at h;cases h
theorem pP.beg(h:pP B L S)(r:Int):pP B L (S.mB L r).1:=by
 have h1:=h.Ih;unfold LS.mB;split
 ·exact h
 ·split
  ·exact h
  ·rename_i DX;have hs:S.op=false:=by cases e:S.op with
    | true=>exact absurd e DX
    | false=>rfl
   split
   ·exact h
   ·rename_i hr;split
    ·split
     ·exact h.tq hs
     ·rename_i he;have he:S.tq.2=0:=jh.1 he;obtain⟨e1,e2,e3⟩:=adN he;have hc:=h.tq hs;refine⟨hc.nd,hc.ins,fun _ a ha=>(by cases ha),?_,fun _=>?_,hc.jC,hc.oF,fun _=>(by show r<=L - 1;omega),(by show(([]:List Int).length:Int)<=L - 1;simp;omega)⟩
      ·show(S.tq.1.lY.length:Int)+(if true=true then r - (([]:List Int).length:Int) else 0)<=L - 1;rw[e3,aU rfl];simp;omega
      ·show(([]:List Int).length:Int)<=r;simp;omega
    ·refine⟨h.nd,h.ins,fun _ a ha=>(by cases ha),?_,fun _=>?_,h.jC,h.oF,fun _=>(by show r<=L - 1;omega),(by show(([]:List Int).length:Int)<=L - 1;simp;omega)⟩
     ·show(S.lY.length:Int)+(if true=true then r - (([]:List Int).length:Int) else 0)<=L - 1;rw[aU rfl];simp;omega
     ·show(([]:List Int).length:Int)<=r;simp;omega
theorem pP.fin(h:pP B L S):pP B L S.fin.1:=by
 unfold LS.fin;split
 ·exact h
 ·split
  ·exact h
  ·have h1:=h.Ih;refine⟨h.nd,h.ins,fun e=>(by cases e),?_,fun e=>(by cases e),h.jC,h.oF,fun e=>(by cases e),h.wl⟩;show(S.lY.length:Int)+(if false=true then _ else 0)<=L - 1;rw[aH (by decide)];by_cases e:S.op=true
   ·rw[aU e]at h1;have:=h.ow e;omega
   ·rw[aH e]at h1;exact h1
theorem pP.sync(h:pP B L S):pP B L S.sync.1:=by
 unfold LS.sync;split
 ·exact h
 ·split
  ·exact h
  ·rename_i DX;split
   ·exact h
   ·exact h.tq (by cases e:S.op with
    | true=>exact absurd e DX
    | false=>rfl)
theorem Fq(l:List Int)(a:Int):(Y0 l a).length=l.length/\a∈l\/(Y0 l a).length=l.length+1/\a ∉ l:=by
 unfold Y0;split
 ·rename_i h;exact .inl ⟨rfl,h⟩
 ·rename_i h;exact .inr ⟨by simp,h⟩
theorem pP.wt(h:pP B L S)(a:Int)(d:jn):pP B L (S.wt B L a d).1:=by
 unfold LS.wt;split
 ·exact h
 ·split
  ·exact h
  ·rename_i DX;have hs:S.op=true:=by cases e:S.op with
    | false=>exact absurd e DX
    | true=>rfl
   split
   ·exact h
   ·rename_i o8;split
    ·exact h
    ·rename_i hr;have h1:=h.Ih;have h2:=h.ow hs;rw[aU hs]at h1;have hw:=Fq S.wr a;have hg:=Fq S.lY a;have mK:=h.sub hs a;refine⟨Xy h.nd,fun b hb=>?_,fun _ b hb=>?_,?_,fun _=>?_,h.jC,h.oF,h.rm,?_⟩
     ·rcases YZ.1 hb with hb | hb
      ·exact h.ins b hb
      ·rw[hb];omega
     ·rcases YZ.1 hb with hb | hb
      ·exact YZ.2 (.inl (h.sub hs b hb))
      ·exact YZ.2 (.inr hb)
     ·show((Y0 S.lY a).length:Int)+(if S.op=true then S.room - ((Y0 S.wr a).length:Int) else 0)<=L - 1;rw[aU hs];rcases hw with ⟨e1,e2⟩ | ⟨e1,e2⟩
      ·have:=mK e2;rcases hg with ⟨e3,e4⟩ | ⟨e3,e4⟩
       ·omega
       ·exact absurd this e4
      ·rcases hg with ⟨e3,e4⟩ | ⟨e3,e4⟩<;>omega
     ·show((Y0 S.wr a).length:Int)<=S.room;rcases hw with ⟨e1,e2⟩ | ⟨e1,e2⟩
      ·omega
      ·have:¬ S.room<=(S.wr.length:Int):=fun e=>hr ⟨e2,e⟩;omega
     ·have:=h.rm hs;have:=h.wl;show((Y0 S.wr a).length:Int)<=L - 1;rcases hw with ⟨e1,e2⟩ | ⟨e1,e2⟩
      ·omega
      ·have:¬ S.room<=(S.wr.length:Int):=fun e=>hr ⟨e2,e⟩;omega
theorem pP.mG(h:pP B L S){n:Int}(hn:n<=9223372036854775807):pP B L (S.mG n):=by
 unfold LS.mG;split
 ·exact h
 ·exact { h with jC:=by show -1<=max n (-1)/\max n (-1)<=_;omega }
theorem pP.mI(h:pP B L S):pP B L S.mI:=⟨h.nd,h.ins,h.sub,h.Ih,h.ow,by show(-1:Int) <= -1/\(-1:Int)<=_;omega,fun _=>rfl,h.rm,h.wl⟩
end
def nZ(L a:Int):Prop:=a<1\/1+L<=a
structure TV(B L:Int)(P:mS)(S:LS):Prop where
 vw:Vw P.s P.cs
 j7:∀ y∈P.cs,y.j7=true->y.at_∈P.order
 held:∀ a∈P.order,∃ y,Zl P.cs a=some y/\y.j7=true
 off:∀ y∈P.cs,nZ L y.at_
 view:∀ a,0<=a->a<B->nZ L a->Zt P.s P.cs a=S.view a
structure mm(B L mine:Int)(k:Nat)(P:mS)(S:LS):Prop where
 stop:P.s.jt=S.stop
 jC:P.s.jC=S.jC
 made:P.s.made=S.made
 nS:S.dead=false↔P.s.jt=false/\0<mine/\P.s.kB=mine
 fit:P.s.fit k
 n:P.s.n=B
 tu:(P.cs.length:Int)<=L+32
 co:P.jA=S.co
 st:P.steps=S.st
 Jl:0<=S.co/\S.co<=k/\0<=S.st/\S.st<=k
 order:P.order=S.lY
 op:P.open_=S.op
 room:P.room=S.room
 wr:plW P=S.wr
 wro:P.open_=true->P.wrote=some (plW P)
 live:S.dead=false->TV B L P S
theorem mm.mono{B L mine:Int}{k k':Nat}{P:mS}{S:LS}(h:mm B L mine k P S)(hk:k<=k'):mm B L mine k' P S:={ h with fit:=h.fit.mono hk,Jl:=by have:=h.Jl;omega }
theorem mm.Kf{B L mine:Int}{k:Nat}{P:mS}{S:LS}(h:mm B L mine k P S):nP mine P.s=S.nS:=by
 unfold nP LS.nS;cases e:S.dead with
 | true=>rw[aH (fun h2=>by rw[h.nS.2 h2]at e;cases e),aU rfl]
 | false=>rw[aU (h.nS.1 e),aH (by decide)]
theorem Ce:∀ {A B:List Int},A.Nodup->(∀ a∈A,a∈B)->A.length<=B.length
 | [],_,_,_=>mT _
 | a :: A,B,hn,hs=>by
  rw[jo]at hn;have ha:=hs a eH;have h1:=Ce (A:=A) (B:=B.erase a) hn.2 fun b hb=>(List.mem_erase_of_ne (fun(e:b=a)=>hn.1 (e ▸ hb))).2 (hs b (dH _ hb));have h2:=List.length_erase_of_mem ha;have h3:=List.length_pos_of_mem ha;rw[gR];omega
def CX(cs:List Pl):List Int:=(cs.filter (·.j7)).map (·.at_)
theorem IX{cs:List Pl}(hn:(cs.map (·.at_)).Nodup):(CX cs).Nodup:=hn.sublist (List.Sublist.map _ List.filter_sublist)
theorem qR{cs:List Pl}{a:Int}:a∈CX cs↔∃ y∈cs,y.j7=true/\y.at_=a:=by
 unfold CX;rw[iT];constructor
 ·rintro⟨y,hy,e⟩;rw[GP]at hy;exact⟨y,hy.1,hy.2,e⟩
 ·rintro⟨y,h1,h2,h3⟩;exact⟨y,GP.2 ⟨h1,h2⟩,h3⟩
theorem xZ(cs:List Pl):ZJ cs=((CX cs).length:Int):=by unfold ZJ CX;rw[bR]
theorem OF{l:List Int}{cs:List Pl}(hn:(cs.map (·.at_)).Nodup)(hf:∀ y∈cs,y.j7=true->y.at_∈l):ZJ cs<=l.length:=by
 have h:=Ce (IX hn) (B:=l) fun a ha=>by
  obtain⟨y,h1,h2,h3⟩:=qR.1 ha;exact h3 ▸ hf y h1 h2
 rw[xZ];omega
theorem OE{cs ke:List Pl}(hn:(cs.map (·.at_)).Nodup)(hn':(ke.map (·.at_)).Nodup)(hl:ZJ ke=ZJ cs)(hk:∀ b y,Zl cs b=some y->y.j7=true->Zl ke b=some y){y:Pl}(hy:y∈ke)(hf:y.j7=true):∃ z∈cs,z.j7=true/\z.at_=y.at_:=by
 rw[<- qR];refine Classical.byContradiction fun kG=>?_;have h:=Ce (A:=y.at_ :: CX cs) (B:=CX ke) (jo.2 ⟨kG,IX hn⟩) fun a ha=>by
  rcases jg.1 ha with e | ha
  ·rw[e];exact qR.2 ⟨y,hy,hf,rfl⟩
  ·obtain⟨z,h1,h2,h3⟩:=qR.1 ha;have h4:=(Zi hn').1 (hk a z ((Zi hn).2 ⟨h1,h3⟩) h2);exact qR.2 ⟨z,h4.1,h2,h4.2⟩
 rw[xZ,xZ]at hl;rw[gR]at h;omega
theorem TV.kZ{B L:Int}{P:mS}{S:LS}(h:TV B L P S):ZJ P.cs<=P.order.length:=OF h.vw.nd h.j7
section
variable{B L I mine:Int}{k:Nat}{P:mS}{S:LS}
theorem mm.pok(h:mm B L mine k P S)(hs:pP B L S)(hL:32<=L/\L<=256)(hB:B<=1048576)(hk:k<1000000000000)(hd:S.dead=false):UF (zf B L I) mine P:=by
 obtain⟨h1,h2,h3⟩:=h.nS.1 hd;have hl:=h.live hd;have hr:=h.fit.reads;have nu:=hs.Ih;refine⟨h1,⟨h2,h3⟩,hl.vw,by rw[h.n];exact Int.le_refl _,⟨by omega,by omega⟩,⟨rfl,hL.1,hL.2,hB⟩,hl.kZ,?_,h.tu,hl.held⟩;show(P.order.length:Int)<=L - 1;rw[h.order];split at nu
 ·rename_i e;have:=hs.ow e;omega
 ·omega
theorem mm.rd(h:mm B L mine k P S){s':DS}{ke:List Pl}{m:Nat}(hr:Rd (zf B L I) P s' ke m)(hd:S.dead=false):mm B L mine (k+m) { P with s:=s',cs:=ke } S:=by
 obtain⟨h1,h2,h3⟩:=h.nS.1 hd;have hl:=h.live hd;have hrr:=hr.reads;obtain⟨f1,f2,f3,f4,f5⟩:=h.fit;refine⟨hr.jt.trans h.stop,hr.jC.trans h.jC,hr.made.trans h.made,?_,⟨?_,?_,?_,?_,?_⟩,hr.n.trans h.n,hr.tu,h.co,h.st,(by have:=h.Jl;omega),h.order,h.op,h.room,h.wr,h.wro,fun _=>⟨hr.vw,fun y hy hf=>?_,fun a ha=>?_,hr.off hl.off,fun a a0 a1 a2=>?_⟩⟩
 ·show S.dead=false↔s'.jt=false/\0<mine/\s'.kB=mine;rw[hr.jt,hr.kB];exact h.nS
 ·show 0<=s'.made/\s'.made<=_;rw[hr.made];omega
 ·show 0<=s'.reads/\s'.reads<=_;omega
 ·show -1<=s'.jC/\s'.jC<=_;rw[hr.jC];exact f3
 ·show s'.pl<=_;rw[hr.pl];omega
 ·show s'.hl<=_;rw[hr.hl];omega
 ·obtain⟨z,q1,q2,q3⟩:=OE hl.vw.nd hr.vw.nd hr.j7 hr.Gb hy hf;exact q3 ▸ hl.j7 z q1 q2
 ·obtain⟨y,q1,q2⟩:=hl.held a ha;exact⟨y,hr.Gb a y q1 q2,q2⟩
 ·show Zt s' ke a=S.view a;rw[hr.view];exact hl.view a a0 a1 a2
end
def Pz(n:Nat)(ok:Bool)(f m:Int)(t':Bool)(f' m':Int):Prop:=
 (ok=true/\t'=false/\m'=m+n/\(f<0/\f'=f\/(n:Int)<=f/\f'=f - n))\/(ok=false/\t'=true/\0<=f/\f<n/\f'=0/\m'=m+f)
theorem Pz.zero{f m:Int}(hf : -1<=f):Pz 0 true f m false f m:=.inl ⟨rfl,rfl,by omega,by omega⟩
theorem Pz.step{n1 n2 n:Nat}{ok t1 t2:Bool}{f m f1 m1 f2 m2:Int}(h:Pz n1 true f m t1 f1 m1)(g:Pz n2 ok f1 m1 t2 f2 m2)(hn:n=n1+n2):Pz n ok f m t2 f2 m2:=by
 subst hn;rcases h with ⟨_,h2,h3,h4⟩ | ⟨h1,_⟩
 ·rcases g with ⟨g1,g2,g3,g4⟩ | ⟨g1,g2,g3,g4,g5,g6⟩
  ·exact .inl ⟨g1,g2,by omega,by omega⟩
  ·exact .inr ⟨g1,g2,by omega,by omega,g5,by omega⟩
 ·cases h1
theorem Pz.fail{n1 n:Nat}{t1:Bool}{f m f1 m1:Int}(h:Pz n1 false f m t1 f1 m1)(hn:n1<=n):Pz n false f m t1 f1 m1:=by
 rcases h with ⟨h1,_⟩ | ⟨h1,h2,h3,h4,h5,h6⟩
 ·cases h1
 ·exact .inr ⟨h1,h2,h3,by omega,h5,h6⟩
structure oW(n:Nat)(ok:Bool)(s s':DS):Prop where
 run:Pz n ok s.jC s.made s'.jt s'.jC s'.made
 nn:s'.n=s.n
 kB:s'.kB=s.kB
 fit:∀ k,s.fit k->s'.fit (k+n)
theorem oW.alive{n:Nat}{s s':DS}(h:oW n true s s'):s'.jt=false:=by
 rcases h.run with ⟨_,h2,_⟩ | ⟨h1,_⟩
 ·exact h2
 ·cases h1
theorem oW.jC{n:Nat}{ok:Bool}{s s':DS}(h:oW n ok s s')(hf : -1<=s.jC) : -1<=s'.jC:=by
 rcases h.run with ⟨_,h2,h3,h4⟩ | ⟨h1,h2,h3,h4,h5,h6⟩<;>omega
theorem oW.step{n1 n2 n:Nat}{ok:Bool}{s s1 s2:DS}(h:oW n1 true s s1)(g:oW n2 ok s1 s2)(hn:n=n1+n2):oW n ok s s2:=
 ⟨h.run.step g.run hn,g.nn.trans h.nn,g.kB.trans h.kB,fun k hk=>by rw[hn,<- Nat.add_assoc];exact g.fit _ (h.fit k hk)⟩
theorem oW.fail{n1 n:Nat}{s s1:DS}(h:oW n1 false s s1)(hn:n1<=n):oW n false s s1:=⟨h.run.fail hn,h.nn,h.kB,fun k hk=>(h.fit k hk).mono (by omega)⟩
section
variable{s:DS}{cs:List Pl}
theorem oW.zero(h:s.jt=false)(hf : -1<=s.jC):oW 0 true s s:=⟨by rw[h];exact Pz.zero hf,rfl,rfl,fun k hk=>hk⟩
theorem xt(h:s.jt=false)(hf : -1<=s.jC){a:Int}(b:jn)(ha:0<=a)(hb:a<s.n) :
   ((s.write a b).2=0/\oW 1 true s (s.write a b).1/\(s.write a b).1.now=nG s.now a b)\/((s.write a b).2≠0/\oW 1 false s (s.write a b).1):=by
 have ob:=fun k (hk:s.fit k)=>DS.pS hk a b
 unfold DS.write at ob ⊢
 rw[aH (by rw[h];decide),aH (by omega)]at ob ⊢
 by_cases e:s.jC=0
 · rw[aU e]at ob ⊢
   exact .inr ⟨(by decide:(3:Int)≠0),.inr ⟨rfl,rfl,by omega,by omega,e,by show s.made=_;omega⟩,rfl,rfl,ob⟩
 · rw[aH e]at ob ⊢
   unfold DS.mM at ob ⊢
   rw[aH e]at ob ⊢
   refine .inl ⟨rfl,⟨.inl ⟨rfl,h,rfl,?_⟩,rfl,rfl,ob⟩,rfl⟩
   show s.jC<0/\(if 0<s.jC then s.jC - 1 else s.jC)=s.jC\/((1:Nat):Int)<=s.jC/\(if 0<s.jC then s.jC - 1 else s.jC)=s.jC - ((1:Nat):Int)
   split<;>omega
theorem As(h:s.jt=false)(hf : -1<=s.jC) :
   (s.ja.2=0/\oW 1 true s s.ja.1/\s.ja.1.now=s.now)\/(s.ja.2≠0/\oW 1 false s s.ja.1):=by
 have ob:=fun k (hk:s.fit k)=>DS.pC hk
 unfold DS.ja at ob ⊢
 rw[aH (by rw[h];decide)]at ob ⊢
 by_cases e:s.jC=0
 · rw[aU e]at ob ⊢
   exact .inr ⟨(by decide:(3:Int)≠0),.inr ⟨rfl,rfl,by omega,by omega,e,by show s.made=_;omega⟩,rfl,rfl,ob⟩
 · rw[aH e]at ob ⊢
   unfold DS.mM at ob ⊢
   rw[aH e]at ob ⊢
   refine .inl ⟨rfl,⟨.inl ⟨rfl,h,rfl,?_⟩,rfl,rfl,ob⟩,rfl⟩
   show s.jC<0/\(if 0<s.jC then s.jC - 1 else s.jC)=s.jC\/((1:Nat):Int)<=s.jC/\(if 0<s.jC then s.jC - 1 else s.jC)=s.jC - ((1:Nat):Int)
   split<;>omega
theorem Nx(h:s.jt=false)(hf : -1<=s.jC){a:Int}(c:jn)(ha:0<=a)(hb:a<s.n) :
   ∃ s' ok,JL s a c=(s',ok)/\oW 3 ok s s'/\(ok=true->s'.now=nG s.now a c):=by
 unfold JL
 rcases As h hf with ⟨h1,h2,h3⟩ | ⟨h1,h2⟩
 · rw[aH (by rw[h1];decide)]
   rcases xt h2.alive (h2.jC hf) c ha (by rw[h2.nn];exact hb) with ⟨g1,g2,g3⟩ | ⟨g1,g2⟩
   · rw[aH (by rw[g1];decide)]
     have hg:=h2.step g2 (n:=2) rfl
     rcases As hg.alive (hg.jC hf) with ⟨q1,q2,q3⟩ | ⟨q1,q2⟩
     · exact⟨_,_,rfl,by rw[gU q1];exact hg.step q2 rfl,fun _=>by rw[q3,g3,h3]⟩
     · exact⟨_,_,rfl,by rw[cH q1];exact hg.step q2 rfl,fun e=>absurd (ks e) q1⟩
   · rw[aU g1]
     exact⟨_,_,rfl,(h2.step g2 (n:=2) rfl).fail (by omega),fun e=>by cases e⟩
 · rw[aU h1]
   exact⟨_,_,rfl,h2.fail (by omega),fun e=>by cases e⟩
structure Row(cs ke:List Pl):Prop where
 nd:(ke.map (·.at_)).Nodup
 mem:∀ y,y∈ke↔y∈cs
 len:ke.length=cs.length
theorem Row.find{cs ke:List Pl}(h:Row cs ke)(hn:(cs.map (·.at_)).Nodup)(a:Int):Zl ke a=Zl cs a:=by
 cases h1:Zl cs a with
 | some x=>exact(Zi h.nd).2 ⟨(h.mem x).2 ((Zi hn).1 h1).1,((Zi hn).1 h1).2⟩
 | none=>
  cases h2:Zl ke a with
  | none=>rfl
  | some y=>
   have:=(Zi h.nd).1 h2;exact absurd this.2 (Yz.1 h1 y ((h.mem y).1 this.1))
theorem Ws(hn:(cs.map (·.at_)).Nodup){a:Int}{x:Pl}(h:Zl cs a=some x):Row cs (u0 cs a++[x]):=by
 obtain⟨hb,_⟩:=vI hn h;have hm:=(Zi hn).1 h;refine⟨u2 hb.nd fun y hy=>by rw[hm.2];exact(hb.sub y hy).2,fun y=>⟨fun hy=>?_,fun hy=>?_⟩,?_⟩
 ·rcases fH.1 hy with h1 | h1
  ·exact(hb.sub y h1).1
  ·rw[eU.1 h1];exact hm.1
 ·by_cases e:y.at_=a
  ·have:=(Zi hn).2 ⟨hy,e⟩;rw[h]at this;injection this with this;rw[this];simp
  ·obtain⟨l1,l2,e1,h1,_,h2⟩:=qi h;rw[h2];rw[e1]at hy;rcases pU.1 hy with e2 | e2
   ·rw[e2]at e;exact absurd h1 e
   ·exact jI _ e2
 ·have:=B8 h;simp only[cR,gR,jW];omega
theorem Jm{size at0:Int}:∀ (l:List Int) (i:Nat) (s:DS) (cs:List Pl),s.jt=false -> -1<=s.jC->(cs.map (·.at_)).Nodup->(∀ a∈l,0<=a/\a<s.n/\∃ y,Zl cs a=some y)->0<=at0->at0+((i+l.length:Nat):Int)<=s.n ->
   ∃ s' ke ok,uB size at0 l i s cs=(s',ke,ok)/\oW l.length ok s s'/\Row cs ke/\(ok=true->∀ b,b<at0\/at0+((i+l.length:Nat):Int)<=b->s'.now b=s.now b)
 | [],i,s,cs,ha,hf,hn,hl,h0,h1=>⟨s,cs,true,rfl,oW.zero ha hf,⟨hn,fun _=>Iff.rfl,rfl⟩,fun _ _ _=>rfl⟩
 | a :: l,i,s,cs,ha,hf,hn,hl,h0,h1=>by
   obtain⟨a0,a1,y,hy⟩:=hl a eH
   rw[gR]at h1 ⊢
   have hw:s.ly a=0:=by unfold DS.ly;rw[aH (by rw[ha];decide),aH (by omega)]
   have e:Zk size s cs a=(s,u0 cs a++[y],y.data,0):=by unfold Zk;rw[aH (by omega),hy]
   have hr:=Ws hn hy
   unfold uB
   rw[e]
   simp only
   rw[aH (by decide)]
   rcases xt ha hf (a:=at0+(i:Int)) y.data (by omega) (by omega) with ⟨g1,g2,g3⟩ | ⟨g1,g2⟩
   · rw[aH (by rw[g1];decide)]
     obtain⟨s',ke,ok,q1,q2,q3,q4⟩:=Jm (size:=size) (at0:=at0) l (i+1) (s.write (at0+(i:Int)) y.data).1 (u0 cs a++[y]) g2.alive (g2.jC hf) hr.nd (fun b hb=>by
       obtain⟨b0,b1,z,hz⟩:=hl b (dH _ hb)
       exact⟨b0,by rw[g2.nn];exact b1,z,by rw[hr.find hn];exact hz⟩) h0 (by rw[g2.nn];omega)
     refine⟨s',ke,ok,q1,g2.step q2 (by omega),⟨q3.nd,fun z=>(q3.mem z).trans (hr.mem z),q3.len.trans hr.len⟩,fun kD b hb=>?_⟩
     rw[q4 kD b (by omega),g3]
     unfold nG
     rw[aH (by omega)]
   · rw[aU g1]
     exact⟨_,_,_,rfl,g2.fail (by omega),hr,fun e=>by cases e⟩
def si(a:Int)(y:Pl):Pl:=if y.at_=a then { y with j7:=false } else y
theorem wW(a:Int)(y:Pl):(si a y).at_=y.at_:=by unfold si;split<;>rfl
theorem Dl(a:Int)(y:Pl):(si a y).data=y.data:=by unfold si;split<;>rfl
theorem wV(cs:List Pl)(a:Int):qV cs a=cs.map (si a):=rfl
theorem Jo(cs:List Pl)(a:Int):(qV cs a).map (·.at_)=cs.map (·.at_):=by
 rw[wV,ad8];exact List.map_congr_left fun y _=>wW a y
theorem Dk(cs:List Pl)(a b:Int):Zl (qV cs a) b=(Zl cs b).map (si a):=by
 unfold Zl;rw[wV,List.find?_map];congr 2;funext y;show((si a y).at_ == b)=(y.at_ == b);rw[wW]
theorem Jn:∀ (l:List Int) (s:DS) (cs:List Pl),s.jt=false -> -1<=s.jC->Vw s cs->l.Nodup->(∀ a∈l,0<=a/\a<s.n/\∃ y,Zl cs a=some y/\y.j7=true) ->
   ∃ s' ke ok,AZ l s cs=(s',ke,ok)/\oW l.length ok s s'/\ke.length=cs.length/\(ok=true->Vw s' ke/\(∀ b,Zt s' ke b=Zt s cs b)/\ke.map (·.at_)=cs.map (·.at_)/\∀ y∈ke,y.j7=true->y.at_ ∉ l/\∃ z∈cs,z.j7=true/\z.at_=y.at_)
 | [],s,cs,ha,hf,hv,hn,hl=>⟨s,cs,true,rfl,oW.zero ha hf,rfl,fun _=>⟨hv,fun _=>rfl,rfl,fun y hy PK=>⟨by simp,y,hy,PK,rfl⟩⟩⟩
 | a :: l,s,cs,ha,hf,hv,hn,hl=>by
   rw[jo]at hn
   obtain⟨a0,a1,y,hy,PK⟩:=hl a eH
   have hym:=(Zi hv.nd).1 hy
   have hw:s.ly a=0:=by unfold DS.ly;rw[aH (by rw[ha];decide),aH (by omega)]
   unfold AZ
   rw[gR]
   rcases xt ha hf (a:=a) y.data a0 a1 with ⟨g1,g2,g3⟩ | ⟨g1,g2⟩
   · rw[AF hw hy PK g1]
     simp only
     rw[aH (by decide)]
     have DY:∀ b,(s.write a y.data).1.now b=if b=a then y.data else s.now b:=fun b=>by rw[g3];rfl
     have hv1:Vw (s.write a y.data).1 (qV cs a):=⟨by rw[Jo];exact hv.nd,fun z hz MT=>by
       rw[wV]at hz
       obtain⟨w,DV,rfl⟩:=iT.1 hz
       rw[Dl,wW,DY]
       by_cases e:w.at_=a
       · rw[aU e]
         have:=(Zi hv.nd).2 ⟨DV,e⟩
         rw[hy]at this
         injection this with this
         rw[this]
       · rw[aH e]
         refine hv.J4 w DV ?_
         unfold si at MT
         rw[aH e]at MT;exact MT⟩
     have CB:∀ b,Zt (s.write a y.data).1 (qV cs a) b=Zt s cs b:=fun b=>by
       unfold Zt
       rw[Dk]
       cases hb:Zl cs b with
       | some z=>exact Dl a z
       | none=>
         show(s.write a y.data).1.now b=s.now b
         rw[DY,aH (fun e=>by rw[e,hy]at hb;cases hb)]
     obtain⟨s',ke,ok,q1,q2,q3,q4⟩:=Jn l (s.write a y.data).1 (qV cs a) g2.alive (g2.jC hf) hv1 hn.2 (fun b hb=>by
       obtain⟨b0,b1,z,hz,MT⟩:=hl b (dH _ hb)
       refine⟨b0,by rw[g2.nn];exact b1,si a z,by rw[Dk,hz];rfl,?_⟩
       unfold si
       rw[aH (fun e=>?_)]
       · exact MT
       · have:=((Zi hv.nd).1 hz).2
         rw[e]at this
         exact hn.1 (this ▸ hb))
     refine⟨s',ke,ok,q1,g2.step q2 (by omega),q3.trans (Fi cs a),fun kD=>?_⟩
     obtain⟨r1,r2,r3,r4⟩:=q4 kD
     refine⟨r1,fun b=>(r2 b).trans (CB b),r3.trans (Jo cs a),fun z hz MT=>?_⟩
     obtain⟨p1,w,DV,T6,hw3⟩:=r4 z hz MT
     rw[wV]at DV
     obtain⟨u,hu,rfl⟩:=iT.1 DV
     rw[wW]at hw3
     have jZ:u.at_≠a:=fun e=>by
       unfold si at T6
       rw[aU e]at T6;cases T6
     have aj9:u.j7=true:=by
       unfold si at T6
       rw[aH jZ]at T6;exact T6
     refine⟨fun hm=>?_,u,hu,aj9,hw3⟩
     rcases jg.1 hm with e | e
     · exact jZ (hw3.trans e)
     · exact p1 e
   · rw[CT hw hy PK g1]
     simp only
     rw[aU g1]
     exact⟨_,_,_,rfl,g2.fail (by omega),rfl,fun e=>by cases e⟩
theorem JP{s s':DS}{cs:List Pl}{L:Int}(h:Vw s cs)(ho:∀ y∈cs,nZ L y.at_)(hs:∀ b,nZ L b->s'.now b=s.now b):Vw s' cs/\∀ b,nZ L b->Zt s' cs b=Zt s cs b:=by
 refine⟨⟨h.nd,fun y hy hf=>by rw[hs _ (ho y hy)];exact h.J4 y hy hf⟩,fun b hb=>?_⟩;unfold Zt;cases Zl cs b with
 | some x=>rfl
 | none=>exact hs b hb
end
section
variable{B L I mine:Int}{k:Nat}{P:mS}{S:LS}
theorem wU(h:mm B L mine k P S)(hf : -1<=S.jC){s':DS}{ke:List Pl}(hr:oW (2*S.lY.length+6) false P.s s')(hl:(ke.length:Int)<=L+32):S.tq.2=3/\mm B L mine (k+2*S.lY.length+7) { P with s:=s',cs:=ke } S.tq.1:=by
 rcases hr.run with ⟨h1,_⟩ | ⟨h1,h2,h3,h4,h5,h6⟩
 ·cases h1
 ·rw[h.jC]at h3 h4 h6;rw[h.made]at h6;have e:S.tq=({ S with stop:=true,dead:=true,made:=S.made+S.jC,jC:=0 },3):=by unfold LS.tq;rw[aH (by omega)]
  rw[e];refine⟨rfl,h2,h5,h6,⟨fun e=>(by cases e),fun e=>?_⟩,(hr.fit k h.fit).mono (by omega),hr.nn.trans h.n,hl,h.co,h.st,(by have:=h.Jl;show 0<=S.co/\S.co<=_/\0<=S.st/\S.st<=_;omega),h.order,h.op,h.room,h.wr,h.wro,fun e=>by cases e⟩;have e:s'.jt=false/\0<mine/\s'.kB=mine:=e;rw[h2]at e;cases e.1
theorem Nt(h:mm B L mine k P S)(hs:pP B L S)(hL:32<=L/\L<=256)(WH:1+L<=B)(hd:S.dead=false)(DX:S.op=false) :
   (nH (zf B L I) P).2=S.tq.2/\mm B L mine (k+2*S.lY.length+7) (nH (zf B L I) P).1 S.tq.1:=by
 obtain⟨h1,h2,h3⟩:=h.nS.1 hd
 have hl:=h.live hd
 have hsf:=hs.jC
 have nu:=hs.Ih
 rw[aH (by rw[DX];decide)]at nu
 have hg:=h.order
 have hPf : -1<=P.s.jC:=by rw[h.jC];omega
 have hx:(zf B L I).logAt=1:=rfl
 have hxL:(zf B L I).L=L:=rfl
 have oa:mF (zf B L I) P.order:=⟨by rw[hg];show _<=L - 1;omega,by rw[hg];exact hs.nd,fun t ht=>by
   have:=hs.ins t (hg ▸ ht)
   exact this⟩
 have o8:∀ a∈P.order,0<=a/\a<B:=fun a ha=>by
   have:=hs.ins a (hg ▸ ha);omega
 have hlen:P.order.length=S.lY.length:=by rw[hg]
 obtain⟨s1,PQ,ok1,e1,r1,w1,n1⟩:=Jm (size:=L+32) (at0:=2) P.order 0 P.s P.cs h1 hPf hl.vw.nd (fun a ha=>by
   obtain⟨y,hy,_⟩:=hl.held a ha
   have:=o8 a ha
   exact⟨this.1,by rw[h.n];exact this.2,y,hy⟩) (by omega) (by rw[h.n];omega)
 have Sw:(PQ.length:Int)<=L+32:=by rw[w1.len];exact h.tu
 have e1:uB ((zf B L I).L+32) ((zf B L I).logAt+1) P.order 0 P.s P.cs=(s1,PQ,ok1):=e1
 cases ok1 with
 | false=>
   obtain⟨g1,g2⟩:=wU h hsf.1 (r1.fail (n:=2*S.lY.length+6) (by omega)) Sw
   rw[Tn e1]
   exact⟨g1.symm,g2⟩
 | true=>
 have n1':∀ b,nZ L b->s1.now b=P.s.now b:=fun b hb=>n1 rfl b (by unfold nZ at hb;omega)
 have hv1:Vw P.s PQ:=⟨w1.nd,fun y hy=>hl.vw.J4 y ((w1.mem y).1 hy)⟩
 have R5:∀ y∈PQ,nZ L y.at_:=fun y hy=>hl.off y ((w1.mem y).1 hy)
 have acv:∀ b,Zt P.s PQ b=Zt P.s P.cs b:=fun b=>by unfold Zt;rw[w1.find hl.vw.nd]
 obtain⟨R1,acu⟩:=JP hv1 R5 n1'
 obtain⟨s2,ok2,e2,r2,n2⟩:=Nx (s:=s1) r1.alive (r1.jC hPf) (a:=(zf B L I).logAt) (sZ P.order) (by omega) (by rw[r1.nn,h.n];omega)
 have Q0:=r1.step r2 (n:=P.order.length+3) rfl
 cases ok2 with
 | false=>
   obtain⟨g1,g2⟩:=wU h hsf.1 (Q0.fail (n:=2*S.lY.length+6) (by omega)) Sw
   rw[aaI e1 oa e2]
   exact⟨g1.symm,g2⟩
 | true=>
 have n2':∀ b,nZ L b->s2.now b=s1.now b:=fun b hb=>by
   rw[n2 rfl]
   unfold nG
   rw[aH (by unfold nZ at hb;omega)]
 obtain⟨DW,acs⟩:=JP R1 R5 n2'
 obtain⟨s3,Nr,ok3,e3,r3,l3,q3⟩:=Jn P.order s2 PQ Q0.alive (Q0.jC hPf) DW (by rw[hg];exact hs.nd) (fun a ha=>by
   obtain⟨y,hy,PK⟩:=hl.held a ha
   have:=o8 a ha
   exact⟨this.1,by rw[Q0.nn,h.n];exact this.2,y,by rw[w1.find hl.vw.nd];exact hy,PK⟩)
 have B0:=Q0.step r3 (n:=2*P.order.length+3) (by omega)
 have CM:(Nr.length:Int)<=L+32:=by rw[l3];exact Sw
 cases ok3 with
 | false=>
   obtain⟨g1,g2⟩:=wU h hsf.1 (B0.fail (n:=2*S.lY.length+6) (by omega)) CM
   rw[aaH e1 oa e2 e3]
   exact⟨g1.symm,g2⟩
 | true=>
 obtain⟨hv4,acr,alo,ak0⟩:=q3 rfl
 have ho3:∀ y∈Nr,nZ L y.at_:=fun y hy=>by
   have:y.at_∈Nr.map (·.at_):=iT.2 ⟨y,hy,rfl⟩
   rw[alo]at this
   obtain⟨z,hz,e⟩:=iT.1 this
   exact e ▸ R5 z hz
 obtain⟨s4,Rl,e4,r4,n4⟩:=Nx (s:=s3) B0.alive (B0.jC hPf) (a:=(zf B L I).logAt) zB (by omega) (by rw[B0.nn,h.n];omega)
 have rA:=B0.step r4 (n:=2*S.lY.length+6) (by omega)
 cases Rl with
 | false=>
   obtain⟨g1,g2⟩:=wU h hsf.1 rA CM
   rw[aaG e1 oa e2 e3 e4]
   exact⟨g1.symm,g2⟩
 | true=>
 have n4':∀ b,nZ L b->s4.now b=s3.now b:=fun b hb=>by
   rw[n4 rfl]
   unfold nG
   rw[aH (by unfold nZ at hb;omega)]
 obtain⟨hv5,acq⟩:=JP hv4 ho3 n4'
 have agu:∀ y∈Nr,y.j7=true->False:=fun y hy PK=>by
   obtain⟨p1,z,hz,MT,hze⟩:=ak0 y hy PK
   exact p1 (hze ▸ hl.j7 z ((w1.mem z).1 hz) MT)
 rw[aaF e1 oa e2 e3 e4]
 rcases rA.run with ⟨_,h2',h3',h4'⟩ | ⟨SE,_⟩
 rotate_left
 · cases SE
 rw[h.jC]at h4'
 rw[h.made]at h3'
 have ec:S.tq=({ S with lY:=[],co:=S.co+1,made:=S.made+(2*(S.lY.length:Int)+6),jC:=if S.jC<0 then S.jC else S.jC - (2*(S.lY.length:Int)+6) },0):=by unfold LS.tq;rw[aU (by omega)]
 rw[ec]
 refine⟨rfl,h2'.trans ((h.stop.symm.trans h1).symm),?_,?_,?_,(rA.fit k h.fit).mono (by omega),rA.nn.trans h.n,CM,?_,h.st,(by have:=h.Jl;show 0<=S.co+1/\S.co+1<=_/\0<=S.st/\S.st<=_;omega),rfl,h.op,h.room,h.wr,h.wro,fun _=>⟨hv5,fun y hy PK=>(agu y hy PK).elim,fun a ha=>(by cases ha),ho3,fun a a0 a1 a2=>?_⟩⟩
 · show s4.jC=if S.jC<0 then S.jC else S.jC - (2*(S.lY.length:Int)+6)
   split<;>omega
 · show s4.made=S.made+(2*(S.lY.length:Int)+6)
   omega
 · show S.dead=false↔s4.jt=false/\0<mine/\s4.kB=mine
   rw[rA.kB,h2']
   exact⟨fun _=>⟨rfl,h2,h3⟩,fun _=>hd⟩
 · show P.jA+1=S.co+1
   rw[h.co]
 · show Zt s4 Nr a=S.view a
   rw[acq a a2,acr,acs a a2,acu a a2,acv]
   exact hl.view a a0 a1 a2
end
theorem VA{size:Int}{s:DS}{cs:List Pl}{a:Int}{d:jn}{y:Pl}(h:y∈(pa size s cs a d).1):y∈cs\/y.at_=a:=by
 unfold pa at h;split at h
 ·exact .inl h
 ·split at h
  ·exact .inl h
  ·rename_i c1 hc;rcases fH.1 h with h1 | h1
   ·refine .inl ?_;unfold uQ at hc;split at hc
    ·injection hc with hc;subst hc;exact List.mem_of_mem_eraseP h1
    ·unfold oH at hc;split at hc
     ·cases hc
     ·split at hc
      ·injection hc with hc;subst hc;exact h1
      ·injection hc with hc;subst hc;exact List.mem_of_mem_eraseP h1
   ·rw[eU.1 h1];exact .inr rfl
section
variable{B L I mine:Int}{k:Nat}{P:mS}{S:LS}
theorem mm.aam(h:mm B L mine k P S)(hs:pP B L S)(hd:S.dead=false):ZJ P.cs<=L - 1:=by
 have h1:=(h.live hd).kZ;have h2:=hs.Ih;rw[h.order]at h1;split at h2
 ·rename_i e;have:=hs.ow e;omega
 ·omega
theorem jM{S:LS}:S.nS≠0↔S.dead=true:=by
 unfold LS.nS;cases S.dead<;>simp
theorem abE(h:mm B L mine k P S)(hs:pP B L S)(hL:32<=L/\L<=256){a:Int}(ha:S.dead=false->0<=a->a<B->nZ L a) :
   (YR (zf B L I) mine P a).2=S.rd B a/\mm B L mine (k+1) (YR (zf B L I) mine P a).1 S:=by
 have h0:=h.mono (mC k)
 unfold YR LS.rd
 rw[h.Kf]
 by_cases hd:S.dead=true
 · rw[aU (jM.2 hd),aU hd]
   exact⟨by show(zB,S.nS)=_;unfold LS.nS;rw[aU hd],h0⟩
 · rw[aH (fun e=>hd (jM.1 e)),aH hd]
   have hd:S.dead=false:=by cases e:S.dead with
     | true=>exact absurd e hd
     | false=>rfl
   by_cases hr:a<0\/B<=a
   · rw[aU (by exact hr),aU hr]
     exact⟨rfl,h0⟩
   · rw[aH (by exact hr),aH hr]
     have ho:=ha hd (by omega) (by omega)
     have hl:=h.live hd
     have hw:P.s.ly a=0:=by
       unfold DS.ly
       rw[aH (by rw[(h.nS.1 hd).1];decide),aH (by rw[h.n];exact hr)]
     rw[aH (by show ¬ (1<=a/\a<1+L);unfold nZ at ho;omega)]
     obtain⟨s',ke,e,Iz,KF,CB,Uc,hkp,kL⟩:=Ej (size:=L+32) hl.vw hw (by have:=h.aam hs hd;omega)
     have hlen:=xr (size:=L+32) (s:=P.s) (cs:=P.cs) (a:=a) h.tu
     have e:Zk ((zf B L I).L+32) P.s P.cs a=(s',ke,Zt P.s P.cs a,0):=e
     rw[show Zk (L+32) P.s P.cs a=(s',ke,Zt P.s P.cs a,0) from e]at hlen
     rw[e]
     refine⟨by show(Zt P.s P.cs a,(0:Int))=(S.view a,0);rw[hl.view a (by omega) (by omega) ho],?_⟩
     exact h.rd (I:=I) (m:=1) (.mk1 Iz KF CB Uc hkp hlen fun hx y hy=>by
       rcases kL y hy with h3 | h3
       · exact hx y h3
       · rw[h3];show a<1\/1+L<=a;exact ho) hd
theorem VG(h:mm B L mine k P S)(hs:pP B L S)(hL:32<=L/\L<=256)(a:Int)(d:jn) :
   (Yk (zf B L I) mine P a d).2=(S.wt B L a d).2/\mm B L mine k (Yk (zf B L I) mine P a d).1 (S.wt B L a d).1:=by
 unfold Yk LS.wt
 rw[h.Kf,h.op,h.wr,h.room]
 by_cases hd:S.dead=true
 · rw[aU (jM.2 hd),aU hd]
   exact⟨by show S.nS=_;unfold LS.nS;rw[aU hd],h⟩
 rw[aH (fun e=>hd (jM.1 e)),aH hd]
 have hd:S.dead=false:=by cases e:S.dead with
   | true=>exact absurd e hd
   | false=>rfl
 by_cases ho:S.op=false
 · rw[aU ho,aU ho];exact⟨rfl,h⟩
 rw[aH ho,aH ho]
 have ho:S.op=true:=by cases e:S.op with
   | false=>exact absurd e ho
   | true=>rfl
 by_cases hr:a<1+L\/B<=a
 · rw[aU (by show a<1\/B<=a\/(1<=a/\a<1+L);omega),aU hr];exact⟨rfl,h⟩
 rw[aH (by show ¬ (a<1\/B<=a\/(1<=a/\a<1+L));omega),aH hr]
 by_cases hw:a ∉ S.wr/\S.room<=(S.wr.length:Int)
 · rw[aU hw,aU hw];exact⟨rfl,h⟩
 rw[aH hw,aH hw]
 have hl:=h.live hd
 have hwr:P.s.ly a=0:=by
   unfold DS.ly
   rw[aH (by rw[(h.nS.1 hd).1];decide),aH (by rw[h.n];omega)]
 obtain⟨ke,e,KF,CB,_,_,sw,hkp⟩:=P9 (size:=L+32) (d:=d) hl.vw hwr (by have:=h.aam hs hd;omega)
 have hlen:=Q1 (size:=L+32) (s:=P.s) (cs:=P.cs) (a:=a) (d:=d) h.tu
 have kL:=fun y=>VA (size:=L+32) (s:=P.s) (cs:=P.cs) (a:=a) (d:=d) (y:=y)
 have e':pa ((zf B L I).L+32) P.s P.cs a d=(ke,0):=e
 rw[e]at hlen kL
 rw[e',aH (fun hh=>hh rfl)]
 refine⟨rfl,{ h with tu:=hlen,order:=by show Y0 P.order a=Y0 S.lY a;rw[h.order],op:=rfl,room:=rfl,wr:=rfl,wro:=fun _=>rfl,live:=fun _=>⟨KF,fun y hy hf=>?_,fun b hb=>?_,fun y hy=>?_,fun b b0 b1 b2=>?_⟩ }⟩
 · rcases kL y hy with h3 | h3
   · by_cases e:y.at_=a
     · exact YZ.2 (.inr e)
     · refine YZ.2 (.inl ?_)
       refine hl.j7 y h3 hf
   · exact YZ.2 (.inr h3)
 · rcases YZ.1 hb with hb | hb
   · by_cases e:b=a
     · rw[e];exact sw
     · obtain⟨y,q1,q2⟩:=hl.held b hb
       exact⟨y,hkp b y e q1 q2,q2⟩
   · rw[hb];exact sw
 · rcases kL y hy with h3 | h3
   · exact hl.off y h3
   · rw[h3];exact .inr (by omega)
 · show Zt P.s ke b=nG S.view a d b
   rw[CB b]
   unfold nG
   split
   · rfl
   · exact hl.view b b0 b1 b2
theorem afH(h:mm B L mine k P S):(uH mine P).2=S.fin.2/\mm B L mine (k+1) (uH mine P).1 S.fin.1:=by
 have h0:=h.mono (mC k);unfold uH LS.fin;rw[h.Kf,h.op];by_cases hd:S.dead=true
 ·rw[aU (jM.2 hd),aU hd];exact⟨by show S.nS=_;unfold LS.nS;rw[aU hd],h0⟩
 rw[aH (fun e=>hd (jM.1 e)),aH hd];by_cases ho:S.op=false
 ·rw[aU ho,aU ho];exact⟨rfl,h0⟩
 rw[aH ho,aH ho];refine⟨rfl,{ h0 with st:=by show P.steps+1=S.st+1;rw[h.st],op:=rfl,Jl:=by have:=h.Jl;show 0<=S.co/\S.co<=_/\0<=S.st+1/\S.st+1<=_;omega,wro:=fun e=>(by cases e),live:=fun e=>{ (h.live e) with } }⟩
theorem pP.CP(hs:pP B L S):(S.lY.length:Int)<=L - 1:=by
 have h2:=hs.Ih;split at h2
 ·rename_i e;have:=hs.ow e;omega
 ·omega
theorem abD(h:mm B L mine k P S)(hs:pP B L S)(hL:32<=L/\L<=256)(WH:1+L<=B):(oP (zf B L I) mine P).2=S.sync.2/\mm B L mine (k+520) (oP (zf B L I) mine P).1 S.sync.1:=by
 have h0:=h.mono (show k<=k+520 by omega);have GU:=hs.CP;unfold oP LS.sync;rw[h.Kf,h.op,h.order];by_cases hd:S.dead=true
 ·rw[aU (jM.2 hd),aU hd];exact⟨by show S.nS=_;unfold LS.nS;rw[aU hd],h0⟩
 rw[aH (fun e=>hd (jM.1 e)),aH hd];by_cases ho:S.op=true
 ·rw[aU ho,aU ho];exact⟨rfl,h0⟩
 rw[aH ho,aH ho];by_cases hz:S.lY.length=0
 ·rw[aU hz,aU hz];exact⟨rfl,h0⟩
 rw[aH hz,aH hz];obtain⟨q1,q2⟩:=Nt (I:=I) h hs hL WH (by cases e:S.dead with
  | true=>exact absurd e hd
  | false=>rfl) (by cases e:S.op with
  | true=>exact absurd e ho
  | false=>rfl)
 exact⟨q1,q2.mono (by omega)⟩
theorem VJ(h:mm B L mine k P S)(hs:pP B L S)(hL:32<=L/\L<=256)(WH:1+L<=B)(r:Int):(YH (zf B L I) mine P r).2=(S.mB L r).2/\mm B L mine (k+520) (YH (zf B L I) mine P r).1 (S.mB L r).1:=by
 have h0:=h.mono (show k<=k+520 by omega);have GU:=hs.CP;unfold YH LS.mB;rw[h.Kf,h.op,h.order];by_cases hd:S.dead=true
 ·rw[aU (jM.2 hd),aU hd];exact⟨by show S.nS=_;unfold LS.nS;rw[aU hd],h0⟩
 rw[aH (fun e=>hd (jM.1 e)),aH hd];by_cases ho:S.op=true
 ·rw[aU ho,aU ho];exact⟨rfl,h0⟩
 rw[aH ho,aH ho];by_cases hr:r<1\/L - 1<r
 ·rw[aU (by exact hr),aU hr];exact⟨rfl,h0⟩
 rw[aH (by exact hr),aH hr];have go:∀ {P':mS} {S':LS},mm B L mine (k+520) P' S'->mm B L mine (k+520) { P' with open_:=true,room:=r,wrote:=some [] } { S' with op:=true,room:=r,wr:=[] }:=fun {P' S'} hh=>
  { hh with op:=rfl,room:=rfl,wr:=rfl,wro:=fun _=>rfl,live:=fun e=>{ (hh.live e) with } }
 by_cases hc:L - 1<(S.lY.length:Int)+r
 ·rw[aU (by exact hc),aU hc];obtain⟨q1,q2⟩:=Nt (I:=I) h hs hL WH (by cases e:S.dead with
   | true=>exact absurd e hd
   | false=>rfl) (by cases e:S.op with
   | true=>exact absurd e ho
   | false=>rfl)
  have q3:=q2.mono (show k+2*S.lY.length+7<=k+520 by omega);by_cases he:S.tq.2≠0
  ·rw[aU (by rw[q1];exact he),aU he];exact⟨q1,q3⟩
  ·rw[aH (by rw[q1];exact he),aH he];exact⟨rfl,go q3⟩
 ·rw[aH (by exact hc),aH hc];have:=go h0;rw[h.order]at this;exact⟨rfl,this⟩
theorem VH(h:mm B L mine k P S){n:Int}(hn:n<=9223372036854775807):mm B L mine k { P with s:=P.s.mG n } (S.mG n):=by
 have ob:=DS.N4 h.fit hn;unfold LS.mG;rw[<- h.stop];unfold DS.mG at ob ⊢;cases e:P.s.jt with
 | true=>
  rw[aU rfl,aU rfl];exact h
 | false=>
  rw[e,aH (by decide)]at ob;rw[aH (by decide),aH (by decide)];exact { h with stop:=rfl,nS:=(by have:=h.nS;rw[e]at this;exact this),jC:=rfl,fit:=ob,live:=fun hd=>⟨⟨(h.live hd).vw.nd,(h.live hd).vw.J4⟩,(h.live hd).j7,(h.live hd).held,(h.live hd).off,(h.live hd).view⟩ }
theorem VI(h:mm B L mine k P S)(hm:0<mine):mm B L mine k { P with s:=P.s.mI } S.mI:=by
 refine { h with stop:=rfl,jC:=rfl,fit:=DS.OV h.fit,nS:=⟨fun e=>(by cases e),fun e=>?_⟩,live:=fun e=>(by cases e) };have e:(0:Int)=mine:=e.2.2;omega
end
noncomputable def kj.lets(D:kj):kj × Bool:=if D.kF=true/\D.left=0 then({ D with dead:=true },false) else({ D with left:=if D.kF=true then D.left - 1 else D.left,count:=D.count+1 },true)
noncomputable def kj.write(D:kj)(a:Int)(b:jn):kj × Int:=
 if D.dead=true then(D,3) else if a<0\/D.n<=a then(D,2) else if D.lets.2=false then(D.lets.1,3) else
  ({ D.lets.1 with wait:=D.lets.1.wait++[(a,b)],ops:=D.lets.1.ops++[Mt a b] },0)
noncomputable def yt(a:Int)(b:jn):List (Int × jn)->List (Int × jn)->Bool->List (Int × jn)
 | m,[],d=>if d then m else m++[(a,b)]
 | m,x :: l,d=>
  let q:=if d=false/\a<=x.1 then(m++[(a,b)],true) else(m,d)
  yt a b (if x.1=a then q.1 else q.1++[x]) l q.2
noncomputable def pw(l:List (Int × jn))(a:Int)(b:jn):List (Int × jn):=yt a b [] l (decide (b=zB))
section
variable{H:Hp}{R:Value->Hp->Prop}{r:Nat}{D:kj}{O:Nat->Prop}
theorem RF(h:(Zd r D).at_ H O)(hl:D.kF=true -> -9223372036854775808<D.left/\D.left<=9223372036854775807)(hc : -9223372036854775808<=D.count/\D.count<9223372036854775807)
   (k:∀ H' O',kS O O' H H'->(Zd r D.lets.1).at_ H' O'->R (.bool D.lets.2) H'):Fc TP 175 #[zD r] H R:=by
 obtain⟨hv,wv,ov,mc⟩:=h
 have l0:Lo O H H [.box r (qB D hv wv ov) 130,.sl 149 1025 hv (D.held.map zy),.sl 149 1025 wv (D.wait.map zy),.sl 211 1026 ov D.ops]:=Lo.open mc
 have d3:(qB D hv wv ov)[3]?=some (.bool D.kF):=rfl
 have d4:(qB D hv wv ov)[4]?=some (zg D.left):=rfl
 have d7:∀ {x:Int},(qB { D with left:=x } hv wv ov)[7]?=some (zg D.count):=rfl
 refine fn175 ?_
 simp only[sh175,Ul,UA,Us,Ub,UI,Uj,Uv,U1,U0,zl,zc,aR,bH,zm,za]
 refine Zg.mk (fun t H'=>H'=H/\t.1=.bool (decide (D.kF=true/\D.left=0))) ?_ ?_
 · rintro⟨t,u⟩ H1 ⟨rfl,ht⟩
   simp only at ht
   subst ht
   rw[zb]
   refine⟨fun hb=>?_,fun hb=>?_⟩
   · have e:D.lets=({ D with dead:=true },false):=by unfold kj.lets;rw[aU hb]
     rw[e]at k
     refine l0.st (i:=0) (j:=5) (v:=.bool true) rfl (by exact(by decide:5<11)) rfl rfl fun H2 l2=>?_
     obtain⟨O',st,ha⟩:=Lo.close (l:=oz r { D with dead:=true } hv wv ov) (r:=[]) l2
     exact k H2 O' st ⟨_,_,_,ha⟩
   · have e:D.lets=({ D with left:=if D.kF=true then D.left - 1 else D.left,count:=D.count+1 },true):=by unfold kj.lets;rw[aH hb]
     rw[e]at k
     refine Zg.mk (fun _ H'=>Lo O H1 H' (oz r { D with left:=if D.kF=true then D.left - 1 else D.left } hv wv ov)) ?_ ?_
     · rintro t H2 l2
       have l2:Lo O H1 H2 [.box r (qB { D with left:=if D.kF=true then D.left - 1 else D.left } hv wv ov) 130,.sl 149 1025 hv (D.held.map zy),.sl 149 1025 wv (D.wait.map zy),.sl 211 1026 ov D.ops]:=l2
       rw[l2.ld (i:=0) rfl,d7,za,ze,za,zd (by omega) (by omega)]
       refine l2.st (i:=0) (j:=7) (v:=zg (D.count+1)) rfl (by exact(by decide:7<11)) rfl rfl fun H3 l3=>?_
       obtain⟨O',st,ha⟩:=Lo.close (l:=oz r { D with left:=if D.kF=true then D.left - 1 else D.left,count:=D.count+1 } hv wv ov) (r:=[]) l3
       exact k H3 O' st ⟨_,_,_,ha⟩
     · rw[l0.ld (i:=0) rfl,d3,za,Zj]
       refine⟨fun hf=>?_,fun hf=>?_⟩
       · have:=hl hf
         rw[l0.ld (i:=0) rfl,d4,za,zP,za,zd (by omega) (by omega)]
         refine l0.st (i:=0) (j:=4) (v:=zg (D.left - 1)) rfl (by exact(by decide:4<11)) rfl rfl fun H2 l2=>?_
         rw[aU hf];exact l2
       · rw[aH (by rw[hf];decide)];exact l0
 · rw[l0.ld (i:=0) rfl,d3,za,Zj]
   refine⟨fun hf=>?_,fun hf=>?_⟩
   · rw[l0.ld (i:=0) rfl,d4,za,zp,za]
     exact⟨rfl,by rw[ZO (show(D.left=0)↔(D.kF=true/\D.left=0) from⟨fun h=>⟨hf,h⟩,fun h=>h.2⟩)]⟩
   · exact⟨rfl,by rw[cH (fun h=>by rw[hf]at h;exact absurd h.1 (by decide))]⟩
theorem A4(h:(Zd r D).at_ H O)(hl:D.kF=true -> -9223372036854775808<D.left/\D.left<=9223372036854775807)(hc : -9223372036854775808<=D.count/\D.count<9223372036854775807)(hw:D.wait.length<100000000000)(ho:D.ops.length<100000000000){a:Int}{c:jn}(hB:jR c)
   (k:∀ H' O',kS O O' H H'->(Zd r (D.write a c).1).at_ H' O'->R (.int .i64 (D.write a c).2) H'):Fc TP 143 #[zD r,zg a,.agg c] H R:=by
 refine fn143 ?_
 simp only[sh143,Ul,UL,UA,Us,Ub,UI,Uf,Uw,Uu,Uj,Uv,U1,zm]
 refine(Lo.own h).jc fun b1 H1 _ l1=>?_
 have l1:Lo O H H1 [Zd r D,.box b1 c 65]:=l1
 rw[show ya TP 39 true .eql (zD r) (.pointer none) H1=some (.bool false) from Z6 pF,za,zh]
 simp only[zl,zc,aR,bH,za]
 obtain⟨O1,h1,pH⟩:=l1.call (i:=0) rfl
 obtain⟨hv,wv,ov,ht⟩:=vZ h1
 have stay:∀ {H'} {l':Lo O H H' [Zd r D,.box b1 c 65]} {e:Int},D.write a c=(D,e)->R (.int .i64 e) H':=fun {H' l' e} he=>by
   obtain⟨O',st,ha⟩:=Lo.mQ l'
   have:=k H' O' st
   rw[he]at this;exact this ha
 rw[zi ht,show(qB D hv wv ov)[5]?=some (.bool D.dead) from rfl,za,Zj]
 refine⟨fun hd=>stay (l':=l1) (by unfold kj.write;rw[aU hd]),fun hd=>?_⟩
 have hdn:¬ D.dead=true:=by rw[hd];decide
 refine Zg.mk (fun t H'=>H'=H1/\t.1=.bool (decide (a<0\/D.n<=a))) ?_ ?_
 · rintro⟨t,u⟩ H2 ⟨rfl,R2⟩
   simp only at R2
   subst R2
   rw[zb]
   refine⟨fun hb=>stay (l':=l1) (by unfold kj.write;rw[aH hdn,aU hb]),fun hb=>?_⟩
   have e0:D.write a c=if D.lets.2=false then(D.lets.1,3) else({ D.lets.1 with wait:=D.lets.1.wait++[(a,c)],ops:=D.lets.1.ops++[Mt a c] },0):=by unfold kj.write;rw[aH hdn,aH hb]
   have hlw:D.lets.1.wait=D.wait/\D.lets.1.ops=D.ops:=by unfold kj.lets;split<;>exact⟨rfl,rfl⟩
   refine RF h1 hl hc fun H3 O3 s3 h3=>?_
   have l3:=pH H3 _ O3 s3 h3
   rw[e0]at k
   obtain⟨DV,R5⟩:=hlw
   generalize D.lets=q at k h3 l3 DV R5 ⊢
   rw[zx,za]
   cases hq:q.2 with
   | false=>
     rw[hq]at k
     rw[jN,zA]
     obtain⟨O',st,ha⟩:=Lo.mQ l3
     exact k H3 O' st ha
   | true=>
     rw[hq]at k
     have k:∀ H' O',kS O O' H H'->(Zd r { q.1 with wait:=q.1.wait++[(a,c)],ops:=q.1.ops++[Mt a c] }).at_ H' O'->R (.int .i64 0) H':=k
     rw[iW,zh]
     have l3:=l3.pick [1,0] (by decide) (by simp)
     obtain⟨hv,wv,ov,mc⟩:∃ hv wv ov,Lo O H H3 [.box b1 c 65,.all (oz r q.1 hv wv ov)]:=by
       obtain⟨O5,h5,Hq⟩:=l3.call (i:=1) rfl
       obtain⟨hv,wv,ov,ha5⟩:=h5
       exact⟨hv,wv,ov,Hq H3 _ O5 (kS.refl _ _) ha5⟩
     have l4:=Lo.unpack (l:=[_]) mc
     have l4:Lo O H H3 [.box b1 c 65,.box r (qB q.1 hv wv ov) 130,.sl 149 1025 hv (q.1.held.map zy),.sl 149 1025 wv (q.1.wait.map zy),.sl 211 1026 ov q.1.ops]:=l4
     have f2:(qB q.1 hv wv ov)[2]?=some wv:=rfl
     have f6:∀ {wv:Value} {W:List (Int × jn)},(qB { q.1 with wait:=W } hv wv ov)[6]?=some ov:=rfl
     rw[l4.ld (i:=1) rfl,f2,za,l4.je (i:=0) (n:=1024) rfl hB.size,za,YE hB,za,zj]
     intro H4 e4
     refine(l4.ext e4).Jy ti pz (i:=3) (c:=zy (a,c)) rfl rfl (by omega) (by omega) (zZ (x:=(a,c)) hB) (Z8 (x:=(a,c)) hB) (by rw[bR,DV];omega) fun wv' H5 l5=>?_
     rw[zj]
     intro H6 e6
     have l6:=l5.ext e6
     have lT:=(l6.sv (i:=3) rfl).one
     refine l6.st (i:=1) (j:=2) (v:=wv') rfl (by exact(by decide:2<11)) lT.2 lT.1 fun H7 l7=>?_
     rw[zj]
     intro H8 e8
     have l8:Lo O H H8 [.box b1 c 65,.box r (qB { q.1 with wait:=q.1.wait++[(a,c)] } hv wv' ov) 130,.sl 149 1025 hv (q.1.held.map zy),.sl 149 1025 wv' (q.1.wait.map zy++[zy (a,c)]),.sl 211 1026 ov q.1.ops]:=l7.ext e8
     rw[l8.ld (i:=1) rfl,f6,za,l8.je (i:=0) (n:=1024) rfl hB.size,za,Jr hB,za,zj]
     intro H9 e9
     refine(l8.ext e9).Jy W0 Nc (i:=4) (c:=Mt a c) rfl rfl (by omega) (by omega) (B9 hB) (Ri hB) (by rw[R5];omega) fun Rc mX mn=>?_
     rw[zj]
     intro mN Br
     have lO:=mn.ext Br
     have IB:=(lO.sv (i:=4) rfl).one
     refine lO.st (i:=1) (j:=6) (v:=Rc) rfl (by exact(by decide:6<11)) IB.2 IB.1 fun tF oC=>?_
     rw[zj]
     intro sD se
     have oM:Lo O H sD (oz r { q.1 with wait:=q.1.wait++[(a,c)],ops:=q.1.ops++[Mt a c] } hv wv' Rc++[.box b1 c 65]):=by
       have vh:=(oC.ext se).pick [1,2,3,4,0] (by decide) (by simp)
       unfold oz
       simp only[cU]
       exact vh
     obtain⟨O',st,ha⟩:=Lo.close oM
     exact k sD O' st ⟨_,_,_,ha⟩
 · rw[zk,za,zb]
   refine⟨fun h0=>⟨rfl,by rw[gU (.inl h0)]⟩,fun h0=>?_⟩
   rw[zi ht,show(qB D hv wv ov)[0]?=some (zg D.n) from rfl,za,zN,za]
   exact⟨rfl,by rw[ZO (show(D.n<=a)↔(a<0\/D.n<=a) from⟨fun h=>.inr h,fun h=>h.resolve_left h0⟩)]⟩
end
theorem vg(a:Int)(b:jn):∀ (l m:List (Int × jn)) (d:Bool),(yt a b m l d).length<=m.length+l.length+(if d=true then 0 else 1)
 | [],m,d=>by
  unfold yt;cases d<;>simp
 | x :: l,m,d=>by
  unfold yt;by_cases h:d=false/\a<=x.1
  ·simp only[h,and_self,jO];have:=vg a b l (if x.1=a then m++[(a,b)] else m++[(a,b)]++[x]) true;rw[aU rfl]at this;refine kg this ?_;split<;>simp<;>omega
  ·simp only[aH h];have:=vg a b l (if x.1=a then m else m++[x]) d;refine kg this ?_;split<;>simp<;>omega
theorem EI(l:List (Int × jn))(a:Int)(b:jn):(pw l a b).length<=l.length+1:=by
 have:=vg a b l [] (decide (b=zB));unfold pw;refine kg this ?_;split<;>simp
theorem xH{a:Int}{b:jn}(hb:jR b):∀ (l m:List (Int × jn)) (d:Bool),(∀ x∈l,jR x.2)->(∀ x∈m,jR x.2)->∀ x∈yt a b m l d,jR x.2
 | [],m,d,_,hm=>by
  unfold yt;split
  ·exact hm
  ·intro x hx;rcases fH.1 hx with h | h
   ·exact hm x h
   ·rw[eU.1 h];exact hb
 | y :: l,m,d,hl,hm=>by
  have EN:∀ x∈m++[(a,b)],jR x.2:=fun x hx=>by
   rcases fH.1 hx with h | h
   ·exact hm x h
   ·rw[eU.1 h];exact hb
  have app:∀ {q:List (Int × jn)},(∀ x∈q,jR x.2)->∀ x∈(if y.1=a then q else q++[y]),jR x.2:=fun {q} hq x hx=>by
   split at hx
   ·exact hq x hx
   ·rcases fH.1 hx with h | h
    ·exact hq x h
    ·rw[eU.1 h];exact hl y eH
  unfold yt;by_cases h:d=false/\a<=y.1
  ·simp only[h,and_self,jO];exact xH hb l _ _ (fun x hx=>hl x (dH _ hx)) (app EN)
  ·simp only[aH h];exact xH hb l _ _ (fun x hx=>hl x (dH _ hx)) (app hm)
theorem Ip{l:List (Int × jn)}{a:Int}{b:jn}(hl:∀ x∈l,jR x.2)(hb:jR b):∀ x∈pw l a b,jR x.2:=xH hb l [] _ hl fun x hx=>by cases hx
section
variable{H:Hp}{R:Value->Hp->Prop}
theorem acb{hv:Value}{ls:List (Int × jn)}(hs:Sr 1025 H hv (ls.map zy))(sY:∀ x∈ls,jR x.2)(hlen:ls.length<10000000000){a:Int}{c:jn}(hB:jR c)
   (k:∀ H' v,Lx H H' [.sl 149 1025 v ((pw ls a c).map zy)]->R v H'):Fc TP 114 #[hv,zg a,.agg c] H R:=by
 refine fn114 ?_
 simp only[sh114,Ul,UL,UA,Ub,Uf,Ui,Ug,Uu,Uj,Uo,Uq,Uv,U1,U0,zm]
 refine(Lo.start _ H:Lx H H []).jc fun b1 H1 _ l1=>?_
 have l1:Lx H H1 [.box b1 c 65]:=l1
 rw[l1.je (i:=0) (n:=1024) rfl hB.size,za]
 refine GI hB fun H2 e2=>?_
 have l2:=(l1.ext e2).nt 149 1025
 refine zF.mk (fun t H'=>∃ (pre post m:List (Int × jn)) (d:Bool) (mv:Value),ls=pre++post/\t=(mv,.bool d,zg (pre.length:Nat),())/\yt a c m post d=pw ls a c/\m.length<=2*pre.length/\Lx H H' [.box b1 c 65,.sl 149 1025 mv (m.map zy)])
   (fun t _=>mi t.2.2.1 fun i=>(ls.length - i).toNat) ⟨[],ls,[],_,.slice none 0 0,rfl,rfl,rfl,mT _,l2⟩ ?_
 clear l2
 rintro _ H3 ⟨pre,post,m,d,mv,mO,rfl,sI,hml,l3⟩
 have hl:ls.length=pre.length+post.length:=by rw[mO,cR]
 have sr:=hs.ext l3.iZ
 rw[sr.j9 yw,za,bR,zk,za,zb]
 refine⟨fun kc=>?_,fun lA=>?_⟩
 · match post,mO,hl,sI with
   | [],_,hl,_=>simp at hl;omega
   | x :: post,mO,hl,sI=>
     rw[gR]at hl
     have hx:jR x.2:=sY x (by rw[mO];simp)
     have wG:(ls.map zy)[pre.length]?=some (zy x):=by rw[mO,cU,jB (by simp)];simp
     obtain⟨q,hq⟩:∃ q:List (Int × jn) × Bool,q=if d=false/\a<=x.1 then(m++[(a,c)],true) else(m,d):=⟨_,rfl⟩
     have acV:yt a c m (x :: post) d=yt a c (if x.1=a then q.1 else q.1++[x]) post q.2:=by rw[hq];rfl
     rw[acV]at sI
     have hql:q.1.length<=m.length+1:=by
       rw[hq]
       split<;>simp
     refine Zg.mk (fun t H'=>∃ mv':Value,t=(mv',.bool q.2,())/\Lx H H' [.box b1 c 65,.sl 149 1025 mv' (q.1.map zy)]) ?_ ?_
     · rintro _ H4 ⟨mv',rfl,l4⟩
       obtain⟨bb,oo,ha,r9,kE⟩:=(hs.ext l4.iZ).el wG
       have c0:=r9 0 (by omega)
       rw[bH]at c0
       have r0:=kE 0 1025 (by omega)
       rw[bH,show(zy x).extract 0 (0+1025)=zy x from by
         have:=zZ hx
         apply jm
         intro j
         rw[ji]
         by_cases hj:j<1025
         · rw[aU (by omega),aR]
         · rw[aH (by omega),iQ (by omega)]]at r0
       rw[show zG (some (none,1025)) hv (zg (pre.length:Nat))=_ from ha .i64,za,zc,za,bH,c0,yg,za,zn,za,zb]
       refine⟨fun jZ=>?_,fun heq=>?_⟩
       · rw[za,r0,za]
         refine l4.qY ti pz (i:=1) (c:=zy x) rfl rfl (by omega) (by omega) (zZ hx) (Z8 hx) (by rw[bR];omega) fun mv2 H5 l5=>?_
         rw[ze,za,zE,zr (by omega)]
         rw[aH jZ]at sI
         refine⟨⟨pre++[x],post,q.1++[x],q.2,mv2,by rw[mO];simp,by rw[cR];rfl,sI,by rw[cR,cR];simp;omega,by rw[cU];exact l5⟩,by simp only[zu];exact yR (by omega)⟩
       · rw[ze,za,zE,zr (by omega)]
         rw[aU (jh.1 heq)]at sI
         refine⟨⟨pre++[x],post,q.1,q.2,mv',by rw[mO];simp,by rw[cR];rfl,sI,by rw[cR];simp;omega,l4⟩,by simp only[zu];exact yR (by omega)⟩
     · refine Zg.mk (fun t H'=>H'=H3/\t.1=.bool (decide (d=false/\a<=x.1))) ?_ ?_
       · rintro⟨t,u⟩ H4 ⟨rfl,ht⟩
         simp only at ht
         subst ht
         rw[zb]
         refine⟨fun hb=>?_,fun hb=>?_⟩
         · rw[aU hb]at hq
           rw[l3.je (i:=0) (n:=1024) rfl hB.size,za,YE hB,za]
           refine l3.qY ti pz (i:=1) (c:=zy (a,c)) rfl rfl (by omega) (by omega) (zZ (x:=(a,c)) hB) (Z8 (x:=(a,c)) hB) (by rw[bR];omega) fun mv2 H5 l5=>?_
           refine⟨mv2,by rw[hq];rfl,?_⟩
           rw[hq]
           show Lx H H5 [_,.sl _ 1025 mv2 ((m++[(a,c)]).map zy)]
           rw[cU];exact l5
         · rw[aH hb]at hq
           exact⟨mv,by rw[hq];rfl,by rw[hq];exact l3⟩
       · rw[zx,za]
         cases d with
         | true=>
           rw[iW,zh]
           exact⟨rfl,by rw[cH (fun h=>absurd h.1 (by decide))]⟩
         | false=>
           obtain⟨bb,oo,ha,r9,kE⟩:=sr.el wG
           have c0:=r9 0 (by omega)
           rw[bH]at c0
           rw[jN,zA,show zG (some (none,1025)) hv (zg (pre.length:Nat))=_ from ha .i64,za,zc,za,bH,c0,yg,za,zN,za]
           exact⟨rfl,by rw[ZO (show(a<=x.1)↔(false=false/\a<=x.1) from⟨fun h=>⟨rfl,h⟩,fun h=>h.2⟩)]⟩
 · have:post=[]:=jz (by omega)
   subst this
   have sI:(if d then m else m++[(a,c)])=pw ls a c:=sI
   rw[zx,za]
   cases d with
   | true=>
     rw[iW,zh]
     rw[aU rfl]at sI
     rw[sI]at l3
     exact k H3 mv (l3.pick [1] (by decide) (by simp))
   | false=>
     rw[aH (by decide)]at sI
     rw[jN,zA,l3.je (i:=0) (n:=1024) rfl hB.size,za,YE hB,za]
     refine l3.qY ti pz (i:=1) (c:=zy (a,c)) rfl rfl (by omega) (by omega) (zZ (x:=(a,c)) hB) (Z8 (x:=(a,c)) hB) (by rw[bR];omega) fun mv2 H5 l5=>?_
     have l6:=l5.pick [1] (by decide) (by simp)
     refine k H5 mv2 ?_
     rw[<- sI,cU];exact l6
end
noncomputable def yX(held wait:List (Int × jn)):List (Int × jn):=wait.foldl (fun g x=>pw g x.1 x.2) held
noncomputable def kj.ja(D:kj):kj × Int:=
 if D.dead=true then(D,3) else if D.lets.2=false then(D.lets.1,3) else
  ({ D.lets.1 with held:=yX D.lets.1.held D.lets.1.wait,wait:=[],ops:=D.lets.1.ops++[NW] },0)
def kj.jC(D:kj)(n:Int):kj:=if D.dead=true then D else { D with kF:=decide (0<=n),left:=n }
def kj.mI(D:kj):kj:={ D with wait:=[],ops:=[],dead:=false,kF:=false,owner:=0 }
section
variable{H:Hp}{R:Value->Hp->Prop}{r:Nat}{D:kj}{O:Nat->Prop}
theorem uj(h:(Zd r D).at_ H O)(akT:∀ x∈D.held,jR x.2)(aj8:∀ x∈D.wait,jR x.2)(agZ:D.held.length<=2000000000)(hl:D.kF=true -> -9223372036854775808<D.left/\D.left<=9223372036854775807)(hc : -9223372036854775808<=D.count/\D.count<9223372036854775807)(hw:D.wait.length<1000000000)(ho:D.ops.length<100000000000)
   (k:∀ H' O',kS O O' H H'->(Zd r D.ja.1).at_ H' O'->R (.int .i64 D.ja.2) H'):Fc TP 145 #[zD r] H R:=by
 obtain⟨hv,wv,ov,ht⟩:=vZ h
 refine fn145 ?_
 simp only[sh145,Ul,UL,UA,Us,Ub,UI,Uf,Ui,Ug,Uu,Uj,Uo,Uq,Uv,U1,zm,zl,zc,aR,bH,za]
 rw[show ya TP 39 true .eql (zD r) (.pointer none) H=some (.bool false) from Z6 pF,za,zh]
 have hlw:D.lets.1.wait=D.wait/\D.lets.1.ops=D.ops/\D.lets.1.held=D.held:=by unfold kj.lets;split<;>exact⟨rfl,rfl,rfl⟩
 obtain⟨DV,R5,hh1⟩:=hlw
 refine Zg.mk (fun t H'=>(t.1=.bool true/\∃ O',kS O O' H H'/\(Zd r D.ja.1).at_ H' O'/\D.ja.2=3)\/(t.1=.bool false/\D.dead=false/\D.lets.2=true/\∃ O',kS O O' H H'/\(Zd r D.lets.1).at_ H' O')) ?_ ?_
 rotate_left
 · rw[zi ht,show(qB D hv wv ov)[5]?=some (.bool D.dead) from rfl,za,Zj]
   refine⟨fun hd=>.inl ⟨rfl,O,kS.refl _ _,?_,?_⟩,fun hd=>?_⟩
   · unfold kj.ja;rw[aU hd];exact h
   · unfold kj.ja;rw[aU hd]
   have hdn:¬ D.dead=true:=by rw[hd];decide
   refine RF h hl hc fun H1 O1 s1 h1=>?_
   rw[zx,za]
   cases hq:D.lets.2 with
   | false=>
     refine .inl ⟨rfl,O1,s1,?_,?_⟩
     · unfold kj.ja;rw[aH hdn,aU hq];exact h1
     · unfold kj.ja;rw[aH hdn,aU hq]
   | true=>exact .inr ⟨rfl,hd,rfl,O1,s1,h1⟩
 rintro⟨t,u⟩ H1 N9
 simp only at N9
 rcases N9 with ⟨rfl,O',st,ha,e3⟩ | ⟨rfl,hd,hq,O1,s1,h1⟩
 · rw[zA]
   have:=k H1 O' st ha
   rw[e3]at this;exact this
 have eB:D.ja=({ D.lets.1 with held:=yX D.lets.1.held D.lets.1.wait,wait:=[],ops:=D.lets.1.ops++[NW] },0):=by
   unfold kj.ja
   rw[aH (by rw[hd];decide),aH (by rw[hq];decide)]
 rw[eB]at k
 have sY:∀ x∈D.lets.1.held,jR x.2:=by rw[hh1];exact akT
 have wis:∀ x∈D.lets.1.wait,jR x.2:=by rw[DV];exact aj8
 have hhl:D.lets.1.held.length<=2000000000:=by rw[hh1];exact agZ
 have hwl:D.lets.1.wait.length<1000000000:=by rw[DV];exact hw
 have X3:D.lets.1.ops.length<100000000000:=by rw[R5];exact ho
 have k:∀ H' O',kS O1 O' H1 H'->(Zd r { D.lets.1 with held:=yX D.lets.1.held D.lets.1.wait,wait:=[],ops:=D.lets.1.ops++[NW] }).at_ H' O'->R (.int .i64 0) H':=fun H' O' st ha=>k H' O' (s1.trans st) ha
 clear eB DV R5 hh1 hl hc
 generalize D.lets.1=q at k h1 sY wis hhl hwl X3
 rw[zh]
 obtain⟨hv,wv,ov,mc⟩:=h1
 have l1:Lo O1 H1 H1 [.box r (qB q hv wv ov) 130,.sl 149 1025 hv (q.held.map zy),.sl 149 1025 wv (q.wait.map zy),.sl 211 1026 ov q.ops]:=Lo.open mc
 refine zF.mk (fun t H'=>∃ (pre post g:List (Int × jn)) (xL:Value),q.wait=pre++post/\t=(zg (pre.length:Nat),())/\yX g post=yX q.held q.wait/\(∀ x∈g,jR x.2)/\g.length<=2000000000+pre.length/\Lo O1 H1 H' [.box r (qB { q with held:=g } xL wv ov) 130,.sl 149 1025 xL (g.map zy),.sl 149 1025 wv (q.wait.map zy),.sl 211 1026 ov q.ops])
   (fun t _=>mi t.1 fun i=>(q.wait.length - i).toNat) ⟨[],q.wait,q.held,hv,rfl,rfl,rfl,sY,by simpa using hhl,l1⟩ ?_
 clear l1
 rintro _ H2 ⟨pre,post,g,xL,mO,rfl,Wx,SF,GU,l2⟩
 have hl:q.wait.length=pre.length+post.length:=by rw[mO,cR]
 have f1:(qB { q with held:=g } xL wv ov)[1]?=some xL:=rfl
 have f2:(qB { q with held:=g } xL wv ov)[2]?=some wv:=rfl
 have f6:(qB { q with held:=g,wait:=[] } xL (.slice none 0 0) ov)[6]?=some ov:=rfl
 rw[l2.ld (i:=0) rfl,f2,za,(l2.sv (i:=2) rfl).sr.j9 yw,za,bR,zk,za,zb]
 refine⟨fun kc=>?_,fun lA=>?_⟩
 · match post,mO,hl,Wx with
   | [],_,hl,_=>simp at hl;omega
   | x :: post,mO,hl,Wx=>
     rw[gR]at hl
     have hx:jR x.2:=wis x (by rw[mO];simp)
     have wG:(q.wait.map zy)[pre.length]?=some (zy x):=by rw[mO,cU,jB (by simp)];simp
     obtain⟨bb,oo,ha,r9,kE⟩:=(l2.sv (i:=2) rfl).sr.el wG
     have c0:=r9 0 (by omega)
     rw[bH]at c0
     have r1:=kE 1 1024 (by omega)
     rw[Ym hx]at r1
     rw[l2.ld (i:=0) rfl,f1,za,za,show zG (some (none,1025)) wv (zg (pre.length:Nat))=_ from ha .i64,za,zc,za,bH,c0,yg,za,za,show zG (some (none,1025)) wv (zg (pre.length:Nat))=_ from ha .i64,za,zc,za,r1,za]
     refine acb (l2.sv (i:=1) rfl).sr SF (by omega) hx fun H3 v3 l3=>?_
     have l4:=l2.join l3
     have lT:=(l3.sv (i:=0) rfl).one
     refine l4.st (i:=0) (j:=1) (v:=v3) rfl (by exact(by decide:1<11)) lT.2 lT.1 fun H4 l5=>?_
     rw[ze,za,zE,zr (by omega)]
     have hll:=EI g x.1 x.2
     refine⟨⟨pre++[x],post,pw g x.1 x.2,v3,by rw[mO];simp,by rw[cR];rfl,Wx,Ip SF hx,by rw[cR];simp;omega,l5.pick [0,4,2,3] (by decide) (by simp)⟩,by simp only[zu];exact yR (by omega)⟩
 · have:post=[]:=jz (by omega)
   subst this
   have Wx:g=yX q.held q.wait:=Wx
   refine l2.st (i:=0) (j:=2) (v:=.slice none 0 0) rfl (by exact(by decide:2<11)) rfl rfl fun H3 l3=>?_
   have l4:=l3.nt 149 1025
   have l4:Lo O1 H1 H3 [.box r (qB { q with held:=g,wait:=[] } xL (.slice none 0 0) ov) 130,.sl 149 1025 xL (g.map zy),.sl 149 1025 (.slice none 0 0) [],.sl 211 1026 ov q.ops]:=l4.pick [0,1,4,3] (by decide) (by simp)
   rw[l4.ld (i:=0) rfl,f6,za,Fj,za]
   refine l4.qY W0 Nc (i:=3) (c:=NW) rfl rfl (by omega) (by omega) Ca Rj (by omega) fun Rc H5 l5=>?_
   have IB:=(l5.sv (i:=3) rfl).one
   refine l5.st (i:=0) (j:=6) (v:=Rc) rfl (by exact(by decide:6<11)) IB.2 IB.1 fun H6 l6=>?_
   rw[<- Wx]at k
   obtain⟨O',st,ha⟩:=Lo.close (l:=oz r { q with held:=g,wait:=[],ops:=q.ops++[NW] } xL (.slice none 0 0) Rc) (r:=[]) l6
   exact k H6 O' st ⟨_,_,_,ha⟩
theorem adt(h:(Zd r D).at_ H O){n:Int}(k:∀ H' O',kS O O' H H'->(Zd r (D.jC n)).at_ H' O'->R (.tuple #[]) H'):Fc TP 64 #[zD r,zg n] H R:=by
 obtain⟨hv,wv,ov,mc⟩:=h;have l0:Lo O H H [.box r (qB D hv wv ov) 130,.sl 149 1025 hv (D.held.map zy),.sl 149 1025 wv (D.wait.map zy),.sl 211 1026 ov D.ops]:=Lo.open mc;refine fn64 ?_;simp only[sh64,Ul,UA,Us,Ub,UI,Uj,Uv,U1,zm,zl,zc,aR,bH,za];refine Zg.mk (fun t H'=>t.1=.bool D.dead/\H'=H) ?_ ?_
 ·rintro⟨t,u⟩ H1 ⟨ht,rfl⟩;simp only at ht;subst ht;rw[Zj];refine⟨fun hd=>?_,fun hd=>?_⟩
  ·have e:D.jC n=D:=by unfold kj.jC;rw[aU hd]
   rw[e]at k;obtain⟨O',st,ha⟩:=Lo.close (l:=oz r D hv wv ov) (r:=[]) l0;exact k H1 O' st ⟨_,_,_,ha⟩
  ·have e:D.jC n={ D with kF:=decide (0<=n),left:=n }:=by unfold kj.jC;rw[aH (by rw[hd];decide)]
   rw[e]at k;rw[zN,za];refine l0.st (i:=0) (j:=3) (v:=.bool (decide (0<=n))) rfl (by exact(by decide:3<11)) rfl rfl fun H2 l2=>?_;refine l2.st (i:=0) (j:=4) (v:=zg n) rfl (by exact(by decide:4<11)) rfl rfl fun H3 l3=>?_;obtain⟨O',st,ha⟩:=Lo.close (l:=oz r { D with kF:=decide (0<=n),left:=n } hv wv ov) (r:=[]) l3;exact k H3 O' st ⟨_,_,_,ha⟩
 ·rw[show ya TP 39 true .eql (zD r) (.pointer none) H=some (.bool false) from Z6 pF,za,zh,l0.ld (i:=0) rfl,show(qB D hv wv ov)[5]?=some (.bool D.dead) from rfl,za];exact⟨rfl,rfl⟩
end
section
variable{H:Hp}{R:Value->Hp->Prop}{r:Nat}{D:kj}{O:Nat->Prop}
theorem Ij:j9 TP 136 (.slice none 0 0)=some (.int .i64 0):=by kernel_rfl
theorem Xc(h:(Zd r D).at_ H O)(k:∀ H' O',kS O O' H H'->(Zd r D.mI).at_ H' O'->R (.int .i64 0) H'):Fc TP 66 #[zD r,.slice none 0 0] H R:=by
 obtain⟨hv,wv,ov,mc⟩:=h;have l0:Lo O H H [.box r (qB D hv wv ov) 130,.sl 149 1025 hv (D.held.map zy),.sl 149 1025 wv (D.wait.map zy),.sl 211 1026 ov D.ops]:=Lo.open mc;refine fn66 ?_;simp only[sh66,Ul,UL,UA,Us,Ub,UI,Uf,Ui,Ug,Uj,Uo,Uv,U0,zm,zl,zc,aR,bH,za];rw[show ya TP 39 true .eql (zD r) (.pointer none) H=some (.bool false) from Z6 pF,za,zh];refine zF.mk (fun t H'=>H'=H/\t=(zg 0,())) (fun _ _=>0) ⟨rfl,rfl⟩ ?_;rintro _ H1 ⟨rfl,rfl⟩;refine Zg.mk (fun t H'=>t.1=.bool false/\H'=H1) ?_ ?_
 ·rintro⟨t,u⟩ H2 ⟨ht,rfl⟩;simp only at ht;subst ht;rw[zh];refine l0.st (i:=0) (j:=2) (v:=.slice none 0 0) rfl (by exact(by decide:2<11)) rfl rfl fun H3 l3=>?_;refine l3.st (i:=0) (j:=6) (v:=.slice none 0 0) rfl (by exact(by decide:6<11)) rfl rfl fun H4 l4=>?_;refine l4.st (i:=0) (j:=5) (v:=.bool false) rfl (by exact(by decide:5<11)) rfl rfl fun H5 l5=>?_;refine l5.st (i:=0) (j:=3) (v:=.bool false) rfl (by exact(by decide:3<11)) rfl rfl fun H6 l6=>?_;refine l6.st (i:=0) (j:=10) (v:=zg 0) rfl (by exact(by decide:10<11)) rfl rfl fun H7 l7=>?_;have l8:=(l7.nt 149 1025).nt 211 1026;have l9:=l8.pick [0,1,4,5] (by decide) (by simp);obtain⟨O',st,ha⟩:=Lo.close (l:=oz r D.mI hv (.slice none 0 0) (.slice none 0 0)) (r:=[]) l9;exact k H7 O' st ⟨_,_,_,ha⟩
 ·rw[l0.ld (i:=0) rfl,show(qB D hv wv ov)[2]?=some wv from rfl,za,(l0.sv (i:=2) rfl).sr.j9 yw,za,zk,za,zb];refine⟨fun _=>?_,fun _=>⟨rfl,rfl⟩⟩;rw[Ij,za,zk,za,cH (by omega)];exact⟨rfl,rfl⟩
theorem XO{c:jn}(hc:jR c){a v:Nat}(ha:a+4<=1024)(hv:v<4294967296)(k:∀ H',Ext H H'->R (.agg (nW c a 4 v)) H'):Fc TP 176 #[.agg c,zg a,.int .u32 v] H R:=by
 have hs:jR (nW c a 4 v):=(Y9 _ _ _ hc.n).b;refine fn176 ?_;simp only[sh176,UL,Us,Uz,Uf,Uv,ZI,za];refine(Lo.start _ H:Lx H H []).jc fun b1 H1 _ l1=>?_;refine l1.jc fun b2 H2 _ l2=>?_;have l2:Lx H H2 [.box b1 c 65,.box b2 zB 65]:=l2;rw[l2.je (i:=0) (n:=1024) rfl hc.size,za];refine fn194 ?_;simp only[sh194,UL,Us,Ub,Uz,Uf,Uk,Uu,Uj,Uo,Uv,U1,ZI,za,zm];refine l2.jc fun b3 H3 _ l3=>?_;refine l3.jc fun b4 H4 _ l4=>?_;have l4:Lx H H4 [.box b1 c 65,.box b2 zB 65,.box b3 c 65,.box b4 zB 65]:=l4;refine Zg.mk (fun t H'=>t.1=.bool false/\H'=H4) ?_ ?_
 rotate_left
 ·refine Bj ?_;rw[gU (by omega),zx,za,iW,zh,ze,za,zd (by omega) (by omega),zP,za,zd (by omega) (by omega)];refine Bj ?_;rw[gU (by omega),zx,za,iW];exact⟨rfl,rfl⟩
 rintro⟨t,u⟩ H5 ⟨ht,rfl⟩;simp only at ht;subst ht;rw[zh];refine zF.mk (fun t H'=>∃ (j:Nat) (cj:jn),j<=4/\t=(.int .u32 ((v / 256 ^ j:Nat):Int),zg j,())/\jR cj/\nW cj (a+j) (4 - j) (v / 256 ^ j)=nW c a 4 v/\Lx H H' [.box b1 c 65,.box b2 zB 65,.box b3 cj 65,.box b4 zB 65])
  (fun t _=>mi t.2.1 fun j=>(4 - j).toNat) ⟨0,c,by omega,by rw[ad6,Nat.div_one];rfl,hc,by rw[ad6,Nat.div_one];rfl,l4⟩ ?_
 rintro _ H6 ⟨j,cj,hj,rfl,hcj,he,l6⟩;rw[zk,za,zb];refine⟨fun kc=>?_,fun lA=>?_⟩
 ·have hvj:v / 256 ^ j<4294967296:=Nat.lt_of_le_of_lt (Nat.div_le_self _ _) hv;rw[ze,za,Px,zr (by omega),z7 (by decide),za,Zb (Int.natCast_nonneg _),show((v / 256 ^ j:Nat):Int) % 256=((v / 256 ^ j % 256:Nat):Int) by omega,zz,za,u8w,Nat.mod_mod,zC (by omega),za,aR,iX];refine l6.st (i:=2) (j:=a+j) (v:=.int .u8 ((v / 256 ^ j % 256:Nat):Int)) rfl (by rw[hcj.size];omega) rfl rfl fun H7 l7=>?_;rw[Zp (by decide),za,Zx (Int.natCast_nonneg _),show((v / 256 ^ j:Nat):Int) / 256=((v / 256 ^ j / 256:Nat):Int) by omega,ox (by omega),ze,za,zE,zr (by omega)];refine⟨⟨j+1,_,by omega,by rw[sE,<- o0];rfl,hcj.set (a+j) (m:=v / 256 ^ j % 256) (kV _ (by omega)),?_,l7⟩,by simp only[zu];omega⟩;rw[<- he,show 4 - j=(4 - (j+1))+1 by omega,sE,<- o0];rfl
 ·have ej:j=4:=by omega
  subst ej;have he:cj=nW c a 4 v:=he;subst he;rw[l6.je (i:=2) (n:=1024) rfl hs.size,za];refine l6.ret (i:=3) rfl zw hs.size hs.ok fun H7 l7=>?_;refine l7.ret (i:=1) rfl zw hs.size hs.ok fun H8 l8=>?_;exact k H8 l8.iZ
end
section
variable{H:Hp}{R:Value->Hp->Prop}
theorem afX{x:kh}(hL:1<=x.L/\x.L<=256){ov:Value}{ts:List Int}(hs:Sr 1 H ov (ts.map nI))(hlen:ts.length<281474976710656)
   (k:∀ H',Ext H H'->R (.bool (decide (mF x ts))) H'):Fc TP 173 #[.agg x.cells,.agg #[ov]] H R:=by
 have c1:x.cells[1]?=some (zg x.L):=rfl
 have c0:x.cells[0]?=some (zg x.B):=rfl
 have g0:(#[ov]:Array Value)[0]?=some ov:=rfl
 have kf:∀ {H'},Ext H H'->¬ mF x ts->R (.bool false) H':=fun {H'} e hn=>by
   have:=k H' e
   rw[cH hn]at this;exact this
 refine fn173 ?_
 simp only[sh173,Ul,UA,Ub,Ui,Ug,Uj,Uo,Uv,U1,U0,zm]
 refine(Lo.start _ H:Lx H H []).jc fun b1 H1 _ l1=>?_
 refine l1.jc fun b2 H2 _ l2=>?_
 have l2:Lx H H2 [.box b1 x.cells 62,.box b2 #[ov] 151]:=l2
 have sr:=hs.ext l2.iZ
 simp only[zc,aR,bH,za]
 rw[l2.ld (i:=1) rfl,g0,za,sr.j9 Z0,za,bR,l2.ld (i:=0) rfl,c1,za,zP,za,zd (by omega) (by omega),zJ,za,zb]
 refine⟨fun KO=>kf l2.iZ fun h=>by have:=h.1;omega,fun mL=>?_⟩
 refine zF.mk (fun t H'=>H'=H2/\∃ (pre post:List Int),ts=pre++post/\t=(zg (pre.length:Nat),())/\pre.Nodup/\(∀ t∈pre,1+x.L<=t/\t<x.B))
   (fun t _=>mi t.1 fun i=>(ts.length - i).toNat) ⟨rfl,[],ts,rfl,rfl,rV,fun t ht=>(by cases ht)⟩ ?_
 rintro _ H3 ⟨rfl,pre,post,mO,rfl,lj,SC⟩
 have hl:ts.length=pre.length+post.length:=by rw[mO,cR]
 rw[l2.ld (i:=1) rfl,g0,za,sr.j9 Z0,za,bR,zk,za,zb]
 refine⟨fun kc=>?_,fun lA=>?_⟩
 · match post,mO,hl with
   | [],_,hl=>simp at hl;omega
   | t :: post,mO,hl=>
     rw[gR]at hl
     have wG:(ts.map nI)[pre.length]?=some (nI t):=by rw[mO,cU,jB (by simp)];simp
     obtain⟨bb,oo,ha,hv⟩:=sr.cell wG (j:=0) (by omega)
     rw[bH]at hv
     rw[za,show zG (some (none,1)) ov (zg (pre.length:Nat))=_ from ha .i64,za,hv,show(nI t)[0]?=some (zg t) from rfl,za]
     refine Zg.mk (fun t' H'=>t'.1=.bool (decide (¬ (1+x.L<=t/\t<x.B)))/\H'=H3) ?_ ?_
     rotate_left
     · rw[l2.ld (i:=0) rfl,c1,za,ze,za,zd (by omega) (by omega),zk,za,zb]
       refine⟨fun h1=>⟨?_,rfl⟩,fun h1=>?_⟩
       · rw[gU (show ¬ (1+x.L<=t/\t<x.B) from fun h=>by omega)]
       · rw[l2.ld (i:=0) rfl,c0,za,zN,za]
         exact⟨by rw[ZO (show(x.B<=t)↔¬ (1+x.L<=t/\t<x.B) from⟨fun h hh=>by omega,fun h=>by omega⟩)],rfl⟩
     rintro⟨tt,u⟩ H4 ⟨ht,rfl⟩
     simp only at ht
     subst ht
     rw[zb]
     refine⟨fun hb=>kf l2.iZ fun h=>hb (h.2.2 t (by rw[mO];simp)),fun hb=>?_⟩
     have hgd:=jh.1 hb
     refine zF.mk (fun t' H'=>H'=H4/\∃ j:Nat,j<=pre.length/\t'=(zg j,())/\t ∉ pre.take j) (fun t' _=>mi t'.1 fun i=>(pre.length - i).toNat) ⟨rfl,0,by omega,rfl,by simp⟩ ?_
     rintro _ H5 ⟨rfl,j,hj,rfl,kG⟩
     rw[zk,za,zb]
     refine⟨fun DC=>?_,fun hjg=>?_⟩
     · have hpj:pre[j]?=some pre[j]:=bU (by omega)
       have IE:(ts.map nI)[j]?=some (nI pre[j]):=by rw[mO,cU,ko (by rw[bR];omega),dR,hpj];rfl
       obtain⟨bb2,oo2,uM,R1⟩:=sr.cell IE (j:=0) (by omega)
       rw[bH]at R1
       have mR:pre.take (j+1)=pre.take j++[pre[j]]:=(List.take_append_getElem (by omega)).symm
       have kL:pre[j]∈pre:=ju _
       generalize pre[j]=y at hpj IE R1 mR kL
       rw[l2.ld (i:=1) rfl,g0,za,show zG (some (none,1)) ov (zg j)=_ from uM .i64,za,R1,show(nI y)[0]?=some (zg y) from rfl,za,zp,za,zb]
       refine⟨fun he=>kf l2.iZ fun h=>?_,fun jZ=>?_⟩
       · have h2:=h.2.1
         rw[mO,jJ]at h2
         exact h2.2.2 y kL t eH he
       · rw[ze,za,zE,zr (by omega)]
         refine⟨⟨rfl,j+1,by omega,rfl,fun o8=>?_⟩,by simp only[zu];exact yR (by omega)⟩
         rw[mR]at o8
         rcases fH.1 o8 with h1 | h1
         · exact kG h1
         · exact jZ (eU.1 h1).symm
     · rw[ze,za,zE,zr (by omega)]
       have Wm:t ∉ pre:=by rw[List.take_of_length_le (by omega)]at kG;exact kG
       refine⟨⟨rfl,pre++[t],post,by rw[mO];simp,by rw[cR];rfl,?_,fun u hu=>?_⟩,by simp only[zu];exact yR (by omega)⟩
       · rw[jJ]
         exact⟨lj,by simp,fun a ha b hb e=>by rw[eU.1 hb]at e;exact Wm (e ▸ ha)⟩
       · rcases fH.1 hu with h1 | h1
         · exact SC u h1
         · rw[eU.1 h1];exact hgd
 · have:post=[]:=jz (by omega)
   subst this
   rw[jY]at mO
   subst mO
   have:=k H3 l2.iZ
   rw[gU (show mF x ts from⟨by omega,lj,SC⟩)]at this;exact this
theorem aas{B L I:Int}(hB : -9223372036854775808<=B/\B<=9223372036854775807)(hg:Zy B L I){ov:Value}{ts:List Int}(hs:Sr 1 H ov (ts.map nI))(hlen:ts.length<281474976710656)
   (k:∀ H',Ext H H'->R (.tuple #[.agg (if mF (zf B L I) ts then sZ ts else zB),.int .i64 (if mF (zf B L I) ts then 0 else 4)]) H'):Fc TP 144 #[.agg (zf B L I).cells,.agg #[ov]] H R:=by
 obtain⟨xP,xO,wI,xQ,vP,vO,gD⟩:=id hg
 have Bm:(zf B L I).L=L:=rfl
 have hBB:(zf B L I).B=B:=rfl
 have g0:(#[ov]:Array Value)[0]?=some ov:=rfl
 refine fn144 ?_
 simp only[sh144,Ul,UL,UA,Us,Ub,Uz,Uf,Ui,Ug,Uu,Uo,Uv,ZI,Bu,zm,za]
 refine(Lo.start _ H:Lx H H []).jc fun b1 H1 _ l1=>?_
 refine l1.jc fun b2 H2 _ l2=>?_
 refine l2.jc fun b3 H3 _ l3=>?_
 have l3:Lx H H3 [.box b1 (zf B L I).cells 62,.box b2 #[ov] 151,.box b3 zB 65]:=l3
 simp only[zc,aR,bH,za]
 rw[l3.je (i:=0) (n:=9) rfl (kh.size _),za]
 refine M6 hB hg fun H4 e4=>?_
 have l4:=l3.ext e4
 rw[zx,za,iW,zh,l4.je (i:=0) (n:=9) rfl (kh.size _),za,l4.je (i:=1) (n:=1) rfl rfl,za]
 refine afX (x:=zf B L I) ⟨by rw[Bm];omega,by rw[Bm];omega⟩ (hs.ext l4.iZ) hlen fun H5 e5=>?_
 have l5:=l4.ext e5
 by_cases hm:mF (zf B L I) ts
 · rw[aU hm,aU hm]at k
   have hm1:=hm.1
   rw[Bm]at hm1
   rw[gU hm,zx,za,iW,zh,l5.ld (i:=1) rfl,g0,za,(hs.ext l5.iZ).j9 Z0,za,bR,zz,za,ox (by omega)]
   refine XO z6 (a:=0) (v:=ts.length) (by omega) (by omega) fun H6 e6=>?_
   have hi0:jR (nW zB 0 4 ts.length):=(Y9 _ _ _ z6.n).b
   refine(l5.ext e6).jc fun b4 H7 _ l7=>?_
   refine l7.jE (i:=3) rfl zw hi0.size hi0.ok fun H8 l8=>?_
   have l8:Lx H H8 [.box b1 (zf B L I).cells 62,.box b2 #[ov] 151,.box b3 zB 65,.box b4 (nW zB 0 4 ts.length) 65]:=l8
   refine zF.mk (fun t H'=>∃ (pre post:List Int) (c:jn),ts=pre++post/\t=(zg (pre.length:Nat),())/\jR c/\I3 post pre.length c=sZ ts/\Lx H H' [.box b1 (zf B L I).cells 62,.box b2 #[ov] 151,.box b3 zB 65,.box b4 c 65])
     (fun t _=>mi t.1 fun i=>(ts.length - i).toNat) ⟨[],ts,_,rfl,rfl,hi0,rfl,l8⟩ ?_
   clear l8 l7 l5 l4 l3 l2 l1
   rintro _ H9 ⟨pre,post,c,mO,rfl,hc,xM,l9⟩
   have hl:ts.length=pre.length+post.length:=by rw[mO,cR]
   rw[l9.ld (i:=1) rfl,g0,za,(hs.ext l9.iZ).j9 Z0,za,bR,zk,za,zb]
   refine⟨fun kc=>?_,fun lA=>?_⟩
   · match post,mO,hl,xM with
     | [],_,hl,_=>simp at hl;omega
     | t :: post,mO,hl,xM=>
       rw[gR]at hl
       have wG:(ts.map nI)[pre.length]?=some (nI t):=by rw[mO,cU,jB (by simp)];simp
       obtain⟨bb,oo,ha,hv⟩:=(hs.ext l9.iZ).cell wG (j:=0) (by omega)
       rw[bH]at hv
       obtain⟨N9,PL⟩:=hm.2.2 t (by rw[mO];simp)
       rw[Bm]at N9
       rw[hBB]at PL
       have htn:t=((t.toNat:Nat):Int):=by omega
       have hcv:IntKind.u32.wrap t=((t.toNat:Nat):Int):=by
         have:=ox (v:=t.toNat) (by omega)
         rw[<- htn]at this
         rw[this];exact htn
       rw[l9.je (i:=3) (n:=1024) rfl hc.size,za,ze,za,zE,zr (by omega),zW,za,zd (by omega) (by omega),show(4:Int)*((pre.length+1:Nat):Int)=((4*(pre.length+1):Nat):Int) by omega,za,show zG (some (none,1)) ov (zg (pre.length:Nat))=_ from ha .i64,za,hv,show(nI t)[0]?=some (zg t) from rfl,za,zz,za,hcv]
       refine XO hc (a:=4*(pre.length+1)) (v:=t.toNat) (by omega) (by omega) fun mX sA=>?_
       have Gm:jR (nW c (4*(pre.length+1)) 4 t.toNat):=(Y9 _ _ _ hc.n).b
       refine(l9.ext sA).jE (i:=3) rfl hc.size Gm.size Gm.ok fun mN lO=>?_
       rw[za]
       refine⟨⟨pre++[t],post,_,by rw[mO];simp,by rw[cR];rfl,Gm,?_,lO⟩,by simp only[zu];exact yR (by omega)⟩
       rw[cR];exact xM
   · have:post=[]:=jz (by omega)
     subst this
     have xM:c=sZ ts:=xM
     rw[l9.je (i:=3) (n:=1024) rfl hc.size,za]
     refine l9.ret (i:=2) (K:=fun y H'=>R (.tuple #[y,.int .i64 0]) H') rfl zw hc.size hc.ok fun mX mn=>?_
     rw[xM]
     exact k mX mn.iZ
 · rw[aH hm,aH hm]at k
   rw[cH hm,zx,za,jN,zA]
   exact l5.ret (i:=2) (K:=fun y H'=>R (.tuple #[y,.int .i64 4]) H') rfl zw zw z6.ok fun H6 l6=>k H6 l6.iZ
end
end Go.Vc
