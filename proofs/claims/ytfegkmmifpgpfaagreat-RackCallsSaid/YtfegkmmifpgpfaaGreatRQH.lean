/- Parts of a proof, joined in build order: a calculus of contracts, contracts of functions. -/
import Derived.Test.YtfegkmmifpgpfaaGreatRQG
import Derived.Test.YtfegkmmifpgpfaaGreatRQF
set_option linter.unusedVariables false
set_option linter.unusedSimpArgs false
set_option maxHeartbeats 8000000
set_option maxRecDepth 100000
namespace Go.Vc
open Go.Proofs
theorem Yw(f:kM)(v:Nat):∀ j,2<=j->j<16->(zS f).setIfInBounds j (.int .u32 v)=zS (uU f j v)
 | 0,h,_ | 1,h,_=>by omega
 | 2,_,_ | 3,_,_ | 4,_,_ | 5,_,_ | 6,_,_ | 7,_,_ | 8,_,_ | 9,_,_ | 10,_,_ | 11,_,_ | 12,_,_ | 13,_,_ | 14,_,_ | 15,_,_=>rfl
 | n+16,_,h=>by omega
theorem A8(v:Nat):IntKind.u32.wrap ((v:Int)+1)=(((v+1) % 4294967296:Nat):Int):=by
 simp[IntKind.wrap,IntKind.bits,IntKind.signed]
theorem ZE:ZZ TP 54=some (.agg (zS fun _=>0)):=by kernel_rfl
section
variable{S:Nat->Prop}{H0 H:Hp}{l:List Ob}{m:Pm}{p:Nat}{q:Pg}
theorem Lo.call(h:Lo S H0 H l){i:Nat}{x:Ob}(hi:l[i]?=some x):∃ O,x.at_ H O/\∀ (H':Hp) (x':Ob) (O':Nat->Prop),kS O O' H H'->x'.at_ H' O'->Lo S H0 H' (l.set i x'):=by
 obtain⟨O,ho,st⟩:=h.step hi;exact⟨O,ho,fun H' x' O' s hx=>st H' x' O' s.kp hx s.new⟩
theorem Lo.pg(h:Lo S H0 H l){i:Nat}(hi:l[i]?=some (Zo m p q)):∃ sl su,H[p]?=some (.cells (B4 m.x sl su m.tn (sg m.n m.st m.tn q.c) q.full) 138)/\Sv 65 1024 H sl q.L/\Sv 4 1 H su (NF m q.c)/\nJ m q /\
   (∀ {K:Hp->Prop},(∀ H',Lo S H0 H' (l.set i (Zo m p ⟨q.L,q.c,true⟩))->K H')->Pu (zY (some 1) (.pointer (some ⟨p,13,none⟩)) (.bool true) H) K) /\
   (∀ {K:Hp->Prop} {a:Nat} {b:jn},a<m.B->jR b->(∀ H',Lo S H0 H' (l.set i (Zo m p (q.ny a b)))->K H')->∃ bb o,(∀ k,zG (some (none,1024)) sl (.int k a)=some (.pointer (some ⟨bb,o,none⟩)))/\Pu (zY (some 1024) (.pointer (some ⟨bb,o,none⟩)) (.agg b) H) K):=by
 obtain⟨O,⟨hq,sl,su,ha⟩,st⟩:=h.call hi
 have l0:=Lo.open ha
 refine⟨sl,su,l0.at (i:=0) rfl,l0.sv (i:=1) rfl,l0.sv (i:=2) rfl,hq,fun hk=>?_,fun {K a b} ha hb hk=>?_⟩
 · refine l0.st (i:=0) (j:=13) (v:=.bool true) rfl (by rw[B2];omega) rfl rfl fun H2 l2=>?_
   obtain⟨O',s,mq⟩:=Lo.close (l:=[_,_,_]) (r:=[]) l2
   exact hk H2 (st H2 _ O' s ⟨⟨hq.len,hq.is,hq.c⟩,sl,su,mq⟩)
 · exact l0.afl (i:=1) (j:=a) rfl (by rw[hq.len];exact ha) hb.size hb.ok fun H2 l2=>by
     obtain⟨O',s,mq⟩:=Lo.close (l:=[_,_,_]) (r:=[]) l2
     exact hk H2 (st H2 _ O' s ⟨vW hq a hb,sl,su,mq⟩)
theorem xg{f:kM}{a:Dw}(hm:qo m)(hq:nJ m q)(h:FR m q f a)(uz:q.full=false){j t:Nat}(hj:j=14/\t=0\/j=15/\t=1)(hn:(Pg.top m q f j).1.full=false) :
   ∃ a1 k,FR m (Pg.top m q f j).1 (uU (Pg.top m q f j).2.1 j (Pg.top m q f j).2.2) a1/\a1 t=some k/\(Pg.top m q f j).2.2=m.kC k/\nJ m (Pg.top m q f j).1:=by
 have hfj:f j=m.bk (a t):=by
   rcases hj with ⟨rfl,rfl⟩ | ⟨rfl,rfl⟩
   · exact h.f14
   · exact h.f15
 unfold Pg.top at hn ⊢
 by_cases hz:f j=0
 · have ha:a t=none:=Xp hm (hfj.symm.trans hz)
   rw[aU hz]at hn ⊢
   by_cases hc:q.c<m.n
   · refine⟨mz a t q.c,q.c,?_,tG,by rw[ZF hc],ph hq⟩
     have:=FG hm hq h hj ha hc
     rw[ZF hc]at this ⊢;exact this
   · rw[qu hc]at hn;cases hn
 · rw[aH hz]
   cases hl:a t with
   | none=>rw[hl]at hfj;exact absurd hfj hz
   | some k=>exact⟨a,k,by rw[BH];exact h,hl,by rw[hfj,hl];rfl,hq⟩
end
section
variable{H:Hp}{R:Value->Hp->Prop}{m:Pm}{p:Nat}{q:Pg}{O:Nat->Prop}{f:kM}
theorem Ez(hm:qo m)(h:(Zo m p q).at_ H O)(hr:q.full=false->∃ a,FR m q f a)(hf:lE f){idx:Int}(DZ : -9223372036854775808<=idx/\idx<=9223372036854775807){b:jn}(hb:jR b)
   (k:∀ H' O',kS O O' H H'->(Zo m p (Pg.file m q f idx b).1).at_ H' O'->R (.agg (zS (Pg.file m q f idx b).2)) H'):Fc TP 122 #[zD p,.agg (zS f),zg idx,.agg b] H R:=by
 have hq:nJ m q:=h.1
 have nu:=hm.Ih
 have blt:=fun k=>m.nD hm k
 refine fn122 ?_
 simp only[sh122,Ul,UL,UA,Us,Ub,Uz,UI,Uf,Ui,Uk,Uj,Uv,U1,ZE,za,zm]
 refine(Lo.own h).jc fun b1 H1 _ l1=>?_
 refine l1.jc fun b2 H2 _ l2=>?_
 refine l2.jc fun b3 H3 _ l3=>?_
 simp only[zl,zc,aR,za]
 have ret:∀ {H':Hp} {q':Pg} {f' g:kM},Lo O H H' [Zo m p q',.box b1 (zS f') 54,.box b2 b 65,.box b3 (zS g) 54]->Pg.file m q f idx b=(q',f') ->
     Pu (zX (some (some 16)) (.pointer (some ⟨b1,0,none⟩)) H') fun x=>Pu (zY (some 16) (.pointer (some ⟨b3,0,none⟩)) x H') fun H5=>Pu (zX (some (some 16)) (.pointer (some ⟨b3,0,none⟩)) H5) fun x10=>R x10 H5:=fun {H' q' f' g} l e=>by
   rw[l.je (i:=1) (n:=16) rfl (zt _),za]
   refine l.ret (i:=3) rfl (zt _) (zt _) (ZA _) fun H5 l5=>?_
   obtain⟨O',s,mq⟩:=Lo.close (l:=[Zo m p q']) (r:=[.box b1 (zS f') 54,.box b2 b 65,.box b3 (zS f') 54]) l5
   have k:=k H5 O' s
   rw[e]at k
   exact k ⟨(by obtain⟨⟨kP,w,_⟩,_⟩:=mq;exact(w.Rm 0 _ rfl).1),by
     obtain⟨⟨kP,w,hc⟩,hl⟩:=mq
     obtain⟨hq',sl,su,hx⟩:=w.Rm 0 _ rfl
     exact⟨sl,su,Ob.frame _ hx (fun _ _=>rfl) (iU _) (fun b hb=>hc b (by have hb:kP b=0+1:=hb;omega)) hl⟩⟩
 have fin:∀ {H':Hp} {q':Pg} {f':kM} {tp pl:Nat},Lo O H H' [Zo m p q',.box b1 (zS f') 54,.box b2 b 65,.box b3 (zS fun _=>0) 54]->Pg.file m q f idx b=Pg.fin m q' f' tp pl b->tp<m.B->pl<256->nJ m q' ->
     Fc TP 167 #[zD p] H' fun x49 NC=>
       Pu (zX (some none) (.pointer (some ⟨p,13,none⟩)) NC) fun x52=>
       hU x52
        (Pu (zX (some (some 16)) (.pointer (some ⟨b1,0,none⟩)) NC) fun x53=>
        Pu (zY (some 16) (.pointer (some ⟨b3,0,none⟩)) x53 NC) fun XB=>
        Pu (zX (some (some 16)) (.pointer (some ⟨b3,0,none⟩)) XB) fun x54=>
        R x54 XB)
        (Pu (zX (some none) (.pointer (some ⟨b1,3,none⟩)) NC) fun x56=>
        Pu (z8 (some (.int .u32)) .add x56 (.int .u32 1)) fun x57=>
        Pu (zY (some 1) (.pointer (some ⟨b1,3,none⟩)) x57 NC) fun H18=>
        Fc TP 169 #[zD p,zg tp,zg pl,x49] H18 fun x59 H19=>
        Pu (zX (some none) (.pointer (some ⟨p,9,none⟩)) H19) fun x62=>
        Pu (zX (some (some 1024)) (.pointer (some ⟨b2,0,none⟩)) H19) fun x63=>
        Pu (zG (some (none,1024)) x62 x49) fun x64=>
        Pu (zY (some 1024) x64 x63 H19) fun NB=>
        Pu (zX (some (some 16)) (.pointer (some ⟨b1,0,none⟩)) NB) fun x65=>
        Pu (zY (some 16) (.pointer (some ⟨b3,0,none⟩)) x65 NB) fun PT=>
        Pu (zX (some (some 16)) (.pointer (some ⟨b3,0,none⟩)) PT) fun x66=>
        R x66 PT):=fun {H' q' f' tp pl} l e htp nX hq'=>by
   obtain⟨O1,R5,pH⟩:=l.call (i:=0) rfl
   refine tP hm R5 fun NC O16 s16 h16=>?_
   have PI:=pH NC _ O16 s16 h16
   obtain⟨sl,su,Ut,_⟩:=PI.pg (i:=0) rfl
   rw[zi Ut,pq,za,Zj]
   refine⟨fun Bl=>ret PI (by rw[e,Pg.fin,aU Bl]),fun Bl=>?_⟩
   have hc:q'.c<m.n:=by
     rcases jx q'.c m.n with h1 | h1
     · exact h1
     · rw[qu (by omega)]at Bl;cases Bl
   have e2:(q'.take m).2=m.kC q'.c:=by rw[ZF hc]
   rw[PI.ld (i:=1) rfl,Zq f' 3 (by omega) (by omega),za,ze,za,A8]
   refine PI.st (i:=1) (j:=3) (v:=.int .u32 ((f' 3+1) % 4294967296:Nat)) rfl (by rw[zt];omega) rfl rfl fun H18 l18=>?_
   rw[Yw f' _ 3 (by omega) (by omega)]at l18
   rw[e2]
   obtain⟨O18,akv,abf⟩:=l18.call (i:=0) rfl
   refine HL hm akv htp nX (by have:=(blt q'.c).2;omega) fun H19 O19 s19 h19=>?_
   have l19:=abf H19 _ O19 s19 h19
   obtain⟨sl,su,g19,_,_,_,_,stL⟩:=l19.pg (i:=0) rfl
   rw[zi g19,uZ,za]
   rw[l19.je (i:=2) (n:=1024) rfl hb.size,za]
   obtain⟨bb,o,ha,kH⟩:=stL (a:=m.kC q'.c) (b:=b) (blt q'.c).2 hb (K:=fun NB=>Pu (zX (some (some 16)) (.pointer (some ⟨b1,0,none⟩)) NB) fun x65=>Pu (zY (some 16) (.pointer (some ⟨b3,0,none⟩)) x65 NB) fun PT=>Pu (zX (some (some 16)) (.pointer (some ⟨b3,0,none⟩)) PT) fun x66=>R x66 PT)
     fun NB Iq=>ret Iq (by rw[e,Pg.fin,aH (by rw[Bl];decide),e2];rfl)
   rw[ha,za]
   exact kH
 refine Zg.mk (fun _ H'=>Lo O H H' [Zo m p (if idx<0\/65802<=idx then⟨q.L,q.c,true⟩ else q),.box b1 (zS f) 54,.box b2 b 65,.box b3 (zS fun _=>0) 54]) ?_ ?_
 · intro s H4 l4
   obtain⟨sl,su,g4,_⟩:=l4.pg (i:=0) rfl
   rw[zi g4,pq,za,Zj]
   refine⟨fun Bl=>?_,fun Bl=>?_⟩
   · refine ret l4 ?_
     unfold Pg.file
     by_cases oT:idx<0\/65802<=idx
     · rw[aU oT,aU oT]
     · rw[aH oT]at Bl ⊢
       rw[aH oT,aU Bl]
   · have oT:¬ (idx<0\/65802<=idx):=fun hb=>by rw[aU hb]at Bl;cases Bl
     rw[aH oT]at Bl l4
     obtain⟨a,hfr⟩:=hr Bl
     obtain⟨i,rfl⟩:∃ i:Nat,idx=i:=⟨idx.toNat,by omega⟩
     have hi:i<65802:=by omega
     have I5:=fun(x:Pg × kM) (hx:(if (i:Int)<10 then
         if (q.take m).1.full then((q.take m).1,f) else((q.take m).1.ny (q.take m).2 b,tB (uU f (4+i) (q.take m).2))
       else if (i:Int)<266 then
         if (Pg.top m q f 14).1.full then((Pg.top m q f 14).1,(Pg.top m q f 14).2.1) else Pg.fin m (Pg.top m q f 14).1 (uU (Pg.top m q f 14).2.1 14 (Pg.top m q f 14).2.2) (Pg.top m q f 14).2.2 (i - 10) b
       else
         if (Pg.top m q f 15).1.full then((Pg.top m q f 15).1,(Pg.top m q f 15).2.1) else Pg.Tg m (Pg.top m q f 15).1 (uU (Pg.top m q f 15).2.1 15 (Pg.top m q f 15).2.2) (Pg.top m q f 15).2.2 ((i - 266) / 256) ((i - 266) % 256) b)=x)=>
       (show Pg.file m q f i b=x by unfold Pg.file;rw[aH oT,aH (by rw[Bl];decide),jK];exact hx)
     rw[zk,za,zb]
     refine⟨fun tY=>?_,fun tY=>?_⟩
     · obtain⟨O4,X5,xh⟩:=l4.call (i:=0) rfl
       refine tP hm X5 fun H6 O6 s6 h6=>?_
       have l6:=xh H6 _ O6 s6 h6
       obtain⟨sl,su,g6,_⟩:=l6.pg (i:=0) rfl
       rw[zi g6,pq,za,Zj]
       refine⟨fun AT=>ret l6 (I5 _ (by rw[aU tY,aU AT])),fun AT=>?_⟩
       have hc:q.c<m.n:=by
         rcases jx q.c m.n with h1 | h1
         · exact h1
         · rw[qu (by omega)]at AT;cases AT
       have e2:(q.take m).2=m.kC q.c:=by rw[ZF hc]
       have WD:=blt q.c
       rw[e2,zz,za,ox (by omega),zC (by omega),za,iX]
       refine l6.st (i:=1) (j:=4+i) (v:=.int .u32 (m.kC q.c:Nat)) rfl (by rw[zt];omega) rfl rfl fun H8 l8=>?_
       rw[Yw f _ (4+i) (by omega) (by omega)]at l8
       rw[l8.ld (i:=1) rfl,Zq _ 3 (by omega) (by omega),za,ze,za,A8]
       refine l8.st (i:=1) (j:=3) (v:=.int .u32 ((uU f (4+i) (m.kC q.c) 3+1) % 4294967296:Nat)) rfl (by rw[zt];omega) rfl rfl fun H9 l9=>?_
       rw[Yw _ _ 3 (by omega) (by omega)]at l9
       obtain⟨sl,su,g9,_,_,_,_,stL⟩:=l9.pg (i:=0) rfl
       rw[zi g9,uZ,za]
       rw[l9.je (i:=2) (n:=1024) rfl hb.size,za]
       obtain⟨bb,o,ha,kH⟩:=stL (a:=m.kC q.c) (b:=b) WD.2 hb (K:=fun NB=>Pu (zX (some (some 16)) (.pointer (some ⟨b1,0,none⟩)) NB) fun x65=>Pu (zY (some 16) (.pointer (some ⟨b3,0,none⟩)) x65 NB) fun PT=>Pu (zX (some (some 16)) (.pointer (some ⟨b3,0,none⟩)) PT) fun x66=>R x66 PT)
         fun NB Iq=>ret Iq (I5 _ (by rw[aU tY,aH (by rw[AT];decide),e2];rfl))
       rw[ha,za]
       exact kH
     · have h14:=hf.lt (j:=14) (by omega)
       have h15:=hf.lt (j:=15) (by omega)
       rw[l4.ld (i:=1) rfl,Zq f 14 (by omega) (by omega),za,zz,za,zr (by omega),zP,za,zd (by omega) (by omega)]
       obtain⟨j,pl,tt,hj,hjp⟩:∃ j pl tt:Nat,(j=14/\tt=0\/j=15/\tt=1)/\((i<266/\j=14/\pl=i - 10)\/(266<=i/\j=15/\pl=(i - 266) / 256)):=by
         by_cases IJ:i<266
         · exact⟨14,i - 10,0,.inl ⟨rfl,rfl⟩,.inl ⟨IJ,rfl,rfl⟩⟩
         · exact⟨15,(i - 266) / 256,1,.inr ⟨rfl,rfl⟩,.inr ⟨by omega,rfl,rfl⟩⟩
       have nX:pl<256:=by omega
       refine Zg.mk (fun s H'=>H'=H4/\s=(zg (f j),zg pl,())) ?_ ?_
       · rintro _ tF ⟨rfl,rfl⟩
         refine Zg.mk (fun s H'=>s.1=zg (Pg.top m q f j).2.2/\Lo O H H' [Zo m p (Pg.top m q f j).1,.box b1 (zS (Pg.top m q f j).2.1) 54,.box b2 b 65,.box b3 (zS fun _=>0) 54]) ?_ ?_
         · rintro⟨s,u⟩ sD ⟨hs,oM⟩
           simp only at hs
           subst hs
           obtain⟨sl,su,WK,_⟩:=oM.pg (i:=0) rfl
           rw[zi WK,pq,za,Zj]
           refine⟨fun AT=>ret oM (I5 _ ?_),fun AT=>?_⟩
           · rw[aH tY]
             rcases hjp with ⟨h1,rfl,rfl⟩ | ⟨h1,rfl,rfl⟩
             · rw[aU (by omega),aU AT]
             · rw[aH (by omega),aU AT]
           · obtain⟨a1,kk,ag3,hak,KG,X2⟩:=xg hm hq hfr Bl hj AT
             have hkb:=blt kk
             rw[KG]
             refine Zg.mk (fun s H'=>∃ (q2:Pg) (f2:kM) (tp pl2:Nat),s=(zg tp,zg pl2,())/\Lo O H H' [Zo m p q2,.box b1 (zS f2) 54,.box b2 b 65,.box b3 (zS fun _=>0) 54]/\Pg.file m q f i b=Pg.fin m q2 f2 tp pl2 b/\tp<m.B/\pl2<256/\nJ m q2) ?_ ?_
             · rintro _ DH ⟨q2,f2,tp,pl2,rfl,pO,JK,htp,akm,hq2⟩
               exact fin pO JK htp akm hq2
             · rw[zk,za,zb]
               refine⟨fun IJ=>?_,fun IJ=>?_⟩
               · rcases hjp with ⟨h1,rfl,rfl⟩ | ⟨h1,rfl,rfl⟩
                 · rw[zz,za,ox (by omega)]
                   refine oM.st (i:=1) (j:=14) (v:=.int .u32 (m.kC kk:Nat)) rfl (by rw[zt];omega) rfl rfl fun H22 l22=>?_
                   rw[Yw _ _ 14 (by omega) (by omega)]at l22
                   exact⟨_,_,_,_,rfl,l22,I5 _ (by rw[aH tY,aU (by omega),aH (by rw[AT];decide),KG]),hkb.2,nX,X2⟩
                 · omega
               · rcases hjp with ⟨h1,rfl,rfl⟩ | ⟨h1,rfl,rfl⟩
                 · omega
                 · obtain⟨_,rfl⟩ | ⟨_,rfl⟩:=hj
                   · omega
                   rw[KG]at ag3
                   rw[zz,za,ox (by omega)]
                   refine oM.st (i:=1) (j:=15) (v:=.int .u32 (m.kC kk:Nat)) rfl (by rw[zt];omega) rfl rfl fun H23 Wc=>?_
                   rw[Yw _ _ 15 (by omega) (by omega)]at Wc
                   have ef:=fun x (hx:Pg.Tg m (Pg.top m q f 15).1 (uU (Pg.top m q f 15).2.1 15 (m.kC kk)) (m.kC kk) ((i - 266) / 256) ((i - 266) % 256) b=x)=>I5 x (by rw[aH tY,aH (by omega),aH (by rw[AT];decide),KG];exact hx)
                   have Wu:(Pg.top m q f 15).1.CO (m.kC kk) ((i - 266) / 256)=m.bk (a1 (2+(i - 266) / 256)):=ag3.ix 1 kk (by omega) hak _ nX
                   obtain⟨O23,akt,aom⟩:=Wc.call (i:=0) rfl
                   refine Ra hm akt hkb.2 nX ?_
                   generalize hgv:(Pg.top m q f 15).1.CO (m.kC kk) ((i - 266) / 256)=gv at Wu ef
                   have akV:gv<m.B:=by
                     rw[Wu]
                     cases a1 (2+(i - 266) / 256) with
                     | none=>show 0<_;have:=hm.pos;have:=hm.n;omega
                     | some k2=>exact(blt k2).2
                   refine Zg.mk (fun s H'=>∃ (q2:Pg) (f2:kM) (lw:Nat),s.1=zg lw/\Lo O H H' [Zo m p q2,.box b1 (zS f2) 54,.box b2 b 65,.box b3 (zS fun _=>0) 54]/\Pg.file m q f i b=Pg.fin m q2 f2 lw ((i - 266) % 256) b/\lw<m.B/\nJ m q2) ?_ ?_
                   · rintro⟨s,u⟩ H25 ⟨q2,f2,lw,hs,l25,I9,hlw,hq2⟩
                     simp only at hs
                     subst hs
                     rw[za,zP,za,zd (by omega) (by omega),z7 (by decide),za,Zb (by omega)]
                     refine⟨q2,f2,lw,(i - 266) % 256,?_,l25,I9,hlw,kV _ (by omega),hq2⟩
                     rw[show((i:Int) - 10 - 256) % 256=(((i - 266) % 256:Nat):Int) by omega]
                     rfl
                   · rw[zp,za,zb]
                     refine⟨fun hz=>?_,fun hz=>?_⟩
                     · have hz:gv=0:=by omega
                       obtain⟨O24,aks,ajm⟩:=Wc.call (i:=0) rfl
                       refine tP hm aks fun H26 O26 s26 h26=>?_
                       have l26:=ajm H26 _ O26 s26 h26
                       obtain⟨sl,su,g26,_⟩:=l26.pg (i:=0) rfl
                       rw[zi g26,pq,za,Zj]
                       refine⟨fun Sg=>ret l26 (ef _ (by unfold Pg.Tg;rw[hgv,aU hz,aU Sg])),fun Sg=>?_⟩
                       have hc:(Pg.top m q f 15).1.c<m.n:=by
                         rcases jx (Pg.top m q f 15).1.c m.n with h1 | h1
                         · exact h1
                         · rw[qu (by omega)]at Sg;cases Sg
                       have e2:((Pg.top m q f 15).1.take m).2=m.kC (Pg.top m q f 15).1.c:=by rw[ZF hc]
                       have WD:=blt (Pg.top m q f 15).1.c
                       rw[l26.ld (i:=1) rfl,Zq _ 3 (by omega) (by omega),za,ze,za,A8]
                       refine l26.st (i:=1) (j:=3) (v:=.int .u32 _) rfl (by rw[zt];omega) rfl rfl fun H28 l28=>?_
                       rw[Yw _ _ 3 (by omega) (by omega)]at l28
                       rw[e2]
                       obtain⟨O28,akr,ajl⟩:=l28.call (i:=0) rfl
                       refine HL hm akr hkb.2 nX (by omega) fun H29 O29 s29 h29=>?_
                       have l29:=ajl H29 _ O29 s29 h29
                       exact⟨_,_,_,rfl,l29,ef _ (by unfold Pg.Tg;rw[hgv,aU hz,aH (by rw[Sg];decide),e2];rfl),WD.2,FX (ph X2) _ _ _⟩
                     · exact⟨_,_,gv,rfl,Wc,ef _ (by unfold Pg.Tg;rw[hgv,aH (by omega)]),akV,X2⟩
         · rw[zp,za,zb]
           have hjf:f j<4294967296:=hf.lt (by omega)
           refine⟨fun hz=>?_,fun hz=>?_⟩
           · have et:Pg.top m q f j=((q.take m).1,tB f,(q.take m).2):=by unfold Pg.top;rw[aU (by omega)]
             rw[et]
             obtain⟨O4,X5,xh⟩:=l4.call (i:=0) rfl
             refine tP hm X5 fun H6 O6 s6 h6=>?_
             have l6:=xh H6 _ O6 s6 h6
             rw[l6.ld (i:=1) rfl,Zq _ 3 (by omega) (by omega),za,ze,za,A8]
             refine l6.st (i:=1) (j:=3) (v:=.int .u32 ((f 3+1) % 4294967296:Nat)) rfl (by rw[zt];omega) rfl rfl fun H8 l8=>?_
             rw[Yw _ _ 3 (by omega) (by omega)]at l8
             exact⟨rfl,l8⟩
           · have et:Pg.top m q f j=(q,f,f j):=by unfold Pg.top;rw[aH (by omega)]
             rw[et]
             exact⟨rfl,l4⟩
       · rw[zN,za,zb]
         refine⟨fun lA=>?_,fun kc=>?_⟩
         · rcases hjp with ⟨h1,rfl,rfl⟩ | ⟨h1,rfl,rfl⟩
           · omega
           · rw[l4.ld (i:=1) rfl,Zq f 15 (by omega) (by omega),za,zz,za,zr (by omega),za,zP,za,zd (by omega) (by omega),Zp (by decide),za,Zx (by omega),zd (by omega) (by omega)]
             refine⟨rfl,?_⟩
             rw[show((i:Int) - 10 - 256) / 256=(((i - 266) / 256:Nat):Int) by omega];rfl
         · rcases hjp with ⟨h1,rfl,rfl⟩ | ⟨h1,rfl,rfl⟩
           · refine⟨rfl,?_⟩
             rw[show((i:Int) - 10)=((i - 10:Nat):Int) by omega];rfl
           · omega
 · refine Zg.mk (fun s H'=>H'=H3/\s.1=.bool (decide (idx<0\/65802<=idx))) ?_ ?_
   · rintro⟨s,u⟩ H32 ⟨rfl,hs⟩
     simp only at hs
     subst hs
     simp only[zb]
     refine⟨fun hb=>?_,fun hb=>?_⟩
     · rw[aU hb]
       obtain⟨sl,su,g3,_,_,_,stF,_⟩:=l3.pg (i:=0) rfl
       exact stF fun H33 l33=>l33
     · rw[aH hb];exact l3
   · simp only[zk,zN,za,zb]
     refine⟨fun h1=>⟨by trivial,?_⟩,fun h1=>⟨by trivial,?_⟩⟩
     · rw[gU (.inl h1)]
     · congr 1;rw[kr];omega
end
end Go.Vc
namespace Go.Vc
open Go.Proofs Classical
theorem Sr.el{n:Nat}{H:Hp}{s:Value}{vs:List (Array Value)}(h:Sr n H s vs){i:Nat}{v:Array Value}(hi:vs[i]?=some v):∃ b o,(∀ k,zG (some (none,n)) s (.int k i)=some (.pointer (some ⟨b,o,none⟩)))/\(∀ j,j<n->zX (some none) (.pointer (some ⟨b,o+j,none⟩)) H=v[j]?) /\
   (∀ j m,j+m<=n->zX (some (some m)) (.pointer (some ⟨b,o+j,none⟩)) H=some (.agg (v.extract j (j+m)))):=by
 obtain⟨b,o,hr,ha⟩:=h.elem hi
 refine⟨b,o,ha,fun j hj=>Er hr hj,fun j m hjm=>?_⟩
 unfold np at hr
 simp only at hr
 split at hr
 · rename_i c T z hg
   split at hr
   · rename_i hs
     injection hr with hr
     have lH:o+j+m<=c.size:=by have:=hs.2;omega
     rw[Za hg lH,<- hr]
     congr 2
     apply jm
     intro x
     rw[ji,ji,ji]
     have h2:=hs.2
     by_cases hx:x<m
     · rw[aU (by omega),aU (by rw[vL];omega),aU (by omega)]
       congr 1;omega
     · rw[aH (by omega),aH (by omega)]
   · cases hr
 · cases hr
def xd(b x:Array Value)(o i:Nat)(bi:Array Value):Prop:=jR bi/\∀ j,j<1024->kv bi j=if o<=j/\j<o+i then kv x (j - o) else kv b j
theorem xd.zero{b x:Array Value}{o:Nat}(h:jR b):xd b x o 0 b:=⟨h,fun j _=>by rw[aH (by omega)]⟩
theorem xd.step{b x bi:Array Value}{o i n:Nat}(hx:mu n x)(hi:i<n)(ho:o+n<=1024)(h:xd b x o i bi):xd b x o (i+1) (bi.setIfInBounds (o+i) (.int .u8 (kv x i))):=by
 refine⟨h.1.set _ (hx.lt i),fun j hj=>?_⟩;rw[oL h.1 (by omega),h.2 j hj];by_cases h1:o+i=j
 ·subst h1;rw[aU rfl,aU (by omega)];congr 1;omega
 ·rw[aH h1];by_cases h2:o<=j/\j<o+i
  ·rw[aU h2,aU (by omega)]
  ·rw[aH h2,aH (by omega)]
theorem xd.done{b x bi:Array Value}{o n:Nat}(hb:jR b)(hx:mu n x)(ho:o+n<=1024)(h:xd b x o n bi):bi=zL b o x:=by
 refine h.1.ext (yc hb.n hx ho).b fun j hj=>?_;rw[h.2 j hj,rT hb.n hx ho]
def sb(s:ByteArray)(i:Nat):Nat:=(s[i]?.map UInt8.toNat).getD 0
theorem XQ(s:ByteArray)(i:Nat):sb s i<256:=by
 unfold sb;cases s[i]? with
 | none=>simp
 | some b=>simpa using b.toNat_lt
theorem Qb:TP.underlying 9=some .string:=by kernel_rfl
theorem FJ{s:ByteArray}{i:Nat}{k:IntKind}(h:i<s.size):xK TP 9 (.string s) (.int k i)=some (.int .u8 (sb s i)):=by
 unfold xK;rw[Qb];simp only;rw[aU (by omega),jK];unfold sb;rw[getElem?_pos s i h];rfl
theorem FI(s:ByteArray):j9 TP 9 (.string s)=some (zg s.size):=by
 unfold j9;rw[Qb];rfl
theorem L4(s:ByteArray):(s.toList == (⟨#[]⟩:ByteArray).toList)=decide (s.size=0):=by
 rw[ByteArray.toList_eq,ByteArray.toList_eq,jL,beq_iff_eq,iS];constructor
 ·intro h;have h2:=congrArg List.length h;rw[lG]at h2;exact h2
 ·intro h;have:s.data=#[]:=Array.eq_empty_of_size_eq_zero h;rw[this]
noncomputable def pt(s:ByteArray):Int:=if s.size=0 then 4 else if ∃ i,i<s.size/\(sb s i=0\/sb s i=47) then 4 else if 14<s.size then 12 else 0
abbrev A1:=Nat × ByteArray
def yh(e:A1):Array Value:=#[.int .u16 e.1,.string e.2]
def WY(c:Array Value)(s:ByteArray):Nat->Array Value
 | 0=>c
 | i+1=>(WY c s i).setIfInBounds (2+i) (.int .u8 (sb s i))
noncomputable def rO(e:A1):Array Value:=if e.1=0 then zR 16 else if pt e.2≠0 then zR 16 else WY (((zR 16).setIfInBounds 0 (.int .u8 (e.1 % 256:Nat))).setIfInBounds 1 (.int .u8 (e.1 / 256 % 256:Nat))) e.2 e.2.size
noncomputable def C2(e:A1):Int:=if e.1=0 then(if e.2.size=0 then 0 else 4) else pt e.2
theorem Bp{c:Array Value}(h:mu 16 c)(s:ByteArray):∀ n,mu 16 (WY c s n)
 | 0=>h
 | n+1=>(Bp h s n).set _ (XQ s n)
theorem wL(e:A1):mu 16 (rO e):=by
 unfold rO;split
 ·exact yz 16
 ·split
  ·exact yz 16
  ·exact Bp (((yz 16).set 0 (kV _ (by omega))).set 1 (kV _ (by omega))) _ _
theorem Kl{s:ByteArray}(h:pt s=0):s.size<=14:=by
 unfold pt at h;split at h
 ·omega
 ·split at h
  ·omega
  ·split at h<;>omega
theorem Fy:ZZ TP 237=some (.agg (zR 16)):=by kernel_rfl
section
variable{H:Hp}{R:Value->Hp->Prop}
theorem abT{s:ByteArray}(hs:s.size<9223372036854775808)(h:R (zg (pt s)) H):Fc TP 192 #[.string s] H R:=by
 refine fn192 ?_;simp only[sh192,Ub,Ug,Uj,Uo,Uv,U1,zm];rw[show z8 (some .string) .eql (.string s) (.string ⟨#[]⟩)=some (.bool (s.toList == (⟨#[]⟩:ByteArray).toList)) from rfl,L4,za,zb];refine⟨fun h0=>?_,fun h0=>?_⟩
 ·have e:pt s=4:=by unfold pt;rw[aU h0]
  rw[e]at h;exact h
 ·refine zF.mk (fun t H'=>H'=H/\∃ i:Nat,i<=s.size/\t=(zg i,())/\∀ j,j<i->sb s j≠0/\sb s j≠47) (fun t _=>mi t.1 fun i=>(s.size - i).toNat) ⟨rfl,0,by omega,rfl,fun j hj=>by omega⟩ ?_;rintro _ H1 ⟨rfl,i,hi,rfl,hg⟩;rw[FI,za,zk,za,zb];refine⟨fun kc=>?_,fun lA=>?_⟩
  ·refine Zg.mk (fun t H'=>H'=H1/\t.1=.bool (decide (sb s i=0\/sb s i=47))) ?_ ?_
   ·rintro⟨t,u⟩ H2 ⟨rfl,ht⟩;simp only at ht;subst ht;rw[zb];refine⟨fun hb=>?_,fun hb=>?_⟩
    ·have e:pt s=4:=by unfold pt;rw[aH h0,aU ⟨i,by omega,hb⟩]
     rw[e]at h;exact h
    ·rw[ze,za,zE,zr (by omega)];refine⟨⟨rfl,i+1,by omega,rfl,fun j hj=>?_⟩,by simp only[zu];omega⟩;rcases jx j i with h1 | h1
     ·exact hg j h1
     ·have:j=i:=by omega
      subst this;omega
   ·rw[FJ (by omega),za,zp,za,zb];refine⟨fun h1=>⟨rfl,?_⟩,fun h1=>?_⟩
    ·rw[gU (.inl (by omega))]
    ·rw[za,zp,za];refine⟨rfl,?_⟩;show Value.bool _=Value.bool _;congr 1;rw[kr];omega
  ·have ei:i=s.size:=by omega
   subst ei;have kG:¬ ∃ i,i<s.size/\(sb s i=0\/sb s i=47):=fun⟨j,hj,hb⟩=>by have:=hg j hj;omega
   rw[za,zJ,za,zb];refine⟨fun h1=>?_,fun h1=>?_⟩
   ·have e:pt s=12:=by unfold pt;rw[aH h0,aH kG,aU (by omega)]
    rw[e]at h;exact h
   ·have e:pt s=0:=by unfold pt;rw[aH h0,aH kG,aH (by omega)]
    rw[e]at h;exact h
theorem aaq{e:A1}(h1:e.1<65536)(hs:e.2.size<9223372036854775808)(k:∀ H',Ext H H'->R (.tuple #[.agg (rO e),zg (C2 e)]) H'):Fc TP 166 #[.agg (yh e)] H R:=by
 obtain⟨n,s⟩:=e
 simp only at h1 hs
 have hz:mu 16 (zR 16):=yz 16
 refine fn166 ?_
 simp only[sh166,Ul,UL,UA,Us,Ub,Uz,Uf,Uk,Ug,Uo,Uv,Fy,za,zm]
 refine(Lo.start _ H:Lx H H []).jc fun b1 H1 _ l1=>?_
 refine l1.jc fun b2 H2 _ l2=>?_
 refine l2.jc fun b3 H3 _ l3=>?_
 simp only[zc,aR,za]
 have e0:(yh (n,s))[0]?=some (.int .u16 n):=rfl
 have e1:(yh (n,s))[1]?=some (.string s):=rfl
 have ret:∀ {H':Hp} {c:Array Value} {r:Int},Lx H H' [.box b1 (yh (n,s)) 241,.box b2 (zR 16) 237,.box b3 c 237]->mu 16 c->rO (n,s)=c->C2 (n,s)=r ->
     Pu (zX (some (some 16)) (.pointer (some ⟨b3,0,none⟩)) H') fun x=>Pu (zY (some 16) (.pointer (some ⟨b2,0,none⟩)) x H') fun H4=>Pu (zX (some (some 16)) (.pointer (some ⟨b2,0,none⟩)) H4) fun x=>R (.tuple #[x,zg r]) H4:=fun {H' c r} l hc ec er=>by
   rw[l.je (i:=2) (n:=16) rfl hc.size,za]
   refine l.ret (i:=1) (K:=fun x H4=>R (.tuple #[x,zg r]) H4) rfl hz.size hc.size hc.ok fun H4 l4=>?_
   rw[<- ec,<- er]
   exact k H4 l4.iZ
 rw[l3.ld (i:=0) rfl,e0,za,zp,za,zb]
 refine⟨fun hn=>?_,fun hn=>?_⟩
 · have hn:n=0:=by omega
   rw[l3.ld (i:=0) rfl,e1,za,show z8 (some .string) .neq (.string s) (.string ⟨#[]⟩)=some (.bool !(s.toList == (⟨#[]⟩:ByteArray).toList)) from rfl,L4,za,Zm]
   refine⟨fun hb=>ret (r:=4) l3 hz (by unfold rO;rw[aU hn]) ?_,fun hb=>ret (r:=0) l3 hz (by unfold rO;rw[aU hn]) ?_⟩
   · unfold C2;rw[aU hn,aH (by simpa using hb)]
   · unfold C2;rw[aU hn,aU (by simpa using hb)]
 · have hn0:¬ n=0:=by omega
   rw[l3.ld (i:=0) rfl,e1,za]
   refine abT hs ?_
   rw[zn,za,zb]
   refine⟨fun hb=>ret l3 hz (by unfold rO;rw[aH hn0,aU hb]) (by unfold C2;rw[aH hn0]),fun hb=>?_⟩
   have hb0:pt s=0:=jh.1 hb
   have apl:=Kl hb0
   rw[l3.ld (i:=0) rfl,e0,za,z7 (by decide),za,zz,za,L1,show(0:Int)=((0:Nat):Int) from rfl,zC (by omega),za]
   refine l3.st (i:=2) (j:=0) (v:=.int .u8 (n % 256:Nat)) rfl (by rw[hz.size];omega) rfl rfl fun H8 l8=>?_
   rw[l8.ld (i:=0) rfl,e0,za,Zp (by decide),za,FV,ZR (by omega) (by omega),zz,za,xf (by omega) (by omega),show(1:Int)=((1:Nat):Int) from rfl,zC (by omega),za]
   refine l8.st (i:=2) (j:=1) (v:=.int .u8 (n / 256:Nat)) rfl (by simp) rfl rfl fun H9 l9=>?_
   have GV:mu 16 (((zR 16).setIfInBounds 0 (.int .u8 (n % 256:Nat))).setIfInBounds 1 (.int .u8 (n / 256:Nat))):=(hz.set 0 (kV _ (by omega))).set 1 (by omega)
   refine zF.mk (fun t H'=>∃ i:Nat,i<=s.size/\t=(zg i,())/\Lx H H' [.box b1 (yh (n,s)) 241,.box b2 (zR 16) 237,.box b3 (WY (((zR 16).setIfInBounds 0 (.int .u8 (n % 256:Nat))).setIfInBounds 1 (.int .u8 (n / 256:Nat))) s i) 237])
     (fun t _=>mi t.1 fun i=>(s.size - i).toNat) ⟨0,by omega,rfl,l9⟩ ?_
   rintro _ mX ⟨i,hi,rfl,mn⟩
   rw[mn.ld (i:=0) rfl,e1,za,FI,za,zk,za,zb]
   refine⟨fun kc=>?_,fun lA=>?_⟩
   · rw[ze,za,zd (by omega) (by omega),za,FJ (by omega),za,show(2:Int)+(i:Int)=((2+i:Nat):Int) by omega,zC (by omega),za,aR,iX]
     refine mn.st (i:=2) (j:=2+i) (v:=.int .u8 (sb s i)) rfl (by rw[(Bp GV s i).size];omega) rfl rfl fun mN lO=>?_
     rw[ze,za,show(i:Int)+((1:Nat):Int)=((i+1:Nat):Int) by omega,zr (by omega)]
     exact⟨⟨i+1,by omega,rfl,lO⟩,by simp only[zu];omega⟩
   · have ei:i=s.size:=by omega
     subst ei
     refine ret (r:=0) mn (Bp GV s _) ?_ ?_
     · unfold rO
       rw[aH hn0,aH (by simpa using hb0),mf (show n / 256<256 by omega)]
     · unfold C2;rw[aH hn0];exact hb0
end
noncomputable def ql(b:jn)(s:Nat)(e:A1):jn:=zL b (s*16 % 1024) (rO e)
noncomputable def yl(m:Pm)(len:Nat):List A1->Nat->Pg->kM->jn->Pg × kM
 | [],_,q,f,_=>(q,f)
 | e :: l,s,q,f,b=>if q.full then(q,f) else
  if s*16 % 1024=1008\/s+1=len then yl m len l (s+1) (Pg.file m q f (s*16 / 1024:Nat) (ql b s e)).1 (Pg.file m q f (s*16 / 1024:Nat) (ql b s e)).2 zB
  else yl m len l (s+1) q f (ql b s e)
theorem YD{m:Pm}{len s:Nat}{e:A1}{l:List A1}{q:Pg}{f:kM}{b:jn}:yl m len (e :: l) s q f b=if q.full then(q,f) else
 if s*16 % 1024=1008\/s+1=len then yl m len l (s+1) (Pg.file m q f (s*16 / 1024:Nat) (ql b s e)).1 (Pg.file m q f (s*16 / 1024:Nat) (ql b s e)).2 zB
 else yl m len l (s+1) q f (ql b s e):=rfl
noncomputable def YM(m:Pm):List (Int × jn)->Pg->kM->Pg × kM
 | [],q,f=>(q,f)
 | d :: l,q,f=>if q.full then(q,f) else YM m l (Pg.file m q f d.1 d.2).1 (Pg.file m q f d.1 d.2).2
structure Fw(m:Pm)(q:Pg)(f:kM):Prop where
 ok:nJ m q
 fr:q.full=false->∃ a,FR m q f a
 ino:lE f
section
variable{m:Pm}{q:Pg}{f:kM}
theorem Yh(hm:qo m)(h:Fw m q f){idx:Int}{b:jn}(hb:jR b):Fw m (Pg.file m q f idx b).1 (Pg.file m q f idx b).2:=by
 by_cases oT:idx<0\/65802<=idx
 ·have e:Pg.file m q f idx b=(⟨q.L,q.c,true⟩,f):=by unfold Pg.file;rw[aU oT]
  rw[e];exact⟨⟨h.ok.len,h.ok.is,h.ok.c⟩,fun hh=>(by cases hh),h.ino⟩
 ·cases hf:q.full with
  | true=>
   have e:Pg.file m q f idx b=(q,f):=by unfold Pg.file;rw[aH oT,aU hf]
   rw[e];exact⟨h.ok,fun hh=>(by rw[hf]at hh;cases hh),h.ino⟩
  | false=>
   obtain⟨a,ha⟩:=h.fr hf;obtain⟨i,rfl⟩:∃ i:Nat,idx=i:=⟨idx.toNat,by omega⟩;have r:=CV hm h.ok ha hf (i:=i) (by omega) hb;refine⟨r.ok,fun hh=>?_,r.ino h.ino⟩;by_cases hn:q.c+need a i<=m.n
   ·exact⟨_,(r.yes hn).2.2⟩
   ·rw[r.no hn]at hh;cases hh
theorem EU{x:Int × jn}(h:jR x.2):(zy x).extract 1 (1+1024)=x.2:=by
 unfold zy;apply jm;intro i;rw[ji,Array.size_append,h.size];by_cases hi:i<1024
 ·rw[aU (by simp;omega),lS (by simp)];simp
 ·rw[aH (by simp;omega),iQ (by rw[h.size];omega)]
theorem yg(x:Int × jn):(zy x)[0]?=some (zg x.1):=by unfold zy;rw[nc (by simp)];rfl
theorem Lo.GF{O:Nat->Prop}{H H':Hp}{p:Nat}{r:List Ob}(l:Lo O H H' (Zo m p q :: r)):∃ O',kS O O' H H'/\(Zo m p q).at_ H' O':=by
 obtain⟨O',s,ha⟩:=Lo.close (l:=[Zo m p q]) (r:=r) l;refine⟨O',s,?_⟩;obtain⟨⟨kP,w,hc⟩,hl⟩:=ha;exact Ob.frame _ (w.Rm 0 _ rfl) (fun _ _=>rfl) (iU _) (fun b hb=>hc b (by have hb:kP b=0+1:=hb;omega)) hl
end
theorem tH:TP.underlying 140=some (.slice 241):=by kernel_rfl
theorem yw:TP.underlying 79=some (.slice 149):=by kernel_rfl
section
variable{H:Hp}{R:Value->Hp->Prop}{m:Pm}{p:Nat}{q:Pg}{O:Nat->Prop}{f:kM}
theorem Rb(hm:qo m)(h:(Zo m p q).at_ H O)(hu:Fw m q f){es:List A1}{sv:Value}(AB:∀ e∈es,e.1<65536/\e.2.size<9223372036854775808)(hlen:es.length<281474976710656)(hs:∀ H',Kp O H H'->Sr 2 H' sv (es.map yh))
   (k:∀ H' O',kS O O' H H'->(Zo m p (yl m es.length es 0 q f zB).1).at_ H' O'->R (.agg (zS (yl m es.length es 0 q f zB).2)) H'):Fc TP 121 #[zD p,.agg (zS f),sv] H R:=by
 refine fn121 ?_
 simp only[sh121,Ul,UL,UA,Us,Ub,Uz,Ux,UI,Uf,Ui,Uk,Ug,Uu,Uj,Uo,Uv,U1,U0,ZE,ZI,yP,Fy,za,zm]
 refine(Lo.own h).jc fun b1 H1 _ l1=>?_
 refine l1.jc fun b2 H2 _ l2=>?_
 refine l2.jc fun b3 H3 _ l3=>?_
 simp only[zl,zc,aR,za]
 refine zF.mk (fun t H'=>∃ (s:Nat) (q':Pg) (f':kM) (b':jn),s<=es.length/\t=(zg s,())/\yl m es.length (es.drop s) s q' f' b'=yl m es.length es 0 q f zB/\Fw m q' f'/\jR b'/\Lo O H H' [Zo m p q',.box b1 (zS f') 54,.box b2 (zS fun _=>0) 54,.box b3 b' 65])
   (fun t _=>mi t.1 fun s=>(es.length - s).toNat) ⟨0,q,f,zB,by omega,rfl,rfl,hu,z6,l3⟩ ?_
 rintro _ H4 ⟨s,q',f',b',uy,rfl,sI,DA,WE,l4⟩
 obtain⟨sl,su,g4,_⟩:=l4.pg (i:=0) rfl
 refine Zg.mk (fun t H'=>H'=H4/\t.1=.bool (decide (s<es.length/\q'.full=false))) ?_ ?_
 · rintro⟨t,u⟩ H5 ⟨rfl,ht⟩
   simp only at ht
   subst ht
   rw[zb]
   refine⟨fun hc=>?_,fun hc=>?_⟩
   · obtain⟨hc,uz⟩:=hc
     have hed:es.drop s=es[s] :: es.drop (s+1):=jF hc
     have uL:es[s]∈es:=ju hc
     have lP:(es.map yh)[s]?=some (yh es[s]):=by rw[dR,bU hc];rfl
     generalize es[s]=e at hed uL lP
     rw[hed]at sI
     rw[YD,aH (by rw[uz];decide)]at sI
     obtain⟨bb,o,ha,_,kE⟩:=(hs H5 l4.kp).el lP
     have hr:=kE 0 2 (by omega)
     rw[ha,za,show(⟨bb,o,none⟩:Addr)=⟨bb,o+0,none⟩ from rfl,hr,za,show(yh e).extract 0 (0+2)=yh e from rfl]
     refine aaq (AB e uL).1 (AB e uL).2 fun H6 e6=>?_
     simp only[zq,fR,dU,gH,za]
     refine(l4.ext e6).jc fun b4 H7 _ l7=>?_
     have hx:=wL e
     refine l7.jE (i:=4) rfl (yU 16) hx.size hx.ok fun H8 l8=>?_
     have ho:s*16 % 1024+16<=1024:=by omega
     refine zF.mk (fun t H'=>∃ (i:Nat) (bi:jn),i<=16/\t=(zg i,())/\xd b' (rO e) (s*16 % 1024) i bi/\Lo O H H' [Zo m p q',.box b1 (zS f') 54,.box b2 (zS fun _=>0) 54,.box b3 bi 65,.box b4 (rO e) 237])
       (fun t _=>mi t.1 fun i=>(16 - i).toNat) ⟨0,b',by omega,rfl,xd.zero WE,l8⟩ ?_
     rintro _ H9 ⟨i,bi,hi,rfl,Gl,l9⟩
     rw[zk,za,zb]
     refine⟨fun kc=>?_,fun lA=>?_⟩
     · rw[zW,za,zd (by omega) (by omega),z7 (by decide),za,Zb (by omega),ze,za,zd (by omega) (by omega),zC (by omega),za,l9.ld (i:=4) rfl,aR,iX,hx.get (by omega),za,show((s:Int)*16 % 1024+(i:Int))=((s*16 % 1024+i:Nat):Int) by omega,zC (by omega),za,aR,iX]
       refine l9.st (i:=3) (j:=s*16 % 1024+i) (v:=.int .u8 (kv (rO e) i)) rfl (by rw[Gl.1.size];omega) rfl rfl fun mX mn=>?_
       rw[ze,za,zE,zr (by omega)]
       exact⟨⟨i+1,_,by omega,rfl,Gl.step hx (by omega) ho,mn⟩,by simp only[zu];omega⟩
     · have ei:i=16:=by omega
       subst ei
       have eb:=Gl.done WE hx ho
       refine Zg.mk (fun t H'=>H'=H9/\t.1=.bool (decide (s*16 % 1024=1008\/s+1=es.length))) ?_ ?_
       · rintro⟨t,u⟩ mN ⟨rfl,ht⟩
         simp only at ht
         subst ht
         rw[zb]
         refine⟨fun Gm=>?_,fun Gm=>?_⟩
         · rw[aU Gm]at sI
           rw[l9.je (i:=1) (n:=16) rfl (zt _),za,zW,za,zd (x:=(s:Int)*16) (by omega) (by omega),Zp (by decide),za,Zx (by omega),zd (x:=(s:Int)*16 / 1024) (by omega) (by omega),l9.je (i:=3) (n:=1024) rfl Gl.1.size,za,show(s:Int)*16 / 1024=((s*16 / 1024:Nat):Int) by omega]
           obtain⟨O9,ho9,L5⟩:=l9.call (i:=0) rfl
           refine Ez hm ho9 DA.fr DA.ino (by omega) Gl.1 fun tF O12 s12 Un=>?_
           have oC:=L5 tF _ O12 s12 Un
           rw[eb]at oC ⊢
           have hk:=Yh (idx:=(s*16 / 1024:Nat)) hm DA (show jR (ql b' s e) by rw[ql,<- eb];exact Gl.1)
           refine oC.jE (i:=1) rfl (zt _) (zt _) (ZA _) fun sD oM=>?_
           refine oM.jE (i:=3) rfl (by rw[<- eb];exact Gl.1.size) zw z6.ok fun By vh=>?_
           rw[ze,za,zE,zr (by omega)]
           exact⟨⟨s+1,_,_,zB,by omega,rfl,sI,hk,z6,vh.takeN 4⟩,by simp only[zu];omega⟩
         · rw[aH Gm]at sI
           rw[ze,za,zE,zr (by omega)]
           rw[eb]at l9
           exact⟨⟨s+1,_,_,ql b' s e,by omega,rfl,sI,DA,by rw[ql,<- eb];exact Gl.1,l9.takeN 4⟩,by simp only[zu];omega⟩
       · rw[zW,za,zd (by omega) (by omega),z7 (by decide),za,Zb (by omega),zp,za,zb]
         refine⟨fun h1=>⟨rfl,?_⟩,fun h1=>?_⟩
         · rw[gU (.inl (by omega))]
         · rw[(hs H9 l9.kp).j9 tH,za,bR,zP,za,zd (by omega) (by omega),zp,za]
           refine⟨rfl,?_⟩
           show Value.bool _=Value.bool _
           congr 1;rw[kr];omega
   · have acV:yl m es.length es 0 q f zB=(q',f'):=by
       rw[<- sI]
       by_cases hl:s<es.length
       · rw[jF hl]
         unfold yl
         have:q'.full=true:=by cases hq:q'.full with | true=>rfl | false=>exact absurd ⟨hl,hq⟩ hc
         rw[aU this]
       · rw[List.drop_eq_nil_of_le (by omega)];rfl
     rw[acV]at k
     rw[l4.je (i:=1) (n:=16) rfl (zt _),za]
     refine l4.ret (i:=2) rfl (zt _) (zt _) (ZA _) fun H' l'=>?_
     obtain⟨O',st,mq⟩:=l'.GF
     exact k H' O' st mq
 · rw[(hs H4 l4.kp).j9 tH,za,bR,zk,za,zb]
   refine⟨fun h1=>?_,fun h1=>⟨rfl,?_⟩⟩
   · rw[zi g4,pq,za,zx,za]
     refine⟨rfl,?_⟩
     show Value.bool _=Value.bool _
     congr 1
     cases q'.full
     · rw[gU ⟨by omega,rfl⟩];rfl
     · rw[cH (by simp)];rfl
   · show Value.bool _=Value.bool _
     congr 1
     rw[cH (fun hh=>by have:=hh.1;omega)]
end
theorem Lo.aaJ{S:Nat->Prop}{H0 H:Hp}{l:List Ob}(h:Lo S H0 H l){i:Nat}{x:Ob}(hi:l[i]?=some x):∃ O,x.at_ H O/\(∀ H',Kp O H H'->Kp S H0 H')/\∀ (H':Hp) (x':Ob) (O':Nat->Prop),kS O O' H H'->x'.at_ H' O'->Lo S H0 H' (l.set i x'):=by
 obtain⟨k,kP,w,hc⟩:=h;refine⟨_,w.get hi,fun H' k'=>k.tr k' (fun _ _ hb=>hb) fun b hb qO=>hc b hb ?_,fun H' x' O' s AQ=>?_⟩
 ·have qO:kP b=i+1:=qO;omega
 ·obtain⟨pM,w',hg⟩:=w.step hi s.kp AQ s.new;refine⟨k.tr s.kp (fun _ _ hb=>hb) fun b hb qO=>hc b hb ?_,pM,w',fun b hb hn=>hc b hb (by rw[<- hg b (jj hb k.le)];exact hn)⟩;have qO:kP b=i+1:=qO;omega
structure nL where
 lh:Int
 kind:Nat
 uJ:Int
 size:Int
 blocks:Int
 data:List (Int × jn)
 kA:List A1
def qe(t:nL)(dv sv:Value):Array Value:=#[zg t.lh,.int .u16 t.kind,zg t.uJ,zg t.size,zg t.blocks,dv,sv]
structure yv(t:nL):Prop where
 lh : -9223372036854775808<=t.lh/\t.lh<=9223372036854775807
 kind:t.kind<65536
 uJ : -9223372036854775808<=t.uJ/\t.uJ<=9223372036854775807
 size : -9223372036854775808<=t.size/\t.size<=9223372036854775807
 blocks : -9223372036854775808<=t.blocks/\t.blocks<=9223372036854775807
 adJ:t.data.length<281474976710656
 abl:t.kA.length<281474976710656
 data:∀ x∈t.data,(-9223372036854775808<=x.1/\x.1<=9223372036854775807)/\jR x.2
 kA:∀ e∈t.kA,e.1<65536/\e.2.size<9223372036854775808
def Yr(t:nL):kM:=fun j=>if j=0 then t.kind else if j=1 then(t.uJ % 65536).toNat else if j=2 then(t.size % 4294967296).toNat else 0
theorem Pc(a b c:Int):zo TP 54 [(0,.int .u16 a),(1,.int .u16 b),(2,.int .u32 c)]=some (.agg #[.int .u16 a,.int .u16 b,.int .u32 c,.int .u32 0,.int .u32 0,.int .u32 0,.int .u32 0,.int .u32 0,.int .u32 0,.int .u32 0,.int .u32 0,.int .u32 0,.int .u32 0,.int .u32 0,.int .u32 0,.int .u32 0]):=by kernel_rfl
theorem U3(x:Int):IntKind.u16.wrap x=((x % 65536).toNat:Int):=by
 simp[IntKind.wrap,IntKind.bits,IntKind.signed];omega
theorem U2(x:Int):IntKind.u32.wrap x=((x % 4294967296).toNat:Int):=by
 simp[IntKind.wrap,IntKind.bits,IntKind.signed];omega
theorem wz{t:nL}(h:yv t):lE (Yr t):=fun j hj=>by
 have:=h.kind;unfold Yr fw;by_cases h0:j=0
 ·subst h0;simp;omega
 ·by_cases h1:j=1
  ·subst h1;simp;omega
  ·by_cases h2:j=2
   ·subst h2;simp;omega
   ·rw[aH h0,aH h1,aH h2,aH (by omega)];omega
def Pg.afo(q:Pg)(a o:Nat)(f:kM):Pg:=q.ny a (zL (q.L.getD a zB) o (mP f))
noncomputable def yO(m:Pm)(q:Pg)(t:nL):Pg × kM:=
 let r1:=if t.kind=2 then yl m t.kA.length t.kA 0 q (Yr t) zB else(q,Yr t)
 if t.kind=1 then YM m t.data r1.1 r1.2 else r1
noncomputable def Pg.item(m:Pm)(q:Pg)(t:nL):Pg:=
 if t.lh<1\/m.x.I<t.lh then⟨q.L,q.c,true⟩ else
 (yO m q t).1.afo (m.x.nodeAt.toNat+t.lh.toNat / 16) (64*(t.lh.toNat % 16)) (yO m q t).2
def Zr(m:Pm)(q:Pg):Prop:=∀ k,q.c<=k->k<m.n->q.L[m.kC k]?=some zB
theorem Zr.start{m:Pm}{q:Pg}(h:Zr m q){f:kM}(hf:∀ j,4<=j->f j=0):FR m q f fun _=>none:=
 ⟨fun i _=>hf _ (by omega),hf _ (by omega),hf _ (by omega),fun _ _ _ _ _=>rfl,fun _ _ _ hh=>(by cases hh),fun _ _ hh=>(by cases hh),fun _ _ _ hh=>(by cases hh),h⟩
theorem tl{m:Pm}(hm:qo m)(len:Nat):∀ (l:List A1) (s:Nat) (q:Pg) (f:kM) (b:jn),jR b->Fw m q f->Fw m (yl m len l s q f b).1 (yl m len l s q f b).2
 | [],_,_,_,_,_,h=>h
 | e :: l,s,q,f,b,hb,h=>by
  have hp:jR (ql b s e):=(yc hb.n (wL e) (by omega)).b;rw[YD];split
  ·exact h
  ·split
   ·exact tl hm len l _ _ _ _ z6 (Yh hm h hp)
   ·exact tl hm len l _ _ _ _ hp h
theorem y7{m:Pm}{d:Int × jn}{l:List (Int × jn)}{q:Pg}{f:kM}:YM m (d :: l) q f=if q.full then(q,f) else YM m l (Pg.file m q f d.1 d.2).1 (Pg.file m q f d.1 d.2).2:=rfl
theorem E9{m:Pm}(hm:qo m):∀ (l:List (Int × jn)) (q:Pg) (f:kM),(∀ x∈l,jR x.2)->Fw m q f->Fw m (YM m l q f).1 (YM m l q f).2
 | [],_,_,_,h=>h
 | d :: l,q,f,hl,h=>by
  rw[y7];split
  ·exact h
  ·exact E9 hm l _ _ (fun x hx=>hl x (dH _ hx)) (Yh hm h (hl d eH))
theorem Cw{m:Pm}(hm:qo m){q:Pg}{t:nL}(ht:yv t)(hq:nJ m q)(hz:q.full=false->Zr m q):Fw m (yO m q t).1 (yO m q t).2:=by
 have h0:Fw m q (Yr t):=⟨hq,fun hf=>⟨_,(hz hf).start fun j hj=>by unfold Yr;rw[aH (by omega),aH (by omega),aH (by omega)]⟩,wz ht⟩;have h1:Fw m (if t.kind=2 then yl m t.kA.length t.kA 0 q (Yr t) zB else(q,Yr t)).1 (if t.kind=2 then yl m t.kA.length t.kA 0 q (Yr t) zB else(q,Yr t)).2:=by
  split
  ·exact tl hm _ _ _ _ _ _ z6 h0
  ·exact h0
 unfold yO;simp only;split
 ·exact E9 hm _ _ _ (fun x hx=>(ht.data x hx).2) h1
 ·exact h1
section
variable{H:Hp}{R:Value->Hp->Prop}{m:Pm}{p:Nat}{q:Pg}{O:Nat->Prop}
theorem NV(hm:qo m){Lg Ig:Int}(hx:m.x=zf m.B Lg Ig)(hg:Zy m.B Lg Ig)(h:(Zo m p q).at_ H O)(hz:q.full=false->Zr m q){t:nL}(ht:yv t){dv sv:Value}(hd:∀ H',Kp O H H'->Sr 1025 H' dv (t.data.map zy))(hs:∀ H',Kp O H H'->Sr 2 H' sv (t.kA.map yh))
   (k:∀ H' O',kS O O' H H'->(Zo m p (Pg.item m q t)).at_ H' O'->R (.tuple #[]) H'):Fc TP 77 #[zD p,.agg (qe t dv sv)] H R:=by
 have hq:nJ m q:=h.1
 obtain⟨xP,xO,wI,xQ,vP,vO,gD⟩:=hg
 have hxI:m.x.I=Ig:=by rw[hx];rfl
 have hxN:m.x.nodeAt=1+Lg:=by rw[hx];rfl
 have c0:(qe t dv sv)[0]?=some (zg t.lh):=rfl
 have c1:(qe t dv sv)[1]?=some (.int .u16 t.kind):=rfl
 have c2:(qe t dv sv)[2]?=some (zg t.uJ):=rfl
 have c3:(qe t dv sv)[3]?=some (zg t.size):=rfl
 have c5:(qe t dv sv)[5]?=some dv:=rfl
 have c6:(qe t dv sv)[6]?=some sv:=rfl
 refine fn77 ?_
 simp only[sh77,Ul,UL,UA,Us,Ub,Uz,UI,Uf,Ui,Uk,Ug,Uu,Uj,Uo,Uv,U1,U0,ZE,rh,za,zm]
 refine(Lo.own h).jc fun b1 H1 _ l1=>?_
 simp only[zl,zc,aR,Nat.reduceAdd,za]
 refine Zg.mk (fun s H'=>H'=H1/\s.1=.bool (decide (t.lh<1\/m.x.I<t.lh))) ?_ ?_
 · rintro⟨s,u⟩ H2 ⟨rfl,KH⟩
   simp only at KH
   subst KH
   rw[zb]
   refine⟨fun hb=>?_,fun hb=>?_⟩
   · obtain⟨sl,su,_,_,_,_,stF,_⟩:=l1.pg (i:=0) rfl
     refine stF fun H3 l3=>?_
     obtain⟨O',st,mq⟩:=Lo.GF l3
     have k:=k H3 O' st
     unfold Pg.item at k
     rw[aU hb]at k
     exact k mq
   · have hI1:1<=t.lh:=by omega
     have hI2:t.lh<=Ig:=by omega
     rw[l1.ld (i:=1) rfl,c1,za,l1.ld (i:=1) rfl,c2,za,zz,za,l1.ld (i:=1) rfl,c3,za,zz,za,U3,U2,Pc,za]
     refine l1.jc fun b2 H4 _ l4=>?_
     have ef:(#[.int .u16 (t.kind:Int),.int .u16 ((t.uJ % 65536).toNat:Int),.int .u32 ((t.size % 4294967296).toNat:Int),.int .u32 0,.int .u32 0,.int .u32 0,.int .u32 0,.int .u32 0,.int .u32 0,.int .u32 0,.int .u32 0,.int .u32 0,.int .u32 0,.int .u32 0,.int .u32 0,.int .u32 0]:Array Value)=zS (Yr t):=rfl
     rw[ef]
     refine l4.jE (i:=2) rfl (zt _) (zt _) (ZA _) fun H5 l5=>?_
     have h0:Fw m q (Yr t):=⟨hq,fun hf=>⟨_,(hz hf).start fun j hj=>by unfold Yr;rw[aH (by omega),aH (by omega),aH (by omega)]⟩,wz ht⟩
     have h1:Fw m (if t.kind=2 then yl m t.kA.length t.kA 0 q (Yr t) zB else(q,Yr t)).1 (if t.kind=2 then yl m t.kA.length t.kA 0 q (Yr t) zB else(q,Yr t)).2:=by
       split
       · exact tl hm _ _ _ _ _ _ z6 h0
       · exact h0
     have Wv:yO m q t=if t.kind=1 then YM m t.data (if t.kind=2 then yl m t.kA.length t.kA 0 q (Yr t) zB else(q,Yr t)).1 (if t.kind=2 then yl m t.kA.length t.kA 0 q (Yr t) zB else(q,Yr t)).2 else(if t.kind=2 then yl m t.kA.length t.kA 0 q (Yr t) zB else(q,Yr t)):=rfl
     refine Zg.mk (fun _ H'=>Lo O H H' [Zo m p (if t.kind=2 then yl m t.kA.length t.kA 0 q (Yr t) zB else(q,Yr t)).1,.box b1 (qe t dv sv) 142,.box b2 (zS (if t.kind=2 then yl m t.kA.length t.kA 0 q (Yr t) zB else(q,Yr t)).2) 54]) ?_ ?_
     · intro s H6 l6
       generalize (if t.kind=2 then yl m t.kA.length t.kA 0 q (Yr t) zB else(q,Yr t))=r1 at h1 Wv l6
       obtain⟨q1,f1⟩:=r1
       simp only at h1 Wv l6
       refine zF.mk (fun s H'=>∃ (i:Nat) (q':Pg) (f':kM),i<=t.data.length/\s=(zg i,())/\(t.kind=1->YM m (t.data.drop i) q' f'=yO m q t)/\(t.kind≠1->(q',f')=yO m q t)/\Fw m q' f'/\Lo O H H' [Zo m p q',.box b1 (qe t dv sv) 142,.box b2 (zS f') 54])
         (fun s _=>mi s.1 fun i=>(t.data.length - i).toNat) ⟨0,q1,f1,by omega,rfl,fun hk=>by rw[Wv,aU hk];rfl,fun hk=>by rw[Wv,aH hk],h1,l6⟩ ?_
       rintro _ H7 ⟨i,q',f',hi,rfl,hk1,uA,DA,l7⟩
       obtain⟨sl,su,g7,_⟩:=l7.pg (i:=0) rfl
       refine Zg.mk (fun s H'=>H'=H7/\s.1=.bool (decide (i<t.data.length/\t.kind=1/\q'.full=false))) ?_ ?_
       · rintro⟨s,u⟩ H8 ⟨rfl,KH⟩
         simp only at KH
         subst KH
         rw[zb]
         refine⟨fun hc=>?_,fun hc=>?_⟩
         · obtain⟨hc,Wr,uz⟩:=hc
           have hed:t.data.drop i=t.data[i] :: t.data.drop (i+1):=jF hc
           have uL:t.data[i]∈t.data:=ju hc
           have lP:(t.data.map zy)[i]?=some (zy t.data[i]):=by rw[dR,bU hc];rfl
           generalize t.data[i]=e at hed uL lP
           have agW:=hk1 Wr
           rw[hed,y7,aH (by rw[uz];decide)]at agW
           obtain⟨hev,heB⟩:=ht.data e uL
           obtain⟨bb,o,ha,lI,kE⟩:=(hd H8 l7.kp).el lP
           rw[l7.je (i:=2) (n:=16) rfl (zt _),za,l7.ld (i:=1) rfl,c5,za,ha,za,zc,za,lI 0 (by omega),yg,za,za,ha,za,zc,za,kE 1 1024 (by omega),za,EU heB]
           obtain⟨O7,ho7,NK⟩:=l7.call (i:=0) rfl
           refine Ez hm ho7 DA.fr DA.ino hev heB fun H9 O9 s9 h9=>?_
           have l9:=NK H9 _ O9 s9 h9
           refine l9.jE (i:=2) rfl (zt _) (zt _) (ZA _) fun mX mn=>?_
           rw[ze,za,zE,zr (by have:=ht.adJ;omega)]
           exact⟨⟨i+1,_,_,by omega,rfl,fun _=>agW,fun hh=>absurd Wr hh,Yh hm DA heB,mn⟩,by simp only[zu];omega⟩
         · have D0:yO m q t=(q',f'):=by
             by_cases Wr:t.kind=1
             · rw[<- hk1 Wr]
               by_cases hl:i<t.data.length
               · rw[jF hl,y7]
                 have:q'.full=true:=by cases hqf:q'.full with | true=>rfl | false=>exact absurd ⟨hl,Wr,hqf⟩ hc
                 rw[aU this]
               · rw[List.drop_eq_nil_of_le (by omega)];rfl
             · exact(uA Wr).symm
           rw[l7.je (i:=2) (n:=16) rfl (zt _),za]
           refine aar DA.ino fun mN Br=>?_
           refine(l7.ext Br).jc fun b3 tF _ oC=>?_
           have hxe:=ZG f'
           refine oC.jE (i:=3) rfl (yU 64) hxe.size hxe.ok fun sD oM=>?_
           have hB:m.B=(m.B:Int).toNat:=by omega
           obtain⟨a,ea⟩:∃ a:Nat,a=m.x.nodeAt.toNat+t.lh.toNat / 16:=⟨_,rfl⟩
           have haB:a<m.B:=by
             simp only[zf]at gD
             rw[ea,hxN];omega
           obtain⟨n,en⟩:∃ n:Nat,t.lh=n:=⟨t.lh.toNat,by omega⟩
           have hb0:=rL DA.ok a
           have ho:64*(n % 16)+64<=1024:=by omega
           have hlL:=DA.ok.len
           have Iz:q'.ny a (q'.L.getD a zB)=q':=xl (by rw[jr,bU (by omega)];rfl)
           refine zF.mk (fun s H'=>∃ (j:Nat) (bj:jn),j<=64/\s=(zg j,())/\xd (q'.L.getD a zB) (mP f') (64*(n % 16)) j bj/\Lo O H H' [Zo m p (q'.ny a bj),.box b1 (qe t dv sv) 142,.box b2 (zS f') 54,.box b3 (mP f') 104])
             (fun s _=>mi s.1 fun j=>(64 - j).toNat) ⟨0,q'.L.getD a zB,by omega,rfl,xd.zero hb0,by rw[Iz];exact oM⟩ ?_
           rintro _ By ⟨j,bj,hj,rfl,Gl,vh⟩
           rw[zk,za,zb]
           refine⟨fun kc=>?_,fun lA=>?_⟩
           · obtain⟨O14,akw,ajo⟩:=vh.call (i:=0) rfl
             obtain⟨apu,sl,su,alu⟩:=akw
             have lp:=Lo.open alu
             have gp:=lp.at (i:=0) rfl
             have hbj:(q'.ny a bj).L[a]?=some bj:=by
               show(q'.L.set a bj)[a]?=_
               rw[jX (by omega)]
             rw[zi gp,uZ,za,zi gp,NT,za,vh.ld (i:=1) rfl,c0,za,en,hxN,Zp (by decide),za,Zx (by omega),zd (by omega) (by omega),ze,za,zd (by omega) (by omega),za,z7 (by decide),za,Zb (by omega),zW,za,zd (by omega) (by omega),ze,za,zd (by omega) (by omega),zC (by omega),za,vh.ld (i:=3) rfl,aR,iX,hxe.get (by omega),za]
             obtain⟨bb,o,haa,mO⟩:=lp.BU (i:=1) (j:=a) (x:=64*(n % 16)+j) (u:=.int .u8 (kv (mP f') j)) (K:=fun DH=>Pu (z8 (some (.int .i64)) .add (zg j) (.int .i64 1)) fun x62=>(∃ (j:Nat) (bj:jn),j<=64/\(x62,())=(zg j,())/\xd (q'.L.getD a zB) (mP f') (64*(n % 16)) j bj/\Lo O H DH [Zo m p (q'.ny a bj),.box b1 (qe t dv sv) 142,.box b2 (zS f') 54,.box b3 (mP f') 104])/\mi x62 (fun j=>(64 - j).toNat)<mi (zg j) (fun j=>(64 - j).toNat)) rfl hbj (by omega) Gl.1.ok rfl rfl (fun DH pO=>by
               rw[ze,za,zE,zr (by omega)]
               obtain⟨O15,s15,als⟩:=Lo.close (l:=[_,_,_]) (r:=[]) pO
               have ahe:=Gl.step hxe (by omega) ho
               refine⟨⟨j+1,_,by omega,rfl,ahe,?_⟩,by simp only[zu];omega⟩
               refine ajo DH _ O15 s15 ⟨vW DA.ok a ahe.1,sl,su,?_⟩
               have e2:(q'.ny a bj).L.set a (bj.setIfInBounds (64*(n % 16)+j) (.int .u8 (kv (mP f') j)))=(q'.ny a (bj.setIfInBounds (64*(n % 16)+j) (.int .u8 (kv (mP f') j)))).L:=List.set_set ..
               rw[<- e2];exact als)
             rw[show(1+Lg+(n:Int) / 16)=((a:Nat):Int) by rw[ea,hxN,en];omega,haa,za,show(64*((n:Int) % 16)+(j:Int))=((64*(n % 16)+j:Nat):Int) by omega,zC (by omega),za,iX]
             exact mO
           · have ej:j=64:=by omega
             subst ej
             obtain⟨O',st,mq⟩:=Lo.GF vh
             have k:=k By O' st
             unfold Pg.item Pg.afo at k
             rw[aH hb,D0,en,jK]at k
             rw[Gl.done hb0 hxe ho,ea,en,jK]at mq
             exact k mq
       · rw[l7.ld (i:=1) rfl,c5,za,(hd H7 l7.kp).j9 yw,za,bR,zk,za,zb]
         refine⟨fun h2=>?_,fun h2=>⟨rfl,?_⟩⟩
         · rw[l7.ld (i:=1) rfl,c1,za,zp,za,zb]
           refine⟨fun h3=>?_,fun h3=>⟨rfl,?_⟩⟩
           · rw[zi g7,pq,za,zx,za]
             refine⟨rfl,?_⟩
             show Value.bool _=Value.bool _
             congr 1
             cases q'.full
             · rw[gU ⟨by omega,by omega,rfl⟩];rfl
             · rw[cH (by simp)];rfl
           · show Value.bool _=Value.bool _
             congr 1
             rw[cH (fun hh=>by have:=hh.2.1;omega)]
         · show Value.bool _=Value.bool _
           congr 1
           rw[cH (fun hh=>by have:=hh.1;omega)]
     · rw[l5.ld (i:=1) rfl,c1,za,zp,za,zb]
       refine⟨fun h2=>?_,fun h2=>?_⟩
       · have h2:t.kind=2:=by omega
         rw[aU h2]
         rw[l5.je (i:=2) (n:=16) rfl (zt _),za,l5.ld (i:=1) rfl,c6,za]
         obtain⟨O5,ho5,kk5,Hq⟩:=l5.aaJ (i:=0) rfl
         refine Rb hm ho5 h0 ht.kA ht.abl (fun H' Oj=>hs H' (kk5 H' Oj)) fun NC O16 s16 h16=>?_
         have PI:=Hq NC _ O16 s16 h16
         refine PI.jE (i:=2) rfl (zt _) (zt _) (ZA _) fun XB XV=>?_
         exact XV
       · rw[aH (by omega)]
         exact l5
 · rw[l1.ld (i:=1) rfl,c0,za,zk,za,zb]
   refine⟨fun h2=>⟨rfl,?_⟩,fun h2=>?_⟩
   · rw[gU (.inl h2)]
   · obtain⟨sl,su,g1,_⟩:=l1.pg (i:=0) rfl
     rw[za,zi g1,NU,za,zJ,za]
     refine⟨rfl,?_⟩
     show Value.bool _=Value.bool _
     congr 1;rw[kr];omega
end
noncomputable def Y3:Nat->List jn->List (Int × jn)
 | _,[]=>[]
 | k,c :: l=>if c=zB then Y3 (k+1) l else((k:Int),c) :: Y3 (k+1) l
theorem Ye{k:Nat}{c:jn}{l:List jn}:Y3 k (c :: l)=if c=zB then Y3 (k+1) l else((k:Int),c) :: Y3 (k+1) l:=rfl
theorem wC:∀ (l:List jn) (k:Nat),(Y3 k l).length<=l.length
 | [],_=>iU _
 | c :: l,k=>by
  have:=wC l (k+1);unfold Y3;split<;>simp only[gR]<;>omega
theorem Iw:∀ (l r:List jn) (k:Nat),Y3 k (l++r)=Y3 k l++Y3 (k+l.length) r
 | [],r,k=>rfl
 | c :: l,r,k=>by
  rw[sG,Ye,Ye,Iw l r (k+1),gR,show k+1+l.length=k+(l.length+1) by omega];split<;>rfl
section
variable{P:Program}{S:Nat->Prop}{H0 H:Hp}{l:List Ob}
theorem Lo.qY{e:ZX}{ty T n GZ:Nat}{K:Value->Hp->Prop}(h:Lo S H0 H l)(he:zQ P ty=some e)(hf:e.type=T/\e.size=n/\e.zero.size=n/\e.bytes=GZ){i:Nat}{s v:Value}{c:Array Value}{vs:List (Array Value)}(hi:l[i]?=some (.sl T n s vs))(hv:v.cells=c)(hn:0<n/\n<=2 ^ 24)(AE:0<GZ)(hc:c.size=n)(kD:zv c)
   (nu:(vs.length+1)*GZ<=2 ^ 47) (k:∀ s' H',Lo S H0 H' (l.set i (.sl T n s' (vs++[c])))->K s' H'):Pu (zQ P ty) fun x=>Pu (zT (some x) 1 [(0,v)]) fun cs=>nK x.type 1 cs H fun x2 H2=>mD (zQ P ty) s x2 H2 K:=by
 obtain⟨f1,f2,f3,f4⟩:=hf
 rw[he,za,YS (by omega) (by omega) (by rw[hv,hc,f2]),za,hv]
 exact h.alY hi f1 f2 f3 (by omega) hc kD (by rw[f4];exact nu) k
end
theorem A2:ZZ TP 81=some (.agg #[zg 0,.slice none 0 0]):=by kernel_rfl
theorem TE(n:Int):zo TP 81 [(0,zg n)]=some (.agg #[zg n,.slice none 0 0]):=by kernel_rfl
theorem Pd:zo TP 81 []=some (.agg #[zg 0,.slice none 0 0]):=by kernel_rfl
section
variable{H:Hp}{R:Value->Hp->Prop}
theorem RV{sl:Value}{L:List jn}(hs:Sv 65 1024 H sl L)(hL:∀ c∈L,jR c)(hlen:L.length<=1048576)
   (k:∀ H' dv,Ext H H'->oh H H' (.sl 149 1025 dv ((Y3 0 L).map zy))->R (.agg #[zg L.length,dv]) H'):Fc TP 81 #[sl] H R:=by
 refine fn81 ?_
 simp only[sh81,Ul,UL,UA,Us,Ub,Uz,Uw,Ui,Ug,Uo,Uv,A2,yP,hs.j9 LY,TE,za,zm]
 refine(Lo.start _ H:Lx H H []).jc fun b1 H1 _ l1=>?_
 refine l1.jc fun b2 H2 _ l2=>?_
 refine l2.jE (i:=1) (vs:=#[zg L.length,.slice none 0 0]) rfl rfl rfl (by unfold zv;rw[<- iV];rfl) fun H3 l3=>?_
 have l3:=l3.nt 149 1025
 have q1:=pz
 refine zF.mk (fun t H'=>∃ (i:Nat) (dv:Value),i<=L.length/\t=(zg i,())/\Lx H H' [.box b1 #[zg 0,.slice none 0 0] 81,.box b2 #[zg L.length,dv] 81,.sl 149 1025 dv ((Y3 0 (L.take i)).map zy)])
   (fun t _=>mi t.1 fun i=>(L.length - i).toNat) ⟨0,.slice none 0 0,by omega,rfl,l3⟩ ?_
 rintro _ H4 ⟨i,dv,hi,rfl,l4⟩
 have s4:=hs.ext l4.iZ
 rw[zk,za,zb]
 refine⟨fun kc=>?_,fun lA=>?_⟩
 · have kI:i<L.length:=by omega
   have hLi:L[i]?=some L[i]:=bU kI
   have hc:=hL _ (ju kI)
   have mR:L.take (i+1)=L.take i++[L[i]]:=fU kI
   have htl:(L.take i).length=i:=by rw[mg];omega
   generalize L[i]=c at hLi hc mR
   obtain⟨b,o,ha,hr⟩:=s4.row hLi
   rw[ha,za,hr,za,Yy,eqB HE hc z6,iR,za,Zm]
   have Se:Y3 0 (L.take (i+1))=if c=zB then Y3 0 (L.take i) else Y3 0 (L.take i)++[((i:Int),c)]:=by
     rw[mR,Iw,htl,aR,Ye]
     split
     · exact jY _
     · rfl
   refine⟨fun jZ=>?_,fun heq=>?_⟩
   · rw[aH (by simpa using jZ)]at Se
     have Wp:=wC (L.take i) 0
     rw[htl]at Wp
     rw[zc,za,l4.ld (i:=1) rfl]
     show Pu (some dv) _
     rw[za,za,hr,za,YE hc,za,zj]
     intro H5 e5
     rw[ti,za,YS (by rw[q1.2.1];decide) (by rw[q1.2.1];decide) (by rw[zI,zZ (x:=((i:Int),c)) hc,q1.2.1]),za]
     refine pK fun b6 H6 hb6 e6 s6 g6=>?_
     rw[zj]
     intro H7 e7
     refine(l4.ext (e5.trans (e6.trans e7))).app (i:=2) (us:=[zy ((i:Int),c)]) rfl q1.1 q1.2.1 q1.2.2.1 (by rw[q1.2.2.2];decide) (Sv.single (e7.at g6) (zZ (x:=((i:Int),c)) hc)) (by simpa using Z8 (x:=((i:Int),c)) hc) (by
       rw[q1.2.2.2,bR];simp only[gR,jW];omega) fun dv' H8 l8=>?_
     rw[za,zj]
     intro H9 e9
     have lT:=((l8.ext e9).sv (i:=2) rfl).one
     refine(l8.ext e9).st (i:=1) (j:=1) (v:=dv') rfl (by simp) lT.2 lT.1 fun mX mn=>?_
     rw[zj]
     intro mN Br
     rw[ze,za,zE,zr (by omega)]
     refine⟨⟨i+1,dv',by omega,rfl,?_⟩,by simp only[zu];omega⟩
     rw[Se,cU]
     exact mn.ext Br
   · rw[aU (by simpa using heq)]at Se
     rw[ze,za,zE,zr (by omega)]
     refine⟨⟨i+1,dv,by omega,rfl,?_⟩,by simp only[zu];omega⟩
     rw[Se];exact l4
 · have ei:i=L.length:=by omega
   subst ei
   rw[jk]at l4
   have lT:=(l4.sv (i:=2) rfl).one
   rw[l4.je (i:=1) (n:=2) rfl rfl,za]
   refine l4.ret (i:=0) rfl rfl rfl (by unfold zv;rw[<- iV];simp[lT.2];rfl) fun H' l'=>?_
   exact k H' dv l'.iZ (l'.nY (i:=2) rfl)
end
theorem kh.Ns(x:kh):zv x.cells:=kh.ok x
def xz(x:kh):Nat->Int
 | 0=>x.B
 | 1=>x.L
 | 2=>x.I
 | 3=>x.logAt
 | 4=>x.nodeAt
 | 5=>x.kO
 | 6=>x.lM
 | 7=>x.lF
 | _=>x.kb
theorem Cb(x:kh):∀ i,i<9->x.cells[i]?=some (zg (xz x i))
 | 0,_ | 1,_ | 2,_ | 3,_ | 4,_ | 5,_ | 6,_ | 7,_ | 8,_=>rfl
 | n+9,h=>by omega
theorem Mv{B L I:Int}(hg:Zy B L I):∀ i,0<=xz (zf B L I) i/\xz (zf B L I) i<=1048576:=by
 obtain⟨h1,h2,h3,h4,h5,h6,h7⟩:=hg;simp only[zf]at h7;intro i
 match i with
 | 0 | 1 | 2 | 3 | 4 | 5 | 6 | 7=>simp only[xz,zf];omega
 | n+8=>simp only[xz,zf];omega
def RA:ByteArray:=⟨#[99,114,111,102,116,102,115,49]⟩
def V1:Nat->jn
 | 0=>zB
 | i+1=>(V1 i).setIfInBounds i (.int .u8 (sb RA i))
theorem F7:∀ i,jR (V1 i)
 | 0=>z6
 | i+1=>(F7 i).set i (XQ _ _)
def DL(x:kh):Nat->jn
 | 0=>V1 8
 | i+1=>nW (DL x i) (8+4*i) 4 (xz x i).toNat
theorem qv(x:kh):∀ i,jR (DL x i)
 | 0=>F7 8
 | i+1=>(Y9 _ _ _ (qv x i).n).b
def yb(x:kh):jn:=DL x 9
theorem Hi(x:kh):∀ n,n<=9->∀ i,i<n->nQ (DL x n) (8+4*i) 4=(xz x i).toNat % 4294967296
 | 0,_,_,h=>by omega
 | n+1,hn,i,hi=>by
  unfold DL;by_cases e:i=n
  ·subst e;exact Ga (qv x i).n (by omega) _
  ·rw[qE (qv x n).n (by omega) _ (by omega)];exact Hi x n (by omega) i (by omega)
theorem XE:ZZ TP 198=some (.agg vQ):=by kernel_rfl
theorem adQ(a b c d e f g h i:Int):zo TP 198 [(0,zg a),(1,zg b),(2,zg c),(3,zg d),(4,zg e),(5,zg f),(6,zg g),(7,zg h),(8,zg i)]=some (.agg (kh.cells ⟨a,b,c,d,e,f,g,h,i⟩)):=by kernel_rfl
section
variable{H:Hp}{R:Value->Hp->Prop}
theorem M6{B L I:Int}(hB : -9223372036854775808<=B/\B<=9223372036854775807)(hg:Zy B L I)(h:∀ H',Ext H H'->R (.bool true) H'):Fc TP 124 #[.agg (zf B L I).cells] H R:=by
 refine fn124 ?_;simp only[sh124,UL,UA,Us,Ub,Uz,Ux,Uf,Uv,U0,yq,za];refine(Lo.start _ H:Lx H H []).jc fun b1 H1 _ l1=>?_;rw[zc,za,Za (l1.at (i:=0) rfl) (show 0+3<=(zf B L I).cells.size from by rw[kh.size];decide),za,show((zf B L I).cells.extract (0+0) (0+0+3))=#[zg B,zg L,zg I] from by simp[kh.cells,zf]];refine of3 hB (fun H2 e2 _=>?_) (fun H2 e2 kG=>absurd hg kG);simp only[zq,fR,dU,gH,za];refine(l1.ext e2).jc fun b3 H3 _ l3=>?_;refine l3.jE (i:=1) rfl rfl (kh.size _) (kh.Ns _) fun H4 l4=>?_;simp only[zp,za,decide_true,zA];rw[l4.je (i:=1) (n:=9) rfl (kh.size _),za,l4.je (i:=0) (n:=9) rfl (kh.size _),za,YX,vA,iR,za];exact h H4 l4.iZ
theorem Rn(x:kh)(h:∀ H',Ext H H'->R (.agg x.cells) H'):Fc TP 125 #[.agg x.cells] H R:=by
 refine fn125 ?_;simp only[sh125,Ul,UL,UA,Us,Uz,XE,za];refine(Lo.start _ H:Lx H H []).jc fun b1 H1 _ l1=>?_;refine l1.jc fun b2 H2 _ l2=>?_;have g:=fun i hi=>(zi (l2.at (i:=0) rfl)).trans (Cb x i hi);simp only[zc,aR,bH,za];rw[g 0 (by omega),g 1 (by omega),g 2 (by omega),g 3 (by omega),g 4 (by omega),g 5 (by omega),g 6 (by omega),g 7 (by omega),g 8 (by omega)];simp only[za,adQ];exact l2.ret (i:=1) rfl rfl (kh.size _) (kh.Ns _) fun H' l'=>h H' l'.iZ
theorem adC{B L I:Int}(hB : -9223372036854775808<=B/\B<=9223372036854775807)(hg:Zy B L I)(k:∀ H',Ext H H'->R (.tuple #[.agg (yb (zf B L I)),zg 0]) H'):Fc TP 78 #[.agg (zf B L I).cells] H R:=by
 have KK:=Mv hg;refine fn78 ?_;simp only[sh78,Ul,UL,Us,Ub,Uz,Uf,Uk,Ug,Uu,Uo,Uv,ZI,yP,XE,za,zm];refine(Lo.start _ H:Lx H H []).jc fun b1 H1 _ l1=>?_;refine l1.jc fun b2 H2 _ l2=>?_;rw[l2.je (i:=0) (n:=9) rfl (kh.size _),za];refine M6 hB hg fun H3 e3=>?_;rw[zx,za,iW,zh];refine(l2.ext e3).jc fun b3 H5 _ l5=>?_;refine zF.mk (fun t H'=>∃ i:Nat,i<=8/\t=(zg i,())/\Lx H H' [.box b1 (zf B L I).cells 62,.box b2 zB 65,.box b3 (V1 i) 65])
  (fun t _=>mi t.1 fun i=>(8 - i).toNat) ⟨0,by omega,rfl,l5⟩ ?_
 rintro _ H6 ⟨i,hi,rfl,l6⟩;rw[show j9 TP 9 (.string ⟨#[99,114,111,102,116,102,115,49]⟩)=some (zg 8) from FI RA,za,zk,za,zb];refine⟨fun kc=>?_,fun lA=>?_⟩
 ·rw[show xK TP 9 (.string ⟨#[99,114,111,102,116,102,115,49]⟩) (zg i)=some (.int .u8 (sb RA i)) from FJ (show i<RA.size from by show i<8;omega),za,zC (by omega),za,aR,iX];refine l6.st (i:=2) (j:=i) (v:=.int .u8 (sb RA i)) rfl (by rw[(F7 i).size];omega) rfl rfl fun H7 l7=>?_;rw[ze,za,zE,zr (by omega)];exact⟨⟨i+1,by omega,rfl,l7⟩,by simp only[zu];omega⟩
 ·have ei:i=8:=by omega
  subst ei;rw[l6.je (i:=0) (n:=9) rfl (kh.size _),za];refine Rn _ fun H8 e8=>?_;refine(l6.ext e8).jc fun b4 H9 _ l9=>?_;refine l9.jE (i:=3) rfl rfl (kh.size _) (kh.Ns _) fun mX mn=>?_;refine zF.mk (fun t H'=>∃ i:Nat,i<=9/\t=(zg i,())/\Lx H H' [.box b1 (zf B L I).cells 62,.box b2 zB 65,.box b3 (DL (zf B L I) i) 65,.box b4 (zf B L I).cells 198])
   (fun t _=>mi t.1 fun i=>(9 - i).toNat) ⟨0,by omega,rfl,mn⟩ ?_
  rintro _ mN ⟨i,hi,rfl,lO⟩;rw[zk,za,zb];refine⟨fun kc=>?_,fun lA=>?_⟩
  ·have Wn:=KK i;obtain⟨v,ev⟩:∃ v:Nat,xz (zf B L I) i=v:=⟨(xz (zf B L I) i).toNat,by omega⟩;rw[zC (by omega),za,lO.ld (i:=3) rfl,aR,iX,Cb _ i (by omega),za,ev];have CC:=qv (zf B L I) i;have AB:DL (zf B L I) (i+1)=nW (DL (zf B L I) i) (8+4*i) 4 v:=by
    show nW _ _ _ (xz (zf B L I) i).toNat=_;rw[ev,jK]
   generalize hcc:DL (zf B L I) i=c at CC AB lO;refine zF.mk (fun t H'=>∃ (j:Nat) (cj:jn) (vj:Nat),j<=4/\vj<9223372036854775808/\jR cj/\nW cj (8+4*i+j) (4 - j) vj=nW c (8+4*i) 4 v/\t=(zg vj,zg j,())/\Lx H H' [.box b1 (zf B L I).cells 62,.box b2 zB 65,.box b3 cj 65,.box b4 (zf B L I).cells 198])
    (fun t _=>mi t.2.1 fun j=>(4 - j).toNat) ⟨0,c,v,by omega,by omega,CC,rfl,rfl,lO⟩ ?_
   rintro _ tF ⟨j,cj,vj,hj,hvj,hcj,he,rfl,oC⟩;rw[zk,za,zb];refine⟨fun CJ=>?_,fun IC=>?_⟩
   ·rw[zW,za,zd (by omega) (by omega),ze,za,zd (by omega) (by omega),ze,za,zd (by omega) (by omega),z7 (by decide),za,zz,za,L1,show(8:Int)+4*(i:Int)+(j:Int)=((8+4*i+j:Nat):Int) by omega,zC (by omega),za,aR,iX];refine oC.st (i:=2) (j:=8+4*i+j) (v:=.int .u8 (vj % 256:Nat)) rfl (by rw[hcj.size];omega) rfl rfl fun sD oM=>?_;rw[Zp (by decide),za,FV,zr (by omega),ze,za,zE,zr (by omega)];refine⟨⟨j+1,_,vj / 256,by omega,by omega,hcj.set _ (m:=vj % 256) (kV _ (by omega)),?_,rfl,oM⟩,by simp only[zu];omega⟩;rw[<- he,show 4 - j=(4 - (j+1))+1 by omega];rfl
   ·have ej:j=4:=by omega
    subst ej;have he:cj=nW c (8+4*i) 4 v:=he;rw[ze,za,zE,zr (by omega)];refine⟨⟨i+1,by omega,rfl,?_⟩,by simp only[zu];omega⟩;rw[AB,<- he];exact oC
  ·have ei:i=9:=by omega
   subst ei;have CC:=qv (zf B L I) 9;rw[lO.je (i:=2) (n:=1024) rfl CC.size,za];exact lO.ret (i:=1) (K:=fun x H4=>R (.tuple #[x,zg 0]) H4) rfl zw CC.size CC.ok fun H' l'=>k H' l'.iZ
end
section
variable{S:Nat->Prop}{H0 H:Hp}{l:List Ob}
theorem Lo.pick(h:Lo S H0 H l)(idx:List Nat)(lj:idx.Nodup)(kc:∀ i∈idx,i<l.length):Lo S H0 H (idx.map fun i=>l.getD i .no):=by
 obtain⟨k,kP,w,hc⟩:=h;have key:∀ (i j:Nat),idx[i]?=some j->∃ x,l[j]?=some x/\(idx.map fun i=>l.getD i .no)[i]?=some x:=fun i j hj=>by
  have h1:=kc j (jV hj);refine⟨l[j],bU h1,?_⟩;rw[dR,hj,iR,jr,bU h1];rfl
 have uniq:∀ {i i' j:Nat},idx[i]?=some j->idx[i']?=some j->i=i':=fun {i i' j} h1 h2=>by
  have hi:i<idx.length:=by
   rcases jx i idx.length with h | h
   ·exact h
   ·rw[eR h]at h1;cases h1
  exact(List.getElem?_inj hi lj).1 (h1.trans h2.symm)
 have ex:∀ b:Nat,(∃ i j:Nat,idx[i]?=some j/\kP b=j+1)->∃ n:Nat,∀ i j:Nat,idx[i]?=some j->kP b=j+1->n=i:=fun b ⟨i,j,h1,h2⟩=>⟨i,fun i' j' SE h2'=>by
  obtain rfl:j=j':=by omega
  exact uniq h1 SE⟩
 let pM:Nat->Nat:=fun b=>if hb:∃ i j:Nat,idx[i]?=some j/\kP b=j+1 then Classical.choose (ex b hb)+1 else 0
 have cv:∀ {b i j},idx[i]?=some j->(pM b=i+1↔kP b=j+1):=fun {b i j} EO=>by
  constructor
  ·intro hb;by_cases hx:∃ i j:Nat,idx[i]?=some j/\kP b=j+1
   ·obtain⟨i',j',h1,h2⟩:=hx;have e:pM b=Classical.choose (ex b ⟨i',j',h1,h2⟩)+1:=dif_pos ⟨i',j',h1,h2⟩;have e2:=Classical.choose_spec (ex b ⟨i',j',h1,h2⟩) i' j' h1 h2;have:i'=i:=by omega
    subst this;rw[EO]at h1;injection h1 with h1;omega
   ·have:pM b=0:=dif_neg hx;omega
  ·intro hb;have e:pM b=Classical.choose (ex b ⟨i,j,EO,hb⟩)+1:=dif_pos ⟨i,j,EO,hb⟩;have e2:=Classical.choose_spec (ex b ⟨i,j,EO,hb⟩) i j EO hb;omega
 have nz:∀ b,pM b≠0->kP b≠0:=fun b hb=>by
  by_cases hx:∃ i j:Nat,idx[i]?=some j/\kP b=j+1
  ·obtain⟨i',j',h1,h2⟩:=hx;omega
  ·exact absurd (dif_neg hx) hb
 refine⟨k,pM,⟨fun i x hx=>?_,fun b hb=>?_⟩,fun b hb hn=>hc b hb (nz b hn)⟩
 ·cases hj:idx[i]? with
  | none=>rw[dR,hj]at hx;cases hx
  | some j=>
   obtain⟨y,hy,T3⟩:=key i j hj;rw[hx]at T3;injection T3 with T3;subst T3;have ho:=w.get hy;exact x.frame ho (fun _ _=>rfl) (iU _) (fun b hb=>(cv hj).2 hb) fun b hb=>x.own ho b ((cv hj).1 hb)
 ·by_cases hz:pM b=0
  ·exact hz
  ·exact absurd (w.out b hb) (nz b hz)
theorem Lo.pack{r:List Ob}(h:Lo S H0 H (l++r)):Lo S H0 H (l++[.all r]):=by
 obtain⟨k,kP,w,hc⟩:=h;refine⟨k,fun b=>if kP b<=l.length then kP b else l.length+1,⟨fun i x hx=>?_,fun b hb=>by simp[w.out b hb]⟩,fun b hb hn=>hc b hb fun e=>hn (by simp[e])⟩;by_cases hi:i<l.length
 ·rw[ko hi]at hx;have AQ:(l++r)[i]?=some x:=by rw[ko hi];exact hx
  have ho:=w.get AQ;refine x.frame ho (fun _ _=>rfl) (iU _) (fun b hb=>?_) fun b hb=>?_
  ·have hb:kP b=i+1:=hb;show(if kP b<=l.length then kP b else l.length+1)=i+1;rw[aU (by omega)];exact hb
  ·have hb:(if kP b<=l.length then kP b else l.length+1)=i+1:=hb;split at hb
   ·exact x.own ho b hb
   ·omega
 ·rw[jB (by omega)]at hx;cases hk:i - l.length with
  | succ n=>rw[hk]at hx;simp at hx
  | zero=>
   rw[hk]at hx;simp only[dU,iH]at hx;subst hx;obtain rfl:i=l.length:=by omega
   refine⟨⟨fun b=>kP b - l.length,⟨fun j y hy=>?_,fun b hb=>by rw[w.out b hb];omega⟩,fun b hb=>?_⟩,fun b hb=>?_⟩
   ·have hy':(l++r)[l.length+j]?=some y:=by rw[jB (by omega),Nat.add_sub_cancel_left];exact hy
    have ho:=w.get hy';refine y.frame ho (fun _ _=>rfl) (iU _) (fun b hb=>?_) fun b hb=>?_
    ·have hb:kP b=l.length+j+1:=hb;show kP b - l.length=j+1;omega
    ·have hb:kP b - l.length=j+1:=hb;exact y.own ho b (show kP b=l.length+j+1 by omega)
   ·have hb:kP b - l.length≠0:=hb;show(if kP b<=l.length then kP b else l.length+1)=l.length+1;rw[aH (by omega)]
   ·have hb:(if kP b<=l.length then kP b else l.length+1)=l.length+1:=hb;rcases jx b H.size with h1 | h1
    ·exact h1
    ·rw[w.out b h1]at hb;simp at hb
theorem Lo.make{P:Program}{e:ZX}{ty T n GZ Xd:Nat}{K:Value × Hp->Prop}(h:Lo S H0 H l)(he:zQ P ty=some e)(hf:e.type=T/\e.size=n/\e.zero.size=n/\e.bytes=GZ)(hl:Xd<=2 ^ 48)(AE:GZ*Xd<=2 ^ 47)(hn:n≠0)
   (k:∀ b H',Ext H H'->Lo S H0 H' (l++[.sl T n (.slice (some ⟨b,0,none⟩) Xd Xd) (List.replicate Xd e.zero)])->K (.slice (some ⟨b,0,none⟩) Xd Xd,H')):Pu (oQ (zQ P ty) (zg Xd) (zg Xd) H) K:=by
 obtain⟨f1,f2,f3,f4⟩:=hf
 rw[he]
 refine ab1 (P:=P) f1 f2 f3 hl (by rw[f4];exact AE) (.inr hn) fun b H' hb e' hs sv=>k b H' e' (h.add (O:=(·=b)) e' ⟨⟨sv,fun b' WE=>?_⟩,fun c hc=>by omega⟩ fun c hc=>by omega)
 simp only[ZH,iH]at WE
 exact WE.symm
end
noncomputable def eBk:ZX:=Ms (zQ TP 43)
noncomputable def eBo:ZX:=Ms (zQ TP 136)
theorem ahC:zQ TP 43=some eBk:=by kernel_rfl
theorem adE:zQ TP 136=some eBo:=by kernel_rfl
theorem aav:eBk.type=65/\eBk.size=1024/\eBk.zero.size=1024/\eBk.bytes=1024:=⟨by kernel_rfl,by kernel_rfl,by kernel_rfl,by kernel_rfl⟩
theorem aau:eBk.zero=zB:=by kernel_rfl
theorem S5:eBo.type=4/\eBo.size=1/\eBo.zero.size=1/\eBo.bytes=1:=⟨by kernel_rfl,by kernel_rfl,by kernel_rfl,by kernel_rfl⟩
theorem S4:eBo.zero=#[.bool false]:=by kernel_rfl
theorem Ny(a b c d e f g h i:Int)(b1 b2 n1 n2:Nat):zo TP 138 [(0,.agg (kh.cells ⟨a,b,c,d,e,f,g,h,i⟩)),(1,.slice (some ⟨b1,0,none⟩) n1 n1),(2,.slice (some ⟨b2,0,none⟩) n2 n2)]=some (.agg (B4 ⟨a,b,c,d,e,f,g,h,i⟩ (.slice (some ⟨b1,0,none⟩) n1 n1) (.slice (some ⟨b2,0,none⟩) n2 n2) 0 0 false)):=by kernel_rfl
def Am(H:Hp)(iv:Value)(kU:List nL):Prop:=∃ cs:List (Array Value),Sr 7 H iv cs/\cs.length=kU.length/\∀ (i:Nat) (t:nL),kU[i]?=some t->∃ dv sv,cs[i]?=some (qe t dv sv)/\Sr 1025 H dv (t.data.map zy)/\Sr 2 H sv (t.kA.map yh)
theorem Am.ext{H H':Hp}{iv:Value}{kU:List nL}(h:Am H iv kU)(e:Ext H H'):Am H' iv kU:=by
 obtain⟨cs,h1,h2,h3⟩:=h;exact⟨cs,h1.ext e,h2,fun i t hi=>by obtain⟨dv,sv,h4,h5,h6⟩:=h3 i t hi;exact⟨dv,sv,h4,h5.ext e,h6.ext e⟩⟩
noncomputable def zK(m:Pm):List nL->Pg->Pg
 | [],q=>q
 | t :: l,q=>if q.full then q else zK m l (Pg.item m q t)
theorem Z3{m:Pm}{t:nL}{l:List nL}{q:Pg}:zK m (t :: l) q=if q.full then q else zK m l (Pg.item m q t):=rfl
def nE(m:Pm):Pg:=⟨List.replicate m.B zB,0,false⟩
structure Bx(m:Pm)(B L I:Int):Prop where
 ok:qo m
 x:m.x=zf B L I
 B:(m.B:Int)=B
noncomputable def ui(m:Pm)(c sd a:Nat)(L:List jn):List jn:=
 if a<m.da\/(∃ k,k<c/\a=m.kC k) then L.set (m.x.lM.toNat+a / 8192) (FT (L.getD (m.x.lM.toNat+a / 8192) zB) (a % 8192))
 else if sd % 2=1/\a % 3=0 then L.set a (Av a sd) else L
noncomputable def qM(m:Pm)(c sd:Nat)(L:List jn):Nat->List jn
 | 0=>L
 | a+1=>ui m c sd a (qM m c sd L a)
noncomputable def ZW(m:Pm)(q:Pg)(sd:Nat):List jn:=
 if sd % 2=1 then(qM m q.c sd (q.L.set 0 (yb m.x)) m.B).set (m.x.logAt.toNat+1+sd % (m.x.L.toNat - 1)) (Av 1 sd) else qM m q.c sd (q.L.set 0 (yb m.x)) m.B
structure PS(m:Pm)(q:Pg):Prop where
 ok:nJ m q
 z:q.full=false->Zr m q
theorem B5{m:Pm}(hm:qo m):PS m (nE m):=⟨⟨by simp[nE],fun c hc=>by simp only[nE,List.mem_replicate]at hc;rw[hc.2];exact z6,mT _⟩,fun _ k _ hk=>by
 simp only[nE,mE,aU (m.nD hm k).2]⟩
theorem qg{m:Pm}{B L I:Int}(hm:Bx m B L I)(hg:Zy B L I){q:Pg}(h:PS m q){t:nL}(ht:yv t):PS m (Pg.item m q t):=by
 have hu:=Cw hm.ok ht h.ok h.z;unfold Pg.item;split
 ·exact⟨⟨h.ok.len,h.ok.is,h.ok.c⟩,fun hh=>by cases hh⟩
 ·refine⟨vW hu.ok _ (yc (rL hu.ok _).n (ZG _) (by omega)).b,fun hf k h1 h2=>?_⟩;obtain⟨a,ha⟩:=hu.fr hf;have hz:=ha.z k h1 h2;have hd:m.da=(zf B L I).kb:=by rw[<- hm.ok.da,hm.x]
  have hN:m.x.nodeAt=1+L:=by rw[hm.x];rfl
  have hI:m.x.I=I:=by rw[hm.x];rfl
  obtain⟨g1,g2,g3,g4,g5,g6,g7⟩:=hg;simp only[zf]at hd g7;have hb:=(m.nD hm.ok k).1;show((yO m q t).1.L.set _ _)[m.kC k]?=_;rw[jy (by omega)];exact hz
theorem Jt{m:Pm}{c sd:Nat}{L:List jn}(hL:∀ x∈L,jR x):∀ n,∀ x∈qM m c sd L n,jR x
 | 0=>hL
 | a+1=>fun x hx=>by
  have ih:=Jt (m:=m) (c:=c) (sd:=sd) hL a;simp only[qM,ui]at hx;have hg:∀ i,jR ((qM m c sd L a).getD i zB):=fun i=>by
   rw[jr];cases h:(qM m c sd L a)[i]? with
   | none=>exact z6
   | some y=>exact ih y (jV h)
  split at hx
  ·rcases lD hx with h1 | h1
   ·exact ih x h1
   ·rw[h1];exact vX (hg _) _
  ·split at hx
   ·rcases lD hx with h1 | h1
    ·exact ih x h1
    ·rw[h1];exact pV _ _
   ·exact ih x hx
theorem qX{m:Pm}{c sd:Nat}{L:List jn}:∀ n,(qM m c sd L n).length=L.length
 | 0=>rfl
 | a+1=>by
  simp only[qM,ui];split
  ·rw[lV,qX a]
  ·split
   ·rw[lV,qX a]
   ·exact qX a
theorem Mq{H:Hp}{p T T':Nat}{x x':kh}{sl su sl' su':Value}{tn nx tn' nx':Nat}{fl fl':Bool}(g:H[p]?=some (.cells (B4 x sl su tn nx fl) T))(g':H[p]?=some (.cells (B4 x' sl' su' tn' nx' fl') T')):sl=sl'/\su=su':=by
 rw[g]at g';injection g' with g';injection g' with g' _;have h9:=congrArg (fun c:Array Value=>c[9]?) g';have tY:=congrArg (fun c:Array Value=>c[10]?) g';simp only[uZ,B3]at h9 tY;injection h9 with h9;injection tY with tY;exact⟨h9,tY⟩
section
variable{S:Nat->Prop}{H0 H:Hp}{l:List Ob}{m:Pm}{p:Nat}{q:Pg}
theorem Lo.HI(h:Lo S H0 H l){i:Nat}(hi:l[i]?=some (Zo m p q)){x:kh}{sl su:Value}{tn nx T:Nat}{fl:Bool}(g:H[p]?=some (.cells (B4 x sl su tn nx fl) T)){a:Nat}(ha:a<m.B) :
   ∃ bb o,(∀ k,zG (some (none,1024)) sl (.int k a)=some (.pointer (some ⟨bb,o,none⟩)))/\(∀ {H'},Ext H H'->zX (some (some 1024)) (.pointer (some ⟨bb,o,none⟩)) H'=some (.agg (q.L.getD a zB))) /\
     ∀ {H'},Ext H H'->∀ {b:jn} {K:Hp->Prop},jR b->(∀ oZ,Lo S H0 oZ (l.set i (Zo m p (q.ny a b)))->K oZ)->Pu (zY (some 1024) (.pointer (some ⟨bb,o,none⟩)) (.agg b) H') K:=by
 obtain⟨sl1,su1,g1,sv1,_,hq,_,_⟩:=h.pg hi
 obtain⟨rfl,rfl⟩:=Mq g g1
 have hL:q.L[a]?=some (q.L.getD a zB):=by rw[jr,bU (by rw[hq.len];exact ha)];rfl
 obtain⟨bb,o,h1,h2⟩:=sv1.row hL
 refine⟨bb,o,h1,fun {H'} e=>EE e h2,fun {H'} e {b K} hb hk=>?_⟩
 obtain⟨sl2,su2,g2,_,_,_,_,stL⟩:=(h.ext e).pg hi
 obtain⟨rfl,rfl⟩:=Mq (e.at g) g2
 obtain⟨bb2,o2,h3,h4⟩:=stL ha hb hk
 have e2:=(h1 .i64).symm.trans (h3 .i64)
 injection e2 with e2;injection e2 with e2;injection e2 with e2;injection e2 with e3 e4
 subst e3 e4
 exact h4
end
theorem Qc:TP.underlying 24=some (.slice 142):=by kernel_rfl
section
variable{H:Hp}{R:Value->Hp->Prop}
def r6:Array Value:=#[zg 0,.slice none 0 0]
theorem Wi:zv r6:=by unfold zv;rw[<- iV];rfl
theorem MO{B L I:Int}(hB : -9223372036854775808<=B/\B<=9223372036854775807){iv:Value}{kU:List nL}(kH:Am H iv kU)(mY:∀ t∈kU,yv t)(hlen:kU.length<281474976710656){fr sp lB:Int}(CF : -9223372036854775808<=lB/\lB<=9223372036854775807)
   (k0:∀ H',Ext H H'->(Zy B L I->∃ m,Bx m B L I/\(zK m kU (nE m)).full=true)->R (.agg #[zg 0,.slice none 0 0]) H')
   (k:∀ H' dv m,Ext H H'->Zy B L I->Bx m B L I->(zK m kU (nE m)).full=false->oh H H' (.sl 149 1025 dv ((Y3 0 (ZW m (zK m kU (nE m)) (lB % 1000003).toNat)).map zy))->R (.agg #[zg B,dv]) H') :
   Fc TP 28 #[.agg #[zg B,zg L,zg I],.agg #[iv,zg fr,zg sp],zg lB] H R:=by
 refine fn28 ?_
 simp only[sh28,Ul,UL,UA,Us,Ub,Uz,Ux,UI,Uf,Uw,Ui,Ug,Uu,Uj,Uo,Uv,U1,U0,A2,yq,Pd,za,zm]
 refine(Lo.start _ H:Lx H H []).jc fun b1 H1 _ l1=>?_
 refine l1.jc fun b2 H2 _ l2=>?_
 refine l2.jc fun b3 H3 _ l3=>?_
 rw[l3.je (i:=0) (n:=3) rfl rfl,za]
 have fail:∀ {H':Hp} {l':List Ob},Lx H H' (.box b1 #[zg B,zg L,zg I] 23 :: .box b2 #[iv,zg fr,zg sp] 26 :: .box b3 r6 81 :: l')->(Zy B L I->∃ m,Bx m B L I/\(zK m kU (nE m)).full=true) ->
     Pu (zY (some 2) (.pointer (some ⟨b3,0,none⟩)) (.agg #[zg 0,.slice none 0 0]) H') fun H7=>Pu (zX (some (some 2)) (.pointer (some ⟨b3,0,none⟩)) H7) fun x=>R x H7:=fun l hf=>by
   exact l.ret (i:=2) rfl rfl rfl Wi fun H' l'=>k0 H' l'.iZ hf
 refine of3 hB (fun H4 e4 hg=>?_) (fun H4 e4 kG=>?_)
 rotate_left
 · simp only[zq,fR,dU,gH,za]
   refine(l3.ext e4).jc fun b4 H5 _ l5=>?_
   refine l5.jE (i:=3) rfl rfl rfl (LF ..) fun H6 l6=>?_
   rw[zn,za,show decide ((2:Int)≠0)=true from rfl,zA]
   exact fail l6 fun h=>absurd h kG
 simp only[zq,fR,dU,gH,za]
 refine(l3.ext e4).jc fun b4 H5 _ l5=>?_
 refine l5.jE (i:=3) rfl rfl (kh.size _) (kh.Ns _) fun H6 l6=>?_
 rw[zn,za,show decide ((0:Int)≠0)=false from rfl,zh]
 simp only[zl,zc,aR,za]
 obtain⟨xP,xO,wI,xQ,vP,vO,gD⟩:=id hg
 obtain⟨n0,WZ⟩:∃ n0:Nat,B=n0:=⟨B.toNat,by omega⟩
 have hda:(zf B L I).kb=1+L+(I+16) / 16+(B+8191) / 8192:=rfl
 have cX:∀ i,i<9->(zf B L I).cells[i]?=some (zg (xz (zf B L I) i)):=fun i hi=>Cb _ i hi
 refine Zg.mk (fun s H'=>∃ p sl su,s.1=zD p/\Lx H H' [.box b1 #[zg B,zg L,zg I] 23,.box b2 #[iv,zg fr,zg sp] 26,.box b3 r6 81,.box b4 (zf B L I).cells 62,.box p (B4 (zf B L I) sl su 0 0 false) 138,.sl 65 1024 sl (List.replicate n0 zB),.sl 4 1 su (List.replicate n0 #[.bool false])]) ?_ ?_
 rotate_left
 · rw[l6.je (i:=3) (n:=9) rfl (kh.size _),za,l6.ld (i:=0) rfl]
   show Pu (some (zg B)) _
   rw[za]
   show Pu (some (zg B)) _
   rw[za,WZ]
   have Wp:(1:Nat)*n0<=2 ^ 47:=by omega
   have T9:(1024:Nat)*n0<=2 ^ 47:=by omega
   refine⟨?_,?_,trivial⟩
   · rw[zj]
     intro H7 e7
     refine(l6.ext e7).make ahC aav (by omega) T9 (by omega) fun c1 H8 _ l8=>?_
     rw[zj]
     intro H9 e9
     refine(l8.ext e9).make adE S5 (by omega) Wp (by omega) fun c2 mX _ mn=>?_
     rw[aau,S4]at mn
     rw[show zo TP 138 [(0,.agg (zf (n0:Int) L I).cells),(1,.slice (some ⟨c1,0,none⟩) n0 n0),(2,.slice (some ⟨c2,0,none⟩) n0 n0)]=_ from Ny ..,za,zj]
     intro mN Br
     refine(mn.ext Br).jc fun p tF _ oC=>?_
     rw[zj]
     intro sD se
     refine⟨p,.slice (some ⟨c1,0,none⟩) n0 n0,.slice (some ⟨c2,0,none⟩) n0 n0,rfl,?_⟩
     have:=(oC.ext se).pick [0,1,2,3,6,4,5] (by decide) (by intro i hi;simp at hi;simp;omega)
     rw[WZ]at this
     exact this
   · rw[zj]
     intro H7 e7
     refine(l6.ext e7).make adE S5 (by omega) Wp (by omega) fun c2 H8 _ l8=>?_
     rw[zj]
     intro H9 e9
     refine(l8.ext e9).make ahC aav (by omega) T9 (by omega) fun c1 mX _ mn=>?_
     rw[aau,S4]at mn
     rw[show zo TP 138 [(0,.agg (zf (n0:Int) L I).cells),(1,.slice (some ⟨c1,0,none⟩) n0 n0),(2,.slice (some ⟨c2,0,none⟩) n0 n0)]=_ from Ny ..,za,zj]
     intro mN Br
     refine(mn.ext Br).jc fun p tF _ oC=>?_
     rw[zj]
     intro sD se
     refine⟨p,.slice (some ⟨c1,0,none⟩) n0 n0,.slice (some ⟨c2,0,none⟩) n0 n0,rfl,?_⟩
     have:=(oC.ext se).pick [0,1,2,3,6,5,4] (by decide) (by intro i hi;simp at hi;simp;omega)
     rw[WZ]at this
     exact this
 rintro⟨s,u⟩ H8 ⟨p,sl,su,hs,l8⟩
 simp only at hs
 subst hs
 simp only[zl,zc,aR,za]
 obtain⟨da,eda⟩:∃ da:Nat,(zf B L I).kb=da:=⟨(zf B L I).kb.toNat,by omega⟩
 have sZ:da<n0:=by omega
 rw[l8.ld (i:=0) rfl]
 show Pu (some (zg B)) _
 rw[za,l8.ld (i:=3) rfl,cX 8 (by omega),za]
 show Pu (z8 _ .sub (zg B) (zg (zf B L I).kb)) _
 rw[eda,WZ,zP,za,zd (by omega) (by omega),show(n0:Int) - (da:Int)=((n0 - da:Nat):Int) by omega]
 refine sW CF (by decide) (by decide) ?_
 obtain⟨sd,esd⟩:∃ sd:Nat,lB % 1000003=sd:=⟨(lB % 1000003).toNat,by have:=Int.emod_nonneg lB (show(1000003:Int)≠0 by decide);omega⟩
 have hsd:sd<1000003:=by have:=Int.emod_lt_of_pos lB (show(0:Int)<1000003 by decide);omega
 rw[esd,jK]at k
 rw[esd]
 obtain⟨n,hn⟩:∃ n,n=n0 - da:=⟨_,rfl⟩
 have Wm:0<n:=by omega
 rw[<- hn,z7 (by omega),za,Zb (by omega),<- XD]
 have akg:sd % n<n:=kV _ Wm
 refine l8.st (i:=4) (j:=12) (v:=zg (sd % n:Nat)) rfl (by rw[B2];omega) rfl rfl fun mX mn=>?_
 rw[Zp (by decide),za,Zx (by omega),zd (by omega) (by omega),z7 (by omega),za,Zb (by omega),ze,za,show(sd:Int) / 7 % (n:Int)=((sd / 7 % n:Nat):Int) by rw[XD,Int.natCast_ediv];rfl]
 have apg:sd / 7 % n<n:=kV _ Wm
 rw[zd (by omega) (by omega),show(1:Int)+((sd / 7 % n:Nat):Int)=((1+sd / 7 % n:Nat):Int) by omega]
 refine mn.st (i:=4) (j:=11) (v:=zg (1+sd / 7 % n:Nat)) rfl (by simp[B4]) rfl rfl fun mN lO=>?_
 refine zF.mk (fun _ H'=>∃ tn:Nat,1<=tn/\tn<=n+1/\Lx H H' [.box b1 #[zg B,zg L,zg I] 23,.box b2 #[iv,zg fr,zg sp] 26,.box b3 r6 81,.box b4 (zf B L I).cells 62,.box p (B4 (zf B L I) sl su tn (sd % n) false) 138,.sl 65 1024 sl (List.replicate n0 zB),.sl 4 1 su (List.replicate n0 #[.bool false])])
   (fun _ H'=>Tm H' p 11 fun x=>(n+1 - x).toNat) ⟨1+sd / 7 % n,by omega,by omega,lO⟩ ?_
 rintro _ tF ⟨tn,N9,PL,oC⟩
 rw[oC.ld (i:=4) rfl,we,za]
 refine Lh (a:=tn) (b:=n) (by omega) (by omega) ?_
 rw[zn,za,zb]
 refine⟨fun jZ=>?_,fun heq=>?_⟩
 · have jZ:Nat.gcd n tn≠1:=by omega
   have htl:tn≠n+1:=fun e=>jZ (by rw[e,Nat.gcd_self_add_right,Nat.gcd_one_right])
   rw[oC.ld (i:=4) rfl,we,za,ze,za,zE,zr (by omega)]
   have KR:=oC.at (i:=4) rfl
   refine oC.st (i:=4) (j:=11) (v:=zg (tn+1:Nat)) rfl (by rw[B2];omega) rfl rfl fun sD oM=>?_
   have af5:Lx H sD [.box b1 #[zg B,zg L,zg I] 23,.box b2 #[iv,zg fr,zg sp] 26,.box b3 r6 81,.box b4 (zf B L I).cells 62,.box p (B4 (zf B L I) sl su (tn+1) (sd % n) false) 138,.sl 65 1024 sl (List.replicate n0 zB),.sl 4 1 su (List.replicate n0 #[.bool false])]:=oM
   refine⟨⟨tn+1,by omega,by omega,af5⟩,?_⟩
   rw[ug KR we,ug (af5.at (i:=4) rfl) we]
   omega
 · have hco:Nat.gcd tn n=1:=by rw[Nat.gcd_comm];omega
   let m:Pm:=⟨zf B L I,n0,da,n,sd % n,tn⟩
   have hm:qo m:=⟨WZ,eda,by show n0=da+n;omega,Wm,by show 1<=da;omega,by show n0<=1048576;omega,akg,by show tn<=1048577;omega,hco⟩
   have hmo:Bx m B L I:=⟨hm,rfl,WZ.symm⟩
   have hgm:Zy m.B L I:=by show Zy (n0:Int) L I;rw[<- WZ];exact hg
   have hmx:m.x=zf m.B L I:=by show zf B L I=zf (n0:Int) L I;rw[<- WZ]
   have hP0:=B5 hm
   have oM:Lx H tF [.box b1 #[zg B,zg L,zg I] 23,.box b2 #[iv,zg fr,zg sp] 26,.box b3 r6 81,.box b4 (zf B L I).cells 62,Zo m p (nE m)]:=by
     have h1:=Lo.pack (l:=[.box b1 #[zg B,zg L,zg I] 23,.box b2 #[iv,zg fr,zg sp] 26,.box b3 r6 81,.box b4 (zf B L I).cells 62]) oC
     refine h1.nth (i:=4) (y:=Zo m p (nE m)) rfl fun O ho=>⟨hP0.ok,sl,su,?_⟩
     have e1:NF m (nE m).c=List.replicate n0 #[.bool false]:=by
       apply ku
       intro i
       by_cases hi:i<n0
       · rw[vS (show i<m.B from hi),mE,aU hi,cH]
         rintro⟨k,hk,_⟩
         exact absurd hk (Nat.not_lt_zero _)
       · rw[eR (by rw[A5];show n0<=i;omega),eR (by simp;omega)]
     have e2:sg m.n m.st m.tn (nE m).c=sd % n:=by
       show sg n (sd % n) tn 0=_
       unfold sg
       rw[An,bH,Nat.mod_mod]
     rw[e1,e2]
     exact ho
   clear oC lO mn l8
   refine zF.mk (fun t H'=>∃ (i:Nat) (q:Pg),i<=kU.length/\t=(zg i,())/\zK m (kU.drop i) q=zK m kU (nE m)/\PS m q/\Lx H H' [.box b1 #[zg B,zg L,zg I] 23,.box b2 #[iv,zg fr,zg sp] 26,.box b3 r6 81,.box b4 (zf B L I).cells 62,Zo m p q])
     (fun t _=>mi t.1 fun i=>(kU.length - i).toNat) ⟨0,nE m,by omega,rfl,rfl,hP0,oM⟩ ?_
   rintro _ DH ⟨i,q,hi,rfl,sI,hP,pO⟩
   obtain⟨cs,alb,lI,hci⟩:=id kH
   have Gk:=alb.ext pO.iZ
   obtain⟨sl',su',D9,_⟩:=pO.pg (i:=4) rfl
   refine Zg.mk (fun t H'=>H'=DH/\t.1=.bool (decide (i<kU.length/\q.full=false))) ?_ ?_
   rotate_left
   · rw[pO.ld (i:=1) rfl]
     show Pu (some iv) _
     rw[za,Gk.j9 Qc,za,lI,zk,za,zb]
     refine⟨fun h1=>?_,fun h1=>⟨rfl,?_⟩⟩
     · rw[zi D9,pq,za,zx,za]
       refine⟨rfl,?_⟩
       show Value.bool _=Value.bool _
       congr 1
       cases q.full
       · rw[gU ⟨by omega,rfl⟩];rfl
       · rw[cH (by simp)];rfl
     · show Value.bool _=Value.bool _
       congr 1
       rw[cH (fun hh=>by have:=hh.1;omega)]
   rintro⟨t,u⟩ NC ⟨rfl,ht⟩
   simp only at ht
   subst ht
   rw[zb]
   refine⟨fun hc=>?_,fun hc=>?_⟩
   · obtain⟨hc,uz⟩:=hc
     have hed:kU.drop i=kU[i] :: kU.drop (i+1):=jF hc
     have uL:kU[i]∈kU:=ju hc
     obtain⟨dv,sv,ahh,hdv,hsv⟩:=hci i kU[i] (bU hc)
     generalize kU[i]=t at hed uL ahh hdv hsv
     rw[hed,Z3,aH (by rw[uz];decide)]at sI
     obtain⟨bb,o,ha,hr⟩:=Gk.row ahh
     rw[pO.ld (i:=1) rfl]
     show Pu (some iv) _
     rw[za,ha,za,hr,za]
     obtain⟨O,ho,kk,st⟩:=pO.aaJ (i:=4) rfl
     refine NV hm hmx hgm ho hP.z (mY t uL) (dv:=dv) (sv:=sv) (fun H' hk=>hdv.ext ((kk H' hk).ext fun _ _=>id)) (fun H' hk=>hsv.ext ((kk H' hk).ext fun _ _=>id)) fun XB O17 s17 h17=>?_
     have XV:=st XB _ O17 s17 h17
     rw[ze,za,zE,zr (by omega)]
     exact⟨⟨i+1,_,by omega,rfl,sI,qg hmo hg hP (mY t uL),XV⟩,by simp only[zu];omega⟩
   · have D0:zK m kU (nE m)=q:=by
       rw[<- sI]
       by_cases hl:i<kU.length
       · rw[jF hl,Z3]
         have:q.full=true:=by cases hq:q.full with | true=>rfl | false=>exact absurd ⟨hl,hq⟩ hc
         rw[aU this]
       · rw[List.drop_eq_nil_of_le (by omega)];rfl
     rw[zi D9,pq,za,Zj]
     refine⟨fun Bl=>fail pO fun _=>⟨m,hmo,by rw[D0];exact Bl⟩,fun uz=>?_⟩
     have k:=fun H' dv hx=>k H' dv m hx hg hmo (by rw[D0];exact uz)
     rw[D0]at k
     have hqe:(⟨q.L,q.c,false⟩:Pg)=q:=by obtain⟨a,b,c⟩:=q;simp only at uz;subst uz;rfl
     have cX6:(zf B L I).cells[6]?=some (zg (zf B L I).lM):=rfl
     have cX8:(zf B L I).cells[8]?=some (zg (zf B L I).kb):=rfl
     have hba:(zf B L I).lM=1+L+(I+16) / 16:=rfl
     obtain⟨ba,eba⟩:∃ ba:Nat,(zf B L I).lM=ba:=⟨(zf B L I).lM.toNat,by omega⟩
     have ebn:m.x.lM.toNat=ba:=by show(zf B L I).lM.toNat=ba;rw[eba];rfl
     have hsB:jR (yb m.x):=qv _ 9
     have hB0:0<m.B:=by show 0<n0;omega
     refine Zg.mk (fun _ H'=>Lx H H' [.box b1 #[zg B,zg L,zg I] 23,.box b2 #[iv,zg fr,zg sp] 26,.box b3 r6 81,.box b4 (zf B L I).cells 62,Zo m p ⟨q.L.set 0 (yb m.x),q.c,false⟩]) ?_ ?_
     rotate_left
     · rw[pO.je (i:=3) (n:=9) rfl (kh.size _),za]
       refine⟨?_,?_,trivial⟩
       · rw[zi D9,uZ,za,zj]
         intro H40 e40
         refine adC hB hg fun H41 e41=>?_
         simp only[zq,fR,dU,gH,za]
         obtain⟨bb,o,ha,_,kH⟩:=(pO.ext (e40.trans e41)).HI (i:=4) rfl ((e40.trans e41).at D9) hB0
         have WG:=ha .i64
         rw[show((0:Nat):Int)=0 from rfl]at WG
         rw[WG,za,zj]
         intro H42 e42
         refine kH e42 hsB fun H43 l43=>?_
         rw[zj]
         intro H44 e44
         have:=l43.ext e44
         rw[<- hqe]at this
         exact this
       · rw[zj]
         intro H35 Gy
         refine adC hB hg fun H36 e36=>?_
         rw[zi ((Gy.trans e36).at D9),uZ,za]
         simp only[zq,fR,dU,gH,za]
         obtain⟨bb,o,ha,_,kH⟩:=(pO.ext (Gy.trans e36)).HI (i:=4) rfl ((Gy.trans e36).at D9) hB0
         have WG:=ha .i64
         rw[show((0:Nat):Int)=0 from rfl]at WG
         rw[WG,za,zj]
         intro H42 e42
         refine kH e42 hsB fun H43 l43=>?_
         rw[zj]
         intro H44 e44
         have:=l43.ext e44
         rw[<- hqe]at this
         exact this
     intro _ H19 l19
     refine zF.mk (fun t H'=>∃ a:Nat,a<=n0/\t=(zg a,())/\Lx H H' [.box b1 #[zg B,zg L,zg I] 23,.box b2 #[iv,zg fr,zg sp] 26,.box b3 r6 81,.box b4 (zf B L I).cells 62,Zo m p ⟨qM m q.c sd (q.L.set 0 (yb m.x)) a,q.c,false⟩])
       (fun t _=>mi t.1 fun a=>(n0 - a).toNat) ⟨0,by omega,rfl,l19⟩ ?_
     rintro _ NB ⟨a,ha,rfl,Iq⟩
     have GW:qM m q.c sd (q.L.set 0 (yb m.x)) (a+1)=ui m q.c sd a (qM m q.c sd (q.L.set 0 (yb m.x)) a):=rfl
     have vq:ZW m q sd=if sd % 2=1 then(qM m q.c sd (q.L.set 0 (yb m.x)) n0).set (m.x.logAt.toNat+1+sd % (m.x.L.toNat - 1)) (Av 1 sd) else qM m q.c sd (q.L.set 0 (yb m.x)) n0:=rfl
     obtain⟨sl2,su2,g20,afd,aji,acE,_,_⟩:=Iq.pg (i:=4) rfl
     rw[Iq.ld (i:=0) rfl]
     show Pu (some (zg B)) _
     rw[za,zk,za,zb]
     refine⟨fun kc=>?_,fun lA=>?_⟩
     · have kc:a<n0:=by omega
       unfold ui at GW
       rw[ebn]at GW
       generalize qM m q.c sd (q.L.set 0 (yb m.x)) a=La at GW Iq afd acE
       have CC:=vS (m:=m) (i:=a) kc q.c
       obtain⟨ub,uo,hua,hul⟩:=aji.cell CC (j:=0) (by omega)
       refine Zg.mk (fun t H'=>H'=NB/\t.1=.bool (decide (a<m.da\/∃ k,k<q.c/\a=m.kC k))) ?_ ?_
       rotate_left
       · rw[Iq.ld (i:=3) rfl,cX8,za,eda,zk,za,zb]
         refine⟨fun h1=>⟨rfl,?_⟩,fun h1=>?_⟩
         · rw[gU (.inl (by show a<da;omega))]
         · rw[zi g20,B3,za,hua,za,show(⟨ub,uo,none⟩:Addr)=⟨ub,uo+0,none⟩ from rfl,hul,fR,dU,za]
           refine⟨rfl,?_⟩
           show Value.bool _=Value.bool _
           congr 1
           rw[kr]
           exact⟨fun h=>.inr h,fun h=>h.resolve_left (by show ¬ a<da;omega)⟩
       rintro⟨t,u⟩ PT ⟨rfl,ht⟩
       simp only at ht
       subst ht
       rw[zb]
       refine⟨fun hc1=>?_,fun hc1=>?_⟩
       · rw[aU hc1]at GW
         have DZ:ba+a / 8192<m.B:=by show _<n0;omega
         obtain⟨bb,o,wH,hld,kH⟩:=Iq.HI (i:=4) rfl g20 DZ
         have hgB:jR (La.getD (ba+a / 8192) zB):=rL acE _
         rw[zi g20,uZ,za,Iq.ld (i:=3) rfl,cX6,za,eba,Zp (by decide),za,Zx (by omega),zd (by omega) (by omega),ze,za,zd (by omega) (by omega),za,za,za,ze,za,zd (by omega) (by omega),show(ba:Int)+(a:Int) / 8192=((ba+a / 8192:Nat):Int) by omega,wH,za,hld (Ext.refl _),za,z7 (by decide),za,Zb (by omega),show(a:Int) % 8192=((a % 8192:Nat):Int) by omega]
         refine⟨.agg (FT (La.getD (ba+a / 8192) zB) (a % 8192)),fun H' _=>abn hgB (by omega) fun oZ e=>⟨rfl,e⟩,?_⟩
         rw[za,zj]
         intro H22 e22
         refine kH e22 (vX hgB _) fun H23 Wc=>?_
         rw[zj]
         intro H24 e24
         rw[ze,za,zE,zr (by omega)]
         refine⟨⟨a+1,by omega,rfl,?_⟩,by simp only[zu];omega⟩
         rw[GW]
         exact Wc.ext e24
       · rw[aH hc1]at GW
         refine Zg.mk (fun t H'=>H'=PT/\t.1=.bool (decide (sd % 2=1/\a % 3=0))) ?_ ?_
         rotate_left
         · rw[z7 (by decide),za,Zb (by omega),zp,za,zb]
           refine⟨fun h1=>?_,fun h1=>⟨rfl,?_⟩⟩
           · rw[z7 (by decide),za,Zb (by omega),zp,za]
             refine⟨rfl,?_⟩
             show Value.bool _=Value.bool _
             congr 1
             rw[kr];omega
           · show Value.bool _=Value.bool _
             congr 1
             rw[cH (fun hh=>by have:=hh.1;omega)]
         rintro⟨t,u⟩ H25 ⟨rfl,ht⟩
         simp only at ht
         subst ht
         rw[zb]
         refine⟨fun Gm=>?_,fun Gm=>?_⟩
         · rw[aU Gm]at GW
           obtain⟨bb,o,wH,_,kH⟩:=Iq.HI (i:=4) rfl g20 (show a<m.B from kc)
           rw[zi g20,uZ,za]
           refine⟨.agg (Av a sd),fun H' _=>Js a sd fun oZ e=>⟨rfl,e⟩,?_⟩
           rw[wH,za,zj]
           intro H26 e26
           refine kH e26 (pV _ _) fun H27 l27=>?_
           rw[zj]
           intro H28 e28
           rw[ze,za,zE,zr (by omega)]
           refine⟨⟨a+1,by omega,rfl,?_⟩,by simp only[zu];omega⟩
           rw[GW]
           exact l27.ext e28
         · rw[aH Gm]at GW
           rw[ze,za,zE,zr (by omega)]
           refine⟨⟨a+1,by omega,rfl,?_⟩,by simp only[zu];omega⟩
           rw[GW]
           exact Iq
     · have ea:a=n0:=by omega
       subst ea
       generalize qM m q.c sd (q.L.set 0 (yb m.x)) a=La at vq Iq afd acE
       have fin:∀ {H'},Lx H H' [.box b1 #[zg B,zg L,zg I] 23,.box b2 #[iv,zg fr,zg sp] 26,.box b3 r6 81,.box b4 (zf B L I).cells 62,Zo m p ⟨ZW m q sd,q.c,false⟩] ->
           Pu (zX (some none) (.pointer (some ⟨p,9,none⟩)) H') fun aja=>Fc TP 81 #[aja] H' fun ai9 H30=>Pu (zY (some 2) (.pointer (some ⟨b3,0,none⟩)) ai9 H30) fun H31=>Pu (zX (some (some 2)) (.pointer (some ⟨b3,0,none⟩)) H31) fun ai8=>R ai8 H31:=fun {H'} l=>by
         obtain⟨sl3,su3,g3,sv3,_,hq3,_,_⟩:=l.pg (i:=4) rfl
         rw[zi g3,uZ,za]
         have X8:(ZW m q sd).length=a:=hq3.len
         refine RV sv3 hq3.is (by show(ZW m q sd).length<=_;rw[X8];omega) fun H30 dv e30 akC=>?_
         show Pu (zY (some 2) (.pointer (some ⟨b3,0,none⟩)) (.agg #[zg (ZW m q sd).length,dv]) H30) _
         rw[X8]
         have XU:=l.new e30 akC
         have lT:=(XU.sv (i:=5) rfl).one
         refine XU.ret (i:=2) rfl rfl rfl (by unfold zv;rw[<- iV];simp[lT.2];rfl) fun H31 l31=>?_
         rw[<- WZ]
         exact k H31 dv l31.iZ (l31.nY (i:=5) rfl)
       refine Zg.mk (fun _ H'=>Lx H H' [.box b1 #[zg B,zg L,zg I] 23,.box b2 #[iv,zg fr,zg sp] 26,.box b3 r6 81,.box b4 (zf B L I).cells 62,Zo m p ⟨ZW m q sd,q.c,false⟩]) (fun _ H29 l29=>fin l29) ?_
       rw[z7 (by decide),za,Zb (by omega),zp,za,zb]
       refine⟨fun h1=>?_,fun h1=>?_⟩
       · rw[aU (by omega)]at vq
         have elg:(zf B L I).logAt=1:=rfl
         have cX3:(zf B L I).cells[3]?=some (zg 1):=rfl
         have emx:m.x.logAt.toNat+1+sd % (m.x.L.toNat - 1)=2+sd % (L.toNat - 1):=rfl
         rw[emx]at vq
         obtain⟨Ln,eL⟩:∃ Ln:Nat,L=Ln:=⟨L.toNat,by omega⟩
         subst eL
         rw[jK]at vq
         have agI:sd % (Ln - 1)<Ln - 1:=kV _ (by omega)
         obtain⟨bb,o,wH,_,kH⟩:=Iq.HI (i:=4) (a:=2+sd % (Ln - 1)) rfl g20 (by show _<a;omega)
         rw[zi g20,uZ,za,Iq.ld (i:=3) rfl,cX3,za,ze,za,zd (x:=1+1) (by omega) (by omega),Iq.ld (i:=0) rfl]
         show Pu (some (zg Ln)) _
         rw[za,zP,za,zd (by omega) (by omega),z7 (by omega),za,Zb (by omega),show(sd:Int) % ((Ln:Int) - 1)=((sd % (Ln - 1):Nat):Int) by rw[XD];congr 1;omega,ze,za,zd (by omega) (by omega)]
         refine⟨.agg (Av 1 sd),fun H' _=>Js 1 sd fun oZ e=>⟨rfl,e⟩,?_⟩
         rw[show(1:Int)+1+((sd % (Ln - 1):Nat):Int)=((2+sd % (Ln - 1):Nat):Int) by omega,wH,za,zj]
         intro H32 e32
         refine kH e32 (pV _ _) fun H33 l33=>?_
         rw[zj]
         intro H34 e34
         rw[vq]
         exact l33.ext e34
       · rw[aH (by omega)]at vq
         rw[vq]
         exact Iq
end
structure Tw(m m':Pm)(q q':Pg)(f f':kM):Prop where
 u:Fw m q f
 u':Fw m' q' f'
 full:q'.full=q.full
 at_:q.full=false->q'.c=q.c/\∃ a,FR m q f a/\FR m' q' f' a
section
variable{m m':Pm}{q q':Pg}{f f':kM}
theorem M8(hm:qo m)(vN:qo m')(hn:m'.n=m.n)(h:Tw m m' q q' f f')(idx:Int){b:jn}(hb:jR b):Tw m m' (Pg.file m q f idx b).1 (Pg.file m' q' f' idx b).1 (Pg.file m q f idx b).2 (Pg.file m' q' f' idx b).2:=by
 have hu:=Yh hm h.u (idx:=idx) hb;have DA:=Yh vN h.u' (idx:=idx) hb;by_cases oT:idx<0\/65802<=idx
 ·have e:Pg.file m q f idx b=(⟨q.L,q.c,true⟩,f):=by unfold Pg.file;rw[aU oT]
  have e':Pg.file m' q' f' idx b=(⟨q'.L,q'.c,true⟩,f'):=by unfold Pg.file;rw[aU oT]
  rw[e]at hu;rw[e']at DA;rw[e,e'];exact⟨hu,DA,rfl,fun hh=>by cases hh⟩
 ·cases hf:q.full with
  | true=>
   have hf':=h.full.trans hf;have e:Pg.file m q f idx b=(q,f):=by unfold Pg.file;rw[aH oT,aU hf]
   have e':Pg.file m' q' f' idx b=(q',f'):=by unfold Pg.file;rw[aH oT,aU hf']
   rw[e,e'];exact h
  | false=>
   have hf':=h.full.trans hf;obtain⟨hc,a,ha,mq⟩:=h.at_ hf;obtain⟨i,rfl⟩:∃ i:Nat,idx=i:=⟨idx.toNat,by omega⟩;have r:=CV hm h.u.ok ha hf (i:=i) (by omega) hb;have r':=CV vN h.u'.ok mq hf' (i:=i) (by omega) hb;rw[hc]at r';by_cases jZ:q.c+need a i<=m.n
   ·obtain⟨y1,y2,y3⟩:=r.yes jZ;obtain⟨z1,z2,z3⟩:=r'.yes (by rw[hc,hn];exact jZ);exact⟨hu,DA,by rw[y1,z1],fun _=>⟨by rw[y2,z2,hc],_,y3,z3⟩⟩
   ·have y1:=r.no jZ;have z1:=r'.no (by rw[hc,hn];exact jZ);exact⟨hu,DA,by rw[y1,z1],fun hh=>by rw[y1]at hh;cases hh⟩
theorem Lm(hm:qo m)(vN:qo m')(hn:m'.n=m.n)(len:Nat):∀ (l:List A1) (s:Nat) (q q':Pg) (f f':kM) (b:jn),jR b->Tw m m' q q' f f' ->
   Tw m m' (yl m len l s q f b).1 (yl m' len l s q' f' b).1 (yl m len l s q f b).2 (yl m' len l s q' f' b).2
 | [],_,_,_,_,_,_,_,h=>h
 | e :: l,s,q,q',f,f',b,hb,h=>by
   have hp:jR (ql b s e):=(yc hb.n (wL e) (by omega)).b
   rw[YD,YD,h.full]
   split
   · exact h
   · split
     · exact Lm hm vN hn len l _ _ _ _ _ _ z6 (M8 hm vN hn h _ hp)
     · exact Lm hm vN hn len l _ _ _ _ _ _ hp h
theorem Np(hm:qo m)(vN:qo m')(hn:m'.n=m.n):∀ (l:List (Int × jn)) (q q':Pg) (f f':kM),(∀ x∈l,jR x.2)->Tw m m' q q' f f' ->
   Tw m m' (YM m l q f).1 (YM m' l q' f').1 (YM m l q f).2 (YM m' l q' f').2
 | [],_,_,_,_,_,h=>h
 | d :: l,q,q',f,f',hl,h=>by
   rw[y7,y7,h.full]
   split
   · exact h
   · exact Np hm vN hn l _ _ _ _ (fun x hx=>hl x (dH _ hx)) (M8 hm vN hn h _ (hl d eH))
theorem EJ(t:nL){j:Nat}(h:3<=j):Yr t j=0:=by unfold Yr;rw[aH (by omega),aH (by omega),aH (by omega)]
structure Tq(m m':Pm)(q q':Pg):Prop where
 p:PS m q
 p':PS m' q'
 full:q'.full=q.full
 at_:q.full=false->q'.c=q.c
theorem aci(hm:qo m)(vN:qo m')(hn:m'.n=m.n)(h:Tq m m' q q'){t:nL}(ht:yv t):Tw m m' (yO m q t).1 (yO m' q' t).1 (yO m q t).2 (yO m' q' t).2:=by
 have hs:∀ {m:Pm} {q:Pg},Zr m q->FR m q (Yr t) fun _=>none:=fun hz=>hz.start fun j hj=>EJ t (by omega);have h0:Tw m m' q q' (Yr t) (Yr t):=⟨⟨h.p.ok,fun hf=>⟨_,hs (h.p.z hf)⟩,wz ht⟩,⟨h.p'.ok,fun hf=>⟨_,hs (h.p'.z hf)⟩,wz ht⟩,h.full,fun hf=>⟨h.at_ hf,_,hs (h.p.z hf),hs (h.p'.z (h.full.trans hf))⟩⟩;have h1:Tw m m' (if t.kind=2 then yl m t.kA.length t.kA 0 q (Yr t) zB else(q,Yr t)).1 (if t.kind=2 then yl m' t.kA.length t.kA 0 q' (Yr t) zB else(q',Yr t)).1 (if t.kind=2 then yl m t.kA.length t.kA 0 q (Yr t) zB else(q,Yr t)).2 (if t.kind=2 then yl m' t.kA.length t.kA 0 q' (Yr t) zB else(q',Yr t)).2:=by
  split
  ·exact Lm hm vN hn _ _ _ _ _ _ _ _ z6 h0
  ·exact h0
 unfold yO;simp only;split
 ·exact Np hm vN hn _ _ _ _ _ (fun x hx=>(ht.data x hx).2) h1
 ·exact h1
theorem We{B L I:Int}(hm:Bx m B L I)(vN:Bx m' B L I)(hg:Zy B L I)(h:Tq m m' q q'){t:nL}(ht:yv t):Tq m m' (Pg.item m q t) (Pg.item m' q' t):=by
 have hda:m'.da=m.da:=by have h1:=hm.ok.da;have h2:=vN.ok.da;rw[hm.x]at h1;rw[vN.x]at h2;omega
 have hn:m'.n=m.n:=by have h1:=hm.ok.n;have h2:=vN.ok.n;have h3:=hm.B;have h4:=vN.B;omega
 have hw:=aci hm.ok vN.ok hn h ht;have k:=qg hm hg h.p ht;have k':=qg vN hg h.p' ht;unfold Pg.item at *;rw[hm.x]at *;rw[vN.x]at *;split at k
 ·rename_i hb;rw[aU hb]at k' ⊢;rw[aU hb];exact⟨k,k',rfl,fun hh=>by cases hh⟩
 ·rename_i hb;rw[aH hb]at k' ⊢;rw[aH hb];exact⟨k,k',hw.full,fun hh=>(hw.at_ hh).1⟩
theorem Is{B L I:Int}(hm:Bx m B L I)(vN:Bx m' B L I)(hg:Zy B L I):∀ (l:List nL) (q q':Pg),(∀ t∈l,yv t)->Tq m m' q q'->Tq m m' (zK m l q) (zK m' l q')
 | [],_,_,_,h=>h
 | t :: l,q,q',hl,h=>by
  rw[Z3,Z3,h.full];split
  ·exact h
  ·exact Is hm vN hg l _ _ (fun x hx=>hl x (dH _ hx)) (We hm vN hg h (hl t eH))
theorem Es{B L I:Int}(hm:Bx m B L I)(vN:Bx m' B L I)(hg:Zy B L I){kU:List nL}(mY:∀ t∈kU,yv t):Tq m m' (zK m kU (nE m)) (zK m' kU (nE m')):=
 Is hm vN hg kU _ _ mY ⟨B5 hm.ok,B5 vN.ok,rfl,fun _=>rfl⟩
end
section
variable{m:Pm}{q:Pg}{f:kM}
theorem uV:(q.take m).1.L=q.L:=by unfold Pg.take;split<;>rfl
theorem JU(hm:qo m)(hf:(q.take m).1.full=false):m.da<=(q.take m).2:=by
 unfold Pg.take at hf ⊢;split
 ·exact(m.nD hm _).1
 ·rename_i h;rw[aH h]at hf;cases hf
theorem Gs(hm:qo m){tp pl:Nat}{b:jn}(htp:m.da<=tp){i:Nat}(hi:i<m.da):(Pg.fin m q f tp pl b).1.L[i]?=q.L[i]?:=by
 unfold Pg.fin;split
 ·rw[uV]
 ·rename_i hf;have:=JU hm (by simpa using hf);show(((q.take m).1.L.set tp _).set (q.take m).2 b)[i]?=_;rw[jy (by omega),jy (by omega),uV]
theorem IW(hm:qo m)(h:Fw m q f)(idx:Int)(b:jn){i:Nat}(hi:i<m.da):(Pg.file m q f idx b).1.L[i]?=q.L[i]?:=by
 unfold Pg.file;split
 ·rfl
 ·split
  ·rfl
  ·rename_i oT uz;have uz:q.full=false:=by simpa using uz
   obtain⟨a,ha⟩:=h.fr uz;have key:∀ {j tt:Nat},(j=14/\tt=0\/j=15/\tt=1)->(Pg.top m q f j).1.L=q.L:=fun {j tt} hj=>by
    unfold Pg.top;split
    ·exact uV
    ·rfl
   split
   ·split
    ·rw[uV]
    ·rename_i hf;have:=JU hm (by simpa using hf);show((q.take m).1.L.set (q.take m).2 b)[i]?=_;rw[jy (by omega),uV]
   ·split
    ·split
     ·rw[key (.inl ⟨rfl,rfl⟩)]
     ·rename_i hf;obtain⟨a1,k,_,_,ht,_⟩:=xg hm h.ok ha uz (.inl ⟨rfl,rfl⟩) (by simpa using hf);rw[Gs hm (by rw[ht];exact(m.nD hm k).1) hi,key (.inl ⟨rfl,rfl⟩)]
    ·split
     ·rw[key (.inr ⟨rfl,rfl⟩)]
     ·rename_i hf;obtain⟨a1,k,hfr,hk,ht,_⟩:=xg hm h.ok ha uz (.inr ⟨rfl,rfl⟩) (by simpa using hf);have hkb:=(m.nD hm k).1;unfold Pg.Tg;rw[ht];have Wu:=hfr.ix 1 k (by omega) hk ((idx.toNat - 266) / 256) (by omega);split
      ·split
       ·rw[uV,key (.inr ⟨rfl,rfl⟩)]
       ·rename_i Ud;rw[Gs hm (JU hm (by simpa using Ud)) hi];show(((Pg.top m q f 15).1.take m).1.L.set (m.kC k) _)[i]?=_;rw[jy (by omega),uV,key (.inr ⟨rfl,rfl⟩)]
      ·rename_i hz;rw[Gs hm ?_ hi,key (.inr ⟨rfl,rfl⟩)];rw[Wu]at hz ⊢;cases uy:a1 (yI 1 ((idx.toNat - 266) / 256)) with
       | none=>rw[uy]at hz;exact absurd rfl hz
       | some k2=>exact(m.nD hm k2).1
theorem GC(hm:qo m)(len:Nat){i:Nat}(hi:i<m.da):∀ (l:List A1) (s:Nat) (q:Pg) (f:kM) (b:jn),jR b->Fw m q f->(yl m len l s q f b).1.L[i]?=q.L[i]?
 | [],_,_,_,_,_,_=>rfl
 | e :: l,s,q,f,b,hb,h=>by
  have hp:jR (ql b s e):=(yc hb.n (wL e) (by omega)).b;rw[YD];split
  ·rfl
  ·split
   ·rw[GC hm len hi l _ _ _ _ z6 (Yh hm h hp),IW hm h _ _ hi]
   ·exact GC hm len hi l _ _ _ _ hp h
theorem Dg(hm:qo m){i:Nat}(hi:i<m.da):∀ (l:List (Int × jn)) (q:Pg) (f:kM),(∀ x∈l,jR x.2)->Fw m q f->(YM m l q f).1.L[i]?=q.L[i]?
 | [],_,_,_,_=>rfl
 | d :: l,q,f,hl,h=>by
  rw[y7];split
  ·rfl
  ·rw[Dg hm hi l _ _ (fun x hx=>hl x (dH _ hx)) (Yh hm h (hl d eH)),IW hm h _ _ hi]
theorem MR(hm:qo m)(hp:PS m q){t:nL}(ht:yv t){i:Nat}(hi:i<m.da):(yO m q t).1.L[i]?=q.L[i]?:=by
 have h0:Fw m q (Yr t):=⟨hp.ok,fun hf=>⟨_,(hp.z hf).start fun j hj=>EJ t (by omega)⟩,wz ht⟩;unfold yO;simp only;by_cases h2:t.kind=2
 ·rw[aU h2];have hk:=tl hm t.kA.length t.kA 0 q (Yr t) zB z6 h0;have ho:=GC hm t.kA.length hi t.kA 0 q (Yr t) zB z6 h0;split
  ·rw[Dg hm hi _ _ _ (fun x hx=>(ht.data x hx).2) hk,ho]
  ·exact ho
 ·rw[aH h2];split
  ·rw[Dg hm hi _ _ _ (fun x hx=>(ht.data x hx).2) h0]
  ·rfl
theorem EL{B L I:Int}(hm:Bx m B L I)(hg:Zy B L I){i:Nat}(hi:(i:Int)<1+L):∀ (l:List nL) (q:Pg),(∀ t∈l,yv t)->PS m q->(zK m l q).L[i]?=q.L[i]?
 | [],_,_,_=>rfl
 | t :: l,q,hl,h=>by
  have ht:=hl t eH;rw[Z3];split
  ·rfl
  ·rw[EL hm hg hi l _ (fun x hx=>hl x (dH _ hx)) (qg hm hg h ht)];have hd:m.da=(zf B L I).kb:=by rw[<- hm.ok.da,hm.x]
   have hN:m.x.nodeAt=1+L:=by rw[hm.x];rfl
   obtain⟨g1,g2,g3,g4,g5,g6,g7⟩:=hg;simp only[zf]at hd g7;unfold Pg.item;split
   ·rfl
   ·show((yO m q t).1.L.set _ _)[i]?=_;rw[jy (by omega),MR hm.ok h ht (by omega)]
theorem qm{c sd:Nat}{L:List jn}{i:Nat}(h1:i<m.x.lM.toNat)(h2:i<m.da):∀ n,(qM m c sd L n)[i]?=L[i]?
 | 0=>rfl
 | a+1=>by
  simp only[qM,ui];split
  ·rw[jy (by omega),qm h1 h2 a]
  ·rename_i hc;split
   ·rw[jy (by omega),qm h1 h2 a]
   ·exact qm h1 h2 a
theorem Ct{B L I:Int}(hm:Bx m B L I)(hg:Zy B L I){kU:List nL}(mY:∀ t∈kU,yv t)(sd:Nat) :
   (ZW m (zK m kU (nE m)) sd)[0]?=some (yb (zf B L I))/\(ZW m (zK m kU (nE m)) sd)[1]?=some zB/\(ZW m (zK m kU (nE m)) sd).length=m.B/\∀ c∈ZW m (zK m kU (nE m)) sd,jR c:=by
 have hP:=(Es hm hm hg mY).p
 have hd:m.da=(zf B L I).kb:=by rw[<- hm.ok.da,hm.x]
 have hb:m.x.lM=1+L+(I+16) / 16:=by rw[hm.x];rfl
 have Oi:m.x.logAt=1:=by rw[hm.x];rfl
 have hB:=hm.B
 obtain⟨g1,g2,g3,g4,g5,g6,g7⟩:=id hg
 simp only[zf]at hd g7
 have low:∀ i:Nat,(i:Int)<2->(ZW m (zK m kU (nE m)) sd)[i]?=((zK m kU (nE m)).L.set 0 (yb m.x))[i]?:=fun i hi=>by
   unfold ZW
   split
   · rw[jy (by omega),qm (by omega) (by omega)]
   · exact qm (by omega) (by omega) _
 refine⟨?_,?_,?_,?_⟩
 · rw[low 0 (by omega),jX (by rw[hP.ok.len];omega),hm.x]
 · rw[low 1 (by omega),jy (by omega),EL hm hg (by omega) _ _ mY (B5 hm.ok)]
   simp only[nE,mE]
   rw[aU (by omega)]
 · unfold ZW
   split
   · rw[lV,qX,lV,hP.ok.len]
   · rw[qX,lV,hP.ok.len]
 · have h1:∀ c∈qM m (zK m kU (nE m)).c sd ((zK m kU (nE m)).L.set 0 (yb m.x)) m.B,jR c:=Jt (fun c hc=>by
     rcases lD hc with h2 | h2
     · exact hP.ok.is c h2
     · rw[h2];exact qv _ 9) _
   unfold ZW
   split
   · intro c hc
     rcases lD hc with h2 | h2
     · exact h1 c h2
     · rw[h2];exact pV _ _
   · exact h1
end
noncomputable def z9(l:List (Int × jn))(a:Int):jn:=((l.find? fun x=>decide (x.1=a)).map (·.2)).getD zB
theorem ZS{l:List (Int × jn)}(h:∀ x∈l,jR x.2)(a:Int):jR (z9 l a):=by
 unfold z9;cases hf:l.find? fun x=>decide (x.1=a) with
 | none=>exact z6
 | some x=>exact h x (sK hf)
def N3(n:Int)(dv:Value)(x:kh):Array Value:=#[zg n,dv,zg x.B,zg x.L,zg x.I,zg x.logAt,zg x.nodeAt,zg x.kO,zg x.lM,zg x.lF,zg x.kb,.slice none 0 0]
structure Lk(H:Hp)(d:Nat)(dv:Value)(B L I:Int)(l:List (Int × jn)):Prop where
 top:H[d]?=some (.cells (N3 B dv (zf B L I)) 188)
 rd:Sr 1025 H dv (l.map zy)
 is:∀ x∈l,jR x.2
 len:l.length<=1048576
 ok:Zy B L I
theorem Lk.ext{H H':Hp}{d:Nat}{dv:Value}{B L I:Int}{l:List (Int × jn)}(h:Lk H d dv B L I l)(e:Ext H H'):Lk H' d dv B L I l:=⟨e.at h.top,h.rd.ext e,h.is,h.len,h.ok⟩
section
variable{n:Int}{dv:Value}{x:kh}
theorem ab5:(N3 n dv x)[2]?=some (zg x.B):=rfl
theorem V5:(N3 n dv x)[4]?=some (zg x.I):=rfl
theorem ajW:(N3 n dv x)[6]?=some (zg x.nodeAt):=rfl
theorem ajV:(N3 n dv x)[7]?=some (zg x.kO):=rfl
theorem ajU:(N3 n dv x)[8]?=some (zg x.lM):=rfl
theorem ajT:(N3 n dv x)[9]?=some (zg x.lF):=rfl
theorem RE:(N3 n dv x)[10]?=some (zg x.kb):=rfl
theorem afZ:(N3 n dv x)[11]?=some (.slice none 0 0):=rfl
theorem RD:(N3 n dv x).size=12:=rfl
end
theorem rF:j9 TP 29 (.slice none 0 0)=some (zg 0):=by kernel_rfl
theorem Ym{x:Int × jn}(h:jR x.2):(zy x).extract 1 (1+1024)=x.2:=EU h
section
variable{H:Hp}{R:Value->Hp->Prop}{d:Nat}{dv:Value}{B L I:Int}{l:List (Int × jn)}
theorem adU{n a:Int}(oq:Sr 1025 H dv (l.map zy))(sY:∀ x∈l,jR x.2)(hlen:l.length<=1048576)(k:∀ H',Ext H H'->R (.agg (z9 l a)) H'):Fc TP 150 #[.agg #[zg n,dv],zg a] H R:=by
 refine fn150 ?_;simp only[sh150,Ul,UL,UA,Us,Ub,Uz,Ui,Ug,Uo,Uv,ZI,yP,za,zm];refine(Lo.start _ H:Lx H H []).jc fun b1 H1 _ l1=>?_;refine l1.jc fun b2 H2 _ l2=>?_;have d0:(#[zg n,dv]:Array Value)[1]?=some dv:=rfl;simp only[zc,aR,za];refine zF.mk (fun t H'=>H'=H2/\∃ i:Nat,i<=l.length/\t=(zg i,())/\∀ x∈l.take i,x.1≠a) (fun t _=>mi t.1 fun i=>(l.length - i).toNat) ⟨rfl,0,by omega,rfl,by simp⟩ ?_;rintro _ H3 ⟨rfl,i,hi,rfl,kG⟩;have h3:=oq.ext l2.iZ;rw[l2.ld (i:=0) rfl,d0,za,h3.j9 yw,za,bR,zk,za,zb];refine⟨fun kc=>?_,fun lA=>?_⟩
 ·have kI:i<l.length:=by omega
  have lP:(l.map zy)[i]?=some (zy l[i]):=by rw[dR,bU kI];rfl
  have uL:l[i]∈l:=ju kI;have AV:l.drop i=l[i] :: l.drop (i+1):=jF kI;have mR:l.take (i+1)=l.take i++[l[i]]:=fU kI;generalize l[i]=x at lP uL AV mR;obtain⟨b,o,ha,lI,kE⟩:=h3.el lP;rw[za,ha,za,zc,za,lI 0 (by omega),yg,za,zp,za,zb];refine⟨fun he=>?_,fun jZ=>?_⟩
  ·rw[za,ha,za,zc,za,kE 1 1024 (by omega),za,Ym (sY x uL)];have e:z9 l a=x.2:=by
    unfold z9;rw[show l=l.take i++l.drop i from(nf i l).symm,jH,j0.2 (fun y hy=>by simpa using kG y hy),AV,jT (by simpa using he)];rfl
   refine l2.ret (i:=1) rfl zw (sY x uL).size (sY x uL).ok fun H' l'=>?_;rw[<- e];exact k H' l'.iZ
  ·rw[ze,za,zE,zr (by omega)];refine⟨⟨rfl,i+1,by omega,rfl,fun y hy=>?_⟩,by simp only[zu];omega⟩;rw[mR]at hy;rcases fH.1 hy with h1 | h1
   ·exact kG y h1
   ·rw[eU.1 h1];exact jZ
 ·have ei:i=l.length:=by omega
  subst ei;rw[jk]at kG;have e:z9 l a=zB:=by
   unfold z9;rw[j0.2 (fun y hy=>by simpa using kG y hy)];rfl
  refine l2.ret (i:=1) rfl zw zw z6.ok fun H' l'=>?_;rw[<- e];exact k H' l'.iZ
theorem Aw(h:Lk H d dv B L I l){a:Int}(k:∀ H',Ext H H'->R (.agg (z9 l a)) H'):Fc TP 163 #[zD d,zg a] H R:=by
 refine fn163 ?_;simp only[sh163,Ul,UL,UA,Us,Ub,Uz,UI,Uf,Ui,Ug,Uo,Uv,ZI,za,zm];refine(Lo.start _ H:Lx H H []).jc fun b1 H1 _ l1=>?_;have h1:=h.ext l1.iZ;simp only[zl,zc,aR,bH,za];refine zF.mk (fun t H'=>H'=H1/\t=(zg 0,())) (fun _ _=>0) ⟨rfl,rfl⟩ ?_;rintro _ H2 ⟨rfl,rfl⟩;rw[zi h1.top,afZ,za,rF,za,zk,za,show decide ((0:Int)<0)=false from rfl,zh];rw[Za h1.top (show 0+2<=(N3 B dv (zf B L I)).size from by rw[RD];omega),za,show(N3 B dv (zf B L I)).extract 0 (0+2)=#[zg B,dv] from by simp[N3]];refine adU h1.rd h.is h.len fun H' e'=>?_;have hb:=ZS h.is a;exact(l1.ext e').ret (i:=0) rfl zw hb.size hb.ok fun oZ l''=>k oZ l''.iZ
def Jk(c:jn)(o:Nat):Array Value:=c.extract o (o+64)
theorem rR{c:jn}(h:jR c){o:Nat}(ho:o+64<=1024):mu 64 (Jk c o):=by
 unfold Jk;refine⟨by rw[vL,h.size];omega,fun i hi=>?_⟩;rw[ji,aU (by rw[h.size];omega)];exact h.cell _ (by omega)
theorem wX{c:jn}(h:jR c){o:Nat}(ho:o+64<=1024){i:Nat}(hi:i<64):kv (Jk c o) i=kv c (o+i):=by
 unfold kv Jk;rw[ji,aU (by rw[h.size];omega)]
theorem rJ{c:jn}(h:jR c){o:Nat}(ho:o+64<=1024){j:Nat}(hj:j<16):ZD (Jk c o) 0 j=ZD c o j:=by
 have:=E1 hj;unfold ZD;refine qc _ _ _ fun i hi=>?_;rw[wX h ho (by omega)];congr 1;omega
noncomputable def KC(B L I:Int)(l:List (Int × jn))(i:Nat):jn:=z9 l (1+L+((i / 16:Nat):Int))
noncomputable def YP(B L I:Int)(l:List (Int × jn))(i:Nat):kM:=ZD (KC B L I l i) (64*(i % 16))
noncomputable def ur(B L I:Int)(l:List (Int × jn))(i:Nat):Array Value:=Jk (KC B L I l i) (64*(i % 16))
theorem F8(h:Lk H d dv B L I l){i:Nat}(hi:i<65552)(k:∀ H',Ext H H'->R (.agg (ur B L I l i)) H'):Fc TP 178 #[zD d,zg i] H R:=by
 have kD:=h.ok;have hN:(zf B L I).nodeAt=1+L:=rfl;have hL:=kD.1;have hL2:=kD.2.1;refine fn178 ?_;simp only[sh178,Ul,UL,UA,Us,Ub,Uz,UI,Uf,Uk,Uo,Uv,ZI,rh,za,zm];refine(Lo.start _ H:Lx H H []).jc fun b1 H1 _ l1=>?_;have h1:=h.ext l1.iZ;simp only[zl,zc,aR,bH,Nat.reduceAdd,za];rw[zi h1.top,ajW,za,Zp (by decide),za,Zx (by omega),zd (by omega) (by omega),hN,ze,za,zd (by omega) (by omega),show(1+L+(i:Int) / 16)=1+L+((i / 16:Nat):Int) by omega];refine Aw h1 fun H2 e2=>?_;have hb:jR (KC B L I l i):=ZS h.is _;refine(l1.ext e2).jc fun b2 H3 _ l3=>?_;refine l3.jE (i:=1) (vs:=KC B L I l i) rfl zw hb.size hb.ok fun H4 l4=>?_;refine l4.jc fun b3 H5 _ l5=>?_;have ho:64*(i % 16)+64<=1024:=by omega
 have ala:=rR hb ho;refine zF.mk (fun t H'=>∃ (j:Nat) (c:Array Value),j<=64/\t=(zg j,())/\mu 64 c/\(∀ x,x<j->kv c x=kv (ur B L I l i) x)/\Lx H H' [.box b1 (zR 64) 104,.box b2 (KC B L I l i) 65,.box b3 c 104])
  (fun t _=>mi t.1 fun j=>(64 - j).toNat) ⟨0,zR 64,by omega,rfl,yz 64,fun x hx=>by omega,l5⟩ ?_
 rintro _ H6 ⟨j,c,hj,rfl,hc,Ss,l6⟩;rw[zk,za,zb];refine⟨fun kc=>?_,fun lA=>?_⟩
 ·rw[z7 (by decide),za,Zb (by omega),zW,za,zd (by omega) (by omega),ze,za,zd (by omega) (by omega),show(64*((i:Int) % 16)+(j:Int))=((64*(i % 16)+j:Nat):Int) by omega,zC (by omega),za,aR,iX,l6.ld (i:=1) rfl,hb.get (by omega),za,zC (by omega),za,aR,iX];refine l6.st (i:=2) (j:=j) (v:=.int .u8 (kv (KC B L I l i) (64*(i % 16)+j))) rfl (by rw[hc.size];omega) rfl rfl fun H7 l7=>?_;rw[ze,za,zE,zr (by omega)];refine⟨⟨j+1,_,by omega,rfl,hc.set j (hb.lt _),fun x hx=>?_,l7⟩,by simp only[zu];omega⟩;rw[hc.oL (by omega)];by_cases e:j=x
  ·subst e;rw[aU rfl];exact(wX hb ho (by omega)).symm
  ·rw[aH e];exact Ss x (by omega)
 ·have ej:j=64:=by omega
  subst ej;have e:c=ur B L I l i:=hc.ext ala fun x hx=>Ss x hx;rw[l6.je (i:=2) (n:=64) rfl hc.size,za];refine l6.ret (i:=0) rfl (yU 64) hc.size hc.ok fun H' l'=>?_;rw[e];exact k H' l'.iZ
theorem MZ{c:Array Value}(hc:mu 64 c){a n:Nat}(ha:a+n<=64)(hn:1<=n/\n<=4)(k:∀ H',Ext H H'->R (.int .u32 (nQ c a n)) H'):Fc TP 177 #[.agg c,zg a,zg n] H R:=by
 refine fn177 ?_;simp only[sh177,Ul,Ub,Uk,Uo,Uv,zm];refine(Lo.start _ H:Lx H H []).jc fun b1 H1 _ l1=>?_;rw[zP,za,zd (by omega) (by omega)];refine zF.mk (fun t H'=>H'=H1/\∃ j:Nat,j<=n/\t=(.int .u32 (nQ c (a+(n - j)) j:Nat),zg ((n:Int) - 1 - (j:Int)),())) (fun t _=>mi t.2.1 fun x=>(x+1).toNat) ⟨rfl,0,by omega,by rw[show(n:Int) - 1 - ((0:Nat):Int)=(n:Int) - 1 by omega];rfl⟩ ?_;rintro _ H2 ⟨rfl,j,hj,rfl⟩;have hv:=xF (c:=c) hc.lt j (a+(n - j));have R1:256 ^ j<=256 ^ 4:=lq (by omega) (by omega);generalize DW:nQ c (a+(n - j)) j=v at hv;rw[zN,za,zb];refine⟨fun lA=>?_,fun kc=>?_⟩
 ·have hv4:256 ^ j<=256 ^ 3:=lq (by omega) (by omega);rw[zW,za,ZB (by omega) (by omega),ze,za,zd (by omega) (by omega),show((a:Int)+((n:Int) - 1 - (j:Int)))=((a+(n - 1 - j):Nat):Int) by omega,zC (by omega),za,aR,iX,l1.ld (i:=0) rfl,hc.get (by omega),za,zz,za];have sa:=hc.lt (a+(n - 1 - j));rw[ox (by omega),ze,za,ZB (by omega) (by omega),zP,za,zd (by omega) (by omega)];refine⟨⟨rfl,j+1,by omega,?_⟩,by simp only[zu];omega⟩;have e1:nQ c (a+(n - (j+1))) (j+1)=kv c (a+(n - 1 - j))+256*v:=by
   show kv c (a+(n - (j+1)))+256*nQ c (a+(n - (j+1))+1) j=_;rw[show a+(n - (j+1))+1=a+(n - j) by omega,DW,show a+(n - (j+1))=a+(n - 1 - j) by omega]
  rw[e1,show(256*(v:Int)+(kv c (a+(n - 1 - j)):Int))=((kv c (a+(n - 1 - j))+256*v:Nat):Int) by omega,show((n:Int) - 1 - (j:Int) - 1)=(n:Int) - 1 - ((j+1:Nat):Int) by omega];rfl
 ·have ej:j=n:=by omega
  subst ej;rw[nM,bH]at DW;rw[<- DW];exact k _ l1.iZ
end
theorem Lt(a b c d:Int):zo TP 54 [(0,.int .u16 a),(1,.int .u16 b),(2,.int .u32 c),(3,.int .u32 d)]=some (.agg #[.int .u16 a,.int .u16 b,.int .u32 c,.int .u32 d,.int .u32 0,.int .u32 0,.int .u32 0,.int .u32 0,.int .u32 0,.int .u32 0,.int .u32 0,.int .u32 0,.int .u32 0,.int .u32 0,.int .u32 0,.int .u32 0]):=by kernel_rfl
def N7(f:kM)(n:Nat):kM:=fun j=>if j<n then f j else 0
theorem Cz(f:kM){n:Nat}(h2:2<=n)(h:n<16):(zS (N7 f n)).setIfInBounds n (.int .u32 (f n))=zS (N7 f (n+1)):=by
 rw[Yw _ _ n h2 h];refine yH fun j hj=>?_;unfold uU N7;by_cases e:j=n
 ·subst e;rw[aU rfl,aU (by omega)]
 ·rw[aH e];by_cases h3:j<n
  ·rw[aU h3,aU (by omega)]
  ·rw[aH h3,aH (by omega)]
section
variable{H:Hp}{R:Value->Hp->Prop}{d:Nat}{dv:Value}{B L I:Int}{l:List (Int × jn)}
theorem aaz{c:Array Value}(hc:mu 64 c)(k:∀ H',Ext H H'->R (.agg (zS (ZD c 0))) H'):Fc TP 146 #[.agg c] H R:=by
 have kD:lE (ZD c 0):=Iv hc.lt 0;have h0:=kD 0 (by omega);have h1:=kD 1 (by omega);simp only[fw,Nat.reduceLT,jO,Nat.reducePow]at h0 h1;have eF:∀ j,nQ c (fo j) (fw j)=ZD c 0 j:=fun j=>by unfold ZD;rw[aR]
 have q:∀ {H':Hp} {a n:Nat},a+n<=64->1<=n/\n<=4->QC true TP 177 #[.agg c,zg a,zg n] H' (.int .u32 (nQ c a n)):=fun {H' a n} ha hn oZ _=>MZ hc ha hn fun H3 e3=>⟨rfl,e3⟩;refine fn146 ?_;simp only[sh146,UL,UA,Us,Ub,Uz,Uf,Uw,Uk,Uo,Uv,ZE,za,zm];refine(Lo.start _ H:Lx H H []).jc fun b1 H1 _ l1=>?_;refine l1.jc fun b2 H2 _ l2=>?_;simp only[l2.je (i:=0) (n:=64) rfl hc.size,zc,aR,za];refine⟨_,q (a:=0) (n:=2) (by omega) (by omega),?_⟩;rw[zz,za];refine⟨_,q (a:=2) (n:=2) (by omega) (by omega),?_⟩;rw[zz,za];refine⟨_,q (a:=4) (n:=4) (by omega) (by omega),?_⟩;refine⟨_,q (a:=8) (n:=4) (by omega) (by omega),?_⟩;have e0:=eF 0;have e1:=eF 1;have e2:=eF 2;have e3:=eF 3;simp only[fo,fw,Nat.reduceLT,jO,jD,Nat.reduceMul,Nat.reduceSub,uD]at e0 e1 e2 e3;rw[e0,e1,e2,e3,ZR (by omega) (by omega),ZR (by omega) (by omega),Lt,za,zj];intro H3 x3;refine(l2.ext x3).jc fun b3 H4 _ l4=>?_;simp only[zc,aR,za];rw[zj];intro H5 x5;refine(l4.ext x5).jE (i:=2) (vs:=zS (N7 (ZD c 0) 4)) rfl (zt _) (zt _) (ZA _) fun H6 l6=>?_;rw[zj];intro H7 x7;have l7:=l6.ext x7;refine zF.mk (fun t H'=>∃ i:Nat,i<=10/\t=(zg i,())/\Lx H H' [.box b1 c 104,.box b2 (zS fun _=>0) 54,.box b3 (zS (N7 (ZD c 0) (4+i))) 54])
  (fun t _=>mi t.1 fun i=>(10 - i).toNat) ⟨0,by omega,rfl,l7⟩ ?_
 rintro _ H8 ⟨i,hi,rfl,l8⟩;rw[zk,za,zb];refine⟨fun kc=>?_,fun lA=>?_⟩
 ·rw[l8.je (i:=0) (n:=64) rfl hc.size,za,zW,za,zd (by omega) (by omega),ze,za,zd (by omega) (by omega),show(12:Int)+4*(i:Int)=((12+4*i:Nat):Int) by omega];refine MZ (n:=4) hc (by omega) (by omega) fun H9 e9=>?_;have e4:nQ c (12+4*i) 4=ZD c 0 (4+i):=by
   have:=eF (4+i);rw[show fo (4+i)=12+4*i by unfold fo;rw[aH (by omega)];omega,show fw (4+i)=4 by unfold fw;rw[aH (by omega)]]at this;exact this
  rw[e4,zC (by omega),za,iX];refine(l8.ext e9).st (i:=2) (j:=4+i) (v:=.int .u32 (ZD c 0 (4+i))) rfl (by rw[zt];omega) rfl rfl fun mX mn=>?_;rw[Cz _ (by omega) (by omega)]at mn;rw[ze,za,zE,zr (by omega)];exact⟨⟨i+1,by omega,rfl,mn⟩,by simp only[zu];omega⟩
 ·have ei:i=10:=by omega
  subst ei;rw[l8.je (i:=0) (n:=64) rfl hc.size,za];refine MZ (a:=52) (n:=4) hc (by omega) (by omega) fun mN Br=>?_;have Nf:=eF 14;have JK:=eF 15;rw[show fo 14=52 from rfl,show fw 14=4 from rfl]at Nf;rw[show fo 15=56 from rfl,show fw 15=4 from rfl]at JK;rw[Nf];refine(l8.ext Br).st (i:=2) (j:=14) (v:=.int .u32 (ZD c 0 14)) rfl (by rw[zt];omega) rfl rfl fun tF oC=>?_;rw[Cz _ (by omega) (by omega)]at oC;rw[oC.je (i:=0) (n:=64) rfl hc.size,za];refine MZ (a:=56) (n:=4) hc (by omega) (by omega) fun sD se=>?_;rw[JK];refine(oC.ext se).st (i:=2) (j:=15) (v:=.int .u32 (ZD c 0 15)) rfl (by rw[zt];omega) rfl rfl fun By vh=>?_;rw[Cz _ (by omega) (by omega)]at vh;rw[vh.je (i:=2) (n:=16) rfl (zt _),za];refine vh.ret (i:=1) rfl (zt _) (zt _) (ZA _) fun H' l'=>?_;rw[yH (g:=ZD c 0) fun j hj=>by unfold N7;rw[aU (by omega)]];exact k H' l'.iZ
theorem MJ(h:Lk H d dv B L I l){i:Nat}(hi:i<65552)(k:∀ H',Ext H H'->R (.agg (zS (YP B L I l i))) H'):Fc TP 160 #[zD d,zg i] H R:=by
 refine fn160 ?_;simp only[sh160,UL,Us,Uz,Uf,ZE,za];refine(Lo.start _ H:Lx H H []).jc fun b1 H1 _ l1=>?_;have hb:jR (KC B L I l i):=ZS h.is _;refine F8 (h.ext l1.iZ) hi fun H2 e2=>?_;refine aaz (rR hb (by omega)) fun H3 e3=>?_;refine((l1.ext e2).ext e3).ret (i:=0) rfl (zt _) (zt _) (ZA _) fun H' l'=>?_;have e:zS (ZD (ur B L I l i) 0)=zS (YP B L I l i):=yH fun j hj=>rJ hb (by omega) hj;rw[e];exact k H' l'.iZ
def uw(c:jn)(i:Nat):Nat:=nQ c (4*i) 4
theorem HP{c:jn}(hb:jR c){i:Nat}(hi:i<256)(k:∀ H',Ext H H'->R (zg (uw c i)) H'):Fc TP 189 #[.agg c,zg i] H R:=by
 refine fn189 ?_;simp only[sh189,Ul,Ub,Uk,Uo,Uv,zm];refine(Lo.start _ H:Lx H H []).jc fun b1 H1 _ l1=>?_;refine zF.mk (fun s H'=>H'=H1/\∃ j:Nat,j<=4/\s=(zg (nQ c (4*i+(4 - j)) j:Nat),zg (3 - (j:Int)),())) (fun s _=>mi s.2.1 fun x=>(x+1).toNat) ⟨rfl,0,by omega,rfl⟩ ?_;rintro _ H2 ⟨rfl,j,hj,rfl⟩;have hv:=xF (c:=c) hb.lt j (4*i+(4 - j));have R1:256 ^ j<=256 ^ 4:=lq (by omega) hj;generalize DW:nQ c (4*i+(4 - j)) j=v at hv;rw[zN,za,zb];refine⟨fun lA=>?_,fun kc=>?_⟩
 ·have hv4:256 ^ j<=256 ^ 3:=lq (by omega) (by omega);rw[zW,za,zW,za,zd (x:=256*(v:Int)) (by omega) (by omega),zd (x:=4*(i:Int)) (by omega) (by omega),ze,za,zd (by omega) (by omega),show(4*(i:Int)+(3 - (j:Int)))=((4*i+(3 - j):Nat):Int) by omega,zC (by omega),za,aR,iX,l1.ld (i:=0) rfl,hb.get (by omega),za,zz,za];have sa:=hb.lt (4*i+(3 - j));rw[zr (by omega),ze,za,zd (by omega) (by omega),zP,za,zd (by omega) (by omega)];refine⟨⟨rfl,j+1,by omega,?_⟩,by simp only[zu];omega⟩;have e1:nQ c (4*i+(4 - (j+1))) (j+1)=kv c (4*i+(3 - j))+256*v:=by
   show kv c (4*i+(4 - (j+1)))+256*nQ c (4*i+(4 - (j+1))+1) j=_;rw[show 4*i+(4 - (j+1))+1=4*i+(4 - j) by omega,DW,show 4*i+(4 - (j+1))=4*i+(3 - j) by omega]
  rw[e1,show(256*(v:Int)+(kv c (4*i+(3 - j)):Int))=((kv c (4*i+(3 - j))+256*v:Nat):Int) by omega,show(3 - (j:Int) - 1)=3 - ((j+1:Nat):Int) by omega];rfl
 ·have ej:j=4:=by omega
  subst ej;rw[<- DW];exact k _ l1.iZ
def px(B L I:Int)(a:Int):Prop:=(zf B L I).kb<=a/\a<B
theorem GD(h:Lk H d dv B L I l){a:Int}(k:R (.bool (decide (px B L I a))) H):Fc TP 181 #[zD d,zg a] H R:=by
 refine fn181 ?_;simp only[sh181,Ul,UA,Ub,UI,U0,zl,zc,aR,bH,Nat.reduceAdd,za];rw[zi h.top,RE,za,zN,za,zb];refine⟨fun h1=>?_,fun h1=>?_⟩
 ·rw[zi h.top,ab5,za,zk,za];have e:decide (a<(zf B L I).B)=decide (px B L I a):=by
   rw[kr];exact⟨fun h2=>⟨h1,h2⟩,fun h2=>h2.2⟩
  rw[e];exact k
 ·have e:decide (px B L I a)=false:=cH fun h2=>h1 h2.1;rw[e]at k;exact k
theorem ajc{n:Int}(h0:0<=n/\n<=4611686018427387904)(k:R (zg ((n+1023) / 1024)) H):Fc TP 195 #[zg n] H R:=by
 refine fn195 ?_;simp only[sh195,Ub,Uv];rw[ze,za,zd (by omega) (by omega),zP,za,zd (by omega) (by omega),Zp (by decide),za,Zx (by omega),zd (by omega) (by omega),show n+1024 - 1=n+1023 by omega];exact k
abbrev Jz:=Int × Int
def o7(s:Jz):Array Value:=#[zg s.1,zg s.2]
theorem xi(s:Jz):zv (o7 s):=by unfold zv;rw[<- iV];rfl
noncomputable def I6:ZX:=Ms (zQ TP 190)
theorem C3:zQ TP 190=some I6:=by kernel_rfl
theorem yZ:I6.type=233/\I6.size=2/\I6.zero.size=2/\I6.bytes=16:=⟨by kernel_rfl,by kernel_rfl,by kernel_rfl,by kernel_rfl⟩
theorem qt:TP.underlying 190=some (.slice 233):=by kernel_rfl
theorem Ag(a b:Int):zo TP 233 [(0,zg a),(1,zg b)]=some (.agg (o7 (a,b))):=by kernel_rfl
noncomputable def rj(c:jn)(first:Int)(n:Nat):List Jz:=(List.range n).filterMap fun i=>if uw c i=0 then none else some (first+(i:Int),(uw c i:Int))
theorem Hg(c:jn)(first:Int)(n:Nat):rj c first (n+1)=rj c first n++(if uw c n=0 then [] else [(first+(n:Int),(uw c n:Int))]):=by
 unfold rj;rw[uS,List.filterMap_append];congr 1;simp only[ot,List.filterMap_nil];split<;>rename_i h<;>split at h<;>simp_all
theorem ri(c:jn)(first:Int)(n:Nat):(rj c first n).length<=n:=by
 unfold rj;have:=List.length_filterMap_le (fun i=>if uw c i=0 then none else some (first+(i:Int),(uw c i:Int))) (List.range n);simpa using this
theorem LU(h:Lk H d dv B L I l){a first:Int}(hf:0<=first/\first<=1000000)(k:∀ H' s,Ext H H'->oh H H' (.sl 233 2 s ((rj (z9 l a) first 256).map o7))->R s H'):Fc TP 188 #[zD d,zg a,zg first] H R:=by
 refine fn188 ?_;simp only[sh188,UL,Us,Ub,Uz,Uf,Uo,Uq,Uv,ZI,za,zm];have hb:=ZS h.is a;refine Aw h fun H1 e1=>?_;generalize z9 l a=c at hb k;refine((Lo.start _ H:Lx H H []).ext e1).jc fun b2 H2 _ l2=>?_;refine l2.jE (i:=0) rfl zw hb.size hb.ok fun H3 l3=>?_;have l3:=l3.nt 233 2;refine zF.mk (fun t H'=>∃ (i:Nat) (s:Value),i<=256/\t=(s,zg i,())/\Lx H H' [.box b2 c 65,.sl 233 2 s ((rj c first i).map o7)])
  (fun t _=>mi t.2.1 fun i=>(256 - i).toNat) ⟨0,.slice none 0 0,by omega,rfl,l3⟩ ?_
 rintro _ H4 ⟨i,s,hi,rfl,l4⟩;rw[zk,za,zb];refine⟨fun kc=>?_,fun lA=>?_⟩
 ·rw[l4.je (i:=0) (n:=1024) rfl hb.size,za];refine HP hb (by omega) fun H5 e5=>?_;have CC:=Hg c first i
  have hle:=ri c first i
  rw[zn,za,zb];refine⟨fun jZ=>?_,fun heq=>?_⟩
  ·rw[aH (by omega)]at CC;rw[ze,za,zd (by omega) (by omega),Ag,za];refine(l4.ext e5).qY C3 yZ (i:=1) rfl (by rfl) (by omega) (by omega) rfl (xi _) (by rw[bR];omega) fun s' H7 l7=>?_;rw[ze,za,zE,zr (by omega)];refine⟨⟨i+1,s',by omega,rfl,?_⟩,by simp only[zu];omega⟩;rw[CC,cU];exact l7
  ·rw[aU (by omega),jY]at CC;rw[ze,za,zE,zr (by omega)];refine⟨⟨i+1,s,by omega,rfl,?_⟩,by simp only[zu];omega⟩;rw[CC];exact l4.ext e5
 ·have ei:i=256:=by omega
  subst ei;exact k H4 s l4.iZ (l4.nY (i:=1) rfl)
end
theorem Lo.abY{S:Nat->Prop}{H0 H:Hp}{l:List Ob}(h:Lo S H0 H l){i j:Nat}(EO:i≠j){x y z:Ob}(hx:l[i]?=some x)(hy:l[j]?=some y)(hz:∀ A B:Nat->Prop,x.at_ H A->y.at_ H B->(∀ b,A b->¬ B b)->z.at_ H fun b=>A b\/B b):Lo S H0 H ((l.set i z).set j .no):=by
 obtain⟨k,kP,w,hc⟩:=h;have kI:i<l.length:=by
  rcases jx i l.length with h1 | h1
  ·exact h1
  ·rw[eR h1]at hx;cases hx
 have DC:j<l.length:=by
  rcases jx j l.length with h1 | h1
  ·exact h1
  ·rw[eR h1]at hy;cases hy
 have KE:=hz _ _ (w.get hx) (w.get hy) fun b h1 h2=>by
  have h1:kP b=i+1:=h1;have h2:kP b=j+1:=h2;omega
 refine⟨k,fun b=>if kP b=j+1 then i+1 else kP b,⟨fun n u hu=>?_,fun b hb=>?_⟩,fun b hb hn=>hc b hb fun e=>hn ?_⟩
 ·by_cases hnj:j=n
  ·subst hnj;rw[jX (by rw[lV];exact DC)]at hu;injection hu with hu;subst hu;refine⟨trivial,fun b hb=>?_⟩;have hb:(if kP b=j+1 then i+1 else kP b)=j+1:=hb;split at hb
   ·omega
   ·contradiction
  ·rw[jy hnj]at hu;by_cases o8:i=n
   ·subst o8;rw[jX kI]at hu;injection hu with hu;subst hu;refine z.frame KE (fun _ _=>rfl) (iU _) (fun b hb=>?_) fun b hb=>?_
    ·show(if kP b=j+1 then i+1 else kP b)=i+1;rcases hb with hb | hb
     ·have hb:kP b=i+1:=hb;split<;>omega
     ·rw[aU hb]
    ·have hb:(if kP b=j+1 then i+1 else kP b)=i+1:=hb;split at hb
     ·rename_i h2;exact z.own KE b (.inr h2)
     ·exact z.own KE b (.inl hb)
   ·rw[jy o8]at hu;have ho:=w.get hu;refine u.frame ho (fun _ _=>rfl) (iU _) (fun b hb=>?_) fun b hb=>?_
    ·have hb:kP b=n+1:=hb;show(if kP b=j+1 then i+1 else kP b)=n+1;rw[aH (by omega)];exact hb
    ·have hb:(if kP b=j+1 then i+1 else kP b)=n+1:=hb;split at hb
     ·omega
     ·exact u.own ho b hb
 ·show(if kP b=j+1 then i+1 else kP b)=0;rw[w.out b hb,aH (by omega)]
 ·show(if kP b=j+1 then i+1 else kP b)=0;rw[e,aH (by omega)]
structure Sub where
 v:Value
 T:Nat
 n:Nat
 vs:List (Array Value)
def Ob.Hj(ss:List Sub):Ob:=.of (fun H O=>∀ x∈ss,Sv x.T x.n H x.v x.vs/\∀ b,ZH x.v=some b->O b) fun h hb _ ho x hx=>⟨(h x hx).1.of fun b hh=>hb b ((h x hx).2 b hh),fun b hh=>ho b ((h x hx).2 b hh)⟩
structure PA where
 c:Array Value
 ss:List Sub
def Ob.nest(T n:Nat)(s:Value)(es:List PA):Ob:=.of (fun H O=>Sv T n H s (es.map PA.c)/\(∀ b,ZH s=some b->O b)/\∀ e∈es,∀ x∈e.ss,Sv x.T x.n H x.v x.vs/\∀ b,ZH x.v=some b->O b/\ZH s≠some b)
 fun h hb _ ho=>⟨h.1.of fun b hh=>hb b (h.2.1 b hh),fun b hh=>ho b (h.2.1 b hh),fun e he x hx=>⟨(h.2.2 e he x hx).1.of fun b hh=>hb b ((h.2.2 e he x hx).2 b hh).1,fun b hh=>⟨ho b ((h.2.2 e he x hx).2 b hh).1,((h.2.2 e he x hx).2 b hh).2⟩⟩⟩
def Ob.Rt(T n:Nat)(s:Value)(es:List PA)(ss:List Sub):Ob:=.of (fun H O=>Sv T n H s (es.map PA.c)/\(∀ b,ZH s=some b->O b)/\(∀ e∈es,∀ y∈e.ss,Sv y.T y.n H y.v y.vs/\∀ b,ZH y.v=some b->O b/\ZH s≠some b)/\∀ y∈ss,Sv y.T y.n H y.v y.vs/\∀ b,ZH y.v=some b->O b/\ZH s≠some b)
 fun h hb _ ho=>⟨h.1.of fun b hh=>hb b (h.2.1 b hh),fun b hh=>ho b (h.2.1 b hh),fun e he x hx=>⟨(h.2.2.1 e he x hx).1.of fun b hh=>hb b ((h.2.2.1 e he x hx).2 b hh).1,fun b hh=>⟨ho b ((h.2.2.1 e he x hx).2 b hh).1,((h.2.2.1 e he x hx).2 b hh).2⟩⟩,fun x hx=>⟨(h.2.2.2 x hx).1.of fun b hh=>hb b ((h.2.2.2 x hx).2 b hh).1,fun b hh=>⟨ho b ((h.2.2.2 x hx).2 b hh).1,((h.2.2.2 x hx).2 b hh).2⟩⟩⟩
theorem oh.afS(H:Hp)(T n:Nat):oh H H (.nest T n (.slice none 0 0) []):=⟨fun _=>False,⟨⟨Sv.nil T n H,fun b hb=>(by cases hb),fun e he=>(by cases he)⟩,fun b hb=>hb.elim⟩,fun b hb=>hb.elim⟩
theorem oh.XM{H H':Hp}{T n:Nat}{s:Value}{vs:List (Array Value)}(h:oh H H' (.sl T n s vs)):oh H H' (.Hj [⟨s,T,n,vs⟩]):=by
 obtain⟨O,ho,hn⟩:=h;exact⟨O,⟨fun x hx=>by rw[eU.1 hx];exact ho.1,ho.2⟩,hn⟩
theorem oh.F5{H H':Hp}{T n:Nat}{s:Value}{es:List PA}(h:oh H H' (.nest T n s es)):Sv T n H' s (es.map PA.c):=by
 obtain⟨O,ho,_⟩:=h;exact ho.1.1
theorem oh.Ci{H H':Hp}{T n:Nat}{s:Value}{es:List PA}(h:oh H H' (.nest T n s es)):∀ e∈es,∀ x∈e.ss,Sv x.T x.n H' x.v x.vs:=by
 obtain⟨O,ho,_⟩:=h;exact fun e he x hx=>(ho.1.2.2 e he x hx).1
section
variable{P:Program}{S:Nat->Prop}{H0 H:Hp}{l:List Ob}
theorem Lo.nsv(h:Lo S H0 H l){i T n:Nat}{s:Value}{es:List PA}(hi:l[i]?=some (.nest T n s es)):Sv T n H s (es.map PA.c):=by
 obtain⟨O,ho⟩:=h.get hi;exact ho.1.1
theorem Lo.abg(h:Lo S H0 H l){i:Nat}{ss:List Sub}(hi:l[i]?=some (.Hj ss)):∀ x∈ss,Sv x.T x.n H x.v x.vs:=by
 obtain⟨O,ho⟩:=h.get hi;exact fun x hx=>(ho.1 x hx).1
end
def fC(kd n:Int):Array Value:=#[.int .u8 kd,zg n]
theorem IY(kd n:Int):zv (fC kd n):=by unfold zv;rw[<- iV];rfl
noncomputable def S2:ZX:=Ms (zQ TP 131)
theorem I4:zQ TP 131=some S2:=by kernel_rfl
theorem C8:S2.type=251/\S2.size=2/\S2.zero.size=2/\S2.bytes=16:=⟨by kernel_rfl,by kernel_rfl,by kernel_rfl,by kernel_rfl⟩
theorem LV:TP.underlying 131=some (.slice 251):=by kernel_rfl
theorem wZ(a b:Int):zo TP 251 [(0,.int .u8 a),(1,zg b)]=some (.agg (fC a b)):=by kernel_rfl
theorem YN(a:Int):zo TP 255 [(0,.int .u8 a)]=some (.agg #[.int .u8 a,.slice none 0 0]):=by kernel_rfl
def yJ(p:Nat)(kd:Int)(fs:List Int):Ob:=
 ⟨fun H O=>∃ s,(Ob.all [.box p #[.int .u8 kd,s] 255,.sl 251 2 s (fs.map (fC kd))]).at_ H O,
  fun⟨_,h⟩=>Ob.own _ h,fun⟨s,h⟩ hb hs ho hl=>⟨s,Ob.frame _ h hb hs ho hl⟩⟩
section
variable{S:Nat->Prop}{H0 H:Hp}{l:List Ob}
theorem Lo.Oz{kd:Int}{K:Value->Hp->Prop}(h:Lo S H0 H l)(k:∀ p H',Ext H H'->Lo S H0 H' (l++[yJ p kd []])->K (zD p) H'):kT 255 (.agg #[.int .u8 kd,.slice none 0 0]) H K:=by
 refine h.jc fun p H' e l1=>k p H' e ?_;have l2:=l1.nt 251 2;rw[jP]at l2;have l3:=Lo.pack l2;have hl:(l++[Ob.all ([Ob.box p #[.int .u8 kd,.slice none 0 0] 255]++[Ob.sl 251 2 (.slice none 0 0) []])])[l.length]?=some (Ob.all ([Ob.box p #[.int .u8 kd,.slice none 0 0] 255]++[Ob.sl 251 2 (.slice none 0 0) []])):=by
  rw[jB (iU _),nM];rfl
 have l4:=l3.nth (y:=yJ p kd []) hl fun O ho=>⟨_,ho⟩;rw[List.set_append_right _ _ (iU _),nM]at l4;exact l4
theorem Lo.xU{p:Nat}{kd:Int}{fs:List Int}(h:Lo S H0 H l){i:Nat}(hi:l[i]?=some (yJ p kd fs)):∃ s,H[p]?=some (.cells #[.int .u8 kd,s] 255)/\Lo S H0 H (l.set i (.sl 251 2 s (fs.map (fC kd)))):=by
 obtain⟨O,⟨s,ha⟩,st⟩:=h.call hi;have l0:=Lo.open ha;refine⟨s,l0.at (i:=0) rfl,?_⟩;obtain⟨O',s',hx⟩:=Lo.close (l:=[_]) (r:=[]) (l0.pick [1] (by decide) (by simp));refine st H _ O' s' ?_;obtain⟨⟨kP,w,hc⟩,hl⟩:=hx;exact Ob.frame _ (w.Rm 0 _ rfl) (fun _ _=>rfl) (iU _) (fun b hb=>hc b (by have hb:kP b=0+1:=hb;omega)) hl
end
section
variable{H:Hp}{R:Value->Hp->Prop}{p:Nat}{kd:Int}{fs:List Int}{O:Nat->Prop}
theorem rM(h:(yJ p kd fs).at_ H O)(hlen:fs.length<1099511627776){n:Int}(k:∀ H' O' fs',fs'≠[]->fs'.length<=fs.length+1->kS O O' H H'->(yJ p kd fs').at_ H' O'->R (.tuple #[]) H'):Fc TP 180 #[zD p,zg n] H R:=by
 obtain⟨s,ha⟩:=h;have l0:=(Lo.open ha).nt 251 2;refine fn180 ?_;simp only[sh180,Ul,UL,UA,Us,Ub,UI,Ui,Ug,Uu,Uj,Uo,Uq,Uv,U1,U0,zl,zc,aR,za,zm];have f0:(#[.int .u8 kd,s]:Array Value)[0]?=some (.int .u8 kd):=rfl;have f1:(#[.int .u8 kd,s]:Array Value)[1]?=some s:=rfl;refine zF.mk (fun t H'=>∃ (i:Nat) (dn:Bool) (v:Value) (gs:List Int),i<=fs.length/\t=(v,.bool dn,zg i,())/\gs.length=i+(if dn then 1 else 0)/\Lo O H H' [.box p #[.int .u8 kd,s] 255,.sl 251 2 s (fs.map (fC kd)),.sl 251 2 v (gs.map (fC kd))])
  (fun t _=>mi t.2.2.1 fun i=>(fs.length - i).toNat) ⟨0,false,.slice none 0 0,[],by omega,rfl,rfl,l0⟩ ?_
 rintro _ H1 ⟨i,dn,v,gs,hi,rfl,GU,l1⟩;have ap4:gs.length<=i+1:=by rw[GU];split<;>omega
 have sv:=l1.sv (i:=1) rfl;rw[l1.ld (i:=0) rfl,f1,za,sv.j9 LV,za,bR,zk,za,zb];refine⟨fun kc=>?_,fun lA=>?_⟩
 ·have kI:i<fs.length:=by omega
  have lP:(fs.map (fC kd))[i]?=some (fC kd fs[i]):=by rw[dR,bU kI];rfl
  generalize fs[i]=x at lP;obtain⟨b,o,wH,lI,kE⟩:=sv.sr.el lP;rw[za,wH,za,zc,za,lI 1 (by omega),show(fC kd x)[1]?=some (zg x) from rfl,za,zp,za,zb];refine⟨fun he=>?_,fun jZ=>?_⟩
  ·obtain⟨O',st,ho⟩:=Lo.close (l:=[_,_]) (r:=[_]) l1;exact k H1 O' fs (fun e=>by subst e;simp at kI) (by omega) st ⟨s,ho⟩
  ·refine Zg.mk (fun t H'=>∃ (dn':Bool) (v':Value) (Ov:List Int),t=(v',.bool dn',())/\Ov.length=i+(if dn' then 1 else 0)/\Lo O H H' [.box p #[.int .u8 kd,s] 255,.sl 251 2 s (fs.map (fC kd)),.sl 251 2 v' (Ov.map (fC kd))]) ?_ ?_
   ·rintro _ H2 ⟨dn',v',Ov,rfl,ag1,l2⟩;have amY:Ov.length<=i+1:=by rw[ag1];split<;>omega
    obtain⟨b,o,wH,lI,kE⟩:=(l2.sv (i:=1) rfl).sr.el lP;rw[l2.ld (i:=0) rfl,f1,za,wH,za,show(⟨b,o,none⟩:Addr)=⟨b,o+0,none⟩ from rfl,kE 0 2 (by omega),za,show(fC kd x).extract 0 (0+2)=fC kd x from rfl];refine l2.qY I4 C8 (i:=2) rfl (by rfl) (by omega) (by omega) rfl (IY _ _) (by rw[bR];omega) fun v3 H4 l4=>?_;rw[ze,za,zE,zr (by omega)];refine⟨⟨i+1,dn',v3,Ov++[x],by omega,rfl,?_,?_⟩,by simp only[zu];omega⟩
    ·rw[cR,ag1];simp only[gR,jW];omega
    ·rw[cU];exact l4
   ·refine Zg.mk (fun t H'=>H'=H1/\∃ c:Bool,t.1=.bool c/\(c=true->dn=false)) ?_ ?_
    ·rintro⟨t,u⟩ H5 ⟨rfl,c,ht,hcd⟩;simp only at ht;subst ht;rw[Zj];refine⟨fun hc=>?_,fun hc=>⟨dn,v,gs,rfl,GU,l1⟩⟩;have hd:=hcd hc;rw[l1.ld (i:=0) rfl,f0,za,wZ,za];refine l1.qY I4 C8 (i:=2) rfl (by rfl) (by omega) (by omega) rfl (IY _ _) (by rw[bR];omega) fun v3 H4 l4=>?_;refine⟨true,v3,gs++[n],rfl,?_,by rw[cU];exact l4⟩;rw[cR,GU,hd];rfl
    ·rw[zx,za,Zm];refine⟨fun hd=>?_,fun hd=>⟨rfl,false,rfl,fun hh=>by cases hh⟩⟩;rw[za,wH,za,zc,za,lI 1 (by omega),show(fC kd x)[1]?=some (zg x) from rfl,za,zJ,za];exact⟨rfl,_,rfl,fun _=>hd⟩
 ·have ei:i=fs.length:=by omega
  refine Zg.mk (fun t H'=>∃ (v':Value) (Ov:List Int),t.1=v'/\Ov≠[]/\Ov.length<=fs.length+1/\Lo O H H' [.box p #[.int .u8 kd,s] 255,.sl 251 2 s (fs.map (fC kd)),.sl 251 2 v' (Ov.map (fC kd))]) ?_ ?_
  ·rintro⟨t,u⟩ H8 ⟨v',Ov,rfl,jZ,hle,l8⟩;have lT:=(l8.sv (i:=2) rfl).one;refine l8.st (i:=0) (j:=1) (v:=t) rfl (by simp) lT.2 lT.1 fun H9 l9=>?_;obtain⟨O',st,ho⟩:=Lo.close (l:=[_,_]) (r:=[]) (l9.pick [0,2] (by decide) (by simp));exact k H9 O' Ov jZ hle st ⟨t,ho⟩
  ·rw[zx,za,Zm];refine⟨fun hd=>?_,fun hd=>?_⟩
   ·rw[l1.ld (i:=0) rfl,f0,za,wZ,za];refine l1.qY I4 C8 (i:=2) rfl (by rfl) (by omega) (by omega) rfl (IY _ _) (by rw[bR];omega) fun v3 H4 l4=>?_;refine⟨v3,gs++[n],rfl,by simp,?_,by rw[cU];exact l4⟩;rw[cR];simp only[gR,jW];rw[hd]at GU;simp at GU;omega
   ·rw[hd]at GU;simp only[jO]at GU;exact⟨v,gs,rfl,fun e=>by subst e;simp at GU,by omega,l1⟩
def HO(c:Array Value)(f:kM):Prop:=(∃ i,60<=i/\i<64/\kv c i≠0)\/2<f 0\/67381248<f 2\/1000<f 1\/(f 0=2/\(f 2 % 16≠0\/f 1≠0/\(f 2<32\/f 1=1)))
theorem afM{c:Array Value}{f:kM}(hc:mu 64 c)(k:∀ H',Ext H H'->R (.bool (decide (HO c f))) H'):Fc TP 179 #[.agg c,.agg (zS f)] H R:=by
 refine fn179 ?_;simp only[sh179,Ul,UA,Ub,Uk,Uj,Uo,Uv,U1,U0,zm];refine(Lo.start _ H:Lx H H []).jc fun b1 H1 _ l1=>?_;refine l1.jc fun b2 H2 _ l2=>?_;simp only[zc,aR,za];have i0:(zS f)[0]?=some (.int .u16 (f 0)):=rfl;have i1:(zS f)[1]?=some (.int .u16 (f 1)):=rfl;have i2:(zS f)[2]?=some (.int .u32 (f 2)):=rfl;have fin:∀ (b:Bool) {p:Prop},(b=true↔p)->(p↔HO c f)->R (.bool b) H2:=fun b p h1 h2=>by
  have:=k H2 l2.iZ;rw[show decide (HO c f)=b from by rw[jL,iS,h1,h2]]at this;exact this
 refine zF.mk (fun t H'=>H'=H2/\∃ i:Nat,60<=i/\i<=64/\t=(zg i,())/\∀ j,60<=j->j<i->kv c j=0) (fun t _=>mi t.1 fun i=>(64 - i).toNat) ⟨rfl,60,by omega,by omega,rfl,fun j _ _=>by omega⟩ ?_;rintro _ H3 ⟨rfl,i,hi1,Gg,rfl,hz⟩;rw[zk,za,zb];refine⟨fun kc=>?_,fun lA=>?_⟩
 ·rw[zC (by omega),za,aR,iX,l2.ld (i:=0) rfl,hc.get (by omega),za,zn,za,zb];refine⟨fun jZ=>fin true (p:=True) (by simp) ⟨fun _=>.inl ⟨i,hi1,by omega,by omega⟩,fun _=>trivial⟩,fun he=>?_⟩;rw[ze,za,zE,zr (by omega)];refine⟨⟨rfl,i+1,by omega,by omega,rfl,fun j h1 h2=>?_⟩,by simp only[zu];omega⟩;by_cases e:j=i
  ·subst e;omega
  ·exact hz j h1 (by omega)
 ·have ei:i=64:=by omega
  subst ei;have kG:¬ ∃ i,60<=i/\i<64/\kv c i≠0:=fun⟨j,h1,h2,h3⟩=>h3 (hz j h1 h2);have Oh:HO c f↔(2<f 0\/67381248<f 2\/1000<f 1)\/(f 0=2/\(f 2 % 16≠0\/f 1≠0/\(f 2<32\/f 1=1))):=by
   unfold HO;constructor
   ·rintro(h | h | h | h | h)
    ·exact absurd h kG
    ·exact .inl (.inl h)
    ·exact .inl (.inr (.inl h))
    ·exact .inl (.inr (.inr h))
    ·exact .inr h
   ·rintro((h | h | h) | h)
    ·exact .inr (.inl h)
    ·exact .inr (.inr (.inl h))
    ·exact .inr (.inr (.inr (.inl h)))
    ·exact .inr (.inr (.inr (.inr h)))
  refine Zg.mk (fun t H'=>H'=H3/\t.1=.bool (decide (2<f 0\/67381248<f 2\/1000<f 1))) ?_ ?_
  ·rintro⟨t,u⟩ H4 ⟨rfl,ht⟩;simp only at ht;subst ht;rw[zb];refine⟨fun h1=>fin true (p:=True) (by simp) (by rw[Oh];exact⟨fun _=>.inl h1,fun _=>trivial⟩),fun h1=>?_⟩;rw[l2.ld (i:=1) rfl,i0,za,zp,za,zb];refine⟨fun h2=>?_,fun h2=>fin false (p:=False) (by simp) (by rw[Oh];exact⟨False.elim,fun h=>h.elim h1 fun h=>h2 (by omega)⟩)⟩;have h2:f 0=2:=by omega
   rw[l2.ld (i:=1) rfl,i2,za,z7 (by decide),za,Zb (by omega),zn,za,zb];refine⟨fun h3=>fin true (p:=True) (by simp) (by rw[Oh];exact⟨fun _=>.inr ⟨h2,.inl (by omega)⟩,fun _=>trivial⟩),fun h3=>?_⟩;rw[l2.ld (i:=1) rfl,i1,za,zn,za,zb];refine⟨fun h4=>?_,fun h4=>fin false (p:=False) (by simp) (by rw[Oh];exact⟨False.elim,fun h=>h.elim h1 fun h=>by omega⟩)⟩;rw[za,zk,za,zb];refine⟨fun h5=>fin true (p:=True) (by simp) (by rw[Oh];exact⟨fun _=>.inr ⟨h2,.inr ⟨by omega,.inl (by omega)⟩⟩,fun _=>trivial⟩),fun h5=>?_⟩;rw[za,zp,za];refine fin _ (p:=f 1=1) (by rw[iS];omega) ?_;rw[Oh];exact⟨fun h=>.inr ⟨h2,.inr ⟨by omega,.inr h⟩⟩,fun h=>h.elim (fun h=>absurd h h1) fun h=>by omega⟩
  ·rw[l2.ld (i:=1) rfl,i0,za,zJ,za,zb];refine⟨fun h1=>⟨rfl,?_⟩,fun h1=>?_⟩
   ·rw[gU (.inl (by omega))]
   ·rw[l2.ld (i:=1) rfl,i2,za,zJ,za,zb];refine⟨fun h2=>⟨rfl,?_⟩,fun h2=>?_⟩
    ·rw[gU (.inr (.inl (by omega)))]
    ·rw[l2.ld (i:=1) rfl,i1,za,zJ,za];refine⟨rfl,?_⟩;show Value.bool _=Value.bool _;congr 1;rw[kr];omega
end
theorem ajw:pN TP 104 64 .u8:=⟨⟨5,by kernel_rfl,by kernel_rfl,by kernel_rfl,by kernel_rfl⟩,by kernel_rfl⟩
theorem Xn:zo TP 104 []=some (.agg (zR 64)):=by kernel_rfl
theorem eqR{a b:Array Value}(ha:mu 64 a)(hb:mu 64 b){lit:Bool}{H:Hp}:CZ TP 104 lit (.agg a) (.agg b) H=some (decide (a=b)):=
 Gu ajw ha.size hb.size (fun i hi=>⟨_,ha.get hi⟩) (fun i hi=>⟨_,hb.get hi⟩)
section
variable(B L I:Int)(l:List (Int × jn))
def Lw(i:Nat):Prop:=(YP B L I l i 0≠0/\HO (ur B L I l i) (YP B L I l i))\/(YP B L I l i 0=0/\ur B L I l i≠zR 64)
def Yp(i:Nat):Prop:=Lw B L I l i\/(i=0/\ur B L I l i≠zR 64)\/(i=1/\(YP B L I l i 0≠2\/YP B L I l i 1=0))
def xb:Prop:=(∀ i:Nat,(i:Int)<=I->¬ Yp B L I l i)/\∀ i:Nat,I<i->(i:Int)<16*((I+16) / 16)->ur B L I l i=zR 64
end
section
variable{H:Hp}{R:Value->Hp->Prop}{d:Nat}{dv:Value}{B L I:Int}{l:List (Int × jn)}
theorem Mm(h:Lk H d dv B L I l)(i:Nat):mu 64 (ur B L I l i):=rR (ZS h.is _) (by omega)
theorem RB(h:Lk H d dv B L I l)(k:∀ H' s fs,Ext H H'->oh H H' (.sl 251 2 s (fs.map (fC 4)))->(fs=[]↔xb B L I l)->R s H'):Fc TP 151 #[zD d] H R:=by
 obtain⟨xP,xO,wI,xQ,vP,vO,gD⟩:=id h.ok;obtain⟨In,eI⟩:∃ In:Nat,I=In:=⟨I.toNat,by omega⟩;have hI:(zf B L I).I=I:=rfl;have hNB:(zf B L I).kO=(I+16) / 16:=rfl;refine fn151 ?_;simp only[sh151,Ul,UL,UA,Us,Ub,Uz,UI,Uf,Uw,Uu,Uj,Uo,Uv,U1,U0,YN,rh,ZE,Xn,za,zm];refine(Lo.start _ H:Lx H H []).Oz fun p H1 e1 l1=>?_;have l1:Lx H H1 [yJ p 4 []]:=l1;simp only[zl,zc,aR,bH,Nat.reduceAdd,za];rw[zi (h.ext l1.iZ).top,V5,za,hI];refine zF.mk (fun t H'=>∃ (i:Nat) (fs:List Int),i<=In+1/\t=(zg i,())/\fs.length<=i/\(fs=[]↔∀ j,j<i->¬ Yp B L I l j)/\Lx H H' [yJ p 4 fs])
  (fun t _=>mi t.1 fun i=>(In+1 - i).toNat) ⟨0,[],by omega,rfl,by simp,by simp,l1⟩ ?_
 rintro _ H2 ⟨i,fs,hi,rfl,uK,re,l2⟩;rw[yp,za,zb];refine⟨fun hle=>?_,fun AS=>?_⟩
 ·have CH:=Mm h i;refine F8 (h.ext l2.iZ) (by omega) fun H3 e3=>?_;refine(l2.ext e3).jc fun b1 H4 _ l4=>?_;refine l4.jE (i:=1) rfl (yU 64) CH.size CH.ok fun H5 l5=>?_;refine MJ (h.ext l5.iZ) (by omega) fun H6 e6=>?_;refine(l5.ext e6).jc fun b2 H7 _ l7=>?_;refine l7.jE (i:=2) rfl (zt _) (zt _) (ZA _) fun H8 l8=>?_;have l8:Lx H H8 [yJ p 4 fs,.box b1 (ur B L I l i) 104,.box b2 (zS (YP B L I l i)) 54]:=l8;have i0:(zS (YP B L I l i))[0]?=some (.int .u16 (YP B L I l i 0)):=rfl;have i1:(zS (YP B L I l i))[1]?=some (.int .u16 (YP B L I l i 1)):=rfl;rw[l8.je (i:=1) (n:=64) rfl CH.size,za,YX,eqR CH (yz 64),iR,za];simp only[zc,aR,za];refine Zg.mk (fun t H'=>t.1=.bool (decide (Lw B L I l i))/\Lx H H' [yJ p 4 fs,.box b1 (ur B L I l i) 104,.box b2 (zS (YP B L I l i)) 54]) ?_ ?_
  ·rintro⟨t,u⟩ H9 ⟨ht,l9⟩;simp only at ht;subst ht;refine Zg.mk (fun t H'=>H'=H9/\t.1=.bool (decide (Yp B L I l i))) ?_ ?_
   ·rintro⟨t,u⟩ mX ⟨rfl,ht⟩;simp only at ht;subst ht;rw[zb];have kH:∀ j,j<i+1↔j<i\/j=i:=fun j=>by omega
    refine⟨fun hb=>?_,fun hb=>?_⟩
    ·obtain⟨O,ho,st⟩:=l9.call (i:=0) rfl;refine rM ho (by omega) fun mN LH fs' jZ hle Dy KQ=>?_;have lO:=st mN _ LH Dy KQ;rw[ze,za,zE,zr (by omega)];refine⟨⟨i+1,fs',by omega,rfl,by omega,⟨fun e=>absurd e jZ,fun hh=>absurd hb (hh i (by omega))⟩,lO.takeN 1⟩,by simp only[zu];omega⟩
    ·rw[ze,za,zE,zr (by omega)];refine⟨⟨i+1,fs,by omega,rfl,by omega,⟨fun e j hj=>?_,fun hh=>re.2 fun j hj=>hh j (by omega)⟩,l9.takeN 1⟩,by simp only[zu];omega⟩;rcases(kH j).1 hj with h1 | h1
     ·exact re.1 e j h1
     ·rw[h1];exact hb
   ·have b1:∀ {c:Bool},(c=true↔Yp B L I l i)->(Value.bool c)=.bool (decide (Yp B L I l i)):=fun hc=>by congr 1;rw[jL,hc,iS]
    rw[zb];refine⟨fun hb=>⟨rfl,b1 (by simp[Yp,hb])⟩,fun hb=>?_⟩;rw[zp,za,zb];refine⟨fun h0=>?_,fun h0=>?_⟩
    ·have h0:i=0:=by omega
     subst h0;rw[zx,za,Zm];refine⟨fun hr=>⟨rfl,b1 ?_⟩,fun hr=>?_⟩
     ·rw[jq]at hr;simp[Yp,hr]
     ·rw[iS]at hr;rw[zp,za,zb];refine⟨fun h1=>by omega,fun _=>⟨rfl,b1 ?_⟩⟩;simp[Yp,hb,hr]
    ·have h0:i≠0:=by omega
     rw[zp,za,zb];refine⟨fun h1=>?_,fun h1=>⟨rfl,b1 ?_⟩⟩
     ·have h1:i=1:=by omega
      subst h1;rw[l9.ld (i:=2) rfl,i0,za,zn,za,zb];refine⟨fun h2=>⟨rfl,b1 ?_⟩,fun h2=>?_⟩
      ·have:YP B L I l 1 0≠2:=by omega
       simp[Yp,this]
      ·rw[l9.ld (i:=2) rfl,i1,za,zp,za];refine⟨rfl,b1 ?_⟩;have h2:YP B L I l 1 0=2:=by omega
       rw[iS];unfold Yp;constructor
       ·intro h3;exact .inr (.inr ⟨rfl,.inr (by omega)⟩)
       ·rintro(h3 | h3 | h3)
        ·exact absurd h3 hb
        ·omega
        ·rcases h3.2 with h4 | h4
         ·exact absurd h2 h4
         ·omega
     ·have h1:i≠1:=by omega
      simp[Yp,hb,h0,h1]
  ·have b1:∀ {c:Bool},(c=true↔Lw B L I l i)->(Value.bool c)=.bool (decide (Lw B L I l i)):=fun hc=>by congr 1;rw[jL,hc,iS]
   rw[l8.ld (i:=2) rfl,i0,za,zn,za,zb];refine⟨fun h0=>?_,fun h0=>?_⟩
   ·have h0:YP B L I l i 0≠0:=by omega
    rw[l8.je (i:=2) (n:=16) rfl (zt _),za];refine afM CH fun tF GX=>?_;have oC:=l8.ext GX;rw[zb];refine⟨fun ho=>⟨b1 (by simp[Lw,h0,ho]),oC⟩,fun ho=>?_⟩;rw[oC.ld (i:=2) rfl,i0,za,zp,za,zb];refine⟨fun h1=>by omega,fun _=>⟨b1 (by simp[Lw,h0,ho]),oC⟩⟩
   ·have h0:YP B L I l i 0=0:=by omega
    rw[za,zp,za,zb];refine⟨fun _=>?_,fun h1=>by omega⟩;rw[zx,za];refine⟨b1 ?_,l8⟩;simp[Lw,h0]
 ·have ei:i=In+1:=by omega
  subst ei;refine l2.jc fun b3 sD _ oM=>?_;rw[ze,za,zd (by omega) (by omega),eI,zE];obtain⟨M,eM,hM⟩:∃ M:Nat,16*(((In:Int)+16) / 16)=M/\M<65553:=⟨(16*(((In:Int)+16) / 16)).toNat,by omega,by omega⟩;refine zF.mk (fun t H'=>∃ (i:Nat) (fs:List Int),In+1<=i/\i<=M/\t=(zg i,())/\fs.length<=i/\(fs=[]↔(∀ j,j<In+1->¬ Yp B L I l j)/\∀ j,In+1<=j->j<i->ur B L I l j=zR 64)/\Lx H H' [yJ p 4 fs,.box b3 (zR 64) 104])
   (fun t _=>mi t.1 fun i=>(M - i).toNat) ⟨In+1,fs,by omega,by omega,rfl,uK,by rw[re];exact⟨fun hh=>⟨hh,fun j h1 h2=>by omega⟩,fun hh=>hh.1⟩,oM⟩ ?_
  rintro _ By ⟨i,fs,hi1,Gg,rfl,uK,re,vh⟩;have h14:=h.ext vh.iZ;rw[zi h14.top,ajV,za,hNB,eI,zW,za,zd (by omega) (by omega),eM,zk,za,zb];refine⟨fun kc=>?_,fun lA=>?_⟩
  ·have CH:=Mm h i;refine Zg.mk (fun t H'=>t.1=.bool (decide (ur B L I l i≠zR 64))/\Lx H H' [yJ p 4 fs,.box b3 (zR 64) 104]) ?_ ?_
   ·rintro⟨t,u⟩ DH ⟨ht,pO⟩;simp only at ht;subst ht;rw[zb];refine⟨fun hb=>?_,fun hb=>?_⟩
    ·rw[ze,za,zd (by omega) (by omega)];obtain⟨O,ho,st⟩:=pO.call (i:=0) rfl;refine rM ho (by omega) fun mN LH fs' jZ hle Dy KQ=>?_;have lO:=st mN _ LH Dy KQ;rw[za,zE];refine⟨⟨i+1,fs',by omega,by omega,rfl,by omega,⟨fun e=>absurd e jZ,fun hh=>absurd (hh.2 i (by omega) (by omega)) hb⟩,lO⟩,by simp only[zu];omega⟩
    ·have hb:=jh.1 hb;rw[ze,za,zE,zr (by omega)];refine⟨⟨i+1,fs,by omega,by omega,rfl,by omega,⟨fun e=>⟨(re.1 e).1,fun j h1 h2=>?_⟩,fun hh=>re.2 ⟨hh.1,fun j h1 h2=>hh.2 j h1 (by omega)⟩⟩,pO⟩,by simp only[zu];omega⟩;by_cases e2:j=i
     ·rw[e2];exact hb
     ·exact(re.1 e).2 j h1 (by omega)
   ·have fin:∀ {H':Hp},ya TP 104 false .neq (.agg (ur B L I l i)) (.agg (zR 64)) H'=some (.bool (decide (ur B L I l i≠zR 64))):=fun {H'}=>by
     rw[Yy,eqR CH (yz 64),iR];congr 2;rw[jL];simp
    refine⟨?_,?_,trivial⟩
    ·rw[zj];intro NB e20;refine F8 (h14.ext e20) (by omega) fun PT e21=>?_;have l21:=vh.ext (e20.trans e21);rw[l21.je (i:=1) (n:=64) rfl (yU 64),za,fin,za,zj];exact fun H22 e22=>⟨rfl,l21.ext e22⟩
    ·rw[vh.je (i:=1) (n:=64) rfl (yU 64),za,zj];intro NB e20;refine F8 (h14.ext e20) (by omega) fun PT e21=>?_;rw[fin,za,zj];exact fun H22 e22=>⟨rfl,vh.ext ((e20.trans e21).trans e22)⟩
  ·obtain⟨s,hg,pO⟩:=vh.xU (i:=0) rfl;rw[zi hg];show Pu (some s) _;rw[za];refine k By s fs vh.iZ (pO.nY (i:=0) rfl) ?_;rw[re];unfold xb;rw[eI];exact⟨fun hh=>⟨fun j hj=>hh.1 j (by omega),fun j h1 h2=>hh.2 j (by omega) (by omega)⟩,fun hh=>⟨fun j hj=>hh.1 j (by omega),fun j h1 h2=>hh.2 j (by omega) (by omega)⟩⟩
end
noncomputable def vG(f:kM)(n:Nat):List Jz:=(List.range n).filterMap fun i=>if f (4+i)=0 then none else some ((i:Int),(f (4+i):Int))
theorem OR(f:kM)(n:Nat):vG f (n+1)=vG f n++(if f (4+n)=0 then [] else [((n:Int),(f (4+n):Int))]):=by
 unfold vG;rw[uS,List.filterMap_append];congr 1;simp only[ot,List.filterMap_nil];split<;>rename_i h<;>split at h<;>simp_all
theorem Dc(f:kM)(n:Nat):(vG f n).length<=n:=by
 unfold vG;have:=List.length_filterMap_le (fun i=>if f (4+i)=0 then none else some ((i:Int),(f (4+i):Int))) (List.range n);simpa using this
section
variable(B L I:Int)(l:List (Int × jn))
noncomputable def pe(n:Nat):List Jz:=if n=0 then [] else [(-1,(n:Int))]
noncomputable def JF(a:Nat)(first:Int):List Jz:=if px B L I a then rj (z9 l a) first 256 else []
noncomputable def Df(c:jn)(n:Nat):List Jz:=(List.range n).flatMap fun i=>pe (uw c i)++JF B L I l (uw c i) (266+256*(i:Int))
noncomputable def YG(f:kM):List Jz:=vG f 10++pe (f 14)++JF B L I l (f 14) 10++pe (f 15)++(if px B L I (f 15) then Df B L I l (z9 l (f 15)) 256 else [])
end
theorem tR(n:Nat):(pe n).length<=1:=by unfold pe;split<;>simp
theorem FF(B L I:Int)(l:List (Int × jn))(a:Nat)(first:Int):(JF B L I l a first).length<=256:=by
 unfold JF;split
 ·exact ri _ _ _
 ·simp
theorem E8(B L I:Int)(l:List (Int × jn))(c:jn)(n:Nat):Df B L I l c (n+1)=Df B L I l c n++pe (uw c n)++JF B L I l (uw c n) (266+256*(n:Int)):=by
 unfold Df;rw[uS,List.flatMap_append,jP];congr 1;simp
theorem De(B L I:Int)(l:List (Int × jn))(c:jn):∀ n,(Df B L I l c n).length<=257*n
 | 0=>by simp[Df]
 | n+1=>by
  have h1:=De B L I l c n;have h2:=tR (uw c n);have h3:=FF B L I l (uw c n) (266+256*(n:Int));rw[E8,cR,cR];omega
theorem BO(B L I:Int)(l:List (Int × jn))(f:kM):(YG B L I l f).length<=66100:=by
 have h1:=Dc f 10;have h2:=tR (f 14);have h3:=FF B L I l (f 14) 10;have h4:=tR (f 15);have h5:=De B L I l (z9 l (f 15)) 256;unfold YG;simp only[cR];split<;>simp<;>omega
section
variable{H:Hp}{R:Value->Hp->Prop}{d:Nat}{dv:Value}{B L I:Int}{l:List (Int × jn)}
section
variable{S:Nat->Prop}{H0 H:Hp}{ol:List Ob}
theorem Lo.LB{K:Value->Hp->Prop}(h:Lo S H0 H ol){i n:Nat}{s:Value}{sp:List Jz}(hi:ol[i]?=some (.sl 233 2 s (sp.map o7)))(hlen:sp.length<1000000)
   (k:∀ s' H',Lo S H0 H' (ol.set i (.sl 233 2 s' ((sp++pe n).map o7)))->K s' H') :
   Pu (z8 (some (.int .i64)) .neq (zg n) (.int .i64 0)) fun x70=>hU x70 (Pu (zo TP 233 [(0,(.int .i64 (-1))),(1,zg n)]) fun x71=>Pu (zQ TP 190) fun x72=>Pu (zT (some x72) 1 [(0,x71)]) fun x73=>nK x72.type 1 x73 H fun x74 H25=>mD (zQ TP 190) s x74 H25 fun x75 H26=>K x75 H26) (K s H):=by
 rw[zn,za,zb]
 refine⟨fun jZ=>?_,fun he=>?_⟩
 · rw[Ag,za]
   refine h.qY C3 yZ hi (by rfl) (by omega) (by omega) rfl (xi _) (by rw[bR];omega) fun s' H' l'=>k s' H' ?_
   unfold pe
   rw[aH (by omega),cU];exact l'
 · refine k s H ?_
   unfold pe
   rw[aU (by omega),jY]
   have:=h.nth hi (y:=.sl 233 2 s (sp.map o7)) fun O ho=>ho
   exact this
end
theorem L9(h:Lk H d dv B L I l){f:kM}(hf:lE f)(k:∀ H' s,Ext H H'->oh H H' (.sl 233 2 s ((YG B L I l f).map o7))->R s H'):Fc TP 161 #[zD d,.agg (zS f)] H R:=by
 have h14:=hf.lt (j:=14) (by omega);have h15:=hf.lt (j:=15) (by omega);have ld1:=Dc f 10;have lo1:=tR (f 14);have lu1:=FF B L I l (f 14) 10;have lo2:=tR (f 15);refine fn161 ?_;simp only[sh161,Ul,UL,UA,Us,Ub,Uz,Uf,Uk,Uu,Uj,Uo,Uq,Uv,ZI,zm,za];refine(Lo.start _ H:Lx H H []).jc fun b1 H1 _ l1=>?_;have l1:=l1.nt 233 2;simp only[zc,aR,za];refine zF.mk (fun t H'=>∃ (i:Nat) (s:Value),i<=10/\t=(s,zg i,())/\Lx H H' [.box b1 (zS f) 54,.sl 233 2 s ((vG f i).map o7)])
  (fun t _=>mi t.2.1 fun i=>(10 - i).toNat) ⟨0,.slice none 0 0,by omega,rfl,l1⟩ ?_
 rintro _ H2 ⟨i,s,hi,rfl,l2⟩;have CC:=OR f i;have hle:=Dc f i;rw[zk,za,zb];refine⟨fun kc=>?_,fun lA=>?_⟩
 ·have hfi:=hf.lt (j:=4+i) (by omega);rw[zC (by omega),za,iX,l2.ld (i:=0) rfl,Zq f (4+i) (by omega) (by omega),za,zn,za,zb];refine⟨fun jZ=>?_,fun he=>?_⟩
  ·rw[aH (by omega)]at CC;rw[za,l2.ld (i:=0) rfl,Zq f (4+i) (by omega) (by omega),za,zz,za,zr (by omega),Ag,za];refine l2.qY C3 yZ (i:=1) rfl (by rfl) (by omega) (by omega) rfl (xi _) (by rw[bR];omega) fun s' H4 l4=>?_;rw[ze,za,zE,zr (by omega)];refine⟨⟨i+1,s',by omega,rfl,?_⟩,by simp only[zu];omega⟩;rw[CC,cU];exact l4
  ·rw[aU (by omega),jY]at CC;rw[ze,za,zE,zr (by omega)];refine⟨⟨i+1,s,by omega,rfl,?_⟩,by simp only[zu];omega⟩;rw[CC];exact l2
 ·have ei:i=10:=by omega
  subst ei;rw[l2.ld (i:=0) rfl,Zq f 14 (by omega) (by omega),za,zz,za,zr (by omega)];refine Zg.mk (fun t H'=>Lx H H' [.box b1 (zS f) 54,.sl 233 2 t.1 ((vG f 10++pe (f 14)).map o7)]) ?_ (l2.LB (i:=1) rfl (by omega) fun s' H' l'=>l');rintro⟨s5,u⟩ H5 l5;simp only at l5;refine GD (h.ext l5.iZ) ?_;refine Zg.mk (fun t H'=>Lx H H' [.box b1 (zS f) 54,.sl 233 2 t.1 ((vG f 10++pe (f 14)++JF B L I l (f 14) 10).map o7)]) ?_ ?_
  rotate_left
  ·rw[zb];refine⟨fun hd=>?_,fun hd=>?_⟩
   ·refine LU (h.ext l5.iZ) (by omega) fun H23 s23 e23 n23=>?_;have Wc:=l5.new e23 n23;rw[C3];have lu:=ri (z9 l (f 14)) 10 256;refine Wc.app (i:=1) rfl yZ.1 yZ.2.1 yZ.2.2.1 (by rw[yZ.2.2.2];decide) (Wc.sv (i:=2) rfl) (fun u hu=>by obtain⟨x,_,rfl⟩:=iT.1 hu;exact xi x) (by rw[yZ.2.2.2,bR,bR,cR];omega) fun s' H' l'=>?_;have l':=l'.takeN 2;unfold JF;rw[aU hd,cU];exact l'
   ·unfold JF;rw[aH hd,jY];exact l5
  rintro⟨s7,u⟩ H7 l7;simp only at l7;rw[l7.ld (i:=0) rfl,Zq f 15 (by omega) (by omega),za,zz,za,zr (by omega)];refine Zg.mk (fun t H'=>Lx H H' [.box b1 (zS f) 54,.sl 233 2 t.1 ((vG f 10++pe (f 14)++JF B L I l (f 14) 10++pe (f 15)).map o7)]) ?_ (l7.LB (i:=1) rfl (by simp only[cR];omega) fun s' H' l'=>l');rintro⟨s8,u⟩ H8 l8;simp only at l8;refine GD (h.ext l8.iZ) ?_;have oI:YG B L I l f=vG f 10++pe (f 14)++JF B L I l (f 14) 10++pe (f 15)++(if px B L I (f 15) then Df B L I l (z9 l (f 15)) 256 else []):=rfl;have hl4:(vG f 10++pe (f 14)++JF B L I l (f 14) 10++pe (f 15)).length<=268:=by simp only[cR];omega
  generalize vG f 10++pe (f 14)++JF B L I l (f 14) 10++pe (f 15)=sp0 at oI hl4 l8;rw[zx,za,Zm];refine⟨fun hd=>?_,fun hd=>?_⟩
  ·rw[jq]at hd;rw[aH hd,jY]at oI;rw[oI]at k;exact k H8 s8 l8.iZ (l8.nY (i:=1) rfl)
  ·rw[iS]at hd;rw[aU hd]at oI;refine Aw (h.ext l8.iZ) fun mX sA=>?_;have hb:=ZS h.is (f 15);generalize z9 l (f 15)=c at hb oI;refine(l8.ext sA).jc fun b2 mN _ lO=>?_;refine lO.jE (i:=2) rfl zw hb.size hb.ok fun tF oC=>?_;have oC:Lx H tF [.box b1 (zS f) 54,.sl 233 2 s8 (sp0.map o7),.box b2 c 65]:=oC;refine zF.mk (fun t H'=>∃ (i:Nat) (s:Value),i<=256/\t=(s,zg i,())/\Lx H H' [.box b1 (zS f) 54,.sl 233 2 s ((sp0++Df B L I l c i).map o7),.box b2 c 65])
    (fun t _=>mi t.2.1 fun i=>(256 - i).toNat) ⟨0,s8,by omega,rfl,by rw[show Df B L I l c 0=[] from rfl,jY];exact oC⟩ ?_
   rintro _ sD ⟨i,s,hi,rfl,oM⟩;have hdu:=E8 B L I l c i;have hdl:=De B L I l c i;rw[zk,za,zb];refine⟨fun kc=>?_,fun lA=>?_⟩
   ·rw[oM.je (i:=2) (n:=1024) rfl hb.size,za];refine HP hb (by omega) fun By Nf=>?_;have vh:=oM.ext Nf;have ho:=tR (uw c i);refine Zg.mk (fun t H'=>Lx H H' [.box b1 (zS f) 54,.sl 233 2 t.1 ((sp0++Df B L I l c i++pe (uw c i)).map o7),.box b2 c 65]) ?_ (vh.LB (i:=1) rfl (by rw[cR];omega) fun s' H' l'=>l');rintro⟨s15,u⟩ DH pO;simp only at pO;refine GD (h.ext pO.iZ) ?_;rw[zb];refine⟨fun AW=>?_,fun AW=>?_⟩
    ·rw[zW,za,zd (by omega) (by omega),ze,za,zd (by omega) (by omega)];refine LU (h.ext pO.iZ) (by omega) fun XB s17 UB n17=>?_;have XV:=pO.new UB n17;rw[C3];have lu:=ri (z9 l (uw c i)) (266+256*(i:Int)) 256;refine XV.app (i:=1) rfl yZ.1 yZ.2.1 yZ.2.2.1 (by rw[yZ.2.2.2];decide) (XV.sv (i:=3) rfl) (fun u hu=>by obtain⟨x,_,rfl⟩:=iT.1 hu;exact xi x) (by rw[yZ.2.2.2,bR,bR,cR,cR];omega) fun s' H' l'=>?_;have l':=l'.takeN 3;rw[ze,za,zE,zr (by omega)];refine⟨⟨i+1,s',by omega,rfl,?_⟩,by simp only[zu];omega⟩;rw[hdu,<- jP,<- jP];unfold JF;rw[aU AW,cU];exact l'
    ·rw[ze,za,zE,zr (by omega)];refine⟨⟨i+1,s15,by omega,rfl,?_⟩,by simp only[zu];omega⟩;rw[hdu,<- jP,<- jP];unfold JF;rw[aH AW,jY];exact pO
   ·have ei:i=256:=by omega
    subst ei;rw[oI]at k;exact k sD s oM.iZ (oM.nY (i:=1) rfl)
noncomputable def pX(sp:List Jz)(i:Int):Int:=((sp.find? fun x=>decide (x.1=i)).map (·.2)).getD 0
theorem Cl{s:Value}{sp:List Jz}{a:Int}(hs:Sr 2 H s (sp.map o7))(hlen:sp.length<1000000)(k:R (zg (pX sp a)) H):Fc TP 190 #[s,zg a] H R:=by
 refine fn190 ?_;simp only[sh190,Ul,UA,Ub,Ui,Ug,Uo,Uv,zm];refine zF.mk (fun t H'=>H'=H/\∃ i:Nat,i<=sp.length/\t=(zg i,())/\∀ x∈sp.take i,x.1≠a) (fun t _=>mi t.1 fun i=>(sp.length - i).toNat) ⟨rfl,0,by omega,rfl,by simp⟩ ?_;rintro _ H3 ⟨rfl,i,hi,rfl,kG⟩;rw[hs.j9 qt,za,bR,zk,za,zb];refine⟨fun kc=>?_,fun lA=>?_⟩
 ·have kI:i<sp.length:=by omega
  have lP:(sp.map o7)[i]?=some (o7 sp[i]):=by rw[dR,bU kI];rfl
  have AV:sp.drop i=sp[i] :: sp.drop (i+1):=jF kI;have mR:sp.take (i+1)=sp.take i++[sp[i]]:=fU kI;generalize sp[i]=x at lP AV mR;obtain⟨b,o,ha,lI,_⟩:=hs.el lP;rw[ha,za,zc,za,lI 0 (by omega),show(o7 x)[0]?=some (zg x.1) from rfl,za,zp,za,zb];refine⟨fun he=>?_,fun jZ=>?_⟩
  ·rw[za,zc,za,lI 1 (by omega),show(o7 x)[1]?=some (zg x.2) from rfl,za];have e:pX sp a=x.2:=by
    unfold pX;rw[show sp=sp.take i++sp.drop i from(nf i sp).symm,jH,j0.2 (fun y hy=>by simpa using kG y hy),AV,jT (by simpa using he)];rfl
   rw[<- e];exact k
  ·rw[ze,za,zE,zr (by omega)];refine⟨⟨rfl,i+1,by omega,rfl,fun y hy=>?_⟩,by simp only[zu];omega⟩;rw[mR]at hy;rcases fH.1 hy with h1 | h1
   ·exact kG y h1
   ·rw[eU.1 h1];exact jZ
 ·have ei:i=sp.length:=by omega
  subst ei;rw[jk]at kG;have e:pX sp a=0:=by
   unfold pX;rw[j0.2 (fun y hy=>by simpa using kG y hy)];rfl
  rw[<- e];exact k
end
section
variable{P:Program}{S:Nat->Prop}{H0 H:Hp}{l:List Ob}
theorem Lo.HU{ty:Nat}{e:ZX}{T n GZ:Nat}{v:Value}{K:Value->Hp->Prop}(h:Lo S H0 H l)(he:zQ P ty=some e){i j:Nat}(EO:i≠j){s:Value}{es:List PA}{x:PA}(hi:l[i]?=some (.nest T n s es))(hj:l[j]?=some (.Hj x.ss))(hf:e.type=T/\e.size=n/\e.zero.size=n/\e.bytes=GZ)(AE:0<GZ)(hn:0<n/\n<=2 ^ 24)(hv:v.cells=x.c)(hc:x.c.size=n)(kD:zv x.c)
   (nu:(es.length+1)*GZ<=2 ^ 47) (k:∀ s' H',Lo S H0 H' ((l.set i (.nest T n s' (es++[x]))).set j .no)->K s' H'):Pu (zQ P ty) fun x1=>Pu (zT (some x1) 1 [(0,v)]) fun cs=>nK x1.type 1 cs H fun x2 H2=>lC true H2 fun H3=>mD (zQ P ty) s x2 H3 K:=by
 obtain⟨f1,f2,f3,f4⟩:=hf
 rw[he,za,YS (by omega) (by omega) (by rw[hv,hc,f2]),za,hv]
 subst f1
 have hm:=h.abY EO hi hj (z:=.Rt e.type n s es x.ss) fun A B hA hB hD=>?_
 · have kI:i<l.length:=by
     rcases jx i l.length with h1 | h1
     · exact h1
     · rw[eR h1]at hi;cases hi
   refine pK fun b H1 hb e1 X1 g=>?_
   rw[zj]
   intro H2 e2
   have EN:=(hm.ext e1).ext e2
   rw[List.set_comm _ _ EO]at EN
   have Gg:((l.set j .no).set i (.Rt e.type n s es x.ss))[i]?=some (.Rt e.type n s es x.ss):=jX (by rw[lV];exact kI)
   obtain⟨O,ho,st⟩:=EN.step Gg
   obtain⟨⟨q1,q2,q3,q4⟩,q5⟩:=ho
   refine tE rfl f2 f3 (by omega) q1 ((Sv.single g hc).ext e2) (us:=[x.c]) (by simpa using kD) (by rw[bR,f4];exact nu) fun s' H' sv k' hbk=>?_
   have st':=st H' (.nest e.type n s' (es++[x])) (fun b=>O b\/H2.size<=b/\b<H'.size) (k'.mono fun b _ e=>q2 b e) ⟨⟨by simpa using sv,fun b hh=>?_,fun y hy z hz=>?_⟩,fun b hh=>?_⟩ fun b hh=>?_
   · rw[List.set_set,List.set_comm _ _ (Ne.symm EO)]at st'
     exact k s' H' st'
   · rcases hbk b hh with h1 | h1
     · exact .inl (q2 b h1)
     · exact .inr ⟨h1,sv.lt hh⟩
   · have KE:Sv z.T z.n H2 z.v z.vs/\∀ b,ZH z.v=some b->O b/\ZH s≠some b:=by
       rcases fH.1 hy with h1 | h1
       · exact q3 y h1 z hz
       · rw[eU.1 h1]at hz;exact q4 z hz
     refine⟨KE.1.kp k' fun b hb=>(KE.2 b hb).2,fun b hb=>⟨.inl (KE.2 b hb).1,fun e=>?_⟩⟩
     rcases hbk b e with h1 | h1
     · exact(KE.2 b hb).2 h1
     · have:=q5 b (KE.2 b hb).1;omega
   · rcases hh with h1 | h1
     · exact jj (q5 b h1) k'.le
     · exact h1.2
   · rcases hh with h1 | h1
     · exact .inl h1
     · exact .inr h1.1
 · refine⟨⟨hA.1.1,fun b hb=>.inl (hA.1.2.1 b hb),fun e he y hy=>⟨(hA.1.2.2 e he y hy).1,fun b hb=>⟨.inl ((hA.1.2.2 e he y hy).2 b hb).1,((hA.1.2.2 e he y hy).2 b hb).2⟩⟩,fun y hy=>⟨(hB.1 y hy).1,fun b hb=>⟨.inr ((hB.1 y hy).2 b hb),fun e=>hD b (hA.1.2.1 b e) ((hB.1 y hy).2 b hb)⟩⟩⟩,fun b hb=>?_⟩
   rcases hb with h1 | h1
   · exact hA.2 b h1
   · exact hB.2 b h1
end
structure Fl where
 i:Nat
 f:kM
 v:Value
 sp:List Jz
def lQ(x:Fl):Array Value:=#[zg x.i,.int .u16 (x.f 0),.int .u16 (x.f 1),.int .u32 (x.f 2),.int .u32 (x.f 3),.int .u32 (x.f 4),.int .u32 (x.f 5),.int .u32 (x.f 6),.int .u32 (x.f 7),.int .u32 (x.f 8),.int .u32 (x.f 9),.int .u32 (x.f 10),.int .u32 (x.f 11),.int .u32 (x.f 12),.int .u32 (x.f 13),.int .u32 (x.f 14),.int .u32 (x.f 15),x.v]
def flN(x:Fl):PA:=⟨lQ x,[⟨x.v,233,2,x.sp.map o7⟩]⟩
theorem Gr{x:Fl}{b:Option Addr}{n c:Nat}(h:x.v=.slice b n c):zv (lQ x):=by
 unfold zv lQ;rw[h,<- iV];rfl
noncomputable def I8:ZX:=Ms (zQ TP 185)
theorem adD:zQ TP 185=some I8:=by kernel_rfl
theorem W1:I8.type=192/\I8.size=18/\I8.zero.size=18/\I8.bytes=96:=⟨by kernel_rfl,by kernel_rfl,by kernel_rfl,by kernel_rfl⟩
theorem Ya:TP.underlying 185=some (.slice 192):=by kernel_rfl
theorem Pe(i:Nat)(f:kM)(b:Option Addr)(n c:Nat):zo TP 192 [(0,zg i),(1,.agg (zS f)),(2,.slice b n c)]=some (.agg (lQ ⟨i,f,.slice b n c,[]⟩)):=by kernel_rfl
structure GN(H:Hp)(s:Value)(fs:List Fl):Prop where
 row:Sr 18 H s (fs.map lQ)
 sub:∀ x∈fs,Sr 2 H x.v (x.sp.map o7)
 M9:∀ x∈fs,x.sp.length<=66100
 len:fs.length<=65535
 num:∀ x∈fs,x.i<=65535
 ok:∀ x∈fs,lE x.f
theorem GN.ext{H H':Hp}{s:Value}{fs:List Fl}(h:GN H s fs)(e:Ext H H'):GN H' s fs:=⟨h.row.ext e,fun x hx=>(h.sub x hx).ext e,h.M9,h.len,h.num,h.ok⟩
structure lN(B L I:Int)(l:List (Int × jn))(n:Nat)(fs:List Fl):Prop where
 ids:fs.map (·.i)=((List.range n).map (·+1)).filter fun i=>decide (YP B L I l i 0≠0)
 is:∀ x∈fs,x.f=YP B L I l x.i/\x.sp=YG B L I l x.f
theorem lN.len{B L I:Int}{l:List (Int × jn)}{n:Nat}{fs:List Fl}(h:lN B L I l n fs):fs.length<=n:=by
 have e:=congrArg List.length h.ids;rw[bR]at e;rw[e];refine kg (List.length_filter_le _ _) ?_;rw[bR,List.length_range];omega
theorem lN.mem{B L I:Int}{l:List (Int × jn)}{n:Nat}{fs:List Fl}(h:lN B L I l n fs){x:Fl}(hx:x∈fs):1<=x.i/\x.i<=n/\YP B L I l x.i 0≠0:=by
 have hm:x.i∈fs.map (·.i):=iT.2 ⟨x,hx,rfl⟩;rw[h.ids,GP]at hm;obtain⟨h1,h2⟩:=hm;obtain⟨j,hj,e⟩:=iT.1 h1;rw[ki]at hj;rw[iS]at h2;exact⟨by omega,by omega,h2⟩
theorem lN.has{B L I:Int}{l:List (Int × jn)}{n:Nat}{fs:List Fl}(h:lN B L I l n fs){i:Nat}(h1:1<=i)(h2:i<=n)(h3:YP B L I l i 0≠0):∃ x∈fs,x.i=i:=by
 have:i∈fs.map (·.i):=by
  rw[h.ids,GP];exact⟨iT.2 ⟨i - 1,ki.2 (by omega),by omega⟩,gU h3⟩
 exact iT.1 this
theorem Gc{B L I:Int}{l:List (Int × jn)}(h:∀ x∈l,jR x.2)(i:Nat):lE (YP B L I l i):=Iv (ZS h _).lt _
theorem lN.add{B L I:Int}{l:List (Int × jn)}{n:Nat}{fs:List Fl}(h:lN B L I l n fs){x:Fl}(hi:x.i=n+1)(hf:x.f=YP B L I l x.i)(hs:x.sp=YG B L I l x.f)(h0:YP B L I l (n+1) 0≠0):lN B L I l (n+1) (fs++[x]):=by
 refine⟨?_,fun y hy=>?_⟩
 ·rw[cU,h.ids,uS,cU,LM];simp[hi,h0]
 ·rcases fH.1 hy with h1 | h1
  ·exact h.is y h1
  ·rw[eU.1 h1];exact⟨hf,hs⟩
theorem lN.skip{B L I:Int}{l:List (Int × jn)}{n:Nat}{fs:List Fl}(h:lN B L I l n fs)(h0:YP B L I l (n+1) 0=0):lN B L I l (n+1) fs:=by
 refine⟨?_,h.is⟩;rw[h.ids,uS,cU,LM];simp[h0]
section
variable{H:Hp}{R:Value->Hp->Prop}{d:Nat}{dv:Value}{B L I:Int}{l:List (Int × jn)}
theorem IV{H H':Hp}{s:Value}{fs:List Fl}{n:Nat}(h:Lk H d dv B L I l)(hn:n<=65535)(ho:lN B L I l n fs)(hw:oh H H' (.nest 192 18 s (fs.map flN))):GN H' s fs:=by
 refine⟨?_,fun x hx=>?_,fun x hx=>?_,?_,fun x hx=>?_,fun x hx=>?_⟩
 ·have:=hw.F5.sr;rw[ad8]at this;exact this
 ·exact(hw.Ci (flN x) (iT.2 ⟨x,hx,rfl⟩) ⟨x.v,233,2,x.sp.map o7⟩ (eU.2 rfl)).sr
 ·rw[(ho.is x hx).2];exact BO _ _ _ _ _
 ·have:=ho.len;omega
 ·have:=ho.mem hx;omega
 ·rw[(ho.is x hx).1];exact Gc h.is _
theorem Ic(h:Lk H d dv B L I l)(k:∀ H' s fs,Ext H H'->oh H H' (.nest 192 18 s (fs.map flN))->lN B L I l I.toNat fs->R s H'):Fc TP 118 #[zD d] H R:=by
 obtain⟨xP,xO,wI,xQ,vP,vO,gD⟩:=id h.ok
 obtain⟨In,eI⟩:∃ In:Nat,I=In:=⟨I.toNat,by omega⟩
 have hI:(zf B L I).I=I:=rfl
 refine fn118 ?_
 simp only[sh118,Ul,UL,UA,Us,Ub,Uz,UI,Uf,Uw,Uo,Uv,ZE,zm,za]
 have l1:Lx H H [.nest 192 18 (.slice none 0 0) []]:=(Lo.start _ H:Lx H H []).new (Ext.refl H) (oh.afS H _ _)
 simp only[zl,zc,aR,bH,Nat.reduceAdd,za]
 refine zF.mk (fun t H'=>∃ (i:Nat) (s:Value) (fs:List Fl),i<=In/\t=(s,zg ((i+1:Nat):Int),())/\lN B L I l i fs/\Lx H H' [.nest 192 18 s (fs.map flN)])
   (fun t _=>mi t.2.1 fun i=>(In+1 - i).toNat) ⟨0,.slice none 0 0,[],by omega,rfl,⟨rfl,fun x hx=>by cases hx⟩,l1⟩ ?_
 rintro _ H2 ⟨i,s,fs,hi,rfl,re,l2⟩
 have hlen:=re.len
 have h2:=h.ext l2.iZ
 rw[zi h2.top,V5,za,hI,yp,za,zb]
 refine⟨fun hle=>?_,fun AS=>?_⟩
 · have Wx:=Gc (B:=B) (L:=L) (I:=I) h.is (i+1)
   refine MJ h2 (by omega) fun H3 e3=>?_
   refine(l2.ext e3).jc fun b2 H4 _ l4=>?_
   refine l4.jE (i:=1) rfl (zt _) (zt _) (ZA _) fun H5 l5=>?_
   have l5:Lx H H5 [.nest 192 18 s (fs.map flN),.box b2 (zS (YP B L I l (i+1))) 54]:=l5
   have i0:(zS (YP B L I l (i+1)))[0]?=some (.int .u16 (YP B L I l (i+1) 0)):=rfl
   rw[zc,za,l5.ld (i:=1) rfl,i0,za,zn,za,zb]
   refine⟨fun jZ=>?_,fun he=>?_⟩
   · rw[l5.je (i:=1) (n:=16) rfl (zt _),za]
     have fin:∀ {H6:Hp} {sv:Value},Lx H H6 [.nest 192 18 s (fs.map flN),.box b2 (zS (YP B L I l (i+1))) 54,.Hj [⟨sv,233,2,(YG B L I l (YP B L I l (i+1))).map o7⟩]]->∀ {K:Value->Hp->Prop},(∀ s' H',Lx H H' [.nest 192 18 s' ((fs++[(⟨i+1,YP B L I l (i+1),sv,YG B L I l (YP B L I l (i+1))⟩:Fl)]).map flN)]->K s' H') ->
         Pu (zo TP 192 [(0,zg ((i+1:Nat):Int)),(1,.agg (zS (YP B L I l (i+1)))),(2,sv)]) fun x18=>lC true H6 fun H7=>Pu (zQ TP 185) fun x19=>Pu (zT (some x19) 1 [(0,x18)]) fun x20=>nK x19.type 1 x20 H7 fun x21 H8=>lC true H8 fun H9=>mD (zQ TP 185) s x21 H9 K:=by
       intro H6 sv l6 K hk
       obtain⟨bb,cc,esv⟩:=(l6.abg (i:=2) rfl _ (eU.2 rfl)).len
       simp only at esv
       subst esv
       rw[Pe,za,zj]
       intro H7 e7
       refine(l6.ext e7).HU adD (i:=0) (j:=2) (by decide) (x:=flN ⟨i+1,YP B L I l (i+1),_,YG B L I l (YP B L I l (i+1))⟩) rfl rfl W1 (by omega) (by omega) rfl rfl (Gr rfl) (by rw[bR];omega) fun s' H' l'=>?_
       have l':=l'.takeN 1
       refine hk s' H' ?_
       rw[cU]
       exact l'
     refine⟨?_,?_,trivial⟩
     · rw[za,zj]
       intro H6 e6
       refine L9 (h.ext (l5.ext e6).iZ) Wx fun H7 sv e7 n7=>?_
       refine fin (((l5.ext e6).new e7 n7.XM)) fun s' H' l'=>?_
       rw[zj]
       intro H18 e18
       rw[ze,za,zE (i+1),zr (v:=i+1+1) (by omega)]
       exact⟨⟨i+1,s',_,by omega,rfl,re.add rfl rfl rfl (by omega),l'.ext e18⟩,by simp only[zu];omega⟩
     · rw[zj]
       intro H6 e6
       refine L9 (h.ext (l5.ext e6).iZ) Wx fun H7 sv e7 n7=>?_
       have l7:=(l5.ext e6).new e7 n7.XM
       rw[l7.je (i:=1) (n:=16) rfl (zt _),za]
       refine fin l7 fun s' H' l'=>?_
       rw[zj]
       intro H18 e18
       rw[ze,za,zE (i+1),zr (v:=i+1+1) (by omega)]
       exact⟨⟨i+1,s',_,by omega,rfl,re.add rfl rfl rfl (by omega),l'.ext e18⟩,by simp only[zu];omega⟩
   · rw[ze,za,zE (i+1),zr (v:=i+1+1) (by omega)]
     exact⟨⟨i+1,s,fs,by omega,rfl,re.skip (by omega),l5.takeN 1⟩,by simp only[zu];omega⟩
 · have ei:i=In:=by omega
   subst ei
   refine k H2 s fs l2.iZ (l2.nY (i:=0) rfl) ?_
   rw[eI,jK,<- eI];exact re
end
def Zf(fs:List Fl):List Int:=fs.flatMap fun x=>x.sp.map (·.2)
theorem Aj(a b:List Fl):Zf (a++b)=Zf a++Zf b:=List.flatMap_append ..
theorem Ah(x:Fl):Zf [x]=x.sp.map (·.2):=by simp[Zf]
theorem Ai{fs:List Fl}(h:∀ x∈fs,x.sp.length<=66100):(Zf fs).length<=66100*fs.length:=by
 induction fs with
 | nil=>simp[Zf]
 | cons x r ih=>
  have h1:=ih fun y hy=>h y (dH _ hy);have h2:=h x (eH ..);have e:Zf (x :: r)=x.sp.map (·.2)++Zf r:=by simp[Zf]
  rw[e,cR,bR,gR];omega
def nr(ps:List Int)(b:Nat):Nat:=ps.countP fun y:Int=>decide (y=(b:Int))
theorem HM(ps:List Int)(y:Int)(b:Nat):nr (ps++[y]) b=nr ps b+if y=b then 1 else 0:=by
 unfold nr;rw[List.countP_append,List.countP_singleton];simp only[iS]
theorem VK(ps:List Int)(b:Nat):nr ps b<=ps.length:=List.countP_le_length
def nC(n:Nat):Array Value:=#[zg n]
def cN(c:Nat->Nat)(n:Nat):List (Array Value):=(List.range n).map fun b=>nC (c b)
theorem Dn(c:Nat->Nat)(n:Nat):(cN c n).length=n:=by simp[cN]
theorem Dp{c:Nat->Nat}{n b:Nat}(h:b<n):(cN c n)[b]?=some (nC (c b)):=by
 unfold cN;rw[dR,kN h];rfl
theorem adP{c c':Nat->Nat}{n y:Nat}{u:Nat}(h1:c' y=u)(h2:∀ b,b≠y->c' b=c b):(cN c n).set y (nC u)=cN c' n:=by
 apply ku;intro b;by_cases hb:b<n
 ·rw[Dp hb];by_cases e:y=b
  ·subst e;rw[jX (by rw[Dn];exact hb),h1]
  ·rw[jy e,Dp hb,h2 b (Ne.symm e)]
 ·rw[eR (by rw[lV,Dn];omega),eR (by rw[Dn];omega)]
theorem Xi(n:Nat):cN (fun _=>0) n=List.replicate n #[zg 0]:=by
 unfold cN;apply ku ;intro b;by_cases hb:b<n
 ·rw[dR,kN hb,mE,aU hb];rfl
 ·rw[eR (by simp;omega),eR (by simp;omega)]
noncomputable def eIn:ZX:=Ms (zQ TP 29)
theorem Lb:zQ TP 29=some eIn:=by kernel_rfl
theorem C7:eIn.type=3/\eIn.size=1/\eIn.zero.size=1/\eIn.bytes=8:=⟨by kernel_rfl,by kernel_rfl,by kernel_rfl,by kernel_rfl⟩
theorem ahG:eIn.zero=#[zg 0]:=by kernel_rfl
theorem XK:TP.underlying 29=some (.slice 3):=by kernel_rfl
section
variable{P:Program}{S:Nat->Prop}{H0 H:Hp}{l:List Ob}
theorem Lo.abx{T:Nat}{kk:IntKind}{K:Hp->Prop}(h:Lo S H0 H l){i j:Nat}{s:Value}{v:Array Value}{u:Value}{vs:List (Array Value)}(hi:l[i]?=some (.sl T 1 s vs))(hj:vs[j]?=some v)(hv:zv v)(hu:u.oneCell'=true)(hc:u.cells=#[u])(k:∀ H',Lo S H0 H' (l.set i (.sl T 1 s (vs.set j (v.setIfInBounds 0 u))))->K H') :
   Pu (zG (some (none,1)) s (.int kk j)) fun x=>Pu (zY (some 1) x u H) K:=by
 obtain⟨b,o,ha,hp⟩:=h.BU (x:=0) hi hj (by omega) hv hu hc k
 rw[ha,za];exact hp
end
theorem sX{α:Type}{Q:α->Prop}{ps:List α}{y:α}{ys:List Int}{p:Prop}(hp:p↔∀ z∈ps,Q z):(p/\Q y)↔∀ z∈ps++[y],Q z:=by
 rw[hp];constructor
 ·rintro⟨h1,h2⟩ z hz;rcases fH.1 hz with h | h
  ·exact h1 z h
  ·rw[eU.1 h];exact h2
 ·exact fun h=>⟨fun z hz=>h z (jI _ hz),h y (km _ (eU.2 rfl))⟩
section
variable{H:Hp}{R:Value->Hp->Prop}{d:Nat}{dv:Value}{B L I:Int}{l:List (Int × jn)}{s:Value}{fs:List Fl}
theorem Ke(h:Lk H d dv B L I l)(hf:GN H s fs)(k:∀ H' s' ps,Ext H H'->oh H H' (.sl 251 2 s' (ps.map (fC 5)))->(ps=[]↔∀ y∈Zf fs,px B L I y)->R s' H'):Fc TP 152 #[zD d,s] H R:=by
 have uK:=hf.len;refine fn152 ?_;simp only[sh152,Ul,UA,Ub,UI,Uf,Ui,Ug,Uu,Uo,Uv,YN,zm,za];refine(Lo.start _ H:Lx H H []).Oz fun p H1 e1 l1=>?_;have l1:Lx H H1 [yJ p 5 []]:=l1;simp only[zl,zc,aR,bH,Nat.reduceAdd,za];refine zF.mk (fun t H'=>∃ (i:Nat) (ps:List Int),i<=fs.length/\t=(zg i,())/\ps.length<=66100*i/\(ps=[]↔∀ y∈Zf (fs.take i),px B L I y)/\Lx H H' [yJ p 5 ps])
  (fun t _=>mi t.1 fun i=>(fs.length - i).toNat) ⟨0,[],by omega,rfl,by simp,by simp[Zf],l1⟩ ?_
 rintro _ H2 ⟨i,ps,hi,rfl,nX,r8,l2⟩;rw[hf.row.j9 Ya,za,bR,zk,za,zb];refine⟨fun kc=>?_,fun lA=>?_⟩
 ·have kI:i<fs.length:=by omega
  have lP:(fs.map lQ)[i]?=some (lQ fs[i]):=by rw[dR,bU kI];rfl
  have mR:fs.take (i+1)=fs.take i++[fs[i]]:=fU kI;have kL:fs[i]∈fs:=ju kI;generalize fs[i]=x at lP mR kL;have mK:=hf.sub x kL;have Gh:=hf.M9 x kL;refine zF.mk (fun t H'=>∃ (j:Nat) (ps:List Int),j<=x.sp.length/\t=(zg j,())/\ps.length<=66100*i+j/\(ps=[]↔∀ y∈Zf (fs.take i)++(x.sp.take j).map (·.2),px B L I y)/\Lx H H' [yJ p 5 ps])
   (fun t _=>mi t.1 fun j=>(x.sp.length - j).toNat) ⟨0,ps,by omega,rfl,by omega,by simpa using r8,l2⟩ ?_
  rintro _ H3 ⟨j,ps,hj,rfl,nX,r8,l3⟩;obtain⟨b,o,ha,lI,_⟩:=(hf.ext l3.iZ).row.el lP;rw[ha,za,zc,za,lI 17 (by omega),show(lQ x)[17]?=some x.v from rfl,za,mK.j9 qt,za,bR,zk,za,zb];refine⟨fun CJ=>?_,fun IC=>?_⟩
  ·have DC:j<x.sp.length:=by omega
   have IE:(x.sp.map o7)[j]?=some (o7 x.sp[j]):=by rw[dR,bU DC];rfl
   have MU:x.sp.take (j+1)=x.sp.take j++[x.sp[j]]:=fU DC;generalize x.sp[j]=y at IE MU;obtain⟨b2,o2,uM,vt,_⟩:=(mK.ext l3.iZ).el IE;have kH:=sX (y:=y.2) (ys:=[]) r8;rw[jP,show(x.sp.take j).map (·.2)++[y.2]=(x.sp.take (j+1)).map (·.2) by rw[MU,cU];rfl]at kH;rw[za,zc,za,lI 17 (by omega),show(lQ x)[17]?=some x.v from rfl,za,uM,za,zc,za,vt 1 (by omega),show(o7 y)[1]?=some (zg y.2) from rfl,za];refine GD (h.ext l3.iZ) ?_;rw[zx,za,Zm];refine⟨fun hd=>?_,fun hd=>?_⟩
   ·rw[jq]at hd;rw[za,zc,za,bH];have:=lI 0 (by omega);rw[bH]at this;rw[this,show(lQ x)[0]?=some (zg x.i) from rfl,za];obtain⟨O,ho,st⟩:=l3.call (i:=0) rfl;refine rM ho (by omega) fun mN LH JG jZ hle Dy KQ=>?_;have lO:=st mN _ LH Dy KQ;rw[ze,za,zE,zr (by omega)];refine⟨⟨j+1,JG,by omega,rfl,by omega,?_,lO⟩,by simp only[zu];omega⟩;rw[<- kH];exact⟨fun e=>absurd e jZ,fun e=>absurd e.2 hd⟩
   ·rw[iS]at hd;rw[ze,za,zE,zr (by omega)];refine⟨⟨j+1,ps,by omega,rfl,by omega,?_,l3⟩,by simp only[zu];omega⟩;rw[<- kH];exact⟨fun e=>⟨e,hd⟩,fun e=>e.1⟩
  ·have ej:j=x.sp.length:=by omega
   subst ej;rw[jk,<- Ah,<- Aj,<- mR]at r8;rw[ze,za,zE,zr (by omega)];exact⟨⟨i+1,ps,by omega,rfl,by omega,r8,l3⟩,by simp only[zu];omega⟩
 ·have ei:i=fs.length:=by omega
  subst ei;rw[jk]at r8;obtain⟨s',hg,pO⟩:=l2.xU (i:=0) rfl;rw[zi hg];show Pu (some s') _;rw[za];exact k H2 s' ps l2.iZ (pO.nY (i:=0) rfl) r8
theorem Mr(h:Lk H d dv B L I l)(hf:GN H s fs)(hd:∀ y∈Zf fs,px B L I y)(k:∀ H' s',Ext H H'->oh H H' (.sl 3 1 s' (cN (nr (Zf fs)) B.toNat))->R s' H'):Fc TP 182 #[zD d,s] H R:=by
 have uK:=hf.len;obtain⟨xP,xO,wI,xQ,vP,vO,gD⟩:=id h.ok;have hB:(zf B L I).B=B:=rfl;obtain⟨Bn,eB⟩:∃ Bn:Nat,B=Bn:=⟨B.toNat,by omega⟩;have ac8:∀ y,px B L I y->0<=y/\y<B:=fun y hy=>by
  have h1:(zf B L I).kb=1+L+(I+16) / 16+(B+8191) / 8192:=rfl;obtain⟨h2,h3⟩:=hy;exact⟨by omega,h3⟩
 refine fn182 ?_;simp only[sh182,Ul,UA,Us,Ub,UI,Ui,Ug,Uo,Uv,zm,zl,zc,aR,bH,Nat.reduceAdd,za];rw[zi h.top,ab5,za,hB];have eBt:B.toNat=Bn:=by omega
 rw[eBt]at k;rw[eB];refine(Lo.start _ H:Lx H H []).make Lb C7 (by omega) (by omega) (by omega) fun b0 H1 _ l1=>?_;rw[ahG,<- Xi]at l1;generalize hsv:Value.slice (some ⟨b0,0,none⟩) Bn Bn=sv at l1;have l1:Lx H H1 [.sl 3 1 sv (cN (nr (Zf (fs.take 0))) Bn)]:=l1;simp only[];refine zF.mk (fun t H'=>∃ (i:Nat),i<=fs.length/\t=(zg i,())/\Lx H H' [.sl 3 1 sv (cN (nr (Zf (fs.take i))) Bn)])
  (fun t _=>mi t.1 fun i=>(fs.length - i).toNat) ⟨0,by omega,rfl,l1⟩ ?_
 rintro _ H2 ⟨i,hi,rfl,l2⟩;rw[hf.row.j9 Ya,za,bR,zk,za,zb];refine⟨fun kc=>?_,fun lA=>?_⟩
 ·have kI:i<fs.length:=by omega
  have lP:(fs.map lQ)[i]?=some (lQ fs[i]):=by rw[dR,bU kI];rfl
  have mR:fs.take (i+1)=fs.take i++[fs[i]]:=fU kI;have kL:fs[i]∈fs:=ju kI;have nX:=Ai (fs:=fs.take i) fun y hy=>hf.M9 y (List.mem_of_mem_take hy);rw[mg]at nX;generalize fs[i]=x at lP mR kL;have mK:=hf.sub x kL;have Gh:=hf.M9 x kL;refine zF.mk (fun t H'=>∃ (j:Nat),j<=x.sp.length/\t=(zg j,())/\Lx H H' [.sl 3 1 sv (cN (nr (Zf (fs.take i)++(x.sp.take j).map (·.2))) Bn)])
   (fun t _=>mi t.1 fun j=>(x.sp.length - j).toNat) ⟨0,by omega,rfl,by simpa using l2⟩ ?_
  rintro _ H3 ⟨j,hj,rfl,l3⟩;obtain⟨b,o,ha,lI,_⟩:=(hf.ext l3.iZ).row.el lP;rw[ha,za,zc,za,lI 17 (by omega),show(lQ x)[17]?=some x.v from rfl,za,mK.j9 qt,za,bR,zk,za,zb];refine⟨fun CJ=>?_,fun IC=>?_⟩
  ·have DC:j<x.sp.length:=by omega
   have IE:(x.sp.map o7)[j]?=some (o7 x.sp[j]):=by rw[dR,bU DC];rfl
   have MU:x.sp.take (j+1)=x.sp.take j++[x.sp[j]]:=fU DC;have hym:x.sp[j]∈x.sp:=ju DC;generalize x.sp[j]=y at IE MU hym;obtain⟨b2,o2,uM,vt,_⟩:=(mK.ext l3.iZ).el IE;have hy:=ac8 y.2 (hd y.2 (List.mem_flatMap.2 ⟨x,kL,iT.2 ⟨y,hym,rfl⟩⟩));obtain⟨yn,ey⟩:∃ yn:Nat,y.2=yn:=⟨y.2.toNat,by omega⟩;have hyn:yn<Bn:=by omega
   rw[za,zc,za,lI 17 (by omega),show(lQ x)[17]?=some x.v from rfl,za,uM,za,zc,za,vt 1 (by omega),show(o7 y)[1]?=some (zg y.2) from rfl,za,ey];have alc:=VK (Zf (fs.take i)++(x.sp.take j).map (·.2)) yn;rw[cR,bR,mg]at alc;have hg:=Dp (c:=nr (Zf (fs.take i)++(x.sp.take j).map (·.2))) hyn;obtain⟨b3,o3,Gn,CM,_⟩:=(l3.sv (i:=0) rfl).sr.el hg;have GV:=CM 0 (by omega);rw[bH]at GV;rw[Gn,za,GV,show(nC (nr (Zf (fs.take i)++(x.sp.take j).map (·.2)) yn))[0]?=some (zg (nr (Zf (fs.take i)++(x.sp.take j).map (·.2)) yn)) from rfl,za,ze,za,zE,zr (by omega),<- Gn .i64];refine l3.abx (i:=0) (u:=zg ((nr (Zf (fs.take i)++(x.sp.take j).map (·.2)) yn+1:Nat):Int)) rfl hg (by unfold zv;rw[<- iV];rfl) rfl rfl fun H4 l4=>?_;rw[ze,za,zE,zr (by omega)];refine⟨⟨j+1,by omega,rfl,?_⟩,by simp only[zu];omega⟩;have e:(cN (nr (Zf (fs.take i)++(x.sp.take j).map (·.2))) Bn).set yn (nC (nr (Zf (fs.take i)++(x.sp.take j).map (·.2)) yn+1))=cN (nr (Zf (fs.take i)++(x.sp.take (j+1)).map (·.2))) Bn:=by
    rw[MU,cU,<- jP,show List.map (·.2) [y]=[y.2] from rfl,ey];refine adP ?_ fun b hb=>?_
    ·rw[HM,aU rfl]
    ·rw[HM,aH (by omega)];rfl
   rw[<- e];exact l4
  ·have ej:j=x.sp.length:=by omega
   subst ej;rw[jk,<- Ah,<- Aj,<- mR]at l3;rw[ze,za,zE,zr (by omega)];exact⟨⟨i+1,by omega,rfl,l3⟩,by simp only[zu];omega⟩
 ·have ei:i=fs.length:=by omega
  subst ei;rw[jk]at l2;exact k H2 sv l2.iZ (l2.nY (i:=0) rfl)
end
theorem ZO{p q:Prop}{a:Decidable p}{b:Decidable q}(h:p↔q):@decide p a=@decide q b:=by
 rw[jL];simp[h]
theorem YF{p q:Prop}{a:Decidable p}{b:Decidable q}(h:p↔q):Value.bool (@decide p a)=Value.bool (@decide q b):=by rw[ZO h]
theorem yB{p:Prop}{a:Decidable p}(h:p):Value.bool true=Value.bool (@decide p a):=by rw[gU h]
theorem qr{p:Prop}{a:Decidable p}(h:¬ p):Value.bool false=Value.bool (@decide p a):=by rw[cH h]
theorem qI{c:Array Value}{n:Nat}(h:c.size=n):c.extract 0 (0+n)=c:=by rw[aR,<- h];simp
theorem PV:ZZ TP 233=some (.agg #[zg 0,zg 0]):=by kernel_rfl
section
variable(B L I:Int)(l:List (Int × jn))
def YO(kd:Int)(x:Fl)(y:Jz):Prop:=(kd=8/\((x.f 2:Int)+1023) / 1024<=y.1)\/(kd=7/\y.1<0/\z9 l y.2=zB)
def Yq(kd:Int)(x:Fl):Prop:=
 if kd=10 then x.f 3≠x.sp.length
 else if kd=12 then x.f 0=2/\∃ i:Nat,(i:Int)<((x.f 2:Int)+1023) / 1024/\pX x.sp i=0
 else if kd=9 then pX x.sp ((x.f 2:Int) / 1024)≠0/\x.f 2 % 1024≠0/\∃ i,x.f 2 % 1024<=i/\i<1024/\kv (z9 l (pX x.sp ((x.f 2:Int) / 1024))) i≠0
 else ∃ y∈x.sp,YO l kd x y
end
section
variable{H:Hp}{R:Value->Hp->Prop}{d:Nat}{dv:Value}{B L I:Int}{l:List (Int × jn)}{s:Value}{fs:List Fl}
theorem Xo(h:Lk H d dv B L I l){a:Int}(k:∀ H',Ext H H'->R (.bool (decide (z9 l a=zB))) H'):Fc TP 196 #[zD d,zg a] H R:=by
 refine fn196 ?_;simp only[sh196,Uf,yP,za];refine Aw h fun H1 e1=>?_;rw[YX,eqB HE (ZS h.is a) z6,iR,za];exact k H1 e1
theorem UR(h:Lk H d dv B L I l){x:Fl}(mK:Sr 2 H x.v (x.sp.map o7))(Gh:x.sp.length<=66100)(kD:lE x.f){kd:Int}(k:∀ H',Ext H H'->R (.bool (decide (Yq l kd x))) H'):Fc TP 183 #[zD d,.agg (lQ x),.int .u8 kd] H R:=by
 have h2:=kD 2 (by omega);have h3:=kD 3 (by omega);simp only[fw,Nat.reduceLT,jD,Nat.reducePow,uD]at h2 h3;have f0:(lQ x)[0]?=some (zg x.i):=rfl;have f1:(lQ x)[1]?=some (.int .u16 (x.f 0)):=rfl;have f3:(lQ x)[3]?=some (.int .u32 (x.f 2)):=rfl;have f4:(lQ x)[4]?=some (.int .u32 (x.f 3)):=rfl;have f17:(lQ x)[17]?=some x.v:=rfl;refine fn183 ?_;simp only[sh183,Ul,UL,UA,Us,Ub,Uz,Uf,Ui,Uk,Ug,Uj,Uo,Uv,U1,U0,zm];refine(Lo.start _ H:Lx H H []).jc fun b1 H1 _ l1=>?_;have l1:Lx H H1 [.box b1 (lQ x) 192]:=l1;have fin:∀ {H'} (b:Bool),Ext H H'->(b=true↔Yq l kd x)->R (.bool b) H':=fun {H'} b e hb=>by
  have:=k H' e;rw[show decide (Yq l kd x)=b from by rw[jL,iS,hb]]at this;exact this
 simp only[zc,aR,bH,Nat.reduceAdd,za,ZI];rw[l1.ld (i:=0) rfl,f3,za,zz,za,zr (by omega)];refine ajc (by omega) ?_;rw[zp,za,zb];refine⟨fun tY=>?_,fun tY=>?_⟩
 ·rw[l1.ld (i:=0) rfl,f4,za,zz,za,zr (by omega),l1.ld (i:=0) rfl,f17,za,mK.j9 qt,za,bR,zn,za];refine fin _ l1.iZ ?_;unfold Yq;rw[aU tY,iS];omega
 ·rw[zp,za,zb];refine⟨fun Un=>?_,fun Un=>?_⟩
  ·have hw:Yq l kd x↔x.f 0=2/\∃ i:Nat,(i:Int)<((x.f 2:Int)+1023) / 1024/\pX x.sp i=0:=by unfold Yq;rw[aH tY,aU Un]
   refine zF.mk (fun t H'=>H'=H1/\∃ i:Nat,(i:Int)<=((x.f 2:Int)+1023) / 1024/\t=(zg i,())/\∀ j:Nat,j<i->pX x.sp j≠0) (fun t _=>mi t.1 fun i=>(((x.f 2:Int)+1023) / 1024 - i).toNat) ⟨rfl,0,by omega,rfl,fun j hj=>by omega⟩ ?_;rintro _ H3 ⟨rfl,i,hi,rfl,kG⟩;refine Zg.mk (fun t H'=>H'=H3/\t.1=.bool (decide ((i:Int)<((x.f 2:Int)+1023) / 1024/\x.f 0=2))) ?_ ?_
   ·rintro⟨t,u⟩ H4 ⟨rfl,ht⟩;simp only at ht;subst ht;rw[zb];refine⟨fun hb=>?_,fun hb=>?_⟩
    ·rw[l1.ld (i:=0) rfl,f17,za];refine Cl (mK.ext l1.iZ) (by omega) ?_;rw[zp,za,zb];refine⟨fun h0=>fin true l1.iZ ?_,fun h0=>?_⟩
     ·rw[hw];exact⟨fun _=>⟨hb.2,i,hb.1,h0⟩,fun _=>rfl⟩
     ·rw[ze,za,zE,zr (by omega)];refine⟨⟨rfl,i+1,by omega,rfl,fun j hj=>?_⟩,by simp only[zu];omega⟩;by_cases e:j=i
      ·rw[e];exact h0
      ·exact kG j (by omega)
    ·refine fin false l1.iZ ?_;rw[hw];refine⟨fun e=>(by cases e),fun⟨h1,j,hj,h4⟩=>?_⟩;by_cases e:(i:Int)<((x.f 2:Int)+1023) / 1024
     ·exact absurd ⟨e,h1⟩ hb
     ·exact absurd h4 (kG j (by omega))
   ·rw[zk,za,zb];refine⟨fun kc=>?_,fun lA=>⟨rfl,qr fun e=>lA e.1⟩⟩
    ·rw[l1.ld (i:=0) rfl,f1,za,zp,za];refine⟨rfl,YF ?_⟩;omega
  ·rw[zp,za,zb];refine⟨fun h9=>?_,fun h9=>?_⟩
   ·have hw:Yq l kd x↔pX x.sp ((x.f 2:Int) / 1024)≠0/\x.f 2 % 1024≠0/\∃ i,x.f 2 % 1024<=i/\i<1024/\kv (z9 l (pX x.sp ((x.f 2:Int) / 1024))) i≠0:=by unfold Yq;rw[aH tY,aH Un,aU h9]
    rw[l1.ld (i:=0) rfl,f17,za,l1.ld (i:=0) rfl,f3,za,zz,za,zr (by omega),Zp (by decide),za,Zx (by omega),zd (by omega) (by omega)];refine Cl (mK.ext l1.iZ) (by omega) ?_;refine Zg.mk (fun t H'=>H'=H1/\t.1=.bool (decide (pX x.sp ((x.f 2:Int) / 1024)=0\/x.f 2 % 1024=0))) ?_ ?_
    ·rintro⟨t,u⟩ H4 ⟨rfl,ht⟩;simp only at ht;subst ht;rw[zb];refine⟨fun hb=>fin false l1.iZ ?_,fun hb=>?_⟩
     ·rw[hw];refine⟨fun e=>(by cases e),fun⟨h1,h4,_⟩=>?_⟩;rcases hb with e | e
      ·exact absurd e h1
      ·exact absurd e h4
     ·have SA:pX x.sp ((x.f 2:Int) / 1024)≠0:=fun e=>hb (.inl e);have qO:x.f 2 % 1024≠0:=fun e=>hb (.inr e);refine Aw (h.ext l1.iZ) fun H5 e5=>?_;have sa:=ZS h.is (pX x.sp ((x.f 2:Int) / 1024));generalize z9 l (pX x.sp ((x.f 2:Int) / 1024))=c at sa hw;refine(l1.ext e5).jc fun b2 H6 _ l6=>?_;refine l6.jE (i:=1) rfl zw sa.size sa.ok fun H7 l7=>?_;have l7:Lx H H7 [.box b1 (lQ x) 192,.box b2 c 65]:=l7;rw[l7.ld (i:=0) rfl,f3,za,zz,za,zr (by omega),z7 (by decide),za,Zb (by omega)];refine zF.mk (fun t H'=>H'=H7/\∃ i:Nat,x.f 2 % 1024<=i/\i<=1024/\t=(zg i,())/\∀ j,x.f 2 % 1024<=j->j<i->kv c j=0) (fun t _=>mi t.1 fun i=>(1024 - i).toNat) ⟨rfl,x.f 2 % 1024,by omega,by omega,by congr 2,fun j _ _=>by omega⟩ ?_;rintro _ H8 ⟨rfl,i,hi1,Gg,rfl,hz⟩;rw[zk,za,zb];refine⟨fun kc=>?_,fun lA=>?_⟩
      ·rw[zC (by omega),za,aR,iX,l7.ld (i:=1) rfl,sa.get (by omega),za,zn,za,zb];refine⟨fun jZ=>fin true l7.iZ ?_,fun he=>?_⟩
       ·rw[hw];exact⟨fun _=>⟨SA,qO,i,hi1,by omega,by omega⟩,fun _=>rfl⟩
       ·rw[ze,za,zE,zr (by omega)];refine⟨⟨rfl,i+1,by omega,by omega,rfl,fun j h1 h4=>?_⟩,by simp only[zu];omega⟩;by_cases e:j=i
        ·subst e;omega
        ·exact hz j h1 (by omega)
      ·refine fin false l7.iZ ?_;rw[hw];refine⟨fun e=>(by cases e),fun⟨_,_,j,h4,h5,h6⟩=>?_⟩;exact absurd (hz j h4 (by omega)) h6
    ·rw[zp,za,zb];refine⟨fun h0=>⟨rfl,yB (.inl h0)⟩,fun h0=>?_⟩
     ·rw[l1.ld (i:=0) rfl,f3,za,z7 (by decide),za,Zb (by omega),zp,za];refine⟨rfl,YF ?_⟩;constructor
      ·intro e;exact .inr (by omega)
      ·rintro(e | e)
       ·exact absurd e h0
       ·omega
   ·have hw:Yq l kd x↔∃ y∈x.sp,YO l kd x y:=by unfold Yq;rw[aH tY,aH Un,aH h9]
    refine zF.mk (fun t H'=>∃ i:Nat,i<=x.sp.length/\t=(zg i,())/\(∀ y∈x.sp.take i,¬ YO l kd x y)/\Lx H H' [.box b1 (lQ x) 192]) (fun t _=>mi t.1 fun i=>(x.sp.length - i).toNat) ⟨0,by omega,rfl,by simp,l1⟩ ?_;rintro _ H3 ⟨i,hi,rfl,kG,l3⟩;rw[l3.ld (i:=0) rfl,f17,za,mK.j9 qt,za,bR,zk,za,zb];refine⟨fun kc=>?_,fun lA=>?_⟩
    ·have DC:i<x.sp.length:=by omega
     have IE:(x.sp.map o7)[i]?=some (o7 x.sp[i]):=by rw[dR,bU DC];rfl
     have MU:x.sp.take (i+1)=x.sp.take i++[x.sp[i]]:=fU DC;have hym:x.sp[i]∈x.sp:=ju DC;generalize x.sp[i]=y at IE MU hym;obtain⟨b2,o2,uM,vt,CG⟩:=(mK.ext l3.iZ).el IE;have wF:=CG 0 2 (by omega);rw[bH,show(o7 y).extract 0 (0+2)=o7 y from rfl]at wF;rw[za,uM,za,wF,za,PV,za];refine l3.jc fun b3 H4 _ l4=>?_;refine l4.jE (i:=1) (vs:=o7 y) rfl rfl rfl (xi _) fun H5 l5=>?_;have l5:Lx H H5 [.box b1 (lQ x) 192,.box b3 (o7 y) 233]:=l5;have y0:(o7 y)[0]?=some (zg y.1):=rfl;have y1:(o7 y)[1]?=some (zg y.2):=rfl;refine Zg.mk (fun t H'=>t.1=.bool (decide (YO l kd x y))/\Lx H H' [.box b1 (lQ x) 192,.box b3 (o7 y) 233]) ?_ ?_
     ·rintro⟨t,u⟩ H6 ⟨ht,l6⟩;simp only at ht;subst ht;rw[zb];refine⟨fun hb=>fin true l6.iZ ?_,fun hb=>?_⟩
      ·rw[hw];exact⟨fun _=>⟨y,hym,hb⟩,fun _=>rfl⟩
      ·rw[ze,za,zE,zr (by omega)];refine⟨⟨i+1,by omega,rfl,fun z hz=>?_,l6.takeN 1⟩,by simp only[zu];omega⟩;rw[MU]at hz;rcases fH.1 hz with h1 | h1
       ·exact kG z h1
       ·rw[eU.1 h1];exact hb
     ·have b1:∀ {c:Bool},(c=true↔YO l kd x y)->(Value.bool c)=.bool (decide (YO l kd x y)):=fun hc=>by congr 1;rw[jL,hc,iS]
      simp only[zc,aR,bH,za];rw[zp,za,zb];refine⟨fun h8=>?_,fun h8=>?_⟩
      ·rw[l5.ld (i:=1) rfl,y0,za,zN,za,zb];refine⟨fun hb=>⟨b1 (by simp[YO,h8,hb]),l5⟩,fun hb=>?_⟩;rw[zp,za,zb];refine⟨fun h7=>by omega,fun h7=>⟨b1 (by simp[YO,h7,hb]),l5⟩⟩
      ·rw[zp,za,zb];refine⟨fun h7=>?_,fun h7=>⟨b1 (by simp[YO,h7,h8]),l5⟩⟩;rw[l5.ld (i:=1) rfl,y0,za,zk,za,zb];refine⟨fun hb=>?_,fun hb=>⟨b1 (by simp[YO,h8,hb]),l5⟩⟩;rw[l5.ld (i:=1) rfl,y1,za];refine Xo (h.ext l5.iZ) fun H9 e9=>⟨b1 (by simp[YO,h7,hb]),l5.ext e9⟩
    ·have ei:i=x.sp.length:=by omega
     subst ei;rw[jk]at kG;refine fin false l3.iZ ?_;rw[hw];exact⟨fun e=>(by cases e),fun⟨y,hy,hb⟩=>absurd hb (kG y hy)⟩
theorem M7(h:Lk H d dv B L I l)(hf:GN H s fs){kd:Int}(Wr:kd≠1000)(k:∀ H' s' ps,Ext H H'->oh H H' (.sl 251 2 s' (ps.map (fC kd)))->(ps=[]↔∀ x∈fs,¬ Yq l kd x)->R s' H'):Fc TP 154 #[zD d,s,.int .u8 kd] H R:=by
 have uK:=hf.len;refine fn154 ?_;simp only[sh154,Ul,UL,UA,Ub,UI,Uf,Ui,Ug,Uo,Uv,YN,zm,za];refine(Lo.start _ H:Lx H H []).Oz fun p H1 e1 l1=>?_;have l1:Lx H H1 [yJ p kd []]:=l1;simp only[zl,zc,aR,bH,Nat.reduceAdd,za];refine zF.mk (fun t H'=>∃ (i:Nat) (ps:List Int),i<=fs.length/\t=(zg i,())/\ps.length<=i/\(ps=[]↔∀ y∈fs.take i,¬ Yq l kd y)/\Lx H H' [yJ p kd ps])
  (fun t _=>mi t.1 fun i=>(fs.length - i).toNat) ⟨0,[],by omega,rfl,by simp,by simp,l1⟩ ?_
 rintro _ H2 ⟨i,ps,hi,rfl,nX,r8,l2⟩;rw[hf.row.j9 Ya,za,bR,zk,za,zb];refine⟨fun kc=>?_,fun lA=>?_⟩
 ·have kI:i<fs.length:=by omega
  have lP:(fs.map lQ)[i]?=some (lQ fs[i]):=by rw[dR,bU kI];rfl
  have mR:fs.take (i+1)=fs.take i++[fs[i]]:=fU kI;have kL:fs[i]∈fs:=ju kI;generalize fs[i]=x at lP mR kL;have kH:=sX (y:=x) (ys:=[]) r8;rw[<- mR]at kH;obtain⟨b,o,ha,lI,kE⟩:=(hf.ext l2.iZ).row.el lP;have hr:=kE 0 18 (by omega);rw[bH,qI (c:=lQ x) (n:=18) rfl]at hr;rw[ha,za,hr,za];refine UR (h.ext l2.iZ) ((hf.sub x kL).ext l2.iZ) (hf.M9 x kL) (hf.ok x kL) fun H3 e3=>?_;have l3:=l2.ext e3;rw[zb];refine⟨fun hb=>?_,fun hb=>?_⟩
  ·obtain⟨b,o,mq,lI,kE⟩:=(hf.ext l3.iZ).row.el lP;have h0:=lI 0 (by omega);rw[bH]at h0;rw[<- ha .i64,mq .i64,za,zc,za,bH,h0,show(lQ x)[0]?=some (zg x.i) from rfl,za];obtain⟨O,ho,st⟩:=l3.call (i:=0) rfl;refine rM ho (by omega) fun mN LH JG jZ hle Dy KQ=>?_;have lO:=st mN _ LH Dy KQ;rw[ze,za,zE,zr (by omega)];refine⟨⟨i+1,JG,by omega,rfl,by omega,?_,lO⟩,by simp only[zu];omega⟩;rw[<- kH];exact⟨fun e=>absurd e jZ,fun e=>absurd hb e.2⟩
  ·rw[ze,za,zE,zr (by omega)];refine⟨⟨i+1,ps,by omega,rfl,by omega,?_,l3⟩,by simp only[zu];omega⟩;rw[<- kH];exact⟨fun e=>⟨e,hb⟩,fun e=>e.1⟩
 ·have ei:i=fs.length:=by omega
  subst ei;rw[jk]at r8;obtain⟨s',hg,pO⟩:=l2.xU (i:=0) rfl;rw[zi hg];show Pu (some s') _;rw[za];exact k H2 s' ps l2.iZ (pO.nY (i:=0) rfl) r8
theorem U4(h:Lk H d dv B L I l)(hf:GN H s fs)(hd:∀ y∈Zf fs,px B L I y)(k:∀ H' s' ps,Ext H H'->oh H H' (.sl 251 2 s' (ps.map (fC 6)))->(ps=[]↔∀ b:Nat,(b:Int)<B->nr (Zf fs) b<=1)->R s' H'):Fc TP 153 #[zD d,s] H R:=by
 obtain⟨xP,xO,wI,xQ,vP,vO,gD⟩:=id h.ok;refine fn153 ?_;simp only[sh153,Ul,UA,Us,Ub,UI,Uf,Ui,Ug,Uo,Uq,Uv,YN,zm,za];refine(Lo.start _ H:Lx H H []).jc fun p H1 e1 l1=>?_;have l1:=l1.nt 251 2;refine Mr (h.ext l1.iZ) (hf.ext l1.iZ) hd fun H2 sv e2 n2=>?_;have l2:=l1.new e2 n2;obtain⟨Bn,eB⟩:∃ Bn:Nat,B=Bn:=⟨B.toNat,by omega⟩;have eBt:B.toNat=Bn:=by omega
 rw[eBt]at l2;simp only[zl,zc,aR,bH,Nat.reduceAdd,za];refine zF.mk (fun t H'=>∃ (i:Nat) (s':Value) (ps:List Int),i<=Bn/\t=(zg i,())/\ps.length<=i/\(ps=[]↔∀ b:Nat,b<i->nr (Zf fs) b<=1)/\Lx H H' [.box p #[.int .u8 6,s'] 255,.sl 251 2 s' (ps.map (fC 6)),.sl 3 1 sv (cN (nr (Zf fs)) Bn)])
  (fun t _=>mi t.1 fun i=>(Bn - i).toNat) ⟨0,.slice none 0 0,[],by omega,rfl,by simp,by simp,l2⟩ ?_
 rintro _ H3 ⟨i,s',ps,hi,rfl,nX,r8,l3⟩;have f1:(#[.int .u8 6,s']:Array Value)[1]?=some s':=rfl;have kH:∀ b,b<i+1↔b<i\/b=i:=fun b=>by omega
 rw[(l3.sv (i:=2) rfl).j9 XK,za,Dn,zk,za,zb];refine⟨fun kc=>?_,fun lA=>?_⟩
 ·have hg:=Dp (c:=nr (Zf fs)) (n:=Bn) (b:=i) (by omega);obtain⟨b3,o3,Gn,CM,_⟩:=(l3.sv (i:=2) rfl).sr.el hg;have GV:=CM 0 (by omega);rw[bH]at GV;rw[Gn,za,GV,show(nC (nr (Zf fs) i))[0]?=some (zg (nr (Zf fs) i)) from rfl,za,zJ,za,zb];refine⟨fun AS=>?_,fun hle=>?_⟩
  ·rw[l3.ld (i:=0) rfl,f1,za,wZ,za];refine l3.qY I4 C8 (i:=1) rfl (by rfl) (by omega) (by omega) rfl (IY _ _) (by rw[bR];omega) fun v3 H4 l4=>?_;have lT:=(l4.sv (i:=1) rfl).one;refine l4.st (i:=0) (j:=1) (v:=v3) rfl (by simp) lT.2 lT.1 fun H5 l5=>?_;rw[ze,za,zE,zr (by omega)];refine⟨⟨i+1,v3,ps++[(i:Int)],by omega,rfl,by rw[cR];simp only[gR,jW];omega,⟨fun e=>absurd (List.append_eq_nil_iff.1 e).2 (List.cons_ne_nil _ _),fun hh=>?_⟩,?_⟩,by simp only[zu];omega⟩
   ·have:=hh i (by omega);omega
   ·rw[cU];exact l5
  ·rw[ze,za,zE,zr (by omega)];refine⟨⟨i+1,s',ps,by omega,rfl,by omega,⟨fun e b hb=>?_,fun hh=>r8.2 fun b hb=>hh b (by omega)⟩,l3⟩,by simp only[zu];omega⟩;rcases(kH b).1 hb with h1 | h1
   ·exact r8.1 e b h1
   ·rw[h1];omega
 ·have ei:i=Bn:=by omega
  subst ei;rw[l3.ld (i:=0) rfl,f1,za];refine k H3 s' ps l3.iZ (l3.nY (i:=1) rfl) ?_;rw[r8,eB];exact⟨fun hh b hb=>hh b (by omega),fun hh b hb=>hh b (by omega)⟩
end
section
variable{P:Program}{T:TypeId}{a b:Array Value}{lit:Bool}{H:Hp}
def AX(P:Program)(d:Nat)(xs ys:Array Value)(f:Field):Option Bool:=if f.name = "_" then some true else(Yl (r5 P f.type) xs f.offset).bind fun a=>(Yl (r5 P f.type) ys f.offset).bind fun b=>DF P d f.type a b
theorem vB{fs:Array Field}{l:List Field}(hu:P.underlying T=some (.struct fs))(hl:fs.toList=l)(hg:P.eqGuardType P.depth T=false)(hs:P.stoodInHeld T=false):CZ P T lit (.agg a) (.agg b) H=Y5 (AX P 9999 a b) l:=by
 unfold CZ K0;rw[hu];simp only[hg,jl,jD];unfold DF;rw[hu];simp only[hs,jl,jD,hl];rfl
theorem YW{d:Nat}{f:Field}{k:IntKind}{x y:Int}(hn:f.name ≠ "_")(hu:P.underlying f.type=some (.int k))(ha:a[f.offset]?=some (.int k x))(hb:b[f.offset]?=some (.int k y)):AX P (d+1) a b f=some (decide (x=y)):=by
 unfold AX;rw[aH hn];have hk:r5 P f.type=some none:=by unfold r5;rw[hu]
 simp only[hk,Yl,ha,hb,jG];unfold DF;rw[hu];simp only[jO,iH];rw[jL];simp
theorem JW(s t:ByteArray):(s.toList == t.toList)=decide (s=t):=by
 rw[ByteArray.toList_eq,ByteArray.toList_eq,jL,beq_iff_eq,iS];constructor
 ·intro h;cases s;cases t;simp only at h;congr 1;exact mV.1 h
 ·intro h;rw[h]
theorem SN{d:Nat}{f:Field}{x y:ByteArray}(hn:f.name ≠ "_")(hu:P.underlying f.type=some .string)(ha:a[f.offset]?=some (.string x))(hb:b[f.offset]?=some (.string y)):AX P (d+1) a b f=some (decide (x=y)):=by
 unfold AX;rw[aH hn];have hk:r5 P f.type=some none:=by unfold r5;rw[hu]
 simp only[hk,Yl,ha,hb,jG];unfold DF;rw[hu];simp only[iH];exact JW x y
end
noncomputable def KS(T:TypeId):Array Field:=match TP.underlying T with | some (.struct fs)=>fs | _=>#[]
noncomputable def yk(T:TypeId)(i:Nat):Field:=(KS T).toList.getD i default
theorem alI:TP.underlying 241=some (.struct (KS 241)):=by kernel_rfl
theorem ahz:(KS 241).toList=[yk 241 0,yk 241 1]:=by kernel_rfl
theorem ahy:(yk 241 0).name = "Inum" := by kernel_rfl
theorem ahx:(yk 241 1).name = "Name" := by kernel_rfl
theorem aap:(yk 241 0).offset=0:=by kernel_rfl
theorem aao:(yk 241 1).offset=1:=by kernel_rfl
theorem ahw:TP.underlying (yk 241 0).type=some (.int .u16):=by kernel_rfl
theorem ahv:TP.underlying (yk 241 1).type=some .string:=by kernel_rfl
theorem alK:TP.eqGuardType TP.depth 241=false:=by kernel_rfl
theorem alJ:TP.stoodInHeld 241=false:=by kernel_rfl
theorem aan{x y:A1}{lit:Bool}{H:Hp}:CZ TP 241 lit (.agg (yh x)) (.agg (yh y)) H=some (decide (x=y)):=by
 rw[vB alI ahz alK alJ];have h0:AX TP 9999 (yh x) (yh y) (yk 241 0)=some (decide ((x.1:Int)=y.1)):=YW (d:=9998) (by rw[ahy];decide) ahw (by rw[aap];rfl) (by rw[aap];rfl);have h1:AX TP 9999 (yh x) (yh y) (yk 241 1)=some (decide (x.2=y.2)):=SN (d:=9998) (by rw[ahx];decide) ahv (by rw[aao];rfl) (by rw[aao];rfl);obtain⟨x1,x2⟩:=x;obtain⟨y1,y2⟩:=y;simp only at h0 h1;unfold Y5;rw[h0];by_cases e1:(x1:Int)=y1
 ·rw[gU e1];unfold Y5;rw[h1];have e1:x1=y1:=by omega
  by_cases e2:x2=y2
  ·simp[e1,e2,Y5]
  ·simp[e1,e2]
 ·have e1':x1≠y1:=fun e=>e1 (by omega);simp[e1,e1']
def sB(m:Nat):ByteArray:=strOfNums [(m:Int)]
theorem Mi(m:Nat):(sB m).size=1:=rfl
def Eb(c:Array Value):Nat->ByteArray
 | 0=>⟨#[]⟩
 | n+1=>Eb c n++sB (kv c (2+n))
theorem ue(c:Array Value):∀ n,(Eb c n).size=n
 | 0=>rfl
 | n+1=>by rw[Eb,ByteArray.size_append,ue c n,Mi]
def HQ(c:Array Value):Nat->Nat->Nat
 | 0,i=>i
 | f+1,i=>if kv c (2+i)=0 then i else HQ c f (i+1)
theorem My{c:Array Value}:∀ (f i:Nat) {n:Nat},i<=n->(∀ j,i<=j->j<n->kv c (2+j)≠0)->(n=i+f\/(n<i+f/\kv c (2+n)=0))->HQ c f i=n
 | 0,i,n,h1,h2,h3=>by
  show i=n;omega
 | f+1,i,n,h1,h2,h3=>by
  unfold HQ;by_cases e:i=n
  ·subst e;rcases h3 with h | h
   ·omega
   ·rw[aU h.2]
  ·rw[aH (h2 i (iU _) (by omega))];exact My f (i+1) (by omega) (fun j h4 h5=>h2 j (by omega) h5) (by omega)
def rQ(c:Array Value):A1:=(kv c 0+256*kv c 1,Eb c (HQ c 14 0))
def uO(c:Array Value):Prop:=C2 (rQ c)=0/\rO (rQ c)=c
noncomputable def oG(c:Array Value):A1:=if uO c then rQ c else(0,⟨#[]⟩)
theorem sS{c:Array Value}(h:mu 16 c):(oG c).1<65536:=by
 unfold oG;split
 ·have h0:=h.lt 0;have h1:=h.lt 1;show kv c 0+256*kv c 1<_;omega
 ·exact(by decide:(0:Nat)<65536)
theorem ae2:TP.underlying 237=some (.array 16 5):=by kernel_rfl
noncomputable def agc:TypeInfo:=(TP.info? 5).getD default
theorem vl:TP.info? 5=some agc:=by kernel_rfl
theorem vk:agc.size=1:=by kernel_rfl
theorem ajs{b i:Nat}(hi:i<16):yF TP 237 (.pointer (some ⟨b,0,none⟩)) (some (zg i)) (some (zg ((i+1:Nat):Int))) none=some (.slice (some ⟨b,i,none⟩) 1 (16 - i)):=by
 unfold yF;rw[ae2];have h1:(0:Int)<=((i+1:Nat):Int)/\((i+1:Nat):Int)<=((16:Nat):Int):=by omega
 have h2:(0:Int)<=(i:Int)/\(i:Int)<=((i+1:Nat):Int):=by omega
 simp only[Z2,Wt,jG,jK,vl,iR];rw[aU h1];simp only[jG];rw[aU h2];simp only[jG,iR,vk,iX];rw[aH (by omega)];simp only[Addr.oE,aR];congr 2;omega
theorem abe{H:Hp}{b i m c':Nat}{c:Array Value}{T:TypeId}(hb:H[b]?=some (.cells c T))(hi:c[i]?=some (.int .u8 m)):pG (.slice (some ⟨b,i,none⟩) 1 c') H=some (.string (sB m)):=by
 have kc:i<c.size:=by
  rcases jx i c.size with h | h
  ·exact h
  ·rw[iQ h]at hi;cases hi
 have hr:np H ⟨b,i,none⟩ 1=some #[.int .u8 m]:=by
  unfold np;simp only[hb];rw[aU ⟨trivial,by omega⟩];congr 1;apply jm;intro j;rw[ji];by_cases hj:j=0
  ·subst hj;rw[aU (by omega),bH,hi];rfl
  ·rw[aH (by omega),iQ (by simp;omega)]
 unfold pG;simp only[hr,jG];rfl
theorem U6{s t:ByteArray}(h:s.size+t.size<1000000):z8 (some .string) .add (.string s) (.string t)=some (.string (s++t)):=by
 show Qn .add s t=_;unfold Qn;have:IntKind.i64.max=9223372036854775807:=by decide
 simp only;rw[aH (by omega)]
theorem FK{s t:ByteArray}:z8 (some .string) .eql (.string s) (.string t)=some (.bool (decide (s=t))):=by
 show some (Value.bool (s.toList == t.toList))=_;rw[JW]
theorem Qm{s t:ByteArray}:z8 (some .string) .neq (.string s) (.string t)=some (.bool (decide (s≠t))):=by
 show some (Value.bool (!(s.toList == t.toList)))=_;rw[JW];congr 2;rw[jL];simp
theorem afr:pN TP 237 16 .u8:=⟨⟨5,by kernel_rfl,by kernel_rfl,by kernel_rfl,by kernel_rfl⟩,by kernel_rfl⟩
theorem alH{a b:Array Value}(ha:mu 16 a)(hb:mu 16 b){lit:Bool}{H:Hp}:CZ TP 237 lit (.agg a) (.agg b) H=some (decide (a=b)):=
 Gu afr ha.size hb.size (fun i hi=>⟨_,ha.get hi⟩) (fun i hi=>⟨_,hb.get hi⟩)
theorem LO:ZZ TP 241=some (.agg (yh (0,⟨#[]⟩))):=by kernel_rfl
theorem Pj:zo TP 241 []=some (.agg (yh (0,⟨#[]⟩))):=by kernel_rfl
theorem Ph(a:Int):zo TP 241 [(0,.int .u16 a)]=some (.agg #[.int .u16 a,.string ⟨#[]⟩]):=by kernel_rfl
theorem th(e:A1):zv (yh e):=by unfold zv;rw[<- iV];rfl
section
variable{H:Hp}{R:Value->Hp->Prop}
theorem ahP{c:Array Value}(hc:mu 16 c)(k:∀ H',Ext H H'->R (.tuple #[.agg (yh (oG c)),zg (if uO c then 0 else 4)]) H'):Fc TP 191 #[.agg c] H R:=by
 have hb0:=hc.lt 0;have SA:=hc.lt 1;refine fn191 ?_;simp only[sh191,Ul,UL,UA,Us,Ub,Uz,Ux,Uf,Uk,Uj,Uo,Uv,U1,U0,zm,LO,za];refine(Lo.start _ H:Lx H H []).jc fun b1 H1 _ l1=>?_;refine l1.jc fun b2 H2 _ l2=>?_;rw[show(Value.int .i64 0)=zg ((0:Nat):Int) from rfl,show(Value.int .i64 1)=zg ((1:Nat):Int) from rfl];rw[zC (by omega),za,aR,An,l2.ld (i:=0) rfl,hc.get (by omega),za,zz,za,ZR (by omega) (by omega),zC (by omega),za,aR,iX,l2.ld (i:=0) rfl,hc.get (by omega),za,zz,za,ZR (by omega) (by omega),zW,za,ZR (by omega) (by omega),ze,za,ZR (by omega) (by omega),Ph,za];refine l2.jc fun b3 H3 _ l3=>?_;have KK:(kv c 0:Int)+256*(kv c 1:Int)=((kv c 0+256*kv c 1:Nat):Int):=by omega
 rw[KK];refine l3.jE (i:=2) (vs:=yh (kv c 0+256*kv c 1,Eb c 0)) rfl rfl rfl (th _) fun H4 l4=>?_;refine zF.mk (fun t H'=>∃ i:Nat,i<=14/\t=(zg ((2+i:Nat):Int),())/\(∀ j,j<i->kv c (2+j)≠0)/\Lx H H' [.box b1 c 237,.box b2 (yh (0,⟨#[]⟩)) 241,.box b3 (yh (kv c 0+256*kv c 1,Eb c i)) 241])
  (fun t _=>mi t.1 fun i=>(16 - i).toNat) ⟨0,by omega,rfl,fun j hj=>by omega,l4⟩ ?_
 rintro _ H5 ⟨i,hi,rfl,kG,l5⟩;have e1:∀ {v:ByteArray},(yh (kv c 0+256*kv c 1,v))[1]?=some (.string v):=rfl;refine Zg.mk (fun t H'=>H'=H5/\t.1=.bool (decide (i<14/\kv c (2+i)≠0))) ?_ ?_
 ·rintro⟨t,u⟩ H6 ⟨rfl,ht⟩;simp only at ht;subst ht;simp only[zc,aR,za];rw[zb];refine⟨fun sI=>?_,fun ID=>?_⟩
  ·rw[l5.ld (i:=2) rfl,e1,za,ze,za,Px (2+i) 1,zr (v:=2+i+1) (by omega),ajs (by omega),za,abe (l5.at (i:=0) rfl) (hc.get (by omega)),za,U6 (by rw[ue,Mi];omega),za];refine l5.st (i:=2) (j:=1) (v:=.string (Eb c i++sB (kv c (2+i)))) rfl (by exact(by decide:1<2)) rfl rfl fun H7 l7=>?_;rw[za];refine⟨⟨i+1,by omega,rfl,fun j hj=>?_,l7⟩,by simp only[zu];omega⟩;by_cases e:j=i
   ·rw[e];exact sI.2
   ·exact kG j (by omega)
  ·have hlen:HQ c 14 0=i:=My 14 0 (by omega) (fun j _ hj=>kG j hj) (by
    by_cases e:i=14
    ·omega
    ·by_cases e2:kv c (2+i)=0
     ·omega
     ·exact absurd ⟨by omega,e2⟩ ID)
   have ac6:((kv c 0+256*kv c 1,Eb c i):A1)=rQ c:=by unfold rQ;rw[hlen]
   have lH:(rQ c).2.size<=14:=by rw[<- ac6];show(Eb c i).size<=14;rw[ue];exact hi
   have kc:(rQ c).1<65536:=by rw[<- ac6];show kv c 0+256*kv c 1<_;omega
   rw[ac6]at l5;rw[l5.je (i:=2) (n:=2) rfl rfl,za];refine aaq kc (by omega) fun H8 e8=>?_;have l8:=l5.ext e8;have lP:=wL (rQ c);rw[show zq (.tuple #[.agg (rO (rQ c)),zg (C2 (rQ c))]) 0=some (.agg (rO (rQ c))) from rfl,za,show zq (.tuple #[.agg (rO (rQ c)),zg (C2 (rQ c))]) 1=some (zg (C2 (rQ c))) from rfl,za,Fy,za];refine l8.jc fun b4 H9 _ l9=>?_;refine l9.jE (i:=3) (vs:=rO (rQ c)) rfl (yU 16) lP.size lP.ok fun mX mn=>?_;have mn:Lx H mX [.box b1 c 237,.box b2 (yh (0,⟨#[]⟩)) 241,.box b3 (yh (rQ c)) 241,.box b4 (rO (rQ c)) 237]:=mn;refine Zg.mk (fun t H'=>H'=mX/\t.1=.bool (decide (¬ uO c))) ?_ ?_
   ·rintro⟨t,u⟩ mN ⟨rfl,ht⟩;simp only at ht;subst ht;rw[zb];refine⟨fun hb=>?_,fun hb=>?_⟩
    ·rw[Pj,za];refine mn.ret (i:=1) rfl rfl rfl (th _) fun H' l'=>?_;have:=k H' l'.iZ;unfold oG at this;rw[aH hb,aH hb]at this;exact this
    ·have hb:=jh.1 hb;rw[mn.je (i:=2) (n:=2) rfl rfl,za];refine mn.ret (i:=1) rfl rfl rfl (th _) fun H' l'=>?_;have:=k H' l'.iZ;unfold oG at this;rw[aU hb,aU hb]at this;exact this
   ·rw[zn,za,zb];refine⟨fun jZ=>⟨rfl,yB fun e=>jZ e.1⟩,fun he=>?_⟩;have he:C2 (rQ c)=0:=jh.1 he;rw[mn.je (i:=3) (n:=16) rfl lP.size,za,mn.je (i:=0) (n:=16) rfl hc.size,za,Yy,alH lP hc,iR,za];refine⟨rfl,?_⟩;show Value.bool (!decide (rO (rQ c)=c))=_;congr 1;rw[jL];simp[uO,he]
 ·rw[zk,za,zb];refine⟨fun kc=>?_,fun lA=>⟨rfl,qr fun e=>lA (by omega)⟩⟩;rw[zC (by omega),za,aR,iX,l5.ld (i:=0) rfl,hc.get (by omega),za,zn,za];refine⟨rfl,YF ?_⟩;omega
end
def Th(c:jn)(o:Nat):Array Value:=c.extract o (o+16)
theorem Xb{c:jn}(h:jR c){o:Nat}(ho:o+16<=1024):mu 16 (Th c o):=by
 unfold Th;refine⟨by rw[vL,h.size];omega,fun i hi=>?_⟩;rw[ji,aU (by rw[h.size];omega)];exact h.cell _ (by omega)
theorem Tv{c:jn}(h:jR c){o:Nat}(ho:o+16<=1024){i:Nat}(hi:i<16):kv (Th c o) i=kv c (o+i):=by
 unfold kv Th;rw[ji,aU (by rw[h.size];omega)]
noncomputable def DP(l:List (Int × jn))(x:Fl)(s:Nat):Array Value:=Th (z9 l (pX x.sp ((s / 64:Nat):Int))) (16*(s % 64))
noncomputable def yd(l:List (Int × jn))(x:Fl)(n:Nat):List A1:=(List.range n).map fun s=>oG (DP l x s)
def qH(l:List (Int × jn))(x:Fl)(n:Nat):Prop:=∀ s,s<n->uO (DP l x s)
theorem v9{l:List (Int × jn)}(h:∀ x∈l,jR x.2)(x:Fl)(s:Nat):mu 16 (DP l x s):=Xb (ZS h _) (by omega)
theorem rq(l:List (Int × jn))(x:Fl)(n:Nat):(yd l x n).length=n:=by simp[yd]
theorem Ht(l:List (Int × jn))(x:Fl)(n:Nat):yd l x (n+1)=yd l x n++[oG (DP l x n)]:=by unfold yd;rw[uS,cU];rfl
theorem uX(l:List (Int × jn))(x:Fl){n i:Nat}(h:i<n):(yd l x n)[i]?=some (oG (DP l x i)):=by unfold yd;rw[dR,kN h];rfl
noncomputable def eEn:ZX:=Ms (zQ TP 140)
theorem alN:zQ TP 140=some eEn:=by kernel_rfl
theorem ahH:eEn.type=241/\eEn.size=2/\eEn.zero.size=2/\eEn.bytes=24:=⟨by kernel_rfl,by kernel_rfl,by kernel_rfl,by kernel_rfl⟩
section
variable{H:Hp}{R:Value->Hp->Prop}{d:Nat}{dv:Value}{B L I:Int}{l:List (Int × jn)}{s:Value}{fs:List Fl}
theorem Ba(h:Lk H d dv B L I l){x:Fl}(mK:Sr 2 H x.v (x.sp.map o7))(Gh:x.sp.length<=66100)(kD:lE x.f)(k:∀ H' s',Ext H H'->oh H H' (.sl 241 2 s' ((yd l x (x.f 2 / 16)).map yh))->R (.tuple #[s',.bool (decide (qH l x (x.f 2 / 16)))]) H'):Fc TP 162 #[zD d,.agg (lQ x)] H R:=by
 have h2:=kD 2 (by omega);simp only[fw,Nat.reduceLT,jD,Nat.reducePow,uD]at h2;have f3:(lQ x)[3]?=some (.int .u32 (x.f 2)):=rfl;have f17:(lQ x)[17]?=some x.v:=rfl;refine fn162 ?_;simp only[sh162,Ul,UL,UA,Us,Ub,Uz,Ux,Uf,Uk,Uj,Uo,Uq,Uv,U1,U0,zm];refine(Lo.start _ H:Lx H H []).jc fun b1 H1 _ l1=>?_;have l1:=l1.nt 241 2;simp only[zc,aR,bH,Nat.reduceAdd,za,ZI,Fy,LO];generalize hn:x.f 2 / 16=n at k;refine zF.mk (fun t H'=>∃ (i:Nat) (v:Value),i<=n/\t=(.bool (decide (qH l x i)),v,zg i,())/\Lx H H' [.box b1 (lQ x) 192,.sl 241 2 v ((yd l x i).map yh)])
  (fun t _=>mi t.2.2.1 fun i=>(n - i).toNat) ⟨0,.slice none 0 0,by omega,by rw[gU (show qH l x 0 from fun s hs=>by omega)];rfl,l1⟩ ?_
 rintro _ H2 ⟨i,v,hi,rfl,l2⟩;rw[l2.ld (i:=0) rfl,f3,za,zz,za,zr (by omega),Zp (by decide),za,Zx (by omega),zd (by omega) (by omega),zk,za,zb];refine⟨fun kc=>?_,fun lA=>?_⟩
 ·rw[l2.ld (i:=0) rfl,f17,za,zW,za,zd (by omega) (by omega),Zp (by decide),za,Zx (by omega),zd (by omega) (by omega),show((i:Int)*16 / 1024)=((i / 64:Nat):Int) by omega];refine Cl (mK.ext l2.iZ) (by omega) ?_;refine Aw (h.ext l2.iZ) fun H3 e3=>?_;have CH:=v9 h.is x i;have AE:∀ j,j<16->kv (DP l x i) j=kv (z9 l (pX x.sp ((i / 64:Nat):Int))) (16*(i % 64)+j):=fun j hj=>Tv (ZS h.is _) (by omega) hj;have sa:=ZS h.is (pX x.sp ((i / 64:Nat):Int));have uy:=sS CH;have re:qH l x (i+1)↔qH l x i/\uO (DP l x i):=⟨fun hh=>⟨fun s hs=>hh s (by omega),hh i (by omega)⟩,fun hh s hs=>by
   by_cases e:s=i
   ·rw[e];exact hh.2
   ·exact hh.1 s (by omega)⟩
  have hsc:=Ht l x i;generalize z9 l (pX x.sp ((i / 64:Nat):Int))=c at sa AE;generalize DP l x i=r at CH AE uy re hsc;refine(l2.ext e3).jc fun b2 H4 _ l4=>?_;refine l4.jE (i:=2) rfl zw sa.size sa.ok fun H5 l5=>?_;refine l5.jc fun b3 H6 _ l6=>?_;refine zF.mk (fun t H'=>∃ (j:Nat) (y:Array Value),j<=16/\t=(zg j,())/\mu 16 y/\(∀ z,z<j->kv y z=kv r z)/\Lx H H' [.box b1 (lQ x) 192,.sl 241 2 v ((yd l x i).map yh),.box b2 c 65,.box b3 y 237])
   (fun t _=>mi t.1 fun j=>(16 - j).toNat) ⟨0,zR 16,by omega,rfl,yz 16,fun z hz=>by omega,l6⟩ ?_
  rintro _ H7 ⟨j,y,hj,rfl,hy,hyz,l7⟩;rw[zk,za,zb];refine⟨fun CJ=>?_,fun IC=>?_⟩
  ·rw[za,z7 (by decide),za,Zb (by omega),ze,za,zd (by omega) (by omega),show(((i:Int)*16) % 1024+(j:Int))=((16*(i % 64)+j:Nat):Int) by omega,zC (by omega),za,aR,iX,l7.ld (i:=2) rfl,sa.get (by omega),za,zC (by omega),za,aR,iX];refine l7.st (i:=3) (j:=j) (v:=.int .u8 (kv c (16*(i % 64)+j))) rfl (by rw[hy.size];omega) rfl rfl fun H8 l8=>?_;rw[ze,za,zE,zr (by omega)];refine⟨⟨j+1,_,by omega,rfl,hy.set j (sa.lt _),fun z hz=>?_,l8⟩,by simp only[zu];omega⟩;rw[hy.oL (by omega)];by_cases e:j=z
   ·subst e;rw[aU rfl];exact(AE j (by omega)).symm
   ·rw[aH e];exact hyz z (by omega)
  ·have ej:j=16:=by omega
   subst ej;have e:y=r:=hy.ext CH fun z hz=>hyz z hz;subst e;rw[l7.je (i:=3) (n:=16) rfl hy.size,za];refine ahP hy fun H9 e9=>?_;rw[show zq (.tuple #[.agg (yh (oG y)),zg (if uO y then 0 else 4)]) 0=some (.agg (yh (oG y))) from rfl,za,show zq (.tuple #[.agg (yh (oG y)),zg (if uO y then 0 else 4)]) 1=some (zg (if uO y then 0 else 4)) from rfl,za];refine(l7.ext e9).jc fun b4 mX _ mn=>?_;refine mn.jE (i:=4) (vs:=yh (oG y)) rfl rfl rfl (th _) fun mN lO=>?_;have lO:Lx H mN [.box b1 (lQ x) 192,.sl 241 2 v ((yd l x i).map yh),.box b2 c 65,.box b3 y 237,.box b4 (yh (oG y)) 241]:=lO;refine Zg.mk (fun t H'=>H'=mN/\t.1=.bool (decide (qH l x (i+1)))) ?_ ?_
   ·rintro⟨t,u⟩ tF ⟨rfl,ht⟩;simp only at ht;subst ht;rw[lO.je (i:=4) (n:=2) rfl rfl,za];refine lO.qY alN ahH (i:=1) rfl (by rfl) (by omega) (by omega) rfl (th _) (by rw[bR,rq];omega) fun s' sD oM=>?_;have oM:=oM.takeN 2;rw[ze,za,zE,zr (by omega)];refine⟨⟨i+1,s',by omega,rfl,?_⟩,by simp only[zu];omega⟩;rw[hsc,cU];exact oM
   ·rw[zb];refine⟨fun hf=>?_,fun hf=>⟨rfl,qr fun e=>hf (re.1 e).1⟩⟩;rw[zp,za];refine⟨rfl,YF ?_⟩;rw[re];constructor
    ·intro h0;refine⟨hf,?_⟩;by_cases e:uO y
     ·exact e
     ·rw[aH e]at h0;omega
    ·intro h0;rw[aU h0.2]
 ·have ei:i=n:=by omega
  subst ei;exact k H2 v l2.iZ (l2.nY (i:=1) rfl)
def BG(fs:List Fl)(a:Int):Prop:=∃ x∈fs,(x.i:Int)=a
theorem aa3(hf:GN H s fs){a:Int}(k:R (.bool (decide (BG fs a))) H):Fc TP 197 #[s,zg a] H R:=by
 have uK:=hf.len;refine fn197 ?_;simp only[sh197,Ul,UA,Ub,Ui,Ug,Uo,Uv,U1,U0,zm];refine zF.mk (fun t H'=>H'=H/\∃ i:Nat,i<=fs.length/\t=(zg i,())/\∀ x∈fs.take i,(x.i:Int)≠a) (fun t _=>mi t.1 fun i=>(fs.length - i).toNat) ⟨rfl,0,by omega,rfl,by simp⟩ ?_;rintro _ H3 ⟨rfl,i,hi,rfl,kG⟩;rw[hf.row.j9 Ya,za,bR,zk,za,zb];refine⟨fun kc=>?_,fun lA=>?_⟩
 ·have kI:i<fs.length:=by omega
  have lP:(fs.map lQ)[i]?=some (lQ fs[i]):=by rw[dR,bU kI];rfl
  have mR:fs.take (i+1)=fs.take i++[fs[i]]:=fU kI;have kL:fs[i]∈fs:=ju kI;generalize fs[i]=x at lP mR kL;obtain⟨b,o,ha,lI,_⟩:=hf.row.el lP;have h0:=lI 0 (by omega);rw[bH]at h0;rw[ha,za,zc,za,bH,h0,show(lQ x)[0]?=some (zg x.i) from rfl,za,zp,za,zb];refine⟨fun he=>?_,fun jZ=>?_⟩
  ·have e:decide (BG fs a)=true:=gU ⟨x,kL,he⟩;rw[e]at k;exact k
  ·rw[ze,za,zE,zr (by omega)];refine⟨⟨rfl,i+1,by omega,rfl,fun y hy=>?_⟩,by simp only[zu];omega⟩;rw[mR]at hy;rcases fH.1 hy with h1 | h1
   ·exact kG y h1
   ·rw[eU.1 h1];exact jZ
 ·have ei:i=fs.length:=by omega
  subst ei;rw[jk]at kG;have e:decide (BG fs a)=false:=cH fun⟨x,hx,he⟩=>kG x hx he;rw[e]at k;exact k
end
def Jb:ByteArray:=⟨#[46]⟩
def Ja:ByteArray:=⟨#[46,46]⟩
noncomputable def oD(l:List (Int × jn))(x:Fl)(i:Nat):A1:=oG (DP l x i)
def TN(l:List (Int × jn))(fs:List Fl)(x:Fl)(i:Nat):Prop:=(oD l x i).1≠0/\(¬ BG fs (oD l x i).1\/(1<i/\((oD l x i).2=Jb\/(oD l x i).2=Ja))\/∃ k,k<i/\(oD l x k).2=(oD l x i).2)
def yQ(l:List (Int × jn))(fs:List Fl)(x:Fl):Prop:=¬ qH l x (x.f 2 / 16)\/(x.f 1≠0/\(oD l x 0≠(x.i,Jb)\/(oD l x 1).2≠Ja\/∃ i,i<x.f 2 / 16/\TN l fs x i))
theorem Pf(a:Nat):zo TP 241 [(0,.int .u16 (a:Int)),(1,.string ⟨#[46]⟩)]=some (.agg (yh (a,Jb))):=by kernel_rfl
def TX(fs:List Fl):Prop:=∀ x∈fs,x.f 2<=67381248/\(x.f 0=2->x.f 1≠0->32<=x.f 2)
abbrev Nm:=Nat × Nat
def DR(x:Nm):Array Value:=#[zg x.1,zg x.2]
theorem abR(x:Nm):zv (DR x):=by unfold zv;rw[<- iV];rfl
noncomputable def eNm:ZX:=Ms (zQ TP 225)
theorem alL:zQ TP 225=some eNm:=by kernel_rfl
theorem ahE:eNm.type=262/\eNm.size=2/\eNm.zero.size=2/\eNm.bytes=16:=⟨by kernel_rfl,by kernel_rfl,by kernel_rfl,by kernel_rfl⟩
theorem JR:TP.underlying 225=some (.slice 262):=by kernel_rfl
theorem Xl(a b:Nat):zo TP 262 [(0,zg a),(1,zg b)]=some (.agg (DR (a,b))):=by kernel_rfl
def xI(x:Fl):Prop:=x.f 0=2/\x.f 1≠0
noncomputable def T0(l:List (Int × jn))(x:Fl):Nat->List Nm
 | 0=>[]
 | n+1=>T0 l x n++(if 2<=n/\(oD l x n).1≠0 then [(x.i,(oD l x n).1)] else [])
theorem wh(l:List (Int × jn))(x:Fl)(n:Nat):T0 l x (n+1)=T0 l x n++(if 2<=n/\(oD l x n).1≠0 then [(x.i,(oD l x n).1)] else []):=rfl
theorem MB(l:List (Int × jn))(x:Fl):∀ n,n<=2->T0 l x n=[]
 | 0,_=>rfl
 | n+1,h=>by rw[wh,MB l x n (by omega),aH (fun e=>by omega)];rfl
theorem F3(l:List (Int × jn))(x:Fl):∀ n,(T0 l x n).length<=n
 | 0=>by simp[T0]
 | n+1=>by
  have:=F3 l x n;rw[wh,cR];split<;>simp<;>omega
noncomputable def TZ(l:List (Int × jn))(x:Fl):List Nm:=if xI x then T0 l x (x.f 2 / 16) else []
noncomputable def yS(l:List (Int × jn))(fs:List Fl):List Nm:=fs.flatMap (TZ l)
theorem Kk(l:List (Int × jn))(a b:List Fl):yS l (a++b)=yS l a++yS l b:=List.flatMap_append ..
theorem Kj(l:List (Int × jn))(x:Fl):yS l [x]=TZ l x:=by simp[yS]
theorem VO(l:List (Int × jn)){x:Fl}(h:x.f 2<=67381248):(TZ l x).length<=4211328:=by
 unfold TZ;split
 ·have:=F3 l x (x.f 2 / 16);omega
 ·simp
theorem u5(l:List (Int × jn)):∀ {fs:List Fl},TX fs->(yS l fs).length<=4211328*fs.length
 | [],_=>by simp[yS]
 | x :: r,h=>by
  have h1:=u5 l (fs:=r) fun y hy=>h y (dH _ hy);have h2:=VO l (h x (eH ..)).1;have e:yS l (x :: r)=TZ l x++yS l r:=by simp[yS]
  rw[e,cR,gR];omega
section
variable{H:Hp}{R:Value->Hp->Prop}{d:Nat}{dv:Value}{B L I:Int}{l:List (Int × jn)}{s:Value}{fs:List Fl}
theorem Lv(h:Lk H d dv B L I l)(hf:GN H s fs){x:Fl}(hx:x∈fs)(T9:x.f 1≠0->32<=x.f 2)(k:∀ H',Ext H H'->R (.bool (decide (yQ l fs x))) H'):Fc TP 184 #[zD d,s,.agg (lQ x)] H R:=by
 have KK:=hf.num x hx;have kD:=hf.ok x hx;have h2:=kD 2 (by omega);simp only[fw,Nat.reduceLT,jD,Nat.reducePow,uD]at h2;have f0:(lQ x)[0]?=some (zg x.i):=rfl;have f2:(lQ x)[2]?=some (.int .u16 (x.f 1)):=rfl;refine fn184 ?_;simp only[sh184,Ul,UL,UA,Ub,Ux,Uf,Ui,Ug,Uu,Uj,Uo,Uv,U1,U0,zm];refine(Lo.start _ H:Lx H H []).jc fun b1 H1 _ l1=>?_;have l1:Lx H H1 [.box b1 (lQ x) 192]:=l1;have fin:∀ {H'} (b:Bool),Ext H H'->(b=true↔yQ l fs x)->R (.bool b) H':=fun {H'} b e hb=>by
  have:=k H' e;rw[show decide (yQ l fs x)=b from by rw[jL,iS,hb]]at this;exact this
 rw[l1.je (i:=0) (n:=18) rfl rfl,za];refine Ba (h.ext l1.iZ) ((hf.sub x hx).ext l1.iZ) (hf.M9 x hx) kD fun H2 sv e2 n2=>?_;have l2:Lx H H2 [.box b1 (lQ x) 192,.sl 241 2 sv ((yd l x (x.f 2 / 16)).map yh)]:=l1.new e2 n2;have AS:∀ i,i<x.f 2 / 16->((yd l x (x.f 2 / 16)).map yh)[i]?=some (yh (oD l x i)):=fun i hi=>by rw[dR,uX l x hi];rfl
 have R8:∀ i,(oD l x i).1<65536:=fun i=>sS (v9 h.is x i);have hlen:((yd l x (x.f 2 / 16)).map yh).length=x.f 2 / 16:=by rw[bR,rq]
 rw[show zq (.tuple #[sv,.bool (decide (qH l x (x.f 2 / 16)))]) 0=some sv from rfl,za,show zq (.tuple #[sv,.bool (decide (qH l x (x.f 2 / 16)))]) 1=some (.bool (decide (qH l x (x.f 2 / 16)))) from rfl,za,zx,za,Zm];refine⟨fun uz=>?_,fun hfi=>?_⟩
 ·rw[jq]at uz;exact fin true l2.iZ ⟨fun _=>.inl uz,fun _=>rfl⟩
 ·rw[iS]at hfi;rw[zc,za,zc,za,l2.ld (i:=0) rfl,f2,za,zp,za,zb];refine⟨fun h0=>fin false l2.iZ ⟨fun e=>(by cases e),fun e=>?_⟩,fun h0=>?_⟩
  ·rcases e with e | e
   ·exact absurd hfi e
   ·omega
  ·have h0:x.f 1≠0:=by omega
   have h32:=T9 h0;have oT:yQ l fs x↔(oD l x 0≠(x.i,Jb)\/(oD l x 1).2≠Ja)\/∃ i,i<x.f 2 / 16/\TN l fs x i:=by
    unfold yQ;constructor
    ·rintro(e | ⟨_,e | e | e⟩)
     ·exact absurd hfi e
     ·exact .inl (.inl e)
     ·exact .inl (.inr e)
     ·exact .inr e
    ·rintro((e | e) | e)
     ·exact .inr ⟨h0,.inl e⟩
     ·exact .inr ⟨h0,.inr (.inl e)⟩
     ·exact .inr ⟨h0,.inr (.inr e)⟩
   have sv2:=(l2.sv (i:=1) rfl).sr;refine Zg.mk (fun t H'=>H'=H2/\t.1=.bool (decide (oD l x 0≠(x.i,Jb)\/(oD l x 1).2≠Ja))) ?_ ?_
   ·rintro⟨t,u⟩ H3 ⟨rfl,ht⟩;simp only at ht;subst ht;rw[zb];refine⟨fun hb=>fin true l2.iZ ⟨fun _=>oT.2 (.inl hb),fun _=>rfl⟩,fun hb=>?_⟩;refine zF.mk (fun t H'=>Ext H3 H'/\∃ i:Nat,i<=x.f 2 / 16/\t=(zg i,())/\∀ j,j<i->¬ TN l fs x j) (fun t _=>mi t.1 fun i=>(((x.f 2 / 16:Nat):Int) - i).toNat) ⟨Ext.refl _,0,by omega,rfl,fun j hj=>by omega⟩ ?_;rintro _ H4 ⟨x4,i,hi,rfl,kG⟩;have sv4:=sv2.ext x4;rw[sv4.j9 tH,za,hlen,zk,za,zb];refine⟨fun kc=>?_,fun lA=>?_⟩
    ·have kH:∀ j,j<i+1↔j<i\/j=i:=fun j=>by omega
     obtain⟨b,o,ha,lI,_⟩:=sv4.el (AS i (by omega));have c0:=lI 0 (by omega);have c1:=lI 1 (by omega);rw[bH,show(yh (oD l x i))[0]?=some (.int .u16 (oD l x i).1) from rfl]at c0;rw[show(yh (oD l x i))[1]?=some (.string (oD l x i).2) from rfl]at c1;have agU:=R8 i;rw[ha,za,zc,za,bH,c0,za,zp,za,zb];refine⟨fun hz=>?_,fun hz=>?_⟩
     ·rw[ze,za,zE,zr (by omega)];refine⟨⟨x4,i+1,by omega,rfl,fun j hj=>?_⟩,by simp only[zu];omega⟩;rcases(kH j).1 hj with e | e
      ·exact kG j e
      ·rw[e];exact fun e2=>e2.1 (by omega)
     ·have hz:(oD l x i).1≠0:=by omega
      rw[za,zc,za,bH,c0,za,zz,za,zr (by omega)];refine aa3 (hf.ext (l2.iZ.trans x4)) ?_;refine Zg.mk (fun t H'=>H'=H4/\t.1=.bool (decide (¬ BG fs (oD l x i).1\/(1<i/\((oD l x i).2=Jb\/(oD l x i).2=Ja))))) ?_ ?_
      ·rintro⟨t,u⟩ H5 ⟨rfl,ht⟩;simp only at ht;subst ht;rw[zb];refine⟨fun SA=>fin true (l2.iZ.trans x4) ⟨fun _=>oT.2 (.inr ⟨i,by omega,hz,?_⟩),fun _=>rfl⟩,fun SA=>?_⟩
       ·rcases SA with e | e
        ·exact .inl e
        ·exact .inr (.inl e)
       ·refine zF.mk (fun t H'=>H'=H5/\∃ j:Nat,j<=i/\t=(zg j,())/\∀ z,z<j->(oD l x z).2≠(oD l x i).2) (fun t _=>mi t.1 fun j=>(i - j).toNat) ⟨rfl,0,by omega,rfl,fun z hz=>by omega⟩ ?_;rintro _ H6 ⟨rfl,j,hj,rfl,R6⟩;rw[zk,za,zb];refine⟨fun CJ=>?_,fun IC=>?_⟩
        ·obtain⟨b',o',mq,KM,_⟩:=sv4.el (AS j (by omega));have c1':=KM 1 (by omega);rw[show(yh (oD l x j))[1]?=some (.string (oD l x j).2) from rfl]at c1';rw[mq,za,zc,za,c1',za,za,zc,za,c1,za,FK,za,zb];refine⟨fun he=>fin true (l2.iZ.trans x4) ⟨fun _=>oT.2 (.inr ⟨i,by omega,hz,.inr (.inr ⟨j,by omega,he⟩)⟩),fun _=>rfl⟩,fun jZ=>?_⟩;rw[ze,za,zE,zr (by omega)];refine⟨⟨rfl,j+1,by omega,rfl,fun z hz=>?_⟩,by simp only[zu];omega⟩;by_cases e:z=j
         ·rw[e];exact jZ
         ·exact R6 z (by omega)
        ·rw[ze,za,zE,zr (by omega)];refine⟨⟨x4,i+1,by omega,rfl,fun z CA=>?_⟩,by simp only[zu];omega⟩;rcases(kH z).1 CA with e | e
         ·exact kG z e
         ·rw[e];rintro⟨_,e2 | e2 | ⟨q,e3,e4⟩⟩
          ·exact SA (.inl e2)
          ·exact SA (.inr e2)
          ·exact R6 q (by omega) e4
      ·rw[zx,za,Zm];refine⟨fun hu=>⟨rfl,?_⟩,fun hu=>?_⟩
       ·rw[jq]at hu;exact yB (.inl hu)
       ·rw[iS]at hu;rw[zJ,za,zb];refine⟨fun h1=>?_,fun h1=>⟨rfl,qr fun e=>?_⟩⟩
        ·rw[za,zc,za,c1,za,FK,za,zb];refine⟨fun hd=>⟨rfl,yB (.inr ⟨by omega,.inl hd⟩)⟩,fun hd=>?_⟩;rw[za,zc,za,c1,za,FK,za];refine⟨rfl,YF ⟨fun e=>.inr ⟨by omega,.inr e⟩,fun e=>?_⟩⟩;rcases e with e | ⟨_,e | e⟩
         ·exact absurd hu e
         ·exact absurd e hd
         ·exact e
        ·rcases e with e | e
         ·exact e hu
         ·omega
    ·refine fin false (l2.iZ.trans x4) ⟨fun e=>(by cases e),fun e=>?_⟩;rcases oT.1 e with e | ⟨j,hj,e⟩
     ·exact absurd e hb
     ·exact absurd e (kG j (by omega))
   ·obtain⟨b,o,ha,lI,kE⟩:=sv2.el (AS 0 (by omega));have hr:=kE 0 2 (by omega);rw[bH,qI (c:=yh (oD l x 0)) (n:=2) rfl]at hr;rw[show(Value.int .i64 0)=(.int .i64 ((0:Nat):Int)) from rfl,ha,za,hr,za,zc,za,l2.ld (i:=0) rfl,f0,za,zz,za,ZR (by omega) (by omega),Pf,za,Yy,aan,iR,za];rw[show(!decide (oD l x 0=(x.i,Jb)))=decide (oD l x 0≠(x.i,Jb)) from by rw[jL];simp,zb];refine⟨fun hb=>⟨rfl,yB (.inl hb)⟩,fun hb=>?_⟩;obtain⟨b',o',mq,KM,amJ⟩:=sv2.el (AS 1 (by omega));have c1:=KM 1 (by omega);rw[show(Value.int .i64 1)=(.int .i64 ((1:Nat):Int)) from rfl,mq,za,zc,za,c1,show(yh (oD l x 1))[1]?=some (.string (oD l x 1).2) from rfl,za,Qm,za];refine⟨rfl,YF ⟨fun e=>.inr e,fun e=>?_⟩⟩;rcases e with e | e
    ·exact absurd e hb
    ·exact e
theorem Qx(h:Lk H d dv B L I l)(hf:GN H s fs)(lj:TX fs)(k:∀ H' s' ps,Ext H H'->oh H H' (.sl 251 2 s' (ps.map (fC 13)))->(ps=[]↔∀ x∈fs,¬ (x.f 0=2/\yQ l fs x))->R s' H'):Fc TP 156 #[zD d,s] H R:=by
 have uK:=hf.len;refine fn156 ?_;simp only[sh156,Ul,UL,UA,Ub,UI,Uf,Ui,Ug,Uo,Uv,YN,zm,za];refine(Lo.start _ H:Lx H H []).Oz fun p H1 e1 l1=>?_;have l1:Lx H H1 [yJ p 13 []]:=l1;simp only[zl,zc,aR,bH,Nat.reduceAdd,za];refine zF.mk (fun t H'=>∃ (i:Nat) (ps:List Int),i<=fs.length/\t=(zg i,())/\ps.length<=i/\(ps=[]↔∀ y∈fs.take i,¬ (y.f 0=2/\yQ l fs y))/\Lx H H' [yJ p 13 ps])
  (fun t _=>mi t.1 fun i=>(fs.length - i).toNat) ⟨0,[],by omega,rfl,by simp,by simp,l1⟩ ?_
 rintro _ H2 ⟨i,ps,hi,rfl,nX,r8,l2⟩;rw[hf.row.j9 Ya,za,bR,zk,za,zb];refine⟨fun kc=>?_,fun lA=>?_⟩
 ·have kI:i<fs.length:=by omega
  have lP:(fs.map lQ)[i]?=some (lQ fs[i]):=by rw[dR,bU kI];rfl
  have mR:fs.take (i+1)=fs.take i++[fs[i]]:=fU kI;have kL:fs[i]∈fs:=ju kI;generalize fs[i]=x at lP mR kL;have kH:=sX (y:=x) (ys:=[]) r8;rw[<- mR]at kH;obtain⟨b,o,ha,lI,kE⟩:=(hf.ext l2.iZ).row.el lP;have hr:=kE 0 18 (by omega);rw[bH,qI (c:=lQ x) (n:=18) rfl]at hr;rw[ha,za,zc,za,zc,za,bH,lI 1 (by omega),show(lQ x)[1]?=some (.int .u16 (x.f 0)) from rfl,za,zp,za,zb];refine⟨fun hk=>?_,fun hk=>?_⟩
  ·have hk:x.f 0=2:=by omega
   rw[za,hr,za];refine Lv (h.ext l2.iZ) (hf.ext l2.iZ) kL ((lj x kL).2 hk) fun H3 e3=>?_;have l3:=l2.ext e3;rw[zb];refine⟨fun hb=>?_,fun hb=>?_⟩
   ·obtain⟨b,o,mq,lI,kE⟩:=(hf.ext l3.iZ).row.el lP;have h0:=lI 0 (by omega);rw[bH]at h0;rw[<- ha .i64,mq .i64,za,zc,za,bH,h0,show(lQ x)[0]?=some (zg x.i) from rfl,za];obtain⟨O,ho,st⟩:=l3.call (i:=0) rfl;refine rM ho (by omega) fun mN LH JG jZ hle Dy KQ=>?_;have lO:=st mN _ LH Dy KQ;rw[ze,za,zE,zr (by omega)];refine⟨⟨i+1,JG,by omega,rfl,by omega,?_,lO⟩,by simp only[zu];omega⟩;rw[<- kH];exact⟨fun e=>absurd e jZ,fun e=>absurd ⟨hk,hb⟩ e.2⟩
   ·rw[ze,za,zE,zr (by omega)];refine⟨⟨i+1,ps,by omega,rfl,by omega,?_,l3⟩,by simp only[zu];omega⟩;rw[<- kH];exact⟨fun e=>⟨e,fun e2=>hb e2.2⟩,fun e=>e.1⟩
  ·rw[ze,za,zE,zr (by omega)];refine⟨⟨i+1,ps,by omega,rfl,by omega,?_,l2⟩,by simp only[zu];omega⟩;rw[<- kH];exact⟨fun e=>⟨e,fun e2=>hk (by omega)⟩,fun e=>e.1⟩
 ·have ei:i=fs.length:=by omega
  subst ei;rw[jk]at r8;obtain⟨s',hg,pO⟩:=l2.xU (i:=0) rfl;rw[zi hg];show Pu (some s') _;rw[za];exact k H2 s' ps l2.iZ (pO.nY (i:=0) rfl) r8
theorem VQ(h:Lk H d dv B L I l)(hf:GN H s fs)(lj:TX fs)(k:∀ H' s',Ext H H'->oh H H' (.sl 262 2 s' ((yS l fs).map DR))->R s' H'):Fc TP 157 #[zD d,s] H R:=by
 have uK:=hf.len;refine fn157 ?_;simp only[sh157,Ul,UL,UA,Ub,Ux,Uf,Ui,Ug,Uj,Uo,Uq,Uv,U1,zm];have l1:=(Lo.start _ H:Lx H H []).nt 262 2;refine zF.mk (fun t H'=>∃ (i:Nat) (v:Value),i<=fs.length/\t=(v,zg i,())/\Lx H H' [.sl 262 2 v ((yS l (fs.take i)).map DR)])
  (fun t _=>mi t.2.1 fun i=>(fs.length - i).toNat) ⟨0,.slice none 0 0,by omega,rfl,l1⟩ ?_
 rintro _ H2 ⟨i,v,hi,rfl,l2⟩;rw[hf.row.j9 Ya,za,bR,zk,za,zb];refine⟨fun kc=>?_,fun lA=>?_⟩
 ·have kI:i<fs.length:=by omega
  have lP:(fs.map lQ)[i]?=some (lQ fs[i]):=by rw[dR,bU kI];rfl
  have mR:fs.take (i+1)=fs.take i++[fs[i]]:=fU kI;have kL:fs[i]∈fs:=ju kI;have nX:=u5 l (fs:=fs.take i) fun y hy=>lj y (List.mem_of_mem_take hy);rw[mg]at nX;generalize fs[i]=x at lP mR kL;have kD:=hf.ok x kL;have hnx:=lj x kL;have lH:=hnx.1;have R7:yS l (fs.take (i+1))=yS l (fs.take i)++TZ l x:=by rw[mR,Kk,Kj]
  obtain⟨b,o,ha,lI,kE⟩:=(hf.ext l2.iZ).row.el lP;have hr:=kE 0 18 (by omega);rw[bH,qI (c:=lQ x) (n:=18) rfl]at hr;refine Zg.mk (fun t H'=>H'=H2/\t.1=.bool (decide (¬ xI x))) ?_ ?_
  ·rintro⟨t,u⟩ H3 ⟨rfl,ht⟩;simp only at ht;subst ht;rw[zb];refine⟨fun hb=>?_,fun hb=>?_⟩
   ·rw[ze,za,zE,zr (by omega)];refine⟨⟨i+1,v,by omega,rfl,?_⟩,by simp only[zu];omega⟩;rw[R7];unfold TZ;rw[aH hb,jY];exact l2
   ·have hb:=jh.1 hb;have hxx:TZ l x=T0 l x (x.f 2 / 16):=by unfold TZ;rw[aU hb]
    have h32:=hnx.2 hb.1 hb.2;rw[ha,za,hr,za];refine Ba (h.ext l2.iZ) ((hf.sub x kL).ext l2.iZ) (hf.M9 x kL) kD fun H4 sv e4 n4=>?_;have l4:=l2.new e4 n4;have hlen:((yd l x (x.f 2 / 16)).map yh).length=x.f 2 / 16:=by rw[bR,rq]
    have AS:∀ i,i<x.f 2 / 16->((yd l x (x.f 2 / 16)).map yh)[i]?=some (yh (oD l x i)):=fun i hi=>by rw[dR,uX l x hi];rfl
    have R8:∀ i,(oD l x i).1<65536:=fun i=>sS (v9 h.is x i);rw[show zq (.tuple #[sv,.bool (decide (qH l x (x.f 2 / 16)))]) 0=some sv from rfl,za,show zq (.tuple #[sv,.bool (decide (qH l x (x.f 2 / 16)))]) 1=some (.bool (decide (qH l x (x.f 2 / 16)))) from rfl,za];refine zF.mk (fun t H'=>∃ (j:Nat) (v:Value),2<=j/\j<=x.f 2 / 16/\t=(v,zg j,())/\Lx H H' [.sl 262 2 v ((yS l (fs.take i)++T0 l x j).map DR),.sl 241 2 sv ((yd l x (x.f 2 / 16)).map yh)])
     (fun t _=>mi t.2.1 fun j=>(((x.f 2 / 16:Nat):Int) - j).toNat) ⟨2,v,by omega,by omega,rfl,by rw[MB l x 2 (by omega),jY];exact l4⟩ ?_
    rintro _ H5 ⟨j,v5,hj1,hj2,rfl,l5⟩;have sv5:=(l5.sv (i:=1) rfl).sr;rw[sv5.j9 tH,za,hlen,zk,za,zb];refine⟨fun CJ=>?_,fun IC=>?_⟩
    ·obtain⟨b2,o2,uM,vt,_⟩:=sv5.el (AS j (by omega));have c0:=vt 0 (by omega);rw[bH,show(yh (oD l x j))[0]?=some (.int .u16 (oD l x j).1) from rfl]at c0;have agU:=R8 j;have CC:=wh l x j;have hle:=F3 l x j;rw[uM,za,zc,za,bH,c0,za,zn,za,zb];refine⟨fun jZ=>?_,fun he=>?_⟩
     ·rw[aU ⟨hj1,by omega⟩]at CC;obtain⟨b3,o3,Gn,CM,_⟩:=(hf.ext l5.iZ).row.el lP;have q0:=CM 0 (by omega);rw[bH]at q0;rw[<- ha .i64,Gn .i64,za,zc,za,bH,q0,show(lQ x)[0]?=some (zg x.i) from rfl,za,za,zc,za,bH,c0,za,zz,za,zr (by omega),Xl,za];refine l5.qY alL ahE (i:=0) rfl (by rfl) (by omega) (by omega) rfl (abR _) (by rw[bR,cR];omega) fun s' H6 l6=>?_;rw[ze,za,zE,zr (by omega)];refine⟨⟨j+1,s',by omega,by omega,rfl,?_⟩,by simp only[zu];omega⟩;rw[CC,<- jP,cU];exact l6
     ·rw[aH (fun e=>by omega),jY]at CC;rw[ze,za,zE,zr (by omega)];refine⟨⟨j+1,v5,by omega,by omega,rfl,?_⟩,by simp only[zu];omega⟩;rw[CC];exact l5
    ·have ej:j=x.f 2 / 16:=by omega
     subst ej;rw[ze,za,zE,zr (by omega)];refine⟨⟨i+1,v5,by omega,rfl,?_⟩,by simp only[zu];omega⟩;rw[R7,hxx];exact l5.takeN 1
  ·rw[ha,za,zc,za,zc,za,bH,lI 1 (by omega),show(lQ x)[1]?=some (.int .u16 (x.f 0)) from rfl,za,zn,za,zb];refine⟨fun hk=>⟨rfl,yB fun e=>hk (by have:=e.1;omega)⟩,fun hk=>?_⟩;rw[za,zc,za,zc,za,lI 2 (by omega),show(lQ x)[2]?=some (.int .u16 (x.f 1)) from rfl,za,zp,za];refine⟨rfl,YF ⟨fun e e2=>e2.2 (by omega),fun e=>?_⟩⟩;by_cases e2:x.f 1=0
   ·omega
   ·exact absurd ⟨by omega,e2⟩ e
 ·have ei:i=fs.length:=by omega
  subst ei;rw[jk]at l2;exact k H2 v l2.iZ (l2.nY (i:=0) rfl)
end
theorem wK{Q:Nat->Prop}(h:∃ m,Q m):∃ m,Q m/\∀ k,Q k->m<=k:=by
 obtain⟨m,hm⟩:=h;induction m using Nat.strongRecOn with
 | _ m ih=>
  by_cases h2:∃ k,k<m/\Q k
  ·obtain⟨k,hk,hq⟩:=h2;exact ih k hk hq
  ·exact⟨m,hm,fun k hk=>Nat.le_of_not_lt fun kc=>h2 ⟨k,kc,hk⟩⟩
noncomputable def Cr(Q:Nat->Prop):Nat:=if h:∃ m,Q m then Classical.choose (wK h) else 0
theorem EG{Q:Nat->Prop}{m:Nat}(h:Q m):Q (Cr Q)/\Cr Q<=m:=by
 have h0:∃ m,Q m:=⟨m,h⟩;unfold Cr;rw[dif_pos h0];obtain⟨h1,h2⟩:=Classical.choose_spec (wK h0);exact⟨h1,h2 m h⟩
def nq(ns:List Nm)(a:Nat):Nat × Nat:=ns.foldl (fun p x=>if x.2=a then(x.1,p.2+1) else p) (0,0)
theorem Ey(ns:List Nm)(x:Nm)(a:Nat):nq (ns++[x]) a=if x.2=a then(x.1,(nq ns a).2+1) else nq ns a:=by
 unfold nq;rw[List.foldl_append];rfl
theorem tN(ns:List Nm)(a:Nat):∀ n,n<=ns.length->(nq (ns.take n) a).2<=n
 | 0,_=>by simp[nq]
 | n+1,h=>by
  have ih:=tN ns a n (by omega);rw[fU (by omega),Ey];split
  ·show(nq (ns.take n) a).2+1<=n+1;omega
  ·omega
noncomputable def Az(fs:List Fl)(a:Nat):Nat:=((fs.find? fun x=>decide (x.i=a)).map (·.f 0)).getD 0
inductive DG (ns:List Nm):Nat->Prop where
 | root:DG ns 1
 | step {y:Nm}:y∈ns->DG ns y.1->DG ns y.2
def bC(b:Bool):Array Value:=#[.bool b]
def bN(c:Nat->Bool)(n:Nat):List (Array Value):=(List.range n).map fun b=>bC (c b)
theorem Ly(c:Nat->Bool)(n:Nat):(bN c n).length=n:=by simp[bN]
theorem Ak{c:Nat->Bool}{n b:Nat}(h:b<n):(bN c n)[b]?=some (bC (c b)):=by
 unfold bN;rw[dR,kN h];rfl
theorem TO(c:Nat->Bool)(n y:Nat):(bN c n).set y (bC true)=bN (fun b=>if b=y then true else c b) n:=by
 apply ku;intro b;by_cases hb:b<n
 ·rw[Ak hb];by_cases e:y=b
  ·subst e;rw[jX (by rw[Ly];exact hb),aU rfl]
  ·rw[jy e,Ak hb,aH (Ne.symm e)]
 ·rw[eR (by rw[lV,Ly];omega),eR (by rw[Ly];omega)]
theorem TQ(n:Nat):bN (fun _=>false) n=List.replicate n #[.bool false]:=by
 unfold bN;apply ku ;intro b;by_cases hb:b<n
 ·rw[dR,kN hb,mE,aU hb];rfl
 ·rw[eR (by simp;omega),eR (by simp;omega)]
def oR(c:Nat->Bool):Nat->Nat
 | 0=>0
 | n+1=>oR c n+if c n then 0 else 1
theorem EF(c:Nat->Bool){y:Nat}(hy:c y=false):∀ n,y<n->oR (fun b=>if b=y then true else c b) n+1=oR c n
 | 0,h=>by omega
 | n+1,h=>by
  have e1:oR (fun b=>if b=y then true else c b) (n+1)=oR (fun b=>if b=y then true else c b) n+if (if n=y then true else c n) then 0 else 1:=rfl;have e2:oR c (n+1)=oR c n+if c n then 0 else 1:=rfl;rw[e1,e2];by_cases hn:n=y
  ·subst hn;rw[aU rfl,aU rfl,hy];have key:∀ m,m<=n->oR (fun b=>if b=n then true else c b) m=oR c m:=by
    intro m;induction m with
    | zero=>intro _;rfl
    | succ m ih=>
     intro hm;show oR (fun b=>if b=n then true else c b) m+(if (if m=n then true else c m) then 0 else 1)=oR c m+if c m then 0 else 1;rw[ih (by omega),show(if m=n then true else c m)=c m from aH (by omega)]
   rw[key n (iU _)];simp
  ·rw[aH hn];have:=EF c hy n (by omega);omega
section
variable{H:Hp}{R:Value->Hp->Prop}{d:Nat}{dv:Value}{B L I:Int}{l:List (Int × jn)}{s nv:Value}{fs:List Fl}{ns:List Nm}
theorem HK(hn:Sr 2 H nv (ns.map DR))(hlen:ns.length<1099511627776){a:Nat}(k:R (.tuple #[zg (nq ns a).1,zg (nq ns a).2]) H):Fc TP 186 #[nv,zg a] H R:=by
 refine fn186 ?_;simp only[sh186,Ul,UA,Ub,Ui,Ug,Uo,Uv,zm];refine zF.mk (fun t H'=>H'=H/\∃ i:Nat,i<=ns.length/\t=(zg (nq (ns.take i) a).1,zg (nq (ns.take i) a).2,zg i,())) (fun t _=>mi t.2.2.1 fun i=>(ns.length - i).toNat) ⟨rfl,0,by omega,rfl⟩ ?_;rintro _ H3 ⟨rfl,i,hi,rfl⟩;rw[hn.j9 JR,za,bR,zk,za,zb];refine⟨fun kc=>?_,fun lA=>?_⟩
 ·have kI:i<ns.length:=by omega
  have lP:(ns.map DR)[i]?=some (DR ns[i]):=by rw[dR,bU kI];rfl
  have mR:ns.take (i+1)=ns.take i++[ns[i]]:=fU kI;have hle:=tN ns a i (by omega);generalize ns[i]=x at lP mR;have CE:=Ey (ns.take i) x a;rw[<- mR]at CE;obtain⟨b,o,ha,lI,_⟩:=hn.el lP;have c0:=lI 0 (by omega);rw[bH]at c0;rw[ha,za,zc,za,lI 1 (by omega),show(DR x)[1]?=some (zg x.2) from rfl,za,zp,za,zb];refine⟨fun he=>?_,fun jZ=>?_⟩
  ·rw[aU (by omega)]at CE;rw[za,zc,za,bH,c0,show(DR x)[0]?=some (zg x.1) from rfl,za,ze,za,zE,zr (by omega),ze,za,zE,zr (by omega)];refine⟨⟨rfl,i+1,by omega,?_⟩,by simp only[zu];omega⟩;rw[CE];rfl
  ·rw[aH (by omega)]at CE;rw[ze,za,zE,zr (by omega)];refine⟨⟨rfl,i+1,by omega,?_⟩,by simp only[zu];omega⟩;rw[CE];rfl
 ·have ei:i=ns.length:=by omega
  subst ei;rw[jk];exact k
theorem acf(hf:GN H s fs){a:Nat}(k:R (.int .u16 (Az fs a)) H):Fc TP 187 #[s,zg a] H R:=by
 have uK:=hf.len;refine fn187 ?_;simp only[sh187,Ul,UA,Ub,Ui,Ug,Uo,Uv,zm];refine zF.mk (fun t H'=>H'=H/\∃ i:Nat,i<=fs.length/\t=(zg i,())/\∀ x∈fs.take i,x.i≠a) (fun t _=>mi t.1 fun i=>(fs.length - i).toNat) ⟨rfl,0,by omega,rfl,by simp⟩ ?_;rintro _ H3 ⟨rfl,i,hi,rfl,kG⟩;rw[hf.row.j9 Ya,za,bR,zk,za,zb];refine⟨fun kc=>?_,fun lA=>?_⟩
 ·have kI:i<fs.length:=by omega
  have lP:(fs.map lQ)[i]?=some (lQ fs[i]):=by rw[dR,bU kI];rfl
  have mR:fs.take (i+1)=fs.take i++[fs[i]]:=fU kI;have AV:fs.drop i=fs[i] :: fs.drop (i+1):=jF kI;generalize fs[i]=x at lP mR AV;obtain⟨b,o,ha,lI,_⟩:=hf.row.el lP;have h0:=lI 0 (by omega);rw[bH]at h0;rw[ha,za,zc,za,bH,h0,show(lQ x)[0]?=some (zg x.i) from rfl,za,zp,za,zb];refine⟨fun he=>?_,fun jZ=>?_⟩
  ·rw[za,zc,za,zc,za,bH,lI 1 (by omega),show(lQ x)[1]?=some (.int .u16 (x.f 0)) from rfl,za];have e:Az fs a=x.f 0:=by
    unfold Az;rw[show fs=fs.take i++fs.drop i from(nf i fs).symm,jH,j0.2 (fun y hy=>by simpa using kG y hy),AV,jT (by simpa using (by omega:x.i=a))];rfl
   rw[<- e];exact k
  ·rw[ze,za,zE,zr (by omega)];refine⟨⟨rfl,i+1,by omega,rfl,fun y hy=>?_⟩,by simp only[zu];omega⟩;rw[mR]at hy;rcases fH.1 hy with h1 | h1
   ·exact kG y h1
   ·rw[eU.1 h1];omega
 ·have ei:i=fs.length:=by omega
  subst ei;rw[jk]at kG;have e:Az fs a=0:=by
   unfold Az;rw[j0.2 (fun y hy=>by simpa using kG y hy)];rfl
  rw[e]at k;exact k
theorem NP(h:Lk H d dv B L I l)(hn:Sr 2 H nv (ns.map DR))(hlen:ns.length<1099511627776)(o8:∀ y∈ns,(y.1:Int)<=I/\(y.2:Int)<=I)(k:∀ H' s',Ext H H'->oh H H' (.sl 4 1 s' (bN (fun i=>decide (DG ns i)) (I.toNat+1)))->R s' H'):Fc TP 185 #[zD d,nv] H R:=by
 obtain⟨xP,xO,wI,xQ,vP,vO,gD⟩:=id h.ok;have hI:(zf B L I).I=I:=rfl;obtain⟨In,eI⟩:∃ In:Nat,I=In:=⟨I.toNat,by omega⟩;have eIt:I.toNat=In:=by omega
 rw[eIt]at k;refine fn185 ?_;simp only[sh185,Ul,UA,Us,Ub,UI,Ui,Ug,Uu,Uj,Uo,Uv,U1,U0,zm,zl,zc,aR,bH,Nat.reduceAdd,za];rw[zi h.top,V5,za,hI,eI,ze,za,zE,zr (by omega)];refine(Lo.start _ H:Lx H H []).make adE S5 (by omega) (by omega) (by omega) fun b0 H1 _ l1=>?_;rw[S4,<- TQ]at l1;generalize hsv:Value.slice (some ⟨b0,0,none⟩) (In+1) (In+1)=sv at l1;have l1:Lx H H1 [.sl 4 1 sv (bN (fun _=>false) (In+1))]:=l1;refine l1.abx (i:=0) (j:=1) (u:=.bool true) rfl (Ak (by omega)) (by unfold zv;rw[<- iV];rfl) rfl rfl fun H2 l2=>?_;have l2:Lx H H2 [.sl 4 1 sv (bN (fun b=>if b=1 then true else false) (In+1))]:=by rw[<- TO];exact l2
 let Q:Bw 1->Hp->Nat->Prop:=fun t H' m=>∃ (mo:Bool) (c:Nat->Bool),t=(.bool mo,())/\m=2*oR c (In+1)+(if mo then 1 else 0)/\c 1=true/\(∀ i,c i=true->DG ns i)/\(mo=false->∀ y∈ns,c y.1=true->c y.2=true)/\Lx H H' [.sl 4 1 sv (bN c (In+1))]
 refine zF.mk (fun t H'=>∃ m,Q t H' m) (fun t H'=>Cr (Q t H')) ⟨_,true,(fun b=>if b=1 then true else false),rfl,rfl,rfl,fun i hi=>?_,fun e=>(by cases e),l2⟩ ?_
 ·have:i=1:=by
   by_cases e:i=1
   ·exact e
   ·simp[e]at hi
  rw[this];exact .root
 rintro t H3 ⟨m,hm⟩;obtain⟨hq,-⟩:=EG hm;generalize Cr (Q t H3)=m0 at hq;obtain⟨mo,c,rfl,em,h1,hc,hmo,l3⟩:=hq;rw[Zj];refine⟨fun e=>?_,fun e=>?_⟩
 ·subst e;rw[aU rfl]at em;refine zF.mk (fun t H'=>∃ (j:Nat) (mo:Bool) (c':Nat->Bool),j<=ns.length/\t=(.bool mo,zg j,())/\c' 1=true/\(∀ i,c' i=true->DG ns i)/\oR c' (In+1)+(if mo then 1 else 0)<=oR c (In+1)/\(mo=false->∀ y∈ns.take j,c' y.1=true->c' y.2=true)/\Lx H H' [.sl 4 1 sv (bN c' (In+1))])
   (fun t _=>mi t.2.1 fun j=>(ns.length - j).toNat) ⟨0,false,c,by omega,rfl,h1,hc,by simp,by simp,l3⟩ ?_
  rintro _ H4 ⟨j,mo,c',hj,rfl,SE,Ot,hle,kH,l4⟩;have hn4:=hn.ext l4.iZ;rw[hn4.j9 JR,za,bR,zk,za,zb];refine⟨fun kc=>?_,fun lA=>?_⟩
  ·have kI:j<ns.length:=by omega
   have lP:(ns.map DR)[j]?=some (DR ns[j]):=by rw[dR,bU kI];rfl
   have mR:ns.take (j+1)=ns.take j++[ns[j]]:=fU kI;have kL:ns[j]∈ns:=ju kI;generalize ns[j]=y at lP mR kL;have hy:=o8 y kL;obtain⟨b,o,ha,lI,_⟩:=hn4.el lP;have c0:=lI 0 (by omega);rw[bH,show(DR y)[0]?=some (zg y.1) from rfl]at c0;have c1:=lI 1 (by omega);rw[show(DR y)[1]?=some (zg y.2) from rfl]at c1;have hg1:=Ak (c:=c') (n:=In+1) (b:=y.1) (by omega);have hg2:=Ak (c:=c') (n:=In+1) (b:=y.2) (by omega);refine Zg.mk (fun t H'=>H'=H4/\t.1=.bool (c' y.1 && !c' y.2)) ?_ ?_
   ·rintro⟨t,u⟩ H5 ⟨rfl,ht⟩;simp only at ht;subst ht;rw[Zj];refine⟨fun hb=>?_,fun hb=>?_⟩
    ·rw[jd,Bool.not_eq_true']at hb;rw[ha,za,zc,za,c1,za];refine l4.abx (i:=0) (u:=.bool true) rfl hg2 (by unfold zv;rw[<- iV];rfl) rfl rfl fun H6 l6=>?_;have l6:Lx H H6 [.sl 4 1 sv (bN (fun b=>if b=y.2 then true else c' b) (In+1))]:=by rw[<- TO];exact l6
     have hlf:=EF c' hb.2 (In+1) (by omega);rw[ze,za,zE,zr (by omega)];refine⟨⟨j+1,true,_,by omega,rfl,?_,fun i hi=>?_,?_,fun e=>(by cases e),l6⟩,by simp only[zu];omega⟩
     ·by_cases e:1=y.2
      ·rw[aU e]
      ·rw[aH e];exact SE
     ·by_cases e:i=y.2
      ·rw[e];exact .step kL (Ot _ hb.1)
      ·rw[aH e]at hi;exact Ot i hi
     ·simp only[jO];split at hle<;>omega
    ·rw[ze,za,zE,zr (by omega)];refine⟨⟨j+1,mo,c',by omega,rfl,SE,Ot,hle,fun e z hz RZ=>?_,l4⟩,by simp only[zu];omega⟩;rw[mR]at hz;rcases fH.1 hz with h3 | h3
     ·exact kH e z h3 RZ
     ·rw[eU.1 h3]at RZ ⊢;rw[RZ]at hb;simpa using hb
   ·have svr:=(l4.sv (i:=0) rfl).sr;obtain⟨b1,o1,wH,Sw,_⟩:=svr.el hg1;have d0:=Sw 0 (by omega);rw[bH,show(bC (c' y.1))[0]?=some (.bool (c' y.1)) from rfl]at d0;rw[ha,za,zc,za,bH,c0,za,wH,za,d0,za,Zj];refine⟨fun hb=>?_,fun hb=>⟨rfl,by rw[hb];rfl⟩⟩;obtain⟨b2,o2,uM,vt,_⟩:=svr.el hg2;have d1:=vt 0 (by omega);rw[bH,show(bC (c' y.2))[0]?=some (.bool (c' y.2)) from rfl]at d1;rw[za,zc,za,c1,za,uM,za,d1,za,zx,za];exact⟨rfl,by rw[hb];rfl⟩
  ·have ej:j=ns.length:=by omega
   subst ej;rw[jk]at kH;have hq:Q (.bool mo,()) H4 (2*oR c' (In+1)+(if mo then 1 else 0)):=⟨mo,c',rfl,rfl,SE,Ot,kH,l4⟩;refine⟨⟨_,hq⟩,Nat.lt_of_le_of_lt (EG hq).2 ?_⟩;rw[em];split at hle<;>simp_all<;>omega
 ·have e2:bN c (In+1)=bN (fun i=>decide (DG ns i)) (In+1):=by
   have:c=fun i=>decide (DG ns i):=by
    funext i;rw[jL,iS];refine⟨hc i,fun hr=>?_⟩;induction hr with
    | root=>exact h1
    | step hy _ ih=>exact hmo e _ hy ih
   rw[this]
  rw[e2]at l3;exact k H3 sv l3.iZ (l3.nY (i:=0) rfl)
end
def y9(l:List (Int × jn))(ns:List Nm)(x:Fl):Prop:=
 xI x/\if x.i=1 then(nq ns 1).2≠0\/(oD l x 1).1≠1 else(nq ns x.i).2≠1\/(oD l x 1).1≠(nq ns x.i).1\/¬ DG ns x.i
noncomputable def BJ(fs:List Fl)(a:Nat)(ns:List Nm):Nat:=ns.countP fun y=>decide (y.1=a/\Az fs y.2=2)
theorem JV(fs:List Fl)(a:Nat)(ns:List Nm)(y:Nm):BJ fs a (ns++[y])=BJ fs a ns+if y.1=a/\Az fs y.2=2 then 1 else 0:=by
 unfold BJ;rw[List.countP_append,List.countP_singleton];simp only[iS]
theorem Ql(fs:List Fl)(a:Nat)(ns:List Nm):BJ fs a ns<=ns.length:=List.countP_le_length
noncomputable def vd(fs:List Fl)(ns:List Nm)(x:Fl):Nat:=if xI x then 2+BJ fs x.i ns else(nq ns x.i).2
theorem G5:ZZ TP 192=some (.agg (lQ ⟨0,fun _=>0,.slice none 0 0,[]⟩)):=by kernel_rfl
section
variable{H:Hp}{R:Value->Hp->Prop}{d:Nat}{dv:Value}{B L I:Int}{l:List (Int × jn)}{s nv:Value}{fs:List Fl}{ns:List Nm}
theorem GN.okC(hf:GN H s fs){x:Fl}(hx:x∈fs):zv (lQ x):=by
 obtain⟨b,c,e⟩:=(hf.sub x hx).len;exact Gr e
theorem aa8(h:Lk H d dv B L I l)(hf:GN H s fs)(lj:TX fs)(hI:∀ x∈fs,(x.i:Int)<=I)(hn:Sr 2 H nv (ns.map DR))(hlen:ns.length<1099511627776)(o8:∀ y∈ns,(y.1:Int)<=I/\(y.2:Int)<=I)(k:∀ H' s' ps,Ext H H'->oh H H' (.sl 251 2 s' (ps.map (fC 14)))->(ps=[]↔∀ x∈fs,¬ y9 l ns x)->R s' H'):Fc TP 158 #[zD d,s,nv] H R:=by
 have uK:=hf.len;obtain⟨xP,xO,wI,xQ,vP,vO,gD⟩:=id h.ok;refine fn158 ?_;simp only[sh158,Ul,UL,UA,Us,Ub,Uz,Ux,UI,Uf,Ui,Ug,Uu,Uj,Uo,Uv,U1,YN,G5,zm,za];refine(Lo.start _ H:Lx H H []).Oz fun p H1 e1 l1=>?_;refine NP (h.ext l1.iZ) (hn.ext l1.iZ) hlen o8 fun H2 rv e2 n2=>?_;have l2:Lx H H2 [yJ p 14 [],.sl 4 1 rv (bN (fun i=>decide (DG ns i)) (I.toNat+1))]:=l1.new e2 n2;refine zF.mk (fun t H'=>∃ (i:Nat) (ps:List Int),i<=fs.length/\t=(zg i,())/\ps.length<=i/\(ps=[]↔∀ y∈fs.take i,¬ y9 l ns y)/\Lx H H' [yJ p 14 ps,.sl 4 1 rv (bN (fun i=>decide (DG ns i)) (I.toNat+1))])
  (fun t _=>mi t.1 fun i=>(fs.length - i).toNat) ⟨0,[],by omega,rfl,by simp,by simp,l2⟩ ?_
 rintro _ H3 ⟨i,ps,hi,rfl,nX,r8,l3⟩;rw[hf.row.j9 Ya,za,bR,zk,za,zb];refine⟨fun kc=>?_,fun lA=>?_⟩
 ·have kI:i<fs.length:=by omega
  have lP:(fs.map lQ)[i]?=some (lQ fs[i]):=by rw[dR,bU kI];rfl
  have mR:fs.take (i+1)=fs.take i++[fs[i]]:=fU kI;have kL:fs[i]∈fs:=ju kI;generalize fs[i]=x at lP mR kL;have kH:=sX (y:=x) (ys:=[]) r8;rw[<- mR]at kH;have hxI:=hI x kL;have hnx:=lj x kL;obtain⟨b,o,ha,lI,kE⟩:=(hf.ext l3.iZ).row.el lP;have hr:=kE 0 18 (by omega);rw[bH,qI (c:=lQ x) (n:=18) rfl]at hr;have f0:(lQ x)[0]?=some (zg x.i):=rfl;have f1:(lQ x)[1]?=some (.int .u16 (x.f 0)):=rfl;have f2:(lQ x)[2]?=some (.int .u16 (x.f 1)):=rfl;rw[ha,za,hr,za];refine l3.jc fun b1 H4 _ l4=>?_;refine l4.jE (i:=2) (vs:=lQ x) rfl rfl rfl (hf.okC kL) fun H5 l5=>?_;have l5:Lx H H5 [yJ p 14 ps,.sl 4 1 rv (bN (fun i=>decide (DG ns i)) (I.toNat+1)),.box b1 (lQ x) 192]:=l5;simp only[zl,zc,aR,bH,Nat.reduceAdd,za];have Gb:∀ {H':Hp} {l':List Ob},¬ y9 l ns x->Lx H H' ([yJ p 14 ps,.sl 4 1 rv (bN (fun i=>decide (DG ns i)) (I.toNat+1))]++l')->Pu (z8 (some (.int .i64)) .add (zg i) (.int .i64 1)) fun TY=>(fun(t:Bw 1) H'=>(∃ (i:Nat) (ps:List Int),i<=fs.length/\t=(zg i,())/\ps.length<=i/\(ps=[]↔∀ y∈fs.take i,¬ y9 l ns y)/\Lx H H' [yJ p 14 ps,.sl 4 1 rv (bN (fun i=>decide (DG ns i)) (I.toNat+1))])/\mi t.1 (fun i=>(fs.length - i).toNat)<mi (zg i) (fun i=>(fs.length - i).toNat)) (TY,()) H':=by
   intro H' l' hb l6;rw[ze,za,zE i,zr (v:=i+1) (by omega)];refine⟨⟨i+1,ps,by omega,rfl,by omega,?_,l6.take⟩,by simp only[zu];omega⟩;rw[<- kH];exact⟨fun e=>⟨e,hb⟩,fun e=>e.1⟩
  have more:∀ {H':Hp} {l':List Ob} {n:Int},y9 l ns x->Lx H H' ([yJ p 14 ps,.sl 4 1 rv (bN (fun i=>decide (DG ns i)) (I.toNat+1))]++l')->Fc TP 180 #[zD p,zg n] H' fun _ oZ=>Pu (z8 (some (.int .i64)) .add (zg i) (.int .i64 1)) fun TY=>(fun(t:Bw 1) H'=>(∃ (i:Nat) (ps:List Int),i<=fs.length/\t=(zg i,())/\ps.length<=i/\(ps=[]↔∀ y∈fs.take i,¬ y9 l ns y)/\Lx H H' [yJ p 14 ps,.sl 4 1 rv (bN (fun i=>decide (DG ns i)) (I.toNat+1))])/\mi t.1 (fun i=>(fs.length - i).toNat)<mi (zg i) (fun i=>(fs.length - i).toNat)) (TY,()) oZ:=by
   intro H' l' n hb l6;obtain⟨O,ho,st⟩:=(l6.take).call (i:=0) rfl;refine rM ho (by omega) fun mN LH JG jZ hle Dy KQ=>?_;have lO:=st mN _ LH Dy KQ;rw[ze,za,zE i,zr (v:=i+1) (by omega)];refine⟨⟨i+1,JG,by omega,rfl,by omega,?_,lO⟩,by simp only[zu];omega⟩;rw[<- kH];exact⟨fun e=>absurd e jZ,fun e=>absurd hb e.2⟩
  refine Zg.mk (fun t H'=>H'=H5/\t.1=.bool (decide (¬ xI x))) ?_ ?_
  ·rintro⟨t,u⟩ H6 ⟨rfl,ht⟩;simp only at ht;subst ht;rw[zb];refine⟨fun hb=>Gb (l':=[_]) (fun e=>hb e.1) l5,fun hb=>?_⟩;have hb:=jh.1 hb;have h32:=hnx.2 hb.1 hb.2;rw[l5.je (i:=2) (n:=18) rfl rfl,za];refine Ba (h.ext l5.iZ) ((hf.sub x kL).ext l5.iZ) (hf.M9 x kL) (hf.ok x kL) fun H7 sv e7 n7=>?_;have l7:=l5.new e7 n7;have l7:Lx H H7 [yJ p 14 ps,.sl 4 1 rv (bN (fun i=>decide (DG ns i)) (I.toNat+1)),.box b1 (lQ x) 192,.sl 241 2 sv ((yd l x (x.f 2 / 16)).map yh)]:=l7;have AS:((yd l x (x.f 2 / 16)).map yh)[1]?=some (yh (oD l x 1)):=by rw[dR,uX l x (by omega)];rfl
   have agU:(oD l x 1).1<65536:=sS (v9 h.is x 1);obtain⟨b2,o2,uM,vt,_⟩:=(l7.sv (i:=3) rfl).sr.el AS;have c0:=vt 0 (by omega);rw[bH,show(yh (oD l x 1))[0]?=some (.int .u16 (oD l x 1).1) from rfl]at c0;rw[show zq (.tuple #[sv,.bool (decide (qH l x (x.f 2 / 16)))]) 0=some sv from rfl,za,show zq (.tuple #[sv,.bool (decide (qH l x (x.f 2 / 16)))]) 1=some (.bool (decide (qH l x (x.f 2 / 16)))) from rfl,za];rw[l7.ld (i:=2) rfl,f0,za];refine HK (hn.ext l7.iZ) hlen ?_;have hpt:=tN ns x.i ns.length (iU _);rw[jk]at hpt;rw[show zq (.tuple #[zg (nq ns x.i).1,zg (nq ns x.i).2]) 0=some (zg (nq ns x.i).1) from rfl,za,show zq (.tuple #[zg (nq ns x.i).1,zg (nq ns x.i).2]) 1=some (zg (nq ns x.i).2) from rfl,za,l7.ld (i:=2) rfl,f0,za,zp,za,zb];refine⟨fun XZ=>?_,fun XZ=>?_⟩
   ·have XZ:x.i=1:=by omega
    have WC:y9 l ns x↔(nq ns x.i).2≠0\/(oD l x 1).1≠1:=by
     unfold y9;rw[aU XZ,XZ];exact⟨fun e=>e.2,fun e=>⟨hb,e⟩⟩
    refine Zg.mk (fun t H'=>H'=H7/\t.1=.bool (decide (y9 l ns x))) ?_ ?_
    ·rintro⟨t,u⟩ H8 ⟨rfl,ht⟩;simp only at ht;subst ht;rw[zb];exact⟨fun Um=>more (l':=[_,_]) (n:=1) Um l7,fun Um=>Gb (l':=[_,_]) Um l7⟩
    ·rw[zn,za,zb];refine⟨fun h0=>⟨rfl,yB (WC.2 (.inl (by omega)))⟩,fun h0=>?_⟩;have wH:zG (some (none,2)) sv (.int .i64 1)=some (.pointer (some ⟨b2,o2,none⟩)):=uM .i64;rw[wH,za,zc,za,bH,c0,za,zn,za];refine⟨rfl,YF ⟨fun e=>WC.2 (.inr (by omega)),fun e=>?_⟩⟩;rcases WC.1 e with e | e<;>omega
   ·have XZ:x.i≠1:=by omega
    have WC:y9 l ns x↔(nq ns x.i).2≠1\/(oD l x 1).1≠(nq ns x.i).1\/¬ DG ns x.i:=by
     unfold y9;rw[aH XZ];exact⟨fun e=>e.2,fun e=>⟨hb,e⟩⟩
    refine Zg.mk (fun t H'=>H'=H7/\t.1=.bool (decide (y9 l ns x))) ?_ ?_
    ·rintro⟨t,u⟩ H8 ⟨rfl,ht⟩;simp only at ht;subst ht;rw[zb];refine⟨fun Um=>?_,fun Um=>Gb (l':=[_,_]) Um l7⟩;rw[l7.ld (i:=2) rfl,f0,za];exact more (l':=[_,_]) (n:=x.i) Um l7
    ·rw[zn,za,zb];refine⟨fun h0=>⟨rfl,yB (WC.2 (.inl (by omega)))⟩,fun h0=>?_⟩;have wH:zG (some (none,2)) sv (.int .i64 1)=some (.pointer (some ⟨b2,o2,none⟩)):=uM .i64;rw[wH,za,zc,za,bH,c0,za,zz,za,zr (by omega),zn,za,zb];refine⟨fun h3=>⟨rfl,yB (WC.2 (.inr (.inl (by omega))))⟩,fun h3=>?_⟩;have hgr:=Ak (c:=fun i=>decide (DG ns i)) (n:=I.toNat+1) (b:=x.i) (by omega);obtain⟨b4,o4,PO,ald,_⟩:=(l7.sv (i:=1) rfl).sr.el hgr;have d0:=ald 0 (by omega);rw[bH,show(bC (decide (DG ns x.i)))[0]?=some (.bool (decide (DG ns x.i))) from rfl]at d0;rw[za,PO,za,d0,za,zx,za];refine⟨rfl,?_⟩;show Value.bool (!decide (DG ns x.i))=_;congr 1;rw[jL,iS,WC];constructor
     ·intro e;exact .inr (.inr (by simpa using e))
     ·rintro(e | e | e)
      ·omega
      ·omega
      ·simpa using e
  ·rw[l5.ld (i:=2) rfl,f1,za,zn,za,zb];refine⟨fun hk=>⟨rfl,yB fun e=>hk (by have:=e.1;omega)⟩,fun hk=>?_⟩;rw[l5.ld (i:=2) rfl,f2,za,zp,za];refine⟨rfl,YF ⟨fun e e2=>e2.2 (by omega),fun e=>?_⟩⟩;by_cases e2:x.f 1=0
   ·omega
   ·exact absurd ⟨by omega,e2⟩ e
 ·have ei:i=fs.length:=by omega
  subst ei;rw[jk]at r8;obtain⟨s',hg,pO⟩:=l3.xU (i:=0) rfl;simp only[zl,zc,aR,bH,Nat.reduceAdd,za];rw[zi hg];show Pu (some s') _;rw[za];exact k H3 s' ps l3.iZ (pO.nY (i:=0) rfl) r8
theorem V6(hf:GN H s fs)(hn:Sr 2 H nv (ns.map DR))(hlen:ns.length<1099511627776)(k:∀ H' s' ps,Ext H H'->oh H H' (.sl 251 2 s' (ps.map (fC 15)))->(ps=[]↔∀ x∈fs,¬ x.f 1≠vd fs ns x)->R s' H'):Fc TP 159 #[zD d,s,nv] H R:=by
 have uK:=hf.len;refine fn159 ?_;simp only[sh159,Ul,UL,UA,Us,Ub,Uz,Ux,UI,Uf,Ui,Ug,Uj,Uo,Uv,U0,YN,G5,zm,za];refine(Lo.start _ H:Lx H H []).Oz fun p H1 e1 l1=>?_;have l1:Lx H H1 [yJ p 15 []]:=l1;refine zF.mk (fun t H'=>∃ (i:Nat) (ps:List Int),i<=fs.length/\t=(zg i,())/\ps.length<=i/\(ps=[]↔∀ y∈fs.take i,¬ y.f 1≠vd fs ns y)/\Lx H H' [yJ p 15 ps])
  (fun t _=>mi t.1 fun i=>(fs.length - i).toNat) ⟨0,[],by omega,rfl,by simp,by simp,l1⟩ ?_
 rintro _ H3 ⟨i,ps,hi,rfl,nX,r8,l3⟩;rw[hf.row.j9 Ya,za,bR,zk,za,zb];refine⟨fun kc=>?_,fun lA=>?_⟩
 ·have kI:i<fs.length:=by omega
  have lP:(fs.map lQ)[i]?=some (lQ fs[i]):=by rw[dR,bU kI];rfl
  have mR:fs.take (i+1)=fs.take i++[fs[i]]:=fU kI;have kL:fs[i]∈fs:=ju kI;generalize fs[i]=x at lP mR kL;have kH:=sX (y:=x) (ys:=[]) r8;rw[<- mR]at kH;obtain⟨b,o,ha,lI,kE⟩:=(hf.ext l3.iZ).row.el lP;have hr:=kE 0 18 (by omega);rw[bH,qI (c:=lQ x) (n:=18) rfl]at hr;have f0:(lQ x)[0]?=some (zg x.i):=rfl;have f1:(lQ x)[1]?=some (.int .u16 (x.f 0)):=rfl;have f2:(lQ x)[2]?=some (.int .u16 (x.f 1)):=rfl;have kD:=(hf.ok x kL) 1 (by omega);simp only[fw,Nat.reduceLT,jO,Nat.reducePow]at kD;rw[ha,za,hr,za];refine l3.jc fun b1 H4 _ l4=>?_;refine l4.jE (i:=1) (vs:=lQ x) rfl rfl rfl (hf.okC kL) fun H5 l5=>?_;have l5:Lx H H5 [yJ p 15 ps,.box b1 (lQ x) 192]:=l5;simp only[zl,zc,aR,bH,Nat.reduceAdd,za];rw[l5.ld (i:=1) rfl,f0,za];refine HK (hn.ext l5.iZ) hlen ?_;have hpt:=tN ns x.i ns.length (iU _);rw[jk]at hpt;rw[show zq (.tuple #[zg (nq ns x.i).1,zg (nq ns x.i).2]) 0=some (zg (nq ns x.i).1) from rfl,za,show zq (.tuple #[zg (nq ns x.i).1,zg (nq ns x.i).2]) 1=some (zg (nq ns x.i).2) from rfl,za];refine Zg.mk (fun t H'=>t.1=zg (vd fs ns x)/\Lx H H' [yJ p 15 ps,.box b1 (lQ x) 192]) ?_ ?_
  ·rintro⟨t,u⟩ H6 ⟨ht,l6⟩;simp only at ht;subst ht;rw[l6.ld (i:=1) rfl,f2,za,zz,za,zr (by omega),zn,za,zb];refine⟨fun hb=>?_,fun hb=>?_⟩
   ·rw[l6.ld (i:=1) rfl,f0,za];obtain⟨O,ho,st⟩:=(l6.takeN 1).call (i:=0) rfl;refine rM ho (by omega) fun mN LH JG jZ hle Dy KQ=>?_;have lO:=st mN _ LH Dy KQ;rw[ze,za,zE,zr (by omega)];refine⟨⟨i+1,JG,by omega,rfl,by omega,?_,lO⟩,by simp only[zu];omega⟩;rw[<- kH];exact⟨fun e=>absurd e jZ,fun e=>absurd (by omega) e.2⟩
   ·rw[ze,za,zE,zr (by omega)];refine⟨⟨i+1,ps,by omega,rfl,by omega,?_,l6.takeN 1⟩,by simp only[zu];omega⟩;rw[<- kH];exact⟨fun e=>⟨e,by omega⟩,fun e=>e.1⟩
  ·refine Zg.mk (fun t H'=>H'=H5/\t.1=.bool (decide (xI x))) ?_ ?_
   ·rintro⟨t,u⟩ H6 ⟨rfl,ht⟩;simp only at ht;subst ht;rw[zb];refine⟨fun hb=>?_,fun hb=>?_⟩
    ·have T9:vd fs ns x=2+BJ fs x.i ns:=by unfold vd;rw[aU hb]
     refine zF.mk (fun t H'=>H'=H6/\∃ j:Nat,j<=ns.length/\t=(zg ((2+BJ fs x.i (ns.take j):Nat):Int),zg j,())) (fun t _=>mi t.2.1 fun j=>(ns.length - j).toNat) ⟨rfl,0,by omega,rfl⟩ ?_;rintro _ H7 ⟨rfl,j,hj,rfl⟩;have hn7:=hn.ext l5.iZ;rw[hn7.j9 JR,za,bR,zk,za,zb];refine⟨fun CJ=>?_,fun IC=>?_⟩
     ·have DC:j<ns.length:=by omega
      have IE:(ns.map DR)[j]?=some (DR ns[j]):=by rw[dR,bU DC];rfl
      have MU:ns.take (j+1)=ns.take j++[ns[j]]:=fU DC;generalize ns[j]=y at IE MU;have CE:=JV fs x.i (ns.take j) y;rw[<- MU]at CE;have uy:=Ql fs x.i (ns.take j);rw[mg]at uy;obtain⟨b2,o2,uM,vt,_⟩:=hn7.el IE;have c0:=vt 0 (by omega);rw[bH,show(DR y)[0]?=some (zg y.1) from rfl]at c0;have c1:=vt 1 (by omega);rw[show(DR y)[1]?=some (zg y.2) from rfl]at c1;refine Zg.mk (fun t H'=>H'=H7/\t.1=.bool (decide (y.1=x.i/\Az fs y.2=2))) ?_ ?_
      ·rintro⟨t,u⟩ H8 ⟨rfl,ht⟩;simp only at ht;subst ht;rw[zb];refine⟨fun hc=>?_,fun hc=>?_⟩
       ·rw[aU hc]at CE;rw[ze,za,zE,zr (by omega),ze,za,zE,zr (by omega)];refine⟨⟨rfl,j+1,by omega,?_⟩,by simp only[zu];omega⟩;rw[CE];rfl
       ·rw[aH hc]at CE;rw[ze,za,zE j,zr (v:=j+1) (by omega)];refine⟨⟨rfl,j+1,by omega,?_⟩,by simp only[zu];omega⟩;rw[CE];rfl
      ·rw[uM,za,zc,za,bH,c0,za,l5.ld (i:=1) rfl,f0,za,zp,za,zb];refine⟨fun he=>?_,fun he=>⟨rfl,qr fun e=>he (by omega)⟩⟩;rw[za,zc,za,c1,za];refine acf (hf.ext l5.iZ) ?_;rw[zp,za];exact⟨rfl,YF (by omega)⟩
     ·have ej:j=ns.length:=by omega
      subst ej;rw[jk];exact⟨by rw[T9],l5⟩
    ·refine⟨?_,l5⟩;unfold vd;rw[aH hb]
   ·rw[l5.ld (i:=1) rfl,f1,za,zp,za,zb];refine⟨fun hk=>?_,fun hk=>⟨rfl,qr fun e=>hk (by have:=e.1;omega)⟩⟩;rw[l5.ld (i:=1) rfl,f2,za,zn,za];refine⟨rfl,YF ⟨fun e=>⟨by omega,by omega⟩,fun e=>?_⟩⟩;have:=e.2;omega
 ·have ei:i=fs.length:=by omega
  subst ei;rw[jk]at r8;obtain⟨s',hg,pO⟩:=l3.xU (i:=0) rfl;simp only[zl,zc,aR,bH,Nat.reduceAdd,za];rw[zi hg];show Pu (some s') _;rw[za];exact k H3 s' ps l3.iZ (pO.nY (i:=0) rfl) r8
end
section
variable{P:Program}{S:Nat->Prop}{H0 H:Hp}{l:List Ob}
theorem Lo.Jy{e:ZX}{ty T n GZ:Nat}{K:Value->Hp->Prop}(h:Lo S H0 H l)(he:zQ P ty=some e)(hf:e.type=T/\e.size=n/\e.zero.size=n/\e.bytes=GZ){i:Nat}{s v:Value}{c:Array Value}{vs:List (Array Value)}(hi:l[i]?=some (.sl T n s vs))(hv:v.cells=c)(hn:0<n/\n<=2 ^ 24)(AE:0<GZ)(hc:c.size=n)(kD:zv c)
   (nu:(vs.length+1)*GZ<=2 ^ 47) (k:∀ s' H',Lo S H0 H' (l.set i (.sl T n s' (vs++[c])))->K s' H'):Pu (zQ P ty) fun x=>Pu (zT (some x) 1 [(0,v)]) fun cs=>nK x.type 1 cs H fun x2 H2=>lC true H2 fun H3=>mD (zQ P ty) s x2 H3 K:=by
 obtain⟨f1,f2,f3,f4⟩:=hf
 rw[he,za,YS (by omega) (by omega) (by rw[hv,hc,f2]),za,hv]
 refine pK fun b H2 hb e2 sH g=>?_
 rw[zj]
 intro H3 e3
 exact((h.ext e2).ext e3).app hi f1 f2 f3 (by omega) ((Sv.single g hc).ext e3) (by simpa using kD) (by rw[f4];simpa using nu) k
end
theorem oh.aff{H H':Hp}{T n T' n':Nat}{s:Value}{vs:List (Array Value)}(h:oh H H' (.sl T n s vs)):oh H H' (.Hj [⟨.slice none 0 0,T',n',[]⟩,⟨s,T,n,vs⟩]):=by
 obtain⟨O,ho,hn⟩:=h;refine⟨O,⟨fun x hx=>?_,ho.2⟩,hn⟩;rcases jg.1 hx with e | e
 ·rw[e];exact⟨Sv.nil T' n' H',fun b hb=>by cases hb⟩
 ·rw[eU.1 e];exact ho.1
theorem oh.abd{H H':Hp}{T n T' n':Nat}{s:Value}{vs:List (Array Value)}(h:oh H H' (.sl T n s vs)):oh H H' (.Hj [⟨s,T,n,vs⟩,⟨.slice none 0 0,T',n',[]⟩]):=by
 obtain⟨O,ho,hn⟩:=h;refine⟨O,⟨fun x hx=>?_,ho.2⟩,hn⟩;rcases jg.1 hx with e | e
 ·rw[e];exact ho.1
 ·rw[eU.1 e];exact⟨Sv.nil T' n' H',fun b hb=>by cases hb⟩
theorem mlt{n j:Nat}(h:j<n):((n:Int) - ((j+1:Nat):Int)).toNat<((n:Int) - (j:Int)).toNat:=by omega
def Xq(B L I:Int)(fs:List Fl)(a:Nat):Prop:=(a:Int)<(zf B L I).kb\/((a:Int)<B/\0<nr (Zf fs) a)
def AJ(B L I:Int)(l:List (Int × jn))(fs:List Fl)(a:Nat):Prop:=Lu (z9 l ((zf B L I).lM+((a / 8192:Nat):Int))) (a % 8192)=decide (Xq B L I fs a)
noncomputable def wT(l:List (Int × jn))(x:Fl)(n:Nat):List (Int × jn):=((x.sp.take n).filter fun y=>decide (0<=y.1)).map fun y=>(y.1,z9 l y.2)
theorem Fb(l:List (Int × jn))(x:Fl)(n:Nat):(wT l x n).length<=n:=by
 unfold wT;rw[bR];refine kg (List.length_filter_le _ _) ?_;rw[mg];omega
noncomputable def rI(l:List (Int × jn))(x:Fl):nL:=⟨x.i,x.f 0,x.f 1,x.f 2,x.f 3,if x.f 0=2 then [] else wT l x x.sp.length,if x.f 0=2 then yd l x (x.f 2 / 16) else []⟩
theorem UG:ZZ TP 142=some (.agg (qe ⟨0,0,0,0,0,[],[]⟩ (.slice none 0 0) (.slice none 0 0))):=by kernel_rfl
theorem TD(a b c d e:Int):zo TP 142 [(0,zg a),(1,.int .u16 b),(2,zg c),(3,zg d),(4,zg e)]=some (.agg #[zg a,.int .u16 b,zg c,zg d,zg e,.slice none 0 0,.slice none 0 0]):=by kernel_rfl
theorem Bi{t:nL}{b b':Option Addr}{n n' c c':Nat}:zv (qe t (.slice b n c) (.slice b' n' c')):=by unfold zv;rw[<- iV];rfl
section
variable{H:Hp}{R:Value->Hp->Prop}{d:Nat}{dv:Value}{B L I:Int}{l:List (Int × jn)}{s nv:Value}{fs:List Fl}{ns:List Nm}
theorem G9(h:Lk H d dv B L I l)(hf:GN H s fs)(hd:∀ y∈Zf fs,px B L I y)(k:∀ H' s' ps,Ext H H'->oh H H' (.sl 251 2 s' (ps.map (fC 11)))->(ps=[]↔∀ a:Nat,(a:Int)<8192*(zf B L I).lF->AJ B L I l fs a)->R s' H'):Fc TP 155 #[zD d,s] H R:=by
 obtain⟨xP,xO,wI,xQ,vP,vO,gD⟩:=id h.ok;obtain⟨Bn,eB⟩:∃ Bn:Nat,B=Bn:=⟨B.toNat,by omega⟩;have eBt:B.toNat=Bn:=by omega
 have hBB:(zf B L I).lF=(B+8191) / 8192:=rfl;have hDA:(zf B L I).kb=1+L+(I+16) / 16+(B+8191) / 8192:=rfl;have hBA:(zf B L I).lM=1+L+(I+16) / 16:=rfl;obtain⟨Kn,eK⟩:∃ Kn:Nat,(zf B L I).lF=Kn:=⟨(zf B L I).lF.toNat,by omega⟩;have hKn:Kn<=129:=by omega
 refine fn155 ?_;simp only[sh155,Ul,UL,UA,Us,Ub,Uz,UI,Uf,Ui,Ug,Uj,Uo,Uq,Uv,U1,U0,zm,ZI,zl,zc,aR,bH,Nat.reduceAdd,za];refine Mr h hf hd fun H1 ov e1 n1=>?_;rw[eBt]at n1;have l1:Lx H H1 [.sl 3 1 ov (cN (nr (Zf fs)) Bn)]:=((Lo.start _ H:Lx H H []).new e1 n1);have l1:=l1.nt 251 2;refine zF.mk (fun t H'=>∃ (i:Nat) (v:Value) (ps:List Int),i<=Kn/\t=(v,zg i,())/\ps.length<=8192*i/\(ps=[]↔∀ a:Nat,a<8192*i->AJ B L I l fs a)/\Lx H H' [.sl 3 1 ov (cN (nr (Zf fs)) Bn),.sl 251 2 v (ps.map (fC 11))])
  (fun t _=>mi t.2.1 fun i=>(Kn - i).toNat) ⟨0,.slice none 0 0,[],by omega,rfl,by simp,by simp,l1⟩ ?_
 rintro _ H2 ⟨i,v,ps,hi,rfl,nX,r8,l2⟩;have h2:=h.ext l2.iZ;rw[zi h2.top,ajT,za,eK,zk,za,zb];refine⟨fun kc=>?_,fun lA=>?_⟩
 ·rw[zi h2.top,ajU,za,ze,za,zd (by omega) (by omega)];refine Aw h2 fun H3 e3=>?_;have sa:=ZS h.is ((zf B L I).lM+(i:Int));have hbo:∀ j,j<8192->(AJ B L I l fs (8192*i+j)↔Lu (z9 l ((zf B L I).lM+(i:Int))) j=decide (Xq B L I fs (8192*i+j))):=fun j hj=>by
   unfold AJ;rw[show(8192*i+j) / 8192=i by omega,show(8192*i+j) % 8192=j by omega]
  generalize z9 l ((zf B L I).lM+(i:Int))=c at sa hbo;refine(l2.ext e3).jc fun b2 H4 _ l4=>?_;refine l4.jE (i:=2) rfl zw sa.size sa.ok fun H5 l5=>?_;refine zF.mk (fun t H'=>∃ (j:Nat) (v:Value) (ps:List Int),j<=8192/\t=(v,zg j,())/\ps.length<=8192*i+j/\(ps=[]↔∀ a:Nat,a<8192*i+j->AJ B L I l fs a)/\Lx H H' [.sl 3 1 ov (cN (nr (Zf fs)) Bn),.sl 251 2 v (ps.map (fC 11)),.box b2 c 65])
   (fun t _=>mi t.2.1 fun j=>(((8192:Nat):Int) - j).toNat) ⟨0,v,ps,by omega,rfl,by omega,r8,l5⟩ ?_
  rintro _ H6 ⟨j,v,ps,hj,rfl,nX,r8,l6⟩;have kH:∀ a,a<8192*i+(j+1)↔a<8192*i+j\/a=8192*i+j:=fun a=>by omega
  rw[zk,za,zb];refine⟨fun CJ=>?_,fun IC=>?_⟩
  ·rw[zW,za,zd (by omega) (by omega),ze,za,zd (by omega) (by omega),show(8192*(i:Int)+(j:Int))=((8192*i+j:Nat):Int) by omega];have hbo:=hbo j (by omega);have hpd:Xq B L I fs (8192*i+j)↔((8192*i+j:Nat):Int)<(zf B L I).kb\/(((8192*i+j:Nat):Int)<B/\0<nr (Zf fs) (8192*i+j)):=Iff.rfl;generalize sw:8192*i+j=at' at hbo hpd kH nX r8;have hjn:j<8192:=by omega
   refine Zg.mk (fun t H'=>H'=H6/\t.1=.bool (decide (Xq B L I fs at'))) ?_ ?_
   ·rintro⟨t,u⟩ H7 ⟨rfl,ht⟩;simp only at ht;subst ht;rw[l6.je (i:=2) (n:=1024) rfl sa.size,za];refine SB sa (by omega) fun H8 e8=>?_;have l8:=l6.ext e8;rw[TI,za,Zj];refine⟨fun hb=>?_,fun hb=>?_⟩
    ·have hb:¬ AJ B L I l fs at':=fun e=>by rw[hbo.1 e]at hb;simp at hb
     rw[wZ,za];refine l8.qY I4 C8 (i:=1) rfl (by rfl) (by omega) (by omega) rfl (IY _ _) (by rw[bR];omega) fun v3 H9 l9=>?_;rw[ze,za,zE,zr (by omega)];refine⟨⟨j+1,v3,ps++[(at':Int)],by omega,rfl,by rw[cR];simp only[gR,jW];omega,⟨fun e=>absurd (List.append_eq_nil_iff.1 e).2 (List.cons_ne_nil _ _),fun hh=>absurd (hh at' ((kH at').2 (.inr rfl))) hb⟩,?_⟩,by simp only[zu];exact mlt (n:=8192) hjn⟩;rw[cU];exact l9
    ·have hb:AJ B L I l fs at':=hbo.2 (by simpa using hb);rw[ze,za,zE,zr (by omega)];refine⟨⟨j+1,v,ps,by omega,rfl,by omega,⟨fun e a ha=>?_,fun hh=>r8.2 fun a ha=>hh a ((kH a).2 (.inl ha))⟩,l8⟩,by simp only[zu];exact mlt (n:=8192) hjn⟩;rcases(kH a).1 ha with e2 | e2
     ·exact r8.1 e a e2
     ·rw[e2];exact hb
   ·have h6:=h.ext l6.iZ;rw[zi h6.top,RE,za,zk,za,zb];refine⟨fun h1=>⟨rfl,yB (hpd.2 (.inl h1))⟩,fun h1=>?_⟩;rw[(l6.sv (i:=0) rfl).j9 XK,za,Dn,zk,za,zb];refine⟨fun h3=>?_,fun h3=>⟨rfl,qr fun e=>?_⟩⟩
    ·have hg:=Dp (c:=nr (Zf fs)) (n:=Bn) (b:=at') (by omega);obtain⟨b3,o3,Gn,CM,_⟩:=(l6.sv (i:=0) rfl).sr.el hg;have GV:=CM 0 (by omega);rw[bH]at GV;rw[Gn,za,GV,show(nC (nr (Zf fs) at'))[0]?=some (zg (nr (Zf fs) at')) from rfl,za,zJ,za];refine⟨rfl,YF ?_⟩;rw[hpd];omega
    ·rcases hpd.1 e with e | e<;>omega
  ·have ej:8192*i+j=8192*(i+1):=by omega
   rw[ej]at r8 nX;rw[ze,za,zE,zr (by omega)];exact⟨⟨i+1,v,ps,by omega,rfl,nX,r8,l6.takeN 2⟩,by simp only[zu];omega⟩
 ·have ei:i=Kn:=by omega
  subst ei;refine k H2 v ps l2.iZ (l2.nY (i:=1) rfl) ?_;rw[r8,eK];exact⟨fun hh a ha=>hh a (by omega),fun hh a ha=>hh a (by omega)⟩
theorem RR(h:Lk H d dv B L I l){x:Fl}(mK:Sr 2 H x.v (x.sp.map o7))(Gh:x.sp.length<=66100)(kD:lE x.f)(apB:zv (lQ x))(k:∀ H' v1 v2,Ext H H'->oh H H' (.Hj [⟨v1,149,1025,(rI l x).data.map zy⟩,⟨v2,241,2,(rI l x).kA.map yh⟩])->R (.agg (qe (rI l x) v1 v2)) H'):Fc TP 119 #[zD d,.agg (lQ x)] H R:=by
 have h1:=kD 1 (by omega);have h2:=kD 2 (by omega);have h3:=kD 3 (by omega);simp only[fw,Nat.reduceLT,jD,jO,Nat.reducePow,uD]at h1 h2 h3;have f0:(lQ x)[0]?=some (zg x.i):=rfl;have f1:(lQ x)[1]?=some (.int .u16 (x.f 0)):=rfl;have f2:(lQ x)[2]?=some (.int .u16 (x.f 1)):=rfl;have f3:(lQ x)[3]?=some (.int .u32 (x.f 2)):=rfl;have f4:(lQ x)[4]?=some (.int .u32 (x.f 3)):=rfl;have f17:(lQ x)[17]?=some x.v:=rfl;refine fn119 ?_;simp only[sh119,Ul,UL,UA,Us,Ub,Uz,Ux,Uf,Uw,Ui,Ug,Uo,Uv,zm,UG,za];refine(Lo.start _ H:Lx H H []).jc fun b1 H1 _ l1=>?_;refine l1.jc fun b2 H2 _ l2=>?_;simp only[zc,aR,bH,Nat.reduceAdd,za];rw[l2.ld (i:=0) rfl,f0,za,l2.ld (i:=0) rfl,f1,za,l2.ld (i:=0) rfl,f2,za,zz,za,zr (by omega),l2.ld (i:=0) rfl,f3,za,zz,za,zr (by omega),l2.ld (i:=0) rfl,f4,za,zz,za,zr (by omega),TD,za];refine l2.jc fun b3 H3 _ l3=>?_;refine l3.jE (i:=2) (vs:=qe (rI l x) (.slice none 0 0) (.slice none 0 0)) rfl rfl rfl Bi fun H4 l4=>?_;have l4:Lx H H4 [.box b1 (lQ x) 192,.box b2 (qe ⟨0,0,0,0,0,[],[]⟩ (.slice none 0 0) (.slice none 0 0)) 142,.box b3 (qe (rI l x) (.slice none 0 0) (.slice none 0 0)) 142]:=l4;have g1:∀ {v1 v2:Value},(qe (rI l x) v1 v2)[1]?=some (.int .u16 (x.f 0)):=rfl;have g5:∀ {v1 v2:Value},(qe (rI l x) v1 v2)[5]?=some v1:=rfl;rw[zc,za,l4.ld (i:=2) rfl,g1,za,zp,za,zb];refine⟨fun hk=>?_,fun hk=>?_⟩
 ·have hk:x.f 0=2:=by omega
  have hdt:(rI l x).data=[]:=by unfold rI;simp only[hk,jO]
  have uy:(rI l x).kA=yd l x (x.f 2 / 16):=by unfold rI;simp only[hk,jO]
  rw[l4.je (i:=0) (n:=18) rfl rfl,za];refine Ba (h.ext l4.iZ) (mK.ext l4.iZ) Gh kD fun H5 sv e5 n5=>?_;have l5:=l4.new e5 n5;rw[show zq (.tuple #[sv,.bool (decide (qH l x (x.f 2 / 16)))]) 0=some sv from rfl,za,show zq (.tuple #[sv,.bool (decide (qH l x (x.f 2 / 16)))]) 1=some (.bool (decide (qH l x (x.f 2 / 16)))) from rfl,za,zc,za];have lT:=(l5.sv (i:=3) rfl).one;obtain⟨bb,cc,esv⟩:=(l5.sv (i:=3) rfl).len;refine l5.st (i:=2) (j:=6) (v:=sv) rfl (by exact(by decide:6<7)) lT.2 lT.1 fun H6 l6=>?_;have l6:Lx H H6 [.box b1 (lQ x) 192,.box b2 (qe ⟨0,0,0,0,0,[],[]⟩ (.slice none 0 0) (.slice none 0 0)) 142,.box b3 (qe (rI l x) (.slice none 0 0) sv) 142,.sl 241 2 sv ((yd l x (x.f 2 / 16)).map yh)]:=l6;rw[l6.je (i:=2) (n:=7) rfl rfl,za];refine l6.ret (i:=1) rfl rfl rfl (by rw[esv];exact Bi) fun H' l'=>?_;refine k H' (.slice none 0 0) sv l'.iZ ?_;rw[hdt,uy];exact(l'.nY (i:=3) rfl).aff
 ·have hk:x.f 0≠2:=by omega
  have hdt:(rI l x).data=wT l x x.sp.length:=by unfold rI;simp only[hk,jD]
  have uy:(rI l x).kA=[]:=by unfold rI;simp only[hk,jD]
  have l4:=l4.nt 149 1025;refine zF.mk (fun t H'=>∃ (i:Nat) (v1:Value),i<=x.sp.length/\t=(zg i,())/\Lx H H' [.box b1 (lQ x) 192,.box b2 (qe ⟨0,0,0,0,0,[],[]⟩ (.slice none 0 0) (.slice none 0 0)) 142,.box b3 (qe (rI l x) v1 (.slice none 0 0)) 142,.sl 149 1025 v1 ((wT l x i).map zy)])
   (fun t _=>mi t.1 fun i=>(x.sp.length - i).toNat) ⟨0,.slice none 0 0,by omega,rfl,l4⟩ ?_
  rintro _ H5 ⟨i,v1,hi,rfl,l5⟩;rw[l5.ld (i:=0) rfl,f17,za,mK.j9 qt,za,bR,zk,za,zb];refine⟨fun kc=>?_,fun lA=>?_⟩
  ·have DC:i<x.sp.length:=by omega
   have IE:(x.sp.map o7)[i]?=some (o7 x.sp[i]):=by rw[dR,bU DC];rfl
   have MU:x.sp.take (i+1)=x.sp.take i++[x.sp[i]]:=fU DC;generalize x.sp[i]=y at IE MU;have hds:wT l x (i+1)=wT l x i++(if 0<=y.1 then [(y.1,z9 l y.2)] else []):=by
    unfold wT;rw[MU,LM,cU];congr 1;by_cases e:0<=y.1<;>simp[e]
   have hdl:=Fb l x i;obtain⟨b6,o6,ha6,ahg,_⟩:=(mK.ext l5.iZ).el IE;have c0:=ahg 0 (by omega);rw[bH,show(o7 y)[0]?=some (zg y.1) from rfl]at c0;have c1:=ahg 1 (by omega);rw[show(o7 y)[1]?=some (zg y.2) from rfl]at c1;rw[za,ha6,za,zc,za,bH,c0,za,zN,za,zb];refine⟨fun hp=>?_,fun hp=>?_⟩
   ·rw[aU hp]at hds;have sa:=ZS h.is y.2;rw[zc,za,l5.ld (i:=2) rfl,g5,za,za,ha6,za,zc,za,bH,c0,za,za,ha6,za,zc,za,c1,za];refine⟨.agg (z9 l y.2),fun oZ e''=>Aw (h.ext (l5.iZ.trans e'')) fun H3 e3=>⟨rfl,e3⟩,?_⟩;rw[YE sa,za,zj];intro H9 e9;refine(l5.ext e9).Jy ti pz (i:=3) (c:=zy (y.1,z9 l y.2)) rfl rfl (by omega) (by omega) (zZ sa) (Z8 sa) (by rw[bR];omega) fun s' tF oC=>?_;rw[za,zj];intro sD se;have oM:=oC.ext se;have lT:=(oM.sv (i:=3) rfl).one;refine oM.st (i:=2) (j:=5) (v:=s') rfl (by exact(by decide:5<7)) lT.2 lT.1 fun By vh=>?_;rw[zj];intro DH JK;rw[ze,za,zE,zr (by omega)];refine⟨⟨i+1,s',by omega,rfl,?_⟩,by simp only[zu];omega⟩;rw[hds,cU];exact vh.ext JK
   ·rw[aH hp,jY]at hds;rw[ze,za,zE,zr (by omega)];refine⟨⟨i+1,v1,by omega,rfl,?_⟩,by simp only[zu];omega⟩;rw[hds];exact l5
  ·have ei:i=x.sp.length:=by omega
   subst ei;obtain⟨bb,cc,esv⟩:=(l5.sv (i:=3) rfl).len;rw[l5.je (i:=2) (n:=7) rfl rfl,za];refine l5.ret (i:=1) rfl rfl rfl (by rw[esv];exact Bi) fun H' l'=>?_;refine k H' v1 (.slice none 0 0) l'.iZ ?_;rw[hdt,uy];exact(l'.nY (i:=3) rfl).abd
end
structure Sound(B L I:Int)(l:List (Int × jn))(fs:List Fl):Prop where
 nodes:xb B L I l
 ptr:∀ y∈Zf fs,px B L I y
 ae5:∀ b:Nat,(b:Int)<B->nr (Zf fs) b<=1
 alone:∀ kd∈([7,8,9,10]:List Int),∀ x∈fs,¬ Yq l kd x
 bits:∀ a:Nat,(a:Int)<8192*(zf B L I).lF->AJ B L I l fs a
 hole:∀ x∈fs,¬ Yq l 12 x
 kA:∀ x∈fs,¬ (x.f 0=2/\yQ l fs x)
 tree:∀ x∈fs,¬ y9 l (yS l fs) x
 uJ:∀ x∈fs,¬ x.f 1≠vd fs (yS l fs) x
theorem Rp{B L I:Int}{l:List (Int × jn)}{fs:List Fl}(hI:1<=I)(h:xb B L I l)(hf:lN B L I l I.toNat fs):TX fs:=by
 intro x hx;have hm:=hf.mem hx;have hb:=h.1 x.i (by omega);have e:=(hf.is x hx).1;have kG:¬ HO (ur B L I l x.i) (YP B L I l x.i):=fun ho=>hb (.inl (.inl ⟨hm.2.2,ho⟩));rw[<- e]at kG;unfold HO at kG;refine⟨?_,fun h0 h1=>?_⟩
 ·exact Nat.le_of_not_lt fun hh=>kG (.inr (.inr (.inl hh)))
 ·exact Nat.le_of_not_lt fun hh=>kG (.inr (.inr (.inr (.inr ⟨h0,.inr ⟨h1,.inl hh⟩⟩))))
theorem Ru{B L I:Int}{l:List (Int × jn)}{fs:List Fl}(hI:1<=I)(hf:lN B L I l I.toNat fs)(hs:∀ x∈fs,¬ (x.f 0=2/\yQ l fs x)):∀ y∈yS l fs,(y.1:Int)<=I/\(y.2:Int)<=I:=by
 intro y hy;obtain⟨x,hx,hy⟩:=List.mem_flatMap.1 hy;have hm:=hf.mem hx;unfold TZ at hy;split at hy
 ·rename_i ht;have hb:=hs x hx;have key:∀ n,n<=x.f 2 / 16->y∈T0 l x n->y.1=x.i/\∃ i,i<x.f 2 / 16/\(oD l x i).1≠0/\y.2=(oD l x i).1:=by
   intro n;induction n with
   | zero=>intro _ h;cases h
   | succ n ih=>
    intro hn h;rw[wh]at h;rcases fH.1 h with h1 | h1
    ·exact ih (by omega) h1
    ·split at h1
     ·rename_i h2;rw[eU.1 h1];exact⟨rfl,n,by omega,h2.2,rfl⟩
     ·cases h1
  obtain⟨e1,i,hi,jZ,e2⟩:=key _ (iU _) hy;have hu:BG fs (oD l x i).1:=by
   by_cases hu:BG fs (oD l x i).1
   ·exact hu
   ·exact absurd ⟨ht.1,.inr ⟨ht.2,.inr (.inr ⟨i,hi,jZ,.inl hu⟩)⟩⟩ hb
  obtain⟨z,hz,e3⟩:=hu;have:=hf.mem hz;rw[e1,e2];exact⟨by omega,by omega⟩
 ·cases hy
theorem alM:zQ TP 223=some ⟨219,1,1,#[.int .u8 0]⟩:=by kernel_rfl
theorem aa5:TP.underlying 223=some (.slice 219):=by kernel_rfl
theorem abS:zT (some ⟨219,1,1,#[.int .u8 0]⟩) 4 [(0,(.int .u8 7)),(1,(.int .u8 8)),(2,(.int .u8 9)),(3,(.int .u8 10))]=some #[.int .u8 7,.int .u8 8,.int .u8 9,.int .u8 10]:=by kernel_rfl
def kdC(n:Int):Array Value:=#[.int .u8 n]
theorem acg{H:Hp}{b:Nat}{T:TypeId}(g:H[b]?=some (.cells #[.int .u8 7,.int .u8 8,.int .u8 9,.int .u8 10] T)):Sr 1 H (.slice (some ⟨b,0,none⟩) 4 4) (([7,8,9,10]:List Int).map kdC):=by
 refine⟨_,4,rfl,by decide,fun _=>⟨b,0,rfl,fun i v hi=>?_⟩⟩;have r:∀ j,j<4->np H ⟨b,0+j*1,none⟩ 1=some ((#[.int .u8 7,.int .u8 8,.int .u8 9,.int .u8 10]:Array Value).extract j (j+1)):=fun j hj=>by
  unfold np;simp only[g];rw[aU ⟨trivial,by show 0+j*1+1<=4;omega⟩,aR,iX]
 match i,hi with
 | 0,hi=>rw[r 0 (by omega)];injection hi with hi;rw[<- hi];rfl
 | 1,hi=>rw[r 1 (by omega)];injection hi with hi;rw[<- hi];rfl
 | 2,hi=>rw[r 2 (by omega)];injection hi with hi;rw[<- hi];rfl
 | 3,hi=>rw[r 3 (by omega)];injection hi with hi;rw[<- hi];rfl
section
variable{H:Hp}{R:Value->Hp->Prop}{d:Nat}{dv:Value}{B L I:Int}{l:List (Int × jn)}{s nv:Value}{fs:List Fl}{ns:List Nm}
theorem Y4{H H':Hp}{s:Value}{ps:List Int}{kd:Int}(h:oh H H' (.sl 251 2 s (ps.map (fC kd)))):j9 TP 131 s=some (zg ps.length):=by
 rw[h.sv.j9 LV,bR]
theorem Yj{ps:List Int}:(0:Int)<(ps.length:Int)↔ps≠[]:=by
 cases ps with
 | nil=>simp
 | cons a r=>simp
theorem P4(h:Lk H d dv B L I l)(k:∀ H' s' (ps:List Int) kd fs,Ext H H'->oh H H' (.sl 251 2 s' (ps.map (fC kd)))->lN B L I l I.toNat fs->(ps=[]↔Sound B L I l fs)->R s' H'):Fc TP 117 #[zD d] H R:=by
 obtain⟨xP,xO,wI,xQ,vP,vO,gD⟩:=id h.ok;have sI:∃ fs,lN B L I l I.toNat fs:=by
  have:∀ n,∃ fs,lN B L I l n fs:=fun n=>by
   induction n with
   | zero=>exact⟨[],rfl,fun x hx=>by cases hx⟩
   | succ n ih=>
    obtain⟨fs,re⟩:=ih;by_cases e:YP B L I l (n+1) 0=0
    ·exact⟨fs,re.skip e⟩
    ·exact⟨_,re.add (x:=⟨n+1,YP B L I l (n+1),.bool false,YG B L I l (YP B L I l (n+1))⟩) rfl rfl rfl e⟩
  exact this _
 refine fn117 ?_;simp only[sh117,Ul,Ub,Uf,Ui,Ug,Uo,Uv,zm];refine RB h fun H1 s1 p1 e1 n1 q1=>?_;rw[Y4 n1,za,zJ,za,zb];refine⟨fun hp=>?_,fun hp=>?_⟩
 ·have hp:=Yj.1 hp;obtain⟨fs,re⟩:=sI;exact k H1 s1 p1 4 fs e1 n1 re ⟨fun e=>absurd e hp,fun e=>absurd (q1.2 e.nodes) hp⟩
 have hN:xb B L I l:=q1.1 (jh.1 fun e=>hp (Yj.2 e));refine Ic (h.ext e1) fun H2 fv fs e2 n2 re=>?_;have Ud:GN H2 fv fs:=IV (h.ext e1) (by omega) re n2;have lj:=Rp wI hN re;have x2:=e1.trans e2;refine Ke (h.ext x2) Ud fun H3 s3 p3 e3 n3 q3=>?_;have x3:=x2.trans e3;have stop:∀ {H':Hp} {s':Value} {ps:List Int} {kd:Int} {Hm:Hp},Ext H Hm->Ext Hm H'->oh Hm H' (.sl 251 2 s' (ps.map (fC kd)))->ps≠[]->(Sound B L I l fs->ps=[])->R s' H':=fun xm em nm hp hq=>k _ _ _ _ fs (xm.trans em) (nm.old xm.le) re ⟨fun e=>absurd e hp,fun e=>absurd (hq e) hp⟩;have e0:∀ {ps:List Int},¬ (0:Int)<(ps.length:Int)->ps=[]:=fun hp=>jh.1 fun e=>hp (Yj.2 e);rw[Y4 n3,za,zJ,za,zb];refine⟨fun hp=>stop x2 e3 n3 (Yj.1 hp) fun S=>q3.2 S.ptr,fun hp=>?_⟩;have hP:=q3.1 (e0 hp);refine U4 (h.ext x3) (Ud.ext e3) hP fun H4 s4 p4 e4 n4 q4=>?_;have x4:=x3.trans e4;have f4:=(Ud.ext e3).ext e4;rw[Y4 n4,za,zJ,za,zb];refine⟨fun hp=>stop x3 e4 n4 (Yj.1 hp) fun S=>q4.2 S.ae5,fun hp=>?_⟩;have hT:=q4.1 (e0 hp);rw[alM,za,abS,za];refine pK fun b H5 hb e5 hs5 g5=>?_;have x5:=x4.trans e5;have f5:=f4.ext e5;have sr5:=acg g5;refine zF.mk (fun t H'=>Ext H5 H'/\∃ i:Nat,i<=4/\t=(zg i,())/\∀ kd∈([7,8,9,10]:List Int).take i,∀ x∈fs,¬ Yq l kd x) (fun t _=>mi t.1 fun i=>(4 - i).toNat) ⟨Ext.refl _,0,by omega,rfl,by simp⟩ ?_;rintro _ H6 ⟨e6,i,hi,rfl,SC⟩;have x6:=x5.trans e6;have f6:=f5.ext e6;have sr6:=sr5.ext e6;rw[sr6.j9 aa5,za,show((([7,8,9,10]:List Int).map kdC).length:Int)=4 from rfl,zk,za,zb];refine⟨fun kc=>?_,fun lA=>?_⟩
 ·have kI:i<4:=by omega
  have lP:(([7,8,9,10]:List Int).map kdC)[i]?=some (kdC ([7,8,9,10]:List Int)[i]):=by rw[dR,bU kI];rfl
  have mR:([7,8,9,10]:List Int).take (i+1)=([7,8,9,10]:List Int).take i++[([7,8,9,10]:List Int)[i]]:=fU kI;have kL:([7,8,9,10]:List Int)[i]∈([7,8,9,10]:List Int):=ju kI;generalize ([7,8,9,10]:List Int)[i]=kd at lP mR kL;have Wr:kd≠1000:=by
   rintro rfl;simp at kL
  obtain⟨b2,o2,uM,vt,_⟩:=sr6.el lP;have c0:=vt 0 (by omega);rw[bH,show(kdC kd)[0]?=some (.int .u8 kd) from rfl]at c0;rw[uM,za,c0,za];refine M7 (h.ext x6) f6 Wr fun H7 s7 p7 e7 n7 q7=>?_;rw[Y4 n7,za,zJ,za,zb];refine⟨fun hp=>stop x6 e7 n7 (Yj.1 hp) fun S=>q7.2 (S.alone kd kL),fun hp=>?_⟩;rw[ze,za,zE,zr (by omega)];refine⟨⟨e6.trans e7,i+1,by omega,rfl,fun z hz=>?_⟩,by simp only[zu];omega⟩;rw[mR]at hz;rcases fH.1 hz with h1 | h1
  ·exact SC z h1
  ·rw[eU.1 h1];exact q7.1 (e0 hp)
 ·have ei:i=4:=by omega
  subst ei;have hA:∀ kd∈([7,8,9,10]:List Int),∀ x∈fs,¬ Yq l kd x:=SC;refine G9 (h.ext x6) f6 hP fun H8 s8 p8 e8 n8 q8=>?_;have x8:=x6.trans e8;have f8:=f6.ext e8;rw[Y4 n8,za,zJ,za,zb];refine⟨fun hp=>stop x6 e8 n8 (Yj.1 hp) fun S=>q8.2 S.bits,fun hp=>?_⟩;have hB:=q8.1 (e0 hp);refine M7 (h.ext x8) f8 (by decide) fun H9 s9 p9 e9 n9 q9=>?_;have x9:=x8.trans e9;have f9:=f8.ext e9;rw[Y4 n9,za,zJ,za,zb];refine⟨fun hp=>stop x8 e9 n9 (Yj.1 hp) fun S=>q9.2 S.hole,fun hp=>?_⟩;have hH:=q9.1 (e0 hp);refine Qx (h.ext x9) f9 lj fun mX Vr p10 sA n10 q10=>?_;have x10:=x9.trans sA;have f10:=f9.ext sA;rw[Y4 n10,za,zJ,za,zb];refine⟨fun hp=>stop x9 sA n10 (Yj.1 hp) fun S=>q10.2 S.kA,fun hp=>?_⟩;have hS:=q10.1 (e0 hp);refine VQ (h.ext x10) f10 lj fun mN nv Br n11=>?_;have x11:=x10.trans Br;have f11:=f10.ext Br;have sn:=n11.sv.sr;have hnl:=u5 l lj;have uK:=f11.len;have o8:=Ru wI re hS;refine aa8 (h.ext x11) f11 lj (fun x hx=>by have:=re.mem hx;omega) sn (by omega) o8 fun tF s12 p12 GX n12 q12=>?_;have x12:=x11.trans GX;rw[Y4 n12,za,zJ,za,zb];refine⟨fun hp=>stop x11 GX n12 (Yj.1 hp) fun S=>q12.2 S.tree,fun hp=>?_⟩;have hTr:=q12.1 (e0 hp);refine V6 (f11.ext GX) (sn.ext GX) (by omega) fun sD s13 p13 se n13 Vz=>?_;exact k sD s13 p13 15 fs (x12.trans se) (n13.old x12.le) re ⟨fun e=>⟨hN,hP,hT,hA,hB,hH,hS,hTr,Vz.1 e⟩,fun S=>Vz.2 S.uJ⟩
end
def a3(f:Nat->Int):Array Value:=#[zg (f 0),zg (f 1),zg (f 2)]
theorem Du(f:Nat->Int){i:Nat}(h:i<3):(a3 f)[i]?=some (zg (f i)):=by
 match i,h with
 | 0,_=>rfl
 | 1,_=>rfl
 | 2,_=>rfl
theorem adZ(f:Nat->Int){i:Nat}(h:i<3)(v:Int):(a3 f).setIfInBounds i (zg v)=a3 fun j=>if j=i then v else f j:=by
 match i,h with
 | 0,_=>rfl
 | 1,_=>rfl
 | 2,_=>rfl
theorem aeO:ZZ TP 252=some (.agg (a3 fun _=>0)):=by kernel_rfl
theorem TG(a b c:Int):zo TP 23 [(0,zg a),(1,zg b),(2,zg c)]=some (.agg #[zg a,zg b,zg c]):=by kernel_rfl
section
variable{H:Hp}{R:Value->Hp->Prop}{d:Nat}{dv:Value}{B L I:Int}{l:List (Int × jn)}
theorem UT(hB:1<=B/\B<=1048576)(oq:Sr 1025 H dv (l.map zy))(hl:HN B (-1) l)(hlen:l.length<=1048576)(k:∀ H',Ext H H'->R (zg 0) H'):Fc TP 147 #[.agg #[zg B,dv]] H R:=by
 refine fn147 ?_;simp only[sh147,Ul,UL,UA,Us,Ub,Uz,Ui,Ug,Uj,Uo,Uv,U1,ZI,sL,za,zm];refine(Lo.start _ H:Lx H H []).jc fun b1 H1 _ l1=>?_;have d0:(#[zg B,dv]:Array Value)[0]?=some (zg B):=rfl;have d1:(#[zg B,dv]:Array Value)[1]?=some dv:=rfl;have l1:Lx H H1 [.box b1 #[zg B,dv] 81]:=l1;simp only[zc,aR,bH,za];refine Zg.mk (fun t H'=>H'=H1/\t.1=.bool false) ?_ ?_
 ·rintro⟨t,u⟩ H2 ⟨rfl,ht⟩;simp only at ht;subst ht;rw[zh];refine l1.jc fun b2 H3 _ l3=>?_;refine zF.mk (fun t H'=>∃ (i:Nat) (p:Int),i<=l.length/\t=(zg p,zg i,())/\HN B p (l.drop i)/\Lx H H' [.box b1 #[zg B,dv] 81,.box b2 zB 65])
   (fun t _=>mi t.2.1 fun i=>(l.length - i).toNat) ⟨0,-1,by omega,rfl,hl,l3⟩ ?_
  rintro _ H4 ⟨i,p,hi,rfl,AV,l4⟩;have h4:=oq.ext l4.iZ;rw[l4.ld (i:=0) rfl,d1,za,h4.j9 yw,za,bR,zk,za,zb];refine⟨fun kc=>?_,fun lA=>k H4 l4.iZ⟩;have kI:i<l.length:=by omega
  have lP:(l.map zy)[i]?=some (zy l[i]):=by rw[dR,bU kI];rfl
  have IG:l.drop i=l[i] :: l.drop (i+1):=jF kI;generalize l[i]=x at lP IG;rw[IG]at AV;obtain⟨q1,q2,q3,q4,q5⟩:=AV;obtain⟨b,o,ha,lI,kE⟩:=h4.el lP;have hr:=kE 0 1025 (by omega);rw[bH,qI (c:=zy x) (n:=1025) (zZ q4)]at hr;rw[za,ha,za,hr,za];refine l4.jc fun b3 H5 _ l5=>?_;refine l5.jE (i:=2) rfl Zh (zZ q4) (Z8 q4) fun H6 l6=>?_;have l6:Lx H H6 [.box b1 #[zg B,dv] 81,.box b2 zB 65,.box b3 (zy x) 149]:=l6;simp only[zc,aR,bH,za];refine Zg.mk (fun t H'=>H'=H6/\t.1=.bool false) ?_ ?_
  ·rintro⟨t,u⟩ H7 ⟨rfl,ht⟩;simp only at ht;subst ht;rw[zh,l6.ld (i:=2) rfl,yg,za,ze,za,zE,zr (by omega)];exact⟨⟨i+1,x.1,by omega,rfl,q5,l6.takeN 2⟩,by simp only[zu];omega⟩
  ·rw[l6.ld (i:=2) rfl,yg,za,yp,za,cH (by omega),zh,za,l6.ld (i:=0) rfl,d0,za,zN,za,cH (by omega),zh];rw[Za (l6.at (i:=2) rfl) (by rw[zZ q4];omega),za,Ym q4,l6.je (i:=1) (n:=1024) rfl zw,za,YX,eqB HE q4 z6,iR,za,cH q3];exact⟨rfl,rfl⟩
 ·rw[l1.ld (i:=0) rfl,d0,za,zk,za,cH (by omega),zh,za,zJ,za,cH (by omega)];exact⟨rfl,rfl⟩
theorem ahO(hg:Zy B L I)(k:∀ H',Ext H H'->R (.tuple #[.agg (zf B L I).cells,zg 0]) H'):Fc TP 149 #[.agg (yb (zf B L I)),zg B] H R:=by
 obtain⟨xP,xO,wI,xQ,vP,vO,gD⟩:=id hg;have KK:∀ i,i<3->(nQ (yb (zf B L I)) (8+4*i) 4:Int)=xz (zf B L I) i:=fun i hi=>by
  have h1:=Hi (zf B L I) 9 (by omega) i (by omega);have h2:=Mv hg i;show((nQ (DL (zf B L I) 9) (8+4*i) 4:Nat):Int)=_;rw[h1];omega
 have hb:jR (yb (zf B L I)):=qv _ 9;refine fn149 ?_;simp only[sh149,Ul,UL,Us,Ub,Uz,Ux,Uf,Uk,Uj,Uo,Uv,U1,yq,tC,aeO,ZI,za,zm];generalize hc:yb (zf B L I)=c at KK hb;refine(Lo.start _ H:Lx H H []).jc fun b1 H1 _ l1=>?_;refine l1.jc fun b2 H2 _ l2=>?_;refine l2.jc fun b3 H3 _ l3=>?_;refine zF.mk (fun t H'=>∃ (i:Nat) (f:Nat->Int),i<=3/\t=(zg i,())/\(∀ j,j<i->f j=xz (zf B L I) j)/\(∀ j,i<=j->f j=0)/\Lx H H' [.box b1 c 65,.box b2 vQ 62,.box b3 (a3 f) 252])
  (fun t _=>mi t.1 fun i=>(3 - i).toNat) ⟨0,fun _=>0,by omega,rfl,fun j hj=>by omega,fun j _=>rfl,l3⟩ ?_
 rintro _ H4 ⟨i,f,hi,rfl,hf1,Ud,l4⟩;rw[zk,za,zb];refine⟨fun kc=>?_,fun lA=>?_⟩
 ·refine zF.mk (fun t H'=>∃ (j:Nat),j<=4/\t=(zg (3 - (j:Int)),())/\Lx H H' [.box b1 c 65,.box b2 vQ 62,.box b3 (a3 fun z=>if z=i then(nQ c (8+4*i+(4 - j)) j:Nat) else f z) 252])
   (fun t _=>mi t.1 fun x=>(x+1).toNat) ⟨0,by omega,rfl,by
    have e:(fun z=>if z=i then((nQ c (8+4*i+(4 - 0)) 0:Nat):Int) else f z)=f:=by
     funext z;by_cases hz:z=i
     ·rw[aU hz,Ud z (by omega)];rfl
     ·rw[aH hz]
    rw[e];exact l4⟩ ?_
  rintro _ H5 ⟨j,hj,rfl,l5⟩;have hv:=xF (c:=c) hb.lt j (8+4*i+(4 - j));have R1:256 ^ j<=256 ^ 4:=lq (by omega) hj;generalize DW:nQ c (8+4*i+(4 - j)) j=v at hv l5;rw[zN,za,zb];refine⟨fun lA=>?_,fun CJ=>?_⟩
  ·have hv4:256 ^ j<=256 ^ 3:=lq (by omega) (by omega);rw[zC (by omega),za,aR,iX,l5.ld (i:=2) rfl,Du _ (by omega),aU rfl,za,zW,za,zd (x:=256*(v:Int)) (by omega) (by omega),zW,za,zd (x:=4*(i:Int)) (by omega) (by omega),ze,za,zd (by omega) (by omega),ze,za,zd (by omega) (by omega),show((8:Int)+4*(i:Int)+(3 - (j:Int)))=((8+4*i+(3 - j):Nat):Int) by omega,zC (by omega),za,aR,iX,l5.ld (i:=0) rfl,hb.get (by omega),za,zz,za];have sa:=hb.lt (8+4*i+(3 - j));rw[zr (by omega),ze,za,zd (by omega) (by omega),za];refine l5.st (i:=2) (j:=i) (v:=zg (256*(v:Int)+(kv c (8+4*i+(3 - j)):Int))) rfl (by show i<3;omega) rfl rfl fun H6 l6=>?_;rw[zP,za,zd (by omega) (by omega)];refine⟨⟨j+1,by omega,?_,?_⟩,by simp only[zu];omega⟩
   ·rw[show(3 - (j:Int) - 1)=3 - ((j+1:Nat):Int) by omega];rfl
   ·have e1:nQ c (8+4*i+(4 - (j+1))) (j+1)=kv c (8+4*i+(3 - j))+256*v:=by
     show kv c (8+4*i+(4 - (j+1)))+256*nQ c (8+4*i+(4 - (j+1))+1) j=_;rw[show 8+4*i+(4 - (j+1))+1=8+4*i+(4 - j) by omega,DW,show 8+4*i+(4 - (j+1))=8+4*i+(3 - j) by omega]
    rw[adZ _ (by omega)]at l6;have e2:(fun z=>if z=i then 256*(v:Int)+(kv c (8+4*i+(3 - j)):Int) else if z=i then(v:Int) else f z)=fun z=>if z=i then((nQ c (8+4*i+(4 - (j+1))) (j+1):Nat):Int) else f z:=by
     funext z;by_cases hz:z=i
     ·rw[aU hz,aU hz,e1];omega
     ·rw[aH hz,aH hz,aH hz]
    rw[<- e2];exact l6
  ·have ej:j=4:=by omega
   subst ej;rw[nM,bH]at DW;rw[ze,za,zE,zr (by omega)];refine⟨⟨i+1,_,by omega,rfl,fun z hz=>?_,fun z hz=>?_,l5⟩,by simp only[zu];omega⟩
   ·by_cases e:z=i
    ·simp only[e,jO];rw[<- DW];exact KK i (by omega)
    ·simp only[e,jD];exact hf1 z (by omega)
   ·simp only[show z≠i by omega,jD];exact Ud z (by omega)
 ·have ei:i=3:=by omega
  subst ei;have e0:f 0=B:=hf1 0 (by omega);have e1:f 1=L:=hf1 1 (by omega);have e2:f 2=I:=hf1 2 (by omega);have a0:∀ {k:IntKind},zG (some (some 3,1)) (.pointer (some ⟨b3,0,none⟩)) (.int k 0)=some (.pointer (some ⟨b3,0,none⟩)):=fun {k}=>by
   have:=@zC 3 1 b3 0 0 k (by omega);simpa using this
  have a1:∀ {k:IntKind},zG (some (some 3,1)) (.pointer (some ⟨b3,0,none⟩)) (.int k 1)=some (.pointer (some ⟨b3,1,none⟩)):=fun {k}=>by
   have:=@zC 3 1 b3 0 1 k (by omega);simpa using this
  have a2:∀ {k:IntKind},zG (some (some 3,1)) (.pointer (some ⟨b3,0,none⟩)) (.int k 2)=some (.pointer (some ⟨b3,2,none⟩)):=fun {k}=>by
   have:=@zC 3 1 b3 0 2 k (by omega);simpa using this
  rw[a0,za,l4.ld (i:=2) rfl,Du f (by omega),za,a1,za,l4.ld (i:=2) rfl,Du f (by omega),za,a2,za,l4.ld (i:=2) rfl,Du f (by omega),za,e0,e1,e2,TG,za];refine of3 (by omega) (fun H5 e5 _=>?_) (fun H5 e5 kG=>absurd hg kG);rw[show zq (.tuple #[.agg (zf B L I).cells,.int .i64 0]) 0=some (.agg (zf B L I).cells) from rfl,za,show zq (.tuple #[.agg (zf B L I).cells,.int .i64 0]) 1=some (zg 0) from rfl,za];refine(l4.ext e5).jc fun b4 H6 _ l6=>?_;refine l6.jE (i:=3) rfl rfl (kh.size _) (kh.Ns _) fun H7 l7=>?_;rw[l7.je (i:=3) (n:=9) rfl (kh.size _),za];refine adC (by omega) hg fun H8 e8=>?_;rw[hc,show zq (.tuple #[.agg c,zg 0]) 0=some (.agg c) from rfl,za,show zq (.tuple #[.agg c,zg 0]) 1=some (zg 0) from rfl,za];refine(l7.ext e8).jc fun b5 H9 _ l9=>?_;refine l9.jE (i:=4) rfl zw hb.size hb.ok fun mX mn=>?_;have mn:Lx H mX [.box b1 c 65,.box b2 vQ 62,.box b3 (a3 f) 252,.box b4 (zf B L I).cells 62,.box b5 c 65]:=mn;refine Zg.mk (fun t H'=>H'=mX/\t.1=.bool false) ?_ ?_
  ·rintro⟨t,u⟩ mN ⟨rfl,ht⟩;simp only at ht;subst ht;rw[zh,mn.je (i:=3) (n:=9) rfl (kh.size _),za];exact mn.ret (i:=1) (K:=fun x H4=>R (.tuple #[x,zg 0]) H4) rfl rfl (kh.size _) (kh.Ns _) fun H' l'=>k H' l'.iZ
  ·rw[zn,za,cH (by omega),zh,za,zh,mn.je (i:=4) (n:=1024) rfl hb.size,za,mn.je (i:=0) (n:=1024) rfl hb.size,za,Yy,eqB HE hb hb,iR,za];simp only[decide_true,iW,zh];rw[za,mn.ld (i:=2) rfl,Du f (by omega),za,e0,zJ,za,cH (by omega)];exact⟨trivial,rfl⟩
end
theorem Pn(B B' L I a b c d e f:Int)(x:Option Addr)(n m:Nat):zo TP 188 [(0,.agg #[zg B,.slice x n m]),(1,.agg (kh.cells ⟨B',L,I,a,b,c,d,e,f⟩)),(2,.agg Dx)]=some (.agg #[zg B,.slice x n m,zg B',zg L,zg I,zg a,zg b,zg c,zg d,zg e,zg f,.slice none 0 0]):=by kernel_rfl
theorem sN:zv Dx:=by unfold zv;rw[<- iV];rfl
section
variable{H:Hp}{R:Value->Hp->Prop}{d:Nat}{dv:Value}{B L I:Int}{l:List (Int × jn)}
theorem Bj{a:Int}(k:R (.bool (decide (0<=a/\a<1024))) H):Fc TP 198 #[zg a] H R:=by
 refine fn198 ?_;simp only[sh198,Ub,Uv,U0];rw[zN,za,zb];refine⟨fun h=>?_,fun h=>?_⟩
 ·rw[zk,za,show decide (a<1024)=decide (0<=a/\a<1024) from ZO ⟨fun e=>⟨h,e⟩,fun e=>e.2⟩];exact k
 ·rw[show decide (0<=a/\a<1024)=false from cH fun e=>h e.1]at k;exact k
theorem ajd(k:∀ H',Ext H H'->R (.int .u32 0) H'):Fc TP 172 #[.agg zB,zg 0] H R:=by
 refine fn172 ?_;simp only[sh172,UL,Uf,Uv];refine(Lo.start _ H:Lx H H []).jc fun b1 H1 _ l1=>?_;rw[l1.je (i:=0) (n:=1024) rfl zw,za];refine fn193 ?_;simp only[sh193,Ul,Ub,Uf,Uk,Uu,Uj,Uo,Uv,U1,zm];refine l1.jc fun b2 H2 _ l2=>?_;refine Zg.mk (fun t H'=>H'=H2/\t.1=.bool false) ?_ ?_
 ·rintro⟨t,u⟩ H3 ⟨rfl,ht⟩;simp only at ht;subst ht;rw[zh,zP,za,zd (by omega) (by omega)];refine zF.mk (fun t H'=>H'=H3/\∃ j:Nat,j<=4/\t=(.int .u32 0,zg (3 - (j:Int)),())) (fun t _=>mi t.2.1 fun x=>(x+1).toNat) ⟨rfl,0,by omega,rfl⟩ ?_;rintro _ H4 ⟨rfl,j,hj,rfl⟩;rw[zN,za,zb];refine⟨fun lA=>?_,fun kc=>k _ l2.iZ⟩;rw[zW,za,ZB (by omega) (by omega),ze,za,zd (by omega) (by omega),show(0:Int)+(3 - (j:Int))=((3 - j:Nat):Int) by omega,zC (by omega),za,aR,iX,l2.ld (i:=1) rfl,BD (by omega),za,zz,za,ZB (by omega) (by omega),ze,za,ZB (by omega) (by omega),zP,za,zd (by omega) (by omega)];refine⟨⟨rfl,j+1,by omega,?_⟩,by simp only[zu];omega⟩;rw[show(3 - (j:Int) - 1)=3 - ((j+1:Nat):Int) by omega];rfl
 ·refine Bj ?_;rw[gU (by omega),zx,za,iW,zh,ze,za,zd (by omega) (by omega),zP,za,zd (by omega) (by omega)];refine Bj ?_;rw[gU (by omega),zx,za,iW];exact⟨rfl,rfl⟩
theorem ajR{x:kh}(hL:1<=x.L/\x.L<=9223372036854775807)(k:∀ H',Ext H H'->R (.bool true) H'):Fc TP 173 #[.agg x.cells,.agg Dx] H R:=by
 refine fn173 ?_;simp only[sh173,Ul,UA,Ub,Ui,Ug,Uj,Uo,Uv,U1,U0,zm];refine(Lo.start _ H:Lx H H []).jc fun b1 H1 _ l1=>?_;refine l1.jc fun b2 H2 _ l2=>?_;have z0:Dx[0]?=some (.slice none 0 0):=rfl;have x1:x.cells[1]?=some (zg x.L):=rfl;simp only[zc,aR,bH,za];rw[l2.ld (i:=1) rfl,z0,za,rF,za,l2.ld (i:=0) rfl,x1,za,zP,za,zd (by omega) (by omega),zJ,za,cH (by omega),zh];refine zF.mk (fun t H'=>H'=H2/\t=(zg 0,())) (fun _ _=>0) ⟨rfl,rfl⟩ ?_;rintro _ H3 ⟨rfl,rfl⟩;rw[l2.ld (i:=1) rfl,z0,za,rF,za,zk,za,cH (by omega),zh];exact k _ l2.iZ
theorem Tf(hg:Zy B L I)(k:∀ H',Ext H H'->R (.tuple #[.agg Dx,zg 0]) H'):Fc TP 133 #[.agg (zf B L I).cells,.agg zB] H R:=by
 obtain⟨xP,xO,wI,xQ,vP,vO,gD⟩:=id hg;have c1:(zf B L I).cells[1]?=some (zg L):=rfl;refine fn133 ?_;simp only[sh133,Ul,UL,UA,Us,Ub,Uz,Uf,Uw,Uu,Uo,Uv,oN,za,zm];refine(Lo.start _ H:Lx H H []).jc fun b1 H1 _ l1=>?_;refine l1.jc fun b2 H2 _ l2=>?_;refine l2.jc fun b3 H3 _ l3=>?_;rw[l3.je (i:=0) (n:=9) rfl (kh.size _),za];refine M6 (by omega) hg fun H4 e4=>?_;have l4:=l3.ext e4;rw[zx,za,iW,zh,l4.je (i:=1) (n:=1024) rfl zw,za];refine ajd fun H5 e5=>?_;have l5:=l4.ext e5;rw[zz,za,zd (by omega) (by omega),zc,za,zc,za,aR,l5.ld (i:=0) rfl,c1,za,zP,za,zd (by omega) (by omega),zJ,za,cH (by omega),zh];refine l5.jc fun b6 H6 _ l6=>?_;refine zF.mk (fun t H'=>H'=H6/\t=(zg 0,())) (fun _ _=>0) ⟨rfl,rfl⟩ ?_;rintro _ H7 ⟨rfl,rfl⟩;rw[zk,za,cH (by omega),zh,l6.je (i:=0) (n:=9) rfl (kh.size _),za,l6.je (i:=3) (n:=1) rfl rfl,za];refine ajR (x:=zf B L I) (show 1<=L/\L<=9223372036854775807 by omega) fun H8 e8=>?_;have l8:=l6.ext e8;rw[zx,za,iW,zh,l8.je (i:=3) (n:=1) rfl rfl,za];exact l8.ret (i:=2) (K:=fun x H4=>R (.tuple #[x,zg 0]) H4) rfl rfl rfl sN fun H' l'=>k H' l'.iZ
structure PD(H:Hp)(dv:Value)(B L I:Int)(l:List (Int × jn)):Prop where
 rd:Sr 1025 H dv (l.map zy)
 whole:HN B (-1) l
 is:∀ x∈l,jR x.2
 len:l.length<=1048576
 ok:Zy B L I
 sup:z9 l 0=yb (zf B L I)
 hd:z9 l 1=zB
theorem abF(h:PD H dv B L I l)(k:∀ H' d,Ext H H'->Lk H' d dv B L I l->R (.tuple #[zD d,.slice none 0 0]) H'):Fc TP 116 #[.agg #[zg B,dv]] H R:=by
 obtain⟨xP,xO,wI,xQ,vP,vO,gD⟩:=id h.ok
 have apj:jR (yb (zf B L I)):=qv _ 9
 obtain⟨vb,vc,ev⟩:=h.rd.len
 have d0:(#[zg B,dv]:Array Value)[0]?=some (zg B):=rfl
 have c3:(zf B L I).cells[3]?=some (zg 1):=rfl
 refine fn116 ?_
 simp only[sh116,Ul,UL,UA,Us,Ub,Uz,Ux,Uf,Uw,Uv,zm]
 refine(Lo.start _ H:Lx H H []).jc fun b1 H1 _ l1=>?_
 have l1:Lx H H1 [.box b1 #[zg B,dv] 81]:=l1
 rw[l1.je (i:=0) (n:=2) rfl rfl,za]
 refine UT ⟨vP,vO⟩ (h.rd.ext l1.iZ) h.whole h.len fun H2 e2=>?_
 have l2:=l1.ext e2
 rw[zn,za,cH (by omega),zh,l2.je (i:=0) (n:=2) rfl rfl,za]
 refine⟨.agg (yb (zf B L I)),fun oZ e''=>adU (h.rd.ext (l2.iZ.trans e'')) h.is h.len fun H3 e3=>⟨by rw[h.sup],e3⟩,?_⟩
 rw[zc,za,aR,l2.ld (i:=0) rfl,d0,za]
 have x3:∀ {a b:Value},zq (.tuple #[a,b]) 0=some a:=rfl
 have x4:∀ {a b:Value},zq (.tuple #[a,b]) 1=some b:=rfl
 have fin:∀ {H':Hp} {b2 b3:Nat},Lx H H' [.box b1 #[zg B,dv] 81,.box b2 (zf B L I).cells 62,.box b3 Dx 151] ->
     Pu (zX (some (some 2)) (zD b1) H') fun x77=>Pu (zX (some (some 9)) (zD b2) H') fun x78=>Pu (zX (some (some 1)) (zD b3) H') fun x79=>Pu (zo TP 188 [(0,x77),(1,x78),(2,x79)]) fun x80=>kT 188 x80 H' fun x81 H55=>R (.tuple #[x81,(.slice none 0 0)]) H55:=by
   intro H' b2 b3 l3
   rw[l3.je (i:=0) (n:=2) rfl rfl,za,l3.je (i:=1) (n:=9) rfl (kh.size _),za,l3.je (i:=2) (n:=1) rfl rfl,za]
   subst ev
   unfold zf
   rw[Pn,za]
   refine l3.jc fun d H4 e4 l4=>?_
   exact k H4 d l4.iZ ⟨l4.at (i:=3) rfl,h.rd.ext l4.iZ,h.is,h.len,h.ok⟩
 have qz:∀ {H':Hp},Ext H H'->QC true TP 150 #[.agg #[zg B,dv],zg 1] H' (.agg zB):=fun e oZ e''=>adU (h.rd.ext (e.trans e'')) h.is h.len fun H3 e3=>⟨by rw[h.hd],e3⟩
 refine⟨?_,?_,trivial⟩
 · rw[zj]
   intro H3 e3
   refine ahO h.ok fun H4 e4=>?_
   rw[x3,za,x4,za,zj]
   intro H5 e5
   rw[yq,za]
   refine(((l2.ext e3).ext e4).ext e5).jc fun b2 H6 _ l6=>?_
   rw[zj]
   intro H7 e7
   refine(l6.ext e7).jE (i:=1) (n:=9) rfl rfl (kh.size _) (kh.Ns _) fun H8 l8=>?_
   rw[zj]
   intro H9 e9
   have l9:Lx H H9 [.box b1 #[zg B,dv] 81,.box b2 (zf B L I).cells 62]:=l8.ext e9
   rw[zn,za,cH (by omega),zh,l9.je (i:=1) (n:=9) rfl (kh.size _),za,l9.je (i:=0) (n:=2) rfl rfl,za,zc,za,aR,l9.ld (i:=1) rfl,c3,za]
   refine⟨_,qz l9.iZ,?_⟩
   refine⟨?_,?_,trivial⟩
   · rw[zj]
     intro K1 f1
     refine Tf h.ok fun K2 f2=>?_
     rw[x3,za,x4,za,zj]
     intro K3 f3
     rw[oN,za]
     refine(((l9.ext f1).ext f2).ext f3).jc fun b3 K4 _ mn=>?_
     rw[zj]
     intro K5 f5
     refine(mn.ext f5).jE (i:=2) (n:=1) rfl rfl rfl sN fun K6 lO=>?_
     rw[zj]
     intro K7 f7
     rw[zn,za,cH (by omega),zh]
     exact fin (lO.ext f7)
   · rw[zj]
     intro K1 f1
     rw[oN,za]
     refine(l9.ext f1).jc fun b3 K2 _ mn=>?_
     rw[zj]
     intro K3 f3
     refine Tf h.ok fun K4 f4=>?_
     rw[x3,za,x4,za,zj]
     intro K5 f5
     refine(((mn.ext f3).ext f4).ext f5).jE (i:=2) (n:=1) rfl rfl rfl sN fun K6 lO=>?_
     rw[zj]
     intro K7 f7
     rw[zn,za,cH (by omega),zh]
     exact fin (lO.ext f7)
 · rw[zj]
   intro H3 e3
   rw[yq,za]
   refine(l2.ext e3).jc fun b2 H4 _ l4=>?_
   rw[zj]
   intro H5 e5
   refine ahO h.ok fun H6 e6=>?_
   rw[x3,za,x4,za,zj]
   intro H7 e7
   refine(((l4.ext e5).ext e6).ext e7).jE (i:=1) (n:=9) rfl rfl (kh.size _) (kh.Ns _) fun H8 l8=>?_
   rw[zj]
   intro H9 e9
   have l9:Lx H H9 [.box b1 #[zg B,dv] 81,.box b2 (zf B L I).cells 62]:=l8.ext e9
   rw[zn,za,cH (by omega),zh,l9.je (i:=1) (n:=9) rfl (kh.size _),za,l9.je (i:=0) (n:=2) rfl rfl,za,zc,za,aR,l9.ld (i:=1) rfl,c3,za]
   refine⟨_,qz l9.iZ,?_⟩
   refine⟨?_,?_,trivial⟩
   · rw[zj]
     intro K1 f1
     refine Tf h.ok fun K2 f2=>?_
     rw[x3,za,x4,za,zj]
     intro K3 f3
     rw[oN,za]
     refine(((l9.ext f1).ext f2).ext f3).jc fun b3 K4 _ mn=>?_
     rw[zj]
     intro K5 f5
     refine(mn.ext f5).jE (i:=2) (n:=1) rfl rfl rfl sN fun K6 lO=>?_
     rw[zj]
     intro K7 f7
     rw[zn,za,cH (by omega),zh]
     exact fin (lO.ext f7)
   · rw[zj]
     intro K1 f1
     rw[oN,za]
     refine(l9.ext f1).jc fun b3 K2 _ mn=>?_
     rw[zj]
     intro K3 f3
     refine Tf h.ok fun K4 f4=>?_
     rw[x3,za,x4,za,zj]
     intro K5 f5
     refine(((mn.ext f3).ext f4).ext f5).jE (i:=2) (n:=1) rfl rfl rfl sN fun K6 lO=>?_
     rw[zj]
     intro K7 f7
     rw[zn,za,cH (by omega),zh]
     exact fin (lO.ext f7)
end
end Go.Vc
