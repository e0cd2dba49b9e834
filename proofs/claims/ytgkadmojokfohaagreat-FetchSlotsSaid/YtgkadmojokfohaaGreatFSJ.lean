/- Parts of a proof, joined in build order: a calculus of contracts, contracts of functions. -/
import Derived.Test.YtgkadmojokfohaaGreatFSI
import Derived.Test.YtgkadmojokfohaaGreatFSG
set_option linter.unusedVariables false
set_option linter.unusedSimpArgs false
namespace Go.Vc
open Go.Proofs Classical
structure FSt (x:Lay) (mine:Int) (V:Int→Blk) (n:Int) (P:PSt):Prop where
 ok:POk x mine P
 view:∀ b,ZW P.s P.cs b=V b
 made:P.s.made=0
 reads:P.s.reads≤n
theorem FSt.rd {x:Lay} {mine:Int} {V:Int→Blk} {n m k:Int} {P:PSt} {s':DS} {cs':List Pl} (h:FSt x mine V n P) (hr:Rd x P s' cs' m) (hk:n+m≤k) (hm:k<4611686018427387904):FSt x mine V k { P with s:=s',cs:=cs' }:=by
 have h1:=h.reads
 have h2:=hr.reads
 exact ⟨hr.ok h.ok (by omega),fun b=>(hr.view b).trans (h.view b),hr.made.trans h.made,by show s'.reads≤_; omega⟩
theorem FSt.mono {x:Lay} {mine:Int} {V:Int→Blk} {n k:Int} {P:PSt} (h:FSt x mine V n P) (hk:n≤k):FSt x mine V k P:={ h with reads:=by have:=h.reads; omega }
theorem sv_row {H:Hp} {b T n:Nat} {cs:Array Value} (h:H[b]?=some (.cells cs T)) (hn:cs.size=n):Sv T 1 H (.slice (some ⟨b,0,none⟩) n n) (cs.toList.map fun v=>#[v]):=by
 have hl:(cs.toList.map fun v=>#[v]).length=n:=by rw [List.length_map,Array.length_toList,hn]
 refine ⟨some ⟨b,0,none⟩,n,by rw [hl],by rw [hl]; exact Nat.le_refl _,fun v hv=>?_,rfl,_,h,by show 0+n*1≤_; omega,fun i v hi=>?_⟩
 · obtain ⟨j,_,rfl⟩:=List.mem_map.1 hv; rfl
 · rw [List.getElem?_map,Array.getElem?_toList] at hi
   have hil:i<n:=by
     rcases Nat.lt_or_ge i n with h1 | h1
     · exact h1
     · rw [Array.getElem?_eq_none (by omega)] at hi; cases hi
   rw [Array.getElem?_eq_getElem (by omega)] at hi
   injection hi with hi
   rw [← hi]
   refine yv rfl (by show 0+i*1+1≤_; omega) fun j hj=>?_
   obtain rfl:j=0:=by omega
   show cs[0+i*1+0]?=_
   rw [show 0+i*1+0=i by omega,Array.getElem?_eq_getElem (by omega)]; rfl
theorem New.row {H H':Hp} {T n b m c:Nat} {vs:List (Array Value)} (hb:H.size=b) (hs:H'.size=b+1) (h:Sv T n H' (.slice (some ⟨b,0,none⟩) m c) vs):New H H' (.sl T n (.slice (some ⟨b,0,none⟩) m c) vs):=
 ⟨(·=b),⟨⟨h,fun x hx=>by injection hx with hx; exact hx.symm⟩,fun x hx=>by omega⟩,fun x hx=>by omega⟩
def natN (p:Nat):Array Value:=#[zm (p:Int)]
def wayC (d a b:Nat):Array Value:=#[.int .u8 d,zm a,zm b]
theorem zeroWay:zD Tryz.prog 249=some (.agg (wayC 0 0 0)):=by kernel_rfl
theorem buildWay2 (d a:Int):zu Tryz.prog 249 [(0,.int .u8 d),(1,zm a)]=some (.agg #[.int .u8 d,zm a,zm 0]):=by kernel_rfl
theorem buildWay3 (d a b:Int):zu Tryz.prog 249 [(0,.int .u8 d),(1,zm a),(2,zm b)]=some (.agg #[.int .u8 d,zm a,zm b]):=by kernel_rfl
theorem wayC_ok (d a b:Nat):zF (wayC d a b):=by unfold zF; rw [← Array.all_toList]; rfl
def chC (lb i:Nat) (f:Ino):Array Value:=#[z6 lb,zm i,.int .u16 (f 0),.int .u16 (f 1),.int .u32 (f 2),.int .u32 (f 3),.int .u32 (f 4),.int .u32 (f 5),.int .u32 (f 6),.int .u32 (f 7),.int .u32 (f 8),.int .u32 (f 9),.int .u32 (f 10),.int .u32 (f 11),.int .u32 (f 12),.int .u32 (f 13),.int .u32 (f 14),.int .u32 (f 15)]
theorem chC_get (lb i:Nat) (f:Ino):∀ j,2≤j→j<16→(chC lb i f)[2+j]?=some (.int .u32 (f j))
 | 0,h,_ | 1,h,_=>by omega
 | 2,_,_ | 3,_,_ | 4,_,_ | 5,_,_ | 6,_,_ | 7,_,_ | 8,_,_ | 9,_,_ | 10,_,_ | 11,_,_ | 12,_,_ | 13,_,_ | 14,_,_ | 15,_,_=>rfl
 | _+16,_,h=>by omega
theorem buildCh (lb i:Nat) (f:Ino):zu Tryz.prog 200 [(0,z6 lb),(1,zm i),(2,.agg (Zs f))]=some (.agg (chC lb i f)):=by kernel_rfl
theorem newInt1 (a:Int):zH (some eIn) 1 [(0,zm a)]=some #[zm a]:=by kernel_rfl
theorem newInt2 (a b:Int):zH (some eIn) 2 [(0,zm a),(1,zm b)]=some #[zm a,zm b]:=by kernel_rfl
noncomputable def infI:TypeInfo:=(Tryz.prog.info? 3).getD default
theorem infI_e:Tryz.prog.info? 3=some infI:=by kernel_rfl
theorem infI_s:infI.size=1:=by kernel_rfl
theorem ino_small {f:Ino} (hf:InoOk f) {j:Nat} (h2:2≤j) (h:j<16):f j<4294967296:=by
 have:=hf j h
 unfold fw at this
 rw [if_neg (by omega)] at this
 exact this
section
variable {S:Nat→Prop} {H0 H:Hp} {R:Value→Hp→Prop} {lb p fb:Nat} {mine:Int} {O:Nat→Prop} {B L I:Int} {V:Int→Blk} {n:Int} {P:PSt}
theorem plan_way {i:Nat} (hi:i<65802) (k:∀ H',Ext H H'→R (.agg (if i<10 then wayC 1 i 0 else if i<266 then wayC 2 (i - 10) 0 else wayC 3 ((i - 266) / 256) ((i - 266) % 256))) H'):Fc Tryz.prog 141 #[zm i] H R:=by
 refine fn141 ?_
 simp only [sh141,zeroWay,za,zt]
 refine (Lo.start _ H:Lx H H []).boxA fun b1 H1 _ l1=>?_
 have l1:Lx H H1 [.box b1 (wayC 0 0 0) 249]:=l1
 refine zS.mk (fun t H'=>t.1=.bool false∧H'=H1) ?_ ?_
 rotate_left
 · rw [zr,za,decide_eq_false (by omega),zn,zQ,za,decide_eq_false (by omega)]
   exact ⟨rfl,rfl⟩
 rintro ⟨t,u⟩ H2 ⟨ht,rfl⟩
 simp only at ht
 subst ht
 rw [zn,zr,za,zf]
 refine ⟨fun h1=>?_,fun h1=>?_⟩
 · rw [show zu Tryz.prog 249 [(0,.int .u8 1),(1,zm i)]=_ from buildWay2 ..,za]
   refine l1.ret (i:=0) (vs:=wayC 1 i 0) rfl rfl rfl (wayC_ok 1 i 0) fun H3 l3=>?_
   have:=k H3 l3.ext0
   rw [if_pos (by omega)] at this; exact this
 · rw [zr,za,zf]
   refine ⟨fun h2=>?_,fun h2=>?_⟩
   · rw [zO,za,zg (by omega) (by omega),show (i:Int) - 10=((i - 10:Nat):Int) by omega,show zu Tryz.prog 249 [(0,.int .u8 2),(1,.int .i64 ((i - 10:Nat):Int))]=_ from buildWay2 ..,za]
     refine l1.ret (i:=0) (vs:=wayC 2 (i - 10) 0) rfl rfl rfl (wayC_ok 2 _ 0) fun H3 l3=>?_
     have:=k H3 l3.ext0
     rw [if_neg (by omega),if_pos (by omega)] at this; exact this
   · rw [zO,za,zg (by omega) (by omega),zO,za,zg (by omega) (by omega),Zh (by decide),za,Zl (by omega),zg (by omega) (by omega),zW (by decide),za,Za (by omega),show ((i:Int) - 10 - 256) / 256=(((i - 266) / 256:Nat):Int) by omega,show ((i:Int) - 10 - 256) % 256=(((i - 266) % 256:Nat):Int) by omega,show zu Tryz.prog 249 [(0,.int .u8 3),(1,.int .i64 (((i - 266) / 256:Nat):Int)),(2,.int .i64 (((i - 266) % 256:Nat):Int))]=_ from buildWay3 ..,za]
     refine l1.ret (i:=0) (vs:=wayC 3 ((i - 266) / 256) ((i - 266) % 256)) rfl rfl rfl (wayC_ok 3 _ _) fun H3 l3=>?_
     have:=k H3 l3.ext0
     rw [if_neg (by omega),if_neg (by omega)] at this; exact this
set_option maxHeartbeats 1000000 in
theorem ch_top {i:Nat} {f:Ino} (hf:InoOk f) {x:Ob} (l:Lo S H0 H [x,.box fb (chC lb i f) 200]) {a:Nat} (ha:a<65802)
   (k:∀ H' v,Lo S H0 H' [x,.box fb (chC lb i f) 200,.sl 3 1 v ((topP a).map natN)]→R (.tuple #[zm (topB f a:Nat),v]) H'):Fc Tryz.prog 101 #[z6 fb,zm a] H R:=by
 have w0:∀ {d a b:Nat},(wayC d a b)[0]?=some (.int .u8 d):=rfl
 have w1:∀ {d a b:Nat},(wayC d a b)[1]?=some (zm a):=rfl
 have w2:∀ {d a b:Nat},(wayC d a b)[2]?=some (zm b):=rfl
 refine fn101 ?_
 simp only [sh101,zeroWay,za,zc,zi,Nat.zero_add]
 refine plan_way ha fun H1 e1=>?_
 generalize hw:(if a<10 then wayC 1 a 0 else if a<266 then wayC 2 (a - 10) 0 else wayC 3 ((a - 266) / 256) ((a - 266) % 256))=w
 have hwd:∃ d q r:Nat,w=wayC d q r∧d<4∧((a<10∧d=1∧q=a)∨(10≤a∧a<266∧d=2∧q=a - 10)∨(266≤a∧d=3∧q=(a - 266) / 256∧r=(a - 266) % 256)):=by
   rw [← hw]
   split
   · exact ⟨1,a,0,rfl,by omega,.inl ⟨by omega,rfl,rfl⟩⟩
   · split
     · exact ⟨2,a - 10,0,rfl,by omega,.inr (.inl ⟨by omega,by omega,rfl,rfl⟩)⟩
     · exact ⟨3,_,_,rfl,by omega,.inr (.inr ⟨by omega,rfl,rfl,rfl⟩)⟩
 obtain ⟨d,q,r,rfl,hd,hc⟩:=hwd
 refine (l.ext e1).boxA fun b2 H2 _ l2=>?_
 refine l2.stAll (i:=2) rfl rfl rfl (wayC_ok _ _ _) fun H3 l3=>?_
 have l3:Lo S H0 H3 [x,.box fb (chC lb i f) 200,.box b2 (wayC d q r) 249]:=l3
 simp only [zi,Nat.zero_add,za]
 rw [l3.ld (i:=2) rfl,w0,za,zy,za,zf]
 refine ⟨fun h1=>?_,fun h1=>?_⟩
 · obtain ⟨h2,rfl,rfl⟩:a<10∧d=1∧q=a:=by omega
   rw [l3.ld (i:=2) rfl,w1,za,zG (by omega),za,show 2+4+q*1=2+(4+q) by omega,l3.ld (i:=1) rfl,chC_get _ _ _ _ (by omega) (by omega),za,zE,za]
   have hs:=ino_small hf (j:=4+q) (by omega) (by omega)
   rw [zv (by omega)]
   have l4:=(l3.takeN 2).nilS 3 1
   have:=k H3 (.slice none 0 0) (by unfold topP; rw [if_pos h2]; exact l4)
   unfold topB at this
   rw [if_pos h2] at this; exact this
 · rw [zy,za,zf]
   refine ⟨fun h2=>?_,fun h2=>?_⟩
   · obtain ⟨h3,h4,rfl,rfl⟩:10≤a∧a<266∧d=2∧q=a - 10:=by omega
     have hs:=ino_small hf (j:=14) (by omega) (by omega)
     have g14:(chC lb i f)[2+14]?=some (.int .u32 (f 14)):=chC_get _ _ _ 14 (by omega) (by omega)
     rw [l3.ld (i:=1) rfl,g14,za,zE,za,zv (by omega),l3.ld (i:=2) rfl,w1,za,zl]
     intro H5 e5
     rw [elIn,za,newInt1,za]
     refine newS_i fun b H4 hb e4 hs4 g4=>?_
     rw [eIn_f.1] at g4
     rw [zl]
     intro H6 e6
     have l4:=(((l3.takeN 2).ext e5).new e4 (New.row hb hs4 (sv_row g4 rfl))).ext e6
     have:=k H6 _ (by unfold topP; rw [if_neg (by omega),if_pos h4]; exact l4)
     unfold topB at this
     rw [if_neg (by omega),if_pos h4] at this; exact this
   · obtain ⟨h3,hd3,hq3,hr3⟩:266≤a∧d=3∧q=(a - 266) / 256∧r=(a - 266) % 256:=by omega
     have hs:=ino_small hf (j:=15) (by omega) (by omega)
     have g15:(chC lb i f)[2+15]?=some (.int .u32 (f 15)):=chC_get _ _ _ 15 (by omega) (by omega)
     rw [l3.ld (i:=1) rfl,g15,za,zE,za,zv (by omega),l3.ld (i:=2) rfl,w1,za,l3.ld (i:=2) rfl,w2,za,zl]
     intro H5 e5
     rw [elIn,za,newInt2,za]
     refine newS_i fun b H4 hb e4 hs4 g4=>?_
     rw [eIn_f.1] at g4
     rw [zl]
     intro H6 e6
     have l4:=(((l3.takeN 2).ext e5).new e4 (New.row hb hs4 (sv_row g4 rfl))).ext e6
     have:=k H6 _ (by unfold topP; rw [if_neg (by omega),if_neg (by omega),← hq3,← hr3]; exact l4)
     unfold topB at this
     rw [if_neg (by omega),if_neg (by omega)] at this; exact this
theorem ch_good {i b:Nat} {f:Ino} (h:(yY lb p (zp B L I) mine P).at_ H O) (hok:POk (zp B L I) mine P) (ht:H[fb]?=some (.cells (chC lb i f) 200)) (hb:gdP (zp B L I).dataAt B b) (k:∀ H',Ext H H'→R (.int .i64 0) H'):Fc Tryz.prog 142 #[z6 fb,zm b] H R:=by
 have c8:(zp B L I).cells[8]?=some (zm (zp B L I).dataAt):=rfl
 have c0:(zp B L I).cells[0]?=some (zm B):=rfl
 refine fn142 ?_
 simp only [sh142,zc,zi,Nat.zero_add,Nat.add_zero,za,yp,zt]
 rw [zq ht,show (chC lb i f)[0]?=some (z6 lb) from rfl,za]
 refine pl_layout h hok fun H1 e1=>?_
 refine ((Lo.start _ H:Lx H H []).ext e1).boxA fun b1 H2 _ l2=>?_
 refine l2.stAll (i:=0) rfl rfl (Lay.size _) (Lay.cok _) fun H3 l3=>?_
 have l3:Lx H H3 [.box b1 (zp B L I).cells 74]:=l3
 refine zS.mk (fun t H'=>t.1=.bool false∧H'=H3) ?_ ?_
 · rintro ⟨t,u⟩ H4 ⟨ht,rfl⟩
   simp only at ht
   subst ht
   rw [zn]; exact k H4 l3.ext0
 · rw [zw,za,zf]
   refine ⟨fun h0=>?_,fun h0=>⟨rfl,rfl⟩⟩
   rcases hb with hb | hb
   · omega
   rw [zi,za,Nat.zero_add,l3.ld (i:=0) rfl,c8,za,zr,za,decide_eq_false (by omega),zn,zi,za,zi,za,Nat.zero_add,l3.ld (i:=0) rfl,c0,za,zQ,za,decide_eq_false (by omega)]
   exact ⟨rfl,rfl⟩
set_option maxHeartbeats 1000000 in
theorem ch_down (hg:Zd B L I) {i:Nat} {f:Ino}:∀ (ps:List Nat) {H:Hp} {R:Value→Hp→Prop} {P:PSt} {n:Int} {b:Nat} {v:Value} (l:Lo S H0 H [yY lb p (zp B L I) mine P,.box fb (chC lb i f) 200,.sl 3 1 v (ps.map natN)]) (hs:FSt (zp B L I) mine V n P) (hn:n+ps.length<4611686018427387904) (hgd:dnG V (zp B L I).dataAt B b ps)
   (k:∀ H' P',Lo S H0 H' [yY lb p (zp B L I) mine P',.box fb (chC lb i f) 200]→FSt (zp B L I) mine V (n+ps.length) P'→R (.tuple #[zm (dnV V b ps:Nat),zm (dnN V b ps:Nat),.int .i64 0]) H'),Fc Tryz.prog 102 #[z6 fb,zm b,v] H R:=by
 intro ps
 induction ps with
 | nil=>
   intro H R P n b v l hs hn hgd k
   refine fn102 ?_
   simp only [sh102,zc,zi,Nat.zero_add,Nat.add_zero,za]
   obtain ⟨O,h,st⟩:=l.call (i:=0) rfl
   refine ch_good h hs.ok (l.at (i:=1) rfl) hgd.gd fun H1 e1=>?_
   have l1:=l.ext e1
   have hk:=k H1 P (l1.takeN 2) (hs.mono (by omega))
   unfold dnV dnN at hk
   rw [zw,za,decide_eq_false (by omega),zn,zy,za,zf]
   refine ⟨fun h0=>?_,fun h0=>?_⟩
   · obtain rfl:b=0:=by omega
     rw [if_pos rfl] at hk; exact hk
   · rw [if_neg (by omega)] at hk
     rw [(l1.sv (i:=2) rfl).sr.lenE undInts,za,zy,za,decide_eq_true (by rfl),Zm]
     exact hk
 | cons q ps ih=>
   intro H R P n b v l hs hn hgd k
   have hr1:=hs.reads
   have hr2:=hs.ok.reads
   have x3:∀ {a b c:Value},ze (.tuple #[a,b,c]) 0=some a:=rfl
   have x4:∀ {a b c:Value},ze (.tuple #[a,b,c]) 1=some b:=rfl
   have x5:∀ {a b c:Value},ze (.tuple #[a,b,c]) 2=some c:=rfl
   have y3:∀ {a b:Value},ze (.tuple #[a,b]) 0=some a:=rfl
   have y4:∀ {a b:Value},ze (.tuple #[a,b]) 1=some b:=rfl
   obtain ⟨gL1,gL2,gI1,gI2,gB1,gB2,gD⟩:=id hg
   have hDA:(zp B L I).dataAt=1+L+(I+16) / 16+(B+8191) / 8192:=rfl
   have hBB:(zp B L I).B=B:=rfl
   have hLL:(zp B L I).L=L:=rfl
   rw [List.length_cons] at hn k
   obtain ⟨hgd0,hq,hgd1⟩:=hgd
   refine fn102 ?_
   simp only [sh102,zc,zi,Nat.zero_add,Nat.add_zero,za,ya]
   obtain ⟨O,h,st⟩:=l.call (i:=0) rfl
   refine ch_good h hs.ok (l.at (i:=1) rfl) hgd0 fun H1 e1=>?_
   have l1:=l.ext e1
   rw [zw,za,decide_eq_false (by omega),zn,zy,za,zf]
   refine ⟨fun h0=>?_,fun h0=>?_⟩
   · obtain rfl:b=0:=by omega
     have hk:=k H1 P (l1.takeN 2) (hs.mono (by omega))
     unfold dnV dnN at hk
     rw [if_pos rfl,if_pos rfl] at hk; exact hk
   · rw [(l1.sv (i:=2) rfl).sr.lenE undInts,za,List.length_map,List.length_cons,zy,za,decide_eq_false (by omega),zn,l1.ld (i:=1) rfl,show (chC lb i f)[0]?=some (z6 lb) from rfl,za]
     obtain ⟨O1,h1,st1⟩:=l1.call (i:=0) rfl
     rcases hgd0 with hz | hgd0
     · omega
     refine pl_read h1 hs.ok (a:=(b:Int)) (by omega) (by rw [hBB]; omega) (by rw [hLL]; omega) fun H2 O2 s' cs' s2 h2 hrd hib=>?_
     rw [hs.view] at hib ⊢
     have hs2:FSt (zp B L I) mine V (n+1) { P with s:=s',cs:=cs' }:=hs.rd hrd (by omega) (by omega)
     have l2:=st1 H2 _ O2 s2 h2
     rw [y3,za,y4,za]
     refine l2.boxA fun b3 H3 _ l3=>?_
     refine l3.stAll (i:=3) rfl zJ hib.size hib.ok fun H4 l4=>?_
     have l4:Lo S H0 H4 [yY lb p (zp B L I) mine { P with s:=s',cs:=cs' },.box fb (chC lb i f) 200,.sl 3 1 v ((q :: ps).map natN),.box b3 (V b) 94]:=l4
     rw [zw,za,decide_eq_false (by omega),zn,l4.ldAll (i:=3) (n:=1024) rfl hib.size,za]
     obtain ⟨bb,oo,ha,hl⟩:=(l4.sv (i:=2) rfl).sr.cell (i:=0) (j:=0) (v:=natN q) rfl (by omega)
     rw [Nat.add_zero] at hl
     rw [show zh (some (none,1)) v (.int .i64 0)=_ from ha .i64,za,hl,show (natN q)[0]?=some (zm q) from rfl,za,zX,za,zg (by omega) (by omega),show (4:Int)*(q:Int)=((4*q:Nat):Int) by omega]
     refine ⟨.int .u32 (p4 V b q:Nat),fun H'' _=>slab_u32 hib (by omega) fun H3 e3=>⟨rfl,e3⟩,?_⟩
     have hp4:p4 V b q<4294967296:=leB_lt hib.lt 4 _
     rw [zE,za,zv (by omega)]
     obtain ⟨v',hv',sv',hbl⟩:=(l4.sv (i:=2) rfl).slice undInts infI_e infI_s (lo:=1) (hi':=ps.length+1) (by omega) (by rw [List.length_map,List.length_cons]; exact Nat.le_refl _) (some (zm ((1:Nat):Int))) none (.inl rfl) (.inr ⟨rfl,by rw [List.length_map,List.length_cons]⟩)
     rw [show ZO Tryz.prog 106 v (some (.int .i64 1)) none none=_ from hv',za,zl]
     intro H5 e5
     have el:(((q :: ps).map natN).take (ps.length+1)).drop 1=ps.map natN:=by
       rw [List.map_cons,List.take_succ_cons,List.drop_succ_cons,List.drop_zero,List.take_of_length_le (by rw [List.length_map]; omega)]
     rw [el] at sv'
     have l5:=l4.nth (i:=2) (y:=.sl 3 1 v' (ps.map natN)) rfl fun O' ho=>by
       refine ⟨⟨sv',fun x hx=>ho.1.2 x (hbl x hx)⟩,ho.2⟩
     have l5:Lo S H0 H5 [yY lb p (zp B L I) mine { P with s:=s',cs:=cs' },.box fb (chC lb i f) 200,.sl 3 1 v' (ps.map natN)]:=(l5.takeN 3).ext e5
     refine ih l5 hs2 (by omega) (hgd1 (by omega)) fun H6 P6 l6 hs6=>?_
     rw [x3,za,x4,za,x5,za,zl]
     intro H7 e7
     have hle:=dnN_le V ps (p4 V b q)
     have hk:=k H7 P6 (l6.ext e7) (hs6.mono (by omega))
     have ev:dnV V b (q :: ps)=dnV V (p4 V b q) ps:=by
       show (if b=0 then 0 else _)=_
       rw [if_neg (by omega)]
     have en:dnN V b (q :: ps)=dnN V (p4 V b q) ps+1:=by
       show (if b=0 then 0 else _)=_
       rw [if_neg (by omega)]
     rw [ev,en] at hk
     rw [zk,za,zK,zv (by omega)]
     exact hk
end
theorem elU8:zI Tryz.prog 43=some ⟨5,1,1,#[.int .u8 0]⟩:=by kernel_rfl
theorem undU8s:Tryz.prog.underlying 43=some (.slice 5):=by kernel_rfl
theorem make_bytes {T:TypeId} {l:Nat} {H:Hp} {K:Value × Hp→Prop} (hl:l≤1000000) (h:∀ b H',H.size=b→Ext H H'→H'.size=b+1→H'[b]?=some (.cells ((Array.range l).map fun _=>.int .u8 0) T)→K (.slice (some ⟨b,0,none⟩) l l,H')) :
   Pu (YT (some ⟨T,1,1,#[.int .u8 0]⟩) (zm (l:Nat)) (zm (l:Nat)) H) K:=by
 have hc:(0:Int)≤l∧(l:Int)≤l∧(l:Int)≤2 ^ 48∧((1:Nat):Int)*l≤2 ^ 47∧((l:Int)=0∨(1:Nat)≠0):=⟨by omega,by omega,by omega,by omega,.inr (by decide)⟩
 have he:YT (some ⟨T,1,1,#[.int .u8 0]⟩) (zm (l:Nat)) (zm (l:Nat)) H=some (.slice (some ⟨H.size,0,none⟩) l l,H.push (.cells ((Array.range (l*1)).map ((#[.int .u8 0]:Array Value)[· % 1]!)) T)):=by
   unfold YT
   show (if _ then _ else _)=_
   rw [if_pos hc,Int.toNat_natCast]; rfl
 rw [he,za]
 refine h _ _ rfl (Ext.push H _) (by simp) ?_
 rw [Z8,Nat.mul_one]
 have e:∀ i:Nat,(#[.int .u8 0]:Array Value)[i % 1]! =.int .u8 0:=fun i=>by rw [Nat.mod_one]; rfl
 have e2:(fun x:Nat=>(#[.int .u8 0]:Array Value)[x % 1]!)=fun _=>.int .u8 0:=funext e
 rw [e2]
theorem cellsOk_extract {c:Array Value} (h:zF c) {a b:Nat}:zF (c.extract a b):=by
 unfold zF at h ⊢
 rw [Array.all_eq_true] at h ⊢
 intro i hi
 rw [Array.getElem_extract]
 exact h _ _
section
variable {S:Nat→Prop} {H0 H:Hp} {R:Value→Hp→Prop} {lb p fb:Nat} {mine:Int} {O:Nat→Prop} {B L I:Int} {V:Int→Blk} {n:Int} {P:PSt}
theorem FSt.isB (hs:FSt (zp B L I) mine V n P) (h:(yY lb p (zp B L I) mine P).at_ H O) (a:Int):IsB (V a):=by
 have:=pl_isB h a
 rw [hs.view] at this; exact this
theorem FSt.ino (hs:FSt (zp B L I) mine V n P) (h:(yY lb p (zp B L I) mine P).at_ H O) (i:Nat):InoOk (y8 V L i):=inoOf_ok (hs.isB h _).lt _
theorem ch_open (hg:Zd B L I) {i:Nat} (h0:1≤i) (h1:(i:Int)≤I) (l:Lo S H0 H [yY lb p (zp B L I) mine P]) (hs:FSt (zp B L I) mine V n P) (hn:n+1<4611686018427387904)
   (k:∀ H' P' fb,Lo S H0 H' [yY lb p (zp B L I) mine P',.box fb (chC lb i (y8 V L i)) 200]→FSt (zp B L I) mine V (n+1) P'→R (.tuple #[z6 fb,.int .i64 0]) H'):Fc Tryz.prog 64 #[z6 lb,zm i,.bool false] H R:=by
 have y3:∀ {a b:Value},ze (.tuple #[a,b]) 0=some a:=rfl
 have y4:∀ {a b:Value},ze (.tuple #[a,b]) 1=some b:=rfl
 obtain ⟨O,h,st⟩:=l.call (i:=0) rfl
 refine fn64 ?_
 simp only [sh64,yd,zt,za]
 refine pl_check h hs.ok ?_
 rw [zw,za,decide_eq_false (by omega),zn]
 refine zS.mk (fun t H'=>t.1=.bool false∧H'=H) ?_ ?_
 rotate_left
 · rw [zn]; exact ⟨rfl,rfl⟩
 rintro ⟨t,u⟩ H1 ⟨ht,rfl⟩
 simp only at ht
 subst ht
 rw [zn]
 refine pl_rack h hs.ok hg h0 h1 fun H2 O2 s' cs' s2 h2 hrd=>?_
 have l2:=st H2 _ O2 s2 h2
 have ei:Zu (ZW P.s P.cs (1+L+((i / 16:Nat):Int))) (64*(i % 16))=y8 V L i:=by unfold y8; rw [hs.view]
 rw [y3,za,y4,za,ei]
 refine l2.boxA fun b1 H3 _ l3=>?_
 refine l3.stAll (i:=1) rfl (zz _) (zz _) (Z0 _) fun H4 l4=>?_
 have l4:Lo S H0 H4 [yY lb p (zp B L I) mine { P with s:=s',cs:=cs' },.box b1 (Zs (y8 V L i)) 88]:=l4
 rw [zw,za,decide_eq_false (by omega),zn,l4.ldAll (i:=1) (n:=16) rfl (zz _),za,buildCh,za]
 refine l4.boxA fun fb H5 _ l5=>?_
 exact k H5 _ fb (l5.pick [0,2] (by decide) (by simp)) (hs.rd hrd (by omega) (by omega))
theorem ch_at (hg:Zd B L I) {i:Nat} {f:Ino} (hf:InoOk f) (l:Lo S H0 H [yY lb p (zp B L I) mine P,.box fb (chC lb i f) 200]) (hs:FSt (zp B L I) mine V n P) (hn:n+2<4611686018427387904) (hgd:GdF V (zp B L I).dataAt B f) {a:Nat} (ha:a<65802)
   (k:∀ H' P' m,Lo S H0 H' [yY lb p (zp B L I) mine P',.box fb (chC lb i f) 200]→FSt (zp B L I) mine V (n+2) P'→R (.tuple #[zm (yh V f a:Nat),m,.int .i64 0]) H'):Fc Tryz.prog 65 #[z6 fb,zm a] H R:=by
 have x3:∀ {a b c:Value},ze (.tuple #[a,b,c]) 0=some a:=rfl
 have x4:∀ {a b c:Value},ze (.tuple #[a,b,c]) 1=some b:=rfl
 have x5:∀ {a b c:Value},ze (.tuple #[a,b,c]) 2=some c:=rfl
 have y3:∀ {a b:Value},ze (.tuple #[a,b]) 0=some a:=rfl
 have y4:∀ {a b:Value},ze (.tuple #[a,b]) 1=some b:=rfl
 have htl:=topP_len a
 refine fn65 ?_
 simp only [sh65]
 refine ch_top hf l ha fun H1 v l1=>?_
 rw [y3,za,y4,za]
 have hlen:=(l1.sv (i:=2) rfl).sr.lenE undInts
 refine ch_down hg _ l1 hs (by omega) (dnG_top hgd ha) fun H2 P' l2 hs2=>?_
 have hle:=dnN_le V (topP a) (topB f a)
 rw [x3,za,x4,za,x5,za,zw,za,decide_eq_false (by omega),zn,hlen,za,List.length_map,zk,za,zg (by omega) (by omega),zO,za,dnV_top]
 exact k H2 P' _ l2 (hs2.mono (by omega))
theorem chart_at (hg:Zd B L I) {i:Nat} (h0:1≤i) (h1:(i:Int)≤I) (h:(yY lb p (zp B L I) mine P).at_ H O) (hs:FSt (zp B L I) mine V n P) (hn:n+3<4611686018427387904) (hgd:GdF V (zp B L I).dataAt B (y8 V L i)) {a:Nat} (ha:a<65802)
   (k:∀ H' O' P',Stp O O' H H'→(yY lb p (zp B L I) mine P').at_ H' O'→FSt (zp B L I) mine V (n+3) P'→R (.tuple #[zm (yh V (y8 V L i) a:Nat),.int .i64 0]) H'):Fc Tryz.prog 26 #[z6 lb,zm i,zm a] H R:=by
 have x3:∀ {a b c:Value},ze (.tuple #[a,b,c]) 0=some a:=rfl
 have x4:∀ {a b c:Value},ze (.tuple #[a,b,c]) 1=some b:=rfl
 have x5:∀ {a b c:Value},ze (.tuple #[a,b,c]) 2=some c:=rfl
 have y3:∀ {a b:Value},ze (.tuple #[a,b]) 0=some a:=rfl
 have y4:∀ {a b:Value},ze (.tuple #[a,b]) 1=some b:=rfl
 refine fn26 ?_
 simp only [sh26,zt]
 refine ch_open hg h0 h1 (Lo.own h) hs (by omega) fun H1 P1 fb l1 hs1=>?_
 rw [y3,za,y4,za,zw,za,decide_eq_false (by omega),zn]
 refine zS.mk (fun t H'=>t.1=.bool false∧H'=H1) ?_ ?_
 rotate_left
 · rw [zr,za,decide_eq_false (by omega),zn,zQ,za,decide_eq_false (by omega)]
   exact ⟨rfl,rfl⟩
 rintro ⟨t,u⟩ H2 ⟨ht,rfl⟩
 simp only at ht
 subst ht
 rw [zn]
 refine ch_at hg (hs.ino h i) l1 hs1 (by omega) hgd ha fun H3 P3 m l3 hs3=>?_
 rw [x3,za,x4,za,x5,za]
 obtain ⟨O',st,h'⟩:=Lo.close1 l3
 exact k H3 O' P3 st h' (hs3.mono (by omega))
set_option maxHeartbeats 2000000 in
set_option maxRecDepth 100000 in
theorem fetch_read (hg:Zd B L I) {i:Nat} (h0:1≤i) (h1:(i:Int)≤I) (h:(yY lb p (zp B L I) mine P).at_ H O) (hs:FSt (zp B L I) mine V n P) (hn:n+262146<4611686018427387904) (hgd:GdF V (zp B L I).dataAt B (y8 V L i)) {a c:Nat} (ha:a<9223372036854775808) (hc:c≤65536) {z:Nat} (hz:y8 V L i 2=z) (hsz:z≤67381248) (hk0:y8 V L i 0≠0)
   (k:∀ H' v P',Lo O H H' [yY lb p (zp B L I) mine P',.sl 5 1 v (rdC V (y8 V L i) a (min c (z - a)))]→FSt (zp B L I) mine V (n+262145) P'→R (.tuple #[v,.int .i64 0]) H'):Fc Tryz.prog 9 #[z6 lb,zm i,zm a,zm c] H R:=by
 have y3:∀ {a b:Value},ze (.tuple #[a,b]) 0=some a:=rfl
 have y4:∀ {a b:Value},ze (.tuple #[a,b]) 1=some b:=rfl
 obtain ⟨gL1,gL2,gI1,gI2,gB1,gB2,gD⟩:=id hg
 have hDA:(zp B L I).dataAt=1+L+(I+16) / 16+(B+8191) / 8192:=rfl
 have hBB:(zp B L I).B=B:=rfl
 have hLL:(zp B L I).L=L:=rfl
 refine fn9 ?_
 simp only [sh9,yd,ya,zt,za]
 obtain ⟨Oa,ha1,sta⟩:=(Lo.own h).call (i:=0) rfl
 refine pl_rack ha1 hs.ok hg h0 h1 fun H2 O2 s' cs' s2 h2 hrd=>?_
 have ei:Zu (ZW P.s P.cs (1+L+((i / 16:Nat):Int))) (64*(i % 16))=y8 V L i:=by unfold y8; rw [hs.view]
 rw [y3,za,y4,za,ei]
 have l2:=sta H2 _ O2 s2 h2
 have hs2:FSt (zp B L I) mine V (n+1) { P with s:=s',cs:=cs' }:=hs.rd hrd (by omega) (by omega)
 have hino:=hs.ino h
 have hisB:=hs.isB h
 generalize ({ P with s:=s',cs:=cs' }:PSt)=P2 at l2 hs2
 have l2:Lo O H H2 [yY lb p (zp B L I) mine P2]:=l2
 have hz32:z<4294967296:=by omega
 generalize hff:y8 V L i=f at hgd hz hk0 k
 refine l2.boxA fun b1 H3 _ l3=>?_
 refine l3.stAll (i:=1) rfl (zz _) (zz _) (Z0 _) fun H4 l4=>?_
 have l4:Lo O H H4 [yY lb p (zp B L I) mine P2,.box b1 (Zs f) 88]:=l4
 have i0:(Zs f)[0]?=some (.int .u16 (f 0)):=rfl
 have i2:(Zs f)[2]?=some (.int .u32 (f 2)):=rfl
 rw [zw,za,decide_eq_false (by omega),zn]
 refine zS.mk (fun t H'=>t.1=.bool false∧H'=H4) ?_ ?_
 rotate_left
 · rw [zr,za,decide_eq_false (by omega),zn,zr,za,decide_eq_false (by omega),zn,zL,za,decide_eq_false (by omega)]
   exact ⟨rfl,rfl⟩
 rintro ⟨t,u⟩ H5 ⟨ht,rfl⟩
 simp only at ht
 subst ht
 rw [zn]
 simp only [zi,Nat.zero_add,za]
 rw [l4.ld (i:=1) rfl,i0,za,zy,za,decide_eq_false (by omega),zn,l4.ld (i:=1) rfl,i2,za,zE,za,hz,zv (by omega),zQ,za,zf]
 refine ⟨fun hge=>?_,fun hlt=>?_⟩
 · have l5:=(l4.takeN 1).nilS 5 1
   refine k H5 (.slice none 0 0) P2 ?_ (hs2.mono (by omega))
   rw [show min c (z - a)=0 by omega]
   exact l5
 have hmn:min ((a:Int)+(c:Int)) (z:Int)=((a+min c (z - a):Nat):Int):=by omega
 rw [zk,za,zg (by omega) (by omega),za,zE,za,zv (by omega),min_int,za,hmn,zO,za,zg (by omega) (by omega),show ((a+min c (z - a):Nat):Int) - (a:Int)=((min c (z - a):Nat):Int) by omega]
 have haz:a+min c (z - a)≤z:=by omega
 have hnc:min c (z - a)≤65536:=by omega
 generalize min c (z - a)=w at haz hnc k
 rw [elU8]
 refine make_bytes (by omega) fun ob H6 hb6 e6 hs6 g6=>?_
 have g6:H6[ob]?=some (.cells (outC V f a w 0) 5):=by
   rw [g6]
   have:(Array.range w).map (fun _=>Value.int .u8 0)=outC V f a w 0:=by
     apply Array.ext_getElem?
     intro j
     by_cases hj:j<w
     · rw [YR hj,Array.getElem?_map,Array.getElem?_range,if_pos hj,if_neg (by omega)]; rfl
     · rw [Array.getElem?_eq_none (by simp; omega),Array.getElem?_eq_none (by rw [ZQ]; omega)]
   rw [this]
 have l6:=(l4.takeN 1).add e6 (x:=.box ob (outC V f a w 0) 5) (O:=(·=ob)) ⟨⟨g6,rfl⟩,fun x hx=>by omega⟩ fun x hx=>by omega
 have l6:Lo O H H6 [yY lb p (zp B L I) mine P2,.box ob (outC V f a w 0) 5]:=l6
 refine zx.mk (fun t H'=>∃ (q:Nat) (P':PSt),q≤w∧t=(zm ((a+q:Nat):Int),())∧FSt (zp B L I) mine V (n+1+4*(q:Int)) P'∧Lo O H H' [yY lb p (zp B L I) mine P',.box ob (outC V f a w q) 5])
   (fun t _=>mi t.1 fun x=>((a+w:Nat) - x).toNat) ⟨0,P2,by omega,rfl,hs2.mono (by omega),l6⟩ ?_
 clear l6 l4 l3 hs2 l2 h2 s2
 rintro _ H7 ⟨q,P7,hq,rfl,hs7,l7⟩
 rw [zr,za,zf]
 refine ⟨fun hlt=>?_,fun hge=>?_⟩
 · obtain ⟨q',hq'⟩:∃ q',q'=min w (((a+q) / 1024+1)*1024 - a):=⟨_,rfl⟩
   have hq1:q<q':=by omega
   have hq2:q'≤w:=by omega
   have hq3:(a+q) % 1024+(q' - q)≤1024:=by omega
   have emn:min ((a+w:Nat):Int) ((((a+q) / 1024+1)*1024:Nat):Int)=((a+q':Nat):Int):=by omega
   rw [Zh (by decide),za,Zl (by omega),zg (by omega) (by omega),show ((a+q:Nat):Int) / 1024=(((a+q) / 1024:Nat):Int) by omega,zk,za,zK,zv (by omega),zX,za,zg (by omega) (by omega),show (((a+q) / 1024+1:Nat):Int)*1024=((((a+q) / 1024+1)*1024:Nat):Int) by omega,min_int,za,emn,za]
   obtain ⟨O7,h7,st7⟩:=l7.call (i:=0) rfl
   have hgd7:GdF V (zp B L I).dataAt B (y8 V L i):=by rw [hff]; exact hgd
   refine chart_at hg h0 h1 h7 hs7 (by omega) hgd7 (a:=(a+q) / 1024) (by omega) fun H8 O8 P8 s8 h8 hs8=>?_
   have l8:=st7 H8 _ O8 s8 h8
   have l8:Lo O H H8 [yY lb p (zp B L I) mine P8,.box ob (outC V f a w q) 5]:=l8
   rw [hff,y3,za,y4,za,zw,za,decide_eq_false (by omega),zn,zw,za,zf]
   have hgp:=ptr_gd hgd (i:=(a+q) / 1024) (by omega)
   have hcv:cntV V f ((a+q) / 1024)=if yh V f ((a+q) / 1024)=0 then zB else V (yh V f ((a+q) / 1024):Nat):=rfl
   generalize yh V f ((a+q) / 1024)=w8 at hgp hcv
   refine ⟨fun hne=>?_,fun he=>?_⟩
   · rcases hgp with hgp | hgp
     · omega
     rw [if_neg (by omega)] at hcv
     obtain ⟨O9,h9,st9⟩:=l8.call (i:=0) rfl
     refine pl_read h9 hs8.ok (a:=(w8:Int)) (by omega) (by rw [hBB]; omega) (by rw [hLL]; omega) fun H9 O10 s9' cs9' s9 h10 hrd9 hib=>?_
     rw [hs8.view] at hib ⊢
     have hs9:FSt (zp B L I) mine V (n+1+4*(q':Int)) { P8 with s:=s9',cs:=cs9' }:=hs8.rd hrd9 (by omega) (by omega)
     have l9:=st9 H9 _ O10 s9 h10
     rw [y3,za,y4,za]
     refine l9.boxA fun b3 H10 _ l10=>?_
     refine l10.stAll (i:=2) rfl zJ hib.size hib.ok fun H11 l11=>?_
     have l11:Lo O H H11 [yY lb p (zp B L I) mine { P8 with s:=s9',cs:=cs9' },.box ob (outC V f a w q) 5,.box b3 (V w8) 94]:=l11
     have hcp:ZO Tryz.prog 43 (.slice (some ⟨ob,0,none⟩) w w) (some (zm (q:Int))) (some (zm (q':Int))) (some (zm (q':Int)))=some (.slice (some ⟨ob,q,none⟩) (q' - q) (q' - q)):=sl_piece undU8s inf8_e inf8_s hq1 hq2
     rw [zw,za,decide_eq_false (by omega),zn,zO,za,zg (by omega) (by omega),show ((a+q:Nat):Int) - (a:Int)=(q:Int) by omega,zO,za,zg (by omega) (by omega),show ((a+q':Nat):Int) - (a:Int)=(q':Int) by omega,za,hcp,za,zW (by decide),za,Za (by omega),show ((a+q:Nat):Int) % 1024=(((a+q) % 1024:Nat):Int) by omega,sl_from und1024 inf8_e inf8_s (by omega),za]
     have hrow:rowH H11 ⟨b3,(a+q) % 1024,none⟩ (q' - q)=some ((V w8).extract ((a+q) % 1024) ((a+q) % 1024+(q' - q))):=by
       unfold rowH
       simp only [l11.at (i:=2) rfl]
       rw [if_pos ⟨trivial,by rw [hib.size]; exact hq3⟩]
     have hcs:((V w8).extract ((a+q) % 1024) ((a+q) % 1024+(q' - q))).size=q' - q:=by rw [Array.size_extract,hib.size]; omega
     refine copy_row2 rfl hrow (by omega) hcs ?_
     refine l11.stRow (i:=1) rfl (by rw [ZQ]; omega) hcs (cellsOk_extract hib.ok) fun H12 l12=>?_
     rw [outC_put (by omega) hq2 hib hq3 hcv rfl] at l12
     exact ⟨⟨q',_,hq2,rfl,hs9,l12.takeN 2⟩,by simp only [zC]; omega⟩
   · obtain rfl:w8=0:=by omega
     rw [if_pos rfl] at hcv
     rw [outC_hole (k':=q') (by omega) hq3 hcv] at l8
     exact ⟨⟨q',P8,hq2,rfl,hs8.mono (by omega),l8⟩,by simp only [zC]; omega⟩
 · obtain rfl:q=w:=by omega
   have l8:=l7.nth (i:=1) (y:=.sl 5 1 (.slice (some ⟨ob,0,none⟩) q q) (rdC V f a q)) rfl fun O' ho=>⟨⟨outC_sv ho.1.1,fun x hx=>by injection hx with hx; rw [← hx]; exact ho.1.2⟩,ho.2⟩
   exact k H7 _ P7 l8 (hs7.mono (by omega))
end
def ByL (xs:List (Array Value)):Prop:=∀ (i:Nat) (c:Array Value),xs[i]?=some c→∃ n:Nat,c=(#[.int .u8 (n:Int)]:Array Value)
theorem rdC_by (V:Int→Blk) (f:Ino) (a n:Nat):ByL (rdC V f a n):=fun i c hc=>by
 have hil:i<n:=by
   rcases Nat.lt_or_ge i n with h1 | h1
   · exact h1
   · rw [List.getElem?_eq_none (by rw [rdC_len]; exact h1)] at hc; cases hc
 rw [rdC_get hil] at hc
 injection hc with hc
 exact ⟨_,hc.symm⟩
section
variable {H:Hp} {R:Value→Hp→Prop}
theorem same_bytes {a b:Value} {xs ys:List (Array Value)} (ha:Sr 1 H a xs) (hb:Sr 1 H b ys) (e:xs=ys) (hby:ByL xs) (hl:xs.length<281474976710656) (k:R (.bool true) H):Fc Tryz.prog 12 #[a,b] H R:=by
 subst e
 refine fn12 ?_
 simp only [sh12,zt]
 rw [ha.lenE undU8s,za,hb.lenE undU8s,za,zw,za,decide_eq_false (by omega),zn]
 refine zx.mk (fun t H'=>H'=H∧∃ i:Nat,i≤xs.length∧t=(zm i,())) (fun t _=>mi t.1 fun x=>(xs.length - x).toNat) ⟨rfl,0,by omega,rfl⟩ ?_
 rintro _ H1 ⟨rfl,i,hi,rfl⟩
 rw [za,zr,za,zf]
 refine ⟨fun hlt=>?_,fun hge=>k⟩
 have hc:xs[i]?=some xs[i]:=List.getElem?_eq_getElem (by omega)
 obtain ⟨n,hn⟩:=hby i _ hc
 obtain ⟨c1,o1,a1,r1⟩:=ha.cell hc (j:=0) (by omega)
 obtain ⟨c2,o2,a2,r2⟩:=hb.cell hc (j:=0) (by omega)
 rw [Nat.add_zero] at r1 r2
 have g0:(xs[i])[0]?=some (.int .u8 (n:Int)):=by rw [hn]; rfl
 rw [show zh (some (none,1)) a (zm i)=_ from a1 .i64,za,r1,g0,za,show zh (some (none,1)) b (zm i)=_ from a2 .i64,za,r2,g0,za,zw,za,decide_eq_false (by omega),zn,zk,za,zK,zv (by omega)]
 exact ⟨⟨rfl,i+1,by omega,rfl⟩,by simp only [zC]; exact ms_lt (by omega)⟩
end
theorem cntV_is {V:Int→Blk} (h:∀ a,IsB (V a)) (f:Ino) (i:Nat):IsB (cntV V f i):=by
 unfold cntV
 split
 · exact Zn
 · exact h _
theorem slot_byte {V:Int→Blk} {B L I:Int} {t:Itm} (hs:Sem V B L I t) (hV:∀ a,IsB (V a)) (h2:t.kind=2) {s:Nat} {e:Ent} (he:t.slots[s]?=some e) {j:Nat} (hj:j<16):bytV V (y8 V L t.inum.toNat) (16*s+j)=byt (encE e) j:=by
 obtain ⟨_,h,_⟩:=hs.slot h2 s e he
 rw [← h,byt_cutE (cntV_is hV _ _) (by omega) hj]
 unfold bytV
 rw [show (16*s+j) / 1024=s / 64 by omega,show (16*s+j) % 1024=16*(s % 64)+j by omega]
theorem newDot:zH (some ⟨5,1,1,#[.int .u8 0]⟩) 4 [(0,(.int .u8 1)),(1,(.int .u8 0)),(2,(.int .u8 46)),(3,(.int .u8 0))]=some #[.int .u8 1,.int .u8 0,.int .u8 46,.int .u8 0]:=by kernel_rfl
section
variable {S:Nat→Prop} {H0 H:Hp} {R:Value→Hp→Prop} {lb p fb:Nat} {mine:Int} {O:Nat→Prop} {B L I:Int} {V:Int→Blk} {n:Int} {P:PSt}
structure RootOk (V:Int→Blk) (B L I:Int):Prop where
 gd:GdF V (zp B L I).dataAt B (y8 V L 1)
 kind:y8 V L 1 0≠0
 size:16≤y8 V L 1 2∧y8 V L 1 2≤67381248
 b0:rdC V (y8 V L 1) 0 4=[#[.int .u8 1],#[.int .u8 0],#[.int .u8 46],#[.int .u8 0]]
theorem root_ok {its:List Itm} {fr sp:Int} {m0 m:Pm} {fs:List Fl} (hmay:MaySt B L I its fr sp m0 fs) (hm:MOf m B L I) (hits:∀ t∈its,ZK t) (sd:Nat) (hV:∀ a,IsB (imgV m its sd a)):RootOk (imgV m its sd) B L I:=by
 obtain ⟨t,ht,h1,h2,h3⟩:=may_root1 hmay
 have hs:=may_sem hmay hm hits sd ht
 have e1:t.inum.toNat=1:=by omega
 have hgd:=hs.gd
 have hsz:=hs.size
 have hk:=hs.kind
 have hmany:=hs.many h2
 have hmost:=hs.most
 have hl:0<t.slots.length:=by
   rcases Nat.lt_or_ge 0 t.slots.length with h | h
   · exact h
   · rw [List.getElem?_eq_none h] at h3; cases h3
 have hb:∀ j,j<16→bytV (imgV m its sd) (y8 (imgV m its sd) L 1) j=byt (encE (1,dotS)) j:=fun j hj=>by
   have:=slot_byte hs hV h2 h3 hj
   rw [e1,Nat.mul_zero,Nat.zero_add] at this; exact this
 obtain ⟨d0,d1,d2,d3⟩:=encE_dot
 rw [e1] at hgd hsz hk
 refine ⟨hgd,by omega,⟨by omega,by omega⟩,?_⟩
 show [_,_,_,_]=_
 simp only [Nat.zero_add]
 rw [hb 0 (by omega),hb 1 (by omega),hb 2 (by omega),hb 3 (by omega),d0,d1,d2,d3]; rfl
theorem lives14 {pp r w:Nat} (hg:Zd B L I) (hr:RootOk V B L I) (ht:H[pp]?=some (.cells (prC p lb r w) 52)) (h:(yY lb p (zp B L I) mine P).at_ H O) (hs:FSt (zp B L I) mine V n P) (hn:n+262146<4611686018427387904)
   (k:∀ H' O' P',Stp O O' H H'→(yY lb p (zp B L I) mine P').at_ H' O'→FSt (zp B L I) mine V (n+262145) P'→R (.bool true) H'):Fc Tryz.prog 7 #[z6 pp] H R:=by
 obtain ⟨gL1,gL2,gI1,gI2,gB1,gB2,gD⟩:=id hg
 have y3:∀ {a b:Value},ze (.tuple #[a,b]) 0=some a:=rfl
 have y4:∀ {a b:Value},ze (.tuple #[a,b]) 1=some b:=rfl
 refine fn7 ?_
 simp only [sh7,zc,zi,Nat.zero_add,Nat.add_zero,za]
 rw [zq ht,pr1,za]
 refine fetch_read hg (i:=1) (a:=0) (c:=4) (by omega) (by omega) h hs hn hr.gd (by omega) (by omega) rfl hr.size.2 hr.kind fun H1 v P1 l1 hs1=>?_
 have hz:=hr.size
 rw [show min 4 (y8 V L 1 2 - 0)=4 by omega,hr.b0] at l1
 rw [y3,za,y4,za,zy,za,decide_eq_true (by rfl),Zm,elU8,za,newDot,za]
 refine newS_i fun b H2 hb e2 hs2 g2=>?_
 have sv2:=sv_row g2 (n:=4) rfl
 have l2:=l1.ext e2
 refine same_bytes (l2.sv (i:=1) rfl).sr sv2.sr rfl (fun i c hc=>?_) (by decide) ?_
 · match i,hc with
   | 0,hc=>injection hc with hc; exact ⟨1,hc.symm⟩
   | 1,hc=>injection hc with hc; exact ⟨0,hc.symm⟩
   | 2,hc=>injection hc with hc; exact ⟨46,hc.symm⟩
   | 3,hc=>injection hc with hc; exact ⟨0,hc.symm⟩
 · obtain ⟨O',s',h'⟩:=Lo.close1 l2
   exact k H2 O' P1 s' h' hs1
end
section
variable {B L I:Int}
theorem fst0 {its:List Itm} {fr sp:Int} {m0 m:Pm} {fs:List Fl} (hmay:MaySt B L I its fr sp m0 fs) (hm:MOf m B L I) (hits:∀ t∈its,ZK t) (sd:Nat):∃ V:Int→Blk,FSt (zp B L I) 1 V 1 (pl0 B (Yg 0 (Zq m (zA m its (pg0 m)) sd)))∧(∀ a,IsB (V a))∧RootOk V B L I∧∀ t∈its,Sem V B L I t:=by
 have hg:=hmay.ok
 obtain ⟨gL1,gL2,gI1,gI2,gB1,gB2,gD⟩:=id hg
 obtain ⟨h0,h1,h2,h3⟩:=laid_low hm hg hits sd
 have hb:=hm.B
 have hwh:okL B (-1) (Yg 0 (Zq m (zA m its (pg0 m)) sd)):=imgL_okL _ 0 (-1) h3 (by omega) (by omega)
 have his:=imgL_is _ 0 h3
 have hV:∀ a,IsB (imgV m its sd a):=fun a=>Zw his a
 exact ⟨imgV m its sd,⟨pl0_ok hg,fun b=>pl0_view hwh b,rfl,Int.le_refl 1⟩,hV,root_ok hmay hm hits sd hV,fun t ht=>may_sem hmay hm hits sd ht⟩
end
theorem ent_rd {V:Int→Blk} {B L I:Int} {t:Itm} (hs:Sem V B L I t) (hV:∀ a,IsB (V a)) (h2:t.kind=2) {s:Nat} {e:Ent} (he:t.slots[s]?=some e):(encE e).toList.map (fun v=>#[v])=rdC V (y8 V L t.inum.toNat) (16*s) 16:=by
 have hz:=(YX e).size
 apply List.ext_getElem?
 intro j
 by_cases hj:j<16
 · rw [rdC_get hj,slot_byte hs hV h2 he hj,List.getElem?_map,Array.getElem?_toList,(YX e).get hj]; rfl
 · rw [List.getElem?_eq_none (by rw [List.length_map,Array.length_toList,hz]; omega),List.getElem?_eq_none (by rw [rdC_len]; omega)]
section
variable {H:Hp} {R:Value→Hp→Prop}
set_option maxHeartbeats 4000000 in
set_option maxRecDepth 100000 in
theorem law_slots {B L I:Int} (hB : -9223372036854775808≤B∧B≤9223372036854775807) {iv:Value} {its:List Itm} (hst:StAt H iv its) (hits:∀ t∈its,ZK t) (hlen:its.length<281474976710656) {fr sp seed:Int} (hseed : -9223372036854775808≤seed∧seed≤9223372036854775807) (hiv:∃ b n c,iv=.slice b n c)
   {cut:Int} (hcut : -9223372036854775808≤cut∧cut≤9223372036854775807)
   (k:∀ H',Ext H H'→R (.bool true) H'):Fc Tryz.prog 4 #[.agg (wldC B L I iv fr sp seed),zm cut] H R:=by
 have x3:∀ {a b c:Value},ze (.tuple #[a,b,c]) 0=some a:=rfl
 have x4:∀ {a b c:Value},ze (.tuple #[a,b,c]) 1=some b:=rfl
 have x5:∀ {a b c:Value},ze (.tuple #[a,b,c]) 2=some c:=rfl
 have y3:∀ {a b:Value},ze (.tuple #[a,b]) 0=some a:=rfl
 have y4:∀ {a b:Value},ze (.tuple #[a,b]) 1=some b:=rfl
 have w3:(wldC B L I iv fr sp seed)[3]?=some iv:=rfl
 refine fn4 ?_
 simp only [sh4,zt,zeroItm,zero16,za]
 refine (Lo.start _ H:Lx H H []).boxA fun b1 H1 _ l1=>?_
 have l2:Lx H H1 [.box b1 (wldC B L I iv fr sp seed) 28]:=l1
 rw [l2.ldAll (i:=0) (n:=7) rfl rfl,za]
 refine begin_kit hB (hst.ext l2.ext0) hits hlen hseed hiv (fun H3 e3=>?_) fun H3 pp p lb r w m0 fs m hmay hm hfull l3=>?_
 · rw [x3,za,x4,za,x5,za,zT,za,Bool.not_false,Zm]
   exact k H3 (l2.ext e3).ext0
 rw [x3,za,x4,za,x5,za,zT,za,Bool.not_true,zn]
 have hg:=hmay.ok
 have hne:0<its.length:=by
   obtain ⟨t,ht,_⟩:=may_root1 hmay
   exact List.length_pos_of_mem ht
 obtain ⟨V,s0,hV,hroot,hsem⟩:=fst0 hmay hm hits (seed % 1000003).toNat
 generalize Yg 0 (Zq m (zA m its (pg0 m)) (seed % 1000003).toNat)=l at l3 s0
 have l4:=l2.join l3
 have l4:Lx H H3 [.box b1 (wldC B L I iv fr sp seed) 28,.box pp (prC p lb r w) 52,logOb lb p (dsOf B l) [] (zp B L I) 1,docOb w r (rdOf B l) (zp B L I) (RLg.new 1)]:=l4
 have l4:=l4.nth (i:=2) (y:=yY lb p (zp B L I) 1 (pl0 B l)) rfl fun O ho=>log_pl ho
 have l4:Lx H H3 [.box b1 (wldC B L I iv fr sp seed) 28,.box pp (prC p lb r w) 52,yY lb p (zp B L I) 1 (pl0 B l)]:=l4.takeN 3
 generalize pl0 B l=P0 at s0 l4
 clear l3 l2 l1 hmay hm hfull
 refine zS.mk (fun t H'=>t.1=.bool false∧∃ P1,FSt (zp B L I) 1 V 300000 P1∧Lx H H' [.box b1 (wldC B L I iv fr sp seed) 28,.box pp (prC p lb r w) 52,yY lb p (zp B L I) 1 P1]) ?_ ?_
 rotate_left
 · rw [za,zn]
   obtain ⟨O4,h4,st4⟩:=l4.call (i:=2) rfl
   refine lives14 hg hroot (l4.at (i:=1) rfl) h4 s0 (by omega) fun H5 O5 P5 s5 h5 hs5=>?_
   rw [zT,za]
   exact ⟨rfl,P5,hs5.mono (by omega),st4 H5 _ O5 s5 h5⟩
 rintro ⟨t,u⟩ H4 ⟨ht,P1,s1,l4⟩
 simp only at ht
 subst ht
 rw [zn]
 clear s0
 obtain ⟨cs,i1,i2,i3⟩:=hst
 have hn0:0≤cut % (its.length:Int):=Int.emod_nonneg _ (by omega)
 have hn1:=Int.emod_lt_of_pos cut (show (0:Int)<(its.length:Int) by omega)
 obtain ⟨n,hn⟩:∃ n:Nat,(n:Int)=cut % (its.length:Int):=⟨_,Int.toNat_of_nonneg hn0⟩
 have hit:its[n]?=some its[n]:=List.getElem?_eq_getElem (by omega)
 obtain ⟨dv,sv,hcs,hd,hsv⟩:=i3 n _ hit
 have htm:its[n]∈its:=List.getElem_mem _
 generalize its[n]=t at hit hcs hd hsv htm
 obtain ⟨db,dc,edv⟩:=hd.len
 obtain ⟨sb',sc,esv⟩:=hsv.len
 have hok7:zF (yl t dv sv):=by rw [edv,esv]; exact itmC_ok
 refine zS.mk (fun t' H'=>∃ b3:Nat,t'.1=z6 b3∧Lx H H' [.box b1 (wldC B L I iv fr sp seed) 28,.box pp (prC p lb r w) 52,yY lb p (zp B L I) 1 P1,.box b3 (yl t dv sv) 40]) ?_ ?_
 rotate_left
 · have ld:∀ {H':Hp},Lx H H' [.box b1 (wldC B L I iv fr sp seed) 28,.box pp (prC p lb r w) 52,yY lb p (zp B L I) 1 P1]→zb (some none) (.pointer (some ⟨b1,3,none⟩)) H'=some iv:=fun l'=>by rw [l'.ld (i:=0) rfl]; exact w3
   have pick:∀ {H':Hp} {R':Value→Hp→Prop},R' (zm n) H'→Fc Tryz.prog 11 #[zm cut,zm (its.length:Nat)] H' R':=fun {H' R'} h=>kpick_ok hcut (by omega) (by omega) (by rw [← hn]; exact h)
   have row:∀ {H':Hp},Ext H H'→∃ bb oo,zh (some (none,7)) iv (zm n)=some (.pointer (some ⟨bb,oo,none⟩))∧zb (some (some 7)) (.pointer (some ⟨bb,oo,none⟩)) H'=some (.agg (yl t dv sv)):=fun e=>by
     obtain ⟨bb,oo,q1,q2⟩:=(i1.ext e).row hcs
     exact ⟨bb,oo,q1 .i64,q2⟩
   have hlE:lenE Tryz.prog 24 iv=some (zm (its.length:Nat)):=by rw [i1.lenE undItems,i2]
   simp only [zi,Nat.zero_add,Nat.add_zero,za]
   rw [ld l4,za,hlE,za]
   refine ⟨?_,?_,?_,trivial⟩
   · rw [za]
     refine ⟨?_,?_,trivial⟩
     · rw [zl]
       intro H5 e5
       have l5:=l4.ext e5
       refine pick ?_
       obtain ⟨bb,oo,q1,q2⟩:=row l5.ext0
       rw [q1,za,q2,za,zl]
       intro H6 e6
       refine (l5.ext e6).boxA fun b3 H7 _ l7=>?_
       rw [zl]
       intro H8 e8
       refine (l7.ext e8).stAll (i:=3) (vs:=yl t dv sv) rfl rfl rfl hok7 fun H9 l9=>?_
       rw [zl]
       intro H10 e10
       exact ⟨b3,rfl,l9.ext e10⟩
     · rw [zl]
       intro H5 e5
       refine (l4.ext e5).boxA fun b3 H7 _ l7=>?_
       rw [zl]
       intro H8 e8
       refine pick ?_
       obtain ⟨bb,oo,q1,q2⟩:=row (l7.ext e8).ext0
       rw [q1,za,q2,za,zl]
       intro H6 e6
       refine ((l7.ext e8).ext e6).stAll (i:=3) (vs:=yl t dv sv) rfl rfl rfl hok7 fun H9 l9=>?_
       rw [zl]
       intro H10 e10
       exact ⟨b3,rfl,l9.ext e10⟩
   · rw [zl]
     intro H5 e5
     have l5:=l4.ext e5
     refine pick ?_
     obtain ⟨bb,oo,q1,q2⟩:=row l5.ext0
     rw [ld l5,za,q1,za,q2,za,zl]
     intro H6 e6
     refine (l5.ext e6).boxA fun b3 H7 _ l7=>?_
     rw [zl]
     intro H8 e8
     refine (l7.ext e8).stAll (i:=3) (vs:=yl t dv sv) rfl rfl rfl hok7 fun H9 l9=>?_
     rw [zl]
     intro H10 e10
     exact ⟨b3,rfl,l9.ext e10⟩
   · rw [zl]
     intro H5 e5
     refine (l4.ext e5).boxA fun b3 H7 _ l7=>?_
     have ld7:∀ {H':Hp},Lx H H' [.box b1 (wldC B L I iv fr sp seed) 28,.box pp (prC p lb r w) 52,yY lb p (zp B L I) 1 P1,.box b3 (yl ⟨0,0,0,0,0,[],[]⟩ (.slice none 0 0) (.slice none 0 0)) 40]→zb (some none) (.pointer (some ⟨b1,3,none⟩)) H'=some iv:=fun l'=>by rw [l'.ld (i:=0) rfl]; exact w3
     have l7:Lx H H7 [.box b1 (wldC B L I iv fr sp seed) 28,.box pp (prC p lb r w) 52,yY lb p (zp B L I) 1 P1,.box b3 (yl ⟨0,0,0,0,0,[],[]⟩ (.slice none 0 0) (.slice none 0 0)) 40]:=l7
     refine ⟨?_,?_,trivial⟩
     · rw [ld7 l7,za,zl]
       intro H8 e8
       refine pick ?_
       obtain ⟨bb,oo,q1,q2⟩:=row (l7.ext e8).ext0
       rw [q1,za,q2,za,zl]
       intro H6 e6
       refine ((l7.ext e8).ext e6).stAll (i:=3) (vs:=yl t dv sv) rfl rfl rfl hok7 fun H9 l9=>?_
       rw [zl]
       intro H10 e10
       exact ⟨b3,rfl,l9.ext e10⟩
     · rw [zl]
       intro H8 e8
       refine pick ?_
       obtain ⟨bb,oo,q1,q2⟩:=row (l7.ext e8).ext0
       rw [ld7 (l7.ext e8),za,q1,za,q2,za,zl]
       intro H6 e6
       refine ((l7.ext e8).ext e6).stAll (i:=3) (vs:=yl t dv sv) rfl rfl rfl hok7 fun H9 l9=>?_
       rw [zl]
       intro H10 e10
       exact ⟨b3,rfl,l9.ext e10⟩
 rintro ⟨tt,u⟩ H5 ⟨b3,ht,l5⟩
 simp only at ht
 subst ht
 clear l4
 have sem:=hsem t htm
 have hto:=hits t htm
 have t0:(yl t dv sv)[0]?=some (zm t.inum):=rfl
 have t1:(yl t dv sv)[1]?=some (.int .u16 t.kind):=rfl
 have t3:(yl t dv sv)[3]?=some (zm t.size):=rfl
 have t6:(yl t dv sv)[6]?=some sv:=rfl
 simp only [zc,zi,Nat.zero_add,Nat.add_zero,za]
 rw [l5.ld (i:=3) rfl,t1,za,zw,za,zf]
 refine ⟨fun _=>k _ l5.ext0,fun hk=>?_⟩
 have hk2:t.kind=2:=by omega
 have hlo:=sem.lo
 obtain ⟨i,hi⟩:∃ i:Nat,(i:Int)=t.inum:=⟨t.inum.toNat,by omega⟩
 have hti':t.inum.toNat=i:=by omega
 have hsz:=sem.size
 have hkd:=sem.kind
 have hgd:=sem.gd
 have hmost:=sem.most
 have hhi:=sem.hi
 have hmany:=sem.many hk2
 rw [hti'] at hsz hkd hgd
 obtain ⟨z,hz⟩:∃ z,y8 V L i 2=z:=⟨_,rfl⟩
 rw [hz] at hsz
 have undSl:Tryz.prog.underlying 38=some (.slice 61):=undEnts
 refine zx.mk (fun t' H'=>∃ (s:Nat) (P':PSt),s≤t.slots.length∧t'=(zm s,())∧FSt (zp B L I) 1 V (300000+262145*(s:Int)) P'∧Lx H H' [.box b1 (wldC B L I iv fr sp seed) 28,.box pp (prC p lb r w) 52,yY lb p (zp B L I) 1 P',.box b3 (yl t dv sv) 40])
   (fun t' _=>mi t'.1 fun x=>(t.slots.length - x).toNat) ⟨0,P1,by omega,rfl,s1.mono (by omega),l5⟩ ?_
 clear l5 s1
 rintro _ H6 ⟨s,P6,hs,rfl,s6,l6⟩
 rw [l6.ld (i:=3) rfl,t6,za,hsv.lenE undSl,za,List.length_map,zr,za,zf]
 refine ⟨fun hlt=>?_,fun hge=>?_⟩
 · have he:t.slots[s]?=some t.slots[s]:=List.getElem?_eq_getElem (by omega)
   obtain ⟨_,_,he0⟩:=sem.slot hk2 s _ he
   have her:=ent_rd sem hV hk2 he
   rw [hti'] at her
   obtain ⟨hso1,hso2⟩:=hto.slots t.slots[s] (List.getElem_mem _)
   have hel:(t.slots.map ZP)[s]?=some (ZP t.slots[s]):=by rw [List.getElem?_map,he]; rfl
   have heb:=YX t.slots[s]
   generalize t.slots[s]=e at he he0 her hso1 hso2 hel heb
   rw [l6.ld (i:=1) rfl,pr1,za,l6.ld (i:=3) rfl,t0,za,zX,za,zg (by omega) (by omega),show (16:Int)*(s:Int)=((16*s:Nat):Int) by omega,← hi]
   obtain ⟨O7,h7,st7⟩:=l6.call (i:=2) rfl
   refine fetch_read hg (i:=i) (by omega) (by omega) h7 s6 (by omega) hgd (a:=16*s) (c:=16) (by omega) (by omega) hz (by omega) (by omega) fun H7 v7 P7 l7 s7=>?_
   obtain ⟨O8,st8,h8⟩:=Lo.close (l:=[_,_]) (r:=[]) l7
   have l7:=Lo.unpack (l:=[_,_,_]) ((st7 H7 _ O8 st8 h8).pick [0,1,3,2] (by decide) (by simp))
   rw [show min 16 (z - 16*s)=16 by omega] at l7
   have l7:Lx H H7 [.box b1 (wldC B L I iv fr sp seed) 28,.box pp (prC p lb r w) 52,.box b3 (yl t dv sv) 40,yY lb p (zp B L I) 1 P7,.sl 5 1 v7 (rdC V (y8 V L i) (16*s) 16)]:=l7
   clear h8 st8 st7 h7 l6
   obtain ⟨bb,oo,q1,q2⟩:=(hsv.ext l7.ext0).row hel
   rw [y3,za,y4,za,l7.ld (i:=2) rfl,t6,za,show zh (some (none,2)) sv (zm s)=_ from q1 .i64,za,q2,za]
   refine enc18 hso1 hso2 fun H8 e8=>?_
   rw [y3,za,y4,za]
   refine (l7.ext e8).boxA fun b4 H9 _ l9=>?_
   refine l9.stAll (i:=5) (vs:=encE e) rfl (by simp [zR]) heb.size heb.ok fun H10 l10=>?_
   have l10:Lx H H10 [.box b1 (wldC B L I iv fr sp seed) 28,.box pp (prC p lb r w) 52,.box b3 (yl t dv sv) 40,yY lb p (zp B L I) 1 P7,.sl 5 1 v7 (rdC V (y8 V L i) (16*s) 16),.box b4 (encE e) 57]:=l10
   refine zS.mk (fun t' H'=>t'.1=.bool false∧H'=H10) ?_ ?_
   · rintro ⟨tt,u⟩ H11 ⟨ht,rfl⟩
     simp only at ht
     subst ht
     rw [zn,zk,za,zK,zv (by omega)]
     refine ⟨⟨s+1,P7,by omega,rfl,s7.mono (by omega),?_⟩,by simp only [zC]; exact ms_lt (by omega)⟩
     exact (l10.pick [0,1,3,2] (by decide) (by simp))
   · have sv10:=sv_row (l10.at (i:=5) rfl) heb.size
     rw [zw,za,decide_eq_false (by omega),zn,he0,zw,za,decide_eq_false (by omega),zn,sl_all und16 inf8_e inf8_s (by omega),za]
     refine same_bytes (l10.sv (i:=4) rfl).sr sv10.sr her.symm (rdC_by _ _ _ _) (by rw [rdC_len]; omega) ?_
     rw [zT,za]
     exact ⟨rfl,rfl⟩
 · rw [l6.ld (i:=1) rfl,pr1,za,l6.ld (i:=3) rfl,t0,za,l6.ld (i:=3) rfl,t3,za,← hi,← hsz]
   obtain ⟨O7,h7,st7⟩:=l6.call (i:=2) rfl
   refine fetch_read hg (i:=i) (by omega) (by omega) h7 s6 (by omega) hgd (a:=z) (c:=16) (by omega) (by omega) hz (by omega) (by omega) fun H7 v7 P7 l7 s7=>?_
   obtain ⟨O8,st8,h8⟩:=Lo.close (l:=[_,_]) (r:=[]) l7
   have l7:=Lo.unpack (l:=[_,_,_]) ((st7 H7 _ O8 st8 h8).pick [0,1,3,2] (by decide) (by simp))
   rw [y3,za,y4,za,zy,za,decide_eq_true (by rfl),Zm,(l7.sv (i:=4) rfl).sr.lenE undU8s,za,rdC_len,show min 16 (z - z)=0 by omega,zy,za,decide_eq_true (by rfl)]
   exact k H7 l7.ext0
end
end Go.Vc
