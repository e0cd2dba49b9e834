/- Parts of a proof, joined in build order: a calculus of contracts, contracts of functions. -/
import Derived.Test.YtgkadmojokfohaaGreatFHI
import Derived.Test.YtgkadmojokfohaaGreatFHG
set_option linter.unusedVariables false
set_option linter.unusedSimpArgs false
namespace Go.Vc
open Go.Proofs Classical
structure FSt (x:Lay) (mine:Int) (V:Int→Blk) (n:Int) (P:PSt):Prop where
 ok:POk x mine P
 view:∀ b,ZX P.s P.cs b=V b
 made:P.s.made=0
 reads:P.s.reads≤n
theorem FSt.rd {x:Lay} {mine:Int} {V:Int→Blk} {n m k:Int} {P:PSt} {s':DS} {cs':List Pl} (h:FSt x mine V n P) (hr:Rd x P s' cs' m) (hk:n+m≤k) (hm:k<4611686018427387904):FSt x mine V k { P with s:=s',cs:=cs' }:=by
 have h1:=h.reads
 have h2:=hr.reads
 exact ⟨hr.ok h.ok (by omega),fun b=>(hr.view b).trans (h.view b),hr.made.trans h.made,by show s'.reads≤_; omega⟩
theorem FSt.mono {x:Lay} {mine:Int} {V:Int→Blk} {n k:Int} {P:PSt} (h:FSt x mine V n P) (hk:n≤k):FSt x mine V k P:={ h with reads:=by have:=h.reads; omega }
theorem sv_row {H:Hp} {b T n:Nat} {cs:Array Value} (h:H[b]?=some (.cells cs T)) (hn:cs.size=n):Sv T 1 H (.slice (some ⟨b,0,none⟩) n n) (cs.toList.map fun v=>#[v]):=by
 have hl:(cs.toList.map fun v=>#[v]).length=n:=by rw [List.length_map,Array.length_toList,hn]
 refine ⟨some ⟨b,0,none⟩,n,by rw [hl],by rw [hl]; exact Nat.le_refl _,fun v hv=>?_,rfl,_,h,by show 0+n*1≤_; omega,fun i v hi=>?_⟩
 · obtain ⟨j,_,rfl⟩:=List.mem_map.1 hv; rfl
 · rw [List.getElem?_map,Array.getElem?_toList] at hi
   have hil:i<n:=by
     rcases Nat.lt_or_ge i n with h1 | h1
     · exact h1
     · rw [Array.getElem?_eq_none (by omega)] at hi; cases hi
   rw [Array.getElem?_eq_getElem (by omega)] at hi
   injection hi with hi
   rw [← hi]
   refine yx rfl (by show 0+i*1+1≤_; omega) fun j hj=>?_
   obtain rfl:j=0:=by omega
   show cs[0+i*1+0]?=_
   rw [show 0+i*1+0=i by omega,Array.getElem?_eq_getElem (by omega)]; rfl
theorem New.row {H H':Hp} {T n b m c:Nat} {vs:List (Array Value)} (hb:H.size=b) (hs:H'.size=b+1) (h:Sv T n H' (.slice (some ⟨b,0,none⟩) m c) vs):New H H' (.sl T n (.slice (some ⟨b,0,none⟩) m c) vs):=
 ⟨(·=b),⟨⟨h,fun x hx=>by injection hx with hx; exact hx.symm⟩,fun x hx=>by omega⟩,fun x hx=>by omega⟩
def natN (p:Nat):Array Value:=#[zl (p:Int)]
def wayC (d a b:Nat):Array Value:=#[.int .u8 d,zl a,zl b]
theorem zeroWay:zE Tryz.prog 249=some (.agg (wayC 0 0 0)):=by kernel_rfl
theorem buildWay2 (d a:Int):zu Tryz.prog 249 [(0,.int .u8 d),(1,zl a)]=some (.agg #[.int .u8 d,zl a,zl 0]):=by kernel_rfl
theorem buildWay3 (d a b:Int):zu Tryz.prog 249 [(0,.int .u8 d),(1,zl a),(2,zl b)]=some (.agg #[.int .u8 d,zl a,zl b]):=by kernel_rfl
theorem wayC_ok (d a b:Nat):zF (wayC d a b):=by unfold zF; rw [← Array.all_toList]; rfl
def chC (lb i:Nat) (f:Ino):Array Value:=#[zZ lb,zl i,.int .u16 (f 0),.int .u16 (f 1),.int .u32 (f 2),.int .u32 (f 3),.int .u32 (f 4),.int .u32 (f 5),.int .u32 (f 6),.int .u32 (f 7),.int .u32 (f 8),.int .u32 (f 9),.int .u32 (f 10),.int .u32 (f 11),.int .u32 (f 12),.int .u32 (f 13),.int .u32 (f 14),.int .u32 (f 15)]
theorem chC_get (lb i:Nat) (f:Ino):∀ j,2≤j→j<16→(chC lb i f)[2+j]?=some (.int .u32 (f j))
 | 0,h,_ | 1,h,_=>by omega
 | 2,_,_ | 3,_,_ | 4,_,_ | 5,_,_ | 6,_,_ | 7,_,_ | 8,_,_ | 9,_,_ | 10,_,_ | 11,_,_ | 12,_,_ | 13,_,_ | 14,_,_ | 15,_,_=>rfl
 | _+16,_,h=>by omega
theorem buildCh (lb i:Nat) (f:Ino):zu Tryz.prog 200 [(0,zZ lb),(1,zl i),(2,.agg (Zs f))]=some (.agg (chC lb i f)):=by kernel_rfl
theorem newInt1 (a:Int):zH (some eIn) 1 [(0,zl a)]=some #[zl a]:=by kernel_rfl
theorem newInt2 (a b:Int):zH (some eIn) 2 [(0,zl a),(1,zl b)]=some #[zl a,zl b]:=by kernel_rfl
noncomputable def infI:TypeInfo:=(Tryz.prog.info? 3).getD default
theorem infI_e:Tryz.prog.info? 3=some infI:=by kernel_rfl
theorem infI_s:infI.size=1:=by kernel_rfl
theorem ino_small {f:Ino} (hf:InoOk f) {j:Nat} (h2:2≤j) (h:j<16):f j<4294967296:=by
 have:=hf j h
 unfold fw at this
 rw [if_neg (by omega)] at this
 exact this
section
variable {S:Nat→Prop} {H0 H:Hp} {R:Value→Hp→Prop} {lb p fb:Nat} {mine:Int} {O:Nat→Prop} {B L I:Int} {V:Int→Blk} {n:Int} {P:PSt}
theorem plan_way {i:Nat} (hi:i<65802) (k:∀ H',Ext H H'→R (.agg (if i<10 then wayC 1 i 0 else if i<266 then wayC 2 (i - 10) 0 else wayC 3 ((i - 266) / 256) ((i - 266) % 256))) H'):Fc Tryz.prog 141 #[zl i] H R:=by
 refine fn141 ?_
 simp only [sh141,zeroWay,za,zt]
 refine (Lo.start _ H:Lx H H []).boxA fun b1 H1 _ l1=>?_
 have l1:Lx H H1 [.box b1 (wayC 0 0 0) 249]:=l1
 refine zQ.mk (fun t H'=>t.1=.bool false∧H'=H1) ?_ ?_
 rotate_left
 · rw [zr,za,decide_eq_false (by omega),zm,zS,za,decide_eq_false (by omega)]
   exact ⟨rfl,rfl⟩
 rintro ⟨t,u⟩ H2 ⟨ht,rfl⟩
 simp only at ht
 subst ht
 rw [zm,zr,za,zf]
 refine ⟨fun h1=>?_,fun h1=>?_⟩
 · rw [show zu Tryz.prog 249 [(0,.int .u8 1),(1,zl i)]=_ from buildWay2 ..,za]
   refine l1.ret (i:=0) (vs:=wayC 1 i 0) rfl rfl rfl (wayC_ok 1 i 0) fun H3 l3=>?_
   have:=k H3 l3.ext0
   rw [if_pos (by omega)] at this; exact this
 · rw [zr,za,zf]
   refine ⟨fun h2=>?_,fun h2=>?_⟩
   · rw [zN,za,zg (by omega) (by omega),show (i:Int) - 10=((i - 10:Nat):Int) by omega,show zu Tryz.prog 249 [(0,.int .u8 2),(1,.int .i64 ((i - 10:Nat):Int))]=_ from buildWay2 ..,za]
     refine l1.ret (i:=0) (vs:=wayC 2 (i - 10) 0) rfl rfl rfl (wayC_ok 2 _ 0) fun H3 l3=>?_
     have:=k H3 l3.ext0
     rw [if_neg (by omega),if_pos (by omega)] at this; exact this
   · rw [zN,za,zg (by omega) (by omega),zN,za,zg (by omega) (by omega),Zf (by decide),za,Zm (by omega),zg (by omega) (by omega),zW (by decide),za,z8 (by omega),show ((i:Int) - 10 - 256) / 256=(((i - 266) / 256:Nat):Int) by omega,show ((i:Int) - 10 - 256) % 256=(((i - 266) % 256:Nat):Int) by omega,show zu Tryz.prog 249 [(0,.int .u8 3),(1,.int .i64 (((i - 266) / 256:Nat):Int)),(2,.int .i64 (((i - 266) % 256:Nat):Int))]=_ from buildWay3 ..,za]
     refine l1.ret (i:=0) (vs:=wayC 3 ((i - 266) / 256) ((i - 266) % 256)) rfl rfl rfl (wayC_ok 3 _ _) fun H3 l3=>?_
     have:=k H3 l3.ext0
     rw [if_neg (by omega),if_neg (by omega)] at this; exact this
set_option maxHeartbeats 1000000 in
theorem ch_top {i:Nat} {f:Ino} (hf:InoOk f) {x:Ob} (l:Lo S H0 H [x,.box fb (chC lb i f) 200]) {a:Nat} (ha:a<65802)
   (k:∀ H' v,Lo S H0 H' [x,.box fb (chC lb i f) 200,.sl 3 1 v ((topP a).map natN)]→R (.tuple #[zl (topB f a:Nat),v]) H'):Fc Tryz.prog 101 #[zZ fb,zl a] H R:=by
 have w0:∀ {d a b:Nat},(wayC d a b)[0]?=some (.int .u8 d):=rfl
 have w1:∀ {d a b:Nat},(wayC d a b)[1]?=some (zl a):=rfl
 have w2:∀ {d a b:Nat},(wayC d a b)[2]?=some (zl b):=rfl
 refine fn101 ?_
 simp only [sh101,zeroWay,za,zc,zi,Nat.zero_add]
 refine plan_way ha fun H1 e1=>?_
 generalize hw:(if a<10 then wayC 1 a 0 else if a<266 then wayC 2 (a - 10) 0 else wayC 3 ((a - 266) / 256) ((a - 266) % 256))=w
 have hwd:∃ d q r:Nat,w=wayC d q r∧d<4∧((a<10∧d=1∧q=a)∨(10≤a∧a<266∧d=2∧q=a - 10)∨(266≤a∧d=3∧q=(a - 266) / 256∧r=(a - 266) % 256)):=by
   rw [← hw]
   split
   · exact ⟨1,a,0,rfl,by omega,.inl ⟨by omega,rfl,rfl⟩⟩
   · split
     · exact ⟨2,a - 10,0,rfl,by omega,.inr (.inl ⟨by omega,by omega,rfl,rfl⟩)⟩
     · exact ⟨3,_,_,rfl,by omega,.inr (.inr ⟨by omega,rfl,rfl,rfl⟩)⟩
 obtain ⟨d,q,r,rfl,hd,hc⟩:=hwd
 refine (l.ext e1).boxA fun b2 H2 _ l2=>?_
 refine l2.stAll (i:=2) rfl rfl rfl (wayC_ok _ _ _) fun H3 l3=>?_
 have l3:Lo S H0 H3 [x,.box fb (chC lb i f) 200,.box b2 (wayC d q r) 249]:=l3
 simp only [zi,Nat.zero_add,za]
 rw [l3.ld (i:=2) rfl,w0,za,zy,za,zf]
 refine ⟨fun h1=>?_,fun h1=>?_⟩
 · obtain ⟨h2,rfl,rfl⟩:a<10∧d=1∧q=a:=by omega
   rw [l3.ld (i:=2) rfl,w1,za,zG (by omega),za,show 2+4+q*1=2+(4+q) by omega,l3.ld (i:=1) rfl,chC_get _ _ _ _ (by omega) (by omega),za,zD,za]
   have hs:=ino_small hf (j:=4+q) (by omega) (by omega)
   rw [zv (by omega)]
   have l4:=(l3.takeN 2).nilS 3 1
   have:=k H3 (.slice none 0 0) (by unfold topP; rw [if_pos h2]; exact l4)
   unfold topB at this
   rw [if_pos h2] at this; exact this
 · rw [zy,za,zf]
   refine ⟨fun h2=>?_,fun h2=>?_⟩
   · obtain ⟨h3,h4,rfl,rfl⟩:10≤a∧a<266∧d=2∧q=a - 10:=by omega
     have hs:=ino_small hf (j:=14) (by omega) (by omega)
     have g14:(chC lb i f)[2+14]?=some (.int .u32 (f 14)):=chC_get _ _ _ 14 (by omega) (by omega)
     rw [l3.ld (i:=1) rfl,g14,za,zD,za,zv (by omega),l3.ld (i:=2) rfl,w1,za,zo]
     intro H5 e5
     rw [elIn,za,newInt1,za]
     refine newS_i fun b H4 hb e4 hs4 g4=>?_
     rw [eIn_f.1] at g4
     rw [zo]
     intro H6 e6
     have l4:=(((l3.takeN 2).ext e5).new e4 (New.row hb hs4 (sv_row g4 rfl))).ext e6
     have:=k H6 _ (by unfold topP; rw [if_neg (by omega),if_pos h4]; exact l4)
     unfold topB at this
     rw [if_neg (by omega),if_pos h4] at this; exact this
   · obtain ⟨h3,hd3,hq3,hr3⟩:266≤a∧d=3∧q=(a - 266) / 256∧r=(a - 266) % 256:=by omega
     have hs:=ino_small hf (j:=15) (by omega) (by omega)
     have g15:(chC lb i f)[2+15]?=some (.int .u32 (f 15)):=chC_get _ _ _ 15 (by omega) (by omega)
     rw [l3.ld (i:=1) rfl,g15,za,zD,za,zv (by omega),l3.ld (i:=2) rfl,w1,za,l3.ld (i:=2) rfl,w2,za,zo]
     intro H5 e5
     rw [elIn,za,newInt2,za]
     refine newS_i fun b H4 hb e4 hs4 g4=>?_
     rw [eIn_f.1] at g4
     rw [zo]
     intro H6 e6
     have l4:=(((l3.takeN 2).ext e5).new e4 (New.row hb hs4 (sv_row g4 rfl))).ext e6
     have:=k H6 _ (by unfold topP; rw [if_neg (by omega),if_neg (by omega),← hq3,← hr3]; exact l4)
     unfold topB at this
     rw [if_neg (by omega),if_neg (by omega)] at this; exact this
theorem ch_good {i b:Nat} {f:Ino} (h:(Yi lb p (zq B L I) mine P).at_ H O) (hok:POk (zq B L I) mine P) (ht:H[fb]?=some (.cells (chC lb i f) 200)) (hb:gdP (zq B L I).dataAt B b) (k:∀ H',Ext H H'→R (.int .i64 0) H'):Fc Tryz.prog 142 #[zZ fb,zl b] H R:=by
 have c8:(zq B L I).cells[8]?=some (zl (zq B L I).dataAt):=rfl
 have c0:(zq B L I).cells[0]?=some (zl B):=rfl
 refine fn142 ?_
 simp only [sh142,zc,zi,Nat.zero_add,Nat.add_zero,za,yt,zt]
 rw [zp ht,show (chC lb i f)[0]?=some (zZ lb) from rfl,za]
 refine pl_layout h hok fun H1 e1=>?_
 refine ((Lo.start _ H:Lx H H []).ext e1).boxA fun b1 H2 _ l2=>?_
 refine l2.stAll (i:=0) rfl rfl (Lay.size _) (Lay.cok _) fun H3 l3=>?_
 have l3:Lx H H3 [.box b1 (zq B L I).cells 74]:=l3
 refine zQ.mk (fun t H'=>t.1=.bool false∧H'=H3) ?_ ?_
 · rintro ⟨t,u⟩ H4 ⟨ht,rfl⟩
   simp only at ht
   subst ht
   rw [zm]; exact k H4 l3.ext0
 · rw [zw,za,zf]
   refine ⟨fun h0=>?_,fun h0=>⟨rfl,rfl⟩⟩
   rcases hb with hb | hb
   · omega
   rw [zi,za,Nat.zero_add,l3.ld (i:=0) rfl,c8,za,zr,za,decide_eq_false (by omega),zm,zi,za,zi,za,Nat.zero_add,l3.ld (i:=0) rfl,c0,za,zS,za,decide_eq_false (by omega)]
   exact ⟨rfl,rfl⟩
set_option maxHeartbeats 1000000 in
theorem ch_down (hg:Zd B L I) {i:Nat} {f:Ino}:∀ (ps:List Nat) {H:Hp} {R:Value→Hp→Prop} {P:PSt} {n:Int} {b:Nat} {v:Value} (l:Lo S H0 H [Yi lb p (zq B L I) mine P,.box fb (chC lb i f) 200,.sl 3 1 v (ps.map natN)]) (hs:FSt (zq B L I) mine V n P) (hn:n+ps.length<4611686018427387904) (hgd:dnG V (zq B L I).dataAt B b ps)
   (k:∀ H' P',Lo S H0 H' [Yi lb p (zq B L I) mine P',.box fb (chC lb i f) 200]→FSt (zq B L I) mine V (n+ps.length) P'→R (.tuple #[zl (dnV V b ps:Nat),zl (dnN V b ps:Nat),.int .i64 0]) H'),Fc Tryz.prog 102 #[zZ fb,zl b,v] H R:=by
 intro ps
 induction ps with
 | nil=>
   intro H R P n b v l hs hn hgd k
   refine fn102 ?_
   simp only [sh102,zc,zi,Nat.zero_add,Nat.add_zero,za]
   obtain ⟨O,h,st⟩:=l.call (i:=0) rfl
   refine ch_good h hs.ok (l.at (i:=1) rfl) hgd.gd fun H1 e1=>?_
   have l1:=l.ext e1
   have hk:=k H1 P (l1.takeN 2) (hs.mono (by omega))
   unfold dnV dnN at hk
   rw [zw,za,decide_eq_false (by omega),zm,zy,za,zf]
   refine ⟨fun h0=>?_,fun h0=>?_⟩
   · obtain rfl:b=0:=by omega
     rw [if_pos rfl] at hk; exact hk
   · rw [if_neg (by omega)] at hk
     rw [(l1.sv (i:=2) rfl).sr.lenE undInts,za,zy,za,decide_eq_true (by rfl),Zg]
     exact hk
 | cons q ps ih=>
   intro H R P n b v l hs hn hgd k
   have hr1:=hs.reads
   have hr2:=hs.ok.reads
   have x3:∀ {a b c:Value},ze (.tuple #[a,b,c]) 0=some a:=rfl
   have x4:∀ {a b c:Value},ze (.tuple #[a,b,c]) 1=some b:=rfl
   have x5:∀ {a b c:Value},ze (.tuple #[a,b,c]) 2=some c:=rfl
   have y3:∀ {a b:Value},ze (.tuple #[a,b]) 0=some a:=rfl
   have y4:∀ {a b:Value},ze (.tuple #[a,b]) 1=some b:=rfl
   obtain ⟨gL1,gL2,gI1,gI2,gB1,gB2,gD⟩:=id hg
   have hDA:(zq B L I).dataAt=1+L+(I+16) / 16+(B+8191) / 8192:=rfl
   have hBB:(zq B L I).B=B:=rfl
   have hLL:(zq B L I).L=L:=rfl
   rw [List.length_cons] at hn k
   obtain ⟨hgd0,hq,hgd1⟩:=hgd
   refine fn102 ?_
   simp only [sh102,zc,zi,Nat.zero_add,Nat.add_zero,za,yc]
   obtain ⟨O,h,st⟩:=l.call (i:=0) rfl
   refine ch_good h hs.ok (l.at (i:=1) rfl) hgd0 fun H1 e1=>?_
   have l1:=l.ext e1
   rw [zw,za,decide_eq_false (by omega),zm,zy,za,zf]
   refine ⟨fun h0=>?_,fun h0=>?_⟩
   · obtain rfl:b=0:=by omega
     have hk:=k H1 P (l1.takeN 2) (hs.mono (by omega))
     unfold dnV dnN at hk
     rw [if_pos rfl,if_pos rfl] at hk; exact hk
   · rw [(l1.sv (i:=2) rfl).sr.lenE undInts,za,List.length_map,List.length_cons,zy,za,decide_eq_false (by omega),zm,l1.ld (i:=1) rfl,show (chC lb i f)[0]?=some (zZ lb) from rfl,za]
     obtain ⟨O1,h1,st1⟩:=l1.call (i:=0) rfl
     rcases hgd0 with hz | hgd0
     · omega
     refine pl_read h1 hs.ok (a:=(b:Int)) (by omega) (by rw [hBB]; omega) (by rw [hLL]; omega) fun H2 O2 s' cs' s2 h2 hrd hib=>?_
     rw [hs.view] at hib ⊢
     have hs2:FSt (zq B L I) mine V (n+1) { P with s:=s',cs:=cs' }:=hs.rd hrd (by omega) (by omega)
     have l2:=st1 H2 _ O2 s2 h2
     rw [y3,za,y4,za]
     refine l2.boxA fun b3 H3 _ l3=>?_
     refine l3.stAll (i:=3) rfl zK hib.size hib.ok fun H4 l4=>?_
     have l4:Lo S H0 H4 [Yi lb p (zq B L I) mine { P with s:=s',cs:=cs' },.box fb (chC lb i f) 200,.sl 3 1 v ((q :: ps).map natN),.box b3 (V b) 94]:=l4
     rw [zw,za,decide_eq_false (by omega),zm,l4.ldAll (i:=3) (n:=1024) rfl hib.size,za]
     obtain ⟨bb,oo,ha,hl⟩:=(l4.sv (i:=2) rfl).sr.cell (i:=0) (j:=0) (v:=natN q) rfl (by omega)
     rw [Nat.add_zero] at hl
     rw [show zh (some (none,1)) v (.int .i64 0)=_ from ha .i64,za,hl,show (natN q)[0]?=some (zl q) from rfl,za,z6,za,zg (by omega) (by omega),show (4:Int)*(q:Int)=((4*q:Nat):Int) by omega]
     refine ⟨.int .u32 (p4 V b q:Nat),fun H'' _=>slab_u32 hib (by omega) fun H3 e3=>⟨rfl,e3⟩,?_⟩
     have hp4:p4 V b q<4294967296:=leB_lt hib.lt 4 _
     rw [zD,za,zv (by omega)]
     obtain ⟨v',hv',sv',hbl⟩:=(l4.sv (i:=2) rfl).slice undInts infI_e infI_s (lo:=1) (hi':=ps.length+1) (by omega) (by rw [List.length_map,List.length_cons]; exact Nat.le_refl _) (some (zl ((1:Nat):Int))) none (.inl rfl) (.inr ⟨rfl,by rw [List.length_map,List.length_cons]⟩)
     rw [show ZQ Tryz.prog 106 v (some (.int .i64 1)) none none=_ from hv',za,zo]
     intro H5 e5
     have el:(((q :: ps).map natN).take (ps.length+1)).drop 1=ps.map natN:=by
       rw [List.map_cons,List.take_succ_cons,List.drop_succ_cons,List.drop_zero,List.take_of_length_le (by rw [List.length_map]; omega)]
     rw [el] at sv'
     have l5:=l4.nth (i:=2) (y:=.sl 3 1 v' (ps.map natN)) rfl fun O' ho=>by
       refine ⟨⟨sv',fun x hx=>ho.1.2 x (hbl x hx)⟩,ho.2⟩
     have l5:Lo S H0 H5 [Yi lb p (zq B L I) mine { P with s:=s',cs:=cs' },.box fb (chC lb i f) 200,.sl 3 1 v' (ps.map natN)]:=(l5.takeN 3).ext e5
     refine ih l5 hs2 (by omega) (hgd1 (by omega)) fun H6 P6 l6 hs6=>?_
     rw [x3,za,x4,za,x5,za,zo]
     intro H7 e7
     have hle:=dnN_le V ps (p4 V b q)
     have hk:=k H7 P6 (l6.ext e7) (hs6.mono (by omega))
     have ev:dnV V b (q :: ps)=dnV V (p4 V b q) ps:=by
       show (if b=0 then 0 else _)=_
       rw [if_neg (by omega)]
     have en:dnN V b (q :: ps)=dnN V (p4 V b q) ps+1:=by
       show (if b=0 then 0 else _)=_
       rw [if_neg (by omega)]
     rw [ev,en] at hk
     rw [zj,za,zJ,zv (by omega)]
     exact hk
end
theorem elU8:zI Tryz.prog 43=some ⟨5,1,1,#[.int .u8 0]⟩:=by kernel_rfl
theorem undU8s:Tryz.prog.underlying 43=some (.slice 5):=by kernel_rfl
theorem make_bytes {T:TypeId} {l:Nat} {H:Hp} {K:Value × Hp→Prop} (hl:l≤1000000) (h:∀ b H',H.size=b→Ext H H'→H'.size=b+1→H'[b]?=some (.cells ((Array.range l).map fun _=>.int .u8 0) T)→K (.slice (some ⟨b,0,none⟩) l l,H')) :
   Pu (YV (some ⟨T,1,1,#[.int .u8 0]⟩) (zl (l:Nat)) (zl (l:Nat)) H) K:=by
 have hc:(0:Int)≤l∧(l:Int)≤l∧(l:Int)≤2 ^ 48∧((1:Nat):Int)*l≤2 ^ 47∧((l:Int)=0∨(1:Nat)≠0):=⟨by omega,by omega,by omega,by omega,.inr (by decide)⟩
 have he:YV (some ⟨T,1,1,#[.int .u8 0]⟩) (zl (l:Nat)) (zl (l:Nat)) H=some (.slice (some ⟨H.size,0,none⟩) l l,H.push (.cells ((Array.range (l*1)).map ((#[.int .u8 0]:Array Value)[· % 1]!)) T)):=by
   unfold YV
   show (if _ then _ else _)=_
   rw [if_pos hc,Int.toNat_natCast]; rfl
 rw [he,za]
 refine h _ _ rfl (Ext.push H _) (by simp) ?_
 rw [ya,Nat.mul_one]
 have e:∀ i:Nat,(#[.int .u8 0]:Array Value)[i % 1]! =.int .u8 0:=fun i=>by rw [Nat.mod_one]; rfl
 have e2:(fun x:Nat=>(#[.int .u8 0]:Array Value)[x % 1]!)=fun _=>.int .u8 0:=funext e
 rw [e2]
theorem cellsOk_extract {c:Array Value} (h:zF c) {a b:Nat}:zF (c.extract a b):=by
 unfold zF at h ⊢
 rw [Array.all_eq_true] at h ⊢
 intro i hi
 rw [Array.getElem_extract]
 exact h _ _
section
variable {S:Nat→Prop} {H0 H:Hp} {R:Value→Hp→Prop} {lb p fb:Nat} {mine:Int} {O:Nat→Prop} {B L I:Int} {V:Int→Blk} {n:Int} {P:PSt}
theorem FSt.isB (hs:FSt (zq B L I) mine V n P) (h:(Yi lb p (zq B L I) mine P).at_ H O) (a:Int):IsB (V a):=by
 have:=pl_isB h a
 rw [hs.view] at this; exact this
theorem FSt.ino (hs:FSt (zq B L I) mine V n P) (h:(Yi lb p (zq B L I) mine P).at_ H O) (i:Nat):InoOk (yq V L i):=inoOf_ok (hs.isB h _).lt _
theorem ch_open (hg:Zd B L I) {i:Nat} (h0:1≤i) (h1:(i:Int)≤I) (l:Lo S H0 H [Yi lb p (zq B L I) mine P]) (hs:FSt (zq B L I) mine V n P) (hn:n+1<4611686018427387904)
   (k:∀ H' P' fb,Lo S H0 H' [Yi lb p (zq B L I) mine P',.box fb (chC lb i (yq V L i)) 200]→FSt (zq B L I) mine V (n+1) P'→R (.tuple #[zZ fb,.int .i64 0]) H'):Fc Tryz.prog 64 #[zZ lb,zl i,.bool false] H R:=by
 have y3:∀ {a b:Value},ze (.tuple #[a,b]) 0=some a:=rfl
 have y4:∀ {a b:Value},ze (.tuple #[a,b]) 1=some b:=rfl
 obtain ⟨O,h,st⟩:=l.call (i:=0) rfl
 refine fn64 ?_
 simp only [sh64,yf,zt,za]
 refine pl_check h hs.ok ?_
 rw [zw,za,decide_eq_false (by omega),zm]
 refine zQ.mk (fun t H'=>t.1=.bool false∧H'=H) ?_ ?_
 rotate_left
 · rw [zm]; exact ⟨rfl,rfl⟩
 rintro ⟨t,u⟩ H1 ⟨ht,rfl⟩
 simp only at ht
 subst ht
 rw [zm]
 refine pl_rack h hs.ok hg h0 h1 fun H2 O2 s' cs' s2 h2 hrd=>?_
 have l2:=st H2 _ O2 s2 h2
 have ei:Zu (ZX P.s P.cs (1+L+((i / 16:Nat):Int))) (64*(i % 16))=yq V L i:=by unfold yq; rw [hs.view]
 rw [y3,za,y4,za,ei]
 refine l2.boxA fun b1 H3 _ l3=>?_
 refine l3.stAll (i:=1) rfl (zz _) (zz _) (Z2 _) fun H4 l4=>?_
 have l4:Lo S H0 H4 [Yi lb p (zq B L I) mine { P with s:=s',cs:=cs' },.box b1 (Zs (yq V L i)) 88]:=l4
 rw [zw,za,decide_eq_false (by omega),zm,l4.ldAll (i:=1) (n:=16) rfl (zz _),za,buildCh,za]
 refine l4.boxA fun fb H5 _ l5=>?_
 exact k H5 _ fb (l5.pick [0,2] (by decide) (by simp)) (hs.rd hrd (by omega) (by omega))
theorem ch_at (hg:Zd B L I) {i:Nat} {f:Ino} (hf:InoOk f) (l:Lo S H0 H [Yi lb p (zq B L I) mine P,.box fb (chC lb i f) 200]) (hs:FSt (zq B L I) mine V n P) (hn:n+2<4611686018427387904) (hgd:GdF V (zq B L I).dataAt B f) {a:Nat} (ha:a<65802)
   (k:∀ H' P' m,Lo S H0 H' [Yi lb p (zq B L I) mine P',.box fb (chC lb i f) 200]→FSt (zq B L I) mine V (n+2) P'→R (.tuple #[zl (yk V f a:Nat),m,.int .i64 0]) H'):Fc Tryz.prog 65 #[zZ fb,zl a] H R:=by
 have x3:∀ {a b c:Value},ze (.tuple #[a,b,c]) 0=some a:=rfl
 have x4:∀ {a b c:Value},ze (.tuple #[a,b,c]) 1=some b:=rfl
 have x5:∀ {a b c:Value},ze (.tuple #[a,b,c]) 2=some c:=rfl
 have y3:∀ {a b:Value},ze (.tuple #[a,b]) 0=some a:=rfl
 have y4:∀ {a b:Value},ze (.tuple #[a,b]) 1=some b:=rfl
 have htl:=topP_len a
 refine fn65 ?_
 simp only [sh65]
 refine ch_top hf l ha fun H1 v l1=>?_
 rw [y3,za,y4,za]
 have hlen:=(l1.sv (i:=2) rfl).sr.lenE undInts
 refine ch_down hg _ l1 hs (by omega) (dnG_top hgd ha) fun H2 P' l2 hs2=>?_
 have hle:=dnN_le V (topP a) (topB f a)
 rw [x3,za,x4,za,x5,za,zw,za,decide_eq_false (by omega),zm,hlen,za,List.length_map,zj,za,zg (by omega) (by omega),zN,za,dnV_top]
 exact k H2 P' _ l2 (hs2.mono (by omega))
theorem chart_at (hg:Zd B L I) {i:Nat} (h0:1≤i) (h1:(i:Int)≤I) (h:(Yi lb p (zq B L I) mine P).at_ H O) (hs:FSt (zq B L I) mine V n P) (hn:n+3<4611686018427387904) (hgd:GdF V (zq B L I).dataAt B (yq V L i)) {a:Nat} (ha:a<65802)
   (k:∀ H' O' P',Stp O O' H H'→(Yi lb p (zq B L I) mine P').at_ H' O'→FSt (zq B L I) mine V (n+3) P'→R (.tuple #[zl (yk V (yq V L i) a:Nat),.int .i64 0]) H'):Fc Tryz.prog 26 #[zZ lb,zl i,zl a] H R:=by
 have x3:∀ {a b c:Value},ze (.tuple #[a,b,c]) 0=some a:=rfl
 have x4:∀ {a b c:Value},ze (.tuple #[a,b,c]) 1=some b:=rfl
 have x5:∀ {a b c:Value},ze (.tuple #[a,b,c]) 2=some c:=rfl
 have y3:∀ {a b:Value},ze (.tuple #[a,b]) 0=some a:=rfl
 have y4:∀ {a b:Value},ze (.tuple #[a,b]) 1=some b:=rfl
 refine fn26 ?_
 simp only [sh26,zt]
 refine ch_open hg h0 h1 (Lo.own h) hs (by omega) fun H1 P1 fb l1 hs1=>?_
 rw [y3,za,y4,za,zw,za,decide_eq_false (by omega),zm]
 refine zQ.mk (fun t H'=>t.1=.bool false∧H'=H1) ?_ ?_
 rotate_left
 · rw [zr,za,decide_eq_false (by omega),zm,zS,za,decide_eq_false (by omega)]
   exact ⟨rfl,rfl⟩
 rintro ⟨t,u⟩ H2 ⟨ht,rfl⟩
 simp only at ht
 subst ht
 rw [zm]
 refine ch_at hg (hs.ino h i) l1 hs1 (by omega) hgd ha fun H3 P3 m l3 hs3=>?_
 rw [x3,za,x4,za,x5,za]
 obtain ⟨O',st,h'⟩:=Lo.close1 l3
 exact k H3 O' P3 st h' (hs3.mono (by omega))
set_option maxHeartbeats 2000000 in
set_option maxRecDepth 100000 in
theorem fetch_read (hg:Zd B L I) {i:Nat} (h0:1≤i) (h1:(i:Int)≤I) (h:(Yi lb p (zq B L I) mine P).at_ H O) (hs:FSt (zq B L I) mine V n P) (hn:n+262146<4611686018427387904) (hgd:GdF V (zq B L I).dataAt B (yq V L i)) {a c:Nat} (ha:a<9223372036854775808) (hc:c≤65536) {z:Nat} (hz:yq V L i 2=z) (hsz:z≤67381248) (hk0:yq V L i 0≠0)
   (k:∀ H' v P',Lo O H H' [Yi lb p (zq B L I) mine P',.sl 5 1 v (rdC V (yq V L i) a (min c (z - a)))]→FSt (zq B L I) mine V (n+262145) P'→R (.tuple #[v,.int .i64 0]) H'):Fc Tryz.prog 9 #[zZ lb,zl i,zl a,zl c] H R:=by
 have y3:∀ {a b:Value},ze (.tuple #[a,b]) 0=some a:=rfl
 have y4:∀ {a b:Value},ze (.tuple #[a,b]) 1=some b:=rfl
 obtain ⟨gL1,gL2,gI1,gI2,gB1,gB2,gD⟩:=id hg
 have hDA:(zq B L I).dataAt=1+L+(I+16) / 16+(B+8191) / 8192:=rfl
 have hBB:(zq B L I).B=B:=rfl
 have hLL:(zq B L I).L=L:=rfl
 refine fn9 ?_
 simp only [sh9,yf,yc,zt,za]
 obtain ⟨Oa,ha1,sta⟩:=(Lo.own h).call (i:=0) rfl
 refine pl_rack ha1 hs.ok hg h0 h1 fun H2 O2 s' cs' s2 h2 hrd=>?_
 have ei:Zu (ZX P.s P.cs (1+L+((i / 16:Nat):Int))) (64*(i % 16))=yq V L i:=by unfold yq; rw [hs.view]
 rw [y3,za,y4,za,ei]
 have l2:=sta H2 _ O2 s2 h2
 have hs2:FSt (zq B L I) mine V (n+1) { P with s:=s',cs:=cs' }:=hs.rd hrd (by omega) (by omega)
 have hino:=hs.ino h
 have hisB:=hs.isB h
 generalize ({ P with s:=s',cs:=cs' }:PSt)=P2 at l2 hs2
 have l2:Lo O H H2 [Yi lb p (zq B L I) mine P2]:=l2
 have hz32:z<4294967296:=by omega
 generalize hff:yq V L i=f at hgd hz hk0 k
 refine l2.boxA fun b1 H3 _ l3=>?_
 refine l3.stAll (i:=1) rfl (zz _) (zz _) (Z2 _) fun H4 l4=>?_
 have l4:Lo O H H4 [Yi lb p (zq B L I) mine P2,.box b1 (Zs f) 88]:=l4
 have i0:(Zs f)[0]?=some (.int .u16 (f 0)):=rfl
 have i2:(Zs f)[2]?=some (.int .u32 (f 2)):=rfl
 rw [zw,za,decide_eq_false (by omega),zm]
 refine zQ.mk (fun t H'=>t.1=.bool false∧H'=H4) ?_ ?_
 rotate_left
 · rw [zr,za,decide_eq_false (by omega),zm,zr,za,decide_eq_false (by omega),zm,zL,za,decide_eq_false (by omega)]
   exact ⟨rfl,rfl⟩
 rintro ⟨t,u⟩ H5 ⟨ht,rfl⟩
 simp only at ht
 subst ht
 rw [zm]
 simp only [zi,Nat.zero_add,za]
 rw [l4.ld (i:=1) rfl,i0,za,zy,za,decide_eq_false (by omega),zm,l4.ld (i:=1) rfl,i2,za,zD,za,hz,zv (by omega),zS,za,zf]
 refine ⟨fun hge=>?_,fun hlt=>?_⟩
 · have l5:=(l4.takeN 1).nilS 5 1
   refine k H5 (.slice none 0 0) P2 ?_ (hs2.mono (by omega))
   rw [show min c (z - a)=0 by omega]
   exact l5
 have hmn:min ((a:Int)+(c:Int)) (z:Int)=((a+min c (z - a):Nat):Int):=by omega
 rw [zj,za,zg (by omega) (by omega),za,zD,za,zv (by omega),min_int,za,hmn,zN,za,zg (by omega) (by omega),show ((a+min c (z - a):Nat):Int) - (a:Int)=((min c (z - a):Nat):Int) by omega]
 have haz:a+min c (z - a)≤z:=by omega
 have hnc:min c (z - a)≤65536:=by omega
 generalize min c (z - a)=w at haz hnc k
 rw [elU8]
 refine make_bytes (by omega) fun ob H6 hb6 e6 hs6 g6=>?_
 have g6:H6[ob]?=some (.cells (outC V f a w 0) 5):=by
   rw [g6]
   have:(Array.range w).map (fun _=>Value.int .u8 0)=outC V f a w 0:=by
     apply Array.ext_getElem?
     intro j
     by_cases hj:j<w
     · rw [YT hj,Array.getElem?_map,Array.getElem?_range,if_pos hj,if_neg (by omega)]; rfl
     · rw [Array.getElem?_eq_none (by simp; omega),Array.getElem?_eq_none (by rw [ZR]; omega)]
   rw [this]
 have l6:=(l4.takeN 1).add e6 (x:=.box ob (outC V f a w 0) 5) (O:=(·=ob)) ⟨⟨g6,rfl⟩,fun x hx=>by omega⟩ fun x hx=>by omega
 have l6:Lo O H H6 [Yi lb p (zq B L I) mine P2,.box ob (outC V f a w 0) 5]:=l6
 refine zx.mk (fun t H'=>∃ (q:Nat) (P':PSt),q≤w∧t=(zl ((a+q:Nat):Int),())∧FSt (zq B L I) mine V (n+1+4*(q:Int)) P'∧Lo O H H' [Yi lb p (zq B L I) mine P',.box ob (outC V f a w q) 5])
   (fun t _=>mi t.1 fun x=>((a+w:Nat) - x).toNat) ⟨0,P2,by omega,rfl,hs2.mono (by omega),l6⟩ ?_
 clear l6 l4 l3 hs2 l2 h2 s2
 rintro _ H7 ⟨q,P7,hq,rfl,hs7,l7⟩
 rw [zr,za,zf]
 refine ⟨fun hlt=>?_,fun hge=>?_⟩
 · obtain ⟨q',hq'⟩:∃ q',q'=min w (((a+q) / 1024+1)*1024 - a):=⟨_,rfl⟩
   have hq1:q<q':=by omega
   have hq2:q'≤w:=by omega
   have hq3:(a+q) % 1024+(q' - q)≤1024:=by omega
   have emn:min ((a+w:Nat):Int) ((((a+q) / 1024+1)*1024:Nat):Int)=((a+q':Nat):Int):=by omega
   rw [Zf (by decide),za,Zm (by omega),zg (by omega) (by omega),show ((a+q:Nat):Int) / 1024=(((a+q) / 1024:Nat):Int) by omega,zj,za,zJ,zv (by omega),z6,za,zg (by omega) (by omega),show (((a+q) / 1024+1:Nat):Int)*1024=((((a+q) / 1024+1)*1024:Nat):Int) by omega,min_int,za,emn,za]
   obtain ⟨O7,h7,st7⟩:=l7.call (i:=0) rfl
   have hgd7:GdF V (zq B L I).dataAt B (yq V L i):=by rw [hff]; exact hgd
   refine chart_at hg h0 h1 h7 hs7 (by omega) hgd7 (a:=(a+q) / 1024) (by omega) fun H8 O8 P8 s8 h8 hs8=>?_
   have l8:=st7 H8 _ O8 s8 h8
   have l8:Lo O H H8 [Yi lb p (zq B L I) mine P8,.box ob (outC V f a w q) 5]:=l8
   rw [hff,y3,za,y4,za,zw,za,decide_eq_false (by omega),zm,zw,za,zf]
   have hgp:=ptr_gd hgd (i:=(a+q) / 1024) (by omega)
   have hcv:cntV V f ((a+q) / 1024)=if yk V f ((a+q) / 1024)=0 then zB else V (yk V f ((a+q) / 1024):Nat):=rfl
   generalize yk V f ((a+q) / 1024)=w8 at hgp hcv
   refine ⟨fun hne=>?_,fun he=>?_⟩
   · rcases hgp with hgp | hgp
     · omega
     rw [if_neg (by omega)] at hcv
     obtain ⟨O9,h9,st9⟩:=l8.call (i:=0) rfl
     refine pl_read h9 hs8.ok (a:=(w8:Int)) (by omega) (by rw [hBB]; omega) (by rw [hLL]; omega) fun H9 O10 s9' cs9' s9 h10 hrd9 hib=>?_
     rw [hs8.view] at hib ⊢
     have hs9:FSt (zq B L I) mine V (n+1+4*(q':Int)) { P8 with s:=s9',cs:=cs9' }:=hs8.rd hrd9 (by omega) (by omega)
     have l9:=st9 H9 _ O10 s9 h10
     rw [y3,za,y4,za]
     refine l9.boxA fun b3 H10 _ l10=>?_
     refine l10.stAll (i:=2) rfl zK hib.size hib.ok fun H11 l11=>?_
     have l11:Lo O H H11 [Yi lb p (zq B L I) mine { P8 with s:=s9',cs:=cs9' },.box ob (outC V f a w q) 5,.box b3 (V w8) 94]:=l11
     have hcp:ZQ Tryz.prog 43 (.slice (some ⟨ob,0,none⟩) w w) (some (zl (q:Int))) (some (zl (q':Int))) (some (zl (q':Int)))=some (.slice (some ⟨ob,q,none⟩) (q' - q) (q' - q)):=sl_piece undU8s inf8_e inf8_s hq1 hq2
     rw [zw,za,decide_eq_false (by omega),zm,zN,za,zg (by omega) (by omega),show ((a+q:Nat):Int) - (a:Int)=(q:Int) by omega,zN,za,zg (by omega) (by omega),show ((a+q':Nat):Int) - (a:Int)=(q':Int) by omega,za,hcp,za,zW (by decide),za,z8 (by omega),show ((a+q:Nat):Int) % 1024=(((a+q) % 1024:Nat):Int) by omega,sl_from und1024 inf8_e inf8_s (by omega),za]
     have hrow:rowH H11 ⟨b3,(a+q) % 1024,none⟩ (q' - q)=some ((V w8).extract ((a+q) % 1024) ((a+q) % 1024+(q' - q))):=by
       unfold rowH
       simp only [l11.at (i:=2) rfl]
       rw [if_pos ⟨trivial,by rw [hib.size]; exact hq3⟩]
     have hcs:((V w8).extract ((a+q) % 1024) ((a+q) % 1024+(q' - q))).size=q' - q:=by rw [Array.size_extract,hib.size]; omega
     refine copy_row2 rfl hrow (by omega) hcs ?_
     refine l11.stRow (i:=1) rfl (by rw [ZR]; omega) hcs (cellsOk_extract hib.ok) fun H12 l12=>?_
     rw [outC_put (by omega) hq2 hib hq3 hcv rfl] at l12
     exact ⟨⟨q',_,hq2,rfl,hs9,l12.takeN 2⟩,by simp only [zC]; omega⟩
   · obtain rfl:w8=0:=by omega
     rw [if_pos rfl] at hcv
     rw [outC_hole (k':=q') (by omega) hq3 hcv] at l8
     exact ⟨⟨q',P8,hq2,rfl,hs8.mono (by omega),l8⟩,by simp only [zC]; omega⟩
 · obtain rfl:q=w:=by omega
   have l8:=l7.nth (i:=1) (y:=.sl 5 1 (.slice (some ⟨ob,0,none⟩) q q) (rdC V f a q)) rfl fun O' ho=>⟨⟨outC_sv ho.1.1,fun x hx=>by injection hx with hx; rw [← hx]; exact ho.1.2⟩,ho.2⟩
   exact k H7 _ P7 l8 (hs7.mono (by omega))
end
def ByL (xs:List (Array Value)):Prop:=∀ (i:Nat) (c:Array Value),xs[i]?=some c→∃ n:Nat,c=(#[.int .u8 (n:Int)]:Array Value)
theorem rdC_by (V:Int→Blk) (f:Ino) (a n:Nat):ByL (rdC V f a n):=fun i c hc=>by
 have hil:i<n:=by
   rcases Nat.lt_or_ge i n with h1 | h1
   · exact h1
   · rw [List.getElem?_eq_none (by rw [yj]; exact h1)] at hc; cases hc
 rw [rdC_get hil] at hc
 injection hc with hc
 exact ⟨_,hc.symm⟩
section
variable {H:Hp} {R:Value→Hp→Prop}
theorem same_bytes {a b:Value} {xs ys:List (Array Value)} (ha:Sr 1 H a xs) (hb:Sr 1 H b ys) (e:xs=ys) (hby:ByL xs) (hl:xs.length<281474976710656) (k:R (.bool true) H):Fc Tryz.prog 12 #[a,b] H R:=by
 subst e
 refine fn12 ?_
 simp only [sh12,zt]
 rw [ha.lenE undU8s,za,hb.lenE undU8s,za,zw,za,decide_eq_false (by omega),zm]
 refine zx.mk (fun t H'=>H'=H∧∃ i:Nat,i≤xs.length∧t=(zl i,())) (fun t _=>mi t.1 fun x=>(xs.length - x).toNat) ⟨rfl,0,by omega,rfl⟩ ?_
 rintro _ H1 ⟨rfl,i,hi,rfl⟩
 rw [za,zr,za,zf]
 refine ⟨fun hlt=>?_,fun hge=>k⟩
 have hc:xs[i]?=some xs[i]:=List.getElem?_eq_getElem (by omega)
 obtain ⟨n,hn⟩:=hby i _ hc
 obtain ⟨c1,o1,a1,r1⟩:=ha.cell hc (j:=0) (by omega)
 obtain ⟨c2,o2,a2,r2⟩:=hb.cell hc (j:=0) (by omega)
 rw [Nat.add_zero] at r1 r2
 have g0:(xs[i])[0]?=some (.int .u8 (n:Int)):=by rw [hn]; rfl
 rw [show zh (some (none,1)) a (zl i)=_ from a1 .i64,za,r1,g0,za,show zh (some (none,1)) b (zl i)=_ from a2 .i64,za,r2,g0,za,zw,za,decide_eq_false (by omega),zm,zj,za,zJ,zv (by omega)]
 exact ⟨⟨rfl,i+1,by omega,rfl⟩,by simp only [zC]; exact ms_lt (by omega)⟩
end
theorem cntV_is {V:Int→Blk} (h:∀ a,IsB (V a)) (f:Ino) (i:Nat):IsB (cntV V f i):=by
 unfold cntV
 split
 · exact Zo
 · exact h _
theorem slot_byte {V:Int→Blk} {B L I:Int} {t:Itm} (hs:Sem V B L I t) (hV:∀ a,IsB (V a)) (h2:t.kind=2) {s:Nat} {e:Ent} (he:t.slots[s]?=some e) {j:Nat} (hj:j<16):bytV V (yq V L t.inum.toNat) (16*s+j)=byt (encE e) j:=by
 obtain ⟨_,h,_⟩:=hs.slot h2 s e he
 rw [← h,byt_cutE (cntV_is hV _ _) (by omega) hj]
 unfold bytV
 rw [show (16*s+j) / 1024=s / 64 by omega,show (16*s+j) % 1024=16*(s % 64)+j by omega]
theorem newDot:zH (some ⟨5,1,1,#[.int .u8 0]⟩) 4 [(0,(.int .u8 1)),(1,(.int .u8 0)),(2,(.int .u8 46)),(3,(.int .u8 0))]=some #[.int .u8 1,.int .u8 0,.int .u8 46,.int .u8 0]:=by kernel_rfl
section
variable {S:Nat→Prop} {H0 H:Hp} {R:Value→Hp→Prop} {lb p fb:Nat} {mine:Int} {O:Nat→Prop} {B L I:Int} {V:Int→Blk} {n:Int} {P:PSt}
structure RootOk (V:Int→Blk) (B L I:Int):Prop where
 gd:GdF V (zq B L I).dataAt B (yq V L 1)
 kind:yq V L 1 0≠0
 size:16≤yq V L 1 2∧yq V L 1 2≤67381248
 b0:rdC V (yq V L 1) 0 4=[#[.int .u8 1],#[.int .u8 0],#[.int .u8 46],#[.int .u8 0]]
theorem root_ok {its:List Itm} {fr sp:Int} {m0 m:Pm} {fs:List Fl} (hmay:MaySt B L I its fr sp m0 fs) (hm:MOf m B L I) (hits:∀ t∈its,ZL t) (sd:Nat) (hV:∀ a,IsB (imgV m its sd a)):RootOk (imgV m its sd) B L I:=by
 obtain ⟨t,ht,h1,h2,h3⟩:=may_root1 hmay
 have hs:=may_sem hmay hm hits sd ht
 have e1:t.inum.toNat=1:=by omega
 have hgd:=hs.gd
 have hsz:=hs.size
 have hk:=hs.kind
 have hmany:=hs.many h2
 have hmost:=hs.most
 have hl:0<t.slots.length:=by
   rcases Nat.lt_or_ge 0 t.slots.length with h | h
   · exact h
   · rw [List.getElem?_eq_none h] at h3; cases h3
 have hb:∀ j,j<16→bytV (imgV m its sd) (yq (imgV m its sd) L 1) j=byt (encE (1,dotS)) j:=fun j hj=>by
   have:=slot_byte hs hV h2 h3 hj
   rw [e1,Nat.mul_zero,Nat.zero_add] at this; exact this
 obtain ⟨d0,d1,d2,d3⟩:=encE_dot
 rw [e1] at hgd hsz hk
 refine ⟨hgd,by omega,⟨by omega,by omega⟩,?_⟩
 show [_,_,_,_]=_
 simp only [Nat.zero_add]
 rw [hb 0 (by omega),hb 1 (by omega),hb 2 (by omega),hb 3 (by omega),d0,d1,d2,d3]; rfl
theorem lives14 {pp r w:Nat} (hg:Zd B L I) (hr:RootOk V B L I) (ht:H[pp]?=some (.cells (prC p lb r w) 52)) (h:(Yi lb p (zq B L I) mine P).at_ H O) (hs:FSt (zq B L I) mine V n P) (hn:n+262146<4611686018427387904)
   (k:∀ H' O' P',Stp O O' H H'→(Yi lb p (zq B L I) mine P').at_ H' O'→FSt (zq B L I) mine V (n+262145) P'→R (.bool true) H'):Fc Tryz.prog 7 #[zZ pp] H R:=by
 obtain ⟨gL1,gL2,gI1,gI2,gB1,gB2,gD⟩:=id hg
 have y3:∀ {a b:Value},ze (.tuple #[a,b]) 0=some a:=rfl
 have y4:∀ {a b:Value},ze (.tuple #[a,b]) 1=some b:=rfl
 refine fn7 ?_
 simp only [sh7,zc,zi,Nat.zero_add,Nat.add_zero,za]
 rw [zp ht,pr1,za]
 refine fetch_read hg (i:=1) (a:=0) (c:=4) (by omega) (by omega) h hs hn hr.gd (by omega) (by omega) rfl hr.size.2 hr.kind fun H1 v P1 l1 hs1=>?_
 have hz:=hr.size
 rw [show min 4 (yq V L 1 2 - 0)=4 by omega,hr.b0] at l1
 rw [y3,za,y4,za,zy,za,decide_eq_true (by rfl),Zg,elU8,za,newDot,za]
 refine newS_i fun b H2 hb e2 hs2 g2=>?_
 have sv2:=sv_row g2 (n:=4) rfl
 have l2:=l1.ext e2
 refine same_bytes (l2.sv (i:=1) rfl).sr sv2.sr rfl (fun i c hc=>?_) (by decide) ?_
 · match i,hc with
   | 0,hc=>injection hc with hc; exact ⟨1,hc.symm⟩
   | 1,hc=>injection hc with hc; exact ⟨0,hc.symm⟩
   | 2,hc=>injection hc with hc; exact ⟨46,hc.symm⟩
   | 3,hc=>injection hc with hc; exact ⟨0,hc.symm⟩
 · obtain ⟨O',s',h'⟩:=Lo.close1 l2
   exact k H2 O' P1 s' h' hs1
end
section
variable {H:Hp} {R:Value→Hp→Prop}
theorem buildItm0:zu Tryz.prog 40 []=some (.agg (Z9 ⟨0,0,0,0,0,[],[]⟩ (.slice none 0 0) (.slice none 0 0))):=by kernel_rfl
theorem item14 {Hb:Hp} {iv:Value} {its:List Itm} (hst:StAt Hb iv its) (e0:Ext Hb H) (hlen:its.length<281474976710656) {fr sp x:Int}
   (k1:∀ H' t dv sv,Ext H H'→t∈its→t.inum=x→Sr 1025 Hb dv (t.data.map zM)→Sr 2 Hb sv (t.slots.map ZP)→R (.tuple #[.agg (Z9 t dv sv),.bool true]) H')
   (k2:∀ H' c,Ext H H'→c.size=7→zF c→R (.tuple #[.agg c,.bool false]) H'):Fc Tryz.prog 8 #[.agg (stC iv fr sp),zl x] H R:=by
 have g0:(stC iv fr sp)[0]?=some iv:=rfl
 refine fn8 ?_
 simp only [sh8,zt,zeroItm,za]
 refine (Lo.start _ H:Lx H H []).boxA fun b1 H1 _ l1=>?_
 refine l1.boxA fun b2 H2 _ l2=>?_
 have l2:Lx H H2 [.box b1 (stC iv fr sp) 26,.box b2 (Z9 ⟨0,0,0,0,0,[],[]⟩ (.slice none 0 0) (.slice none 0 0)) 40]:=l2
 simp only [zi,Nat.zero_add,Nat.add_zero,za]
 obtain ⟨cs,i10,i2,i3⟩:=hst
 have i1:=i10.ext (e0.trans l2.ext0)
 refine zx.mk (fun t H'=>H'=H2∧∃ i:Nat,i≤its.length∧t=(zl i,())) (fun t _=>mi t.1 fun x=>(its.length - x).toNat) ⟨rfl,0,by omega,rfl⟩ ?_
 rintro _ H3 ⟨rfl,i,hi,rfl⟩
 rw [l2.ld (i:=0) rfl,g0,za,i1.lenE undItems,za,i2,zr,za,zf]
 refine ⟨fun hlt=>?_,fun hge=>?_⟩
 · have hc:its[i]?=some its[i]:=List.getElem?_eq_getElem (by omega)
   obtain ⟨dv,sv,hcs,hd,hs⟩:=i3 i _ hc
   obtain ⟨b3,o3,a3,hcell,hrow⟩:=i1.el hcs
   have hmem:its[i]∈its:=List.getElem_mem _
   have hr7:=hrow 0 7 (by omega)
   rw [Nat.add_zero,show (Z9 its[i] dv sv).extract 0 (0+7)=Z9 its[i] dv sv from by simp [Z9]] at hr7
   generalize its[i]=t at hcs hd hs hcell hrow hmem hr7
   have c0:=hcell 0 (by omega)
   rw [Nat.add_zero] at c0
   have t0:(Z9 t dv sv)[0]?=some (zl t.inum):=rfl
   rw [za,show zh (some (none,7)) iv (zl i)=_ from a3 .i64,za,zi,za,Nat.add_zero,c0,t0,za,zy,za,zf]
   refine ⟨fun he=>?_,fun hne=>?_⟩
   · rw [za,show zh (some (none,7)) iv (zl i)=_ from a3 .i64,za,hr7,za]
     obtain ⟨q1,q2,e1⟩:=hd.len
     obtain ⟨q3,q4,e2⟩:=hs.len
     refine l2.ret (i:=1) (vs:=Z9 t dv sv) (K:=fun y H'=>R (.tuple #[y,.bool true]) H') rfl rfl rfl (by rw [e1,e2]; exact itmC_ok) fun H4 l4=>?_
     exact k1 H4 t dv sv l4.ext0 hmem he hd hs
   · rw [zj,za,zJ,zv (by omega)]
     exact ⟨⟨rfl,i+1,by omega,rfl⟩,by simp only [zC]; exact ms_lt (by omega)⟩
 · rw [buildItm0,za]
   refine l2.ret (i:=1) (vs:=Z9 ⟨0,0,0,0,0,[],[]⟩ (.slice none 0 0) (.slice none 0 0)) (K:=fun y H'=>R (.tuple #[y,.bool false]) H') rfl rfl rfl itmC_ok fun H4 l4=>?_
   exact k2 H4 _ l4.ext0 rfl itmC_ok
theorem byteAt14 {t:Itm} {dv sv:Value} (hd:Sr 1025 H dv (t.data.map zM)) (hsv:∃ b n c,sv=.slice b n c) (ht:ZL t) {q:Nat} (hq:q<4611686018427387904)
   (k:∀ H',Ext H H'→R (.int .u8 (byt (datB t.data ((q / 1024:Nat):Int)) (q % 1024):Nat)) H'):Fc Tryz.prog 10 #[.agg (Z9 t dv sv),zl q] H R:=by
 have g5:(Z9 t dv sv)[5]?=some dv:=rfl
 have hdl:=ht.dlen
 refine fn10 ?_
 simp only [sh10,zt]
 refine (Lo.start _ H:Lx H H []).boxA fun b1 H1 _ l1=>?_
 have l1:Lx H H1 [.box b1 (Z9 t dv sv) 40]:=l1
 simp only [zi,Nat.zero_add,Nat.add_zero,za]
 have hd1:=hd.ext l1.ext0
 refine zx.mk (fun x H'=>H'=H1∧∃ pre post:List (Int × Blk),t.data=pre++post∧pre.find? (fun x=>decide (x.1=((q / 1024:Nat):Int)))=none∧x=(zl (pre.length:Nat),())) (fun x _=>mi x.1 fun x=>(t.data.length - x).toNat) ⟨rfl,[],t.data,rfl,rfl,rfl⟩ ?_
 rintro _ H2 ⟨rfl,pre,post,hpp,hnone,rfl⟩
 have hlen:t.data.length=pre.length+post.length:=by rw [hpp,List.length_append]
 rw [l1.ld (i:=0) rfl,g5,za,hd1.lenE yB,za,List.length_map,zr,za,zf]
 refine ⟨fun hlt=>?_,fun hge=>?_⟩
 · match post,hpp,hlen with
   | [],_,hlen=>simp at hlen; omega
   | x :: post,hpp,hlen=>
     rw [List.length_cons] at hlen
     have hel:(t.data.map zM)[pre.length]?=some (zM x):=by rw [hpp,List.map_append,List.getElem?_append_right (by simp)]; simp
     obtain ⟨hx1,hx2⟩:=ht.data x (by rw [hpp]; simp)
     obtain ⟨b3,o3,a3,hcell,hrow⟩:=hd1.el hel
     have c0:=hcell 0 (by omega)
     rw [Nat.add_zero] at c0
     rw [za,show zh (some (none,1025)) dv (zl (pre.length:Nat))=_ from a3 .i64,za,zi,za,Nat.add_zero,c0,Yb,za,Zf (by decide),za,Zm (by omega),zg (by omega) (by omega),show (q:Int) / 1024=((q / 1024:Nat):Int) by omega,zy,za,zf]
     refine ⟨fun he=>?_,fun hne=>?_⟩
     · have hdat:datB t.data ((q / 1024:Nat):Int)=x.2:=by
         unfold datB
         rw [hpp,List.find?_append,hnone,Option.none_or,List.find?_cons_of_pos (by simpa using he)]; rfl
       have hj:=hcell (1+q % 1024) (by omega)
       have hv:(zM x)[1+q % 1024]?=some (.int .u8 (byt x.2 (q % 1024))):=by
         have h1:=YY hx2
         have h2:=hx2.get (i:=q % 1024) (by omega)
         rw [← h1,Array.getElem?_extract,if_pos (by rw [Zw hx2]; omega)] at h2
         rw [h2,h1]
       rw [za,zW (by decide),za,z8 (by omega),show (q:Int) % 1024=((q % 1024:Nat):Int) by omega,show zh (some (none,1025)) dv (zl (pre.length:Nat))=_ from a3 .i64,za,zi,za,zG (by omega),za,show o3+1+q % 1024*1=o3+(1+q % 1024) by omega,hj,hv,za]
       have:=k H2 l1.ext0
       rw [hdat] at this; exact this
     · rw [zj,za,zJ,zv (by omega)]
       refine ⟨⟨rfl,pre++[x],post,by rw [hpp]; simp,?_,by rw [List.length_append]; rfl⟩,by simp only [zC]; exact ms_lt (by omega)⟩
       rw [List.find?_append,hnone,Option.none_or,List.find?_cons_of_neg (by simpa using hne)]; rfl
 · have:post=[]:=List.eq_nil_of_length_eq_zero (by omega)
   subst this
   have:=k H2 l1.ext0
   have hz:datB t.data ((q / 1024:Nat):Int)=zB:=by
     unfold datB
     rw [hpp,List.append_nil,hnone]; rfl
   have hb:byt zB (q % 1024)=0:=byt_zero 1024 _
   rw [hz,hb] at this
   exact this
end
theorem ByL.ok {xs:List (Array Value)} (h:ByL xs):∀ u∈xs,zF u:=fun u hu=>by
 obtain ⟨i,hi⟩:=List.getElem?_of_mem hu
 obtain ⟨n,rfl⟩:=h i u hi
 unfold zF; rw [← Array.all_toList]; rfl
section
variable {B L I:Int}
theorem fst0 {its:List Itm} {fr sp:Int} {m0 m:Pm} {fs:List Fl} (hmay:MaySt B L I its fr sp m0 fs) (hm:MOf m B L I) (hits:∀ t∈its,ZL t) (sd:Nat):∃ V:Int→Blk,FSt (zq B L I) 1 V 1 (pl0 B (Yj 0 (Zq m (zA m its (pg0 m)) sd)))∧(∀ a,IsB (V a))∧RootOk V B L I∧∀ t∈its,Sem V B L I t:=by
 have hg:=hmay.ok
 obtain ⟨gL1,gL2,gI1,gI2,gB1,gB2,gD⟩:=id hg
 obtain ⟨h0,h1,h2,h3⟩:=laid_low hm hg hits sd
 have hb:=hm.B
 have hwh:okL B (-1) (Yj 0 (Zq m (zA m its (pg0 m)) sd)):=imgL_okL _ 0 (-1) h3 (by omega) (by omega)
 have his:=imgL_is _ 0 h3
 have hV:∀ a,IsB (imgV m its sd a):=fun a=>Zx his a
 exact ⟨imgV m its sd,⟨pl0_ok hg,fun b=>pl0_view hwh b,rfl,Int.le_refl 1⟩,hV,root_ok hmay hm hits sd hV,fun t ht=>may_sem hmay hm hits sd ht⟩
end
section
variable {H:Hp} {R:Value→Hp→Prop}
set_option maxHeartbeats 4000000 in
set_option maxRecDepth 100000 in
theorem law_holds {B L I:Int} (hB : -9223372036854775808≤B∧B≤9223372036854775807) {iv:Value} {its:List Itm} (hst:StAt H iv its) (hits:∀ t∈its,ZL t) (hlen:its.length<281474976710656) {fr sp seed:Int} (hseed : -9223372036854775808≤seed∧seed≤9223372036854775807) (hiv:∃ b n c,iv=.slice b n c)
   {x0 x1 x2 cut:Int} (hx1 : -9223372036854775808≤x1∧x1≤9223372036854775807) (hcut : -9223372036854775808≤cut∧cut≤9223372036854775807)
   (k:∀ H',Ext H H'→R (.bool true) H'):Fc Tryz.prog 3 #[.agg (wldC B L I iv fr sp seed),.agg #[zl x0,zl x1,zl x2],zl cut] H R:=by
 have x3:∀ {a b c:Value},ze (.tuple #[a,b,c]) 0=some a:=rfl
 have x4:∀ {a b c:Value},ze (.tuple #[a,b,c]) 1=some b:=rfl
 have x5:∀ {a b c:Value},ze (.tuple #[a,b,c]) 2=some c:=rfl
 have y3:∀ {a b:Value},ze (.tuple #[a,b]) 0=some a:=rfl
 have y4:∀ {a b:Value},ze (.tuple #[a,b]) 1=some b:=rfl
 have w3:(wldC B L I iv fr sp seed).extract 3 (3+3)=stC iv fr sp:=by simp [wldC,stC]
 have a0:(#[zl x0,zl x1,zl x2]:Array Value)[0]?=some (zl x0):=rfl
 have a1:(#[zl x0,zl x1,zl x2]:Array Value)[1]?=some (zl x1):=rfl
 have a2:(#[zl x0,zl x1,zl x2]:Array Value)[2]?=some (zl x2):=rfl
 refine fn3 ?_
 simp only [sh3,zt,zeroItm,za]
 refine (Lo.start _ H:Lx H H []).boxA fun b1 H1 _ l1=>?_
 refine l1.boxA fun b2 H2 _ l2=>?_
 have l2:Lx H H2 [.box b1 (wldC B L I iv fr sp seed) 28,.box b2 #[zl x0,zl x1,zl x2] 30]:=l2
 rw [l2.ldAll (i:=0) (n:=7) rfl rfl,za]
 refine begin_kit hB (hst.ext l2.ext0) hits hlen hseed hiv (fun H3 e3=>?_) fun H3 pp p lb r w m0 fs m hmay hm hfull l3=>?_
 · rw [x3,za,x4,za,x5,za,zT,za,Bool.not_false,Zg]
   exact k H3 (l2.ext e3).ext0
 rw [x3,za,x4,za,x5,za,zT,za,Bool.not_true,zm]
 have hg:=hmay.ok
 obtain ⟨V,s0,hV,hroot,hsem⟩:=fst0 hmay hm hits (seed % 1000003).toNat
 generalize Yj 0 (Zq m (zA m its (pg0 m)) (seed % 1000003).toNat)=l at l3 s0
 have l4:=l2.join l3
 have l4:Lx H H3 [.box b1 (wldC B L I iv fr sp seed) 28,.box b2 #[zl x0,zl x1,zl x2] 30,.box pp (prC p lb r w) 52,logOb lb p (dsOf B l) [] (zq B L I) 1,docOb w r (rdOf B l) (zq B L I) (RLg.new 1)]:=l4
 have l4:=l4.nth (i:=3) (y:=Yi lb p (zq B L I) 1 (pl0 B l)) rfl fun O ho=>log_pl ho
 have l4:Lx H H3 [.box b1 (wldC B L I iv fr sp seed) 28,.box b2 #[zl x0,zl x1,zl x2] 30,.box pp (prC p lb r w) 52,Yi lb p (zq B L I) 1 (pl0 B l)]:=l4.takeN 4
 generalize pl0 B l=P0 at s0 l4
 clear l3 l2 l1 hmay hm hfull
 refine zQ.mk (fun t H'=>t.1=.bool false∧∃ P1,FSt (zq B L I) 1 V 300000 P1∧Lx H H' [.box b1 (wldC B L I iv fr sp seed) 28,.box b2 #[zl x0,zl x1,zl x2] 30,.box pp (prC p lb r w) 52,Yi lb p (zq B L I) 1 P1]) ?_ ?_
 rotate_left
 · rw [za,zm]
   obtain ⟨O4,h4,st4⟩:=l4.call (i:=3) rfl
   refine lives14 hg hroot (l4.at (i:=2) rfl) h4 s0 (by omega) fun H5 O5 P5 s5 h5 hs5=>?_
   rw [zT,za]
   exact ⟨rfl,P5,hs5.mono (by omega),st4 H5 _ O5 s5 h5⟩
 rintro ⟨t,u⟩ H4 ⟨ht,P1,s1,l4⟩
 simp only at ht
 subst ht
 rw [zm]
 clear s0
 simp only [zc,zi,Nat.zero_add,Nat.add_zero,za]
 rw [Zn (l4.at (i:=0) rfl) (show 3+3≤7 by omega),za,w3,l4.ld (i:=1) rfl,a0,za]
 refine item14 hst l4.ext0 hlen (fun H5 t dv sv e5 htm hti hd hsv=>?_) (fun H5 c e5 hc1 hc2=>?_)
 rotate_left
 · rw [y3,za,y4,za]
   refine (l4.ext e5).boxA fun b3 H6 _ l6=>?_
   refine l6.stAll (i:=4) rfl rfl hc1 hc2 fun H7 l7=>?_
   refine zQ.mk (fun t H'=>t.1=.bool true∧H'=H7) ?_ ?_
   · rintro ⟨t,u⟩ H8 ⟨ht,rfl⟩
     simp only at ht
     subst ht
     rw [Zg]; exact k H8 l7.ext0
   · rw [zT,za,Bool.not_false,Zg]
     exact ⟨rfl,rfl⟩
 rw [y3,za,y4,za]
 obtain ⟨db,dc,edv⟩:=hd.len
 obtain ⟨sb',sc,esv⟩:=hsv.len
 refine (l4.ext e5).boxA fun b3 H6 e6 l6=>?_
 refine l6.stAll (i:=4) (vs:=Z9 t dv sv) rfl rfl rfl (by rw [edv,esv]; exact itmC_ok) fun H7 l7=>?_
 have l7:Lx H H7 [.box b1 (wldC B L I iv fr sp seed) 28,.box b2 #[zl x0,zl x1,zl x2] 30,.box pp (prC p lb r w) 52,Yi lb p (zq B L I) 1 P1,.box b3 (Z9 t dv sv) 40]:=l7
 simp only [zi,Nat.zero_add,Nat.add_zero,za]
 clear l6 l4
 have sem:=hsem t htm
 have hto:=hits t htm
 have t1:(Z9 t dv sv)[1]?=some (.int .u16 t.kind):=rfl
 have t3:(Z9 t dv sv)[3]?=some (zl t.size):=rfl
 refine zQ.mk (fun t' H'=>H'=H7∧(t'.1=.bool true∨t'.1=.bool false∧t.kind=1∧0≤x1∧0≤x2∧x2≤65536)) ?_ ?_
 rotate_left
 · rw [zT,za,Bool.not_true,zm,l7.ld (i:=4) rfl,t1,za,zw,za,zf]
   refine ⟨fun _=>⟨rfl,.inl rfl⟩,fun hk=>?_⟩
   rw [l7.ld (i:=1) rfl,a1,za,zr,za,zf]
   refine ⟨fun _=>⟨rfl,.inl rfl⟩,fun h1=>?_⟩
   rw [l7.ld (i:=1) rfl,a2,za,zr,za,zf]
   refine ⟨fun _=>⟨rfl,.inl rfl⟩,fun h2=>?_⟩
   rw [za,zL,za]
   by_cases h3:65536<x2
   · rw [decide_eq_true h3]; exact ⟨rfl,.inl rfl⟩
   · rw [decide_eq_false h3]; exact ⟨rfl,.inr ⟨rfl,by omega,by omega,by omega,by omega⟩⟩
 rintro ⟨tt,u⟩ H8 ⟨rfl,ht⟩
 simp only at ht
 rcases ht with ht | ⟨ht,hk1,h1,h2,h3⟩
 · subst ht
   rw [Zg]; exact k _ l7.ext0
 subst ht
 obtain ⟨a,ha⟩:∃ a:Nat,(a:Int)=x1:=⟨x1.toNat,by omega⟩
 obtain ⟨c,hc⟩:∃ c:Nat,(c:Int)=x2:=⟨x2.toNat,by omega⟩
 have hlo:=sem.lo
 obtain ⟨i,hi⟩:∃ i:Nat,(i:Int)=x0:=⟨x0.toNat,by omega⟩
 subst ha hc hi
 have hti':t.inum.toNat=i:=by omega
 have hsz:=sem.size
 have hkd:=sem.kind
 have hgd:=sem.gd
 have hmost:=sem.most
 have hhi:=sem.hi
 have hfile:=sem.file hk1
 rw [hti'] at hsz hkd hgd hfile
 obtain ⟨z,hz⟩:∃ z,yq V L i 2=z:=⟨_,rfl⟩
 rw [hz] at hsz
 rw [zm,l7.ld (i:=2) rfl,pr1,za,l7.ld (i:=1) rfl,a0,za,l7.ld (i:=1) rfl,a1,za,l7.ld (i:=1) rfl,a2,za]
 obtain ⟨O8,h8,st8⟩:=l7.call (i:=3) rfl
 refine fetch_read hg (i:=i) (by omega) (by omega) h8 s1 (by omega) hgd (a:=a) (c:=c) (by omega) (by omega) hz (by omega) (by omega) fun H9 v9 P9 l9 s9=>?_
 obtain ⟨O9,st9',h9⟩:=Lo.close (l:=[_,_]) (r:=[]) l9
 have l9:=Lo.unpack (l:=[_,_,_,_]) ((st8 H9 _ O9 st9' h9).pick [0,1,2,4,3] (by decide) (by simp))
 obtain ⟨q,hq⟩:∃ q,q=min c (z - a):=⟨_,rfl⟩
 rw [← hq] at l9
 have l9:Lx H H9 [.box b1 (wldC B L I iv fr sp seed) 28,.box b2 #[zl i,zl a,zl c] 30,.box pp (prC p lb r w) 52,.box b3 (Z9 t dv sv) 40,Yi lb p (zq B L I) 1 P9,.sl 5 1 v9 (rdC V (yq V L i) a q)]:=l9
 clear h9 st9' st8 h8 l7
 have hw:min (c:Int) (max 0 (t.size - (a:Int)))=(q:Int):=by omega
 rw [y3,za,y4,za,l9.ld (i:=1) rfl,a2,za,l9.ld (i:=3) rfl,t3,za,l9.ld (i:=1) rfl,a1,za,zN,za,zg (by omega) (by omega),max_int,za,min_int,za,hw]
 refine zQ.mk (fun t H'=>t.1=.bool false∧H'=H9) ?_ ?_
 rotate_left
 · rw [zw,za,decide_eq_false (by omega),zm,(l9.sv (i:=5) rfl).sr.lenE undU8s,za,yj,zw,za,decide_eq_false (by omega)]
   exact ⟨rfl,rfl⟩
 rintro ⟨tt,u⟩ H10 ⟨ht,rfl⟩
 simp only at ht
 subst ht
 rw [zm]
 refine zx.mk (fun t' H'=>∃ j:Nat,j≤q∧t'=(zl j,())∧Lx H H' [.box b1 (wldC B L I iv fr sp seed) 28,.box b2 #[zl i,zl a,zl c] 30,.box pp (prC p lb r w) 52,.box b3 (Z9 t dv sv) 40,Yi lb p (zq B L I) 1 P9,.sl 5 1 v9 (rdC V (yq V L i) a q)])
   (fun t' _=>mi t'.1 fun x=>(q - x).toNat) ⟨0,by omega,rfl,l9⟩ ?_
 clear l9
 rintro _ H11 ⟨j,hj,rfl,l10⟩
 have srv:=(l10.sv (i:=5) rfl).sr
 rw [srv.lenE undU8s,za,yj,zr,za,zf]
 refine ⟨fun hlt=>?_,fun hge=>?_⟩
 · have key:bytV V (yq V L i) (a+j)=byt (datB t.data (((a+j) / 1024:Nat):Int)) ((a+j) % 1024):=by
     unfold bytV
     rw [hfile _ (by omega)]
   refine zQ.mk (fun t' H'=>t'.1=.bool false∧Lx H H' [.box b1 (wldC B L I iv fr sp seed) 28,.box b2 #[zl i,zl a,zl c] 30,.box pp (prC p lb r w) 52,.box b3 (Z9 t dv sv) 40,Yi lb p (zq B L I) 1 P9,.sl 5 1 v9 (rdC V (yq V L i) a q)]) ?_ ?_
   · rintro ⟨tt,u⟩ H12 ⟨ht,l12⟩
     simp only at ht
     subst ht
     rw [zm,zj,za,zJ,zv (by omega)]
     exact ⟨⟨j+1,by omega,rfl,l12⟩,by simp only [zC]; exact ms_lt (by omega)⟩
   · obtain ⟨cb,co,ca,cr⟩:=srv.cell (rdC_get (V:=V) (f:=yq V L i) (at_:=a) (n:=q) (j:=j) (by omega)) (j:=0) (by omega)
     have cr:zb (some none) (.pointer (some ⟨cb,co,none⟩)) H11=some (.int .u8 (byt (datB t.data (((a+j) / 1024:Nat):Int)) ((a+j) % 1024):Nat)):=by rw [← key]; exact cr
     rw [show zh (some (none,1)) v9 (zl j)=_ from ca .i64,za,l10.ldAll (i:=3) (n:=7) rfl rfl,za,l10.ld (i:=1) rfl,a1,za,zj,za,addN,zv (by omega)]
     refine ⟨?_,?_,trivial⟩
     · rw [cr,za,zo]
       intro H12 e12
       have l12:=l10.ext e12
       refine byteAt14 (hd.ext l12.ext0) ⟨_,_,_,esv⟩ hto (q:=a+j) (by omega) fun H13 e13=>?_
       rw [zw,za,zo,decide_eq_false (by omega)]
       intro H14 e14
       exact ⟨rfl,(l12.ext e13).ext e14⟩
     · rw [zo]
       intro H12 e12
       have l12:=l10.ext e12
       refine byteAt14 (hd.ext l12.ext0) ⟨_,_,_,esv⟩ hto (q:=a+j) (by omega) fun H13 e13=>?_
       have cr2:zb (some none) (.pointer (some ⟨cb,co,none⟩)) H13=some (.int .u8 (byt (datB t.data (((a+j) / 1024:Nat):Int)) ((a+j) % 1024):Nat)):=by
         rw [loadE_ext (e12.trans e13) cr]
       rw [cr2,za,zw,za,zo,decide_eq_false (by omega)]
       intro H14 e14
       exact ⟨rfl,(l12.ext e13).ext e14⟩
 have hqc:q≤c:=by omega
 rw [zj,za,zJ,zv (by omega)]
 refine kpick_ok hcut (by omega) (by omega) ?_
 obtain ⟨kk,hkk⟩:∃ kk:Nat,(kk:Int)=cut % ((q+1:Nat):Int):=⟨_,Int.toNat_of_nonneg (Int.emod_nonneg _ (by omega))⟩
 have hkw:kk≤q:=by
   have:=Int.emod_lt_of_pos cut (show (0:Int)<((q+1:Nat):Int) by omega)
   omega
 rw [← hkk,l10.ld (i:=2) rfl,pr1,za,l10.ld (i:=1) rfl,a0,za,l10.ld (i:=1) rfl,a1,za]
 obtain ⟨O11,h11,st11⟩:=l10.call (i:=4) rfl
 refine fetch_read hg (i:=i) (by omega) (by omega) h11 s9 (by omega) hgd (a:=a) (c:=kk) (by omega) (by omega) hz (by omega) (by omega) fun H12 v12 P12 l12 s12=>?_
 obtain ⟨O12,st12,h12⟩:=Lo.close (l:=[_,_]) (r:=[]) l12
 have l12:=Lo.unpack (l:=[_,_,_,_,_]) ((st11 H12 _ O12 st12 h12).pick [0,1,2,3,5,4] (by decide) (by simp))
 rw [show min kk (z - a)=kk by omega] at l12
 have l12:Lx H H12 [.box b1 (wldC B L I iv fr sp seed) 28,.box b2 #[zl i,zl a,zl c] 30,.box pp (prC p lb r w) 52,.box b3 (Z9 t dv sv) 40,.sl 5 1 v9 (rdC V (yq V L i) a q),Yi lb p (zq B L I) 1 P12,.sl 5 1 v12 (rdC V (yq V L i) a kk)]:=l12
 clear h12 st12 st11 h11 l10
 rw [y3,za,y4,za,l12.ld (i:=2) rfl,pr1,za,l12.ld (i:=1) rfl,a0,za,l12.ld (i:=1) rfl,a1,za,zj,za,addN,zv (by omega),l12.ld (i:=1) rfl,a2,za,zN,za,zg (by omega) (by omega),show (c:Int) - (kk:Int)=((c - kk:Nat):Int) by omega]
 obtain ⟨O13,h13,st13⟩:=l12.call (i:=5) rfl
 refine fetch_read hg (i:=i) (by omega) (by omega) h13 s12 (by omega) hgd (a:=a+kk) (c:=c - kk) (by omega) (by omega) hz (by omega) (by omega) fun H14 v14 P14 l14 s14=>?_
 obtain ⟨O14,st14,h14⟩:=Lo.close (l:=[_,_]) (r:=[]) l14
 have l14:=Lo.unpack (l:=[_,_,_,_,_,_]) ((st13 H14 _ O14 st14 h14).pick [0,1,2,3,4,6,5] (by decide) (by simp))
 rw [show min (c - kk) (z - (a+kk))=q - kk by omega] at l14
 have l14:Lx H H14 [.box b1 (wldC B L I iv fr sp seed) 28,.box b2 #[zl i,zl a,zl c] 30,.box pp (prC p lb r w) 52,.box b3 (Z9 t dv sv) 40,.sl 5 1 v9 (rdC V (yq V L i) a q),.sl 5 1 v12 (rdC V (yq V L i) a kk),Yi lb p (zq B L I) 1 P14,.sl 5 1 v14 (rdC V (yq V L i) (a+kk) (q - kk))]:=l14
 clear h14 st14 st13 h13 l12
 rw [y3,za,y4,za,zy,za,decide_eq_true (by rfl),Zg,za,Zg,elU8]
 refine l14.app (i:=5) (e:=⟨5,1,1,#[.int .u8 0]⟩) rfl rfl rfl rfl (by decide) (l14.sv (i:=7) rfl) (rdC_by _ _ _ _).ok (by rw [yj,yj]; show (kk+(q - kk))*1≤_; omega) fun v' H15 l15=>?_
 have er:rdC V (yq V L i) a kk++rdC V (yq V L i) (a+kk) (q - kk)=rdC V (yq V L i) a q:=by rw [rdC_app,show kk+(q - kk)=q by omega]
 rw [er] at l15
 exact same_bytes (l15.sv (i:=5) rfl).sr (l15.sv (i:=4) rfl).sr rfl (rdC_by _ _ _ _) (by rw [yj]; omega) (k H15 l15.ext0)
end
end Go.Vc
