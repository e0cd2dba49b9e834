/- Parts of a proof, joined in build order: a calculus of contracts, contracts of functions. -/
import Derived.Test.YtgkadmojokfohaaGreatFSE
import Derived.Test.YtgkadmojokfohaaGreatProg
set_option linter.unusedVariables false
set_option linter.unusedSimpArgs false
namespace Go.Proofs
open Go.Vc
variable {H:Hp} {R:Value→Hp→Prop} {v0 v1 v2 v3 v4 v5 v6 v7 v8:Value}
set_option maxRecDepth 100000
def sh45 (v0:Value) (H:Hp) (R:Value→Hp→Prop):Prop:=
 Pu (yH Tryz.prog 47 true .neq v0 (.pointer none) H) fun x1=>
 Ite x1
 (Pu (zc v0) fun x2=>
 Pu (zd (some 0) x2) fun x3=>
 Pu (zb (some none) x3 H) fun x4=>
 Pu (zo (some (.int .i64)) .gtr x4 (.int .i64 0)) fun x5=>
 R x5 H)
 (R (.bool false) H)
theorem fn45 (h:sh45 v0 H R):Fc Tryz.prog 45 #[v0] H R:=
 zs (fun f=>[].contains f) .nil Tryz.func45 (args:=[v0]) (Eq.mp (by kernel_rfl:sh45 v0 H R=_) h)
def sh91 (v0:Value) (H:Hp) (R:Value→Hp→Prop):Prop:=
 Fc Tryz.prog 45 #[v0] H fun x1 H1=>
 Pu (unE .not x1) fun x2=>
 Ite x2
 (R (.int .i64 0) H1)
 (Pu (zc v0) fun x3=>
 Pu (zd (some 0) x3) fun x4=>
 Pu (zb (some none) x4 H1) fun x5=>
 R x5 H1)
theorem fn91 (h:sh91 v0 H R):Fc Tryz.prog 91 #[v0] H R:=
 zs (fun f=>[].contains f) .nil Tryz.func91 (args:=[v0]) (Eq.mp (by kernel_rfl:sh91 v0 H R=_) h)
def sh93 (v0:Value) (H:Hp) (R:Value→Hp→Prop):Prop:=
 Fc Tryz.prog 45 #[v0] H fun x1 H1=>
 Pu (unE .not x1) fun x2=>
 Ite x2
 (R (.int .i64 1) H1)
 (Pu (zc v0) fun x3=>
 Pu (zd (some 6) x3) fun x4=>
 Pu (zb (some none) x4 H1) fun x5=>
 Ite x5
 (R (.int .i64 3) H1)
 (R (.int .i64 0) H1))
theorem fn93 (h:sh93 v0 H R):Fc Tryz.prog 93 #[v0] H R:=
 zs (fun f=>[].contains f) .nil Tryz.func93 (args:=[v0]) (Eq.mp (by kernel_rfl:sh93 v0 H R=_) h)
def sh67 (v0 v1:Value) (H:Hp) (R:Value→Hp→Prop):Prop:=
 Pu (zD Tryz.prog 94) fun x1=>Box 94 x1 H fun x2 H1=>
 Fc Tryz.prog 93 #[v0] H1 fun x3 H2=>
 Pu (zo (some (.int .i64)) .neq x3 (.int .i64 0)) fun x4=>
 Ite x4
 (Pu (zu Tryz.prog 94 []) fun x5=>
 Pu (zj (some 1024) x2 x5 H2) fun H3=>
 Pu (zb (some (some 1024)) x2 H3) fun x6=>
 R (.tuple #[x6,x3]) H3)
 (zS (n:=1) (fun s6 H4=>Any fun _=>
 Ite s6.1
 (Pu (zu Tryz.prog 94 []) fun x9=>
 Pu (zj (some 1024) x2 x9 H4) fun H5=>
 Pu (zb (some (some 1024)) x2 H5) fun x10=>
 R (.tuple #[x10,(.int .i64 2)]) H5)
 (Pu (zc v0) fun x11=>
 Pu (zd (some 8) x11) fun x12=>
 Pu (zb (some none) x12 H4) fun x13=>
 Pu (zo (some (.int .i64)) .add x13 (.int .i64 1)) fun x14=>
 Pu (zc v0) fun x15=>
 Pu (zd (some 8) x15) fun x16=>
 Pu (zj (some 1) x16 x14 H4) fun H6=>
 Pu (zc v0) fun x17=>
 Pu (zd (some 2) x17) fun x18=>
 Pu (zb (some none) x18 H6) fun x19=>
 Pu (yu Tryz.prog (some (3,.int .i64,94)) true x19 v1 H6) fun x20=>
 Pu (ze x20 0) fun x21=>
 Pu (ze x20 1) fun x22=>
 Pu (zD Tryz.prog 94) fun x23=>Box 94 x23 H6 fun x24 H7=>
 Pu (zj (some 1024) x24 x21 H7) fun H8=>
 Ite x22
 (Pu (zb (some (some 1024)) x24 H8) fun x25=>
 Pu (zj (some 1024) x2 x25 H8) fun H9=>
 Pu (zb (some (some 1024)) x2 H9) fun x26=>
 R (.tuple #[x26,(.int .i64 0)]) H9)
 (Pu (zc v0) fun x27=>
 Pu (zd (some 1) x27) fun x28=>
 Pu (zb (some none) x28 H8) fun x29=>
 Pu (yu Tryz.prog (some (3,.int .i64,94)) false x29 v1 H8) fun x30=>
 Pu (zD Tryz.prog 94) fun x31=>Box 94 x31 H8 fun x32 H10=>
 Pu (zj (some 1024) x32 x30 H10) fun H11=>
 Pu (zb (some (some 1024)) x32 H11) fun x33=>
 Pu (zj (some 1024) x2 x33 H11) fun H12=>
 Pu (zb (some (some 1024)) x2 H12) fun x34=>
 R (.tuple #[x34,(.int .i64 0)]) H12)))
 (fun K34=>Pu (zo (some (.int .i64)) .lss v1 (.int .i64 0)) fun x36=>
 Ite x36
 (K34 ((.bool true),()) H2)
 (Pu (zc v0) fun x37=>
 Pu (zd (some 0) x37) fun x38=>
 Pu (zb (some none) x38 H2) fun x39=>
 Pu (zo (some (.int .i64)) .geq v1 x39) fun x40=>
 K34 (x40,()) H2)))
theorem fn67 (h:sh67 v0 v1 H R):Fc Tryz.prog 67 #[v0,v1] H R:=
 zs (fun f=>[].contains f) (.seq .nil (.seq .nil (.seq (.join [25] [16,17,18,19,20,21,22,23,24] .nil .nil) .nil))) Tryz.func67 (args:=[v0,v1]) (Eq.mp (by kernel_rfl:sh67 v0 v1 H R=_) h)
def sh143 (v0:Value) (H:Hp) (R:Value→Hp→Prop):Prop:=
 Fc Tryz.prog 45 #[v0] H fun x1 H1=>
 Ite x1
 (Pu (zc v0) fun x2=>
 Pu (zd (some 6) x2) fun x3=>
 Pu (zb (some none) x3 H1) fun x4=>
 R x4 H1)
 (R (.bool false) H1)
theorem fn143 (h:sh143 v0 H R):Fc Tryz.prog 143 #[v0] H R:=
 zs (fun f=>[].contains f) .nil Tryz.func143 (args:=[v0]) (Eq.mp (by kernel_rfl:sh143 v0 H R=_) h)
def sh54 (v0:Value) (H:Hp) (R:Value→Hp→Prop):Prop:=
 zS (n:=1) (fun s0 H1=>Any fun _=>
 Ite s0.1
 (R (.tuple #[(.pointer none),(.int .i64 2)]) H1)
 (NewMap H1 fun x3 H2=>
 NewMap H2 fun x4 H3=>
 Pu (zu Tryz.prog 112 [(0,v0),(1,x3),(2,x4),(5,(.int .i64 (-1)))]) fun x5=>
 Box 112 x5 H3 fun x6 H4=>
 R (.tuple #[x6,(.int .i64 0)]) H4))
 (fun K6=>Pu (zo (some (.int .i64)) .lss v0 (.int .i64 1)) fun x8=>
 Ite x8
 (K6 ((.bool true),()) H)
 (Pu (zo (some (.int .i64)) .gtr v0 (.int .i64 1048576)) fun x9=>
 K6 (x9,()) H))
theorem fn54 (h:sh54 v0 H R):Fc Tryz.prog 54 #[v0] H R:=
 zs (fun f=>[].contains f) (.seq .nil (.seq (.join [9] [4,5,6,7,8] .nil .nil) .nil)) Tryz.func54 (args:=[v0]) (Eq.mp (by kernel_rfl:sh54 v0 H R=_) h)
def sh21 (v0:Value) (H:Hp) (R:Value→Hp→Prop):Prop:=
 Box 71 v0 H fun x1 H1=>
 Pu (zd (some 0) x1) fun x2=>
 Pu (zb (some none) x2 H1) fun x3=>
 Fc Tryz.prog 54 #[x3] H1 fun x4 H2=>
 Pu (ze x4 0) fun x5=>
 Pu (ze x4 1) fun x6=>
 Pu (zo (some (.int .i64)) .neq x6 (.int .i64 0)) fun x7=>
 Ite x7
 (R (.tuple #[(.pointer none),(.int .i64 4)]) H2)
 (Pu (zd (some 1) x1) fun x8=>
 Pu (zb (some none) x8 H2) fun x9=>
 Pu (lenE Tryz.prog 37 x9) fun x10=>
 zx (n:=2) ((.int .i64 (-1)),(.int .i64 0),()) H2 (fun K11 s10 H3=>Any fun _=>
 Pu (zo (some (.int .i64)) .lss s10.2.1 x10) fun x13=>
 Ite x13
 (Pu (zh (some (none,1025)) x9 s10.2.1) fun x14=>
 Pu (zb (some (some 1025)) x14 H3) fun x15=>
 Pu (zD Tryz.prog 98) fun x16=>Box 98 x16 H3 fun x17 H4=>
 Pu (zj (some 1025) x17 x15 H4) fun H5=>
 zS (n:=1) (fun s17 H6=>Any fun _=>
 Ite s17.1
 (R (.tuple #[(.pointer none),(.int .i64 4)]) H6)
 (Pu (zc x5) fun x20=>
 Pu (zd (some 1) x20) fun x21=>
 Pu (zb (some none) x21 H6) fun x22=>
 Pu (zd (some 0) x17) fun x23=>
 Pu (zb (some none) x23 H6) fun x24=>
 Pu (zd (some 1) x17) fun x25=>
 Pu (zb (some (some 1024)) x25 H6) fun x26=>
 Pu (YS (some (3,.int .i64,94)) x22 x24 x26 H6) fun H7=>
 Pu (zd (some 0) x17) fun x27=>
 Pu (zb (some none) x27 H7) fun x28=>
 Pu (zo (some (.int .i64)) .add s10.2.1 (.int .i64 1)) fun x29=>
 K11 (x28,x29,()) H7))
 (fun K29=>Pu (zd (some 0) x17) fun x31=>
 Pu (zb (some none) x31 H5) fun x32=>
 Pu (zo (some (.int .i64)) .leq x32 s10.1) fun x33=>
 Ite x33
 (K29 ((.bool true),()) H5)
 (Pu (zd (some 0) x17) fun x34=>
 Pu (zb (some none) x34 H5) fun x35=>
 Pu (zd (some 0) x1) fun x36=>
 Pu (zb (some none) x36 H5) fun x37=>
 Pu (zo (some (.int .i64)) .geq x35 x37) fun x38=>
 Ite x38
 (K29 ((.bool true),()) H5)
 (Pu (zd (some 1) x17) fun x39=>
 Pu (zb (some (some 1024)) x39 H5) fun x40=>
 Pu (zu Tryz.prog 94 []) fun x41=>
 Pu (yH Tryz.prog 94 false .eql x40 x41 H5) fun x42=>
 K29 (x42,()) H5))))
 (R (.tuple #[x5,(.int .i64 0)]) H3)))
theorem fn21 (h:sh21 v0 H R):Fc Tryz.prog 21 #[v0] H R:=
 zs (fun f=>[].contains f) (.seq .nil (.seq .nil (.seq .nil (.seq .nil (.seq (.seq .nil (.loop [6,20] [21,22,23,8,24,25,26,27,28,29,30,31,32,33,34,35,36,37,38,39,40,2,3,41,42,43,44,45,46,47,48,49,50,51] (.seq .nil (.seq .nil (.seq (.seq .nil (.seq (.join [40] [24,25,26,27,28,29,30,31,32,33,34,35,36,37,38,39] .nil .nil) .nil)) .nil))))) .nil))))) Tryz.func21 (args:=[v0]) (Eq.mp (by kernel_rfl:sh21 v0 H R=_) h)
end Go.Proofs
namespace Go.Vc
open Go.Proofs
structure Stp (O O':Nat→Prop) (H H':Hp):Prop where
 kp:Kp O H H'
 new:∀ b,O' b→O b∨H.size≤b
theorem Stp.refl (O:Nat→Prop) (H:Hp):Stp O O H H:=⟨Kp.refl O H,fun b h=>.inl h⟩
theorem Stp.trans {O O' O'':Nat→Prop} {H H' H'':Hp} (h:Stp O O' H H') (h':Stp O' O'' H' H''):Stp O O'' H H'':=
 ⟨h.kp.tr h'.kp (fun k _ hk=>hk) (fun k hk ho=>(h.new k ho).resolve_right (by omega)),fun b hb=>by
   rcases h'.new b hb with h1 | h1
   · exact h.new b h1
   · exact .inr (Nat.le_trans h.kp.le h1)⟩
theorem Ext.stp {H H':Hp} (h:Ext H H') (O:Nat→Prop):Stp O O H H':=⟨h.kp O,fun b h=>.inl h⟩
theorem Kp.stp {O S:Nat→Prop} {H H':Hp} (h:Kp S H H') (hs:∀ b,b<H.size→S b→O b):Stp O O H H':=⟨h.mono hs,fun b h=>.inl h⟩
abbrev Blk:=Array Value
def zB:Blk:=Array.replicate 1024 (.int .u8 0)
theorem Zn:IsB zB:=isB_zero
theorem zJ:zB.size=1024:=by simp [zB]
theorem IsB.ok {c:Blk} (h:IsB c):zF c:=h.all
abbrev z6 (b:Nat):Value:=.pointer (some ⟨b,0,none⟩)
def updB (g:Int→Blk) (k:Int) (c:Blk):Int→Blk:=fun j=>if j=k then c else g j
structure DS where
 n:Int
 now:Int→Blk
 held:Int→Blk
 fuse:Int
 stopped:Bool
 made:Int
 reads:Int
 claims:Int
 claim:Int
 pl:Nat
 hl:Nat
def dkC (s:DS) (mh ml:Nat) (ps hs:Value):Array Value:=#[.int .i64 s.n,.map (some mh),.map (some ml),ps,hs,.int .i64 s.fuse,.bool s.stopped,.int .i64 s.made,.int .i64 s.reads,.int .i64 s.claims,.int .i64 s.claim]
def zM (x:Int × Blk):Array Value:=#[.int .i64 x.1]++x.2
structure DkC (H:Hp) (p:Nat) (s:DS) (mh ml:Nat) (ps hs:Value) (fh fl:Int→Option Blk) (nh nl:Nat) (pend:List (Int × Blk)) (hist:List (Array Value)):Prop where
 top:H[p]?=some (.cells (dkC s mh ml ps hs) 112)
 amh:MapAt H mh (fun k=>(fh k).map .agg) nh
 aml:MapAt H ml (fun k=>(fl k).map .agg) nl
 aps:Sv 98 1025 H ps (pend.map zM)
 ahs:Sv 294 1026 H hs hist
 df:p≠mh∧p≠ml∧mh≠ml
 dps:∀ b,ZS ps=some b→b≠p∧b≠mh∧b≠ml∧ZS hs≠some b
 dhs:∀ b,ZS hs=some b→b≠p∧b≠mh∧b≠ml
 bh:∀ k c,fh k=some c→IsB c
 bl:∀ k c,fl k=some c→IsB c
 bp:∀ x∈pend,IsB x.2
 now:∀ k,s.now k=(fl k).getD ((fh k).getD zB)
 held:∀ k,s.held k=(fh k).getD zB
 wait:pend.foldl (fun g x=>updB g x.1 x.2) s.held=s.now
 pl:s.pl=pend.length
 hl:s.hl=hist.length
 pos:0<s.n
structure DiskAt (H:Hp) (p:Nat) (s:DS) (O:Nat→Prop):Prop where
 is:∃ mh ml ps hs fh fl nh nl pend hist,DkC H p s mh ml ps hs fh fl nh nl pend hist∧O p∧O mh∧O ml∧(∀ b,ZS ps=some b→O b)∧(∀ b,ZS hs=some b→O b)
 lt:∀ b,O b→b<H.size
section
variable {H H':Hp} {p mh ml nh nl:Nat} {s:DS} {O O':Nat→Prop} {ps hs:Value} {fh fl:Int→Option Blk} {pend:List (Int × Blk)} {hist:List (Array Value)}
theorem DkC.of (h:DkC H p s mh ml ps hs fh fl nh nl pend hist) (hp:H'[p]?=H[p]?) (h1:H'[mh]?=H[mh]?) (h2:H'[ml]?=H[ml]?) (h3:∀ b,ZS ps=some b→H'[b]?=H[b]?) (h4:∀ b,ZS hs=some b→H'[b]?=H[b]?):DkC H' p s mh ml ps hs fh fl nh nl pend hist:=
 { h with top:=by rw [hp]; exact h.top,amh:=h.amh.of h1,aml:=h.aml.of h2,aps:=h.aps.of h3,ahs:=h.ahs.of h4 }
theorem DiskAt.of (h:DiskAt H p s O) (hb:∀ b,O b→H'[b]?=H[b]?) (hle:H.size≤H'.size):DiskAt H' p s O:=by
 obtain ⟨⟨mh,ml,ps,hs,fh,fl,nh,nl,pend,hist,hd,o1,o2,o3,o4,o5⟩,hl⟩:=h
 exact ⟨⟨mh,ml,ps,hs,fh,fl,nh,nl,pend,hist,hd.of (hb _ o1) (hb _ o2) (hb _ o3) (fun b e=>hb _ (o4 b e)) (fun b e=>hb _ (o5 b e)),o1,o2,o3,o4,o5⟩,fun b ho=>Nat.lt_of_lt_of_le (hl b ho) hle⟩
theorem DiskAt.ext (h:DiskAt H p s O) (hx:Ext H H'):DiskAt H' p s O:=h.of (fun b ho=>hx.same b (h.lt b ho)) hx.le
theorem DiskAt.kp {S:Nat→Prop} (h:DiskAt H p s O) (hk:Kp S H H') (hs:∀ b,O b→¬ S b):DiskAt H' p s O:=h.of (fun b ho=>hk.same b (h.lt b ho) (hs b ho)) hk.le
theorem DiskAt.own (h:DiskAt H p s O):O p:=by
 obtain ⟨⟨mh,ml,ps,hs,fh,fl,nh,nl,pend,hist,hd,o1,_⟩,_⟩:=h; exact o1
theorem DkC.turn (h:DkC H p s mh ml ps hs fh fl nh nl pend hist) (hk:Kp (·=p) H H') {s':DS} (ht:H'[p]?=some (.cells (dkC s' mh ml ps hs) 112)) (hn:s'.n=s.n) (hw:s'.now=s.now) (hh:s'.held=s.held) (hp:s'.pl=s.pl) (hl:s'.hl=s.hl) :
   DkC H' p s' mh ml ps hs fh fl nh nl pend hist:=by
 obtain ⟨d1,d2,d3⟩:=h.df
 exact { h with top:=ht,amh:=h.amh.kp hk (fun e=>d1 e.symm),aml:=h.aml.kp hk (fun e=>d2 e.symm),aps:=h.aps.kp hk (fun b e e'=>(h.dps b e).1 e'),ahs:=h.ahs.kp hk (fun b e e'=>(h.dhs b e).1 e'),now:=(by rw [hw]; exact h.now),held:=(by rw [hh]; exact h.held),wait:=(by rw [hh,hw]; exact h.wait),pl:=(by rw [hp]; exact h.pl),hl:=(by rw [hl]; exact h.hl),pos:=(by rw [hn]; exact h.pos) }
theorem DiskAt.now_is (h:DiskAt H p s O) (k:Int):IsB (s.now k):=by
 obtain ⟨⟨mh,ml,ps,hs,fh,fl,nh,nl,pend,hist,hd,_⟩,_⟩:=h
 rw [hd.now k]
 cases h1:fl k with
 | some c=>exact hd.bl k c h1
 | none=>
   cases h2:fh k with
   | some c=>exact hd.bh k c h2
   | none=>exact Zn
end
theorem undDk:Tryz.prog.underlying 47=some (.pointer 112):=by kernel_rfl
theorem Yc {P:Program} {T e:TypeId} {lit:Bool} {a:Addr} {H:Hp} (hu:P.underlying T=some (.pointer e)):yH P T lit .eql (.pointer (some a)) (.pointer none) H=some (.bool false):=by
 simp [yH,eqE,eqD,hu]
theorem neX_ptr {P:Program} {T e:TypeId} {lit:Bool} {a:Addr} {H:Hp} (hu:P.underlying T=some (.pointer e)):yH P T lit .neq (.pointer (some a)) (.pointer none) H=some (.bool true):=by
 simp [yH,eqE,eqD,hu]
set_option maxRecDepth 100000 in
theorem ya:zD Tryz.prog 94=some (.agg zB):=by kernel_rfl
set_option maxRecDepth 100000 in
theorem YF:zu Tryz.prog 94 []=some (.agg zB):=by kernel_rfl
theorem Yn {s:DS} {mh ml:Nat} {ps hs:Value} :
   (dkC s mh ml ps hs)[0]?=some (.int .i64 s.n)∧(dkC s mh ml ps hs)[1]?=some (.map (some mh))∧(dkC s mh ml ps hs)[2]?=some (.map (some ml))∧(dkC s mh ml ps hs)[3]?=some ps∧(dkC s mh ml ps hs)[4]?=some hs ∧
   (dkC s mh ml ps hs)[5]?=some (.int .i64 s.fuse)∧(dkC s mh ml ps hs)[6]?=some (.bool s.stopped)∧(dkC s mh ml ps hs)[7]?=some (.int .i64 s.made)∧(dkC s mh ml ps hs)[8]?=some (.int .i64 s.reads)∧(dkC s mh ml ps hs)[9]?=some (.int .i64 s.claims)∧(dkC s mh ml ps hs)[10]?=some (.int .i64 s.claim)∧(dkC s mh ml ps hs).size=11:=
 ⟨rfl,rfl,rfl,rfl,rfl,rfl,rfl,rfl,rfl,rfl,rfl,rfl⟩
section
variable {H:Hp} {p:Nat} {s:DS} {O:Nat→Prop} {R:Value→Hp→Prop}
theorem disk_is (h:DiskAt H p s O) (k:R (.bool true) H):Fc Tryz.prog 45 #[z6 p] H R:=by
 obtain ⟨⟨mh,ml,ps,hs,fh,fl,nh,nl,pend,hist,hd,_⟩,_⟩:=h
 refine fn45 ?_
 have hp:=hd.pos
 simp only [sh45,neX_ptr undDk,za,Zm,zc,zi,Nat.zero_add,zq hd.top,Yn,zL,decide_eq_true hp]
 exact k
theorem disk_len (h:DiskAt H p s O) (k:R (.int .i64 s.n) H):Fc Tryz.prog 91 #[z6 p] H R:=by
 refine fn91 ?_
 refine disk_is h ?_
 obtain ⟨⟨mh,ml,ps,hs,fh,fl,nh,nl,pend,hist,hd,_⟩,_⟩:=h
 simp only [zT,za,Bool.not_true,zn,zc,zi,Nat.zero_add,zq hd.top,Yn]
 exact k
theorem disk_check (h:DiskAt H p s O) (k:R (.int .i64 (if s.stopped then 3 else 0)) H):Fc Tryz.prog 93 #[z6 p] H R:=by
 refine fn93 ?_
 refine disk_is h ?_
 obtain ⟨⟨mh,ml,ps,hs,fh,fl,nh,nl,pend,hist,hd,_⟩,_⟩:=h
 simp only [zT,za,Bool.not_true,zn,zc,zi,Nat.zero_add,zq hd.top,Yn]
 rw [Zz]
 exact ⟨fun e=>by simpa [e] using k,fun e=>by simpa [e] using k⟩
theorem disk_stopped (h:DiskAt H p s O) (k:R (.bool s.stopped) H):Fc Tryz.prog 143 #[z6 p] H R:=by
 refine fn143 ?_
 refine disk_is h ?_
 obtain ⟨⟨mh,ml,ps,hs,fh,fl,nh,nl,pend,hist,hd,_⟩,_⟩:=h
 simp only [za,Zm,zc,zi,Nat.zero_add,zq hd.top,Yn]
 exact k
end
def DS.read (s:DS) (at_:Int):DS × Blk × Int:=if s.stopped then (s,zB,3) else if at_<0∨s.n≤at_ then (s,zB,2) else ({ s with reads:=s.reads+1 },s.now at_,0)
section
variable {H:Hp} {p:Nat} {s:DS} {O:Nat→Prop} {R:Value→Hp→Prop}
set_option maxHeartbeats 1000000 in
theorem disk_read (h:DiskAt H p s O) (hr:s.reads<4611686018427387904∧0≤s.reads) {a:Int} (k:∀ H',Stp O O H H'→DiskAt H' p (s.read a).1 O→R (.tuple #[.agg (s.read a).2.1,.int .i64 (s.read a).2.2]) H') :
   Fc Tryz.prog 67 #[z6 p,.int .i64 a] H R:=by
 refine fn67 ?_
 simp only [sh67,ya,za,zt]
 refine yc fun b H1 hb e1 s1 g1=>?_
 simp only [zP] at g1
 have h1:=h.ext e1
 have hbO:¬ O b:=fun ho=>by have:=h.lt b ho; omega
 have hbp:p≠b:=fun e=>hbO (e ▸ h.own)
 refine disk_check h1 ?_
 simp only [zw,za,zf]
 have out:∀ (H2:Hp) (c:Blk) (e:Int) (s':DS),Stp O O H1 H2→DiskAt H2 p s' O→(∃ c0,H2[b]?=some (.cells c0 94)∧c0.size=1024)→IsB c→(s.read a)=(s',c,e) →
     Pu (zj (some 1024) (.pointer (some ⟨b,0,none⟩)) (.agg c) H2) fun H3=>Pu (zb (some (some 1024)) (.pointer (some ⟨b,0,none⟩)) H3) fun x6=>R (.tuple #[x6,.int .i64 e]) H3:=by
   intro H2 c e s' hs2 hd2 ⟨c0,g2,hc0⟩ hc heq
   refine Zb g2 hc0 hc.size hc.ok fun H3 k3 s3 g3=>?_
   rw [zV g3 hc.size,za]
   have hstp:Stp O O H H3:=by
     have h12:=(e1.stp O).trans hs2
     exact ⟨⟨Nat.le_trans h12.kp.le k3.le,fun j hj hn=>by rw [k3.same j (Nat.lt_of_lt_of_le hj h12.kp.le) (by omega)]; exact h12.kp.same j hj hn⟩,fun j hj=>.inl hj⟩
   have:=k H3 hstp
   rw [heq] at this
   exact this (hd2.kp k3 fun j hj e=>hbO (e ▸ hj))
 refine ⟨fun hne=>?_,fun heq=>?_⟩
 · have hst:s.stopped=true:=by
     cases hs:s.stopped with
     | true=>rfl
     | false=>rw [hs] at hne; exact absurd rfl hne
   simp only [YF,za]
   rw [hst]
   exact out H1 zB 3 s (Stp.refl O H1) h1 ⟨_,g1,zJ⟩ Zn (by simp [DS.read,hst])
 · have hst:s.stopped=false:=by
     cases hs:s.stopped with
     | false=>rfl
     | true=>rw [hs] at heq; exact absurd (show (3:Int)≠0 by decide) heq
   refine zS.mk (fun x H'=>H'=H1∧x.1=.bool (decide (a<0∨s.n≤a))) ?_ ?_
   · rintro ⟨x,u⟩ H2 ⟨rfl,hx⟩
     simp only at hx
     subst hx
     simp only [zf]
     refine ⟨fun ho=>?_,fun ho=>?_⟩
     · simp only [YF,za]
       exact out _ zB 2 s (Stp.refl O _) h1 ⟨_,g1,zJ⟩ Zn (by simp [DS.read,hst,ho])
     · have h10:=h1
       obtain ⟨⟨mh,ml,ps,hs,fh,fl,nh,nl,pend,hist,hd,o1,o2,o3,o4,o5⟩,hlt⟩:=h1
       simp only [zc,za,zi,Nat.zero_add,zq hd.top,Yn,zk]
       rw [zg (by omega) (by omega)]
       refine YP (v:=.int .i64 (s.reads+1)) hd.top (by simp [Yn]) rfl rfl fun H3 k3 s3 g3=>?_
       have hd3:DkC H3 p { s with reads:=s.reads+1 } mh ml ps hs fh fl nh nl pend hist:=hd.turn k3 g3 rfl rfl rfl rfl rfl
       have hs3:Stp O O _ H3:=k3.stp fun j _ e=>e ▸ o1
       have hD3:DiskAt H3 p { s with reads:=s.reads+1 } O:=⟨⟨mh,ml,ps,hs,fh,fl,nh,nl,pend,hist,hd3,o1,o2,o3,o4,o5⟩,fun j hj=>by rw [s3]; exact hlt j hj⟩
       have gb3:=k3.at g1 (fun e=>hbp e.symm)
       simp only [zq hd3.top,Yn,za]
       have fin:∀ (H4:Hp) (c:Blk),Ext H3 H4→IsB c→c=s.now a→∀ b4 T4,H4[b4]?=some (.cells c T4) →
           Pu (zb (some (some 1024)) (.pointer (some ⟨b4,0,none⟩)) H4) fun x=>Pu (zj (some 1024) (.pointer (some ⟨b,0,none⟩)) x H4) fun H5=>Pu (zb (some (some 1024)) (.pointer (some ⟨b,0,none⟩)) H5) fun x6=>R (.tuple #[x6,.int .i64 0]) H5:=by
         intro H4 c e4 hc hcn b4 T4 g4
         rw [zV g4 hc.size,za]
         refine out H4 c 0 { s with reads:=s.reads+1 } (hs3.trans (e4.stp O)) (hD3.ext e4) ⟨_,e4.at gb3,zJ⟩ hc ?_
         simp only [DS.read,hst,Bool.false_eq_true,if_false,if_neg ho,hcn]
       rw [map_look hd3.aml]
       cases hfl:fl a with
       | some c=>
         have hc:=hd.bl a c hfl
         simp only [hfl,Option.map_some,lookO_some,mkOk,if_true,za,ze,List.getElem?_toArray,List.getElem?_cons_zero,List.getElem?_cons_succ,ya]
         refine yc fun b4 H4 hb4 e4 s4 g4=>?_
         simp only [zP] at g4
         refine Zb g4 zJ hc.size hc.ok fun H5 k5 s5 g5=>?_
         simp only [Zm]
         have e35:Ext H3 H5:=(e4.kp (·=b4)).trans k5 |>.ext fun k hk e=>by omega
         exact fin H5 c e35 hc (by rw [hd.now a,hfl]; rfl) b4 _ g5
       | none=>
         simp only [hfl,Option.map_none,ya,lookO_none,mkOk,if_true,za,ze,List.getElem?_toArray,List.getElem?_cons_zero,List.getElem?_cons_succ]
         refine yc fun b4 H4 hb4 e4 s4 g4=>?_
         simp only [zP] at g4
         refine Zb g4 zJ zJ Zn.ok fun H5 k5 s5 g5=>?_
         have e35:Ext H3 H5:=(e4.kp (·=b4)).trans k5 |>.ext fun k hk e=>by omega
         have hd5:=(hD3.ext e35)
         simp only [zn]
         have top5:=e35.at hd3.top
         have mh5:=hd3.amh.ext e35
         simp only [zq top5,Yn,za]
         rw [map_look mh5]
         have hz:∃ c,IsB c∧c=s.now a∧lookO false (zD Tryz.prog 94) ((fh a).map Value.agg)=some (.agg c):=by
           rw [hd.now a,hfl]
           cases hfh:fh a with
           | some c=>exact ⟨c,hd.bh a c hfh,rfl,rfl⟩
           | none=>exact ⟨zB,Zn,rfl,by rw [ya]; rfl⟩
         obtain ⟨c,hc,hcn,he⟩:=hz
         rw [he,za]
         refine yc fun b6 H6 hb6 e6 s6 g6=>?_
         simp only [zP] at g6
         refine Zb g6 zJ hc.size hc.ok fun H7 k7 s7 g7=>?_
         have e57:Ext H5 H7:=(e6.kp (·=b6)).trans k7 |>.ext fun k hk e=>by omega
         exact fin H7 c (e35.trans e57) hc hcn b6 _ g7
   · obtain ⟨⟨mh,ml,ps,hs,fh,fl,nh,nl,pend,hist,hd,o1,o2,o3,o4,o5⟩,hlt⟩:=h1
     simp only [zr,za,zf,zc,zi,Nat.zero_add,zq hd.top,Yn,zQ]
     refine ⟨fun h0=>⟨trivial,by simp [h0]⟩,fun h0=>⟨trivial,by simp [h0]⟩⟩
end
section
variable {H:Hp} {p:Nat} {s:DS} {O:Nat→Prop} {R:Value→Hp→Prop}
theorem ZA {x:Int × Blk} (h:IsB x.2):(zM x).size=1025:=by simp [zM,h.size]
theorem heldC_ok {x:Int × Blk} (h:IsB x.2):zF (zM x):=by
 have:=h.all
 unfold zF zM
 rw [Array.all_append,this]
 simp [Value.oneCell']
def orE:Option ZT→ZT
 | some e=>e
 | none=>⟨0,0,0,#[]⟩
noncomputable def eHeld:ZT:=orE (zI Tryz.prog 37)
set_option maxRecDepth 100000 in
theorem elHeld:zI Tryz.prog 37=some eHeld:=by kernel_rfl
set_option maxRecDepth 100000 in
theorem eHeld_f:eHeld.type=98∧eHeld.size=1025∧eHeld.zero.size=1025∧eHeld.bytes=1032:=⟨by kernel_rfl,by kernel_rfl,by kernel_rfl,by kernel_rfl⟩
theorem newS_one {e:ZT} {v:Value} (h0:0<e.size) (h1:e.size≤2 ^ 24) (hz:v.cells.size=e.size):zH (some e) 1 [(0,v)]=some v.cells:=by
 unfold zH
 simp only
 rw [if_neg (by omega)]
 have:∀ (A:Array Value),A.size=e.size→Instr.fill (fun i=>some (i*e.size,e.size)) A [(0,v)]=some v.cells:=by
   intro A hA
   unfold Instr.fill
   have hcond:(decide (v.cells.size≠e.size) || decide (0*e.size+v.cells.size > A.size))=false:=by
     rw [decide_eq_false (fun hne=>hne hz),decide_eq_false (by omega)]; rfl
   simp only
   rw [if_neg (by rw [hcond]; decide)]
   unfold Instr.fill
   rw [fold_splice (by omega),Nat.zero_mul,splice_all (by omega)]
 exact this _ (by simp)
end
def aggOf:Option Value→Array Value
 | some (.agg c)=>c
 | _=>#[]
noncomputable def zHeld:Array Value:=aggOf (zD Tryz.prog 98)
set_option maxRecDepth 100000 in
theorem zeroHeld:zD Tryz.prog 98=some (.agg zHeld):=by kernel_rfl
set_option maxRecDepth 100000 in
theorem ZU:zHeld.size=1025:=by kernel_rfl
set_option maxRecDepth 100000 in
theorem plHeld:placesE Tryz.prog 98=some [(0,1),(1,1024)]:=by kernel_rfl
theorem Z9 {pl:List (Nat × Nat)} {c c':Array Value} {i off size:Nat} {v:Value} {rest:List (Nat × Value)} (hp:pl[i]?=some (off,size)) (hs:v.cells.size=size) (ho:off+size≤c.size) (h:fillS pl (zZ c off v.cells) rest=some c'):fillS pl c ((i,v) :: rest)=some c':=by
 unfold fillS
 rw [hp]
 simp only
 rw [if_pos ⟨hs,ho⟩]
 exact h
theorem build_held {a:Int} {c:Blk} (hc:IsB c):zu Tryz.prog 98 [(0,.int .i64 a),(1,.agg c)]=some (.agg (zM (a,c))):=by
 refine Yo zeroHeld plHeld ?_
 refine Z9 rfl rfl (by rw [ZU]; omega) ?_
 refine Z9 rfl hc.size (by rw [z7 (by rw [ZU]; simp [cells_int]),ZU]; omega) ?_
 unfold fillS
 rw [Option.some.injEq]
 apply Array.ext_getElem?
 intro j
 have h1:(zZ zHeld 0 (Value.int .i64 a).cells).size=1025:=by rw [z7 (by rw [ZU]; simp [cells_int]),ZU]
 rw [zP,zU (by rw [h1,hc.size]; omega),zU (by rw [ZU]; simp [cells_int])]
 simp only [cells_int,zM]
 by_cases h0:j<1
 · have:j=0:=by omega
   subst this; simp [Array.getElem?_append]
 · rw [if_neg h0,Array.getElem?_append_right (by simp; omega)]
   by_cases h2:j<1+c.size
   · rw [if_pos h2]; rfl
   · rw [if_neg h2]
     simp only [List.size_toArray,List.length_cons,List.length_nil]
     rw [if_neg (by omega),if_neg (by omega),Array.getElem?_eq_none (by rw [ZU]; rw [hc.size] at h2; omega),Array.getElem?_eq_none (by omega)]
end Go.Vc
namespace Go.Proofs
open Go.Vc
variable {H:Hp} {R:Value→Hp→Prop} {v0 v1 v2 v3 v4 v5 v6 v7 v8:Value}
set_option maxRecDepth 100000
def sh103 (v0 v1:Value) (H:Hp) (R:Value→Hp→Prop):Prop:=
 zS (n:=1) (fun s0 H1=>Any fun _=>
 Ite s0.1
 (R (.int .i64 1) H1)
 (Pu (zc v0) fun x3=>
 Pu (zd (some 0) x3) fun x4=>
 Pu (zb (some none) x4 H1) fun x5=>
 Fc Tryz.prog 143 #[x5] H1 fun x6 H2=>
 Ite x6
 (R (.int .i64 3) H2)
 (zS (n:=1) (fun s6 H3=>Any fun _=>
 Ite s6.1
 (R (.int .i64 2) H3)
 (R (.int .i64 0) H3))
 (fun K8=>Pu (zo (some (.int .i64)) .lss v1 (.int .i64 0)) fun x10=>
 Ite x10
 (K8 ((.bool true),()) H2)
 (Pu (zc v0) fun x11=>
 Pu (zd (some 0) x11) fun x12=>
 Pu (zb (some none) x12 H2) fun x13=>
 Fc Tryz.prog 91 #[x13] H2 fun x14 H4=>
 Pu (zo (some (.int .i64)) .geq v1 x14) fun x15=>
 K8 (x15,()) H4)))))
 (fun K15=>Pu (yH Tryz.prog 132 true .eql v0 (.pointer none) H) fun x17=>
 Ite x17
 (K15 ((.bool true),()) H)
 (Pu (zc v0) fun x18=>
 Pu (zd (some 0) x18) fun x19=>
 Pu (zb (some none) x19 H) fun x20=>
 Pu (yH Tryz.prog 47 true .eql x20 (.pointer none) H) fun x21=>
 K15 (x21,()) H))
theorem fn103 (h:sh103 v0 v1 H R):Fc Tryz.prog 103 #[v0,v1] H R:=
 zs (fun f=>[].contains f) (.seq .nil (.seq (.join [5] [6,7,8,9,10,11,12,13,14] .nil (.cond .nil (.seq .nil (.cond .nil (.join [21] [22,23,24,25,26,27,28,29,30,31,32] .nil .nil))))) .nil)) Tryz.func103 (args:=[v0,v1]) (Eq.mp (by kernel_rfl:sh103 v0 v1 H R=_) h)
def sh104 (v0:Value) (H:Hp) (R:Value→Hp→Prop):Prop:=
 Pu (zc v0) fun x1=>
 Pu (zd (some 1026) x1) fun x2=>
 Pu (zb (some none) x2 H) fun x3=>
 Pu (zc v0) fun x4=>
 Pu (zd (some 1027) x4) fun x5=>
 Pu (zb (some none) x5 H) fun x6=>
 Pu (zc x3) fun x7=>
 Pu (zd (some 1027) x7) fun x8=>
 Pu (zj (some 1) x8 x6 H) fun H1=>
 Pu (zc v0) fun x9=>
 Pu (zd (some 1027) x9) fun x10=>
 Pu (zb (some none) x10 H1) fun x11=>
 Pu (zc v0) fun x12=>
 Pu (zd (some 1026) x12) fun x13=>
 Pu (zb (some none) x13 H1) fun x14=>
 Pu (zc x11) fun x15=>
 Pu (zd (some 1026) x15) fun x16=>
 Pu (zj (some 1) x16 x14 H1) fun H2=>
 R (.tuple #[]) H2
theorem fn104 (h:sh104 v0 H R):Fc Tryz.prog 104 #[v0] H R:=
 zs (fun f=>[].contains f) .nil Tryz.func104 (args:=[v0]) (Eq.mp (by kernel_rfl:sh104 v0 H R=_) h)
def sh105 (v0 v1:Value) (H:Hp) (R:Value→Hp→Prop):Prop:=
 Pu (zc v0) fun x1=>
 Pu (zd (some 3) x1) fun x2=>
 Pu (zd (some 1026) x2) fun x3=>
 Pu (zb (some none) x3 H) fun x4=>
 Pu (zc v1) fun x5=>
 Pu (zd (some 1026) x5) fun x6=>
 Pu (zj (some 1) x6 x4 H) fun H1=>
 Pu (zc v0) fun x7=>
 Pu (zd (some 3) x7) fun x8=>
 Pu (zc v1) fun x9=>
 Pu (zd (some 1027) x9) fun x10=>
 Pu (zj (some 1) x10 x8 H1) fun H2=>
 Pu (zc v1) fun x11=>
 Pu (zd (some 1026) x11) fun x12=>
 Pu (zb (some none) x12 H2) fun x13=>
 Pu (zc x13) fun x14=>
 Pu (zd (some 1027) x14) fun x15=>
 Pu (zj (some 1) x15 v1 H2) fun H3=>
 Pu (zc v0) fun x16=>
 Pu (zd (some 3) x16) fun x17=>
 Pu (zd (some 1026) x17) fun x18=>
 Pu (zj (some 1) x18 v1 H3) fun H4=>
 R (.tuple #[]) H4
theorem fn105 (h:sh105 v0 v1 H R):Fc Tryz.prog 105 #[v0,v1] H R:=
 zs (fun f=>[].contains f) .nil Tryz.func105 (args:=[v0,v1]) (Eq.mp (by kernel_rfl:sh105 v0 v1 H R=_) h)
def sh106 (v0:Value) (H:Hp) (R:Value→Hp→Prop):Prop:=
 Pu (zc v0) fun x1=>
 Pu (zd (some 2) x1) fun x2=>
 Pu (zb (some none) x2 H) fun x3=>
 Pu (zc v0) fun x4=>
 Pu (zd (some 1) x4) fun x5=>
 Pu (zb (some none) x5 H) fun x6=>
 Pu (zo (some (.int .i64)) .geq x3 x6) fun x7=>
 Ite x7
 (R (.bool false) H)
 (Pu (zc v0) fun x8=>
 Pu (zd (some 1031) x8) fun x9=>
 Pu (zb (some none) x9 H) fun x10=>
 Pu (Yq x10 H) fun x11=>
 Pu (zc v0) fun x12=>
 Pu (zd (some 1) x12) fun x13=>
 Pu (zb (some none) x13 H) fun x14=>
 Pu (zo (some (.int .i64)) .lss x11 x14) fun x15=>
 Ite x15
 (R (.bool true) H)
 (Pu (zc v0) fun x16=>
 Pu (zd (some 3) x16) fun x17=>
 Pu (zd (some 1027) x17) fun x18=>
 Pu (zb (some none) x18 H) fun x19=>
 zx (n:=1) (x19,()) H (fun K20 s19 H1=>Any fun _=>
 Pu (zc s19.1) fun x22=>
 Pu (zd (some 1025) x22) fun x23=>
 Pu (zb (some none) x23 H1) fun x24=>
 Ite x24
 (Pu (zc s19.1) fun x25=>
 Pu (zd (some 1027) x25) fun x26=>
 Pu (zb (some none) x26 H1) fun x27=>
 K20 (x27,()) H1)
 (Fc Tryz.prog 104 #[s19.1] H1 fun x28 H2=>
 Pu (zc v0) fun x29=>
 Pu (zd (some 1031) x29) fun x30=>
 Pu (zb (some none) x30 H2) fun x31=>
 Pu (zc s19.1) fun x32=>
 Pu (zd (some 0) x32) fun x33=>
 Pu (zb (some none) x33 H2) fun x34=>
 Pu (mapDelE (some (3,.int .i64,189)) x31 x34 H2) fun H3=>
 R (.bool true) H3))))
theorem fn106 (h:sh106 v0 H R):Fc Tryz.prog 106 #[v0] H R:=
 zs (fun f=>[].contains f) (.seq .nil (.seq .nil (.seq .nil (.seq .nil (.seq (.loop [3] [28,29,30,31,32,33,34,35] .nil) .nil))))) Tryz.func106 (args:=[v0]) (Eq.mp (by kernel_rfl:sh106 v0 H R=_) h)
def sh68 (v0 v1:Value) (H:Hp) (R:Value→Hp→Prop):Prop:=
 Pu (zD Tryz.prog 94) fun x1=>Box 94 x1 H fun x2 H1=>
 Fc Tryz.prog 103 #[v0,v1] H1 fun x3 H2=>
 Pu (zo (some (.int .i64)) .neq x3 (.int .i64 0)) fun x4=>
 Ite x4
 (Pu (zu Tryz.prog 94 []) fun x5=>
 Pu (zj (some 1024) x2 x5 H2) fun H3=>
 Pu (zb (some (some 1024)) x2 H3) fun x6=>
 R (.tuple #[x6,x3]) H3)
 (Pu (zc v0) fun x7=>
 Pu (zd (some 1031) x7) fun x8=>
 Pu (zb (some none) x8 H2) fun x9=>
 Pu (yu Tryz.prog (some (3,.int .i64,189)) true x9 v1 H2) fun x10=>
 Pu (ze x10 0) fun x11=>
 Pu (ze x10 1) fun x12=>
 Ite x12
 (Fc Tryz.prog 104 #[x11] H2 fun x13 H4=>
 Fc Tryz.prog 105 #[v0,x11] H4 fun x14 H5=>
 Pu (zc x11) fun x15=>
 Pu (zd (some 1) x15) fun x16=>
 Pu (zb (some (some 1024)) x16 H5) fun x17=>
 Pu (zj (some 1024) x2 x17 H5) fun H6=>
 Pu (zb (some (some 1024)) x2 H6) fun x18=>
 R (.tuple #[x18,(.int .i64 0)]) H6)
 (Fc Tryz.prog 106 #[v0] H2 fun x19 H7=>
 Pu (unE .not x19) fun x20=>
 Ite x20
 (Pu (zu Tryz.prog 94 []) fun x21=>
 Pu (zj (some 1024) x2 x21 H7) fun H8=>
 Pu (zb (some (some 1024)) x2 H8) fun x22=>
 R (.tuple #[x22,(.int .i64 160)]) H8)
 (Pu (zc v0) fun x23=>
 Pu (zd (some 0) x23) fun x24=>
 Pu (zb (some none) x24 H7) fun x25=>
 Fc Tryz.prog 67 #[x25,v1] H7 fun x26 H9=>
 Pu (ze x26 0) fun x27=>
 Pu (ze x26 1) fun x28=>
 Pu (zD Tryz.prog 94) fun x29=>Box 94 x29 H9 fun x30 H10=>
 Pu (zj (some 1024) x30 x27 H10) fun H11=>
 Pu (zo (some (.int .i64)) .neq x28 (.int .i64 0)) fun x31=>
 Ite x31
 (Pu (zu Tryz.prog 94 []) fun x32=>
 Pu (zj (some 1024) x2 x32 H11) fun H12=>
 Pu (zb (some (some 1024)) x2 H12) fun x33=>
 R (.tuple #[x33,x28]) H12)
 (Pu (zb (some (some 1024)) x30 H11) fun x34=>
 Pu (zu Tryz.prog 191 [(0,v1),(1,x34)]) fun x35=>
 Box 191 x35 H11 fun x36 H13=>
 Pu (zc v0) fun x37=>
 Pu (zd (some 1031) x37) fun x38=>
 Pu (zb (some none) x38 H13) fun x39=>
 Pu (YS (some (3,.int .i64,189)) x39 v1 x36 H13) fun H14=>
 Fc Tryz.prog 105 #[v0,x36] H14 fun x40 H15=>
 Pu (zb (some (some 1024)) x30 H15) fun x41=>
 Pu (zj (some 1024) x2 x41 H15) fun H16=>
 Pu (zb (some (some 1024)) x2 H16) fun x42=>
 R (.tuple #[x42,(.int .i64 0)]) H16))))
theorem fn68 (h:sh68 v0 v1 H R):Fc Tryz.prog 68 #[v0,v1] H R:=
 zs (fun f=>[].contains f) .nil Tryz.func68 (args:=[v0,v1]) (Eq.mp (by kernel_rfl:sh68 v0 v1 H R=_) h)
def sh56 (v0 v1:Value) (H:Hp) (R:Value→Hp→Prop):Prop:=
 Fc Tryz.prog 91 #[v0] H fun x1 H1=>
 Pu (zo (some (.int .i64)) .eql x1 (.int .i64 0)) fun x2=>
 Ite x2
 (R (.tuple #[(.pointer none),(.int .i64 1)]) H1)
 (zS (n:=1) (fun s2 H2=>Any fun _=>
 Ite s2.1
 (R (.tuple #[(.pointer none),(.int .i64 2)]) H2)
 (NewMap H2 fun x5 H3=>
 Pu (zu Tryz.prog 193 [(0,v0),(1,v1),(4,x5)]) fun x6=>
 Box 193 x6 H3 fun x7 H4=>
 Pu (zc x7) fun x8=>
 Pu (zd (some 3) x8) fun x9=>
 Pu (zc x7) fun x10=>
 Pu (zd (some 3) x10) fun x11=>
 Pu (zd (some 1026) x11) fun x12=>
 Pu (zj (some 1) x12 x9 H4) fun H5=>
 Pu (zc x7) fun x13=>
 Pu (zd (some 3) x13) fun x14=>
 Pu (zc x7) fun x15=>
 Pu (zd (some 3) x15) fun x16=>
 Pu (zd (some 1027) x16) fun x17=>
 Pu (zj (some 1) x17 x14 H5) fun H6=>
 R (.tuple #[x7,(.int .i64 0)]) H6))
 (fun K17=>Pu (zo (some (.int .i64)) .lss v1 (.int .i64 1)) fun x19=>
 Ite x19
 (K17 ((.bool true),()) H1)
 (Pu (zo (some (.int .i64)) .gtr v1 (.int .i64 4096)) fun x20=>
 K17 (x20,()) H1)))
theorem fn56 (h:sh56 v0 v1 H R):Fc Tryz.prog 56 #[v0,v1] H R:=
 zs (fun f=>[].contains f) (.seq .nil (.seq .nil (.seq (.join [15] [10,11,12,13,14] .nil .nil) .nil))) Tryz.func56 (args:=[v0,v1]) (Eq.mp (by kernel_rfl:sh56 v0 v1 H R=_) h)
end Go.Proofs
namespace Go.Vc
open Go.Proofs
abbrev Nd:=Nat × Nat
abbrev ptrN (n:Nd):Value:=.pointer (some ⟨n.1,n.2,none⟩)
def cel (H:Hp) (b o:Nat):Option Value:=YZ H ⟨b,o,none⟩
def nxt (H:Hp) (n:Nd):Option Value:=cel H n.1 (n.2+1027)
def prv (H:Hp) (n:Nd):Option Value:=cel H n.1 (n.2+1026)
theorem cel_of {H:Hp} {b o:Nat} {c:Array Value} {T:TypeId} {fr:Nat × Nat} (h:H[b]?=some (.cells c T fr)):cel H b o=c[o]?:=by simp [cel,YZ,h]
theorem YU {H:Hp} {b o:Nat}:zb (some none) (.pointer (some ⟨b,o,none⟩)) H=cel H b o:=rfl
def Sh (H:Hp) (b n:Nat) (T:TypeId):Prop:=∃ c,H[b]?=some (.cells c T)∧c.size=n
structure Set1 (H H':Hp) (b o:Nat) (v:Value):Prop where
 size:H'.size=H.size
 blk:∀ b',b'≠b→H'[b']?=H[b']?
 cell:∀ o',cel H' b o'=if o'=o then some v else cel H b o'
theorem Set1.cel {H H':Hp} {b o:Nat} {v:Value} (h:Set1 H H' b o v) (b' o':Nat):Vc.cel H' b' o'=if b'=b∧o'=o then some v else Vc.cel H b' o':=by
 by_cases hb:b'=b
 · subst hb
   rw [h.cell]
   by_cases ho:o'=o <;> simp [ho]
 · rw [if_neg (by simp [hb])]
   unfold Vc.cel YZ
   rw [h.blk b' hb]
theorem set_cel {H:Hp} {b o n:Nat} {T:TypeId} {v:Value} {K:Hp→Prop} {c:Array Value} (hb:H[b]?=some (.cells c T)) (ho:o<c.size) (hv:v.oneCell'=true) (hc:v.cells=#[v])
   (h:∀ H',Set1 H H' b o v→H'[b]?=some (.cells (c.setIfInBounds o v) T)→K H'):Pu (zj (some 1) (.pointer (some ⟨b,o,none⟩)) v H) K:=by
 refine YP hb ho hv hc fun H' k s g=>h H' ⟨s,fun j hj=>?_,fun o'=>?_⟩ g
 · by_cases hl:j<H.size
   · exact k.same j hl hj
   · rw [Array.getElem?_eq_none (by omega),Array.getElem?_eq_none (by omega)]
 · rw [cel_of g,cel_of hb,Array.getElem?_setIfInBounds]
   by_cases he:o=o'
   · subst he; simp [ho]
   · rw [if_neg he,if_neg (fun e=>he e.symm)]
def Seg (H:Hp):Nd→List Nd→Prop
 | _,[]=>True
 | a,b :: l=>nxt H a=some (ptrN b)∧prv H b=some (ptrN a)∧Seg H b l
def lastOf:Nd→List Nd→Nd
 | a,[]=>a
 | _,b :: l=>lastOf b l
theorem Seg_app {H:Hp}:∀ {l1:List Nd} {a:Nd} {l2:List Nd},Seg H a (l1++l2)↔Seg H a l1∧Seg H (lastOf a l1) l2
 | [],a,l2=>by simp [Seg,lastOf]
 | b :: l1,a,l2=>by
   simp only [List.cons_append,Seg,lastOf,Seg_app (l1:=l1),and_assoc]
theorem lastOf_mem:∀ (l:List Nd) (a:Nd),lastOf a l=a∨lastOf a l∈l
 | [],a=>.inl rfl
 | b :: l,a=>by
   rcases lastOf_mem l b with h | h
   · exact .inr (by simp [lastOf,h])
   · exact .inr (List.mem_cons_of_mem _ h)
theorem Seg.of {H H':Hp}:∀ {l:List Nd} {a:Nd},Seg H a l→(∀ x∈l,prv H' x=prv H x)→(∀ x∈(a :: l).dropLast,nxt H' x=nxt H x)→Seg H' a l
 | [],_,_,_,_=>trivial
 | b :: l,a,h,hp,hn=>by
   obtain ⟨h1,h2,h3⟩:=h
   refine ⟨?_,?_,h3.of (fun x hx=>hp x (List.mem_cons_of_mem _ hx)) fun x hx=>hn x ?_⟩
   · rw [hn a (by simp)]; exact h1
   · rw [hp b List.mem_cons_self]; exact h2
   · rw [List.dropLast_cons_cons]; exact List.mem_cons_of_mem _ hx
structure Ln where
 b:Nat
 at_:Int
 data:Blk
 fast:Bool
abbrev Ln.nd (x:Ln):Nd:=(x.b,0)
structure LkC (c:Array Value) (x:Ln):Prop where
 size:c.size=1028
 num:c[0]?=some (.int .i64 x.at_)
 data:c.extract 1 1025=x.data
 fast:c[1025]?=some (.bool x.fast)
 isB:IsB x.data
theorem extract_set_out {c:Array Value} {o n k:Nat} {v:Value} (h:k<o∨o+n≤k):(c.setIfInBounds k v).extract o (o+n)=c.extract o (o+n):=by
 apply Array.ext_getElem?
 intro j
 rw [Array.getElem?_extract,Array.getElem?_extract,Array.size_setIfInBounds]
 split
 · rw [Array.getElem?_setIfInBounds,if_neg (by omega)]
 · rfl
theorem LkC.set {c:Array Value} {x:Ln} (h:LkC c x) {k:Nat} {v:Value} (hk:1026≤k):LkC (c.setIfInBounds k v) x:=by
 obtain ⟨h1,h2,h3,h4,h5⟩:=h
 refine ⟨by simpa using h1,?_,?_,?_,h5⟩
 · rw [Array.getElem?_setIfInBounds,if_neg (by omega)]; exact h2
 · rw [extract_set_out (o:=1) (n:=1024) (.inr (by omega))]; exact h3
 · rw [Array.getElem?_setIfInBounds,if_neg (by omega)]; exact h4
def LkAt (H:Hp) (x:Ln):Prop:=∃ c,H[x.b]?=some (.cells c 191)∧LkC c x
def nds (row:List Ln):List Nd:=row.map (·.nd)
structure RingAt (H:Hp) (cb:Nat) (row:List Ln):Prop where
 top:Sh H cb 1032 193
 lks:∀ x∈row,LkAt H x
 seg:Seg H (cb,3) (nds row++[(cb,3)])
 nod:(cb :: row.map (·.b)).Nodup
structure RStp (H H':Hp) (cb:Nat) (B:Nat→Prop):Prop where
 size:H'.size=H.size
 blk:∀ b,b≠cb→¬ B b→H'[b]?=H[b]?
 top:∀ o,o≠1029→o≠1030→cel H' cb o=cel H cb o
theorem RStp.kp {H H':Hp} {cb:Nat} {B:Nat→Prop} (h:RStp H H' cb B):Kp (fun b=>b=cb∨B b) H H':=⟨Nat.le_of_eq h.size.symm,fun b _ hn=>h.blk b (fun e=>hn (.inl e)) fun hB=>hn (.inr hB)⟩
theorem last_notin:∀ (l:List Nd) (a:Nd),(a :: l).Nodup→lastOf a l ∉ (a :: l).dropLast
 | [],a,_=>by simp
 | b :: l,a,h=>by
   rw [List.nodup_cons] at h
   rw [List.dropLast_cons_cons,List.mem_cons]
   rintro (h1 | h1)
   · rcases lastOf_mem l b with h2 | h2
     · exact h.1 (by rw [← h1]; show lastOf b l∈_; rw [h2]; exact List.mem_cons_self)
     · exact h.1 (by rw [← h1]; exact List.mem_cons_of_mem _ h2)
   · exact last_notin l b h.2 h1
theorem Zy {row:List Ln} {n:Nd}:n∈nds row↔n.2=0∧n.1∈row.map (·.b):=by
 unfold nds
 simp only [List.mem_map]
 constructor
 · rintro ⟨x,hx,rfl⟩; exact ⟨rfl,x,hx,rfl⟩
 · rintro ⟨h0,x,hx,h1⟩; exact ⟨x,hx,Prod.ext h1 h0.symm⟩
theorem nds_nodup {cb:Nat} {row:List Ln} (h:(cb :: row.map (·.b)).Nodup):(((cb,3):Nd) :: nds row).Nodup:=by
 rw [List.nodup_cons] at h ⊢
 refine ⟨fun hm=>?_,?_⟩
 · have:=(Zy.1 hm).1; simp at this
 · unfold nds
   have h2:=h.2
   induction row with
   | nil=>simp
   | cons x row ih=>
     simp only [List.map_cons,List.nodup_cons,List.mem_cons,not_or] at h h2 ⊢
     refine ⟨fun hm=>?_,ih ⟨h.1.2,h2.2⟩ h2.2⟩
     obtain ⟨y,hy,he⟩:=List.mem_map.1 hm
     injection he with he _
     exact h2.1 (List.mem_map.2 ⟨y,hy,he⟩)
theorem nds_app (l1 l2:List Ln):nds (l1++l2)=nds l1++nds l2:=by simp [nds]
theorem nds_cons (x:Ln) (l:List Ln):nds (x :: l)=x.nd :: nds l:=rfl
theorem RingAt.node {H:Hp} {cb:Nat} {row:List Ln} (h:RingAt H cb row) {n:Nd} (hn:n=(cb,3)∨n∈nds row):∃ c T,H[n.1]?=some (.cells c T)∧n.2+1027<c.size:=by
 rcases hn with rfl | hn
 · obtain ⟨c,h1,h2⟩:=h.top; exact ⟨c,_,h1,by simp only; omega⟩
 · obtain ⟨x,hx,rfl⟩:=List.mem_map.1 hn
   obtain ⟨c,h1,h2⟩:=h.lks x hx
   exact ⟨c,_,h1,by have:=h2.size; simp only; omega⟩
theorem lkAt_set {H H':Hp} {x:Ln} {b o:Nat} {v:Value} (h:LkAt H x) (hs:Set1 H H' b o v) (hc:∀ c T,H[b]?=some (.cells c T)→H'[b]?=some (.cells (c.setIfInBounds o v) T)) (ho:b=x.b→1026≤o):LkAt H' x:=by
 obtain ⟨c,h1,h2⟩:=h
 by_cases hb:b=x.b
 · subst hb
   exact ⟨_,hc c _ h1,h2.set (ho rfl)⟩
 · exact ⟨c,by rw [hs.blk _ (fun e=>hb e.symm)]; exact h1,h2⟩
theorem sh_set {H H':Hp} {b b' o n:Nat} {T:TypeId} {v:Value} (h:Sh H b' n T) (hs:Set1 H H' b o v) (hc:∀ c T,H[b]?=some (.cells c T)→H'[b]?=some (.cells (c.setIfInBounds o v) T)):Sh H' b' n T:=by
 obtain ⟨c,h1,h2⟩:=h
 by_cases hb:b=b'
 · subst hb; exact ⟨_,hc c _ h1,by simpa using h2⟩
 · exact ⟨c,by rw [hs.blk _ (fun e=>hb e.symm)]; exact h1,h2⟩
theorem set_node {H:Hp} {cb:Nat} {row:List Ln} (h:RingAt H cb row) {n m:Nd} {j:Nat} (hn:n=(cb,3)∨n∈nds row) (hj:j=1026∨j=1027) {K:Hp→Prop}
   (k:∀ H',Set1 H H' n.1 (n.2+j) (ptrN m)→(∀ c T,H[n.1]?=some (.cells c T)→H'[n.1]?=some (.cells (c.setIfInBounds (n.2+j) (ptrN m)) T))→K H') :
   Pu (zj (some 1) (.pointer (some ⟨n.1,n.2+j,none⟩)) (ptrN m) H) K:=by
 obtain ⟨c,T,hc,hs⟩:=h.node hn
 refine set_cel (n:=0) hc (by omega) rfl rfl fun H' hs1 hg=>k H' hs1 fun c' T' h'=>?_
 rw [hc] at h'
 injection h' with h'; injection h' with h1 h2
 subst h1 h2; exact hg
theorem prv_set {H H':Hp} {n:Nd} {j:Nat} {v:Value} (hs:Set1 H H' n.1 (n.2+j) v) (m:Nd):prv H' m=if m.1=n.1∧m.2+1026=n.2+j then some v else prv H m:=hs.cel _ _
theorem nxt_set {H H':Hp} {n:Nd} {j:Nat} {v:Value} (hs:Set1 H H' n.1 (n.2+j) v) (m:Nd):nxt H' m=if m.1=n.1∧m.2+1027=n.2+j then some v else nxt H m:=hs.cel _ _
section
variable {H:Hp} {cb:Nat} {R:Value→Hp→Prop}
set_option maxHeartbeats 1000000 in
theorem leave_ok {l1 l2:List Ln} {x:Ln} (h:RingAt H cb (l1++x :: l2)) (k:∀ H',RStp H H' cb (fun b=>b∈(l1++l2).map (·.b))→RingAt H' cb (l1++l2)→R (.tuple #[]) H') :
   Fc Tryz.prog 104 #[z6 x.b] H R:=by
 have hseg:=h.seg
 have hnd:=nds_nodup h.nod
 rw [nds_app,nds_cons] at hseg hnd
 have hm:∀ n,n=(cb,3)∨n∈nds l1∨n∈nds l2→n=(cb,3)∨n∈nds (l1++x :: l2):=fun n hn=>by
   rw [nds_app,nds_cons,List.mem_append,List.mem_cons]
   rcases hn with h1 | h1 | h1
   · exact .inl h1
   · exact .inr (.inl h1)
   · exact .inr (.inr (.inr h1))
 have hoff:∀ n,n=(cb,3)∨n∈nds l1∨n∈nds l2→n.2=0∨n.2=3:=fun n hn=>by
   rcases hn with h1 | h1 | h1
   · rw [h1]; exact .inr rfl
   · exact .inl (Zy.1 h1).1
   · exact .inl (Zy.1 h1).1
 rw [List.append_assoc,Seg_app] at hseg
 obtain ⟨s1,s2⟩:=hseg
 obtain ⟨y,Bn,hB⟩:∃ y Bn,nds l2++[((cb,3):Nd)]=y :: Bn:=by
   cases nds l2 with
   | nil=>exact ⟨_,_,rfl⟩
   | cons a l=>exact ⟨_,_,rfl⟩
 rw [List.cons_append,hB] at s2
 obtain ⟨n1,p1,n2,p2,s3⟩:=s2
 have hp:=lastOf_mem (nds l1) (cb,3)
 generalize hpe:lastOf ((cb,3):Nd) (nds l1)=p at n1 p1 hp
 have hp':p=(cb,3)∨p∈nds l1∨p∈nds l2:=by
   rcases hp with h1 | h1
   · exact .inl h1
   · exact .inr (.inl h1)
 have hy:y=(cb,3)∨y∈nds l2:=by
   have:y∈nds l2++[((cb,3):Nd)]:=by rw [hB]; exact List.mem_cons_self
   rcases List.mem_append.1 this with h1 | h1
   · exact .inr h1
   · exact .inl (by simpa using h1)
 have hy':y=(cb,3)∨y∈nds l1∨y∈nds l2:=by
   rcases hy with h1 | h1
   · exact .inl h1
   · exact .inr (.inr h1)
 simp only [List.nodup_cons,List.nodup_append,List.mem_append,List.mem_cons,not_or] at hnd
 obtain ⟨⟨c1,c2,c3⟩,d1,⟨d2,d3⟩,d4⟩:=hnd
 have hxp:p≠x.nd:=by
   rcases hp with h1 | h1
   · rw [h1]; exact c2
   · exact fun e=>d4 p h1 x.nd (.inl rfl) e
 have hpx:p.1≠x.b:=by
   rcases hp with h1 | h1
   · rw [h1]; intro e
     have:=h.nod
     rw [List.nodup_cons] at this
     exact this.1 (by simp only at e; rw [e]; simp)
   · intro e; exact hxp (Prod.ext e (Zy.1 h1).1)
 have hyx:y.1≠x.b:=by
   rcases hy with h1 | h1
   · rw [h1]; intro e
     have:=h.nod
     rw [List.nodup_cons] at this
     exact this.1 (by simp only at e; rw [e]; simp)
   · intro e
     have:y=x.nd:=Prod.ext e (Zy.1 h1).1
     exact d2 (this ▸ h1)
 refine fn104 ?_
 have lp:cel H x.b 1026=some (ptrN p):=by simpa [prv] using p1
 have ln:cel H x.b 1027=some (ptrN y):=by simpa [nxt] using n2
 simp only [sh104,zc,za,zi,Nat.zero_add,YU,lp,ln]
 refine set_node h (hm p hp') (.inr rfl) fun H1 e1 g1=>?_
 have lp1:cel H1 x.b 1026=some (ptrN p):=by rw [e1.cel,if_neg (fun e=>hpx e.1.symm)]; exact lp
 have ln1:cel H1 x.b 1027=some (ptrN y):=by rw [e1.cel,if_neg (fun e=>hpx e.1.symm)]; exact ln
 simp only [lp1,ln1,za,zc,zi]
 obtain ⟨cy,Ty,gy,sy⟩:=h.node (hm y hy')
 have gy1:∃ c,H1[y.1]?=some (.cells c Ty)∧y.2+1027<c.size:=by
   by_cases hyp:p.1=y.1
   · rw [← hyp] at gy
     refine ⟨_,by rw [← hyp]; exact g1 cy Ty gy,by simpa using sy⟩
   · exact ⟨cy,by rw [e1.blk _ (fun e=>hyp e.symm)]; exact gy,sy⟩
 obtain ⟨cy1,gy1,sy1⟩:=gy1
 refine set_cel (n:=0) gy1 (by omega) rfl rfl fun H2 e2 g2=>?_
 have g2':∀ c T,H1[y.1]?=some (.cells c T)→H2[y.1]?=some (.cells (c.setIfInBounds (y.2+1026) (ptrN p)) T):=fun c T h'=>by
   rw [gy1] at h'; injection h' with h'; injection h' with h1 h2; subst h1 h2; exact g2
 have op:=hoff p hp'
 have oy:=hoff y hy'
 have eprv:∀ n:Nd,(n.2=0∨n.2=3)→prv H2 n=if n=y then some (ptrN p) else prv H n:=fun n hn=>by
   rw [prv_set e2 n,prv_set e1 n]
   by_cases hny:n=y
   · subst hny; simp
   · rw [if_neg (fun e=>hny (Prod.ext e.1 (by omega))),if_neg hny,if_neg (by omega)]
 have enxt:∀ n:Nd,(n.2=0∨n.2=3)→nxt H2 n=if n=p then some (ptrN y) else nxt H n:=fun n hn=>by
   rw [nxt_set e2 n,nxt_set e1 n,if_neg (by omega)]
   by_cases hnp:n=p
   · subst hnp; simp
   · rw [if_neg (fun e=>hnp (Prod.ext e.1 (by omega))),if_neg hnp]
 refine k H2 ⟨e2.size.trans e1.size,fun b hb hB'=>?_,fun o h1 h2=>?_⟩ ⟨?_,fun z hz=>?_,?_,?_⟩
 · have hbn:∀ n:Nd,(n=(cb,3)∨n∈nds l1∨n∈nds l2)→b≠n.1:=fun n hn e=>by
     rcases hn with h1 | h1 | h1
     · rw [h1] at e; exact hb e
     · exact hB' (by rw [e,List.map_append]; exact List.mem_append_left _ (Zy.1 h1).2)
     · exact hB' (by rw [e,List.map_append]; exact List.mem_append_right _ (Zy.1 h1).2)
   rw [e2.blk b (hbn y hy'),e1.blk b (hbn p hp')]
 · have hcn:∀ n:Nd,(n=(cb,3)∨n∈nds l1∨n∈nds l2)→n.1=cb→n.2=3:=fun n hn e=>by
     rcases hn with h3 | h3 | h3
     · rw [h3]
     · exfalso
       have:=h.nod
       rw [List.nodup_cons] at this
       exact this.1 (by rw [← e,List.map_append]; exact List.mem_append_left _ (Zy.1 h3).2)
     · exfalso
       have:=h.nod
       rw [List.nodup_cons] at this
       exact this.1 (by rw [← e,List.map_append,List.map_cons]; exact List.mem_append_right _ (List.mem_cons_of_mem _ (Zy.1 h3).2))
   rw [e2.cel,e1.cel,if_neg,if_neg]
   · rintro ⟨e,e'⟩; have:=hcn p hp' e.symm; omega
   · rintro ⟨e,e'⟩; have:=hcn y hy' e.symm; omega
 · exact sh_set (sh_set h.top e1 g1) e2 g2'
 · have hz':z∈l1++x :: l2:=by
     rcases List.mem_append.1 hz with h1 | h1
     · exact List.mem_append_left _ h1
     · exact List.mem_append_right _ (List.mem_cons_of_mem _ h1)
   exact lkAt_set (lkAt_set (h.lks z hz') e1 g1 fun _=>by omega) e2 g2' fun _=>by omega
 · rw [nds_app,List.append_assoc,hB,Seg_app,hpe]
   have hA:(((cb,3):Nd) :: nds l1).Nodup:=List.nodup_cons.2 ⟨c1,d1⟩
   refine ⟨s1.of (fun z hz=>?_) (fun z hz=>?_),?_,?_,s3.of (fun z hz=>?_) (fun z hz=>?_)⟩
   · rw [eprv z (hoff z (.inr (.inl hz))),if_neg]
     intro e; subst e
     rcases hy with h1 | h1
     · exact c1 (h1 ▸ hz)
     · exact d4 z hz z (.inr h1) rfl
   · have hz2:=List.dropLast_subset _ hz
     have hz3:z=(cb,3)∨z∈nds l1:=by simpa using hz2
     rw [enxt z (hoff z (by rcases hz3 with h1 | h1; exact .inl h1; exact .inr (.inl h1))),if_neg]
     intro e
     have:=last_notin (nds l1) (cb,3) hA
     rw [hpe,← e] at this
     exact this hz
   · rw [enxt p op,if_pos rfl]
   · rw [eprv y oy,if_pos rfl]
   · have hz2:z∈nds l2++[((cb,3):Nd)]:=by rw [hB]; exact List.mem_cons_of_mem _ hz
     have hz3:z∈nds l2∨z=(cb,3):=by simpa using hz2
     have hBn:(y :: Bn).Nodup:=by
       rw [← hB,List.nodup_append]
       refine ⟨d3,by simp,fun a ha b hb e=>?_⟩
       simp only [List.mem_singleton] at hb
       subst hb; subst e; exact c3 ha
     rw [eprv z (hoff z (by rcases hz3 with h1 | h1; exact .inr (.inr h1); exact .inl h1)),if_neg]
     intro e; subst e
     exact (List.nodup_cons.1 hBn).1 hz
   · have hz2:z∈nds l2:=by
       rw [← hB,List.dropLast_concat] at hz; exact hz
     rw [enxt z (hoff z (.inr (.inr hz2))),if_neg]
     intro e; subst e
     rcases hp with h1 | h1
     · exact c3 (h1 ▸ hz2)
     · exact d4 z h1 z (.inr hz2) rfl
 · have:=h.nod
   rw [List.map_append,List.map_cons] at this
   rw [List.map_append]
   simp only [List.nodup_cons,List.nodup_append,List.mem_append,List.mem_cons,not_or] at this ⊢
   obtain ⟨⟨a1,a2,a3⟩,b1,⟨b2,b3⟩,b4⟩:=this
   exact ⟨⟨a1,a3⟩,b1,b3,fun a ha b hb=>b4 a ha b (.inr hb)⟩
end
theorem node_at {H:Hp} {cb:Nat} {row:List Ln} (h:RingAt H cb row) {n:Nd} (hn:n=(cb,3)∨n∈nds row) {j:Nat} (hj:j≤1027):∃ c T,H[n.1]?=some (.cells c T)∧n.2+j<c.size:=by
 obtain ⟨c,T,h1,h2⟩:=h.node hn
 exact ⟨c,T,h1,by omega⟩
theorem set_at {H:Hp} {b o:Nat} {m:Nd} {K:Hp→Prop} (hb:∃ c T,H[b]?=some (.cells c T)∧o<c.size)
   (k:∀ H',Set1 H H' b o (ptrN m)→(∀ c T,H[b]?=some (.cells c T)→H'[b]?=some (.cells (c.setIfInBounds o (ptrN m)) T))→K H') :
   Pu (zj (some 1) (.pointer (some ⟨b,o,none⟩)) (ptrN m) H) K:=by
 obtain ⟨c,T,hc,hs⟩:=hb
 refine set_cel (n:=0) hc hs rfl rfl fun H' hs1 hg=>k H' hs1 fun c' T' h'=>?_
 rw [hc] at h'
 injection h' with h'; injection h' with h1 h2
 subst h1 h2; exact hg
theorem blk_set {H H':Hp} {b b' o o':Nat} {v:Value} (h:∃ c T,H[b']?=some (.cells c T)∧o'<c.size) (hs:Set1 H H' b o v) (hc:∀ c T,H[b]?=some (.cells c T)→H'[b]?=some (.cells (c.setIfInBounds o v) T)):∃ c T,H'[b']?=some (.cells c T)∧o'<c.size:=by
 obtain ⟨c,T,h1,h2⟩:=h
 by_cases hb:b=b'
 · subst hb; exact ⟨_,_,hc c T h1,by simpa using h2⟩
 · exact ⟨c,T,by rw [hs.blk _ (fun e=>hb e.symm)]; exact h1,h2⟩
section
variable {H:Hp} {cb:Nat} {R:Value→Hp→Prop}
set_option maxHeartbeats 1000000 in
theorem last_ok {row:List Ln} {x:Ln} (h:RingAt H cb row) (hx:LkAt H x) (hxc:x.b≠cb) (hxr:x.b ∉ row.map (·.b))
   (k:∀ H',RStp H H' cb (fun b=>b∈(row++[x]).map (·.b))→RingAt H' cb (row++[x])→R (.tuple #[]) H') :
   Fc Tryz.prog 105 #[z6 cb,z6 x.b] H R:=by
 have hseg:=h.seg
 have hnd:=nds_nodup h.nod
 rw [Seg_app] at hseg
 obtain ⟨s1,n1,p1,_⟩:=hseg
 have hp:=lastOf_mem (nds row) (cb,3)
 generalize hpe:lastOf ((cb,3):Nd) (nds row)=p at n1 p1 hp
 have hcr:cb ∉ row.map (·.b):=(List.nodup_cons.1 h.nod).1
 have hpx:p.1≠x.b:=by
   rcases hp with h1 | h1
   · rw [h1]; exact fun e=>hxc e.symm
   · exact fun e=>hxr (e ▸ (Zy.1 h1).2)
 have op:p.2=0∨p.2=3:=by
   rcases hp with h1 | h1
   · rw [h1]; exact .inr rfl
   · exact .inl (Zy.1 h1).1
 have hpc:p.1=cb→p=(cb,3):=fun e=>by
   rcases hp with h1 | h1
   · exact h1
   · exact absurd (e ▸ (Zy.1 h1).2) hcr
 have lp:cel H cb 1029=some (ptrN p):=p1
 obtain ⟨cx,gx,kx⟩:=hx
 have hxb:∃ c T,H[x.b]?=some (.cells c T)∧1027<c.size:=⟨cx,_,gx,by have:=kx.size; omega⟩
 refine fn105 ?_
 simp only [sh105,zc,za,zi,Nat.zero_add,Nat.reduceAdd,YU,lp]
 refine set_at (by obtain ⟨c,T,a,b⟩:=hxb; exact ⟨c,T,a,by omega⟩) fun H1 e1 g1=>?_
 have hxb1:=blk_set hxb e1 g1
 refine set_at (m:=(cb,3)) hxb1 fun H2 e2 g2=>?_
 have lx:cel H2 x.b 1026=some (ptrN p):=by rw [e2.cel,if_neg (by omega),e1.cel,if_pos ⟨rfl,rfl⟩]
 simp only [lx,za,zc,zi]
 have hpb:=blk_set (blk_set (node_at h hp (j:=1027) (Nat.le_refl _)) e1 g1) e2 g2
 refine set_at (m:=x.nd) hpb fun H3 e3 g3=>?_
 have hcb:=blk_set (blk_set (blk_set (node_at h (n:=(cb,3)) (.inl rfl) (j:=1026) (by omega)) e1 g1) e2 g2) e3 g3
 refine set_at (m:=x.nd) hcb fun H4 e4 g4=>?_
 have eprv:∀ n:Nd,(n.2=0∨n.2=3)→prv H4 n=if n.1=cb∧n.2=3 then some (ptrN x.nd) else if n.1=x.b∧n.2=0 then some (ptrN p) else prv H n:=fun n hn=>by
   show cel H4 n.1 (n.2+1026)=_
   rw [e4.cel,e3.cel,e2.cel,e1.cel]
   by_cases h1:n.1=cb∧n.2=3
   · rw [if_pos ⟨h1.1,by omega⟩,if_pos h1]
   · rw [if_neg (by omega),if_neg h1,if_neg (by omega),if_neg (by omega)]
     by_cases h2:n.1=x.b∧n.2=0
     · rw [if_pos ⟨h2.1,by omega⟩,if_pos h2]
     · rw [if_neg (by omega),if_neg h2]; rfl
 have enxt:∀ n:Nd,(n.2=0∨n.2=3)→nxt H4 n=if n=p then some (ptrN x.nd) else if n.1=x.b∧n.2=0 then some (ptrN (cb,3)) else nxt H n:=fun n hn=>by
   show cel H4 n.1 (n.2+1027)=_
   rw [e4.cel,e3.cel,e2.cel,e1.cel,if_neg (by omega)]
   by_cases h1:n=p
   · subst h1; rw [if_pos ⟨rfl,rfl⟩,if_pos rfl]
   · rw [if_neg (fun e=>h1 (Prod.ext e.1 (by omega))),if_neg h1]
     by_cases h2:n.1=x.b∧n.2=0
     · rw [if_pos ⟨h2.1,by omega⟩,if_pos h2]
     · rw [if_neg (by omega),if_neg h2,if_neg (by omega)]; rfl
 refine k H4 ⟨by rw [e4.size,e3.size,e2.size,e1.size],fun b hb hB=>?_,fun o h1 h2=>?_⟩ ⟨?_,fun z hz=>?_,?_,?_⟩
 · rw [List.map_append,List.mem_append,not_or] at hB
   have hbx:b≠x.b:=fun e=>hB.2 (by simp [e])
   have hbp:b≠p.1:=fun e=>by
     rcases hp with h1 | h1
     · rw [h1] at e; exact hb e
     · exact hB.1 (e ▸ (Zy.1 h1).2)
   rw [e4.blk b hb,e3.blk b hbp,e2.blk b hbx,e1.blk b hbx]
 · rw [e4.cel,if_neg (by omega),e3.cel,if_neg,e2.cel,if_neg (fun e=>hxc e.1.symm),e1.cel,if_neg (fun e=>hxc e.1.symm)]
   rintro ⟨e,e'⟩
   have:=hpc e.symm
   rw [this] at e'; omega
 · exact sh_set (sh_set (sh_set (sh_set h.top e1 g1) e2 g2) e3 g3) e4 g4
 · have hz':LkAt H z:=by
     rcases List.mem_append.1 hz with h1 | h1
     · exact h.lks z h1
     · simp only [List.mem_singleton] at h1; subst h1; exact ⟨cx,gx,kx⟩
   have hzc:cb≠z.b:=by
     rcases List.mem_append.1 hz with h1 | h1
     · exact fun e=>hcr (e ▸ List.mem_map.2 ⟨z,h1,rfl⟩)
     · simp only [List.mem_singleton] at h1; subst h1; exact fun e=>hxc e.symm
   exact lkAt_set (lkAt_set (lkAt_set (lkAt_set hz' e1 g1 fun _=>by omega) e2 g2 fun _=>by omega) e3 g3 fun _=>by omega) e4 g4 fun e=>absurd e hzc
 · rw [nds_app,List.append_assoc,Seg_app,hpe]
   have hxn:∀ n∈nds row,n≠x.nd:=fun n hn e=>hxr (by have:=(Zy.1 hn).2; rw [e] at this; exact this)
   refine ⟨s1.of (fun z hz=>?_) (fun z hz=>?_),?_,?_,?_,?_,trivial⟩
   · have hz0:=Zy.1 hz
     rw [eprv z (.inl hz0.1),if_neg (by omega),if_neg (fun (e:z.1=x.b∧z.2=0)=>hxr (e.1 ▸ hz0.2))]
   · have hz2:=List.dropLast_subset _ hz
     have hz3:z=(cb,3)∨z∈nds row:=by simpa using hz2
     have hzo:z.2=0∨z.2=3:=by
       rcases hz3 with h1 | h1
       · rw [h1]; exact .inr rfl
       · exact .inl (Zy.1 h1).1
     rw [enxt z hzo,if_neg,if_neg]
     · rintro ⟨e,e'⟩
       rcases hz3 with h1 | h1
       · rw [h1] at e; exact hxc e.symm
       · exact hxr (e ▸ (Zy.1 h1).2)
     · intro e
       have:=last_notin (nds row) (cb,3) hnd
       rw [hpe,← e] at this
       exact this hz
   · rw [enxt p op,if_pos rfl]
   · show prv H4 x.nd=_
     rw [eprv x.nd (.inl rfl),if_neg (fun e=>hxc e.1),if_pos ⟨rfl,rfl⟩]
   · show nxt H4 x.nd=_
     rw [enxt x.nd (.inl rfl),if_neg (fun e=>hpx (by rw [← e])),if_pos ⟨rfl,rfl⟩]
   · rw [eprv (cb,3) (.inr rfl),if_pos ⟨rfl,rfl⟩]
 · have:=h.nod
   rw [List.nodup_cons] at this ⊢
   rw [List.map_append]
   refine ⟨fun hm=>?_,?_⟩
   · rcases List.mem_append.1 hm with h1 | h1
     · exact this.1 h1
     · simp only [List.map_cons,List.map_nil,List.mem_singleton] at h1; exact hxc h1.symm
   · rw [List.nodup_append]
     refine ⟨this.2,by simp,fun a ha b hb e=>?_⟩
     simp only [List.map_cons,List.map_nil,List.mem_singleton] at hb
     subst hb; subst e; exact hxr ha
end
def Z5 (row:List Ln) (k:Int):Option Ln:=row.find? fun x=>x.at_ == k
def YW (row:List Ln):Int:=((row.filter (·.fast)).length:Nat)
structure CaC (H:Hp) (cb p:Nat) (size:Int) (row:List Ln) (mp:Nat):Prop where
 ring:RingAt H cb row
 d:cel H cb 0=some (z6 p)
 sz:cel H cb 1=some (.int .i64 size)
 fast:cel H cb 2=some (.int .i64 (YW row))
 has:cel H cb 1031=some (.map (some mp))
 map:MapAt H mp (fun k=>(Z5 row k).map fun x=>z6 x.b) row.length
 mpn:mp≠cb∧mp ∉ row.map (·.b)
 nodA:(row.map (·.at_)).Nodup
theorem undCa:Tryz.prog.underlying 132=some (.pointer 193):=by kernel_rfl
def DS.wrong (s:DS) (a:Int):Int:=if s.stopped then 3 else if a<0∨s.n≤a then 2 else 0
section
variable {H:Hp} {cb p mp:Nat} {size:Int} {row:List Ln} {s:DS} {O:Nat→Prop} {R:Value→Hp→Prop}
theorem cache_check (hd:DiskAt H p s O) (hc:CaC H cb p size row mp) {a:Int} (k:R (.int .i64 (s.wrong a)) H):Fc Tryz.prog 103 #[z6 cb,.int .i64 a] H R:=by
 refine fn103 ?_
 simp only [sh103,zt]
 refine zS.mk (fun x H'=>H'=H∧x.1=.bool false) ?_ ?_
 · rintro ⟨x,u⟩ H1 ⟨rfl,hx⟩
   simp only at hx
   subst hx
   simp only [zn,zc,za,zi,Nat.zero_add,YU,hc.d]
   refine disk_stopped hd ?_
   rw [Zz]
   refine ⟨fun hs=>?_,fun hs=>?_⟩
   · rw [show s.wrong a=3 by simp [DS.wrong,hs]] at k; exact k
   · refine zS.mk (fun x H'=>H'=H1∧x.1=.bool (decide (a<0∨s.n≤a))) ?_ ?_
     · rintro ⟨x,u⟩ H2 ⟨rfl,hx⟩
       simp only at hx
       subst hx
       simp only [zf]
       refine ⟨fun ho=>?_,fun ho=>?_⟩
       · rw [show s.wrong a=2 by simp [DS.wrong,hs,ho]] at k; exact k
       · rw [show s.wrong a=0 by simp only [DS.wrong,hs,Bool.false_eq_true,if_false,if_neg ho]] at k; exact k
     · simp only [zr,za,zf,hc.d]
       refine ⟨fun h0=>⟨trivial,by simp [h0]⟩,fun h0=>?_⟩
       refine disk_len hd ?_
       simp only [zQ,za]
       exact ⟨trivial,by simp [h0]⟩
 · simp only [Yc undCa,za,zn,zc,zi,Nat.zero_add,YU,hc.d,Yc undDk,and_self]
theorem fastN_lt {row:List Ln} (h:∀ x∈row,x.fast=true):YW row=row.length:=by
 unfold YW
 rw [List.filter_eq_self.2 h]
theorem fastN_app (l1 l2:List Ln):YW (l1++l2)=YW l1+YW l2:=by
 unfold YW; rw [List.filter_append,List.length_append]; omega
theorem fastN_cons (x:Ln) (l:List Ln):YW (x :: l)=(if x.fast then 1 else 0)+YW l:=by
 unfold YW; rw [List.filter_cons]; split <;> simp <;> omega
theorem cel_same {H H':Hp} {b o:Nat} (h:H'[b]?=H[b]?):cel H' b o=cel H b o:=by
 unfold cel YZ
 simp only [h]
theorem Kp.all {S:Nat→Prop} {H H':Hp} (h:Kp S H H') (hs:H'.size=H.size) {b:Nat} (hn:¬ S b):H'[b]?=H[b]?:=by
 by_cases hl:b<H.size
 · exact h.same b hl hn
 · rw [Array.getElem?_eq_none (by omega),Array.getElem?_eq_none (by omega)]
def posB (row:List Ln) (v:Value):Nat:=
 match v with
 | .pointer (some a)=>row.length - (row.map (·.b)).idxOf a.block
 | _=>0
theorem idxOf_at {l1 l2:List Nat} {b:Nat} (h:b ∉ l1):(l1++b :: l2).idxOf b=l1.length:=by
 induction l1 with
 | nil=>simp
 | cons a l ih=>
   simp only [List.mem_cons,not_or] at h
   rw [List.cons_append,List.idxOf_cons,ih h.2]
   have:(a == b)=false:=by simpa using fun e=>h.1 e.symm
   rw [this]; rfl
theorem nod_mid {cb:Nat} {l1 l2:List Ln} {x:Ln} (h:(cb :: (l1++x :: l2).map (·.b)).Nodup):x.b ∉ l1.map (·.b)∧x.b ∉ l2.map (·.b)∧x.b≠cb:=by
 rw [List.map_append,List.map_cons] at h
 simp only [List.nodup_cons,List.nodup_append,List.mem_append,List.mem_cons,not_or] at h
 obtain ⟨⟨a1,a2,a3⟩,b1,⟨b2,b3⟩,b4⟩:=h
 exact ⟨fun hm=>b4 _ hm _ (.inl rfl) rfl,b2,fun e=>a2 e.symm⟩
theorem findA_mid {l1 l2:List Ln} {x:Ln} (h:((l1++x :: l2).map (·.at_)).Nodup):Z5 (l1++x :: l2) x.at_=some x∧∀ k,k≠x.at_→Z5 (l1++x :: l2) k=Z5 (l1++l2) k:=by
 rw [List.map_append,List.map_cons] at h
 simp only [List.nodup_append,List.nodup_cons,List.mem_cons] at h
 obtain ⟨_,_,h3⟩:=h
 constructor
 · unfold Z5
   rw [List.find?_append]
   have:l1.find? (fun y=>y.at_ == x.at_)=none:=by
     rw [List.find?_eq_none]
     intro y hy
     have:=h3 y.at_ (List.mem_map.2 ⟨y,hy,rfl⟩) x.at_ (.inl rfl)
     simpa using this
   rw [this]; simp
 · intro k hk
   unfold Z5
   rw [List.find?_append,List.find?_append,List.find?_cons]
   have:(x.at_ == k)=false:=by simpa using fun e=>hk e.symm
   rw [this]
theorem findA_out {l1 l2:List Ln} {x:Ln} (h:((l1++x :: l2).map (·.at_)).Nodup):Z5 (l1++l2) x.at_=none:=by
 rw [List.map_append,List.map_cons] at h
 simp only [List.nodup_append,List.nodup_cons,List.mem_cons] at h
 obtain ⟨_,⟨h2,_⟩,h3⟩:=h
 unfold Z5
 rw [List.find?_eq_none]
 intro y hy
 rcases List.mem_append.1 hy with h1 | h1
 · have:=h3 y.at_ (List.mem_map.2 ⟨y,h1,rfl⟩) x.at_ (.inl rfl)
   simpa using this
 · simp only [beq_iff_eq]
   exact fun e=>h2 (e ▸ List.mem_map.2 ⟨y,h1,rfl⟩)
theorem nodup_out {α:Type} {f:Ln→α} {l1 l2:List Ln} {x:Ln} (h:((l1++x :: l2).map f).Nodup):((l1++l2).map f).Nodup:=by
 rw [List.map_append,List.map_cons] at h
 rw [List.map_append]
 simp only [List.nodup_append,List.nodup_cons,List.mem_cons] at h ⊢
 obtain ⟨h1,⟨_,h2⟩,h3⟩:=h
 exact ⟨h1,h2,fun a ha b hb=>h3 a ha b (.inr hb)⟩
theorem CaC.link {H:Hp} {cb p:Nat} {size:Int} {row:List Ln} {mp:Nat} (h:CaC H cb p size row mp) {l1 l2:List Ln} {x:Ln} (e:row=l1++x :: l2):nxt H x.nd=some (ptrN (match l2 with | []=>(cb,3) | y :: _=>y.nd))∧LkAt H x:=by
 have hs:=h.ring.seg
 subst e
 rw [nds_app,nds_cons,List.append_assoc,Seg_app] at hs
 obtain ⟨_,hs⟩:=hs
 refine ⟨?_,h.ring.lks x (by simp)⟩
 cases l2 with
 | nil=>exact hs.2.2.1
 | cons y l2=>exact hs.2.2.1
theorem CaC.first {H:Hp} {cb p:Nat} {size:Int} {row:List Ln} {mp:Nat} (h:CaC H cb p size row mp):nxt H (cb,3)=some (ptrN (match row with | []=>(cb,3) | y :: _=>y.nd)):=by
 have hs:=h.ring.seg
 cases row with
 | nil=>exact hs.1
 | cons y l2=>exact hs.1
set_option maxHeartbeats 1000000 in
theorem room_ok (hc:CaC H cb p size row mp) (hsz:size≤4611686018427387904)
   (k0:size≤YW row→R (.bool false) H)
   (k1:YW row<size→(row.length:Int)<size→R (.bool true) H)
   (k2:∀ H' l1 x l2,YW row<size→size≤row.length→row=l1++x :: l2→(∀ y∈l1,y.fast=true)→x.fast=false→H'.size=H.size→Kp (fun b=>b=cb∨b=mp∨b∈row.map (·.b)) H H'→CaC H' cb p size (l1++l2) mp→R (.bool true) H') :
   Fc Tryz.prog 106 #[z6 cb] H R:=by
 refine fn106 ?_
 have hl:=map_len hc.map
 simp only [sh106,zc,za,zi,Nat.zero_add,Nat.reduceAdd,YU,hc.fast,hc.sz,zQ,zf,hc.has,hl,zr,zt]
 refine ⟨k0,fun hf=>⟨fun hlen=>k1 (by omega) hlen,fun hlen=>?_⟩⟩
 have hfirst:cel H cb 1030=_:=hc.first
 simp only [hfirst,za]
 have hne:row≠[]:=fun e=>by
   subst e
   have:YW []=0:=rfl
   rw [this] at hf; simp only [List.length_nil] at hlen; omega
 refine zx.mk (fun t H'=>H'=H∧∃ l1 x l2,row=l1++x :: l2∧(∀ y∈l1,y.fast=true)∧t.1=z6 x.b) (fun t _=>posB row t.1) ⟨rfl,?_⟩ ?_
 · cases row with
   | nil=>exact absurd rfl hne
   | cons y l=>exact ⟨[],y,l,rfl,by simp,rfl⟩
 · rintro ⟨t,u⟩ H1 ⟨rfl,l1,x,l2,hrow,hall,ht⟩
   simp only at ht
   subst ht
   obtain ⟨hn,c,gx,kx⟩:=hc.link hrow
   have hcf:cel H1 x.b 1025=some (.bool x.fast):=by rw [cel_of gx]; exact kx.fast
   have hcn:cel H1 x.b 1027=_:=hn
   have hca:cel H1 x.b 0=some (.int .i64 x.at_):=by rw [cel_of gx]; exact kx.num
   simp only [zc,za,zi,Nat.zero_add,YU,hcf,hcn,Zz]
   refine ⟨fun hx=>?_,fun hx=>?_⟩
   · cases l2 with
     | nil=>
       exfalso
       have:∀ y∈row,y.fast=true:=fun y hy=>by
         rw [hrow] at hy
         rcases List.mem_append.1 hy with h1 | h1
         · exact hall y h1
         · simp only [List.mem_singleton] at h1; rw [h1]; exact hx
       have:=fastN_lt this
       omega
     | cons y l2=>
       have hno:=nod_mid (hrow ▸ hc.ring.nod)
       have hrow2:row=(l1++[x])++y :: l2:=by rw [hrow]; simp
       have hno2:=nod_mid (hrow2 ▸ hc.ring.nod)
       refine ⟨⟨trivial,l1++[x],y,l2,hrow2,fun z hz=>?_,rfl⟩,?_⟩
       · rcases List.mem_append.1 hz with h1 | h1
         · exact hall z h1
         · simp only [List.mem_singleton] at h1; rw [h1]; exact hx
       · show row.length - (row.map (·.b)).idxOf y.b<row.length - (row.map (·.b)).idxOf x.b
         have e1:(row.map (·.b)).idxOf x.b=l1.length:=by
           rw [hrow,List.map_append,List.map_cons,idxOf_at hno.1,List.length_map]
         have e2:(row.map (·.b)).idxOf y.b=l1.length+1:=by
           rw [hrow2,List.map_append,List.map_cons,idxOf_at hno2.1,List.length_map]; simp
         have e3:row.length=l1.length+(l2.length+1+1):=by rw [hrow]; simp
         rw [e1,e2,e3]; omega
   · have hring:=hc.ring
     rw [hrow] at hring
     have hno:=nod_mid hring.nod
     refine leave_ok hring fun H2 hs2 hr2=>?_
     have hxo:x.b ∉ (l1++l2).map (·.b):=fun hm=>by
       rw [List.map_append,List.mem_append] at hm
       rcases hm with h1 | h1
       · exact hno.1 h1
       · exact hno.2.1 h1
     have gx':H2[x.b]?=some (.cells c 191):=by rw [hs2.blk x.b hno.2.2 hxo]; exact gx
     have hx2:LkAt H2 x:=⟨c,gx',kx⟩
     obtain ⟨c2,gx2,kx2⟩:=hx2
     have hm2:cel H2 cb 1031=some (.map (some mp)):=by rw [hs2.top 1031 (by omega) (by omega)]; exact hc.has
     have ha2:cel H2 x.b 0=some (.int .i64 x.at_):=by rw [cel_of gx2]; exact kx2.num
     have hB:∀ b,b∈(l1++l2).map (·.b)→b∈row.map (·.b):=fun b hb=>by
       rw [hrow]; simp only [List.map_append,List.map_cons,List.mem_append,List.mem_cons] at hb ⊢
       rcases hb with h1 | h1
       · exact .inl h1
       · exact .inr (.inr h1)
     have hmap2:MapAt H2 mp (fun k=>(Z5 row k).map fun x=>z6 x.b) row.length:=hc.map.of (hs2.blk mp hc.mpn.1 fun hm=>hc.mpn.2 (hB _ hm))
     simp only [hm2,ha2,za]
     refine mapDel_i hmap2 fun H3 k3 s3 m3=>?_
     have hA:=hc.nodA
     rw [hrow] at hA
     have hfx:=findA_mid hA
     have hc3:∀ b o,b≠mp→cel H3 b o=cel H2 b o:=fun b o hb=>cel_same (k3.all s3 fun e=>hb e)
     have hmc:cb≠mp:=fun e=>hc.mpn.1 e.symm
     have hmr:∀ z∈l1++l2,z.b≠mp:=fun z hz e=>hc.mpn.2 (e ▸ hB _ (List.mem_map.2 ⟨z,hz,rfl⟩))
     refine k2 H3 l1 x l2 (by omega) (by omega) hrow hall hx (s3.trans hs2.size) ?_ ?_
     · exact (hs2.kp.mono fun b _ hb=>by
         rcases hb with h1 | h1
         · exact .inl h1
         · exact .inr (.inr (hB b h1))).trans (k3.mono fun b _ e=>.inr (.inl e))
     · refine ⟨⟨?_,fun z hz=>?_,hr2.seg.of (fun z hz=>?_) (fun z hz=>?_),hr2.nod⟩,?_,?_,?_,?_,?_,⟨hc.mpn.1,fun hm=>hc.mpn.2 (hB _ hm)⟩,nodup_out hA⟩
       · obtain ⟨ct,g1,g2⟩:=hr2.top
         exact ⟨ct,k3.at g1 (fun e=>hmc e),g2⟩
       · obtain ⟨cz,g1,g2⟩:=hr2.lks z hz
         exact ⟨cz,k3.at g1 (fun e=>hmr z hz e),g2⟩
       · have hz2:z∈nds (l1++l2)∨z=(cb,3):=by simpa using hz
         refine hc3 _ _ ?_
         rcases hz2 with h1 | h1
         · intro e; obtain ⟨y,hy,he⟩:=List.mem_map.1 (Zy.1 h1).2; exact hmr y hy (by rw [he,e])
         · rw [h1]; exact hmc
       · have hz1:=List.dropLast_subset _ hz
         have hz2:z=(cb,3)∨z∈nds (l1++l2):=by
           rcases List.mem_cons.1 hz1 with h1 | h1
           · exact .inl h1
           · have:z∈nds (l1++l2)∨z=(cb,3):=by simpa using h1
             exact this.symm
         refine hc3 _ _ ?_
         rcases hz2 with h1 | h1
         · rw [h1]; exact hmc
         · intro e; obtain ⟨y,hy,he⟩:=List.mem_map.1 (Zy.1 h1).2; exact hmr y hy (by rw [he,e])
       · rw [hc3 _ _ hmc,hs2.top 0 (by omega) (by omega)]; exact hc.d
       · rw [hc3 _ _ hmc,hs2.top 1 (by omega) (by omega)]; exact hc.sz
       · rw [hc3 _ _ hmc,hs2.top 2 (by omega) (by omega),hc.fast,hrow,fastN_app,fastN_app,fastN_cons,hx]; simp
       · rw [hc3 _ _ hmc]; exact hm2
       · have hlen2:(if (Z5 row x.at_).map (fun x=>z6 x.b)=none then row.length else row.length - 1)=(l1++l2).length:=by
           rw [hrow,hfx.1]; simp
         rw [hlen2] at m3
         refine m3.congr fun k=>?_
         unfold updM
         by_cases hk:k=x.at_
         · rw [if_pos hk,hk,findA_out hA]; rfl
         · rw [if_neg hk,← hfx.2 k hk,hrow]
end
structure Pl where
 at_:Int
 data:Blk
 fast:Bool
def Ln.pl (x:Ln):Pl:=⟨x.at_,x.data,x.fast⟩
def yj (cs:List Pl) (k:Int):Option Pl:=cs.find? fun x=>x.at_ == k
def yk (cs:List Pl):Int:=((cs.filter (·.fast)).length:Nat)
def outP (cs:List Pl) (k:Int):List Pl:=cs.eraseP fun x=>x.at_ == k
def roomP (size:Int) (cs:List Pl):Option (List Pl):=if size≤yk cs then none else if (cs.length:Int)<size then some cs else some (cs.eraseP fun x=>!x.fast)
theorem fastP_map (row:List Ln):yk (row.map Ln.pl)=YW row:=by
 unfold yk YW
 rw [List.filter_map,List.length_map]; rfl
theorem findP_map (row:List Ln) (k:Int):yj (row.map Ln.pl) k=(Z5 row k).map Ln.pl:=by
 unfold yj Z5
 rw [List.find?_map]; rfl
theorem eraseP_mid {α:Type} {f:α→Bool} {l1 l2:List α} {x:α} (h1:∀ y∈l1,f y=false) (h2:f x=true):(l1++x :: l2).eraseP f=l1++l2:=by
 induction l1 with
 | nil=>simp [h2]
 | cons a l ih=>
   rw [List.cons_append,List.eraseP_cons_of_neg (by rw [h1 a List.mem_cons_self]; decide),ih fun y hy=>h1 y (List.mem_cons_of_mem _ hy)]
   rfl
theorem findA_split {row:List Ln} {k:Int} {x:Ln} (h:Z5 row k=some x):∃ l1 l2,row=l1++x :: l2∧x.at_=k∧∀ y∈l1,y.at_≠k:=by
 unfold Z5 at h
 rw [List.find?_eq_some_iff_append] at h
 obtain ⟨h1,l1,l2,h2,h3⟩:=h
 exact ⟨l1,l2,h2,by simpa using h1,fun y hy=>by simpa using h3 y hy⟩
def BlC (cb mp:Nat) (row:List Ln):Nat→Prop:=fun b=>b=cb∨b=mp∨b∈row.map (·.b)
theorem RingAt.of {H H':Hp} {cb:Nat} {row:List Ln} (h:RingAt H cb row) (hb:∀ b,b=cb∨b∈row.map (·.b)→H'[b]?=H[b]?):RingAt H' cb row:=by
 refine ⟨?_,fun z hz=>?_,h.seg.of (fun z hz=>?_) (fun z hz=>?_),h.nod⟩
 · obtain ⟨ct,g1,g2⟩:=h.top
   exact ⟨ct,by rw [hb cb (.inl rfl)]; exact g1,g2⟩
 · obtain ⟨cz,g1,g2⟩:=h.lks z hz
   exact ⟨cz,by rw [hb _ (.inr (List.mem_map.2 ⟨z,hz,rfl⟩))]; exact g1,g2⟩
 · have hz2:z∈nds row∨z=(cb,3):=by simpa using hz
   refine cel_same (hb _ ?_)
   rcases hz2 with h1 | h1
   · exact .inr (Zy.1 h1).2
   · rw [h1]; exact .inl rfl
 · have hz1:=List.dropLast_subset _ hz
   have hz2:z=(cb,3)∨z∈nds row:=by
     rcases List.mem_cons.1 hz1 with h1 | h1
     · exact .inl h1
     · have:z∈nds row∨z=(cb,3):=by simpa using h1
       exact this.symm
   refine cel_same (hb _ ?_)
   rcases hz2 with h1 | h1
   · rw [h1]; exact .inl rfl
   · exact .inr (Zy.1 h1).2
theorem CaC.of {H H':Hp} {cb p mp:Nat} {size:Int} {row:List Ln} (h:CaC H cb p size row mp) (hb:∀ b,BlC cb mp row b→H'[b]?=H[b]?):CaC H' cb p size row mp:=by
 have hc:∀ o,cel H' cb o=cel H cb o:=fun o=>cel_same (hb cb (.inl rfl))
 exact ⟨h.ring.of fun b e=>hb b (by rcases e with e | e; exact .inl e; exact .inr (.inr e)),by rw [hc]; exact h.d,by rw [hc]; exact h.sz,by rw [hc]; exact h.fast,by rw [hc]; exact h.has,h.map.of (hb mp (.inr (.inl rfl))),h.mpn,h.nodA⟩
theorem CaC.lt {H:Hp} {cb p mp:Nat} {size:Int} {row:List Ln} (h:CaC H cb p size row mp):∀ b,BlC cb mp row b→b<H.size:=by
 rintro b (rfl | rfl | hb)
 · obtain ⟨c,g,_⟩:=h.ring.top; exact ZH g
 · exact h.map.lt
 · obtain ⟨x,hx,rfl⟩:=List.mem_map.1 hb
   obtain ⟨c,g,_⟩:=h.ring.lks x hx; exact ZH g
structure OfC (H:Hp) (cb p:Nat) (size:Int) (row:List Ln) (x:Ln) (mp:Nat):Prop where
 ring:RingAt H cb row
 lk:LkAt H x
 xn:x.b≠cb∧x.b ∉ row.map (·.b)∧mp≠x.b
 d:cel H cb 0=some (z6 p)
 sz:cel H cb 1=some (.int .i64 size)
 fast:cel H cb 2=some (.int .i64 (YW (row++[x])))
 has:cel H cb 1031=some (.map (some mp))
 map:MapAt H mp (fun k=>(Z5 (row++[x]) k).map fun x=>z6 x.b) (row.length+1)
 mpn:mp≠cb∧mp ∉ row.map (·.b)
 nodA:((row++[x]).map (·.at_)).Nodup
section
variable {H:Hp} {cb p mp:Nat} {size:Int} {R:Value→Hp→Prop}
theorem leave_c {l1 l2:List Ln} {x:Ln} (hc:CaC H cb p size (l1++x :: l2) mp) (k:∀ H',H'.size=H.size→Kp (BlC cb mp (l1++x :: l2)) H H'→OfC H' cb p size (l1++l2) x mp→R (.tuple #[]) H') :
   Fc Tryz.prog 104 #[z6 x.b] H R:=by
 have hno:=nod_mid hc.ring.nod
 have hxo:x.b ∉ (l1++l2).map (·.b):=fun hm=>by
   rw [List.map_append,List.mem_append] at hm
   rcases hm with h1 | h1
   · exact hno.1 h1
   · exact hno.2.1 h1
 have hB:∀ b,b∈(l1++l2).map (·.b)→b∈(l1++x :: l2).map (·.b):=fun b hb=>by
   simp only [List.map_append,List.map_cons,List.mem_append,List.mem_cons] at hb ⊢
   rcases hb with h1 | h1
   · exact .inl h1
   · exact .inr (.inr h1)
 have hA:=hc.nodA
 have hfx:=findA_mid hA
 have hAo:((l1++l2++[x]).map (·.at_)).Nodup:=by
   simp only [List.map_append,List.map_cons,List.map_nil,List.nodup_append,List.nodup_cons,List.mem_cons,List.mem_append,List.append_assoc] at hA ⊢
   obtain ⟨a1,⟨a2,a3⟩,a4⟩:=hA
   refine ⟨a1,⟨a3,⟨by simp,List.nodup_nil⟩,fun a ha b hb e=>?_⟩,fun a ha b hb=>?_⟩
   · rcases hb with rfl | hb
     · subst e; exact a2 ha
     · simp at hb
   · rcases hb with h1 | h1
     · exact a4 a ha b (.inr h1)
     · rcases h1 with h1 | h1
       · exact a4 a ha b (.inl h1)
       · simp at h1
 have hfa:∀ k,Z5 (l1++l2++[x]) k=Z5 (l1++x :: l2) k:=fun k=>by
   have h2:=findA_mid hAo
   by_cases hk:k=x.at_
   · subst hk; rw [h2.1,hfx.1]
   · rw [h2.2 k hk,hfx.2 k hk,List.append_nil]
 refine leave_ok hc.ring fun H2 hs2 hr2=>k H2 hs2.size (hs2.kp.mono fun b _ hb=>?_) ⟨hr2,?_,⟨hno.2.2,hxo,fun e=>hc.mpn.2 (by rw [e]; simp)⟩,?_,?_,?_,?_,?_,⟨hc.mpn.1,fun hm=>hc.mpn.2 (hB _ hm)⟩,hAo⟩
 · rcases hb with h1 | h1
   · exact .inl h1
   · exact .inr (.inr (hB b h1))
 · obtain ⟨c,gx,kx⟩:=hc.ring.lks x (by simp)
   exact ⟨c,by rw [hs2.blk x.b hno.2.2 hxo]; exact gx,kx⟩
 · rw [hs2.top 0 (by omega) (by omega)]; exact hc.d
 · rw [hs2.top 1 (by omega) (by omega)]; exact hc.sz
 · rw [hs2.top 2 (by omega) (by omega),hc.fast]
   simp only [fastN_app,fastN_cons]
   have:YW []=0:=rfl
   rw [this]
   congr 2; omega
 · rw [hs2.top 1031 (by omega) (by omega)]; exact hc.has
 · have hm:=hc.map.of (H':=H2) (hs2.blk mp hc.mpn.1 fun hm=>hc.mpn.2 (hB _ hm))
   have:(l1++x :: l2).length=(l1++l2).length+1:=by simp; omega
   rw [this] at hm
   exact hm.congr fun k=>by rw [hfa k]
theorem last_c {row:List Ln} {x:Ln} (ho:OfC H cb p size row x mp) (k:∀ H',H'.size=H.size→Kp (BlC cb mp (row++[x])) H H'→CaC H' cb p size (row++[x]) mp→R (.tuple #[]) H') :
   Fc Tryz.prog 105 #[z6 cb,z6 x.b] H R:=by
 refine last_ok ho.ring ho.lk ho.xn.1 ho.xn.2.1 fun H2 hs2 hr2=>k H2 hs2.size (hs2.kp.mono fun b _ hb=>?_) ⟨hr2,?_,?_,?_,?_,?_,⟨ho.mpn.1,fun hm=>?_⟩,ho.nodA⟩
 · rcases hb with h1 | h1
   · exact .inl h1
   · exact .inr (.inr h1)
 · rw [hs2.top 0 (by omega) (by omega)]; exact ho.d
 · rw [hs2.top 1 (by omega) (by omega)]; exact ho.sz
 · rw [hs2.top 2 (by omega) (by omega)]; exact ho.fast
 · rw [hs2.top 1031 (by omega) (by omega)]; exact ho.has
 · have hno:mp ∉ (row++[x]).map (·.b):=fun hm=>by
     rw [List.map_append,List.mem_append] at hm
     rcases hm with h1 | h1
     · exact ho.mpn.2 h1
     · simp only [List.map_cons,List.map_nil,List.mem_singleton] at h1; exact ho.xn.2.2 h1
   have hm:=ho.map.of (H':=H2) (hs2.blk mp ho.mpn.1 hno)
   rw [List.length_append]; exact hm
 · rw [List.map_append,List.mem_append] at hm
   rcases hm with h1 | h1
   · exact ho.mpn.2 h1
   · simp only [List.map_cons,List.map_nil,List.mem_singleton] at h1; exact ho.xn.2.2 h1
theorem room_c {row:List Ln} (hc:CaC H cb p size row mp) (hsz:size≤4611686018427387904)
   (k0:roomP size (row.map Ln.pl)=none→R (.bool false) H)
   (k1:∀ H' row',H'.size=H.size→Kp (BlC cb mp row) H H'→CaC H' cb p size row' mp→roomP size (row.map Ln.pl)=some (row'.map Ln.pl)→(∀ y∈row',y∈row)→R (.bool true) H') :
   Fc Tryz.prog 106 #[z6 cb] H R:=by
 refine room_ok hc hsz (fun h=>k0 (by unfold roomP; rw [fastP_map,if_pos h])) (fun h1 h2=>k1 H row rfl (Kp.refl _ _) hc (by unfold roomP; rw [fastP_map,if_neg (by omega),List.length_map,if_pos h2]) fun y hy=>hy)
   fun H' l1 x l2 h1 h2 h3 h4 h5 hs hk hc'=>k1 H' (l1++l2) hs hk hc' ?_ fun y hy=>?_
 · unfold roomP
   rw [fastP_map,if_neg (by omega),List.length_map,if_neg (by omega),h3,List.map_append,List.map_cons]
   rw [eraseP_mid (fun y hy=>?_) (by simp [Ln.pl,h5]),List.map_append]
   obtain ⟨z,hz,rfl⟩:=List.mem_map.1 hy
   simp [Ln.pl,h4 z hz]
 · rw [h3]
   rcases List.mem_append.1 hy with h | h
   · exact List.mem_append_left _ h
   · exact List.mem_append_right _ (List.mem_cons_of_mem _ h)
end
noncomputable def zLk:Array Value:=aggOf (zD Tryz.prog 191)
set_option maxRecDepth 100000 in
theorem zeroLk:zD Tryz.prog 191=some (.agg zLk):=by kernel_rfl
set_option maxRecDepth 100000 in
theorem zLk_size:zLk.size=1028:=by kernel_rfl
set_option maxRecDepth 100000 in
theorem zLk_fast:zLk[1025]?=some (.bool false):=by kernel_rfl
set_option maxRecDepth 100000 in
theorem plLk:placesE Tryz.prog 191=some [(0,1),(1,1024),(1025,1),(1026,1),(1027,1)]:=by kernel_rfl
noncomputable def lkNew0 (a:Int):Array Value:=zZ zLk 0 #[.int .i64 a]
noncomputable def lkNew (a:Int) (d:Blk):Array Value:=zZ (lkNew0 a) 1 d
theorem lkNew0_size (a:Int):(lkNew0 a).size=1028:=by unfold lkNew0; rw [z7 (by rw [zLk_size]; simp),zLk_size]
theorem lkNew0_get (a:Int) (j:Nat):(lkNew0 a)[j]?=if j=0 then some (.int .i64 a) else zLk[j]?:=by
 unfold lkNew0
 rw [zU (by rw [zLk_size]; simp)]
 by_cases h:j=0
 · subst h; simp
 · rw [if_neg (by omega),if_neg (by simp; omega),if_neg h]
theorem lkNew_c (a:Int) {d:Blk} (hd:IsB d) (b:Nat):LkC (lkNew a d) ⟨b,a,d,false⟩:=by
 have hs:=lkNew0_size a
 have h1:1+d.size≤(lkNew0 a).size:=by rw [hd.size,hs]; omega
 refine ⟨by unfold lkNew; rw [z7 h1,hs],?_,?_,?_,hd⟩
 · unfold lkNew; rw [zU h1,if_pos (by omega),lkNew0_get]; rfl
 · exact Yb (n:=1024) (by rw [hs]; omega) hd.size
 · unfold lkNew; rw [zU h1,if_neg (by omega),if_neg (by rw [hd.size]; omega),lkNew0_get]; exact zLk_fast
theorem build_lk0 {a:Int}:zu Tryz.prog 191 [(0,.int .i64 a)]=some (.agg (lkNew0 a)):=by
 refine Yo zeroLk plLk ?_
 exact Z9 rfl rfl (by rw [zLk_size]; omega) rfl
theorem build_lk {a:Int} {d:Blk} (hd:IsB d):zu Tryz.prog 191 [(0,.int .i64 a),(1,.agg d)]=some (.agg (lkNew a d)):=by
 refine Yo zeroLk plLk ?_
 refine Z9 rfl rfl (by rw [zLk_size]; omega) ?_
 exact Z9 rfl hd.size (by have:=lkNew0_size a; unfold lkNew0 at this; rw [cells_int,this]; omega) rfl
structure CacheAt (H:Hp) (cb p:Nat) (size:Int) (cs:List Pl) (O:Nat→Prop):Prop where
 is:∃ row mp,CaC H cb p size row mp∧row.map Ln.pl=cs∧(∀ b,BlC cb mp row b→O b)
 lt:∀ b,O b→b<H.size
theorem CacheAt.of {H H':Hp} {cb p:Nat} {size:Int} {cs:List Pl} {O:Nat→Prop} (h:CacheAt H cb p size cs O) (hb:∀ b,O b→H'[b]?=H[b]?) (hle:H.size≤H'.size):CacheAt H' cb p size cs O:=by
 obtain ⟨⟨row,mp,h1,h2,h3⟩,hl⟩:=h
 exact ⟨⟨row,mp,h1.of fun b e=>hb b (h3 b e),h2,h3⟩,fun b ho=>Nat.lt_of_lt_of_le (hl b ho) hle⟩
theorem CacheAt.ext {H H':Hp} {cb p:Nat} {size:Int} {cs:List Pl} {O:Nat→Prop} (h:CacheAt H cb p size cs O) (hx:Ext H H'):CacheAt H' cb p size cs O:=h.of (fun b ho=>hx.same b (h.lt b ho)) hx.le
theorem CacheAt.kp {H H':Hp} {cb p:Nat} {size:Int} {cs:List Pl} {O S:Nat→Prop} (h:CacheAt H cb p size cs O) (hk:Kp S H H') (hs:∀ b,O b→¬ S b):CacheAt H' cb p size cs O:=h.of (fun b ho=>hk.same b (h.lt b ho) (hs b ho)) hk.le
def readC (size:Int) (s:DS) (cs:List Pl) (a:Int):DS × List Pl × Blk × Int:=
 if s.wrong a≠0 then (s,cs,zB,s.wrong a) else
   match yj cs a with
   | some x=>(s,outP cs a++[x],x.data,0)
   | none=>match roomP size cs with
     | none=>(s,cs,zB,160)
     | some cs1=>((s.read a).1,cs1++[⟨a,s.now a,false⟩],s.now a,0)
theorem findA_not {row:List Ln} {k:Int} (h:Z5 row k=none):k ∉ row.map (·.at_):=by
 unfold Z5 at h
 rw [List.find?_eq_none] at h
 intro hm
 obtain ⟨x,hx,he⟩:=List.mem_map.1 hm
 have:=h x hx
 simp [he] at this
theorem not_findA {row:List Ln} {k:Int} (h:k ∉ row.map (·.at_)):Z5 row k=none:=by
 unfold Z5
 rw [List.find?_eq_none]
 intro x hx
 simp only [beq_iff_eq]
 exact fun e=>h (List.mem_map.2 ⟨x,hx,e⟩)
theorem findA_snoc {row:List Ln} {x:Ln} (h:x.at_ ∉ row.map (·.at_)) (k:Int):Z5 (row++[x]) k=if k=x.at_ then some x else Z5 row k:=by
 unfold Z5
 rw [List.find?_append]
 by_cases hk:k=x.at_
 · subst hk
   have:=not_findA h
   unfold Z5 at this
   rw [this]; simp
 · rw [if_neg hk]
   have h2:(x.at_ == k)=false:=beq_eq_false_iff_ne.2 fun e=>hk e.symm
   have:[x].find? (fun y=>y.at_ == k)=none:=by rw [List.find?_cons,h2]; rfl
   rw [this]; simp
theorem outP_split {l1 l2:List Ln} {x:Ln} (h:∀ y∈l1,y.at_≠x.at_):outP ((l1++x :: l2).map Ln.pl) x.at_=(l1++l2).map Ln.pl:=by
 unfold outP
 rw [List.map_append,List.map_cons,eraseP_mid (fun y hy=>?_) (by simp [Ln.pl]),List.map_append]
 obtain ⟨z,hz,rfl⟩:=List.mem_map.1 hy
 simpa [Ln.pl] using h z hz
theorem new_link {H H1 H2:Hp} {cb p mp:Nat} {size:Int} {row:List Ln} {x:Ln} {c:Array Value} (hc:CaC H cb p size row mp) (hx:Ext H H1) (hb:H.size≤x.b) (g:H1[x.b]?=some (.cells c 191)) (kx:LkC c x) (hf:x.fast=false) (ha:Z5 row x.at_=none)
   (k2:Kp (·=mp) H1 H2) (s2:H2.size=H1.size) (m2:MapAt H2 mp (updM (fun k=>(Z5 row k).map fun x=>z6 x.b) x.at_ (some (z6 x.b))) (if (Z5 row x.at_).map (fun x=>z6 x.b)=none then row.length+1 else row.length)):OfC H2 cb p size row x mp:=by
 have hbl:∀ b,b=cb∨b∈row.map (·.b)→H2[b]?=H[b]?:=fun b hb=>by
   have hlt:b<H.size:=hc.lt b (by rcases hb with e | e; exact .inl e; exact .inr (.inr e))
   rw [k2.all s2 (fun e=>by
     rcases hb with h1 | h1
     · exact hc.mpn.1 (e ▸ h1)
     · exact hc.mpn.2 (e ▸ h1)),hx.same b hlt]
 have hcb:=hc.lt cb (.inl rfl)
 have hmp:=hc.lt mp (.inr (.inl rfl))
 have hcl:∀ o,cel H2 cb o=cel H cb o:=fun o=>cel_same (hbl cb (.inl rfl))
 have hat:=findA_not ha
 refine ⟨hc.ring.of hbl,⟨c,k2.at g (fun e=>by omega),kx⟩,⟨by omega,fun hm=>?_,by omega⟩,by rw [hcl]; exact hc.d,by rw [hcl]; exact hc.sz,?_,by rw [hcl]; exact hc.has,?_,hc.mpn,?_⟩
 · have:=hc.lt x.b (.inr (.inr hm)); omega
 · rw [hcl,hc.fast,fastN_app,fastN_cons,hf]
   have:YW []=0:=rfl
   rw [this]; simp
 · have:(if (Z5 row x.at_).map (fun x=>z6 x.b)=none then row.length+1 else row.length)=row.length+1:=by rw [ha]; rfl
   rw [this] at m2
   refine m2.congr fun k=>?_
   rw [findA_snoc hat]
   unfold updM
   split <;> rfl
 · rw [List.map_append,List.nodup_append]
   refine ⟨hc.nodA,by simp,fun a ha b hb e=>?_⟩
   simp only [List.map_cons,List.map_nil,List.mem_singleton] at hb
   subst hb; subst e; exact hat ha
theorem zeroLkP:zD Tryz.prog 189=some (.pointer none):=by kernel_rfl
theorem DS.read_ok {s:DS} {a:Int} (h:s.wrong a=0):(s.read a).2.1=s.now a∧(s.read a).2.2=0:=by
 unfold DS.wrong at h
 unfold DS.read
 by_cases h1:s.stopped=true
 · rw [if_pos h1] at h; cases h
 · rw [if_neg h1] at h ⊢
   by_cases h2:a<0∨s.n≤a
   · rw [if_pos h2] at h; cases h
   · rw [if_neg h2]; exact ⟨rfl,rfl⟩
section
variable {H:Hp} {cb p:Nat} {size:Int} {cs:List Pl} {s:DS} {Od Oc:Nat→Prop} {R:Value→Hp→Prop}
set_option maxHeartbeats 2000000 in
theorem cache_read (hd:DiskAt H p s Od) (hc:CacheAt H cb p size cs Oc) (dis:∀ b,Od b→¬ Oc b) (hr:s.reads<4611686018427387904∧0≤s.reads) (hsz:size≤4611686018427387904) {a:Int}
   (k:∀ H' Oc',Kp (fun b=>Od b∨Oc b) H H'→(∀ b,Oc' b→Oc b∨H.size≤b)→DiskAt H' p (readC size s cs a).1 Od→CacheAt H' cb p size (readC size s cs a).2.1 Oc' →
     R (.tuple #[.agg (readC size s cs a).2.2.1,.int .i64 (readC size s cs a).2.2.2]) H') :
   Fc Tryz.prog 68 #[z6 cb,.int .i64 a] H R:=by
 refine fn68 ?_
 simp only [sh68,ya,za]
 refine yc fun b H1 hb e1 s1 g1=>?_
 simp only [zP] at g1
 have hd1:=hd.ext e1
 have hc1:=hc.ext e1
 have hbd:¬ Od b:=fun ho=>by have:=hd.lt b ho; omega
 have hbc:¬ Oc b:=fun ho=>by have:=hc.lt b ho; omega
 have out:∀ (H2:Hp) (c:Blk) (e:Int) (s':DS) (cs':List Pl) (Oc':Nat→Prop),Kp (fun b=>Od b∨Oc b) H1 H2→(∀ b,Oc' b→Oc b∨H1.size≤b)→DiskAt H2 p s' Od→CacheAt H2 cb p size cs' Oc'→(∃ c0,H2[b]?=some (.cells c0 94)∧c0.size=1024)→IsB c→readC size s cs a=(s',cs',c,e) →
     Pu (zj (some 1024) (.pointer (some ⟨b,0,none⟩)) (.agg c) H2) fun H3=>Pu (zb (some (some 1024)) (.pointer (some ⟨b,0,none⟩)) H3) fun x6=>R (.tuple #[x6,.int .i64 e]) H3:=by
   intro H2 c e s' cs' Oc' hk hn hd2 hc2 ⟨c0,g2,hc0⟩ hcB heq
   refine Zb g2 hc0 hcB.size hcB.ok fun H3 k3 s3 g3=>?_
   rw [zV g3 hcB.size,za]
   have hkk:Kp (fun b=>Od b∨Oc b) H H3:=⟨Nat.le_trans e1.le (Nat.le_trans hk.le k3.le),fun j hj hn=>by rw [k3.same j (Nat.lt_of_lt_of_le hj (Nat.le_trans e1.le hk.le)) (by omega),hk.same j (Nat.lt_of_lt_of_le hj e1.le) hn,e1.same j hj]⟩
   have:=k H3 Oc' hkk (fun j hj=>by
     rcases hn j hj with h1 | h1
     · exact .inl h1
     · exact .inr (by omega))
   rw [heq] at this
   have hbc':¬ Oc' b:=fun ho=>by
     rcases hn b ho with h1 | h1
     · exact hbc h1
     · omega
   exact this (hd2.kp k3 fun j hj e=>hbd (e ▸ hj)) (hc2.kp k3 fun j hj e=>hbc' (e ▸ hj))
 obtain ⟨⟨row,mp,hC,hpl,hO⟩,hlt⟩:=hc1
 refine cache_check hd1 hC ?_
 simp only [zw,za,zf]
 refine ⟨fun hw=>?_,fun hw=>?_⟩
 · simp only [YF,za]
   exact out H1 zB (s.wrong a) s cs Oc (Kp.refl _ _) (fun j hj=>.inl hj) hd1 ⟨⟨row,mp,hC,hpl,hO⟩,hlt⟩ ⟨_,g1,zJ⟩ Zn (by unfold readC; rw [if_pos hw])
 · have hw:s.wrong a=0:=Classical.not_not.1 hw
   simp only [zc,za,zi,Nat.zero_add,YU,hC.has]
   rw [map_look hC.map]
   have hBO:∀ j,BlC cb mp row j→¬ Od j:=fun j hj ho=>dis j ho (hO j hj)
   cases hfa:Z5 row a with
   | some x=>
     obtain ⟨l1,l2,hrow,hxa,hl1⟩:=findA_split hfa
     simp only [Option.map_some,lookO_some,mkOk,if_true,za,ze,List.getElem?_toArray,List.getElem?_cons_zero,List.getElem?_cons_succ,Zm]
     subst hrow
     refine leave_c hC fun H2 s2 k2 ho2=>?_
     refine last_c ho2 fun H3 s3 k3 hc3=>?_
     have hsub:∀ j,BlC cb mp (l1++l2++[x]) j→BlC cb mp (l1++x :: l2) j:=fun j hj=>by
       rcases hj with h1 | h1 | h1
       · exact .inl h1
       · exact .inr (.inl h1)
       · refine .inr (.inr ?_)
         simp only [List.map_append,List.map_cons,List.map_nil,List.mem_append,List.mem_cons,List.not_mem_nil,or_false] at h1 ⊢
         rcases h1 with (h1 | h1) | h1
         · exact .inl h1
         · exact .inr (.inr h1)
         · exact .inr (.inl h1)
     have k13:Kp (BlC cb mp (l1++x :: l2)) H1 H3:=k2.tr k3 (fun j _ h=>h) fun j _ h=>hsub j h
     obtain ⟨c,gx,kx⟩:=hc3.ring.lks x (by simp)
     have hrow2:zb (some (some 1024)) (.pointer (some ⟨x.b,1,none⟩)) H3=some (.agg x.data):=by
       rw [Zp gx (by rw [kx.size]; omega)]; rw [show (1+1024:Nat)=1025 from rfl,kx.data]
     simp only [zc,za,zi,Nat.zero_add,hrow2]
     have gb3:=k13.at g1 fun hj=>hbc (hO b hj)
     refine out H3 x.data 0 s (outP cs a++[x.pl]) Oc (k13.mono fun j _ hj=>.inr (hO j hj)) (fun j hj=>.inl hj) (hd1.kp k13 fun j hj h=>hBO j h hj) ⟨⟨_,mp,hc3,?_,fun j hj=>hO j (hsub j hj)⟩,fun j hj=>by rw [s3,s2]; exact hlt j hj⟩ ⟨_,gb3,zJ⟩ kx.isB ?_
     · rw [List.map_append,← hpl,← hxa,outP_split fun y hy=>by rw [hxa]; exact hl1 y hy]; rfl
     · unfold readC
       rw [if_neg (by rw [hw]; exact fun h=>h rfl),← hpl,findP_map,hfa]
       rfl
   | none=>
     simp only [Option.map_none,zeroLkP,lookO_none,mkOk,if_true,za,ze,List.getElem?_toArray,List.getElem?_cons_zero,List.getElem?_cons_succ,zn]
     refine room_c hC hsz (fun hn=>?_) (fun H7 row' s7 k7 hc7 hrm hsub=>?_)
     · simp only [zT,za,Bool.not_false,Zm,YF]
       refine out H1 zB 160 s cs Oc (Kp.refl _ _) (fun j hj=>.inl hj) hd1 ⟨⟨row,mp,hC,hpl,hO⟩,hlt⟩ ⟨_,g1,zJ⟩ Zn ?_
       unfold readC
       rw [if_neg (by rw [hw]; exact fun h=>h rfl),← hpl,findP_map,hfa,Option.map_none,hn]
     · have hBs:∀ j,BlC cb mp row' j→BlC cb mp row j:=fun j hj=>by
         rcases hj with h1 | h1 | h1
         · exact .inl h1
         · exact .inr (.inl h1)
         · obtain ⟨y,hy,rfl⟩:=List.mem_map.1 h1
           exact .inr (.inr (List.mem_map.2 ⟨y,hsub y hy,rfl⟩))
       simp only [zT,za,Bool.not_true,zn,hc7.d]
       have hd7:DiskAt H7 p s Od:=hd1.kp k7 fun j hj h=>hBO j h hj
       obtain ⟨hr1,hr2⟩:=DS.read_ok hw
       refine disk_read hd7 hr fun H9 st9 hd9=>?_
       rw [hr1,hr2]
       have hnow:=hd7.now_is a
       simp only [ze,List.getElem?_toArray,List.getElem?_cons_zero,List.getElem?_cons_succ,za,ya]
       refine yc fun b10 H10 hb10 e10 s10 g10=>?_
       simp only [zP] at g10
       refine Zb g10 zJ hnow.size hnow.ok fun H11 k11 s11 g11=>?_
       have e911:Ext H9 H11:=(e10.kp (·=b10)).trans k11 |>.ext fun k hk e=>by omega
       simp only [zw,za,show decide ((0:Int)≠0)=false from rfl,zn,zV g11 hnow.size,build_lk hnow]
       have hc11:CaC H11 cb p size row' mp:=hc7.of fun j hj=>by
         rw [e911.same j (Nat.lt_of_lt_of_le (hc7.lt j hj) st9.kp.le),st9.kp.same j (hc7.lt j hj) (hBO j (hBs j hj))]
       have hd11:=hd9.ext e911
       refine yc fun b13 H13 hb13 e13 s13 g13=>?_
       simp only [zP] at g13
       have hm13:cel H13 cb 1031=some (.map (some mp)):=by
         rw [cel_same (e13.same cb (hc11.lt cb (.inl rfl)))]; exact hc11.has
       simp only [hm13,za]
       refine mapSet_i (hc11.map.ext e13) fun H14 k14 s14 m14=>?_
       have hfa':Z5 row' a=none:=not_findA fun hm=>by
         obtain ⟨y,hy,he⟩:=List.mem_map.1 hm
         exact findA_not hfa (List.mem_map.2 ⟨y,hsub y hy,he⟩)
       have hof:OfC H14 cb p size row' ⟨b13,a,s.now a,false⟩ mp:=new_link (x:=⟨b13,a,s.now a,false⟩) hc11 e13 (Nat.le_of_eq hb13) g13 (lkNew_c a hnow b13) rfl hfa' k14 s14 m14
       refine last_c hof fun H15 s15 k15 hc15=>?_
       have l1:=st9.kp.le
       have l2:=e911.le
       have l3:=e13.le
       have hB15:∀ j,BlC cb mp (row'++[⟨b13,a,s.now a,false⟩]) j→BlC cb mp row' j∨j=b13:=fun j hj=>by
         rcases hj with h1 | h1 | h1
         · exact .inl (.inl h1)
         · exact .inl (.inr (.inl h1))
         · rw [List.map_append,List.mem_append] at h1
           rcases h1 with h1 | h1
           · exact .inl (.inr (.inr h1))
           · exact .inr (by simpa using h1)
       have hmO:Oc mp:=hO mp (.inr (.inl rfl))
       have kk:Kp (fun b=>Od b∨Oc b) H1 H15:=by
         refine ⟨by omega,fun j hj hn=>?_⟩
         have hj11:j<H11.size:=by omega
         have q1:¬ BlC cb mp row' j:=fun h=>hn (.inr (hO j (hBs j h)))
         rw [k15.same j (by omega) (fun h=>by
           rcases hB15 j h with h1 | h1
           · exact q1 h1
           · omega),k14.same j (by omega) (fun e=>hn (.inr (e ▸ hmO))),e13.same j hj11,e911.same j (by omega),st9.kp.same j (by omega) (fun h=>hn (.inl h)),k7.same j hj fun h=>hn (.inr (hO j h))]
       have gb:∃ c0,H15[b]?=some (.cells c0 94)∧c0.size=1024:=⟨_,kk.at g1 (fun h=>by rcases h with h | h; exact hbd h; exact hbc h),zJ⟩
       have hb10b:∀ j,BlC cb mp row' j→j≠b10:=fun j hj e=>by have:=hc7.lt j hj; omega
       have hb13b:b13≠b10:=by omega
       have g15:H15[b10]?=some (.cells (s.now a) 94):=by
         rw [k15.same b10 (by omega) (fun h=>by
           rcases hB15 b10 h with h1 | h1
           · exact hb10b b10 h1 rfl
           · omega),k14.same b10 (by omega) (fun e=>hb10b mp (.inr (.inl rfl)) e.symm),e13.same b10 (by omega)]
         exact g11
       simp only [zV g15 hnow.size,za]
       have hd15:DiskAt H15 p (s.read a).1 Od:=by
         refine hd11.of (fun j hj=>?_) (by omega)
         have hjl:=hd11.lt j hj
         rw [k15.same j (by omega) (fun h=>by
           rcases hB15 j h with h1 | h1
           · exact hBO j (hBs j h1) hj
           · omega),k14.same j (by omega) (fun e=>hBO mp (.inr (.inl rfl)) (e ▸ hj)),e13.same j hjl]
       refine out H15 (s.now a) 0 (s.read a).1 (row'.map Ln.pl++[⟨a,s.now a,false⟩]) (fun j=>Oc j∨j=b13) kk (fun j hj=>?_) hd15 ⟨⟨_,mp,hc15,by rw [List.map_append]; rfl,fun j hj=>?_⟩,fun j hj=>?_⟩ gb hnow ?_
       · rcases hj with h1 | h1
         · exact .inl h1
         · exact .inr (by omega)
       · rcases hB15 j hj with h1 | h1
         · exact .inl (hO j (hBs j h1))
         · exact .inr h1
       · rcases hj with h1 | h1
         · have:=hlt j h1; omega
         · omega
       · unfold readC
         rw [if_neg (by rw [hw]; exact fun h=>h rfl),← hpl,findP_map,hfa,Option.map_none,hrm]
end
def DS.new (n:Int):DS:=⟨n,fun _=>zB,fun _=>zB,-1,false,0,0,0,0,0,0⟩
theorem build_disk (n:Int) (a b:Nat):zu Tryz.prog 112 [(0,.int .i64 n),(1,.map (some a)),(2,.map (some b)),(5,.int .i64 (-1))]=some (.agg (dkC (DS.new n) a b (.slice none 0 0) (.slice none 0 0))):=by kernel_rfl
theorem rowB:IntRow Tryz.prog 94 1024 .u8:=⟨⟨5,by kernel_rfl,by kernel_rfl,by kernel_rfl,by kernel_rfl⟩,by kernel_rfl⟩
theorem eqZ_false {c:Blk} (hc:IsB c) (hne:c≠zB) {lit:Bool} {H:Hp}:yH Tryz.prog 94 lit .eql (.agg c) (.agg zB) H=some (.bool false):=by
 rw [eqXE_eql,eqB_false rowB hc Zn hne]; rfl
theorem Ext.kpn {H H1 H2:Hp} {b:Nat} (h:Ext H H1) (k:Kp (·=b) H1 H2) (hb:H.size≤b):Ext H H2:=(h.kp (·=b)).trans k |>.ext fun j hj e=>by omega
section
variable {H:Hp} {R:Value→Hp→Prop}
theorem disk_newC {n:Int} (h1:1≤n) (h2:n≤1048576) (k:∀ H' p a b,Ext H H'→H.size≤a→a<b→b<p→p+1=H'.size→H'[p]?=some (.cells (dkC (DS.new n) a b (.slice none 0 0) (.slice none 0 0)) 112)→MapAt H' a (fun _=>none) 0→MapAt H' b (fun _=>none) 0→R (.tuple #[z6 p,.int .i64 0]) H'):Fc Tryz.prog 54 #[.int .i64 n] H R:=by
 refine fn54 ?_
 simp only [sh54,zt]
 refine zS.mk (fun x H'=>H'=H∧x.1=.bool false) ?_ ?_
 · rintro ⟨x,u⟩ H1 ⟨rfl,hx⟩
   simp only at hx
   subst hx
   simp only [zn]
   refine Yj fun a G1 ha x1 t1 f1=>?_
   refine Yj fun b G2 hb x2 t2 f2=>?_
   simp only [build_disk,za]
   refine yc fun p G3 hp x3 t3 f3=>?_
   simp only [zP] at f3
   exact k G3 p a b (x1.trans (x2.trans x3)) (by omega) (by omega) (by omega) (by omega) f3 (MapAt.new ((x2.trans x3).at f1)) (MapAt.new (x3.at f2))
 · simp only [zr,za,zf,zL]
   exact ⟨fun h=>absurd h (by omega),fun _=>⟨trivial,by simp; omega⟩⟩
theorem DkC.fresh {n:Int} {p a b nh:Nat} {f:Int→Option Blk} (h1:1≤n) (top:H[p]?=some (.cells (dkC (DS.new n) a b (.slice none 0 0) (.slice none 0 0)) 112)) (ma:MapAt H a (fun k=>(f k).map .agg) nh) (mb:MapAt H b (fun _=>none) 0)
   (hp:p≠a∧p≠b∧a≠b) (hb:∀ k c,f k=some c→IsB c) {g:Int→Blk} (hg:∀ k,g k=(f k).getD zB):DkC H p ⟨n,g,g,-1,false,0,0,0,0,0,0⟩ a b (.slice none 0 0) (.slice none 0 0) f (fun _=>none) nh 0 [] []:=
 { top:=top,amh:=ma,aml:=mb,aps:=Sv.nil _ _ _,ahs:=Sv.nil _ _ _,df:=hp,dps:=fun j e=>(by cases e),dhs:=fun j e=>(by cases e),bh:=hb,bl:=fun j c e=>(by cases e),bp:=fun x hx=>(by cases hx),now:=hg,held:=hg,wait:=rfl,pl:=rfl,hl:=rfl,pos:=h1 }
def okL (n:Int):Int→List (Int × Blk)→Prop
 | _,[]=>True
 | b,x :: l=>b<x.1∧x.1<n∧x.2≠zB∧IsB x.2∧okL n x.1 l
def fhL (l:List (Int × Blk)):Int→Option Blk:=l.foldl (fun f x=>fun k=>if k=x.1 then some x.2 else f k) fun _=>none
def heldL (l:List (Int × Blk)):Int→Blk:=l.foldl (fun g x=>updB g x.1 x.2) fun _=>zB
def DS.load (n:Int) (l:List (Int × Blk)):DS:=⟨n,heldL l,heldL l,-1,false,0,0,0,0,0,0⟩
theorem fhL_snoc (l:List (Int × Blk)) (x:Int × Blk):fhL (l++[x])=fun k=>if k=x.1 then some x.2 else fhL l k:=by unfold fhL; rw [List.foldl_append]; rfl
def befL (l:List (Int × Blk)) (b:Int):Nat→Int
 | 0=>b
 | j+1=>((l[j]?).map (·.1)).getD b
theorem okL_get {n:Int}:∀ {l:List (Int × Blk)} {b:Int} {i:Nat} {x:Int × Blk},okL n b l→l[i]?=some x→befL l b i<x.1∧x.1<n∧x.2≠zB∧IsB x.2
 | [],_,_,_,_,h=>by simp at h
 | y :: l,b,0,x,h,hi=>by
   simp only [List.getElem?_cons_zero,Option.some.injEq] at hi
   subst hi; exact ⟨h.1,h.2.1,h.2.2.1,h.2.2.2.1⟩
 | y :: l,b,i+1,x,h,hi=>by
   have:=okL_get (i:=i) h.2.2.2.2 (by simpa using hi)
   refine ⟨?_,this.2⟩
   have h1:=this.1
   cases i with
   | zero=>simpa [befL] using h1
   | succ j=>
     simp only [befL,List.getElem?_cons_succ] at h1 ⊢
     have hj:j<l.length:=by
       have:j+1<l.length:=by
         rcases Nat.lt_or_ge (j+1) l.length with h2 | h2
         · exact h2
         · rw [List.getElem?_cons_succ,List.getElem?_eq_none h2] at hi; cases hi
       omega
     simp only [List.getElem?_eq_getElem hj,Option.map_some,Option.getD_some] at h1 ⊢
     exact h1
theorem fhL_is {l:List (Int × Blk)} (h:∀ x∈l,IsB x.2):∀ k c,fhL l k=some c→IsB c:=by
 suffices ∀ (l:List (Int × Blk)) (f:Int→Option Blk),(∀ x∈l,IsB x.2)→(∀ k c,f k=some c→IsB c)→∀ k c,l.foldl (fun f x=>fun k=>if k=x.1 then some x.2 else f k) f k=some c→IsB c from
   this l _ h fun k c e=>by cases e
 intro l
 induction l with
 | nil=>intro f _ hf k c e; exact hf k c e
 | cons x l ih=>
   intro f h hf k c e
   refine ih _ (fun y hy=>h y (List.mem_cons_of_mem _ hy)) (fun k c e=>?_) k c e
   have e:(if k=x.1 then some x.2 else f k)=some c:=e
   split at e
   · injection e with e; subst e; exact h x List.mem_cons_self
   · exact hf k c e
theorem heldL_fh (l:List (Int × Blk)):∀ k,heldL l k=(fhL l k).getD zB:=by
 suffices ∀ (l:List (Int × Blk)) (g:Int→Blk) (f:Int→Option Blk),(∀ k,g k=(f k).getD zB)→∀ k,l.foldl (fun g x=>updB g x.1 x.2) g k=(l.foldl (fun f x=>fun k=>if k=x.1 then some x.2 else f k) f k).getD zB from
   this l _ _ fun k=>rfl
 intro l
 induction l with
 | nil=>intro g f h k; exact h k
 | cons x l ih=>
   intro g f h k
   refine ih _ _ (fun k=>?_) k
   show (if k=x.1 then x.2 else g k)=(if k=x.1 then some x.2 else f k).getD zB
   split
   · rfl
   · exact h k
theorem elH_und:Tryz.prog.underlying 37=some (.slice 98):=by kernel_rfl
theorem heldC_get {x:Int × Blk}:(zM x)[0]?=some (.int .i64 x.1):=by
 unfold zM; rw [Array.getElem?_append_left (by simp)]; rfl
theorem heldC_data {x:Int × Blk} (h:IsB x.2):(zM x).extract 1 (1+1024)=x.2:=by
 refine yv h.size (by rw [ZA h]; omega) fun j hj=>?_
 unfold zM
 rw [Array.getElem?_append_right (by simp)]
 congr 1
 simp
set_option maxHeartbeats 2000000 in
theorem disk_load {n:Int} {s:Value} {l:List (Int × Blk)} (h1:1≤n) (h2:n≤1048576) (hs:Sv 98 1025 H s (l.map zM)) (hl:okL n (-1) l) (hlen:l.length≤1048576)
   (k:∀ H' p,Ext H H'→DiskAt H' p (DS.load n l) (fun b=>H.size≤b∧b<H'.size)→R (.tuple #[z6 p,.int .i64 0]) H'):Fc Tryz.prog 21 #[.agg #[.int .i64 n,s]] H R:=by
 refine fn21 ?_
 simp only [sh21,zt]
 refine yc fun b H1 hb e1 s1 g1=>?_
 simp only [zP] at g1
 simp only [zi,Nat.zero_add,za,zq g1,List.getElem?_toArray,List.getElem?_cons_zero,List.getElem?_cons_succ]
 refine disk_newC h1 h2 fun H2 p ma mb e2 ha hab hbp hp top hma hmb=>?_
 have g2:=e2.at g1
 simp only [ze,List.getElem?_toArray,List.getElem?_cons_zero,List.getElem?_cons_succ,za,zw,show decide ((0:Int)≠0)=false from rfl,zn,zq g2]
 have e02:=e1.trans e2
 have hs2:=hs.ext e02
 rw [hs2.lenE elH_und,za,List.length_map]
 have hlB:∀ x∈l,IsB x.2:=fun x hx=>by
   obtain ⟨i,hi⟩:=List.mem_iff_getElem?.1 hx
   exact (okL_get hl hi).2.2.2
 refine zx.mk (fun t H'=>∃ (i nh:Nat),i≤l.length∧t.1=.int .i64 (befL l (-1) i)∧t.2.1=.int .i64 i∧Ext H H'∧H2.size≤H'.size∧H'[b]?=some (.cells #[.int .i64 n,s] 71) ∧
     H'[p]?=some (.cells (dkC (DS.new n) ma mb (.slice none 0 0) (.slice none 0 0)) 112)∧MapAt H' ma (fun k=>(fhL (l.take i) k).map .agg) nh∧MapAt H' mb (fun _=>none) 0)
   (fun t _=>match t.2.1 with | .int _ i=>((l.length:Int) - i).toNat | _=>0) ⟨0,0,by omega,rfl,rfl,e02,Nat.le_refl _,g2,top,hma,hmb⟩ ?_
 rintro ⟨t1,t2,u⟩ H3 ⟨i,nh,hi,hbe,hti,e3,l3,g3,top3,ma3,mb3⟩
 simp only at hbe hti
 subst hbe hti
 simp only [zr,za,zf]
 have sz1:=e2.le
 refine ⟨fun hlt=>?_,fun hge=>?_⟩
 · have hil:i<l.length:=by omega
   have hx:=List.getElem?_eq_getElem hil
   generalize l[i]=x at hx
   obtain ⟨ok1,ok2,ok3,ok4⟩:=okL_get hl hx
   have hs3:=hs.ext e3
   obtain ⟨bs,os,hadr,hrow⟩:=hs3.row (i:=i) (v:=zM x) (by rw [List.getElem?_map,hx]; rfl)
   simp only [hadr,za,hrow,zeroHeld]
   refine yc fun b4 H4 hb4 e4 s4 g4=>?_
   simp only [zP] at g4
   refine Zb g4 ZU (ZA ok4) (heldC_ok ok4) fun H5 k5 s5 g5=>?_
   have e35:Ext H3 H5:=e4.kpn k5 (by omega)
   generalize befL l (-1) i=before at ok1
   refine zS.mk (fun t H'=>H'=H5∧t.1=.bool false) ?_ ?_
   · rintro ⟨t,u⟩ H6 ⟨rfl,ht⟩
     simp only at ht
     subst ht
     have ld0:zb (some none) (.pointer (some ⟨b4,0,none⟩)) H6=some (.int .i64 x.1):=by rw [zq g5]; exact heldC_get
     have ld1:zb (some (some 1024)) (.pointer (some ⟨b4,1,none⟩)) H6=some (.agg x.2):=by rw [Zp g5 (by rw [ZA ok4]; omega),heldC_data ok4]
     simp only [zn,zc,za,zi,Nat.zero_add,zq (e35.at top3),Yn,ld0,ld1]
     refine mapSet_i (ma3.ext e35) fun H7 k7 s7 m7=>?_
     have hnb:b4≠ma:=by have:=ma3.lt; omega
     have ld7:zb (some none) (.pointer (some ⟨b4,0,none⟩)) H7=some (.int .i64 x.1):=by rw [zq (k7.at g5 hnb)]; exact heldC_get
     simp only [ld7,za,zk]
     rw [zg (by omega) (by omega)]
     refine ⟨⟨i+1,if Option.map Value.agg (fhL (l.take i) x.1)=none then nh+1 else nh,by omega,?_,rfl,(e3.trans e35).kpn k7 (by have:=e1.le; omega),by have:=e35.le; omega,k7.at (e35.at g3) (by omega),k7.at (e35.at top3) (by omega),?_,(mb3.ext e35).kp k7 (by omega)⟩,by show ((l.length:Int) - (i+1)).toNat<((l.length:Int) - i).toNat; omega⟩
     · show Value.int .i64 x.1=.int .i64 (((l[i]?).map (·.1)).getD (-1))
       rw [hx]; rfl
     · refine m7.congr fun k=>?_
       rw [List.take_add_one,hx]
       show Option.map Value.agg (fhL (l.take i++[x]) k)=_
       rw [fhL_snoc]
       unfold updM
       show Option.map Value.agg (if k=x.1 then some x.2 else fhL (l.take i) k)=_
       split <;> rfl
   · have ld0:zb (some none) (.pointer (some ⟨b4,0,none⟩)) H5=some (.int .i64 x.1):=by rw [zq g5]; exact heldC_get
     have ld1:zb (some (some 1024)) (.pointer (some ⟨b4,1,none⟩)) H5=some (.agg x.2):=by rw [Zp g5 (by rw [ZA ok4]; omega),heldC_data ok4]
     simp only [zi,Nat.zero_add,za,ld0,Yp,zq (e35.at g3),List.getElem?_toArray,List.getElem?_cons_zero,zQ,zf,ld1,YF,eqZ_false ok4 ok3]
     exact ⟨fun h=>absurd h (by omega),fun _=>⟨fun h=>absurd h (by omega),fun _=>⟨trivial,trivial⟩⟩⟩
 · have hil:i=l.length:=by omega
   subst hil
   rw [List.take_length] at ma3
   refine k H3 p e3 ⟨⟨ma,mb,_,_,fhL l,fun _=>none,nh,0,[],[],DkC.fresh h1 top3 ma3 mb3 ⟨by omega,by omega,by omega⟩ (fhL_is hlB) (heldL_fh l),⟨?_,?_⟩,⟨?_,?_⟩,⟨?_,?_⟩,fun j e=>(by cases e),fun j e=>(by cases e)⟩,fun j h=>h.2⟩
   all_goals (have:=e1.le; omega)
end
noncomputable def zCa:Array Value:=aggOf (zD Tryz.prog 193)
set_option maxRecDepth 100000 in
theorem zeroCa:zD Tryz.prog 193=some (.agg zCa):=by kernel_rfl
set_option maxRecDepth 100000 in
theorem zCa_size:zCa.size=1032:=by kernel_rfl
set_option maxRecDepth 100000 in
theorem zCa_fast:zCa[2]?=some (.int .i64 0):=by kernel_rfl
set_option maxRecDepth 100000 in
theorem plCa:placesE Tryz.prog 193=some [(0,1),(1,1),(2,1),(3,1028),(1031,1)]:=by kernel_rfl
noncomputable def caNew (p:Nat) (size:Int) (mp:Nat):Array Value:=zZ (zZ (zZ zCa 0 #[z6 p]) 1 #[.int .i64 size]) 1031 #[.map (some mp)]
theorem caNew_f (p:Nat) (size:Int) (mp:Nat):(caNew p size mp).size=1032∧(caNew p size mp)[0]?=some (z6 p)∧(caNew p size mp)[1]?=some (.int .i64 size)∧(caNew p size mp)[2]?=some (.int .i64 0)∧(caNew p size mp)[1031]?=some (.map (some mp)):=by
 have q1:(zZ zCa 0 #[z6 p]).size=1032:=by rw [z7 (by rw [zCa_size]; simp),zCa_size]
 have q2:(zZ (zZ zCa 0 #[z6 p]) 1 #[Value.int .i64 size]).size=1032:=by rw [z7 (by rw [q1]; simp),q1]
 have g:∀ j,(caNew p size mp)[j]?=if j=1031 then some (.map (some mp)) else if j=1 then some (.int .i64 size) else if j=0 then some (z6 p) else zCa[j]?:=fun j=>by
   unfold caNew
   rw [zU (by rw [q2]; simp),zU (by rw [q1]; simp),zU (by rw [zCa_size]; simp)]
   simp only [List.size_toArray,List.length_cons,List.length_nil]
   by_cases h1:j=1031
   · subst h1; simp
   · rw [if_neg h1]
     by_cases h2:j=1
     · subst h2; simp
     · rw [if_neg h2]
       by_cases h3:j=0
       · subst h3; simp
       · rw [if_neg h3]
         by_cases h4:j<1031
         · rw [if_pos h4,if_neg (by omega),if_neg (by omega),if_neg (by omega),if_neg (by omega)]
         · rw [if_neg h4,if_neg (by omega),if_neg (by omega),if_neg (by omega),if_neg (by omega),if_neg (by omega)]
 refine ⟨by unfold caNew; rw [z7 (by rw [q2]; simp),q2],?_,?_,?_,?_⟩
 · rw [g]; rfl
 · rw [g]; rfl
 · rw [g]; exact zCa_fast
 · rw [g]; rfl
theorem build_ca {p mp:Nat} {size:Int}:zu Tryz.prog 193 [(0,z6 p),(1,.int .i64 size),(4,.map (some mp))]=some (.agg (caNew p size mp)):=by
 refine Yo zeroCa plCa ?_
 have q1:(zZ zCa 0 (z6 p).cells).size=1032:=by rw [z7 (by rw [zCa_size]; simp [Value.cells]),zCa_size]
 have q2:(zZ (zZ zCa 0 (z6 p).cells) 1 (Value.int .i64 size).cells).size=1032:=by rw [z7 (by rw [q1]; simp [Value.cells]),q1]
 refine Z9 rfl rfl (by rw [zCa_size]; omega) ?_
 refine Z9 rfl rfl (by rw [q1]; omega) ?_
 exact Z9 rfl rfl (by rw [q2]; omega) rfl
section
variable {H:Hp} {p:Nat} {s:DS} {O:Nat→Prop} {R:Value→Hp→Prop}
theorem cache_new (hd:DiskAt H p s O) {size:Int} (h1:1≤size) (h2:size≤4096) (k:∀ H' cb,Ext H H'→CacheAt H' cb p size [] (fun b=>H.size≤b∧b<H'.size)→R (.tuple #[z6 cb,.int .i64 0]) H') :
   Fc Tryz.prog 56 #[z6 p,.int .i64 size] H R:=by
 refine fn56 ?_
 simp only [sh56,zt]
 refine disk_len hd ?_
 have hpos:0<s.n:=by
   obtain ⟨⟨_,_,_,_,_,_,_,_,_,_,h,_⟩,_⟩:=hd
   exact h.pos
 simp only [zy,za,zf]
 refine ⟨fun h=>absurd h (by omega),fun _=>?_⟩
 refine zS.mk (fun x H'=>H'=H∧x.1=.bool false) ?_ ?_
 · rintro ⟨x,u⟩ H1 ⟨rfl,hx⟩
   simp only at hx
   subst hx
   simp only [zn]
   refine Yj fun mp G1 hm x1 t1 f1=>?_
   simp only [build_ca,za]
   refine yc fun cb G2 hc x2 t2 f2=>?_
   simp only [zP] at f2
   obtain ⟨c1,c2,c3,c4,c5⟩:=caNew_f p size mp
   simp only [zc,za,zi,Nat.zero_add,Nat.reduceAdd]
   refine set_cel (n:=0) (v:=ptrN (cb,3)) f2 (by omega) rfl rfl fun G3 q3 f3=>?_
   refine set_cel (n:=0) (v:=ptrN (cb,3)) f3 (by rw [Array.size_setIfInBounds]; omega) rfl rfl fun G4 q4 f4=>?_
   have x14:Ext H1 G4:=⟨by rw [q4.size,q3.size]; exact (x1.trans x2).le,fun j hj=>by rw [q4.blk j (by omega),q3.blk j (by omega)]; exact (x1.trans x2).same j hj⟩
   have cc:∀ o,cel G4 cb o=if o=1030 then some (ptrN (cb,3)) else if o=1029 then some (ptrN (cb,3)) else (caNew p size mp)[o]?:=fun o=>by
     rw [q4.cel,q3.cel,cel_of f2]
     by_cases h1:o=1030
     · rw [if_pos ⟨rfl,h1⟩,if_pos h1]
     · rw [if_neg (fun e=>h1 e.2),if_neg h1]
       by_cases h2:o=1029
       · rw [if_pos ⟨rfl,h2⟩,if_pos h2]
       · rw [if_neg (fun e=>h2 e.2),if_neg h2]
   have hcm:mp≠cb:=by omega
   refine k G4 cb x14 ⟨⟨[],mp,⟨⟨⟨_,f4,by simpa using c1⟩,fun z hz=>(by cases hz),⟨?_,?_,trivial⟩,by simp⟩,?_,?_,?_,?_,?_,⟨hcm,by simp⟩,by simp⟩,rfl,?_⟩,fun j h=>h.2⟩
   · show cel G4 cb 1030=_
     rw [cc]; rfl
   · show cel G4 cb 1029=_
     rw [cc]; rfl
   · rw [cc]; exact c2
   · rw [cc]; exact c3
   · rw [cc]; exact c4
   · rw [cc]; exact c5
   · have m1:MapAt G4 mp (fun _=>none) 0:=MapAt.new (by rw [q4.blk mp hcm,q3.blk mp hcm]; exact x2.at f1)
     exact m1.congr fun k=>rfl
   · rintro j (h | h | h)
     · rw [q4.size,q3.size]; omega
     · rw [q4.size,q3.size]; omega
     · simp at h
 · simp only [zr,za,zf,zL]
   exact ⟨fun h=>absurd h (by omega),fun _=>⟨trivial,by simp; omega⟩⟩
end
end Go.Vc
namespace Go.Proofs
open Go.Vc
variable {H:Hp} {R:Value→Hp→Prop} {v0 v1 v2 v3 v4 v5 v6 v7 v8:Value}
end Go.Proofs
namespace Go.Vc
open Go.Proofs
end Go.Vc
namespace Go.Proofs
open Go.Vc
variable {H:Hp} {R:Value→Hp→Prop} {v0 v1 v2 v3 v4 v5 v6 v7 v8:Value}
set_option maxRecDepth 100000
def sh57 (v0:Value) (H:Hp) (R:Value→Hp→Prop):Prop:=
 Fc Tryz.prog 93 #[v0] H fun x1 H1=>
 Pu (zo (some (.int .i64)) .neq x1 (.int .i64 0)) fun x2=>
 Ite x2
 (R (.int .i64 0) H1)
 (Pu (zc v0) fun x3=>
 Pu (zd (some 9) x3) fun x4=>
 Pu (zb (some none) x4 H1) fun x5=>
 Pu (zo (some (.int .i64)) .add x5 (.int .i64 1)) fun x6=>
 Pu (zc v0) fun x7=>
 Pu (zd (some 9) x7) fun x8=>
 Pu (zj (some 1) x8 x6 H1) fun H2=>
 Pu (zc v0) fun x9=>
 Pu (zd (some 9) x9) fun x10=>
 Pu (zb (some none) x10 H2) fun x11=>
 Pu (zc v0) fun x12=>
 Pu (zd (some 10) x12) fun x13=>
 Pu (zj (some 1) x13 x11 H2) fun H3=>
 Pu (zc v0) fun x14=>
 Pu (zd (some 10) x14) fun x15=>
 Pu (zb (some none) x15 H3) fun x16=>
 R x16 H3)
theorem fn57 (h:sh57 v0 H R):Fc Tryz.prog 57 #[v0] H R:=
 zs (fun f=>[].contains f) .nil Tryz.func57 (args:=[v0]) (Eq.mp (by kernel_rfl:sh57 v0 H R=_) h)
def sh77 (v0 v1:Value) (H:Hp) (R:Value→Hp→Prop):Prop:=
 Fc Tryz.prog 93 #[v0] H fun x1 H1=>
 Pu (zo (some (.int .i64)) .eql x1 (.int .i64 0)) fun x2=>
 Ite x2
 (Pu (zo (some (.int .i64)) .gtr v1 (.int .i64 0)) fun x3=>
 Ite x3
 (Pu (zc v0) fun x4=>
 Pu (zd (some 10) x4) fun x5=>
 Pu (zb (some none) x5 H1) fun x6=>
 Pu (zo (some (.int .i64)) .eql x6 v1) fun x7=>
 R x7 H1)
 (R (.bool false) H1))
 (R (.bool false) H1)
theorem fn77 (h:sh77 v0 v1 H R):Fc Tryz.prog 77 #[v0,v1] H R:=
 zs (fun f=>[].contains f) .nil Tryz.func77 (args:=[v0,v1]) (Eq.mp (by kernel_rfl:sh77 v0 v1 H R=_) h)
def sh89 (v0:Value) (H:Hp) (R:Value→Hp→Prop):Prop:=
 Fc Tryz.prog 91 #[v0] H fun x1 H1=>
 Pu (zo (some (.int .i64)) .gtr x1 (.int .i64 0)) fun x2=>
 R x2 H1
theorem fn89 (h:sh89 v0 H R):Fc Tryz.prog 89 #[v0] H R:=
 zs (fun f=>[].contains f) .nil Tryz.func89 (args:=[v0]) (Eq.mp (by kernel_rfl:sh89 v0 H R=_) h)
def sh90 (v0:Value) (H:Hp) (R:Value→Hp→Prop):Prop:=
 Box 23 v0 H fun x1 H1=>
 Pu (zD Tryz.prog 74) fun x2=>Box 74 x2 H1 fun x3 H2=>
 zS (n:=1) (fun s3 H3=>Any fun _=>
 Ite s3.1
 (Pu (zu Tryz.prog 74 []) fun x6=>
 Pu (zj (some 9) x3 x6 H3) fun H4=>
 Pu (zb (some (some 9)) x3 H4) fun x7=>
 R (.tuple #[x7,(.int .i64 2)]) H4)
 (Pu (zb (some (some 3)) x1 H3) fun x8=>
 Pu (zd (some 1) x1) fun x9=>
 Pu (zb (some none) x9 H3) fun x10=>
 Pu (zo (some (.int .i64)) .add (.int .i64 1) x10) fun x11=>
 Pu (zu Tryz.prog 74 [(0,x8),(1,(.int .i64 1)),(2,x11)]) fun x12=>
 Pu (zD Tryz.prog 74) fun x13=>Box 74 x13 H3 fun x14 H5=>
 Pu (zj (some 9) x14 x12 H5) fun H6=>
 Pu (zd (some 2) x1) fun x15=>
 Pu (zb (some none) x15 H6) fun x16=>
 Pu (zo (some (.int .i64)) .add x16 (.int .i64 16)) fun x17=>
 Pu (zo (some (.int .i64)) .quo x17 (.int .i64 16)) fun x18=>
 Pu (zd (some 5) x14) fun x19=>
 Pu (zj (some 1) x19 x18 H6) fun H7=>
 Pu (zd (some 4) x14) fun x20=>
 Pu (zb (some none) x20 H7) fun x21=>
 Pu (zd (some 5) x14) fun x22=>
 Pu (zb (some none) x22 H7) fun x23=>
 Pu (zo (some (.int .i64)) .add x21 x23) fun x24=>
 Pu (zd (some 6) x14) fun x25=>
 Pu (zj (some 1) x25 x24 H7) fun H8=>
 Pu (zd (some 0) x1) fun x26=>
 Pu (zb (some none) x26 H8) fun x27=>
 Pu (zo (some (.int .i64)) .add x27 (.int .i64 8192)) fun x28=>
 Pu (zo (some (.int .i64)) .sub x28 (.int .i64 1)) fun x29=>
 Pu (zo (some (.int .i64)) .quo x29 (.int .i64 8192)) fun x30=>
 Pu (zd (some 7) x14) fun x31=>
 Pu (zj (some 1) x31 x30 H8) fun H9=>
 Pu (zd (some 6) x14) fun x32=>
 Pu (zb (some none) x32 H9) fun x33=>
 Pu (zd (some 7) x14) fun x34=>
 Pu (zb (some none) x34 H9) fun x35=>
 Pu (zo (some (.int .i64)) .add x33 x35) fun x36=>
 Pu (zd (some 8) x14) fun x37=>
 Pu (zj (some 1) x37 x36 H9) fun H10=>
 Pu (zd (some 8) x14) fun x38=>
 Pu (zb (some none) x38 H10) fun x39=>
 Pu (zd (some 0) x1) fun x40=>
 Pu (zb (some none) x40 H10) fun x41=>
 Pu (zo (some (.int .i64)) .geq x39 x41) fun x42=>
 Ite x42
 (Pu (zu Tryz.prog 74 []) fun x43=>
 Pu (zj (some 9) x3 x43 H10) fun H11=>
 Pu (zb (some (some 9)) x3 H11) fun x44=>
 R (.tuple #[x44,(.int .i64 2)]) H11)
 (Pu (zb (some (some 9)) x14 H10) fun x45=>
 Pu (zj (some 9) x3 x45 H10) fun H12=>
 Pu (zb (some (some 9)) x3 H12) fun x46=>
 R (.tuple #[x46,(.int .i64 0)]) H12)))
 (fun K46=>Pu (zd (some 1) x1) fun x48=>
 Pu (zb (some none) x48 H2) fun x49=>
 Pu (zo (some (.int .i64)) .lss x49 (.int .i64 32)) fun x50=>
 Ite x50
 (K46 ((.bool true),()) H2)
 (Pu (zd (some 1) x1) fun x51=>
 Pu (zb (some none) x51 H2) fun x52=>
 Pu (zo (some (.int .i64)) .gtr x52 (.int .i64 256)) fun x53=>
 Ite x53
 (K46 ((.bool true),()) H2)
 (Pu (zd (some 2) x1) fun x54=>
 Pu (zb (some none) x54 H2) fun x55=>
 Pu (zo (some (.int .i64)) .lss x55 (.int .i64 1)) fun x56=>
 Ite x56
 (K46 ((.bool true),()) H2)
 (Pu (zd (some 2) x1) fun x57=>
 Pu (zb (some none) x57 H2) fun x58=>
 Pu (zo (some (.int .i64)) .gtr x58 (.int .i64 65535)) fun x59=>
 Ite x59
 (K46 ((.bool true),()) H2)
 (Pu (zd (some 0) x1) fun x60=>
 Pu (zb (some none) x60 H2) fun x61=>
 Pu (zo (some (.int .i64)) .lss x61 (.int .i64 1)) fun x62=>
 Ite x62
 (K46 ((.bool true),()) H2)
 (Pu (zd (some 0) x1) fun x63=>
 Pu (zb (some none) x63 H2) fun x64=>
 Pu (zo (some (.int .i64)) .gtr x64 (.int .i64 1048576)) fun x65=>
 K46 (x65,()) H2))))))
theorem fn90 (h:sh90 v0 H R):Fc Tryz.prog 90 #[v0] H R:=
 zs (fun f=>[].contains f) (.seq .nil (.seq (.join [32] [5,6,7,8,9,10,11,12,13,14,15,16,17,18,19,20,21,22,23,24,25,26,27,28,29,30,31] .nil .nil) .nil)) Tryz.func90 (args:=[v0]) (Eq.mp (by kernel_rfl:sh90 v0 H R=_) h)
def sh140 (v0 v1:Value) (H:Hp) (R:Value→Hp→Prop):Prop:=
 Pu (zo (some (.int .i64)) .geq v0 (.int .i64 0)) fun x1=>
 Ite x1
 (Pu (zo (some (.int .i64)) .sub (.int .i64 1024) v1) fun x2=>
 Pu (zo (some (.int .i64)) .leq v0 x2) fun x3=>
 R x3 H)
 (R (.bool false) H)
theorem fn140 (h:sh140 v0 v1 H R):Fc Tryz.prog 140 #[v0,v1] H R:=
 zs (fun f=>[].contains f) .nil Tryz.func140 (args:=[v0,v1]) (Eq.mp (by kernel_rfl:sh140 v0 v1 H R=_) h)
def sh99 (v0 v1:Value) (H:Hp) (R:Value→Hp→Prop):Prop:=
 Box 94 v0 H fun x1 H1=>
 Fc Tryz.prog 140 #[v1,(.int .i64 2)] H1 fun x2 H2=>
 Pu (unE .not x2) fun x3=>
 Ite x3
 (R (.int .u16 0) H2)
 (Pu (zh (some (some 1024,1)) x1 v1) fun x4=>
 Pu (zb (some none) x4 H2) fun x5=>
 Pu (z9 (some (.int .u8)) (some (.int .u16)) x5) fun x6=>
 Pu (zo (some (.int .i64)) .add v1 (.int .i64 1)) fun x7=>
 Pu (zh (some (some 1024,1)) x1 x7) fun x8=>
 Pu (zb (some none) x8 H2) fun x9=>
 Pu (z9 (some (.int .u8)) (some (.int .u16)) x9) fun x10=>
 Pu (zo (some (.int .u16)) .shl x10 (.int .u64 8)) fun x11=>
 Pu (zo (some (.int .u16)) .or x6 x11) fun x12=>
 R x12 H2)
theorem fn99 (h:sh99 v0 v1 H R):Fc Tryz.prog 99 #[v0,v1] H R:=
 zs (fun f=>[].contains f) .nil Tryz.func99 (args:=[v0,v1]) (Eq.mp (by kernel_rfl:sh99 v0 v1 H R=_) h)
def sh100 (v0 v1:Value) (H:Hp) (R:Value→Hp→Prop):Prop:=
 Box 94 v0 H fun x1 H1=>
 Fc Tryz.prog 140 #[v1,(.int .i64 4)] H1 fun x2 H2=>
 Pu (unE .not x2) fun x3=>
 Ite x3
 (R (.int .u32 0) H2)
 (Pu (zh (some (some 1024,1)) x1 v1) fun x4=>
 Pu (zb (some none) x4 H2) fun x5=>
 Pu (z9 (some (.int .u8)) (some (.int .u32)) x5) fun x6=>
 Pu (zo (some (.int .i64)) .add v1 (.int .i64 1)) fun x7=>
 Pu (zh (some (some 1024,1)) x1 x7) fun x8=>
 Pu (zb (some none) x8 H2) fun x9=>
 Pu (z9 (some (.int .u8)) (some (.int .u32)) x9) fun x10=>
 Pu (zo (some (.int .u32)) .shl x10 (.int .u64 8)) fun x11=>
 Pu (zo (some (.int .u32)) .or x6 x11) fun x12=>
 Pu (zo (some (.int .i64)) .add v1 (.int .i64 2)) fun x13=>
 Pu (zh (some (some 1024,1)) x1 x13) fun x14=>
 Pu (zb (some none) x14 H2) fun x15=>
 Pu (z9 (some (.int .u8)) (some (.int .u32)) x15) fun x16=>
 Pu (zo (some (.int .u32)) .shl x16 (.int .u64 16)) fun x17=>
 Pu (zo (some (.int .u32)) .or x12 x17) fun x18=>
 Pu (zo (some (.int .i64)) .add v1 (.int .i64 3)) fun x19=>
 Pu (zh (some (some 1024,1)) x1 x19) fun x20=>
 Pu (zb (some none) x20 H2) fun x21=>
 Pu (z9 (some (.int .u8)) (some (.int .u32)) x21) fun x22=>
 Pu (zo (some (.int .u32)) .shl x22 (.int .u64 24)) fun x23=>
 Pu (zo (some (.int .u32)) .or x18 x23) fun x24=>
 R x24 H2)
theorem fn100 (h:sh100 v0 v1 H R):Fc Tryz.prog 100 #[v0,v1] H R:=
 zs (fun f=>[].contains f) .nil Tryz.func100 (args:=[v0,v1]) (Eq.mp (by kernel_rfl:sh100 v0 v1 H R=_) h)
def sh135 (v0:Value) (H:Hp) (R:Value→Hp→Prop):Prop:=
 Box 74 v0 H fun x1 H1=>
 Pu (zd (some 0) x1) fun x2=>
 Pu (zb (some (some 3)) x2 H1) fun x3=>
 Fc Tryz.prog 90 #[x3] H1 fun x4 H2=>
 Pu (ze x4 0) fun x5=>
 Pu (ze x4 1) fun x6=>
 Pu (zD Tryz.prog 74) fun x7=>Box 74 x7 H2 fun x8 H3=>
 Pu (zj (some 9) x8 x5 H3) fun H4=>
 Pu (zo (some (.int .i64)) .eql x6 (.int .i64 0)) fun x9=>
 Ite x9
 (Pu (zb (some (some 9)) x8 H4) fun x10=>
 Pu (zb (some (some 9)) x1 H4) fun x11=>
 Pu (yH Tryz.prog 74 false .eql x10 x11 H4) fun x12=>
 R x12 H4)
 (R (.bool false) H4)
theorem fn135 (h:sh135 v0 H R):Fc Tryz.prog 135 #[v0] H R:=
 zs (fun f=>[].contains f) .nil Tryz.func135 (args:=[v0]) (Eq.mp (by kernel_rfl:sh135 v0 H R=_) h)
def sh136 (v0 v1:Value) (H:Hp) (R:Value→Hp→Prop):Prop:=
 Box 74 v0 H fun x1 H1=>
 Pu (lenE Tryz.prog 106 v1) fun x2=>
 Pu (zd (some 0) x1) fun x3=>
 Pu (zd (some 1) x3) fun x4=>
 Pu (zb (some none) x4 H1) fun x5=>
 Pu (zo (some (.int .i64)) .sub x5 (.int .i64 1)) fun x6=>
 Pu (zo (some (.int .i64)) .gtr x2 x6) fun x7=>
 Ite x7
 (R (.bool false) H1)
 (NewMap H1 fun x8 H2=>
 Pu (lenE Tryz.prog 106 v1) fun x9=>
 zx (n:=1) ((.int .i64 0),()) H2 (fun K10 s9 H3=>Any fun _=>
 Pu (zo (some (.int .i64)) .lss s9.1 x9) fun x12=>
 Ite x12
 (Pu (zh (some (none,1)) v1 s9.1) fun x13=>
 Pu (zb (some none) x13 H3) fun x14=>
 Pu (yu Tryz.prog (some (3,.int .i64,274)) true x8 x14 H3) fun x15=>
 Pu (ze x15 0) fun x16=>
 Pu (ze x15 1) fun x17=>
 Pu (zD Tryz.prog 274) fun x18=>Box 274 x18 H3 fun x19 H4=>
 Pu (zj (some 0) x19 x16 H4) fun H5=>
 zS (n:=1) (fun s19 H6=>Any fun _=>
 Ite s19.1
 (R (.bool false) H6)
 (Pu (zu Tryz.prog 274 []) fun x22=>
 Pu (YS (some (3,.int .i64,274)) x8 x14 x22 H6) fun H7=>
 Pu (zo (some (.int .i64)) .add s9.1 (.int .i64 1)) fun x23=>
 K10 (x23,()) H7))
 (fun K23=>Ite x17
 (K23 ((.bool true),()) H5)
 (Pu (zd (some 0) x1) fun x25=>
 Pu (zd (some 1) x25) fun x26=>
 Pu (zb (some none) x26 H5) fun x27=>
 Pu (zo (some (.int .i64)) .add (.int .i64 1) x27) fun x28=>
 Pu (zo (some (.int .i64)) .lss x14 x28) fun x29=>
 Ite x29
 (K23 ((.bool true),()) H5)
 (Pu (zd (some 0) x1) fun x30=>
 Pu (zd (some 0) x30) fun x31=>
 Pu (zb (some none) x31 H5) fun x32=>
 Pu (zo (some (.int .i64)) .geq x14 x32) fun x33=>
 K23 (x33,()) H5))))
 (R (.bool true) H3)))
theorem fn136 (h:sh136 v0 v1 H R):Fc Tryz.prog 136 #[v0,v1] H R:=
 zs (fun f=>[].contains f) (.seq .nil (.seq .nil (.seq .nil (.seq (.seq .nil (.loop [20] [21,22,23,7,25,26,27,24,28,29,8,9,30,31,32,33,34,35,36,37,38,39,40,41,42,43,44,45,4,46,47,48,49] (.seq .nil (.seq .nil (.seq (.seq .nil (.seq (.seq .nil (.join [45] [30,31,32,33,34,35,36,37,38,39,40,41,42,43,44] .nil .nil)) .nil)) .nil))))) .nil)))) Tryz.func136 (args:=[v0,v1]) (Eq.mp (by kernel_rfl:sh136 v0 v1 H R=_) h)
def sh92 (v0 v1:Value) (H:Hp) (R:Value→Hp→Prop):Prop:=
 Box 74 v0 H fun x1 H1=>
 Box 94 v1 H1 fun x2 H2=>
 Pu (zD Tryz.prog 129) fun x3=>Box 129 x3 H2 fun x4 H3=>
 Pu (zb (some (some 9)) x1 H3) fun x5=>
 Fc Tryz.prog 135 #[x5] H3 fun x6 H4=>
 Pu (unE .not x6) fun x7=>
 Ite x7
 (Pu (zu Tryz.prog 129 []) fun x8=>
 Pu (zj (some 1) x4 x8 H4) fun H5=>
 Pu (zb (some (some 1)) x4 H5) fun x9=>
 R (.tuple #[x9,(.int .i64 2)]) H5)
 (Pu (zb (some (some 1024)) x2 H4) fun x10=>
 Fc Tryz.prog 100 #[x10,(.int .i64 0)] H4 fun x11 H6=>
 Pu (z9 (some (.int .u32)) (some (.int .i64)) x11) fun x12=>
 Pu (zd (some 0) x1) fun x13=>
 Pu (zd (some 1) x13) fun x14=>
 Pu (zb (some none) x14 H6) fun x15=>
 Pu (zo (some (.int .i64)) .sub x15 (.int .i64 1)) fun x16=>
 Pu (zo (some (.int .i64)) .gtr x12 x16) fun x17=>
 Ite x17
 (Pu (zu Tryz.prog 129 []) fun x18=>
 Pu (zj (some 1) x4 x18 H6) fun H7=>
 Pu (zb (some (some 1)) x4 H7) fun x19=>
 R (.tuple #[x19,(.int .i64 4)]) H7)
 (Pu (zD Tryz.prog 129) fun x20=>Box 129 x20 H6 fun x21 H8=>
 Pu (z9 (some (.int .u32)) (some (.int .i64)) x11) fun x22=>
 zx (n:=1) ((.int .i64 0),()) H8 (fun K23 s22 H9=>Any fun _=>
 Pu (zo (some (.int .i64)) .lss s22.1 x22) fun x25=>
 Ite x25
 (Pu (zd (some 0) x21) fun x26=>
 Pu (zb (some (some 1024)) x2 H9) fun x27=>
 Pu (zo (some (.int .i64)) .add s22.1 (.int .i64 1)) fun x28=>
 Pu (zo (some (.int .i64)) .mul (.int .i64 4) x28) fun x29=>
 And
 (Pu (zb (some none) x26 H9) fun x39=>
 ForX true H9 fun H19=>
 Fc Tryz.prog 100 #[x27,x29] H19 fun x40 H20=>
 Pu (z9 (some (.int .u32)) (some (.int .i64)) x40) fun x41=>
 ForX true H20 fun H21=>
 Pu (zI Tryz.prog 106) fun x42=>Pu (zH (some x42) 1 [(0,x41)]) fun x43=>NewS x42.type 1 x43 H21 fun x44 H22=>
 ForX true H22 fun H23=>
 Y2 (zI Tryz.prog 106) x39 x44 H23 fun x45 H24=>
 Pu (zd (some 0) x21) fun x46=>
 ForX true H24 fun H25=>
 Pu (zj (some 1) x46 x45 H25) fun H26=>
 ForX true H26 fun H27=>
 Pu (zo (some (.int .i64)) .add s22.1 (.int .i64 1)) fun x47=>
 K23 (x47,()) H27)
 (And
 (ForX true H9 fun H10=>
 Fc Tryz.prog 100 #[x27,x29] H10 fun x30 H11=>
 Pu (zb (some none) x26 H11) fun x31=>
 Pu (z9 (some (.int .u32)) (some (.int .i64)) x30) fun x32=>
 ForX true H11 fun H12=>
 Pu (zI Tryz.prog 106) fun x33=>Pu (zH (some x33) 1 [(0,x32)]) fun x34=>NewS x33.type 1 x34 H12 fun x35 H13=>
 ForX true H13 fun H14=>
 Y2 (zI Tryz.prog 106) x31 x35 H14 fun x36 H15=>
 Pu (zd (some 0) x21) fun x37=>
 ForX true H15 fun H16=>
 Pu (zj (some 1) x37 x36 H16) fun H17=>
 ForX true H17 fun H18=>
 Pu (zo (some (.int .i64)) .add s22.1 (.int .i64 1)) fun x38=>
 K23 (x38,()) H18)
 (True)))
 (Pu (zb (some (some 9)) x1 H9) fun x48=>
 Pu (zd (some 0) x21) fun x49=>
 Pu (zb (some none) x49 H9) fun x50=>
 Fc Tryz.prog 136 #[x48,x50] H9 fun x51 H28=>
 Pu (unE .not x51) fun x52=>
 Ite x52
 (Pu (zu Tryz.prog 129 []) fun x53=>
 Pu (zj (some 1) x4 x53 H28) fun H29=>
 Pu (zb (some (some 1)) x4 H29) fun x54=>
 R (.tuple #[x54,(.int .i64 4)]) H29)
 (Pu (zb (some (some 1)) x21 H28) fun x55=>
 Pu (zj (some 1) x4 x55 H28) fun H30=>
 Pu (zb (some (some 1)) x4 H30) fun x56=>
 R (.tuple #[x56,(.int .i64 0)]) H30)))))
theorem fn92 (h:sh92 v0 v1 H R):Fc Tryz.prog 92 #[v0,v1] H R:=
 ZB (fun f=>[].contains f) [(10,(.fork [0,2,3,4,5] (.cons 1 (.line [6,7,8,9,10,11]) (.cons 6 (.line [1,7,8,9,10,11]) .nil))))] (.seq .nil (.seq .nil (.seq .nil (.seq .nil (.seq .nil (.seq (.seq .nil (.loop [25] [26,27,8,28,29,30,31,32,33,34,35,36,37,38,39] .nil)) .nil)))))) Tryz.func92 (args:=[v0,v1]) (Eq.mp (by kernel_rfl:sh92 v0 v1 H R=_) h)
def sh55 (v0 v1:Value) (H:Hp) (R:Value→Hp→Prop):Prop:=
 Box 74 v1 H fun x1 H1=>
 Pu (zD Tryz.prog 129) fun x2=>Box 129 x2 H1 fun x3 H2=>
 Fc Tryz.prog 89 #[v0] H2 fun x4 H3=>
 Pu (unE .not x4) fun x5=>
 Ite x5
 (Pu (zu Tryz.prog 129 []) fun x6=>
 Pu (zj (some 1) x3 x6 H3) fun H4=>
 Pu (zb (some (some 1)) x3 H4) fun x7=>
 R (.tuple #[x7,(.int .i64 1)]) H4)
 (Pu (zd (some 0) x1) fun x8=>
 Pu (zb (some (some 3)) x8 H3) fun x9=>
 Fc Tryz.prog 90 #[x9] H3 fun x10 H5=>
 Pu (ze x10 0) fun x11=>
 Pu (ze x10 1) fun x12=>
 Pu (zD Tryz.prog 74) fun x13=>Box 74 x13 H5 fun x14 H6=>
 Pu (zj (some 9) x14 x11 H6) fun H7=>
 zS (n:=1) (fun s14 H8=>Any fun _=>
 Ite s14.1
 (Pu (zu Tryz.prog 129 []) fun x17=>
 Pu (zj (some 1) x3 x17 H8) fun H9=>
 Pu (zb (some (some 1)) x3 H9) fun x18=>
 R (.tuple #[x18,(.int .i64 2)]) H9)
 (Pu (zd (some 3) x1) fun x19=>
 Pu (zb (some none) x19 H8) fun x20=>
 Fc Tryz.prog 67 #[v0,x20] H8 fun x21 H10=>
 Pu (ze x21 0) fun x22=>
 Pu (ze x21 1) fun x23=>
 Pu (zD Tryz.prog 94) fun x24=>Box 94 x24 H10 fun x25 H11=>
 Pu (zj (some 1024) x25 x22 H11) fun H12=>
 Pu (zo (some (.int .i64)) .neq x23 (.int .i64 0)) fun x26=>
 Ite x26
 (Pu (zu Tryz.prog 129 []) fun x27=>
 Pu (zj (some 1) x3 x27 H12) fun H13=>
 Pu (zb (some (some 1)) x3 H13) fun x28=>
 R (.tuple #[x28,(.int .i64 3)]) H13)
 (Pu (zb (some (some 9)) x1 H12) fun x29=>
 Pu (zb (some (some 1024)) x25 H12) fun x30=>
 Fc Tryz.prog 92 #[x29,x30] H12 fun x31 H14=>
 Pu (ze x31 0) fun x32=>
 Pu (ze x31 1) fun x33=>
 Pu (zj (some 1) x3 x32 H14) fun H15=>
 Pu (zb (some (some 1)) x3 H15) fun x34=>
 R (.tuple #[x34,x33]) H15)))
 (fun K34=>Pu (zo (some (.int .i64)) .neq x12 (.int .i64 0)) fun x36=>
 Ite x36
 (And
 (ForX true H7 fun H17=>
 K34 ((.bool true),()) H17)
 (And
 (ForX true H7 fun H16=>
 K34 ((.bool true),()) H16)
 (True)))
 (Pu (zb (some (some 9)) x14 H7) fun x37=>
 Pu (zb (some (some 9)) x1 H7) fun x38=>
 Pu (yH Tryz.prog 74 false .neq x37 x38 H7) fun x39=>
 Ite x39
 (And
 (ForX true H7 fun H19=>
 K34 ((.bool true),()) H19)
 (And
 (ForX true H7 fun H18=>
 K34 ((.bool true),()) H18)
 (True)))
 (Pu (zd (some 0) x1) fun x40=>
 Pu (zd (some 0) x40) fun x41=>
 And
 (Pu (zb (some none) x41 H7) fun x45=>
 ForX true H7 fun H23=>
 Fc Tryz.prog 91 #[v0] H23 fun x46 H24=>
 Pu (zo (some (.int .i64)) .gtr x45 x46) fun x47=>
 ForX true H24 fun H25=>
 K34 (x47,()) H25)
 (And
 (ForX true H7 fun H20=>
 Fc Tryz.prog 91 #[v0] H20 fun x42 H21=>
 Pu (zb (some none) x41 H21) fun x43=>
 Pu (zo (some (.int .i64)) .gtr x43 x42) fun x44=>
 ForX true H21 fun H22=>
 K34 (x44,()) H22)
 (True))))))
theorem fn55 (h:sh55 v0 v1 H R):Fc Tryz.prog 55 #[v0,v1] H R:=
 ZB (fun f=>[].contains f) [(4,(.fork [0,1,2,3,4,5,6,7,8,9,11] (.cons 10 (.line [12,13,14]) (.cons 12 (.line [10,13,14]) .nil))))] (.seq .nil (.seq .nil (.seq (.seq .nil (.join [34] [20,21,22,23,24,25,26,27,28,29,30,31,32,33] .nil .nil)) .nil))) Tryz.func55 (args:=[v0,v1]) (Eq.mp (by kernel_rfl:sh55 v0 v1 H R=_) h)
def sh22 (v0 v1:Value) (H:Hp) (R:Value→Hp→Prop):Prop:=
 Box 74 v1 H fun x1 H1=>
 Pu (zb (some (some 9)) x1 H1) fun x2=>
 Fc Tryz.prog 55 #[v0,x2] H1 fun x3 H2=>
 Pu (ze x3 0) fun x4=>
 Pu (ze x3 1) fun x5=>
 Pu (zD Tryz.prog 129) fun x6=>Box 129 x6 H2 fun x7 H3=>
 Pu (zj (some 1) x7 x4 H3) fun H4=>
 Pu (zo (some (.int .i64)) .neq x5 (.int .i64 0)) fun x8=>
 Ite x8
 (R (.tuple #[(.pointer none),x5]) H4)
 (Pu (zd (some 0) x7) fun x9=>
 Pu (zb (some none) x9 H4) fun x10=>
 Pu (lenE Tryz.prog 106 x10) fun x11=>
 Pu (zo (some (.int .i64)) .gtr x11 (.int .i64 0)) fun x12=>
 Ite x12
 (R (.tuple #[(.pointer none),(.int .i64 4)]) H4)
 (Pu (zd (some 0) x1) fun x13=>
 Pu (zd (some 1) x13) fun x14=>
 Pu (zb (some none) x14 H4) fun x15=>
 Pu (zo (some (.int .i64)) .add x15 (.int .i64 32)) fun x16=>
 Fc Tryz.prog 56 #[v0,x16] H4 fun x17 H5=>
 Pu (ze x17 0) fun x18=>
 Pu (ze x17 1) fun x19=>
 Pu (zo (some (.int .i64)) .neq x19 (.int .i64 0)) fun x20=>
 Ite x20
 (R (.tuple #[(.pointer none),x19]) H5)
 (And
 (Pu (zb (some (some 9)) x1 H5) fun x37=>
 And
 (ForX true H5 fun H32=>
 NewMap H32 fun x43 H33=>
 Pu (zu Tryz.prog 137 [(1,x43)]) fun x44=>
 ForX true H33 fun H34=>
 Fc Tryz.prog 57 #[v0] H34 fun x45 H35=>
 Pu (zu Tryz.prog 139 [(1,v0),(2,x18),(3,x37),(4,x45),(0,x44)]) fun x46=>
 ForX true H35 fun H36=>
 Box 139 x46 H36 fun x47 H37=>
 ForX true H37 fun H38=>
 R (.tuple #[x47,(.int .i64 0)]) H38)
 (And
 (ForX true H5 fun H25=>
 Fc Tryz.prog 57 #[v0] H25 fun x38 H26=>
 ForX true H26 fun H27=>
 NewMap H27 fun x39 H28=>
 Pu (zu Tryz.prog 137 [(1,x39)]) fun x40=>
 Pu (zu Tryz.prog 139 [(1,v0),(2,x18),(3,x37),(4,x38),(0,x40)]) fun x41=>
 ForX true H28 fun H29=>
 Box 139 x41 H29 fun x42 H30=>
 ForX true H30 fun H31=>
 R (.tuple #[x42,(.int .i64 0)]) H31)
 (True)))
 (And
 (ForX true H5 fun H13=>
 NewMap H13 fun x27 H14=>
 Pu (zu Tryz.prog 137 [(1,x27)]) fun x28=>
 And
 (Pu (zb (some (some 9)) x1 H14) fun x33=>
 ForX true H14 fun H20=>
 Fc Tryz.prog 57 #[v0] H20 fun x34 H21=>
 Pu (zu Tryz.prog 139 [(1,v0),(2,x18),(3,x33),(4,x34),(0,x28)]) fun x35=>
 ForX true H21 fun H22=>
 Box 139 x35 H22 fun x36 H23=>
 ForX true H23 fun H24=>
 R (.tuple #[x36,(.int .i64 0)]) H24)
 (And
 (ForX true H14 fun H15=>
 Fc Tryz.prog 57 #[v0] H15 fun x29 H16=>
 Pu (zb (some (some 9)) x1 H16) fun x30=>
 Pu (zu Tryz.prog 139 [(1,v0),(2,x18),(3,x30),(4,x29),(0,x28)]) fun x31=>
 ForX true H16 fun H17=>
 Box 139 x31 H17 fun x32 H18=>
 ForX true H18 fun H19=>
 R (.tuple #[x32,(.int .i64 0)]) H19)
 (True)))
 (And
 (ForX true H5 fun H6=>
 Fc Tryz.prog 57 #[v0] H6 fun x21 H7=>
 Pu (zb (some (some 9)) x1 H7) fun x22=>
 ForX true H7 fun H8=>
 NewMap H8 fun x23 H9=>
 Pu (zu Tryz.prog 137 [(1,x23)]) fun x24=>
 Pu (zu Tryz.prog 139 [(1,v0),(2,x18),(3,x22),(4,x21),(0,x24)]) fun x25=>
 ForX true H9 fun H10=>
 Box 139 x25 H10 fun x26 H11=>
 ForX true H11 fun H12=>
 R (.tuple #[x26,(.int .i64 0)]) H12)
 (True))))))
theorem fn22 (h:sh22 v0 v1 H R):Fc Tryz.prog 22 #[v0,v1] H R:=
 ZB (fun f=>[].contains f) [(9,(.fork [0,1,3] (.cons 2 (.fork [] (.cons 5 (.line [6,4,7,8,9,10]) (.cons 4 (.line [5,6,7,8,9,10]) .nil))) (.cons 5 (.fork [6] (.cons 2 (.line [4,7,8,9,10]) (.cons 4 (.line [2,7,8,9,10]) .nil))) (.cons 4 (.line [2,5,6,7,8,9,10]) .nil)))))] .nil Tryz.func22 (args:=[v0,v1]) (Eq.mp (by kernel_rfl:sh22 v0 v1 H R=_) h)
def sh34 (v0:Value) (H:Hp) (R:Value→Hp→Prop):Prop:=
 zS (n:=1) (fun s0 H1=>Any fun _=>
 Ite s0.1
 (R (.int .i64 1) H1)
 (Pu (zc v0) fun x3=>
 Pu (zd (some 2) x3) fun x4=>
 Pu (zb (some none) x4 H1) fun x5=>
 Pu (zc v0) fun x6=>
 Pu (zd (some 13) x6) fun x7=>
 Pu (zb (some none) x7 H1) fun x8=>
 Fc Tryz.prog 77 #[x5,x8] H1 fun x9 H2=>
 Pu (unE .not x9) fun x10=>
 Ite x10
 (R (.int .i64 3) H2)
 (R (.int .i64 0) H2)))
 (fun K10=>Pu (yH Tryz.prog 48 true .eql v0 (.pointer none) H) fun x12=>
 Ite x12
 (K10 ((.bool true),()) H)
 (Pu (zc v0) fun x13=>
 Pu (zd (some 2) x13) fun x14=>
 Pu (zb (some none) x14 H) fun x15=>
 Pu (yH Tryz.prog 47 true .eql x15 (.pointer none) H) fun x16=>
 K10 (x16,()) H))
theorem fn34 (h:sh34 v0 H R):Fc Tryz.prog 34 #[v0] H R:=
 zs (fun f=>[].contains f) (.seq .nil (.seq (.join [11] [3,4,5,6,7,8,9,10] .nil .nil) .nil)) Tryz.func34 (args:=[v0]) (Eq.mp (by kernel_rfl:sh34 v0 H R=_) h)
def sh66 (v0 v1:Value) (H:Hp) (R:Value→Hp→Prop):Prop:=
 Pu (zc v0) fun x1=>
 Pu (zd (some 4) x1) fun x2=>
 Pu (zd (some 3) x2) fun x3=>
 Pu (zb (some none) x3 H) fun x4=>
 Pu (zo (some (.int .i64)) .geq v1 x4) fun x5=>
 Ite x5
 (Pu (zc v0) fun x6=>
 Pu (zd (some 4) x6) fun x7=>
 Pu (zd (some 3) x7) fun x8=>
 Pu (zb (some none) x8 H) fun x9=>
 Pu (zc v0) fun x10=>
 Pu (zd (some 4) x10) fun x11=>
 Pu (zd (some 0) x11) fun x12=>
 Pu (zd (some 1) x12) fun x13=>
 Pu (zb (some none) x13 H) fun x14=>
 Pu (zo (some (.int .i64)) .add x9 x14) fun x15=>
 Pu (zo (some (.int .i64)) .lss v1 x15) fun x16=>
 R x16 H)
 (R (.bool false) H)
theorem fn66 (h:sh66 v0 v1 H R):Fc Tryz.prog 66 #[v0,v1] H R:=
 zs (fun f=>[].contains f) .nil Tryz.func66 (args:=[v0,v1]) (Eq.mp (by kernel_rfl:sh66 v0 v1 H R=_) h)
def sh27 (v0 v1:Value) (H:Hp) (R:Value→Hp→Prop):Prop:=
 Pu (zD Tryz.prog 94) fun x1=>Box 94 x1 H fun x2 H1=>
 Fc Tryz.prog 34 #[v0] H1 fun x3 H2=>
 Pu (zo (some (.int .i64)) .neq x3 (.int .i64 0)) fun x4=>
 Ite x4
 (Pu (zu Tryz.prog 94 []) fun x5=>
 Pu (zj (some 1024) x2 x5 H2) fun H3=>
 Pu (zb (some (some 1024)) x2 H3) fun x6=>
 R (.tuple #[x6,x3]) H3)
 (zS (n:=1) (fun s6 H4=>Any fun _=>
 Ite s6.1
 (Pu (zu Tryz.prog 94 []) fun x9=>
 Pu (zj (some 1024) x2 x9 H4) fun H5=>
 Pu (zb (some (some 1024)) x2 H5) fun x10=>
 R (.tuple #[x10,(.int .i64 2)]) H5)
 (Fc Tryz.prog 66 #[v0,v1] H4 fun x11 H6=>
 Ite x11
 (Pu (zc v0) fun x12=>
 Pu (zd (some 2) x12) fun x13=>
 Pu (zb (some none) x13 H6) fun x14=>
 Fc Tryz.prog 67 #[x14,v1] H6 fun x15 H7=>
 Pu (ze x15 0) fun x16=>
 Pu (ze x15 1) fun x17=>
 Pu (zj (some 1024) x2 x16 H7) fun H8=>
 Pu (zb (some (some 1024)) x2 H8) fun x18=>
 R (.tuple #[x18,x17]) H8)
 (Pu (zc v0) fun x19=>
 Pu (zd (some 3) x19) fun x20=>
 Pu (zb (some none) x20 H6) fun x21=>
 Fc Tryz.prog 68 #[x21,v1] H6 fun x22 H9=>
 Pu (ze x22 0) fun x23=>
 Pu (ze x22 1) fun x24=>
 Pu (zj (some 1024) x2 x23 H9) fun H10=>
 Pu (zb (some (some 1024)) x2 H10) fun x25=>
 R (.tuple #[x25,x24]) H10)))
 (fun K25=>Pu (zo (some (.int .i64)) .lss v1 (.int .i64 0)) fun x27=>
 Ite x27
 (K25 ((.bool true),()) H2)
 (Pu (zc v0) fun x28=>
 Pu (zd (some 4) x28) fun x29=>
 Pu (zd (some 0) x29) fun x30=>
 Pu (zd (some 0) x30) fun x31=>
 Pu (zb (some none) x31 H2) fun x32=>
 Pu (zo (some (.int .i64)) .geq v1 x32) fun x33=>
 K25 (x33,()) H2)))
theorem fn27 (h:sh27 v0 v1 H R):Fc Tryz.prog 27 #[v0,v1] H R:=
 zs (fun f=>[].contains f) (.seq .nil (.seq .nil (.seq (.join [24] [13,14,15,16,17,18,19,20,21,22,23] .nil .nil) .nil))) Tryz.func27 (args:=[v0,v1]) (Eq.mp (by kernel_rfl:sh27 v0 v1 H R=_) h)
end Go.Proofs
namespace Go.Vc
open Go.Proofs
abbrev zm (n:Int):Value:=.int .i64 n
structure Lay where
 B:Int
 L:Int
 I:Int
 logAt:Int
 nodeAt:Int
 nodeBlocks:Int
 bitsAt:Int
 bitsBlocks:Int
 dataAt:Int
def Lay.cells (x:Lay):Array Value:=#[zm x.B,zm x.L,zm x.I,zm x.logAt,zm x.nodeAt,zm x.nodeBlocks,zm x.bitsAt,zm x.bitsBlocks,zm x.dataAt]
def zp (B L I:Int):Lay:=⟨B,L,I,1,1+L,(I+16) / 16,1+L+(I+16) / 16,(B+8191) / 8192,1+L+(I+16) / 16+(B+8191) / 8192⟩
def Zd (B L I:Int):Prop:=32≤L∧L≤256∧1≤I∧I≤65535∧1≤B∧B≤1048576∧(zp B L I).dataAt<B
def zLay:Array Value:=#[zm 0,zm 0,zm 0,zm 0,zm 0,zm 0,zm 0,zm 0,zm 0]
theorem yp:zD Tryz.prog 74=some (.agg zLay):=by kernel_rfl
theorem buildLay:zu Tryz.prog 74 []=some (.agg zLay):=by kernel_rfl
theorem buildLay3 (B L I n:Int):zu Tryz.prog 74 [(0,.agg #[zm B,zm L,zm I]),(1,zm 1),(2,zm n)]=some (.agg #[zm B,zm L,zm I,zm 1,zm n,zm 0,zm 0,zm 0,zm 0]):=by kernel_rfl
theorem all9 (a b c d e f g h i:Int):((#[zm a,zm b,zm c,zm d,zm e,zm f,zm g,zm h,zm i]:Array Value).all fun v=>v.oneCell')=true:=by rw [← Array.all_toList]; rfl
theorem Lay.ok (x:Lay):(x.cells.all fun v=>v.oneCell')=true:=all9 ..
section
variable {H:Hp} {R:Value→Hp→Prop}
set_option maxHeartbeats 2000000 in
theorem shape_of {B L I:Int} (hB : -9223372036854775808≤B∧B≤9223372036854775807) (k:∀ H',Ext H H'→Zd B L I→R (.tuple #[.agg (zp B L I).cells,.int .i64 0]) H') (k2:∀ H',Ext H H'→¬ Zd B L I→R (.tuple #[.agg zLay,.int .i64 2]) H') :
   Fc Tryz.prog 90 #[.agg #[zm B,zm L,zm I]] H R:=by
 refine fn90 ?_
 simp only [sh90,yp,za,zt]
 refine yc fun b1 H1 hb1 e1 s1 g1=>?_
 refine yc fun b2 H2 hb2 e2 s2 g2=>?_
 simp only [zP] at g1 g2
 have g1':=e2.at g1
 have e02:=e1.trans e2
 have bad:∀ H',Ext H2 H'→¬ Zd B L I→Pu (zu Tryz.prog 74 []) fun x6=>Pu (zj (some 9) (.pointer (some ⟨b2,0,none⟩)) x6 H') fun H4=>Pu (zb (some (some 9)) (.pointer (some ⟨b2,0,none⟩)) H4) fun x7=>R (.tuple #[x7,.int .i64 2]) H4:=fun H' hx hno=>by
   simp only [buildLay,za]
   refine Zb (hx.at g2) rfl rfl (all9 ..) fun H4 k4 s4 g4=>?_
   simp only [zV g4 (show zLay.size=9 from rfl),za]
   exact k2 H4 ((e02.trans hx).kpn k4 (by omega)) hno
 refine zS.mk (fun x H'=>H'=H2∧x.1=.bool (decide (¬ (32≤L∧L≤256∧1≤I∧I≤65535∧1≤B∧B≤1048576)))) ?_ ?_
 · rintro ⟨x,u⟩ H3 ⟨rfl,hx⟩
   simp only at hx
   subst hx
   simp only [zf]
   refine ⟨fun hno=>bad _ (Ext.refl _) fun h=>hno ⟨h.1,h.2.1,h.2.2.1,h.2.2.2.1,h.2.2.2.2.1,h.2.2.2.2.2.1⟩,fun hyes=>?_⟩
   have hyes:=Classical.not_not.1 hyes
   obtain ⟨y1,y2,y3,y4,y5,y6⟩:=hyes
   simp only [zi,Nat.zero_add,za,zV g1' (show (#[zm B,zm L,zm I]:Array Value).size=3 from rfl),zq g1',List.getElem?_toArray,List.getElem?_cons_zero,List.getElem?_cons_succ,zk]
   rw [zg (x:=1+L) (by omega) (by omega),buildLay3,za]
   refine yc fun b5 H5 hb5 e5 s5 g5=>?_
   simp only [zP] at g5
   refine Zb g5 rfl rfl (all9 ..) fun H6 k6 s6 g6=>?_
   have e36:Ext H3 H6:=e5.kpn k6 (by omega)
   have g16:=e36.at g1'
   have d1:(I+16).tdiv 16=(I+16) / 16:=Zl (by omega)
   have d2:(B+8192 - 1).tdiv 8192=(B+8191) / 8192:=by rw [Zl (by omega)]; congr 1; omega
   simp only [zi,Nat.zero_add,za,zq g16,List.getElem?_toArray,List.getElem?_cons_zero,List.getElem?_cons_succ,za,zk]
   rw [zg (x:=I+16) (by omega) (by omega),Zh (show (16:Int)≠0 by decide),za,d1,zg (by omega) (by omega)]
   refine YP (i:=5) (v:=zm ((I+16) / 16)) g6 (by simp) rfl rfl fun H7 k7 s7 g7=>?_
   simp only [List.setIfInBounds_toArray,List.set_cons_succ,List.set_cons_zero] at g7
   simp only [zi,Nat.zero_add,za,zq g7,List.getElem?_toArray,List.getElem?_cons_zero,List.getElem?_cons_succ,za,zk]
   rw [zg (x:=1+L+(I+16) / 16) (by omega) (by omega)]
   refine YP (i:=6) (v:=zm (1+L+(I+16) / 16)) g7 (by simp) rfl rfl fun H8 k8 s8 g8=>?_
   simp only [List.setIfInBounds_toArray,List.set_cons_succ,List.set_cons_zero] at g8
   have k68:Kp (·=b5) H6 H8:=k7.trans k8
   have g18:=k68.at g16 (by omega)
   simp only [zi,Nat.zero_add,za,zq g18,List.getElem?_toArray,List.getElem?_cons_zero,List.getElem?_cons_succ,za,zk,zO]
   rw [zg (x:=B+8192) (by omega) (by omega),zg (x:=B+8192 - 1) (by omega) (by omega),Zh (show (8192:Int)≠0 by decide),za,d2,zg (by omega) (by omega)]
   refine YP (i:=7) (v:=zm ((B+8191) / 8192)) g8 (by simp) rfl rfl fun H9 k9 s9 g9=>?_
   simp only [List.setIfInBounds_toArray,List.set_cons_succ,List.set_cons_zero] at g9
   simp only [zi,Nat.zero_add,za,zq g9,List.getElem?_toArray,List.getElem?_cons_zero,List.getElem?_cons_succ,za,zk]
   rw [zg (x:=1+L+(I+16) / 16+(B+8191) / 8192) (by omega) (by omega)]
   refine YP (i:=8) (v:=zm (1+L+(I+16) / 16+(B+8191) / 8192)) g9 (by simp) rfl rfl fun H10 k10 s10 g10=>?_
   simp only [List.setIfInBounds_toArray,List.set_cons_succ,List.set_cons_zero] at g10
   have e310:Ext H3 H10:=((e36.kpn (k7.trans k8) (by omega)).kpn k9 (by omega)).kpn k10 (by omega)
   have g110:=e310.at g1'
   simp only [zi,Nat.zero_add,za,zq g10,zq g110,List.getElem?_toArray,List.getElem?_cons_zero,List.getElem?_cons_succ,za,zQ,zf]
   refine ⟨fun hge=>bad _ e310 fun h=>by have:=h.2.2.2.2.2.2; simp only [zp] at this; omega,fun hlt=>?_⟩
   simp only [zV g10 (show (#[zm B,zm L,zm I,zm 1,zm (1+L),zm ((I+16) / 16),zm (1+L+(I+16) / 16),zm ((B+8191) / 8192),zm (1+L+(I+16) / 16+(B+8191) / 8192)]:Array Value).size=9 from rfl),za]
   refine Zb (e310.at g2) rfl rfl (all9 ..) fun H11 k11 s11 g11=>?_
   simp only [zV g11 (show (#[zm B,zm L,zm I,zm 1,zm (1+L),zm ((I+16) / 16),zm (1+L+(I+16) / 16),zm ((B+8191) / 8192),zm (1+L+(I+16) / 16+(B+8191) / 8192)]:Array Value).size=9 from rfl),za]
   exact k H11 ((e02.trans e310).kpn k11 (by omega)) ⟨y1,y2,y3,y4,y5,y6,by simp only [zp]; omega⟩
 · simp only [zi,Nat.zero_add,za,zq g1',List.getElem?_toArray,List.getElem?_cons_zero,List.getElem?_cons_succ,zr,zL,zf]
   refine ⟨fun h=>⟨trivial,?_⟩,fun h1=>⟨fun h=>⟨trivial,?_⟩,fun h2=>⟨fun h=>⟨trivial,?_⟩,fun h3=>⟨fun h=>⟨trivial,?_⟩,fun h4=>⟨fun h=>⟨trivial,?_⟩,fun h5=>⟨trivial,?_⟩⟩⟩⟩⟩⟩
   all_goals (congr 1; simp only [decide_eq_decide,eq_iff_iff,true_iff,decide_eq_true_eq,Bool.true_eq,eq_comm (a:=true)]; omega)
end
section
variable {H:Hp} {R:Value→Hp→Prop}
theorem inside_ok {a n:Int} (hn:0≤n∧n≤1024) (h:R (.bool (decide (0≤a∧a≤1024 - n))) H):Fc Tryz.prog 140 #[.int .i64 a,.int .i64 n] H R:=by
 refine fn140 ?_
 simp only [sh140,zQ,za,zf]
 refine ⟨fun h1=>?_,fun h1=>?_⟩
 · rw [zO,za,zg (by omega) (by omega),Yp,za]
   have e:decide (a≤1024 - n)=decide (0≤a∧a≤1024 - n):=by rw [decide_eq_decide]; omega
   rw [e]; exact h
 · have e:false=decide (0≤a∧a≤1024 - n):=by symm; rw [decide_eq_false_iff_not]; omega
   rw [e]; exact h
theorem zB_get {j:Nat} (h:j<1024):zB[j]?=some (.int .u8 0):=by
 unfold zB
 rw [Array.getElem?_replicate,if_pos h]
theorem u32_zero {a:Int} (h0:0≤a) (h1:a≤1020) (h:∀ H',Ext H H'→R (.int .u32 0) H'):Fc Tryz.prog 100 #[.agg zB,.int .i64 a] H R:=by
 refine fn100 ?_
 simp only [sh100]
 refine yc fun b H1 hb e1 s1 g1=>?_
 simp only [zP] at g1
 refine inside_ok (by omega) ?_
 have ed:decide (0≤a∧a≤1024 - 4)=true:=by rw [decide_eq_true_eq]; omega
 rw [ed]
 have ld:∀ j:Nat,j<1024→zb (some none) (.pointer (some ⟨b,0+j*1,none⟩)) H1=some (.int .u8 0):=fun j hj=>by
   rw [zq g1,Nat.zero_add,Nat.mul_one,zB_get hj]
 simp only [zT,Bool.not_true,za,zn]
 rw [idx_arr h0 (by omega),za,ld _ (by omega),za]
 simp only [zE,za,zk]
 rw [zg (x:=a+1) (by omega) (by omega),idx_arr (by omega) (by omega),za,ld _ (by omega),za]
 simp only [zE,za,zk]
 rw [zg (x:=a+2) (by omega) (by omega),zg (x:=a+3) (by omega) (by omega)]
 rw [idx_arr (j:=a+2) (by omega) (by omega),idx_arr (j:=a+3) (by omega) (by omega)]
 simp only [za]
 rw [ld (a+2).toNat (by omega),ld (a+3).toNat (by omega)]
 have w0:IntKind.u32.wrap 0=0:=by decide
 have sh:∀ n:Int,0≤n→zo (some (.int .u32)) .shl (.int .u32 0) (.int .u64 n)=some (.int .u32 0):=fun n hn=>by rw [binE_shl hn,Int.zero_mul,w0]
 have or0:zo (some (.int .u32)) .or (.int .u32 0) (.int .u32 0)=some (.int .u32 0):=by rw [binE_or,show bitsE .or .u32 0 0=0 from by decide]
 simp only [za,zE,w0,sh 8 (by decide),sh 16 (by decide),sh 24 (by decide),or0]
 exact h H1 e1
theorem Lay.size (x:Lay):x.cells.size=9:=rfl
theorem eqLay (a b c d e f g h i a' b' c' d' e' f' g' h' i':Int) (H:Hp):eqE Tryz.prog 74 false (.agg (Lay.cells ⟨a,b,c,d,e,f,g,h,i⟩)) (.agg (Lay.cells ⟨a',b',c',d',e',f',g',h',i'⟩)) H =
   YE (fun x=>x) [YE (fun x=>x) [some (decide (a=a')),some (decide (b=b')),some (decide (c=c'))],some (decide (d=d')),some (decide (e=e')),some (decide (f=f')),some (decide (g=g')),some (decide (h=h')),some (decide (i=i'))]:=by kernel_rfl
theorem eqLay_same (x:Lay) (H:Hp):eqE Tryz.prog 74 false (.agg x.cells) (.agg x.cells) H=some true:=by
 obtain ⟨a,b,c,d,e,f,g,h,i⟩:=x
 rw [eqLay]
 simp [YE]
theorem fits_ok {B L I:Int} (hB : -9223372036854775808≤B∧B≤9223372036854775807) (hg:Zd B L I) (h:∀ H',Ext H H'→R (.bool true) H'):Fc Tryz.prog 135 #[.agg (zp B L I).cells] H R:=by
 refine fn135 ?_
 simp only [sh135,yp,za]
 refine yc fun b H1 hb e1 s1 g1=>?_
 simp only [zP] at g1
 simp only [zi,Nat.zero_add,za]
 rw [Zp g1 (show 0+3≤(zp B L I).cells.size from by rw [Lay.size]; decide),za]
 rw [show ((zp B L I).cells.extract 0 (0+3))=#[zm B,zm L,zm I] from by simp [Lay.cells,zp]]
 refine shape_of hB (fun H2 e2 _=>?_) (fun H2 e2 hno=>absurd hg hno)
 simp only [ze,List.getElem?_toArray,List.getElem?_cons_zero,List.getElem?_cons_succ,za]
 refine yc fun b3 H3 hb3 e3 s3 g3=>?_
 simp only [zP] at g3
 refine Zb g3 rfl rfl (Lay.ok _) fun H4 k4 s4 g4=>?_
 have e14:Ext H1 H4:=(e2.trans e3).kpn k4 (by have:=e2.le; omega)
 simp only [zy,za,decide_true,Zm]
 rw [zV g4 (Lay.size _),za,zV (e14.at g1) (Lay.size _),za,eqXE_eql,eqLay_same,Option.map_some,za]
 exact h H4 (e1.trans e14)
theorem may_nil {x:Lay} (hL:1≤x.L∧x.L≤9223372036854775807) (h:∀ H',Ext H H'→R (.bool true) H'):Fc Tryz.prog 136 #[.agg x.cells,.slice none 0 0] H R:=by
 refine fn136 ?_
 simp only [sh136]
 refine yc fun b H1 hb e1 s1 g1=>?_
 simp only [zP] at g1
 have hl:lenE Tryz.prog 106 (.slice none 0 0)=some (.int .i64 0):=by kernel_rfl
 simp only [hl,zi,Nat.zero_add,za,zq g1]
 rw [show x.cells[1]?=some (zm x.L) from rfl,za,zO,za,zg (by omega) (by omega),zL,za,zf]
 refine ⟨fun hh=>by omega,fun _=>?_⟩
 refine Yj fun m H2 hm e2 s2 g2=>?_
 refine zx.mk (fun t H'=>t.1=.int .i64 0∧H'=H2) (fun t _=>0) ⟨rfl,rfl⟩ ?_
 rintro ⟨t,u⟩ H3 ⟨ht,rfl⟩
 simp only at ht
 subst ht
 simp only [zt,zr,za,show decide ((0:Int)<0)=false from rfl,zn]
 exact h H3 (e1.trans e2)
def zHd:Array Value:=#[.slice none 0 0]
theorem zeroHd:zD Tryz.prog 129=some (.agg zHd):=by kernel_rfl
theorem buildHd:zu Tryz.prog 129 []=some (.agg zHd):=by kernel_rfl
theorem decode_zero {B L I:Int} (hB : -9223372036854775808≤B∧B≤9223372036854775807) (hg:Zd B L I) (h:∀ H',Ext H H'→R (.tuple #[.agg zHd,.int .i64 0]) H'):Fc Tryz.prog 92 #[.agg (zp B L I).cells,.agg zB] H R:=by
 refine fn92 ?_
 simp only [sh92,zeroHd,za]
 refine yc fun b1 H1 hb1 e1 s1 g1=>?_
 refine yc fun b2 H2 hb2 e2 s2 g2=>?_
 refine yc fun b3 H3 hb3 e3 s3 g3=>?_
 simp only [zP] at g1 g2 g3
 have g1':=(e2.trans e3).at g1
 rw [zV g1' (Lay.size _),za]
 refine fits_ok hB hg fun H4 e4=>?_
 simp only [zT,Bool.not_true,za,zn]
 rw [zV ((e3.trans e4).at g2) zJ,za]
 refine u32_zero (by decide) (by decide) fun H5 e5=>?_
 have x15:=(e2.trans e3).trans (e4.trans e5)
 have hL:=hg.1
 have hL2:=hg.2.1
 simp only [zE,zi,Nat.zero_add,za,zq (x15.at g1)]
 rw [show (zp B L I).cells[1]?=some (zm L) from rfl,za,zO,za,zg (x:=0) (by omega) (by omega),zg (x:=L - 1) (by omega) (by omega),zL,za,zf]
 refine ⟨fun hh=>by omega,fun _=>?_⟩
 refine yc fun b6 H6 hb6 e6 s6 g6=>?_
 simp only [zP] at g6
 refine zx.mk (fun t H'=>t.1=.int .i64 0∧H'=H6) (fun t _=>0) ⟨rfl,rfl⟩ ?_
 rintro ⟨t,u⟩ H7 ⟨ht,rfl⟩
 simp only at ht
 subst ht
 simp only [zt,zr,za,show decide ((0:Int)<0)=false from rfl,zn]
 rw [zV ((x15.trans e6).at g1) (Lay.size _),za]
 simp only [zi,Nat.zero_add,za,zq g6,zHd,List.getElem?_toArray,List.getElem?_cons_zero]
 refine may_nil (show 1≤L∧L≤9223372036854775807 by omega) fun H8 e8=>?_
 simp only [zT,Bool.not_true,za,zn]
 rw [zV (e8.at g6) (show zHd.size=1 from rfl),za]
 have e38:Ext H3 H8:=(e4.trans e5).trans (e6.trans e8)
 refine Zb (e38.at g3) rfl rfl (by rw [← Array.all_toList]; rfl) fun H9 k9 s9 g9=>?_
 rw [zV g9 (show zHd.size=1 from rfl),za]
 exact h H9 (((e1.trans (e2.trans e3)).trans e38).kpn k9 (by omega))
end
end Go.Vc
