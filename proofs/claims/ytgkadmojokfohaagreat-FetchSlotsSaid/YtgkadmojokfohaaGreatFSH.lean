/- Parts of a proof, joined in build order: a calculus of contracts, contracts of functions. -/
import Derived.Test.YtgkadmojokfohaaGreatFSG
import Derived.Test.YtgkadmojokfohaaGreatFSF
set_option linter.unusedVariables false
set_option linter.unusedSimpArgs false
namespace Go.Vc
open Go.Proofs Classical
def Ob.all (l:List Ob):Ob:=.of (fun H O=>∃ col,Wd col H l∧∀ b,col b≠0→O b) fun {H H' O O'} h hb hs ho=>by
 obtain ⟨col,w,hc⟩:=h
 exact ⟨col,⟨fun i x hx=>x.frame (w.obs i x hx) (fun b hh=>hb b (hc b (by have hh:col b=i+1:=hh; omega))) hs (fun _ hh=>hh) fun b hh=>Nat.lt_of_lt_of_le (x.own (w.obs i x hx) b hh) hs,fun b hh=>w.out b (Nat.le_trans hs hh)⟩,fun b hh=>ho b (hc b hh)⟩
section
variable {S O:Nat→Prop} {H0 H H':Hp} {l r:List Ob}
theorem Lo.open (h:(Ob.all l).at_ H O):Lo O H H l:=by
 obtain ⟨⟨col,w,hc⟩,_⟩:=h
 exact ⟨Kp.refl _ _,col,w,fun b _ hn=>hc b hn⟩
theorem Lo.close (h:Lo O H H' (l++r)):∃ O',Stp O O' H H'∧(Ob.all l).at_ H' O':=by
 obtain ⟨k,col,w,hc⟩:=h.take
 refine ⟨fun b=>col b≠0,⟨k,fun b hb=>?_⟩,⟨col,w,fun _ hb=>hb⟩,fun b hb=>?_⟩
 · rcases Nat.lt_or_ge b H.size with h1 | h1
   · exact .inl (hc b h1 hb)
   · exact .inr h1
 · rcases Nat.lt_or_ge b H'.size with h1 | h1
   · exact h1
   · exact absurd (w.out b h1) hb
theorem Lo.nth (h:Lo S H0 H l) {i:Nat} {x y:Ob} (hx:l[i]?=some x) (hy:∀ O,x.at_ H O→y.at_ H O):Lo S H0 H (l.set i y):=by
 obtain ⟨O,ho,st⟩:=h.step hx
 exact st H y O (Kp.refl _ _) (hy O ho) fun b hb=>.inl hb
end
theorem splice_upd {cs v:Array Value} {o n j:Nat} {u:Value} (h:o+n≤cs.size) (hv:cs.extract o (o+n)=v) (hj:j<n):zZ cs o (v.setIfInBounds j u)=cs.setIfInBounds (o+j) u:=by
 have hs:v.size=n:=by rw [← hv,Array.size_extract]; omega
 apply Array.ext_getElem?
 intro i
 rw [zU (by simp [hs]; omega),Array.getElem?_setIfInBounds,Array.getElem?_setIfInBounds]
 simp only [Array.size_setIfInBounds,hs]
 by_cases h1:i<o
 · rw [if_pos h1,if_neg (by omega)]
 · rw [if_neg h1]
   by_cases h2:i<o+n
   · rw [if_pos h2]
     by_cases h3:j=i - o
     · rw [if_pos h3,if_pos (by omega),if_pos (by omega),if_pos (by omega)]
     · rw [if_neg h3,if_neg (by omega),← hv,Array.getElem?_extract,if_pos (by omega)]
       congr 1; omega
   · rw [if_neg h2,if_neg (by omega)]
section
variable {T n:Nat} {H:Hp} {s:Value} {vs:List (Array Value)} {K:Hp→Prop}
theorem Sv.putCell (h:Sv T n H s vs) {i j:Nat} {v:Array Value} {u:Value} (hi:vs[i]?=some v) (hj:j<n) (hv:zF v) (hu:u.oneCell'=true) (hc:u.cells=#[u]) :
   ∃ b o,ZS s=some b∧(∀ k,zh (some (none,n)) s (.int k i)=some (.pointer (some ⟨b,o,none⟩))) ∧
   ((∀ H',Kp (·=b) H H'→H'.size=H.size→Sv T n H' s (vs.set i (v.setIfInBounds j u))→K H')→Pu (zj (some 1) (.pointer (some ⟨b,o+j,none⟩)) u H) K):=by
 obtain ⟨b,o,cs,hb,hg,hsz,hx,ha⟩:=h.elem hi
 have hil:i<vs.length:=by
   rcases Nat.lt_or_ge i vs.length with h1 | h1
   · exact h1
   · rw [List.getElem?_eq_none h1] at hi; cases hi
 have hvs:=h.size hi
 have hok:zF (v.setIfInBounds j u):=by
   unfold zF at hv ⊢
   rw [Array.all_eq_true] at hv ⊢
   intro x hx
   rw [Array.getElem_setIfInBounds (by simpa using hx)]
   split
   · exact hu
   · exact hv x (by simpa using hx)
 obtain ⟨b',o',hb',ha',hp⟩:=h.put (K:=fun H'=>Kp (·=b) H H'∧H'.size=H.size∧Sv T n H' s (vs.set i (v.setIfInBounds j u))) hil (v:=v.setIfInBounds j u) (by simpa using hvs) hok
 have e:=(ha .i64).symm.trans (ha' .i64)
 injection e with e; injection e with e; injection e with e; injection e with e1 e2
 subst e1 e2
 have hp:=hp fun H' k1 k2 k3=>⟨k1,k2,k3⟩
 rw [store_row hg hsz (by simpa using hvs) hok,za,splice_upd hsz hx hj] at hp
 refine ⟨b,o,hb,ha,fun hK=>?_⟩
 rw [store_cell hg (by omega) hu hc,za]
 exact hK _ hp.1 hp.2.1 hp.2.2
end
section
variable {S:Nat→Prop} {H0 H:Hp} {l:List Ob} {K:Hp→Prop}
theorem Lo.slCell {T n:Nat} (h:Lo S H0 H l) {i j x:Nat} {s:Value} {v:Array Value} {u:Value} {vs:List (Array Value)} (hi:l[i]?=some (.sl T n s vs)) (hj:vs[j]?=some v) (hx:x<n) (hv:zF v) (hu:u.oneCell'=true) (hc:u.cells=#[u]) (k:∀ H',Lo S H0 H' (l.set i (.sl T n s (vs.set j (v.setIfInBounds x u))))→K H') :
   ∃ b o,(∀ k,zh (some (none,n)) s (.int k j)=some (.pointer (some ⟨b,o,none⟩)))∧Pu (zj (some 1) (.pointer (some ⟨b,o+x,none⟩)) u H) K:=by
 obtain ⟨O,ho,st⟩:=h.step hi
 obtain ⟨b,o,h1,h2,h3⟩:=Sv.putCell (K:=K) ho.1.1 hj hx hv hu hc
 refine ⟨b,o,h2,h3 fun H' k' hs sv=>k H' (st H' _ O (k'.mono fun x _ e=>e ▸ ho.1.2 b h1) ⟨⟨sv,ho.1.2⟩,fun x hx=>by rw [hs]; exact ho.2 x hx⟩ fun x hx=>.inl hx)⟩
end
structure Pm where
 x:Lay
 B:Nat
 da:Nat
 n:Nat
 st:Nat
 tn:Nat
structure yA (m:Pm):Prop where
 B:m.x.B=m.B
 da:m.x.dataAt=m.da
 n:m.B=m.da+m.n
 pos:0<m.n
 da1:1≤m.da
 lim:m.B≤1048576
 st:m.st<m.n
 tn:m.tn≤1048577
 co:Nat.gcd m.tn m.n=1
def Pm.blk (m:Pm) (k:Nat):Nat:=m.da+sg m.n m.st m.tn k
structure Pg where
 L:List Blk
 c:Nat
 full:Bool
def pgC (x:Lay) (sl su:Value) (tn nx:Nat) (fl:Bool):Array Value:=#[zm x.B,zm x.L,zm x.I,zm x.logAt,zm x.nodeAt,zm x.nodeBlocks,zm x.bitsAt,zm x.bitsBlocks,zm x.dataAt,sl,su,zm tn,zm nx,.bool fl]
section
variable {x:Lay} {sl su:Value} {tn nx:Nat} {fl:Bool}
theorem pgC2:(pgC x sl su tn nx fl)[2]?=some (zm x.I):=rfl
theorem pgC4:(pgC x sl su tn nx fl)[4]?=some (zm x.nodeAt):=rfl
theorem pgC8:(pgC x sl su tn nx fl)[8]?=some (zm x.dataAt):=rfl
theorem pgC9:(pgC x sl su tn nx fl)[9]?=some sl:=rfl
theorem pgC10:(pgC x sl su tn nx fl)[10]?=some su:=rfl
theorem pgC11:(pgC x sl su tn nx fl)[11]?=some (zm tn):=rfl
theorem pgC12:(pgC x sl su tn nx fl)[12]?=some (zm nx):=rfl
theorem pgC13:(pgC x sl su tn nx fl)[13]?=some (.bool fl):=rfl
end
noncomputable def usC (m:Pm) (c:Nat):List (Array Value):=(List.range m.B).map fun i=>#[.bool (decide (∃ k,k<c∧i=m.blk k))]
structure PgOk (m:Pm) (q:Pg):Prop where
 len:q.L.length=m.B
 is:∀ c∈q.L,IsB c
 c:q.c≤m.n
noncomputable def Ze (m:Pm) (p:Nat) (q:Pg):Ob:=
 ⟨fun H O=>PgOk m q∧∃ sl su,(Ob.all [.box p (pgC m.x sl su m.tn (sg m.n m.st m.tn q.c) q.full) 121,.sl 94 1024 sl q.L,.sl 4 1 su (usC m q.c)]).at_ H O,
  fun ⟨_,_,_,h⟩=>Ob.own _ h,fun ⟨hq,sl,su,h⟩ hb hs ho hl=>⟨hq,sl,su,Ob.frame _ h hb hs ho hl⟩⟩
def Pg.take (m:Pm) (q:Pg):Pg × Nat:=if q.c<m.n then (⟨q.L,q.c+1,q.full⟩,m.blk q.c) else (⟨q.L,q.c,true⟩,0)
def Pg.put (q:Pg) (at_ i v:Nat):Pg:=⟨q.L.set at_ (seB (q.L.getD at_ zB) (4*i) 4 v),q.c,q.full⟩
def Pg.got (q:Pg) (at_ i:Nat):Nat:=leB (q.L.getD at_ zB) (4*i) 4
section
variable {m:Pm} {q:Pg}
theorem Pm.blk_lt (hm:yA m) (k:Nat):m.da≤m.blk k∧m.blk k<m.B:=by
 have:=sg_lt (st:=m.st) (tn:=m.tn) (k:=k) hm.pos
 have:=hm.n
 unfold Pm.blk; omega
theorem Pm.blk_inj (hm:yA m) {i k:Nat} (hi:i<m.n) (hk:k<m.n) (h:m.blk i=m.blk k):i=k:=sg_inj (st:=m.st) hm.co hi hk (by unfold Pm.blk at h; omega)
theorem usC_len (m:Pm) (c:Nat):(usC m c).length=m.B:=by simp [usC]
theorem usC_get {i:Nat} (hi:i<m.B) (c:Nat):(usC m c)[i]?=some #[.bool (decide (∃ k,k<c∧i=m.blk k))]:=by
 simp only [usC,List.getElem?_map,List.getElem?_range hi,Option.map_some]
theorem usC_set (hm:yA m) {c:Nat}:(usC m c).set (m.blk c) #[.bool true]=usC m (c+1):=by
 apply List.ext_getElem?
 intro i
 rw [List.getElem?_set]
 by_cases hi:i<m.B
 · rw [usC_get hi,usC_get hi]
   by_cases h1:m.blk c=i
   · rw [if_pos h1,usC_len,if_pos (by omega)]
     congr; symm; rw [decide_eq_true_eq]; exact ⟨c,by omega,h1.symm⟩
   · rw [if_neg h1]
     congr 4
     rw [decide_eq_decide]
     constructor
     · rintro ⟨k,hk,e⟩; exact ⟨k,by omega,e⟩
     · rintro ⟨k,hk,e⟩
       rcases Nat.lt_or_ge k c with h2 | h2
       · exact ⟨k,h2,e⟩
       · have:k=c:=by omega
         subst this; exact absurd e.symm h1
 · have:=(m.blk_lt hm c).2
   rw [if_neg (by omega),List.getElem?_eq_none (by rw [usC_len]; omega),List.getElem?_eq_none (by rw [usC_len]; omega)]
theorem take_ok (h:PgOk m q):PgOk m (q.take m).1:=by
 have:=h.c
 unfold Pg.take
 split
 · exact ⟨h.len,h.is,by simp only; omega⟩
 · exact ⟨h.len,h.is,h.c⟩
theorem getD_is (h:PgOk m q) (i:Nat):IsB (q.L.getD i zB):=by
 rw [List.getD_eq_getElem?_getD]
 cases hi:q.L[i]? with
 | none=>exact Zn
 | some c=>exact h.is c (List.mem_of_getElem? hi)
theorem put_ok (h:PgOk m q) (a i v:Nat):PgOk m (q.put a i v):=by
 refine ⟨by simp [Pg.put,h.len],fun c hc=>?_,h.c⟩
 rcases List.mem_or_eq_of_mem_set hc with h1 | h1
 · exact h.is c h1
 · rw [h1]; exact (seB_is _ _ _ (getD_is h a).n).b
end
theorem undBlks:Tryz.prog.underlying 118=some (.slice 94):=by kernel_rfl
theorem pgC_ok (x:Lay) (sl su:Value) (tn nx:Nat) (fl:Bool):(pgC x sl su tn nx fl).size=14:=rfl
section
variable {H:Hp} {R:Value→Hp→Prop} {m:Pm} {p:Nat} {q:Pg} {O:Nat→Prop}
theorem page_take (hm:yA m) (h:(Ze m p q).at_ H O) (k:∀ H' O',Stp O O' H H'→(Ze m p (q.take m).1).at_ H' O'→R (zm (q.take m).2) H'):Fc Tryz.prog 130 #[z6 p] H R:=by
 obtain ⟨hq,sl,su,ha⟩:=h
 have l0:=Lo.open ha
 have g0:=l0.at (i:=0) rfl
 have hn:=hm.n
 have hlim:=hm.lim
 have htn:=hm.tn
 have hqc:=hq.c
 refine fn130 ?_
 simp only [sh130,zc,zi,Nat.zero_add,Nat.reduceAdd,za,zt,zq g0,pgC2,pgC4,pgC8,pgC9,pgC10,pgC11,pgC12,pgC13,(l0.sv (i:=1) rfl).lenE undBlks,zO]
 rw [hq.len,hm.da,zg (by omega) (by omega),show (m.B:Int) - (m.da:Int)=(m.n:Int) by omega]
 refine zx.mk (fun s H'=>∃ i:Nat,i≤m.n∧(i=0∨q.c=m.n)∧s=(zm i,())∧Lo O H H' [.box p (pgC m.x sl su m.tn (sg m.n m.st m.tn (q.c+i)) q.full) 121,.sl 94 1024 sl q.L,.sl 4 1 su (usC m q.c)])
   (fun s _=>mi s.1 fun i=>(m.n - i).toNat) ⟨0,by omega,.inl rfl,rfl,l0⟩ ?_
 rintro _ H1 ⟨i,hi,hc,rfl,l1⟩
 have g1:=l1.at (i:=0) rfl
 have hsl:=sg_lt (st:=m.st) (tn:=m.tn) (k:=q.c+i) hm.pos
 simp only [zr,za,zf]
 refine ⟨fun hlt=>?_,fun hge=>?_⟩
 · simp only [zc,zi,Nat.zero_add,Nat.reduceAdd,za,zq g1,pgC2,pgC4,pgC8,pgC9,pgC10,pgC11,pgC12,pgC13,zk]
   rw [hm.da,addN,zv (by omega),addN,zv (by omega),zW (by have:=hm.pos; omega),za,Za (by omega),← Int.natCast_emod,sg_next]
   refine l1.st (i:=0) (j:=12) (v:=zm (sg m.n m.st m.tn (q.c+i+1):Nat)) rfl (by rw [pgC_ok]; omega) rfl rfl fun H2 l2=>?_
   have l2:Lo O H H2 [.box p (pgC m.x sl su m.tn (sg m.n m.st m.tn (q.c+i+1)) q.full) 121,.sl 94 1024 sl q.L,.sl 4 1 su (usC m q.c)]:=l2
   have g2:=l2.at (i:=0) rfl
   simp only [zq g2,pgC2,pgC4,pgC8,pgC9,pgC10,pgC11,pgC12,pgC13,za]
   have hus:=usC_get (m:=m) (i:=m.da+sg m.n m.st m.tn (q.c+i)) (by omega) q.c
   obtain ⟨b,o,ha1,hl1⟩:=(l2.sv (i:=2) rfl).cell hus (j:=0) (by omega)
   rw [ha1,za,show (⟨b,o,none⟩:Addr)=⟨b,o+0,none⟩ from rfl,hl1,List.getElem?_toArray,List.getElem?_cons_zero,za,zT,za,yy]
   refine ⟨fun hu=>?_,fun hu=>?_⟩
   · have hcn:i=0:=by
       rcases hc with h1 | h1
       · exact h1
       · exfalso
         obtain ⟨j,hj,ej⟩:=sg_all (st:=m.st) hm.pos hm.co hsl
         rw [decide_eq_false_iff_not] at hu
         exact hu ⟨j,by omega,by unfold Pm.blk; omega⟩
     subst hcn
     have hlt2:q.c<m.n:=by
       rcases Nat.lt_or_ge q.c m.n with h1 | h1
       · exact h1
       · exfalso
         obtain ⟨j,hj,ej⟩:=sg_all (st:=m.st) hm.pos hm.co hsl
         rw [decide_eq_false_iff_not] at hu
         exact hu ⟨j,by omega,by unfold Pm.blk; omega⟩
     obtain ⟨b',o',ha2,hp2⟩:=l2.slCell (i:=2) (j:=m.da+sg m.n m.st m.tn (q.c+0)) (x:=0) (u:=.bool true) (K:=fun H3=>R (zm (m.da+sg m.n m.st m.tn (q.c+0):Nat)) H3) rfl hus (by omega) (by unfold zF; rw [← Array.all_toList]; rfl) rfl rfl (fun H3 l3=>by
       obtain ⟨O',st,ha'⟩:=Lo.close (l:=[_,_,_]) (r:=[]) l3
       have et:q.take m=(⟨q.L,q.c+1,q.full⟩,m.blk q.c):=by unfold Pg.take; rw [if_pos hlt2]
       have k:=k H3 O' st
       rw [et] at k
       refine k ⟨⟨hq.len,hq.is,hlt2⟩,sl,su,?_⟩
       have es:=usC_set hm (c:=q.c)
       rw [← es]
       exact ha')
     have e:=(ha2 .i64).symm.trans (ha1 .i64)
     rw [za]
     injection e with e; injection e with e; injection e with e; injection e with e1 e2
     subst e1 e2
     exact hp2
   · rw [zK,zv (by omega)]
     refine ⟨⟨i+1,by omega,.inr ?_,rfl,l2⟩,by simp only [zC]; omega⟩
     rcases hc with h1 | h1
     · subst h1
       rw [decide_eq_true_eq] at hu
       obtain ⟨j,hj,ej⟩:=hu
       rcases Nat.lt_or_ge q.c m.n with h2 | h2
       · have:j=q.c:=m.blk_inj hm (by omega) h2 (by rw [← ej]; rfl)
         omega
       · omega
     · exact h1
 · have hcn:q.c=m.n:=by
     rcases hc with h1 | h1
     · have:=hm.pos; omega
     · exact h1
   have ei:i=m.n:=by omega
   refine l1.st (i:=0) (j:=13) (v:=.bool true) rfl (by rw [pgC_ok]; omega) rfl rfl fun H2 l2=>?_
   obtain ⟨O',st,ha'⟩:=Lo.close (l:=[_,_,_]) (r:=[]) l2
   have et:q.take m=(⟨q.L,q.c,true⟩,0):=by unfold Pg.take; rw [if_neg (by omega)]
   have k:=k H2 O' st
   rw [et] at k
   have es:sg m.n m.st m.tn (q.c+i)=sg m.n m.st m.tn q.c:=by
     unfold sg
     rw [ei,Nat.add_mul,← Nat.add_assoc,Nat.add_mul_mod_self_left]
   refine k ⟨⟨hq.len,hq.is,hq.c⟩,sl,su,?_⟩
   rw [es] at ha'
   exact ha'
theorem page_got (hm:yA m) (h:(Ze m p q).at_ H O) {a i:Nat} (ha:a<m.B) (hi:i<256) (k:R (zm (q.got a i)) H):Fc Tryz.prog 131 #[z6 p,zm a,zm i] H R:=by
 obtain ⟨hq,sl,su,h0⟩:=h
 have l0:=Lo.open h0
 have g0:=l0.at (i:=0) rfl
 have hlim:=hm.lim
 have hg:q.L[a]?=some (q.L.getD a zB):=by rw [List.getD_eq_getElem?_getD,List.getElem?_eq_getElem (by rw [hq.len]; exact ha)]; rfl
 have hb:=getD_is hq a
 generalize q.L.getD a zB=c at hg hb
 have ek:q.got a i=leB c (4*i) 4:=by unfold Pg.got; rw [List.getD_eq_getElem?_getD,hg]; rfl
 rw [ek] at k
 refine fn131 ?_
 simp only [sh131,zt]
 refine zx.mk (fun s H'=>H'=H∧∃ j:Nat,j≤4∧s=(zm (leB c (4*i+(4 - j)) j:Nat),zm (3 - (j:Int)),())) (fun s _=>mi s.2.1 fun x=>(x+1).toNat) ⟨rfl,0,by omega,rfl⟩ ?_
 rintro _ H1 ⟨rfl,j,hj,rfl⟩
 have hv:=leB_lt (c:=c) hb.lt j (4*i+(4 - j))
 have hv2:256 ^ j≤256 ^ 4:=Nat.pow_le_pow_right (by omega) hj
 generalize hv3:leB c (4*i+(4 - j)) j=v at hv
 simp only [zQ,za,zf]
 refine ⟨fun hge=>?_,fun hlt=>?_⟩
 · have hv4:256 ^ j≤256 ^ 3:=Nat.pow_le_pow_right (by omega) (by omega)
   obtain ⟨b,o,ha1,hl1⟩:=(l0.sv (i:=1) rfl).cell hg (j:=4*i+(3 - j)) (by omega)
   simp only [zX,za,zc,zi,Nat.zero_add,Nat.reduceAdd,zq g0,pgC2,pgC4,pgC8,pgC9,pgC10,pgC11,pgC12,pgC13]
   rw [zg (x:=4*(i:Int)) (by omega) (by omega),zk,za,zg (by omega) (by omega),ha1,za,show (4*(i:Int)+(3 - (j:Int)))=((4*i+(3 - j):Nat):Int) by omega,zG (by omega),za,Nat.mul_one,hl1,hb.get (by omega),za,zE,za]
   have hbl:=hb.lt (4*i+(3 - j))
   rw [zg (x:=256*(v:Int)) (by omega) (by omega),zv (by omega),zk,za,zg (by omega) (by omega),zO,za,zg (by omega) (by omega)]
   refine ⟨⟨by trivial,j+1,by omega,?_⟩,by simp only [zC]; omega⟩
   have e1:leB c (4*i+(4 - (j+1))) (j+1)=byt c (4*i+(3 - j))+256*v:=by
     show byt c (4*i+(4 - (j+1)))+256*leB c (4*i+(4 - (j+1))+1) j=_
     rw [show 4*i+(4 - (j+1))+1=4*i+(4 - j) by omega,hv3,show 4*i+(4 - (j+1))=4*i+(3 - j) by omega]
   rw [e1,show (256*(v:Int)+(byt c (4*i+(3 - j)):Int))=((byt c (4*i+(3 - j))+256*v:Nat):Int) by omega,show (3 - (j:Int) - 1)=3 - ((j+1:Nat):Int) by omega]
   rfl
 · have ej:j=4:=by omega
   subst ej
   rw [← hv3]; exact k
theorem page_put (hm:yA m) (h:(Ze m p q).at_ H O) {a i v:Nat} (ha:a<m.B) (hi:i<256) (hv:v<9223372036854775808) (k:∀ H' O',Stp O O' H H'→(Ze m p (q.put a i v)).at_ H' O'→R (.tuple #[]) H'):Fc Tryz.prog 132 #[z6 p,zm a,zm i,zm v] H R:=by
 obtain ⟨hq,sl,su,h0⟩:=h
 have l0:=Lo.open h0
 have hlim:=hm.lim
 have hg:q.L[a]?=some (q.L.getD a zB):=by rw [List.getD_eq_getElem?_getD,List.getElem?_eq_getElem (by rw [hq.len]; exact ha)]; rfl
 have hb:=getD_is hq a
 have hpo:=put_ok hq a i v
 have epu:q.put a i v=⟨q.L.set a (seB (q.L.getD a zB) (4*i) 4 v),q.c,q.full⟩:=rfl
 rw [epu] at k hpo
 generalize q.L.getD a zB=c at hg hb k hpo
 refine fn132 ?_
 simp only [sh132,zt]
 refine zx.mk (fun s H'=>∃ (j:Nat) (cj:Blk) (vj:Nat),j≤4∧vj<9223372036854775808∧IsB cj∧seB cj (4*i+j) (4 - j) vj=seB c (4*i) 4 v∧s=(zm vj,zm j,())∧Lo O H H' [.box p (pgC m.x sl su m.tn (sg m.n m.st m.tn q.c) q.full) 121,.sl 94 1024 sl (q.L.set a cj),.sl 4 1 su (usC m q.c)])
   (fun s _=>mi s.2.1 fun x=>(4 - x).toNat) ⟨0,c,v,by omega,hv,hb,rfl,rfl,?_⟩ ?_
 · have e:q.L.set a c=q.L:=by
     apply List.ext_getElem?
     intro j
     rw [List.getElem?_set]
     split
     · rename_i h1; subst h1; rw [hg,if_pos (by rw [hq.len]; exact ha)]
     · rfl
   rw [e]; exact l0
 rintro _ H1 ⟨j,cj,vj,hj,hvj,hbj,he,rfl,l1⟩
 simp only [zr,za,zf]
 refine ⟨fun hlt=>?_,fun hge=>?_⟩
 · have g1:=l1.at (i:=0) rfl
   have hgj:(q.L.set a cj)[a]?=some cj:=by rw [List.getElem?_set_self (by rw [hq.len]; exact ha)]
   simp only [zc,zi,Nat.zero_add,Nat.reduceAdd,za,zq g1,pgC2,pgC4,pgC8,pgC9,pgC10,pgC11,pgC12,pgC13,zX]
   rw [zg (x:=4*(i:Int)) (by omega) (by omega),zk,za,zg (by omega) (by omega),zW (by decide),za,zE,za,u8mod,show (4*(i:Int)+(j:Int))=((4*i+j:Nat):Int) by omega]
   obtain ⟨b,o,ha1,hp1⟩:=l1.slCell (i:=1) (j:=a) (x:=4*i+j) (u:=.int .u8 (vj % 256:Nat)) (K:=fun H2=>Pu (zo (some (.int .i64)) .quo (zm vj) (.int .i64 256)) fun x13=>Pu (zo (some (.int .i64)) .add (zm j) (.int .i64 1)) fun x14=>(∃ (j:Nat) (cj:Blk) (vj:Nat),j≤4∧vj<9223372036854775808∧IsB cj∧seB cj (4*i+j) (4 - j) vj=seB c (4*i) 4 v∧(x13,x14,())=(zm vj,zm j,())∧Lo O H H2 [.box p (pgC m.x sl su m.tn (sg m.n m.st m.tn q.c) q.full) 121,.sl 94 1024 sl (q.L.set a cj),.sl 4 1 su (usC m q.c)])∧mi x14 (fun x=>(4 - x).toNat)<mi (zm j) (fun x=>(4 - x).toNat)) rfl hgj (by omega) hbj.ok rfl rfl (fun H2 l2=>by
     rw [Zh (by decide),za,quo256,zv (by omega),zk,za,zK,zv (by omega)]
     refine ⟨⟨j+1,_,vj / 256,by omega,by omega,hbj.set (4*i+j) (m:=vj % 256) (Nat.mod_lt _ (by omega)),?_,rfl,?_⟩,by simp only [zC]; omega⟩
     · rw [← he,show 4 - j=(4 - (j+1))+1 by omega]; rfl
     · have e2:(q.L.set a cj).set a (cj.setIfInBounds (4*i+j) (.int .u8 (vj % 256:Nat)))=q.L.set a (cj.setIfInBounds (4*i+j) (.int .u8 (vj % 256:Nat))):=List.set_set ..
       rw [← e2]; exact l2)
   rw [ha1,za,zG (by omega),za,Nat.mul_one]
   exact hp1
 · have ej:j=4:=by omega
   subst ej
   have he:cj=seB c (4*i) 4 v:=he
   obtain ⟨O',st,ha'⟩:=Lo.close (l:=[_,_,_]) (r:=[]) l1
   rw [he] at ha'
   exact k H1 O' st ⟨hpo,sl,su,ha'⟩
end
end Go.Vc
namespace Go.Vc
open Go.Proofs
def upd (f:Ino) (j v:Nat):Ino:=fun k=>if k=j then v else f k
def bump (f:Ino):Ino:=upd f 3 ((f 3+1) % 4294967296)
def Pg.setL (q:Pg) (a:Nat) (b:Blk):Pg:=⟨q.L.set a b,q.c,q.full⟩
def Pg.fin (m:Pm) (q:Pg) (f:Ino) (top pl:Nat) (b:Blk):Pg × Ino:=
 if (q.take m).1.full then ((q.take m).1,f) else (((q.take m).1.put top pl (q.take m).2).setL (q.take m).2 b,bump f)
def Pg.top (m:Pm) (q:Pg) (f:Ino) (j:Nat):Pg × Ino × Nat:=if f j=0 then ((q.take m).1,bump f,(q.take m).2) else (q,f,f j)
def Pg.dbl (m:Pm) (q:Pg) (f:Ino) (top pl r:Nat) (b:Blk):Pg × Ino:=
 if q.got top pl=0 then
   if (q.take m).1.full then ((q.take m).1,f) else Pg.fin m ((q.take m).1.put top pl (q.take m).2) (bump f) (q.take m).2 r b
 else Pg.fin m q f (q.got top pl) r b
def Pg.file (m:Pm) (q:Pg) (f:Ino) (idx:Int) (b:Blk):Pg × Ino:=
 if idx<0∨65802≤idx then (⟨q.L,q.c,true⟩,f)
 else if q.full then (q,f)
 else if idx<10 then
   if (q.take m).1.full then ((q.take m).1,f) else ((q.take m).1.setL (q.take m).2 b,bump (upd f (4+idx.toNat) (q.take m).2))
 else if idx<266 then
   if (Pg.top m q f 14).1.full then ((Pg.top m q f 14).1,(Pg.top m q f 14).2.1) else Pg.fin m (Pg.top m q f 14).1 (upd (Pg.top m q f 14).2.1 14 (Pg.top m q f 14).2.2) (Pg.top m q f 14).2.2 (idx.toNat - 10) b
 else
   if (Pg.top m q f 15).1.full then ((Pg.top m q f 15).1,(Pg.top m q f 15).2.1) else Pg.dbl m (Pg.top m q f 15).1 (upd (Pg.top m q f 15).2.1 15 (Pg.top m q f 15).2.2) (Pg.top m q f 15).2.2 ((idx.toNat - 266) / 256) ((idx.toNat - 266) % 256) b
abbrev Own1:=Nat→Option Nat
def YL (a:Own1) (t k:Nat):Own1:=fun i=>if i=t then some k else a i
def Pm.bk (m:Pm):Option Nat→Nat
 | none=>0
 | some k=>m.blk k
def ZD:Nat→Nat→Nat
 | 0,r=>268+r
 | 1,r=>2+r
 | P+2,r=>524+256*P+r
theorem slot_inj {P P' r r':Nat} (hP:P<258) (hP':P'<258) (hr:r<256) (hr':r'<256) (h:ZD P r=ZD P' r'):P=P'∧r=r':=by
 match P,P' with
 | 0,0 | 1,1=>simp only [ZD] at h; omega
 | 0,1 | 1,0 | 0,_+2 | _+2,0 | 1,_+2 | _+2,1=>simp only [ZD] at h; omega
 | _+2,_+2=>simp only [ZD] at h; omega
theorem slot_no {P r:Nat} (hr:r<256):ZD P r≠0∧ZD P r≠1∧∀ i,i<10→ZD P r≠258+i:=by
 match P with
 | 0 | 1 | _+2=>simp only [ZD]; refine ⟨by omega,by omega,fun i hi=>by omega⟩
structure FR (m:Pm) (q:Pg) (f:Ino) (a:Own1):Prop where
 fd:∀ i,i<10→f (4+i)=m.bk (a (258+i))
 f14:f 14=m.bk (a 0)
 f15:f 15=m.bk (a 1)
 no:∀ P,P<258→a P=none→∀ r,r<256→a (ZD P r)=none
 ix:∀ P k,P<258→a P=some k→∀ r,r<256→q.got (m.blk k) r=m.bk (a (ZD P r))
 lt:∀ i k,a i=some k→k<q.c
 inj:∀ i j k,a i=some k→a j=some k→i=j
 z:∀ k,q.c≤k→k<m.n→q.L[m.blk k]?=some zB
section
variable {m:Pm} {q:Pg} {f:Ino} {a:Own1}
theorem Y1 (hm:yA m) (k:Nat):m.blk k≠0:=by have:=(m.blk_lt hm k).1; have:=hm.da1; omega
theorem bk_zero (hm:yA m) {o:Option Nat} (h:m.bk o=0):o=none:=by
 cases o with
 | none=>rfl
 | some k=>exact absurd h (Y1 hm k)
theorem got_zero {q:Pg} {b i:Nat} (h:q.L[b]?=some zB):q.got b i=0:=by
 unfold Pg.got
 rw [List.getD_eq_getElem?_getD,h]
 exact leB_zero (fun j=>byt_zero 1024 j) _ _
theorem got_put {q:Pg} (hq:PgOk m q) {b i v b' i':Nat} (hb:b<m.B) (hi:i<256) (hi':i'<256) (hv:v<4294967296):(q.put b i v).got b' i'=if b=b'∧i=i' then v else q.got b' i':=by
 unfold Pg.put Pg.got
 simp only
 rw [List.getD_eq_getElem?_getD,List.getElem?_set]
 by_cases h1:b=b'
 · subst h1
   rw [if_pos rfl,if_pos (by rw [hq.len]; exact hb),Option.getD_some]
   have hB:=(getD_is hq b).n
   by_cases h2:i=i'
   · subst h2
     rw [if_pos ⟨rfl,rfl⟩,leB_seB hB (by omega),Nat.mod_eq_of_lt (by omega)]
   · rw [if_neg (fun h=>h2 h.2),YV hB (by omega) _ (by omega)]
 · rw [if_neg h1,if_neg (fun h=>h1 h.1),List.getD_eq_getElem?_getD]
theorem got_setL {q:Pg} {b b' i:Nat} {c:Blk} (h:b≠b'):(q.setL b c).got b' i=q.got b' i:=by
 unfold Pg.setL Pg.got
 simp only
 rw [List.getD_eq_getElem?_getD,List.getElem?_set,if_neg h,List.getD_eq_getElem?_getD]
theorem setL_ok (hq:PgOk m q) (b:Nat) {c:Blk} (hc:IsB c):PgOk m (q.setL b c):=by
 refine ⟨by simp [Pg.setL,hq.len],fun x hx=>?_,hq.c⟩
 rcases List.mem_or_eq_of_mem_set hx with h1 | h1
 · exact hq.is x h1
 · rw [h1]; exact hc
theorem Zc (hc:q.c<m.n):q.take m=(⟨q.L,q.c+1,q.full⟩,m.blk q.c):=by unfold Pg.take; rw [if_pos hc]
theorem YN (hc:¬ q.c<m.n):q.take m=(⟨q.L,q.c,true⟩,0):=by unfold Pg.take; rw [if_neg hc]
theorem FR.grow (hm:yA m) (h:FR m q f a) (hc:q.c<m.n) {t:Nat} {q':Pg} {f':Ino} (hidx:t<258→a t=none∧∀ r,r<256→q'.got (m.blk q.c) r=0)
   (hold:∀ P k r,P<258→r<256→a P=some k→ZD P r≠t→q'.got (m.blk k) r=q.got (m.blk k) r)
   (hpar:∀ P r,P<258→r<256→ZD P r=t→∃ k,a P=some k∧q'.got (m.blk k) r=m.blk q.c)
   (hz:∀ k,q.c<k→k<m.n→q'.L[m.blk k]?=some zB) (hc':q'.c=q.c+1)
   (fd:∀ i,i<10→f' (4+i)=m.bk (YL a t q.c (258+i))) (f14:f' 14=m.bk (YL a t q.c 0)) (f15:f' 15=m.bk (YL a t q.c 1)):FR m q' f' (YL a t q.c):=by
 refine ⟨fd,f14,f15,fun P hP hn r hr=>?_,fun P k hP hk r hr=>?_,fun i k hi=>?_,fun i j k hi hj=>?_,fun k h1 h2=>hz k (by omega) h2⟩
 · unfold YL at hn ⊢
   split at hn
   · cases hn
   · have h1:=h.no P hP hn r hr
     rw [if_neg fun e=>?_]
     · exact h1
     · obtain ⟨k,hk,_⟩:=hpar P r hP hr e
       rw [hk] at hn; cases hn
 · unfold YL at hk
   split at hk
   · rename_i e
     subst e
     injection hk with hk; subst hk
     obtain ⟨h1,h2⟩:=hidx hP
     rw [h2 r hr]
     have h3:=h.no P hP h1 r hr
     unfold YL
     rw [if_neg fun e=>?_,h3]
     · rfl
     · obtain ⟨k,hk,_⟩:=hpar P r hP hr e
       rw [hk] at h1; cases h1
   · by_cases e:ZD P r=t
     · obtain ⟨k',hk',hg⟩:=hpar P r hP hr e
       rw [hk'] at hk; injection hk with hk; subst hk
       rw [hg]; unfold YL; rw [if_pos e]; rfl
     · rw [hold P k r hP hr hk e,h.ix P k hP hk r hr]
       unfold YL; rw [if_neg e]
 · unfold YL at hi
   split at hi
   · injection hi with hi; omega
   · have:=h.lt i k hi; omega
 · unfold YL at hi hj
   split at hi <;> split at hj
   · omega
   · injection hi with hi; have:=h.lt j k hj; omega
   · injection hj with hj; have:=h.lt i k hi; omega
   · exact h.inj i j k hi hj
theorem ZG {t k i:Nat} (h:i≠t):YL a t k i=a i:=if_neg h
theorem yI {t k:Nat}:YL a t k t=some k:=if_pos rfl
theorem upd_ne {j v k:Nat} (h:k≠j):upd f j v k=f k:=if_neg h
theorem upd_eq {j v:Nat}:upd f j v j=v:=if_pos rfl
theorem Z1 {k:Nat} (h:k≠3):bump f k=f k:=if_neg h
theorem FR.child (hm:yA m) (hq:PgOk m q) (h:FR m q f a) (hc:q.c<m.n) {P k r:Nat} (hP:P<258) (hr:r<256) (hk:a P=some k) {b:Blk} (hb:IsB b) (hidx:ZD P r<258→a (ZD P r)=none∧b=zB) :
   FR m (((q.take m).1.put (m.blk k) r (m.blk q.c)).setL (m.blk q.c) b) (bump f) (YL a (ZD P r) q.c):=by
 have hlim:=hm.lim
 have hbl:=fun k=>m.blk_lt hm k
 have hkc:=h.lt P k hk
 have ne:∀ {i j:Nat},i<m.n→j<m.n→i≠j→m.blk i≠m.blk j:=fun hi hj hne e=>hne (m.blk_inj hm hi hj e)
 have hq1:PgOk m (q.take m).1:=take_ok hq
 rw [Zc hc] at hq1 ⊢
 simp only at hq1 ⊢
 have gp:∀ b' i',i'<256→((⟨q.L,q.c+1,q.full⟩:Pg).put (m.blk k) r (m.blk q.c)).got b' i'=if m.blk k=b'∧r=i' then m.blk q.c else q.got b' i':=fun b' i' hi'=>by
   have:=got_put hq1 (b:=m.blk k) (i:=r) (v:=m.blk q.c) (b':=b') (i':=i') (hbl k).2 hr hi' (by have:=(hbl q.c).2; omega)
   exact this
 have hn:=slot_no (P:=P) hr
 refine h.grow hm hc (fun ht=>⟨(hidx ht).1,fun r' hr'=>?_⟩) (fun P' k' r' hP' hr' hk' hne=>?_) (fun P' r' hP' hr' e=>?_) (fun k' h1 h2=>?_) rfl (fun i hi=>?_) ?_ ?_
 · refine got_zero ?_
   have hb:=(hidx ht).2
   subst hb
   show ((_:List Blk).set (m.blk q.c) zB)[m.blk q.c]?=_
   rw [List.getElem?_set_self]
   have:=hq1.len
   simp only [Pg.put,List.length_set]
   have:=(hbl q.c).2
   have:=hq.len
   omega
 · have hkc':=h.lt P' k' hk'
   rw [got_setL (ne hc (by omega) (by omega)),gp _ _ hr',if_neg]
   rintro ⟨e1,e2⟩
   have e3:=m.blk_inj hm (by omega) (by omega) e1
   subst e3 e2
   have:=h.inj P P' k hk hk'
   subst this
   exact hne rfl
 · obtain ⟨e1,e2⟩:=slot_inj hP' hP hr' hr e
   subst e1 e2
   exact ⟨k,hk,by rw [got_setL (ne hc (by omega) (by omega)),gp _ _ hr,if_pos ⟨rfl,rfl⟩]⟩
 · show (((_:List Blk).set (m.blk k) _).set (m.blk q.c) b)[m.blk k']?=_
   rw [List.getElem?_set_ne (ne hc h2 (by omega)),List.getElem?_set_ne (ne (by omega) h2 (by omega))]
   exact h.z k' (by omega) h2
 · rw [Z1 (by omega),ZG (fun e=>hn.2.2 i hi e.symm)]; exact h.fd i hi
 · rw [Z1 (by omega),ZG (fun e=>hn.1 e.symm)]; exact h.f14
 · rw [Z1 (by omega),ZG (fun e=>hn.2.1 e.symm)]; exact h.f15
theorem setL_same {b:Nat} {c:Blk} (h:q.L[b]?=some c):q.setL b c=q:=by
 unfold Pg.setL
 have:q.L.set b c=q.L:=by
   apply List.ext_getElem?
   intro j
   rw [List.getElem?_set]
   split
   · rename_i h1; subst h1
     split
     · exact h.symm
     · rename_i h2; rw [List.getElem?_eq_none (by omega)] at h; cases h
   · rfl
 rw [this]
theorem FR.root (hm:yA m) (hq:PgOk m q) (h:FR m q f a) (hc:q.c<m.n) {t:Nat} {b:Blk} {f':Ino} (ht:t=0∨t=1∨∃ i,i<10∧t=258+i) (hidx:t<258→a t=none∧b=zB)
   (fd:∀ i,i<10→f' (4+i)=m.bk (YL a t q.c (258+i))) (f14:f' 14=m.bk (YL a t q.c 0)) (f15:f' 15=m.bk (YL a t q.c 1)) :
   FR m ((q.take m).1.setL (m.blk q.c) b) f' (YL a t q.c):=by
 have hbl:=fun k=>m.blk_lt hm k
 have ne:∀ {i j:Nat},i<m.n→j<m.n→i≠j→m.blk i≠m.blk j:=fun hi hj hne e=>hne (m.blk_inj hm hi hj e)
 rw [Zc hc]
 have hns:∀ P r,P<258→r<256→ZD P r≠t:=fun P r hP hr e=>by
   have hn:=slot_no (P:=P) hr
   rcases ht with h1 | h1 | ⟨i,hi,h1⟩
   · exact hn.1 (e.trans h1)
   · exact hn.2.1 (e.trans h1)
   · exact hn.2.2 i hi (e.trans h1)
 refine h.grow hm hc (fun h1=>⟨(hidx h1).1,fun r hr=>?_⟩) (fun P k r hP hr hk hne=>?_) (fun P r hP hr e=>absurd e (hns P r hP hr)) (fun k h1 h2=>?_) rfl fd f14 f15
 · have hb:=(hidx h1).2
   subst hb
   refine got_zero ?_
   show (q.L.set (m.blk q.c) zB)[m.blk q.c]?=_
   rw [List.getElem?_set_self (by rw [hq.len]; exact (hbl q.c).2)]
 · have:=h.lt P k hk
   exact got_setL (ne hc (by omega) (by omega))
 · show (q.L.set (m.blk q.c) b)[m.blk k]?=_
   rw [List.getElem?_set_ne (ne hc h2 (by omega))]
   exact h.z k (by omega) h2
end
theorem upd_ino {f:Ino} (h:InoOk f) {j v:Nat} (hj:2≤j) (hv:v<4294967296):InoOk (upd f j v):=fun i hi=>by
 unfold upd
 split
 · rename_i e; subst e
   unfold fw; rw [if_neg (by omega)]; exact hv
 · exact h i hi
theorem Y0 {f:Ino} (h:InoOk f):InoOk (bump f):=upd_ino h (by omega) (Nat.mod_lt _ (by omega))
structure FileRes (m:Pm) (q:Pg) (f:Ino) (r:Pg × Ino) (need:Nat) (a':Own1):Prop where
 ok:PgOk m r.1
 kept:∀ j,j<3→r.2 j=f j
 ino:InoOk f→InoOk r.2
 yes:q.c+need≤m.n→r.1.full=false∧r.1.c=q.c+need∧FR m r.1 r.2 a'
 no:¬ q.c+need≤m.n→r.1.full=true
section
variable {m:Pm} {q:Pg} {f:Ino} {a:Own1}
theorem fin_rel (hm:yA m) (hq:PgOk m q) (h:FR m q f a) (hnf:q.full=false) {P k r:Nat} (hP:P<258) (hr:r<256) (hk:a P=some k) (hs:258≤ZD P r) {b:Blk} (hb:IsB b) :
   FileRes m q f (Pg.fin m q f (m.blk k) r b) 1 (YL a (ZD P r) q.c):=by
 unfold Pg.fin
 by_cases hc:q.c<m.n
 · have e1:(q.take m).1.full=false:=by rw [Zc hc]; exact hnf
   have e2:(q.take m).2=m.blk q.c:=by rw [Zc hc]
   rw [if_neg (by rw [e1]; decide),e2]
   refine ⟨setL_ok (put_ok (take_ok hq) _ _ _) _ hb,fun j hj=>Z1 (by omega),Y0,fun _=>⟨e1,?_,h.child hm hq hc hP hr hk hb fun hlt=>by omega⟩,fun hn=>by omega⟩
   rw [Zc hc]; rfl
 · rw [YN hc,if_pos rfl]
   exact ⟨⟨hq.len,hq.is,hq.c⟩,fun _ _=>rfl,id,fun hn=>by omega,fun _=>rfl⟩
theorem top_rel (hm:yA m) (hq:PgOk m q) (h:FR m q f a) {j t:Nat} (hj:j=14∧t=0∨j=15∧t=1) (hz:a t=none) (hc:q.c<m.n) :
   FR m (q.take m).1 (upd (bump f) j (m.blk q.c)) (YL a t q.c):=by
 have hb:=m.blk_lt hm q.c
 have e:(q.take m).1.setL (m.blk q.c) zB=(q.take m).1:=setL_same (by rw [Zc hc]; exact h.z q.c (Nat.le_refl _) hc)
 have:=h.root (t:=t) (b:=zB) (f':=upd (bump f) j (m.blk q.c)) hm hq hc (by omega) (fun _=>⟨hz,rfl⟩) (fun i hi=>?_) ?_ ?_
 · rw [e] at this; exact this
 · rw [upd_ne (by omega),Z1 (by omega),ZG (by omega)]; exact h.fd i hi
 · rcases hj with ⟨rfl,rfl⟩ | ⟨rfl,rfl⟩
   · rw [upd_eq,yI]; rfl
   · rw [upd_ne (by omega),Z1 (by omega),ZG (by omega)]; exact h.f14
 · rcases hj with ⟨rfl,rfl⟩ | ⟨rfl,rfl⟩
   · rw [upd_ne (by omega),Z1 (by omega),ZG (by omega)]; exact h.f15
   · rw [upd_eq,yI]; rfl
theorem upd_self {j:Nat}:upd f j (f j)=f:=by
 funext k; unfold upd; split
 · rename_i h; rw [h]
 · rfl
def need (a:Own1) (i:Nat):Nat:=
 if i<10 then 1 else if i<266 then (if a 0=none then 2 else 1) else if a 1=none then 3 else if a (2+(i - 266) / 256)=none then 2 else 1
def grow (a:Own1) (c i:Nat):Own1:=
 if i<10 then YL a (258+i) c
 else if i<266 then (if a 0=none then YL (YL a 0 c) (258+i) (c+1) else YL a (258+i) c)
 else if a 1=none then YL (YL (YL a 1 c) (2+(i - 266) / 256) (c+1)) (258+i) (c+2)
 else if a (2+(i - 266) / 256)=none then YL (YL a (2+(i - 266) / 256) c) (258+i) (c+1) else YL a (258+i) c
theorem FileRes.after {q1:Pg} {f1:Ino} {r:Pg × Ino} {n1 n2:Nat} {a':Own1} (h:FileRes m q1 f1 r n2 a') (hc:q1.c=q.c+n1) (hk:∀ j,j<3→f1 j=f j) (hi:InoOk f→InoOk f1):FileRes m q f r (n1+n2) a':=
 ⟨h.ok,fun j hj=>(h.kept j hj).trans (hk j hj),fun x=>h.ino (hi x),fun hn=>by obtain ⟨y1,y2,y3⟩:=h.yes (by omega); exact ⟨y1,by omega,y3⟩,fun hn=>h.no (by omega)⟩
theorem dbl_rel (hm:yA m) (hq:PgOk m q) (h:FR m q f a) (hnf:q.full=false) {k pl r:Nat} (hk:a 1=some k) (hpl:pl<256) (hr:r<256) {b:Blk} (hb:IsB b) :
   FileRes m q f (Pg.dbl m q f (m.blk k) pl r b) (if a (2+pl)=none then 2 else 1) (if a (2+pl)=none then YL (YL a (2+pl) q.c) (ZD (2+pl) r) (q.c+1) else YL a (ZD (2+pl) r) q.c):=by
 have hg:q.got (m.blk k) pl=m.bk (a (2+pl)):=h.ix 1 k (by omega) hk pl hpl
 have hsl:258≤ZD (2+pl) r:=by rw [Nat.add_comm]; simp only [ZD]; omega
 unfold Pg.dbl
 rw [hg]
 by_cases hn:a (2+pl)=none
 · rw [if_pos hn,if_pos hn,hn,if_pos (show m.bk none=0 from rfl)]
   by_cases hc:q.c<m.n
   · have hbl:=m.blk_lt hm q.c
     have e1:(q.take m).1.full=false:=by rw [Zc hc]; exact hnf
     have e2:(q.take m).2=m.blk q.c:=by rw [Zc hc]
     have hq2:=put_ok (take_ok hq) (m.blk k) pl (m.blk q.c)
     have ne:m.blk q.c≠m.blk k:=fun e=>by have:=h.lt 1 k hk; have:=m.blk_inj hm hc (by omega) e; omega
     have h2:=h.child hm hq hc (P:=1) (r:=pl) (b:=zB) (by omega) hpl hk Zn (fun _=>⟨hn,rfl⟩)
     rw [setL_same (by
       show ((q.take m).1.L.set (m.blk k) _)[m.blk q.c]?=_
       rw [List.getElem?_set_ne (fun e=>ne e.symm),Zc hc]
       exact h.z q.c (Nat.le_refl _) hc)] at h2
     rw [if_neg (by rw [e1]; decide),e2]
     have hq2c:((q.take m).1.put (m.blk k) pl (m.blk q.c)).c=q.c+1:=by rw [Zc hc]; rfl
     have h3:=fin_rel hm hq2 h2 e1 (P:=2+pl) (k:=q.c) (r:=r) (by omega) hr (show YL a (ZD 1 pl) q.c (2+pl)=some q.c from yI) hsl hb
     rw [hq2c] at h3
     exact h3.after hq2c (fun j hj=>Z1 (by omega)) Y0
   · rw [YN hc,if_pos rfl]
     exact ⟨⟨hq.len,hq.is,hq.c⟩,fun _ _=>rfl,id,fun hx=>by omega,fun _=>rfl⟩
 · rw [if_neg hn,if_neg hn]
   cases hl:a (2+pl) with
   | none=>exact absurd hl hn
   | some k2=>
     rw [if_neg (show ¬ m.bk (some k2)=0 from Y1 hm k2)]
     exact fin_rel hm hq h hnf (by omega) hr hl hsl hb
theorem file_rel (hm:yA m) (hq:PgOk m q) (h:FR m q f a) (hnf:q.full=false) {i:Nat} (hi:i<65802) {b:Blk} (hb:IsB b):FileRes m q f (Pg.file m q f i b) (need a i) (grow a q.c i):=by
 have hlim:=hm.lim
 have blkw:∀ k,m.blk k<4294967296:=fun k=>by have:=(m.blk_lt hm k).2; omega
 unfold Pg.file need grow
 rw [if_neg (by omega),if_neg (by rw [hnf]; decide),Int.toNat_natCast]
 by_cases h10:i<10
 · rw [if_pos (by omega),if_pos h10,if_pos h10]
   by_cases hc:q.c<m.n
   · have e1:(q.take m).1.full=false:=by rw [Zc hc]; exact hnf
     have e2:(q.take m).2=m.blk q.c:=by rw [Zc hc]
     rw [if_neg (by rw [e1]; decide),e2]
     refine ⟨setL_ok (take_ok hq) _ hb,fun j hj=>(Z1 (by omega)).trans (upd_ne (by omega)),fun hx=>Y0 (upd_ino hx (by omega) (blkw _)),fun _=>⟨e1,by rw [Zc hc]; rfl,?_⟩,fun hn=>by omega⟩
     refine h.root hm hq hc (t:=258+i) (f':=bump (upd f (4+i) (m.blk q.c))) (.inr (.inr ⟨i,h10,rfl⟩)) (fun hlt=>by omega) (fun j hj=>?_) ?_ ?_
     · rw [Z1 (by omega)]
       unfold upd YL
       by_cases e:4+j=4+i
       · rw [if_pos e,if_pos (by omega)]; rfl
       · rw [if_neg e,if_neg (by omega)]; exact h.fd j hj
     · rw [Z1 (by omega),upd_ne (by omega),ZG (by omega)]; exact h.f14
     · rw [Z1 (by omega),upd_ne (by omega),ZG (by omega)]; exact h.f15
   · rw [YN hc,if_pos rfl]
     exact ⟨⟨hq.len,hq.is,hq.c⟩,fun _ _=>rfl,id,fun hn=>by omega,fun _=>rfl⟩
 · rw [if_neg (by omega),if_neg h10,if_neg h10]
   by_cases h266:i<266
   · rw [if_pos (by omega),if_pos h266,if_pos h266]
     have es:ZD 0 (i - 10)=258+i:=by simp only [ZD]; omega
     by_cases hz:a 0=none
     · have f14:f 14=0:=by rw [h.f14,hz]; rfl
       have et:Pg.top m q f 14=((q.take m).1,bump f,(q.take m).2):=by unfold Pg.top; rw [if_pos f14]
       rw [et,if_pos hz,if_pos hz]
       simp only
       by_cases hc:q.c<m.n
       · have e1:(q.take m).1.full=false:=by rw [Zc hc]; exact hnf
         have e2:(q.take m).2=m.blk q.c:=by rw [Zc hc]
         rw [if_neg (by rw [e1]; decide),e2]
         have h1:=top_rel hm hq h (.inl ⟨rfl,rfl⟩) hz hc
         have ec:(q.take m).1.c=q.c+1:=by rw [Zc hc]
         have h2:=fin_rel hm (take_ok hq) h1 e1 (P:=0) (k:=q.c) (r:=i - 10) (by omega) (by omega) yI (by omega) hb
         rw [es,ec] at h2
         exact h2.after ec (fun j hj=>by rw [upd_ne (by omega),Z1 (by omega)]) fun hx=>upd_ino (Y0 hx) (by omega) (blkw _)
       · rw [YN hc,if_pos rfl]
         exact ⟨⟨hq.len,hq.is,hq.c⟩,fun j hj=>Z1 (by omega),Y0,fun hn=>by omega,fun _=>rfl⟩
     · cases hl:a 0 with
       | none=>exact absurd hl hz
       | some k=>
         have f14:f 14=m.blk k:=by rw [h.f14,hl]; rfl
         have et:Pg.top m q f 14=(q,f,f 14):=by unfold Pg.top; rw [if_neg (by rw [f14]; exact Y1 hm k)]
         rw [et]
         simp only
         rw [if_neg (by rw [hnf]; decide),if_neg (show ¬ some k=none by simp),if_neg (show ¬ some k=none by simp),upd_self,f14,← es]
         exact fin_rel hm hq h hnf (by omega) (by omega) hl (by omega) hb
   · rw [if_neg (by omega),if_neg h266,if_neg h266]
     have hpl:(i - 266) / 256<256:=by omega
     have hr:(i - 266) % 256<256:=Nat.mod_lt _ (by omega)
     have es:ZD (2+(i - 266) / 256) ((i - 266) % 256)=258+i:=by rw [Nat.add_comm 2]; simp only [ZD]; omega
     by_cases hz:a 1=none
     · have f15:f 15=0:=by rw [h.f15,hz]; rfl
       have et:Pg.top m q f 15=((q.take m).1,bump f,(q.take m).2):=by unfold Pg.top; rw [if_pos f15]
       rw [et,if_pos hz,if_pos hz]
       simp only
       by_cases hc:q.c<m.n
       · have e1:(q.take m).1.full=false:=by rw [Zc hc]; exact hnf
         have e2:(q.take m).2=m.blk q.c:=by rw [Zc hc]
         rw [if_neg (by rw [e1]; decide),e2]
         have h1:=top_rel hm hq h (.inr ⟨rfl,rfl⟩) hz hc
         have ec:(q.take m).1.c=q.c+1:=by rw [Zc hc]
         have h2:=dbl_rel hm (take_ok hq) h1 e1 (k:=q.c) (pl:=(i - 266) / 256) (r:=(i - 266) % 256) yI hpl hr hb
         have hn2:YL a 1 q.c (2+(i - 266) / 256)=none:=by
           rw [ZG (by omega)]
           exact h.no 1 (by omega) hz ((i - 266) / 256) hpl
         rw [if_pos hn2,if_pos hn2,es,ec] at h2
         exact h2.after ec (fun j hj=>by rw [upd_ne (by omega),Z1 (by omega)]) fun hx=>upd_ino (Y0 hx) (by omega) (blkw _)
       · rw [YN hc,if_pos rfl]
         exact ⟨⟨hq.len,hq.is,hq.c⟩,fun j hj=>Z1 (by omega),Y0,fun hn=>by omega,fun _=>rfl⟩
     · cases hl:a 1 with
       | none=>exact absurd hl hz
       | some k=>
         have f15:f 15=m.blk k:=by rw [h.f15,hl]; rfl
         have et:Pg.top m q f 15=(q,f,f 15):=by unfold Pg.top; rw [if_neg (by rw [f15]; exact Y1 hm k)]
         rw [et]
         simp only
         rw [if_neg (by rw [hnf]; decide),if_neg (show ¬ some k=none by simp),if_neg (show ¬ some k=none by simp),upd_self,f15]
         have h2:=dbl_rel hm hq h hnf hl hpl hr hb
         rw [es] at h2
         exact h2
end
theorem yQ (f:Ino) (v:Nat):∀ j,2≤j→j<16→(Zs f).setIfInBounds j (.int .u32 v)=Zs (upd f j v)
 | 0,h,_ | 1,h,_=>by omega
 | 2,_,_ | 3,_,_ | 4,_,_ | 5,_,_ | 6,_,_ | 7,_,_ | 8,_,_ | 9,_,_ | 10,_,_ | 11,_,_ | 12,_,_ | 13,_,_ | 14,_,_ | 15,_,_=>rfl
 | n+16,_,h=>by omega
theorem u32add1 (v:Nat):IntKind.u32.wrap ((v:Int)+1)=(((v+1) % 4294967296:Nat):Int):=by
 simp [IntKind.wrap,IntKind.bits,IntKind.signed]
theorem yd:zD Tryz.prog 88=some (.agg (Zs fun _=>0)):=by kernel_rfl
section
variable {S:Nat→Prop} {H0 H:Hp} {l:List Ob} {m:Pm} {p:Nat} {q:Pg}
theorem Lo.call (h:Lo S H0 H l) {i:Nat} {x:Ob} (hi:l[i]?=some x):∃ O,x.at_ H O∧∀ (H':Hp) (x':Ob) (O':Nat→Prop),Stp O O' H H'→x'.at_ H' O'→Lo S H0 H' (l.set i x'):=by
 obtain ⟨O,ho,st⟩:=h.step hi
 exact ⟨O,ho,fun H' x' O' s hx=>st H' x' O' s.kp hx s.new⟩
theorem Lo.pg (h:Lo S H0 H l) {i:Nat} (hi:l[i]?=some (Ze m p q)):∃ sl su,H[p]?=some (.cells (pgC m.x sl su m.tn (sg m.n m.st m.tn q.c) q.full) 121)∧Sv 94 1024 H sl q.L∧Sv 4 1 H su (usC m q.c)∧PgOk m q ∧
   (∀ {K:Hp→Prop},(∀ H',Lo S H0 H' (l.set i (Ze m p ⟨q.L,q.c,true⟩))→K H')→Pu (zj (some 1) (.pointer (some ⟨p,13,none⟩)) (.bool true) H) K) ∧
   (∀ {K:Hp→Prop} {a:Nat} {b:Blk},a<m.B→IsB b→(∀ H',Lo S H0 H' (l.set i (Ze m p (q.setL a b)))→K H')→∃ bb o,(∀ k,zh (some (none,1024)) sl (.int k a)=some (.pointer (some ⟨bb,o,none⟩)))∧Pu (zj (some 1024) (.pointer (some ⟨bb,o,none⟩)) (.agg b) H) K):=by
 obtain ⟨O,⟨hq,sl,su,ha⟩,st⟩:=h.call hi
 have l0:=Lo.open ha
 refine ⟨sl,su,l0.at (i:=0) rfl,l0.sv (i:=1) rfl,l0.sv (i:=2) rfl,hq,fun hk=>?_,fun {K a b} ha hb hk=>?_⟩
 · refine l0.st (i:=0) (j:=13) (v:=.bool true) rfl (by rw [pgC_ok]; omega) rfl rfl fun H2 l2=>?_
   obtain ⟨O',s,ha'⟩:=Lo.close (l:=[_,_,_]) (r:=[]) l2
   exact hk H2 (st H2 _ O' s ⟨⟨hq.len,hq.is,hq.c⟩,sl,su,ha'⟩)
 · exact l0.slPut (i:=1) (j:=a) rfl (by rw [hq.len]; exact ha) hb.size hb.ok fun H2 l2=>by
     obtain ⟨O',s,ha'⟩:=Lo.close (l:=[_,_,_]) (r:=[]) l2
     exact hk H2 (st H2 _ O' s ⟨setL_ok hq a hb,sl,su,ha'⟩)
theorem top_after {f:Ino} {a:Own1} (hm:yA m) (hq:PgOk m q) (h:FR m q f a) (hnf:q.full=false) {j t:Nat} (hj:j=14∧t=0∨j=15∧t=1) (hn:(Pg.top m q f j).1.full=false) :
   ∃ a1 k,FR m (Pg.top m q f j).1 (upd (Pg.top m q f j).2.1 j (Pg.top m q f j).2.2) a1∧a1 t=some k∧(Pg.top m q f j).2.2=m.blk k∧PgOk m (Pg.top m q f j).1:=by
 have hfj:f j=m.bk (a t):=by
   rcases hj with ⟨rfl,rfl⟩ | ⟨rfl,rfl⟩
   · exact h.f14
   · exact h.f15
 unfold Pg.top at hn ⊢
 by_cases hz:f j=0
 · have ha:a t=none:=bk_zero hm (hfj.symm.trans hz)
   rw [if_pos hz] at hn ⊢
   by_cases hc:q.c<m.n
   · refine ⟨YL a t q.c,q.c,?_,yI,by rw [Zc hc],take_ok hq⟩
     have:=top_rel hm hq h hj ha hc
     rw [Zc hc] at this ⊢; exact this
   · rw [YN hc] at hn; cases hn
 · rw [if_neg hz]
   cases hl:a t with
   | none=>rw [hl] at hfj; exact absurd hfj hz
   | some k=>exact ⟨a,k,by rw [upd_self]; exact h,hl,by rw [hfj,hl]; rfl,hq⟩
end
section
variable {H:Hp} {R:Value→Hp→Prop} {m:Pm} {p:Nat} {q:Pg} {O:Nat→Prop} {f:Ino}
set_option maxHeartbeats 4000000 in
theorem page_file (hm:yA m) (h:(Ze m p q).at_ H O) (hr:q.full=false→∃ a,FR m q f a) (hf:InoOk f) {idx:Int} (hidx : -9223372036854775808≤idx∧idx≤9223372036854775807) {b:Blk} (hb:IsB b)
   (k:∀ H' O',Stp O O' H H'→(Ze m p (Pg.file m q f idx b).1).at_ H' O'→R (.agg (Zs (Pg.file m q f idx b).2)) H'):Fc Tryz.prog 84 #[z6 p,.agg (Zs f),zm idx,.agg b] H R:=by
 have hq:PgOk m q:=h.1
 have hlim:=hm.lim
 have blt:=fun k=>m.blk_lt hm k
 refine fn84 ?_
 simp only [sh84,yd,za,zt]
 refine (Lo.own h).boxA fun b1 H1 _ l1=>?_
 refine l1.boxA fun b2 H2 _ l2=>?_
 refine l2.boxA fun b3 H3 _ l3=>?_
 simp only [zc,zi,Nat.zero_add,za]
 have ret:∀ {H':Hp} {q':Pg} {f' g:Ino},Lo O H H' [Ze m p q',.box b1 (Zs f') 88,.box b2 b 94,.box b3 (Zs g) 88]→Pg.file m q f idx b=(q',f') →
     Pu (zb (some (some 16)) (.pointer (some ⟨b1,0,none⟩)) H') fun x=>Pu (zj (some 16) (.pointer (some ⟨b3,0,none⟩)) x H') fun H5=>Pu (zb (some (some 16)) (.pointer (some ⟨b3,0,none⟩)) H5) fun x10=>R x10 H5:=fun {H' q' f' g} l e=>by
   rw [l.ldAll (i:=1) (n:=16) rfl (zz _),za]
   refine l.ret (i:=3) rfl (zz _) (zz _) (Z0 _) fun H5 l5=>?_
   obtain ⟨O',s,ha'⟩:=Lo.close (l:=[Ze m p q']) (r:=[.box b1 (Zs f') 88,.box b2 b 94,.box b3 (Zs f') 88]) l5
   have k:=k H5 O' s
   rw [e] at k
   exact k ⟨(by obtain ⟨⟨col,w,_⟩,_⟩:=ha'; exact (w.obs 0 _ rfl).1),by
     obtain ⟨⟨col,w,hc⟩,hl⟩:=ha'
     obtain ⟨hq',sl,su,hx⟩:=w.obs 0 _ rfl
     exact ⟨sl,su,Ob.frame _ hx (fun _ _=>rfl) (Nat.le_refl _) (fun b hb=>hc b (by have hb:col b=0+1:=hb; omega)) hl⟩⟩
 have fin:∀ {H':Hp} {q':Pg} {f':Ino} {tp pl:Nat},Lo O H H' [Ze m p q',.box b1 (Zs f') 88,.box b2 b 94,.box b3 (Zs fun _=>0) 88]→Pg.file m q f idx b=Pg.fin m q' f' tp pl b→tp<m.B→pl<256→PgOk m q' →
     Fc Tryz.prog 130 #[z6 p] H' fun x49 H16=>
       Pu (zb (some none) (.pointer (some ⟨p,13,none⟩)) H16) fun x52=>
       Ite x52
        (Pu (zb (some (some 16)) (.pointer (some ⟨b1,0,none⟩)) H16) fun x53=>
        Pu (zj (some 16) (.pointer (some ⟨b3,0,none⟩)) x53 H16) fun H17=>
        Pu (zb (some (some 16)) (.pointer (some ⟨b3,0,none⟩)) H17) fun x54=>
        R x54 H17)
        (Pu (zb (some none) (.pointer (some ⟨b1,3,none⟩)) H16) fun x56=>
        Pu (zo (some (.int .u32)) .add x56 (.int .u32 1)) fun x57=>
        Pu (zj (some 1) (.pointer (some ⟨b1,3,none⟩)) x57 H16) fun H18=>
        Fc Tryz.prog 132 #[z6 p,zm tp,zm pl,x49] H18 fun x59 H19=>
        Pu (zb (some none) (.pointer (some ⟨p,9,none⟩)) H19) fun x62=>
        Pu (zb (some (some 1024)) (.pointer (some ⟨b2,0,none⟩)) H19) fun x63=>
        Pu (zh (some (none,1024)) x62 x49) fun x64=>
        Pu (zj (some 1024) x64 x63 H19) fun H20=>
        Pu (zb (some (some 16)) (.pointer (some ⟨b1,0,none⟩)) H20) fun x65=>
        Pu (zj (some 16) (.pointer (some ⟨b3,0,none⟩)) x65 H20) fun H21=>
        Pu (zb (some (some 16)) (.pointer (some ⟨b3,0,none⟩)) H21) fun x66=>
        R x66 H21):=fun {H' q' f' tp pl} l e htp hpl hq'=>by
   obtain ⟨O1,ho1,st1⟩:=l.call (i:=0) rfl
   refine page_take hm ho1 fun H16 O16 s16 h16=>?_
   have l16:=st1 H16 _ O16 s16 h16
   obtain ⟨sl,su,g16,_⟩:=l16.pg (i:=0) rfl
   rw [zq g16,pgC13,za,Zz]
   refine ⟨fun hfu=>ret l16 (by rw [e,Pg.fin,if_pos hfu]),fun hfu=>?_⟩
   have hc:q'.c<m.n:=by
     rcases Nat.lt_or_ge q'.c m.n with h1 | h1
     · exact h1
     · rw [YN (by omega)] at hfu; cases hfu
   have e2:(q'.take m).2=m.blk q'.c:=by rw [Zc hc]
   rw [l16.ld (i:=1) rfl,ZI f' 3 (by omega) (by omega),za,zk,za,u32add1]
   refine l16.st (i:=1) (j:=3) (v:=.int .u32 ((f' 3+1) % 4294967296:Nat)) rfl (by rw [zz]; omega) rfl rfl fun H18 l18=>?_
   rw [yQ f' _ 3 (by omega) (by omega)] at l18
   rw [e2]
   obtain ⟨O18,ho18,st18⟩:=l18.call (i:=0) rfl
   refine page_put hm ho18 htp hpl (by have:=(blt q'.c).2; omega) fun H19 O19 s19 h19=>?_
   have l19:=st18 H19 _ O19 s19 h19
   obtain ⟨sl,su,g19,_,_,_,_,stL⟩:=l19.pg (i:=0) rfl
   rw [zq g19,pgC9,za]
   rw [l19.ldAll (i:=2) (n:=1024) rfl hb.size,za]
   obtain ⟨bb,o,ha,hst⟩:=stL (a:=m.blk q'.c) (b:=b) (blt q'.c).2 hb (K:=fun H20=>Pu (zb (some (some 16)) (.pointer (some ⟨b1,0,none⟩)) H20) fun x65=>Pu (zj (some 16) (.pointer (some ⟨b3,0,none⟩)) x65 H20) fun H21=>Pu (zb (some (some 16)) (.pointer (some ⟨b3,0,none⟩)) H21) fun x66=>R x66 H21)
     fun H20 l20=>ret l20 (by rw [e,Pg.fin,if_neg (by rw [hfu]; decide),e2]; rfl)
   rw [ha,za]
   exact hst
 refine zS.mk (fun _ H'=>Lo O H H' [Ze m p (if idx<0∨65802≤idx then ⟨q.L,q.c,true⟩ else q),.box b1 (Zs f) 88,.box b2 b 94,.box b3 (Zs fun _=>0) 88]) ?_ ?_
 · intro s H4 l4
   obtain ⟨sl,su,g4,_⟩:=l4.pg (i:=0) rfl
   rw [zq g4,pgC13,za,Zz]
   refine ⟨fun hfu=>?_,fun hfu=>?_⟩
   · refine ret l4 ?_
     unfold Pg.file
     by_cases hbad:idx<0∨65802≤idx
     · rw [if_pos hbad,if_pos hbad]
     · rw [if_neg hbad] at hfu ⊢
       rw [if_neg hbad,if_pos hfu]
   · have hbad:¬ (idx<0∨65802≤idx):=fun hb=>by rw [if_pos hb] at hfu; cases hfu
     rw [if_neg hbad] at hfu l4
     obtain ⟨a,hfr⟩:=hr hfu
     obtain ⟨i,rfl⟩:∃ i:Nat,idx=i:=⟨idx.toNat,by omega⟩
     have hi:i<65802:=by omega
     have efile:=fun (x:Pg × Ino) (hx:(if (i:Int)<10 then
         if (q.take m).1.full then ((q.take m).1,f) else ((q.take m).1.setL (q.take m).2 b,bump (upd f (4+i) (q.take m).2))
       else if (i:Int)<266 then
         if (Pg.top m q f 14).1.full then ((Pg.top m q f 14).1,(Pg.top m q f 14).2.1) else Pg.fin m (Pg.top m q f 14).1 (upd (Pg.top m q f 14).2.1 14 (Pg.top m q f 14).2.2) (Pg.top m q f 14).2.2 (i - 10) b
       else
         if (Pg.top m q f 15).1.full then ((Pg.top m q f 15).1,(Pg.top m q f 15).2.1) else Pg.dbl m (Pg.top m q f 15).1 (upd (Pg.top m q f 15).2.1 15 (Pg.top m q f 15).2.2) (Pg.top m q f 15).2.2 ((i - 266) / 256) ((i - 266) % 256) b)=x)=>
       (show Pg.file m q f i b=x by unfold Pg.file; rw [if_neg hbad,if_neg (by rw [hfu]; decide),Int.toNat_natCast]; exact hx)
     rw [zr,za,zf]
     refine ⟨fun h10=>?_,fun h10=>?_⟩
     · obtain ⟨O4,ho4,st4⟩:=l4.call (i:=0) rfl
       refine page_take hm ho4 fun H6 O6 s6 h6=>?_
       have l6:=st4 H6 _ O6 s6 h6
       obtain ⟨sl,su,g6,_⟩:=l6.pg (i:=0) rfl
       rw [zq g6,pgC13,za,Zz]
       refine ⟨fun hfu2=>ret l6 (efile _ (by rw [if_pos h10,if_pos hfu2])),fun hfu2=>?_⟩
       have hc:q.c<m.n:=by
         rcases Nat.lt_or_ge q.c m.n with h1 | h1
         · exact h1
         · rw [YN (by omega)] at hfu2; cases hfu2
       have e2:(q.take m).2=m.blk q.c:=by rw [Zc hc]
       have hbc:=blt q.c
       rw [e2,zE,za,u32nat (by omega),zG (by omega),za,Nat.mul_one]
       refine l6.st (i:=1) (j:=4+i) (v:=.int .u32 (m.blk q.c:Nat)) rfl (by rw [zz]; omega) rfl rfl fun H8 l8=>?_
       rw [yQ f _ (4+i) (by omega) (by omega)] at l8
       rw [l8.ld (i:=1) rfl,ZI _ 3 (by omega) (by omega),za,zk,za,u32add1]
       refine l8.st (i:=1) (j:=3) (v:=.int .u32 ((upd f (4+i) (m.blk q.c) 3+1) % 4294967296:Nat)) rfl (by rw [zz]; omega) rfl rfl fun H9 l9=>?_
       rw [yQ _ _ 3 (by omega) (by omega)] at l9
       obtain ⟨sl,su,g9,_,_,_,_,stL⟩:=l9.pg (i:=0) rfl
       rw [zq g9,pgC9,za]
       rw [l9.ldAll (i:=2) (n:=1024) rfl hb.size,za]
       obtain ⟨bb,o,ha,hst⟩:=stL (a:=m.blk q.c) (b:=b) hbc.2 hb (K:=fun H20=>Pu (zb (some (some 16)) (.pointer (some ⟨b1,0,none⟩)) H20) fun x65=>Pu (zj (some 16) (.pointer (some ⟨b3,0,none⟩)) x65 H20) fun H21=>Pu (zb (some (some 16)) (.pointer (some ⟨b3,0,none⟩)) H21) fun x66=>R x66 H21)
         fun H20 l20=>ret l20 (efile _ (by rw [if_pos h10,if_neg (by rw [hfu2]; decide),e2]; rfl))
       rw [ha,za]
       exact hst
     · have h14:=hf.lt (j:=14) (by omega)
       have h15:=hf.lt (j:=15) (by omega)
       rw [l4.ld (i:=1) rfl,ZI f 14 (by omega) (by omega),za,zE,za,zv (by omega),zO,za,zg (by omega) (by omega)]
       obtain ⟨j,pl,tt,hj,hjp⟩:∃ j pl tt:Nat,(j=14∧tt=0∨j=15∧tt=1)∧((i<266∧j=14∧pl=i - 10)∨(266≤i∧j=15∧pl=(i - 266) / 256)):=by
         by_cases h266:i<266
         · exact ⟨14,i - 10,0,.inl ⟨rfl,rfl⟩,.inl ⟨h266,rfl,rfl⟩⟩
         · exact ⟨15,(i - 266) / 256,1,.inr ⟨rfl,rfl⟩,.inr ⟨by omega,rfl,rfl⟩⟩
       have hpl:pl<256:=by omega
       refine zS.mk (fun s H'=>H'=H4∧s=(zm (f j),zm pl,())) ?_ ?_
       · rintro _ H12 ⟨rfl,rfl⟩
         refine zS.mk (fun s H'=>s.1=zm (Pg.top m q f j).2.2∧Lo O H H' [Ze m p (Pg.top m q f j).1,.box b1 (Zs (Pg.top m q f j).2.1) 88,.box b2 b 94,.box b3 (Zs fun _=>0) 88]) ?_ ?_
         · rintro ⟨s,u⟩ H13 ⟨hs,l13⟩
           simp only at hs
           subst hs
           obtain ⟨sl,su,g13,_⟩:=l13.pg (i:=0) rfl
           rw [zq g13,pgC13,za,Zz]
           refine ⟨fun hfu2=>ret l13 (efile _ ?_),fun hfu2=>?_⟩
           · rw [if_neg h10]
             rcases hjp with ⟨h1,rfl,rfl⟩ | ⟨h1,rfl,rfl⟩
             · rw [if_pos (by omega),if_pos hfu2]
             · rw [if_neg (by omega),if_pos hfu2]
           · obtain ⟨a1,kk,hfr1,hak,htop,hq1⟩:=top_after hm hq hfr hfu hj hfu2
             have hkb:=blt kk
             rw [htop]
             refine zS.mk (fun s H'=>∃ (q2:Pg) (f2:Ino) (tp pl2:Nat),s=(zm tp,zm pl2,())∧Lo O H H' [Ze m p q2,.box b1 (Zs f2) 88,.box b2 b 94,.box b3 (Zs fun _=>0) 88]∧Pg.file m q f i b=Pg.fin m q2 f2 tp pl2 b∧tp<m.B∧pl2<256∧PgOk m q2) ?_ ?_
             · rintro _ H15 ⟨q2,f2,tp,pl2,rfl,l15,e15,htp,hpl2,hq2⟩
               exact fin l15 e15 htp hpl2 hq2
             · rw [zr,za,zf]
               refine ⟨fun h266=>?_,fun h266=>?_⟩
               · rcases hjp with ⟨h1,rfl,rfl⟩ | ⟨h1,rfl,rfl⟩
                 · rw [zE,za,u32nat (by omega)]
                   refine l13.st (i:=1) (j:=14) (v:=.int .u32 (m.blk kk:Nat)) rfl (by rw [zz]; omega) rfl rfl fun H22 l22=>?_
                   rw [yQ _ _ 14 (by omega) (by omega)] at l22
                   exact ⟨_,_,_,_,rfl,l22,efile _ (by rw [if_neg h10,if_pos (by omega),if_neg (by rw [hfu2]; decide),htop]),hkb.2,hpl,hq1⟩
                 · omega
               · rcases hjp with ⟨h1,rfl,rfl⟩ | ⟨h1,rfl,rfl⟩
                 · omega
                 · obtain ⟨_,rfl⟩ | ⟨_,rfl⟩:=hj
                   · omega
                   rw [htop] at hfr1
                   rw [zE,za,u32nat (by omega)]
                   refine l13.st (i:=1) (j:=15) (v:=.int .u32 (m.blk kk:Nat)) rfl (by rw [zz]; omega) rfl rfl fun H23 l23=>?_
                   rw [yQ _ _ 15 (by omega) (by omega)] at l23
                   have ef:=fun x (hx:Pg.dbl m (Pg.top m q f 15).1 (upd (Pg.top m q f 15).2.1 15 (m.blk kk)) (m.blk kk) ((i - 266) / 256) ((i - 266) % 256) b=x)=>efile x (by rw [if_neg h10,if_neg (by omega),if_neg (by rw [hfu2]; decide),htop]; exact hx)
                   have hgot:(Pg.top m q f 15).1.got (m.blk kk) ((i - 266) / 256)=m.bk (a1 (2+(i - 266) / 256)):=hfr1.ix 1 kk (by omega) hak _ hpl
                   obtain ⟨O23,ho23,st23⟩:=l23.call (i:=0) rfl
                   refine page_got hm ho23 hkb.2 hpl ?_
                   generalize hgv:(Pg.top m q f 15).1.got (m.blk kk) ((i - 266) / 256)=gv at hgot ef
                   have hgvB:gv<m.B:=by
                     rw [hgot]
                     cases a1 (2+(i - 266) / 256) with
                     | none=>show 0<_; have:=hm.pos; have:=hm.n; omega
                     | some k2=>exact (blt k2).2
                   refine zS.mk (fun s H'=>∃ (q2:Pg) (f2:Ino) (lw:Nat),s.1=zm lw∧Lo O H H' [Ze m p q2,.box b1 (Zs f2) 88,.box b2 b 94,.box b3 (Zs fun _=>0) 88]∧Pg.file m q f i b=Pg.fin m q2 f2 lw ((i - 266) % 256) b∧lw<m.B∧PgOk m q2) ?_ ?_
                   · rintro ⟨s,u⟩ H25 ⟨q2,f2,lw,hs,l25,e25,hlw,hq2⟩
                     simp only at hs
                     subst hs
                     rw [za,zO,za,zg (by omega) (by omega),zW (by decide),za,Za (by omega)]
                     refine ⟨q2,f2,lw,(i - 266) % 256,?_,l25,e25,hlw,Nat.mod_lt _ (by omega),hq2⟩
                     rw [show ((i:Int) - 10 - 256) % 256=(((i - 266) % 256:Nat):Int) by omega]
                     rfl
                   · rw [zy,za,zf]
                     refine ⟨fun hz=>?_,fun hz=>?_⟩
                     · have hz:gv=0:=by omega
                       obtain ⟨O24,ho24,st24⟩:=l23.call (i:=0) rfl
                       refine page_take hm ho24 fun H26 O26 s26 h26=>?_
                       have l26:=st24 H26 _ O26 s26 h26
                       obtain ⟨sl,su,g26,_⟩:=l26.pg (i:=0) rfl
                       rw [zq g26,pgC13,za,Zz]
                       refine ⟨fun hfu3=>ret l26 (ef _ (by unfold Pg.dbl; rw [hgv,if_pos hz,if_pos hfu3])),fun hfu3=>?_⟩
                       have hc:(Pg.top m q f 15).1.c<m.n:=by
                         rcases Nat.lt_or_ge (Pg.top m q f 15).1.c m.n with h1 | h1
                         · exact h1
                         · rw [YN (by omega)] at hfu3; cases hfu3
                       have e2:((Pg.top m q f 15).1.take m).2=m.blk (Pg.top m q f 15).1.c:=by rw [Zc hc]
                       have hbc:=blt (Pg.top m q f 15).1.c
                       rw [l26.ld (i:=1) rfl,ZI _ 3 (by omega) (by omega),za,zk,za,u32add1]
                       refine l26.st (i:=1) (j:=3) (v:=.int .u32 _) rfl (by rw [zz]; omega) rfl rfl fun H28 l28=>?_
                       rw [yQ _ _ 3 (by omega) (by omega)] at l28
                       rw [e2]
                       obtain ⟨O28,ho28,st28⟩:=l28.call (i:=0) rfl
                       refine page_put hm ho28 hkb.2 hpl (by omega) fun H29 O29 s29 h29=>?_
                       have l29:=st28 H29 _ O29 s29 h29
                       exact ⟨_,_,_,rfl,l29,ef _ (by unfold Pg.dbl; rw [hgv,if_pos hz,if_neg (by rw [hfu3]; decide),e2]; rfl),hbc.2,put_ok (take_ok hq1) _ _ _⟩
                     · exact ⟨_,_,gv,rfl,l23,ef _ (by unfold Pg.dbl; rw [hgv,if_neg (by omega)]),hgvB,hq1⟩
         · rw [zy,za,zf]
           have hjf:f j<4294967296:=hf.lt (by omega)
           refine ⟨fun hz=>?_,fun hz=>?_⟩
           · have et:Pg.top m q f j=((q.take m).1,bump f,(q.take m).2):=by unfold Pg.top; rw [if_pos (by omega)]
             rw [et]
             obtain ⟨O4,ho4,st4⟩:=l4.call (i:=0) rfl
             refine page_take hm ho4 fun H6 O6 s6 h6=>?_
             have l6:=st4 H6 _ O6 s6 h6
             rw [l6.ld (i:=1) rfl,ZI _ 3 (by omega) (by omega),za,zk,za,u32add1]
             refine l6.st (i:=1) (j:=3) (v:=.int .u32 ((f 3+1) % 4294967296:Nat)) rfl (by rw [zz]; omega) rfl rfl fun H8 l8=>?_
             rw [yQ _ _ 3 (by omega) (by omega)] at l8
             exact ⟨rfl,l8⟩
           · have et:Pg.top m q f j=(q,f,f j):=by unfold Pg.top; rw [if_neg (by omega)]
             rw [et]
             exact ⟨rfl,l4⟩
       · rw [zQ,za,zf]
         refine ⟨fun hge=>?_,fun hlt=>?_⟩
         · rcases hjp with ⟨h1,rfl,rfl⟩ | ⟨h1,rfl,rfl⟩
           · omega
           · rw [l4.ld (i:=1) rfl,ZI f 15 (by omega) (by omega),za,zE,za,zv (by omega),za,zO,za,zg (by omega) (by omega),Zh (by decide),za,Zl (by omega),zg (by omega) (by omega)]
             refine ⟨rfl,?_⟩
             rw [show ((i:Int) - 10 - 256) / 256=(((i - 266) / 256:Nat):Int) by omega]; rfl
         · rcases hjp with ⟨h1,rfl,rfl⟩ | ⟨h1,rfl,rfl⟩
           · refine ⟨rfl,?_⟩
             rw [show ((i:Int) - 10)=((i - 10:Nat):Int) by omega]; rfl
           · omega
 · refine zS.mk (fun s H'=>H'=H3∧s.1=.bool (decide (idx<0∨65802≤idx))) ?_ ?_
   · rintro ⟨s,u⟩ H32 ⟨rfl,hs⟩
     simp only at hs
     subst hs
     simp only [zf]
     refine ⟨fun hb=>?_,fun hb=>?_⟩
     · rw [if_pos hb]
       obtain ⟨sl,su,g3,_,_,_,stF,_⟩:=l3.pg (i:=0) rfl
       exact stF fun H33 l33=>l33
     · rw [if_neg hb]; exact l3
   · simp only [zr,zQ,za,zf]
     refine ⟨fun h1=>⟨by trivial,?_⟩,fun h1=>⟨by trivial,?_⟩⟩
     · rw [decide_eq_true (.inl h1)]
     · congr 1; rw [decide_eq_decide]; omega
end
end Go.Vc
namespace Go.Vc
open Go.Proofs Classical
theorem Sr.el {n:Nat} {H:Hp} {s:Value} {vs:List (Array Value)} (h:Sr n H s vs) {i:Nat} {v:Array Value} (hi:vs[i]?=some v):∃ b o,(∀ k,zh (some (none,n)) s (.int k i)=some (.pointer (some ⟨b,o,none⟩)))∧(∀ j,j<n→zb (some none) (.pointer (some ⟨b,o+j,none⟩)) H=v[j]?) ∧
   (∀ j m,j+m≤n→zb (some (some m)) (.pointer (some ⟨b,o+j,none⟩)) H=some (.agg (v.extract j (j+m)))):=by
 obtain ⟨b,o,hr,ha⟩:=h.elem hi
 refine ⟨b,o,ha,fun j hj=>rowH_cell hr hj,fun j m hjm=>?_⟩
 unfold rowH at hr
 simp only at hr
 split at hr
 · rename_i c T z hg
   split at hr
   · rename_i hs
     injection hr with hr
     have hsz:o+j+m≤c.size:=by have:=hs.2; omega
     rw [Zp hg hsz,← hr]
     congr 2
     apply Array.ext_getElem?
     intro x
     rw [Array.getElem?_extract,Array.getElem?_extract,Array.getElem?_extract]
     have h2:=hs.2
     by_cases hx:x<m
     · rw [if_pos (by omega),if_pos (by rw [Array.size_extract]; omega),if_pos (by omega)]
       congr 1; omega
     · rw [if_neg (by omega),if_neg (by omega)]
   · cases hr
 · cases hr
def CpyI (b x:Array Value) (o i:Nat) (bi:Array Value):Prop:=IsB bi∧∀ j,j<1024→byt bi j=if o≤j∧j<o+i then byt x (j - o) else byt b j
theorem CpyI.zero {b x:Array Value} {o:Nat} (h:IsB b):CpyI b x o 0 b:=⟨h,fun j _=>by rw [if_neg (by omega)]⟩
theorem CpyI.step {b x bi:Array Value} {o i n:Nat} (hx:IsN n x) (hi:i<n) (ho:o+n≤1024) (h:CpyI b x o i bi):CpyI b x o (i+1) (bi.setIfInBounds (o+i) (.int .u8 (byt x i))):=by
 refine ⟨h.1.set _ (hx.lt i),fun j hj=>?_⟩
 rw [byt_set h.1 (by omega),h.2 j hj]
 by_cases h1:o+i=j
 · subst h1
   rw [if_pos rfl,if_pos (by omega)]; congr 1; omega
 · rw [if_neg h1]
   by_cases h2:o≤j∧j<o+i
   · rw [if_pos h2,if_pos (by omega)]
   · rw [if_neg h2,if_neg (by omega)]
theorem CpyI.done {b x bi:Array Value} {o n:Nat} (hb:IsB b) (hx:IsN n x) (ho:o+n≤1024) (h:CpyI b x o n bi):bi=zZ b o x:=by
 refine h.1.ext (yg hb.n hx ho).b fun j hj=>?_
 rw [h.2 j hj,byt_splice hb.n hx ho]
def sb (s:ByteArray) (i:Nat):Nat:=(s[i]?.map UInt8.toNat).getD 0
theorem sb_lt (s:ByteArray) (i:Nat):sb s i<256:=by
 unfold sb
 cases s[i]? with
 | none=>simp
 | some b=>simpa using b.toNat_lt
theorem undStr:Tryz.prog.underlying 9=some .string:=by kernel_rfl
theorem str_idx {s:ByteArray} {i:Nat} {k:IntKind} (h:i<s.size):idxE Tryz.prog 9 (.string s) (.int k i)=some (.int .u8 (sb s i)):=by
 unfold idxE
 rw [undStr]
 simp only
 rw [if_pos (by omega),Int.toNat_natCast]
 unfold sb
 rw [getElem?_pos s i h]; rfl
theorem str_len (s:ByteArray):lenE Tryz.prog 9 (.string s)=some (zm s.size):=by
 unfold lenE; rw [undStr]; rfl
theorem str_nil (s:ByteArray):(s.toList == (⟨#[]⟩:ByteArray).toList)=decide (s.size=0):=by
 rw [ByteArray.toList_eq,ByteArray.toList_eq,Bool.eq_iff_iff,beq_iff_eq,decide_eq_true_eq]
 constructor
 · intro h
   have h2:=congrArg List.length h
   rw [Array.length_toList] at h2
   exact h2
 · intro h
   have:s.data=#[]:=Array.eq_empty_of_size_eq_zero h
   rw [this]
noncomputable def nameE (s:ByteArray):Int:=if s.size=0 then 4 else if ∃ i,i<s.size∧(sb s i=0∨sb s i=47) then 4 else if 14<s.size then 12 else 0
abbrev Ent:=Nat × ByteArray
def ZP (e:Ent):Array Value:=#[.int .u16 e.1,.string e.2]
def entL (c:Array Value) (s:ByteArray):Nat→Array Value
 | 0=>c
 | i+1=>(entL c s i).setIfInBounds (2+i) (.int .u8 (sb s i))
noncomputable def encE (e:Ent):Array Value:=if e.1=0 then zR 16 else if nameE e.2≠0 then zR 16 else entL (((zR 16).setIfInBounds 0 (.int .u8 (e.1 % 256:Nat))).setIfInBounds 1 (.int .u8 (e.1 / 256 % 256:Nat))) e.2 e.2.size
noncomputable def encR (e:Ent):Int:=if e.1=0 then (if e.2.size=0 then 0 else 4) else nameE e.2
theorem entL_is {c:Array Value} (h:IsN 16 c) (s:ByteArray):∀ n,IsN 16 (entL c s n)
 | 0=>h
 | n+1=>(entL_is h s n).set _ (sb_lt s n)
theorem YX (e:Ent):IsN 16 (encE e):=by
 unfold encE
 split
 · exact yi 16
 · split
   · exact yi 16
   · exact entL_is (((yi 16).set 0 (Nat.mod_lt _ (by omega))).set 1 (Nat.mod_lt _ (by omega))) _ _
theorem nameE_size {s:ByteArray} (h:nameE s=0):s.size≤14:=by
 unfold nameE at h
 split at h
 · omega
 · split at h
   · omega
   · split at h <;> omega
theorem zero16:zD Tryz.prog 57=some (.agg (zR 16)):=by kernel_rfl
section
variable {H:Hp} {R:Value→Hp→Prop}
theorem name18 {s:ByteArray} (hs:s.size<9223372036854775808) (h:R (zm (nameE s)) H):Fc Tryz.prog 28 #[.string s] H R:=by
 refine fn28 ?_
 simp only [sh28,zt]
 rw [show zo (some .string) .eql (.string s) (.string ⟨#[]⟩)=some (.bool (s.toList == (⟨#[]⟩:ByteArray).toList)) from rfl,str_nil,za,zf]
 refine ⟨fun h0=>?_,fun h0=>?_⟩
 · have e:nameE s=4:=by unfold nameE; rw [if_pos h0]
   rw [e] at h; exact h
 · refine zx.mk (fun t H'=>H'=H∧∃ i:Nat,i≤s.size∧t=(zm i,())∧∀ j,j<i→sb s j≠0∧sb s j≠47) (fun t _=>mi t.1 fun i=>(s.size - i).toNat) ⟨rfl,0,by omega,rfl,fun j hj=>by omega⟩ ?_
   rintro _ H1 ⟨rfl,i,hi,rfl,hg⟩
   rw [str_len,za,zr,za,zf]
   refine ⟨fun hlt=>?_,fun hge=>?_⟩
   · refine zS.mk (fun t H'=>H'=H1∧t.1=.bool (decide (sb s i=0∨sb s i=47))) ?_ ?_
     · rintro ⟨t,u⟩ H2 ⟨rfl,ht⟩
       simp only at ht
       subst ht
       rw [zf]
       refine ⟨fun hb=>?_,fun hb=>?_⟩
       · have e:nameE s=4:=by unfold nameE; rw [if_neg h0,if_pos ⟨i,by omega,hb⟩]
         rw [e] at h; exact h
       · rw [zk,za,zK,zv (by omega)]
         refine ⟨⟨rfl,i+1,by omega,rfl,fun j hj=>?_⟩,by simp only [zC]; omega⟩
         rcases Nat.lt_or_ge j i with h1 | h1
         · exact hg j h1
         · have:j=i:=by omega
           subst this; omega
     · rw [str_idx (by omega),za,zy,za,zf]
       refine ⟨fun h1=>⟨rfl,?_⟩,fun h1=>?_⟩
       · rw [decide_eq_true (.inl (by omega))]
       · rw [za,zy,za]
         refine ⟨rfl,?_⟩
         show Value.bool _=Value.bool _
         congr 1; rw [decide_eq_decide]; omega
   · have ei:i=s.size:=by omega
     subst ei
     have hno:¬ ∃ i,i<s.size∧(sb s i=0∨sb s i=47):=fun ⟨j,hj,hb⟩=>by have:=hg j hj; omega
     rw [za,zL,za,zf]
     refine ⟨fun h1=>?_,fun h1=>?_⟩
     · have e:nameE s=12:=by unfold nameE; rw [if_neg h0,if_neg hno,if_pos (by omega)]
       rw [e] at h; exact h
     · have e:nameE s=0:=by unfold nameE; rw [if_neg h0,if_neg hno,if_neg (by omega)]
       rw [e] at h; exact h
theorem enc18 {e:Ent} (h1:e.1<65536) (hs:e.2.size<9223372036854775808) (k:∀ H',Ext H H'→R (.tuple #[.agg (encE e),zm (encR e)]) H'):Fc Tryz.prog 13 #[.agg (ZP e)] H R:=by
 obtain ⟨n,s⟩:=e
 simp only at h1 hs
 have hz:IsN 16 (zR 16):=yi 16
 refine fn13 ?_
 simp only [sh13,zero16,za,zt]
 refine (Lo.start _ H:Lx H H []).boxA fun b1 H1 _ l1=>?_
 refine l1.boxA fun b2 H2 _ l2=>?_
 refine l2.boxA fun b3 H3 _ l3=>?_
 simp only [zi,Nat.zero_add,za]
 have e0:(ZP (n,s))[0]?=some (.int .u16 n):=rfl
 have e1:(ZP (n,s))[1]?=some (.string s):=rfl
 have ret:∀ {H':Hp} {c:Array Value} {r:Int},Lx H H' [.box b1 (ZP (n,s)) 61,.box b2 (zR 16) 57,.box b3 c 57]→IsN 16 c→encE (n,s)=c→encR (n,s)=r →
     Pu (zb (some (some 16)) (.pointer (some ⟨b3,0,none⟩)) H') fun x=>Pu (zj (some 16) (.pointer (some ⟨b2,0,none⟩)) x H') fun H4=>Pu (zb (some (some 16)) (.pointer (some ⟨b2,0,none⟩)) H4) fun x=>R (.tuple #[x,zm r]) H4:=fun {H' c r} l hc ec er=>by
   rw [l.ldAll (i:=2) (n:=16) rfl hc.size,za]
   refine l.ret (i:=1) (K:=fun x H4=>R (.tuple #[x,zm r]) H4) rfl hz.size hc.size hc.ok fun H4 l4=>?_
   rw [← ec,← er]
   exact k H4 l4.ext0
 rw [l3.ld (i:=0) rfl,e0,za,zy,za,zf]
 refine ⟨fun hn=>?_,fun hn=>?_⟩
 · have hn:n=0:=by omega
   rw [l3.ld (i:=0) rfl,e1,za,show zo (some .string) .neq (.string s) (.string ⟨#[]⟩)=some (.bool !(s.toList == (⟨#[]⟩:ByteArray).toList)) from rfl,str_nil,za,yy]
   refine ⟨fun hb=>ret (r:=4) l3 hz (by unfold encE; rw [if_pos hn]) ?_,fun hb=>ret (r:=0) l3 hz (by unfold encE; rw [if_pos hn]) ?_⟩
   · unfold encR; rw [if_pos hn,if_neg (by simpa using hb)]
   · unfold encR; rw [if_pos hn,if_pos (by simpa using hb)]
 · have hn0:¬ n=0:=by omega
   rw [l3.ld (i:=0) rfl,e1,za]
   refine name18 hs ?_
   rw [zw,za,zf]
   refine ⟨fun hb=>ret l3 hz (by unfold encE; rw [if_neg hn0,if_pos hb]) (by unfold encR; rw [if_neg hn0]),fun hb=>?_⟩
   have hb0:nameE s=0:=Classical.not_not.1 hb
   have hs14:=nameE_size hb0
   rw [l3.ld (i:=0) rfl,e0,za,zW (by decide),za,zE,za,u8mod,show (0:Int)=((0:Nat):Int) from rfl,zG (by omega),za]
   refine l3.st (i:=2) (j:=0) (v:=.int .u8 (n % 256:Nat)) rfl (by rw [hz.size]; omega) rfl rfl fun H8 l8=>?_
   rw [l8.ld (i:=0) rfl,e0,za,Zh (by decide),za,quo256,Zv (by omega) (by omega),zE,za,u8wrap_id (by omega) (by omega),show (1:Int)=((1:Nat):Int) from rfl,zG (by omega),za]
   refine l8.st (i:=2) (j:=1) (v:=.int .u8 (n / 256:Nat)) rfl (by simp) rfl rfl fun H9 l9=>?_
   have hc0:IsN 16 (((zR 16).setIfInBounds 0 (.int .u8 (n % 256:Nat))).setIfInBounds 1 (.int .u8 (n / 256:Nat))):=(hz.set 0 (Nat.mod_lt _ (by omega))).set 1 (by omega)
   refine zx.mk (fun t H'=>∃ i:Nat,i≤s.size∧t=(zm i,())∧Lx H H' [.box b1 (ZP (n,s)) 61,.box b2 (zR 16) 57,.box b3 (entL (((zR 16).setIfInBounds 0 (.int .u8 (n % 256:Nat))).setIfInBounds 1 (.int .u8 (n / 256:Nat))) s i) 57])
     (fun t _=>mi t.1 fun i=>(s.size - i).toNat) ⟨0,by omega,rfl,l9⟩ ?_
   rintro _ H10 ⟨i,hi,rfl,l10⟩
   rw [l10.ld (i:=0) rfl,e1,za,str_len,za,zr,za,zf]
   refine ⟨fun hlt=>?_,fun hge=>?_⟩
   · rw [zk,za,zg (by omega) (by omega),za,str_idx (by omega),za,show (2:Int)+(i:Int)=((2+i:Nat):Int) by omega,zG (by omega),za,Nat.zero_add,Nat.mul_one]
     refine l10.st (i:=2) (j:=2+i) (v:=.int .u8 (sb s i)) rfl (by rw [(entL_is hc0 s i).size]; omega) rfl rfl fun H11 l11=>?_
     rw [zk,za,show (i:Int)+((1:Nat):Int)=((i+1:Nat):Int) by omega,zv (by omega)]
     exact ⟨⟨i+1,by omega,rfl,l11⟩,by simp only [zC]; omega⟩
   · have ei:i=s.size:=by omega
     subst ei
     refine ret (r:=0) l10 (entL_is hc0 s _) ?_ ?_
     · unfold encE
       rw [if_neg hn0,if_neg (by simpa using hb0),Nat.mod_eq_of_lt (show n / 256<256 by omega)]
     · unfold encR; rw [if_neg hn0]; exact hb0
end
noncomputable def Yd (b:Blk) (s:Nat) (e:Ent):Blk:=zZ b (s*16 % 1024) (encE e)
noncomputable def ZC (m:Pm) (len:Nat):List Ent→Nat→Pg→Ino→Blk→Pg × Ino
 | [],_,q,f,_=>(q,f)
 | e :: l,s,q,f,b=>if q.full then (q,f) else
   if s*16 % 1024=1008∨s+1=len then ZC m len l (s+1) (Pg.file m q f (s*16 / 1024:Nat) (Yd b s e)).1 (Pg.file m q f (s*16 / 1024:Nat) (Yd b s e)).2 zB
   else ZC m len l (s+1) q f (Yd b s e)
theorem ZY {m:Pm} {len s:Nat} {e:Ent} {l:List Ent} {q:Pg} {f:Ino} {b:Blk}:ZC m len (e :: l) s q f b=if q.full then (q,f) else
   if s*16 % 1024=1008∨s+1=len then ZC m len l (s+1) (Pg.file m q f (s*16 / 1024:Nat) (Yd b s e)).1 (Pg.file m q f (s*16 / 1024:Nat) (Yd b s e)).2 zB
   else ZC m len l (s+1) q f (Yd b s e):=rfl
noncomputable def ZZ (m:Pm):List (Int × Blk)→Pg→Ino→Pg × Ino
 | [],q,f=>(q,f)
 | d :: l,q,f=>if q.full then (q,f) else ZZ m l (Pg.file m q f d.1 d.2).1 (Pg.file m q f d.1 d.2).2
structure Und (m:Pm) (q:Pg) (f:Ino):Prop where
 ok:PgOk m q
 fr:q.full=false→∃ a,FR m q f a
 ino:InoOk f
section
variable {m:Pm} {q:Pg} {f:Ino}
theorem yG (hm:yA m) (h:Und m q f) {idx:Int} {b:Blk} (hb:IsB b):Und m (Pg.file m q f idx b).1 (Pg.file m q f idx b).2:=by
 by_cases hbad:idx<0∨65802≤idx
 · have e:Pg.file m q f idx b=(⟨q.L,q.c,true⟩,f):=by unfold Pg.file; rw [if_pos hbad]
   rw [e]; exact ⟨⟨h.ok.len,h.ok.is,h.ok.c⟩,fun hh=>(by cases hh),h.ino⟩
 · cases hf:q.full with
   | true=>
     have e:Pg.file m q f idx b=(q,f):=by unfold Pg.file; rw [if_neg hbad,if_pos hf]
     rw [e]; exact ⟨h.ok,fun hh=>(by rw [hf] at hh; cases hh),h.ino⟩
   | false=>
     obtain ⟨a,ha⟩:=h.fr hf
     obtain ⟨i,rfl⟩:∃ i:Nat,idx=i:=⟨idx.toNat,by omega⟩
     have r:=file_rel hm h.ok ha hf (i:=i) (by omega) hb
     refine ⟨r.ok,fun hh=>?_,r.ino h.ino⟩
     by_cases hn:q.c+need a i≤m.n
     · exact ⟨_,(r.yes hn).2.2⟩
     · rw [r.no hn] at hh; cases hh
theorem heldC_ext {x:Int × Blk} (h:IsB x.2):(zM x).extract 1 (1+1024)=x.2:=by
 unfold zM
 apply Array.ext_getElem?
 intro i
 rw [Array.getElem?_extract,Array.size_append,h.size]
 by_cases hi:i<1024
 · rw [if_pos (by simp; omega),Array.getElem?_append_right (by simp)]
   simp
 · rw [if_neg (by simp; omega),Array.getElem?_eq_none (by rw [h.size]; omega)]
theorem Ys (x:Int × Blk):(zM x)[0]?=some (zm x.1):=by unfold zM; rw [Array.getElem?_append_left (by simp)]; rfl
theorem Lo.closePg {O:Nat→Prop} {H H':Hp} {p:Nat} {r:List Ob} (l:Lo O H H' (Ze m p q :: r)):∃ O',Stp O O' H H'∧(Ze m p q).at_ H' O':=by
 obtain ⟨O',s,ha⟩:=Lo.close (l:=[Ze m p q]) (r:=r) l
 refine ⟨O',s,?_⟩
 obtain ⟨⟨col,w,hc⟩,hl⟩:=ha
 exact Ob.frame _ (w.obs 0 _ rfl) (fun _ _=>rfl) (Nat.le_refl _) (fun b hb=>hc b (by have hb:col b=0+1:=hb; omega)) hl
end
theorem undEnts:Tryz.prog.underlying 38=some (.slice 61):=by kernel_rfl
theorem yO:Tryz.prog.underlying 37=some (.slice 98):=by kernel_rfl
section
variable {H:Hp} {R:Value→Hp→Prop} {m:Pm} {p:Nat} {q:Pg} {O:Nat→Prop} {f:Ino}
set_option maxHeartbeats 2000000 in
theorem page_dir (hm:yA m) (h:(Ze m p q).at_ H O) (hu:Und m q f) {es:List Ent} {sv:Value} (hes:∀ e∈es,e.1<65536∧e.2.size<9223372036854775808) (hlen:es.length<281474976710656) (hs:∀ H',Kp O H H'→Sr 2 H' sv (es.map ZP))
   (k:∀ H' O',Stp O O' H H'→(Ze m p (ZC m es.length es 0 q f zB).1).at_ H' O'→R (.agg (Zs (ZC m es.length es 0 q f zB).2)) H'):Fc Tryz.prog 83 #[z6 p,.agg (Zs f),sv] H R:=by
 refine fn83 ?_
 simp only [sh83,yd,ya,YF,zero16,za,zt]
 refine (Lo.own h).boxA fun b1 H1 _ l1=>?_
 refine l1.boxA fun b2 H2 _ l2=>?_
 refine l2.boxA fun b3 H3 _ l3=>?_
 simp only [zc,zi,Nat.zero_add,za]
 refine zx.mk (fun t H'=>∃ (s:Nat) (q':Pg) (f':Ino) (b':Blk),s≤es.length∧t=(zm s,())∧ZC m es.length (es.drop s) s q' f' b'=ZC m es.length es 0 q f zB∧Und m q' f'∧IsB b'∧Lo O H H' [Ze m p q',.box b1 (Zs f') 88,.box b2 (Zs fun _=>0) 88,.box b3 b' 94])
   (fun t _=>mi t.1 fun s=>(es.length - s).toNat) ⟨0,q,f,zB,by omega,rfl,rfl,hu,Zn,l3⟩ ?_
 rintro _ H4 ⟨s,q',f',b',hsl,rfl,hgo,hu',hb',l4⟩
 obtain ⟨sl,su,g4,_⟩:=l4.pg (i:=0) rfl
 refine zS.mk (fun t H'=>H'=H4∧t.1=.bool (decide (s<es.length∧q'.full=false))) ?_ ?_
 · rintro ⟨t,u⟩ H5 ⟨rfl,ht⟩
   simp only at ht
   subst ht
   rw [zf]
   refine ⟨fun hc=>?_,fun hc=>?_⟩
   · obtain ⟨hc,hnf⟩:=hc
     have hed:es.drop s=es[s] :: es.drop (s+1):=List.drop_eq_getElem_cons hc
     have hem:es[s]∈es:=List.getElem_mem hc
     have hei:(es.map ZP)[s]?=some (ZP es[s]):=by rw [List.getElem?_map,List.getElem?_eq_getElem hc]; rfl
     generalize es[s]=e at hed hem hei
     rw [hed] at hgo
     rw [ZY,if_neg (by rw [hnf]; decide)] at hgo
     obtain ⟨bb,o,ha,_,hrow⟩:=(hs H5 l4.kp).el hei
     have hr:=hrow 0 2 (by omega)
     rw [ha,za,show (⟨bb,o,none⟩:Addr)=⟨bb,o+0,none⟩ from rfl,hr,za,show (ZP e).extract 0 (0+2)=ZP e from rfl]
     refine enc18 (hes e hem).1 (hes e hem).2 fun H6 e6=>?_
     simp only [ze,List.getElem?_toArray,List.getElem?_cons_zero,List.getElem?_cons_succ,za]
     refine (l4.ext e6).boxA fun b4 H7 _ l7=>?_
     have hx:=YX e
     refine l7.stAll (i:=4) rfl (yW 16) hx.size hx.ok fun H8 l8=>?_
     have ho:s*16 % 1024+16≤1024:=by omega
     refine zx.mk (fun t H'=>∃ (i:Nat) (bi:Blk),i≤16∧t=(zm i,())∧CpyI b' (encE e) (s*16 % 1024) i bi∧Lo O H H' [Ze m p q',.box b1 (Zs f') 88,.box b2 (Zs fun _=>0) 88,.box b3 bi 94,.box b4 (encE e) 57])
       (fun t _=>mi t.1 fun i=>(16 - i).toNat) ⟨0,b',by omega,rfl,CpyI.zero hb',l8⟩ ?_
     rintro _ H9 ⟨i,bi,hi,rfl,hcp,l9⟩
     rw [zr,za,zf]
     refine ⟨fun hlt=>?_,fun hge=>?_⟩
     · rw [zX,za,zg (by omega) (by omega),zW (by decide),za,Za (by omega),zk,za,zg (by omega) (by omega),zG (by omega),za,l9.ld (i:=4) rfl,Nat.zero_add,Nat.mul_one,hx.get (by omega),za,show ((s:Int)*16 % 1024+(i:Int))=((s*16 % 1024+i:Nat):Int) by omega,zG (by omega),za,Nat.zero_add,Nat.mul_one]
       refine l9.st (i:=3) (j:=s*16 % 1024+i) (v:=.int .u8 (byt (encE e) i)) rfl (by rw [hcp.1.size]; omega) rfl rfl fun H10 l10=>?_
       rw [zk,za,zK,zv (by omega)]
       exact ⟨⟨i+1,_,by omega,rfl,hcp.step hx (by omega) ho,l10⟩,by simp only [zC]; omega⟩
     · have ei:i=16:=by omega
       subst ei
       have eb:=hcp.done hb' hx ho
       refine zS.mk (fun t H'=>H'=H9∧t.1=.bool (decide (s*16 % 1024=1008∨s+1=es.length))) ?_ ?_
       · rintro ⟨t,u⟩ H11 ⟨rfl,ht⟩
         simp only at ht
         subst ht
         rw [zf]
         refine ⟨fun hc2=>?_,fun hc2=>?_⟩
         · rw [if_pos hc2] at hgo
           rw [l9.ldAll (i:=1) (n:=16) rfl (zz _),za,zX,za,zg (x:=(s:Int)*16) (by omega) (by omega),Zh (by decide),za,Zl (by omega),zg (x:=(s:Int)*16 / 1024) (by omega) (by omega),l9.ldAll (i:=3) (n:=1024) rfl hcp.1.size,za,show (s:Int)*16 / 1024=((s*16 / 1024:Nat):Int) by omega]
           obtain ⟨O9,ho9,st9⟩:=l9.call (i:=0) rfl
           refine page_file hm ho9 hu'.fr hu'.ino (by omega) hcp.1 fun H12 O12 s12 h12=>?_
           have l12:=st9 H12 _ O12 s12 h12
           rw [eb] at l12 ⊢
           have hk:=yG (idx:=(s*16 / 1024:Nat)) hm hu' (show IsB (Yd b' s e) by rw [Yd,← eb]; exact hcp.1)
           refine l12.stAll (i:=1) rfl (zz _) (zz _) (Z0 _) fun H13 l13=>?_
           refine l13.stAll (i:=3) rfl (by rw [← eb]; exact hcp.1.size) zJ Zn.ok fun H14 l14=>?_
           rw [zk,za,zK,zv (by omega)]
           exact ⟨⟨s+1,_,_,zB,by omega,rfl,hgo,hk,Zn,l14.takeN 4⟩,by simp only [zC]; omega⟩
         · rw [if_neg hc2] at hgo
           rw [zk,za,zK,zv (by omega)]
           rw [eb] at l9
           exact ⟨⟨s+1,_,_,Yd b' s e,by omega,rfl,hgo,hu',by rw [Yd,← eb]; exact hcp.1,l9.takeN 4⟩,by simp only [zC]; omega⟩
       · rw [zX,za,zg (by omega) (by omega),zW (by decide),za,Za (by omega),zy,za,zf]
         refine ⟨fun h1=>⟨rfl,?_⟩,fun h1=>?_⟩
         · rw [decide_eq_true (.inl (by omega))]
         · rw [(hs H9 l9.kp).lenE undEnts,za,List.length_map,zO,za,zg (by omega) (by omega),zy,za]
           refine ⟨rfl,?_⟩
           show Value.bool _=Value.bool _
           congr 1; rw [decide_eq_decide]; omega
   · have hgo2:ZC m es.length es 0 q f zB=(q',f'):=by
       rw [← hgo]
       by_cases hl:s<es.length
       · rw [List.drop_eq_getElem_cons hl]
         unfold ZC
         have:q'.full=true:=by cases hq:q'.full with | true=>rfl | false=>exact absurd ⟨hl,hq⟩ hc
         rw [if_pos this]
       · rw [List.drop_eq_nil_of_le (by omega)]; rfl
     rw [hgo2] at k
     rw [l4.ldAll (i:=1) (n:=16) rfl (zz _),za]
     refine l4.ret (i:=2) rfl (zz _) (zz _) (Z0 _) fun H' l'=>?_
     obtain ⟨O',st,ha'⟩:=l'.closePg
     exact k H' O' st ha'
 · rw [(hs H4 l4.kp).lenE undEnts,za,List.length_map,zr,za,zf]
   refine ⟨fun h1=>?_,fun h1=>⟨rfl,?_⟩⟩
   · rw [zq g4,pgC13,za,zT,za]
     refine ⟨rfl,?_⟩
     show Value.bool _=Value.bool _
     congr 1
     cases q'.full
     · rw [decide_eq_true ⟨by omega,rfl⟩]; rfl
     · rw [decide_eq_false (by simp)]; rfl
   · show Value.bool _=Value.bool _
     congr 1
     rw [decide_eq_false (fun hh=>by have:=hh.1; omega)]
end
theorem Lo.callK {S:Nat→Prop} {H0 H:Hp} {l:List Ob} (h:Lo S H0 H l) {i:Nat} {x:Ob} (hi:l[i]?=some x):∃ O,x.at_ H O∧(∀ H',Kp O H H'→Kp S H0 H')∧∀ (H':Hp) (x':Ob) (O':Nat→Prop),Stp O O' H H'→x'.at_ H' O'→Lo S H0 H' (l.set i x'):=by
 obtain ⟨k,col,w,hc⟩:=h
 refine ⟨_,w.get hi,fun H' k'=>k.tr k' (fun _ _ hb=>hb) fun b hb hb2=>hc b hb ?_,fun H' x' O' s hx'=>?_⟩
 · have hb2:col b=i+1:=hb2
   omega
 · obtain ⟨col',w',hg⟩:=w.step hi s.kp hx' s.new
   refine ⟨k.tr s.kp (fun _ _ hb=>hb) fun b hb hb2=>hc b hb ?_,col',w',fun b hb hn=>hc b hb (by rw [← hg b (Nat.lt_of_lt_of_le hb k.le)]; exact hn)⟩
   have hb2:col b=i+1:=hb2
   omega
structure Itm where
 inum:Int
 kind:Nat
 links:Int
 size:Int
 blocks:Int
 data:List (Int × Blk)
 slots:List Ent
def yl (t:Itm) (dv sv:Value):Array Value:=#[zm t.inum,.int .u16 t.kind,zm t.links,zm t.size,zm t.blocks,dv,sv]
structure ZK (t:Itm):Prop where
 inum : -9223372036854775808≤t.inum∧t.inum≤9223372036854775807
 kind:t.kind<65536
 links : -9223372036854775808≤t.links∧t.links≤9223372036854775807
 size : -9223372036854775808≤t.size∧t.size≤9223372036854775807
 blocks : -9223372036854775808≤t.blocks∧t.blocks≤9223372036854775807
 dlen:t.data.length<281474976710656
 slen:t.slots.length<281474976710656
 data:∀ x∈t.data,(-9223372036854775808≤x.1∧x.1≤9223372036854775807)∧IsB x.2
 slots:∀ e∈t.slots,e.1<65536∧e.2.size<9223372036854775808
def yE (t:Itm):Ino:=fun j=>if j=0 then t.kind else if j=1 then (t.links % 65536).toNat else if j=2 then (t.size % 4294967296).toNat else 0
theorem buildNode (a b c:Int):zu Tryz.prog 88 [(0,.int .u16 a),(1,.int .u16 b),(2,.int .u32 c)]=some (.agg #[.int .u16 a,.int .u16 b,.int .u32 c,.int .u32 0,.int .u32 0,.int .u32 0,.int .u32 0,.int .u32 0,.int .u32 0,.int .u32 0,.int .u32 0,.int .u32 0,.int .u32 0,.int .u32 0,.int .u32 0,.int .u32 0]):=by kernel_rfl
theorem u16wrap (x:Int):IntKind.u16.wrap x=((x % 65536).toNat:Int):=by
 simp [IntKind.wrap,IntKind.bits,IntKind.signed]; omega
theorem u32wrap (x:Int):IntKind.u32.wrap x=((x % 4294967296).toNat:Int):=by
 simp [IntKind.wrap,IntKind.bits,IntKind.signed]; omega
theorem itmF_ok {t:Itm} (h:ZK t):InoOk (yE t):=fun j hj=>by
 have:=h.kind
 unfold yE fw
 by_cases h0:j=0
 · subst h0; simp; omega
 · by_cases h1:j=1
   · subst h1; simp; omega
   · by_cases h2:j=2
     · subst h2; simp; omega
     · rw [if_neg h0,if_neg h1,if_neg h2,if_neg (by omega)]; omega
def Pg.setN (q:Pg) (a o:Nat) (f:Ino):Pg:=q.setL a (zZ (q.L.getD a zB) o (encN f))
noncomputable def Zo (m:Pm) (q:Pg) (t:Itm):Pg × Ino:=
 let r1:=if t.kind=2 then ZC m t.slots.length t.slots 0 q (yE t) zB else (q,yE t)
 if t.kind=1 then ZZ m t.data r1.1 r1.2 else r1
noncomputable def Pg.item (m:Pm) (q:Pg) (t:Itm):Pg:=
 if t.inum<1∨m.x.I<t.inum then ⟨q.L,q.c,true⟩ else
 (Zo m q t).1.setN (m.x.nodeAt.toNat+t.inum.toNat / 16) (64*(t.inum.toNat % 16)) (Zo m q t).2
def Zr (m:Pm) (q:Pg):Prop:=∀ k,q.c≤k→k<m.n→q.L[m.blk k]?=some zB
theorem Zr.start {m:Pm} {q:Pg} (h:Zr m q) {f:Ino} (hf:∀ j,4≤j→f j=0):FR m q f fun _=>none:=
 ⟨fun i _=>hf _ (by omega),hf _ (by omega),hf _ (by omega),fun _ _ _ _ _=>rfl,fun _ _ _ hh=>(by cases hh),fun _ _ hh=>(by cases hh),fun _ _ _ hh=>(by cases hh),h⟩
theorem dir_keep {m:Pm} (hm:yA m) (len:Nat):∀ (l:List Ent) (s:Nat) (q:Pg) (f:Ino) (b:Blk),IsB b→Und m q f→Und m (ZC m len l s q f b).1 (ZC m len l s q f b).2
 | [],_,_,_,_,_,h=>h
 | e :: l,s,q,f,b,hb,h=>by
   have hp:IsB (Yd b s e):=(yg hb.n (YX e) (by omega)).b
   rw [ZY]
   split
   · exact h
   · split
     · exact dir_keep hm len l _ _ _ _ Zn (yG hm h hp)
     · exact dir_keep hm len l _ _ _ _ hp h
theorem ZJ {m:Pm} {d:Int × Blk} {l:List (Int × Blk)} {q:Pg} {f:Ino}:ZZ m (d :: l) q f=if q.full then (q,f) else ZZ m l (Pg.file m q f d.1 d.2).1 (Pg.file m q f d.1 d.2).2:=rfl
theorem data_keep {m:Pm} (hm:yA m):∀ (l:List (Int × Blk)) (q:Pg) (f:Ino),(∀ x∈l,IsB x.2)→Und m q f→Und m (ZZ m l q f).1 (ZZ m l q f).2
 | [],_,_,_,h=>h
 | d :: l,q,f,hl,h=>by
   rw [ZJ]
   split
   · exact h
   · exact data_keep hm l _ _ (fun x hx=>hl x (List.mem_cons_of_mem _ hx)) (yG hm h (hl d List.mem_cons_self))
theorem itm_keep {m:Pm} (hm:yA m) {q:Pg} {t:Itm} (ht:ZK t) (hq:PgOk m q) (hz:q.full=false→Zr m q):Und m (Zo m q t).1 (Zo m q t).2:=by
 have h0:Und m q (yE t):=⟨hq,fun hf=>⟨_,(hz hf).start fun j hj=>by unfold yE; rw [if_neg (by omega),if_neg (by omega),if_neg (by omega)]⟩,itmF_ok ht⟩
 have h1:Und m (if t.kind=2 then ZC m t.slots.length t.slots 0 q (yE t) zB else (q,yE t)).1 (if t.kind=2 then ZC m t.slots.length t.slots 0 q (yE t) zB else (q,yE t)).2:=by
   split
   · exact dir_keep hm _ _ _ _ _ _ Zn h0
   · exact h0
 unfold Zo
 simp only
 split
 · exact data_keep hm _ _ _ (fun x hx=>(ht.data x hx).2) h1
 · exact h1
section
variable {H:Hp} {R:Value→Hp→Prop} {m:Pm} {p:Nat} {q:Pg} {O:Nat→Prop}
set_option maxHeartbeats 2000000 in
theorem page_item (hm:yA m) {Lg Ig:Int} (hx:m.x=zp m.B Lg Ig) (hg:Zd m.B Lg Ig) (h:(Ze m p q).at_ H O) (hz:q.full=false→Zr m q) {t:Itm} (ht:ZK t) {dv sv:Value} (hd:∀ H',Kp O H H'→Sr 1025 H' dv (t.data.map zM)) (hs:∀ H',Kp O H H'→Sr 2 H' sv (t.slots.map ZP))
   (k:∀ H' O',Stp O O' H H'→(Ze m p (Pg.item m q t)).at_ H' O'→R (.tuple #[]) H'):Fc Tryz.prog 49 #[z6 p,.agg (yl t dv sv)] H R:=by
 have hq:PgOk m q:=h.1
 obtain ⟨gL1,gL2,gI1,gI2,gB1,gB2,gD⟩:=hg
 have hxI:m.x.I=Ig:=by rw [hx]; rfl
 have hxN:m.x.nodeAt=1+Lg:=by rw [hx]; rfl
 have c0:(yl t dv sv)[0]?=some (zm t.inum):=rfl
 have c1:(yl t dv sv)[1]?=some (.int .u16 t.kind):=rfl
 have c2:(yl t dv sv)[2]?=some (zm t.links):=rfl
 have c3:(yl t dv sv)[3]?=some (zm t.size):=rfl
 have c5:(yl t dv sv)[5]?=some dv:=rfl
 have c6:(yl t dv sv)[6]?=some sv:=rfl
 refine fn49 ?_
 simp only [sh49,yd,zero64,za,zt]
 refine (Lo.own h).boxA fun b1 H1 _ l1=>?_
 simp only [zc,zi,Nat.zero_add,Nat.reduceAdd,za]
 refine zS.mk (fun s H'=>H'=H1∧s.1=.bool (decide (t.inum<1∨m.x.I<t.inum))) ?_ ?_
 · rintro ⟨s,u⟩ H2 ⟨rfl,hs'⟩
   simp only at hs'
   subst hs'
   rw [zf]
   refine ⟨fun hb=>?_,fun hb=>?_⟩
   · obtain ⟨sl,su,_,_,_,_,stF,_⟩:=l1.pg (i:=0) rfl
     refine stF fun H3 l3=>?_
     obtain ⟨O',st,ha'⟩:=Lo.closePg l3
     have k:=k H3 O' st
     unfold Pg.item at k
     rw [if_pos hb] at k
     exact k ha'
   · have hI1:1≤t.inum:=by omega
     have hI2:t.inum≤Ig:=by omega
     rw [l1.ld (i:=1) rfl,c1,za,l1.ld (i:=1) rfl,c2,za,zE,za,l1.ld (i:=1) rfl,c3,za,zE,za,u16wrap,u32wrap,buildNode,za]
     refine l1.boxA fun b2 H4 _ l4=>?_
     have ef:(#[.int .u16 (t.kind:Int),.int .u16 ((t.links % 65536).toNat:Int),.int .u32 ((t.size % 4294967296).toNat:Int),.int .u32 0,.int .u32 0,.int .u32 0,.int .u32 0,.int .u32 0,.int .u32 0,.int .u32 0,.int .u32 0,.int .u32 0,.int .u32 0,.int .u32 0,.int .u32 0,.int .u32 0]:Array Value)=Zs (yE t):=rfl
     rw [ef]
     refine l4.stAll (i:=2) rfl (zz _) (zz _) (Z0 _) fun H5 l5=>?_
     have h0:Und m q (yE t):=⟨hq,fun hf=>⟨_,(hz hf).start fun j hj=>by unfold yE; rw [if_neg (by omega),if_neg (by omega),if_neg (by omega)]⟩,itmF_ok ht⟩
     have h1:Und m (if t.kind=2 then ZC m t.slots.length t.slots 0 q (yE t) zB else (q,yE t)).1 (if t.kind=2 then ZC m t.slots.length t.slots 0 q (yE t) zB else (q,yE t)).2:=by
       split
       · exact dir_keep hm _ _ _ _ _ _ Zn h0
       · exact h0
     have hgo0:Zo m q t=if t.kind=1 then ZZ m t.data (if t.kind=2 then ZC m t.slots.length t.slots 0 q (yE t) zB else (q,yE t)).1 (if t.kind=2 then ZC m t.slots.length t.slots 0 q (yE t) zB else (q,yE t)).2 else (if t.kind=2 then ZC m t.slots.length t.slots 0 q (yE t) zB else (q,yE t)):=rfl
     refine zS.mk (fun _ H'=>Lo O H H' [Ze m p (if t.kind=2 then ZC m t.slots.length t.slots 0 q (yE t) zB else (q,yE t)).1,.box b1 (yl t dv sv) 40,.box b2 (Zs (if t.kind=2 then ZC m t.slots.length t.slots 0 q (yE t) zB else (q,yE t)).2) 88]) ?_ ?_
     · intro s H6 l6
       generalize (if t.kind=2 then ZC m t.slots.length t.slots 0 q (yE t) zB else (q,yE t))=r1 at h1 hgo0 l6
       obtain ⟨q1,f1⟩:=r1
       simp only at h1 hgo0 l6
       refine zx.mk (fun s H'=>∃ (i:Nat) (q':Pg) (f':Ino),i≤t.data.length∧s=(zm i,())∧(t.kind=1→ZZ m (t.data.drop i) q' f'=Zo m q t)∧(t.kind≠1→(q',f')=Zo m q t)∧Und m q' f'∧Lo O H H' [Ze m p q',.box b1 (yl t dv sv) 40,.box b2 (Zs f') 88])
         (fun s _=>mi s.1 fun i=>(t.data.length - i).toNat) ⟨0,q1,f1,by omega,rfl,fun hk=>by rw [hgo0,if_pos hk]; rfl,fun hk=>by rw [hgo0,if_neg hk],h1,l6⟩ ?_
       rintro _ H7 ⟨i,q',f',hi,rfl,hk1,hk2,hu',l7⟩
       obtain ⟨sl,su,g7,_⟩:=l7.pg (i:=0) rfl
       refine zS.mk (fun s H'=>H'=H7∧s.1=.bool (decide (i<t.data.length∧t.kind=1∧q'.full=false))) ?_ ?_
       · rintro ⟨s,u⟩ H8 ⟨rfl,hs'⟩
         simp only at hs'
         subst hs'
         rw [zf]
         refine ⟨fun hc=>?_,fun hc=>?_⟩
         · obtain ⟨hc,hkd,hnf⟩:=hc
           have hed:t.data.drop i=t.data[i] :: t.data.drop (i+1):=List.drop_eq_getElem_cons hc
           have hem:t.data[i]∈t.data:=List.getElem_mem hc
           have hei:(t.data.map zM)[i]?=some (zM t.data[i]):=by rw [List.getElem?_map,List.getElem?_eq_getElem hc]; rfl
           generalize t.data[i]=e at hed hem hei
           have hk1':=hk1 hkd
           rw [hed,ZJ,if_neg (by rw [hnf]; decide)] at hk1'
           obtain ⟨hev,heB⟩:=ht.data e hem
           obtain ⟨bb,o,ha,hcl,hrow⟩:=(hd H8 l7.kp).el hei
           rw [l7.ldAll (i:=2) (n:=16) rfl (zz _),za,l7.ld (i:=1) rfl,c5,za,ha,za,zi,za,hcl 0 (by omega),Ys,za,za,ha,za,zi,za,hrow 1 1024 (by omega),za,heldC_ext heB]
           obtain ⟨O7,ho7,st7⟩:=l7.call (i:=0) rfl
           refine page_file hm ho7 hu'.fr hu'.ino hev heB fun H9 O9 s9 h9=>?_
           have l9:=st7 H9 _ O9 s9 h9
           refine l9.stAll (i:=2) rfl (zz _) (zz _) (Z0 _) fun H10 l10=>?_
           rw [zk,za,zK,zv (by have:=ht.dlen; omega)]
           exact ⟨⟨i+1,_,_,by omega,rfl,fun _=>hk1',fun hh=>absurd hkd hh,yG hm hu' heB,l10⟩,by simp only [zC]; omega⟩
         · have hfin:Zo m q t=(q',f'):=by
             by_cases hkd:t.kind=1
             · rw [← hk1 hkd]
               by_cases hl:i<t.data.length
               · rw [List.drop_eq_getElem_cons hl,ZJ]
                 have:q'.full=true:=by cases hqf:q'.full with | true=>rfl | false=>exact absurd ⟨hl,hkd,hqf⟩ hc
                 rw [if_pos this]
               · rw [List.drop_eq_nil_of_le (by omega)]; rfl
             · exact (hk2 hkd).symm
           rw [l7.ldAll (i:=2) (n:=16) rfl (zz _),za]
           refine enc10 hu'.ino fun H11 e11=>?_
           refine (l7.ext e11).boxA fun b3 H12 _ l12=>?_
           have hxe:=encN_is f'
           refine l12.stAll (i:=3) rfl (yW 64) hxe.size hxe.ok fun H13 l13=>?_
           have hB:m.B=(m.B:Int).toNat:=by omega
           obtain ⟨a,ea⟩:∃ a:Nat,a=m.x.nodeAt.toNat+t.inum.toNat / 16:=⟨_,rfl⟩
           have haB:a<m.B:=by
             simp only [zp] at gD
             rw [ea,hxN]; omega
           obtain ⟨n,en⟩:∃ n:Nat,t.inum=n:=⟨t.inum.toNat,by omega⟩
           have hb0:=getD_is hu'.ok a
           have ho:64*(n % 16)+64≤1024:=by omega
           have hlL:=hu'.ok.len
           have hsame:q'.setL a (q'.L.getD a zB)=q':=setL_same (by rw [List.getD_eq_getElem?_getD,List.getElem?_eq_getElem (by omega)]; rfl)
           refine zx.mk (fun s H'=>∃ (j:Nat) (bj:Blk),j≤64∧s=(zm j,())∧CpyI (q'.L.getD a zB) (encN f') (64*(n % 16)) j bj∧Lo O H H' [Ze m p (q'.setL a bj),.box b1 (yl t dv sv) 40,.box b2 (Zs f') 88,.box b3 (encN f') 148])
             (fun s _=>mi s.1 fun j=>(64 - j).toNat) ⟨0,q'.L.getD a zB,by omega,rfl,CpyI.zero hb0,by rw [hsame]; exact l13⟩ ?_
           rintro _ H14 ⟨j,bj,hj,rfl,hcp,l14⟩
           rw [zr,za,zf]
           refine ⟨fun hlt=>?_,fun hge=>?_⟩
           · obtain ⟨O14,ho14,st14⟩:=l14.call (i:=0) rfl
             obtain ⟨hq14,sl,su,ha14⟩:=ho14
             have lp:=Lo.open ha14
             have gp:=lp.at (i:=0) rfl
             have hbj:(q'.setL a bj).L[a]?=some bj:=by
               show (q'.L.set a bj)[a]?=_
               rw [List.getElem?_set_self (by omega)]
             rw [zq gp,pgC9,za,zq gp,pgC4,za,l14.ld (i:=1) rfl,c0,za,en,hxN,Zh (by decide),za,Zl (by omega),zg (by omega) (by omega),zk,za,zg (by omega) (by omega),za,zW (by decide),za,Za (by omega),zX,za,zg (by omega) (by omega),zk,za,zg (by omega) (by omega),zG (by omega),za,l14.ld (i:=3) rfl,Nat.zero_add,Nat.mul_one,hxe.get (by omega),za]
             obtain ⟨bb,o,haa,hpp⟩:=lp.slCell (i:=1) (j:=a) (x:=64*(n % 16)+j) (u:=.int .u8 (byt (encN f') j)) (K:=fun H15=>Pu (zo (some (.int .i64)) .add (zm j) (.int .i64 1)) fun x62=>(∃ (j:Nat) (bj:Blk),j≤64∧(x62,())=(zm j,())∧CpyI (q'.L.getD a zB) (encN f') (64*(n % 16)) j bj∧Lo O H H15 [Ze m p (q'.setL a bj),.box b1 (yl t dv sv) 40,.box b2 (Zs f') 88,.box b3 (encN f') 148])∧mi x62 (fun j=>(64 - j).toNat)<mi (zm j) (fun j=>(64 - j).toNat)) rfl hbj (by omega) hcp.1.ok rfl rfl (fun H15 l15=>by
               rw [zk,za,zK,zv (by omega)]
               obtain ⟨O15,s15,ha15⟩:=Lo.close (l:=[_,_,_]) (r:=[]) l15
               have hcp':=hcp.step hxe (by omega) ho
               refine ⟨⟨j+1,_,by omega,rfl,hcp',?_⟩,by simp only [zC]; omega⟩
               refine st14 H15 _ O15 s15 ⟨setL_ok hu'.ok a hcp'.1,sl,su,?_⟩
               have e2:(q'.setL a bj).L.set a (bj.setIfInBounds (64*(n % 16)+j) (.int .u8 (byt (encN f') j)))=(q'.setL a (bj.setIfInBounds (64*(n % 16)+j) (.int .u8 (byt (encN f') j)))).L:=List.set_set ..
               rw [← e2]; exact ha15)
             rw [show (1+Lg+(n:Int) / 16)=((a:Nat):Int) by rw [ea,hxN,en]; omega,haa,za,show (64*((n:Int) % 16)+(j:Int))=((64*(n % 16)+j:Nat):Int) by omega,zG (by omega),za,Nat.mul_one]
             exact hpp
           · have ej:j=64:=by omega
             subst ej
             obtain ⟨O',st,ha'⟩:=Lo.closePg l14
             have k:=k H14 O' st
             unfold Pg.item Pg.setN at k
             rw [if_neg hb,hfin,en,Int.toNat_natCast] at k
             rw [hcp.done hb0 hxe ho,ea,en,Int.toNat_natCast] at ha'
             exact k ha'
       · rw [l7.ld (i:=1) rfl,c5,za,(hd H7 l7.kp).lenE yO,za,List.length_map,zr,za,zf]
         refine ⟨fun h2=>?_,fun h2=>⟨rfl,?_⟩⟩
         · rw [l7.ld (i:=1) rfl,c1,za,zy,za,zf]
           refine ⟨fun h3=>?_,fun h3=>⟨rfl,?_⟩⟩
           · rw [zq g7,pgC13,za,zT,za]
             refine ⟨rfl,?_⟩
             show Value.bool _=Value.bool _
             congr 1
             cases q'.full
             · rw [decide_eq_true ⟨by omega,by omega,rfl⟩]; rfl
             · rw [decide_eq_false (by simp)]; rfl
           · show Value.bool _=Value.bool _
             congr 1
             rw [decide_eq_false (fun hh=>by have:=hh.2.1; omega)]
         · show Value.bool _=Value.bool _
           congr 1
           rw [decide_eq_false (fun hh=>by have:=hh.1; omega)]
     · rw [l5.ld (i:=1) rfl,c1,za,zy,za,zf]
       refine ⟨fun h2=>?_,fun h2=>?_⟩
       · have h2:t.kind=2:=by omega
         rw [if_pos h2]
         rw [l5.ldAll (i:=2) (n:=16) rfl (zz _),za,l5.ld (i:=1) rfl,c6,za]
         obtain ⟨O5,ho5,kk5,st5⟩:=l5.callK (i:=0) rfl
         refine page_dir hm ho5 h0 ht.slots ht.slen (fun H' hk'=>hs H' (kk5 H' hk')) fun H16 O16 s16 h16=>?_
         have l16:=st5 H16 _ O16 s16 h16
         refine l16.stAll (i:=2) rfl (zz _) (zz _) (Z0 _) fun H17 l17=>?_
         exact l17
       · rw [if_neg (by omega)]
         exact l5
 · rw [l1.ld (i:=1) rfl,c0,za,zr,za,zf]
   refine ⟨fun h2=>⟨rfl,?_⟩,fun h2=>?_⟩
   · rw [decide_eq_true (.inl h2)]
   · obtain ⟨sl,su,g1,_⟩:=l1.pg (i:=0) rfl
     rw [za,zq g1,pgC2,za,zL,za]
     refine ⟨rfl,?_⟩
     show Value.bool _=Value.bool _
     congr 1; rw [decide_eq_decide]; omega
end
noncomputable def Yg:Nat→List Blk→List (Int × Blk)
 | _,[]=>[]
 | k,c :: l=>if c=zB then Yg (k+1) l else ((k:Int),c) :: Yg (k+1) l
theorem yF {k:Nat} {c:Blk} {l:List Blk}:Yg k (c :: l)=if c=zB then Yg (k+1) l else ((k:Int),c) :: Yg (k+1) l:=rfl
theorem imgL_len:∀ (l:List Blk) (k:Nat),(Yg k l).length≤l.length
 | [],_=>Nat.le_refl _
 | c :: l,k=>by
   have:=imgL_len l (k+1)
   unfold Yg
   split <;> simp only [List.length_cons] <;> omega
theorem imgL_app:∀ (l r:List Blk) (k:Nat),Yg k (l++r)=Yg k l++Yg (k+l.length) r
 | [],r,k=>rfl
 | c :: l,r,k=>by
   rw [List.cons_append,yF,yF,imgL_app l r (k+1),List.length_cons,show k+1+l.length=k+(l.length+1) by omega]
   split <;> rfl
section
variable {P:Program} {S:Nat→Prop} {H0 H:Hp} {l:List Ob}
theorem Lo.appO {e:ZT} {ty T n by':Nat} {K:Value→Hp→Prop} (h:Lo S H0 H l) (he:zI P ty=some e) (hf:e.type=T∧e.size=n∧e.zero.size=n∧e.bytes=by') {i:Nat} {s v:Value} {c:Array Value} {vs:List (Array Value)} (hi:l[i]?=some (.sl T n s vs)) (hv:v.cells=c) (hn:0<n∧n≤2 ^ 24) (hby:0<by') (hc:c.size=n) (hok:zF c)
   (hlim:(vs.length+1)*by'≤2 ^ 47) (k:∀ s' H',Lo S H0 H' (l.set i (.sl T n s' (vs++[c])))→K s' H'):Pu (zI P ty) fun x=>Pu (zH (some x) 1 [(0,v)]) fun cs=>NewS x.type 1 cs H fun x2 H2=>Y2 (zI P ty) s x2 H2 K:=by
 obtain ⟨f1,f2,f3,f4⟩:=hf
 rw [he,za,newS_one (by omega) (by omega) (by rw [hv,hc,f2]),za,hv]
 exact h.app1 hi f1 f2 f3 (by omega) hc hok (by rw [f4]; exact hlim) k
end
theorem zeroImg:zD Tryz.prog 71=some (.agg #[zm 0,.slice none 0 0]):=by kernel_rfl
theorem buildImg (n:Int):zu Tryz.prog 71 [(0,zm n)]=some (.agg #[zm n,.slice none 0 0]):=by kernel_rfl
theorem buildImg0:zu Tryz.prog 71 []=some (.agg #[zm 0,.slice none 0 0]):=by kernel_rfl
section
variable {H:Hp} {R:Value→Hp→Prop}
theorem image_ok {sl:Value} {L:List Blk} (hs:Sv 94 1024 H sl L) (hL:∀ c∈L,IsB c) (hlen:L.length≤1048576)
   (k:∀ H' dv,Ext H H'→New H H' (.sl 98 1025 dv ((Yg 0 L).map zM))→R (.agg #[zm L.length,dv]) H'):Fc Tryz.prog 53 #[sl] H R:=by
 refine fn53 ?_
 simp only [sh53,zeroImg,YF,hs.lenE undBlks,buildImg,za,zt]
 refine (Lo.start _ H:Lx H H []).boxA fun b1 H1 _ l1=>?_
 refine l1.boxA fun b2 H2 _ l2=>?_
 refine l2.stAll (i:=1) (vs:=#[zm L.length,.slice none 0 0]) rfl rfl rfl (by unfold zF; rw [← Array.all_toList]; rfl) fun H3 l3=>?_
 have l3:=l3.nilS 98 1025
 have q1:=eHeld_f
 refine zx.mk (fun t H'=>∃ (i:Nat) (dv:Value),i≤L.length∧t=(zm i,())∧Lx H H' [.box b1 #[zm 0,.slice none 0 0] 71,.box b2 #[zm L.length,dv] 71,.sl 98 1025 dv ((Yg 0 (L.take i)).map zM)])
   (fun t _=>mi t.1 fun i=>(L.length - i).toNat) ⟨0,.slice none 0 0,by omega,rfl,l3⟩ ?_
 rintro _ H4 ⟨i,dv,hi,rfl,l4⟩
 have s4:=hs.ext l4.ext0
 rw [zr,za,zf]
 refine ⟨fun hlt=>?_,fun hge=>?_⟩
 · have hil:i<L.length:=by omega
   have hLi:L[i]?=some L[i]:=List.getElem?_eq_getElem hil
   have hc:=hL _ (List.getElem_mem hil)
   have htk:L.take (i+1)=L.take i++[L[i]]:=List.take_succ_eq_append_getElem hil
   have htl:(L.take i).length=i:=by rw [List.length_take]; omega
   generalize L[i]=c at hLi hc htk
   obtain ⟨b,o,ha,hr⟩:=s4.row hLi
   rw [ha,za,hr,za,Ym,eqB rowB hc Zn,Option.map_some,za,yy]
   have him:Yg 0 (L.take (i+1))=if c=zB then Yg 0 (L.take i) else Yg 0 (L.take i)++[((i:Int),c)]:=by
     rw [htk,imgL_app,htl,Nat.zero_add,yF]
     split
     · exact List.append_nil _
     · rfl
   refine ⟨fun hne=>?_,fun heq=>?_⟩
   · rw [if_neg (by simpa using hne)] at him
     have hlb:=imgL_len (L.take i) 0
     rw [htl] at hlb
     rw [zi,za,l4.ld (i:=1) rfl]
     show Pu (some dv) _
     rw [za,za,hr,za,build_held hc,za,zl]
     intro H5 e5
     rw [elHeld,za,newS_one (by rw [q1.2.1]; decide) (by rw [q1.2.1]; decide) (by rw [zP,ZA (x:=((i:Int),c)) hc,q1.2.1]),za]
     refine newS_i fun b6 H6 hb6 e6 s6 g6=>?_
     rw [zl]
     intro H7 e7
     refine (l4.ext (e5.trans (e6.trans e7))).app (i:=2) (us:=[zM ((i:Int),c)]) rfl q1.1 q1.2.1 q1.2.2.1 (by rw [q1.2.2.2]; decide) (Sv.single (e7.at g6) (ZA (x:=((i:Int),c)) hc)) (by simpa using heldC_ok (x:=((i:Int),c)) hc) (by
       rw [q1.2.2.2,List.length_map]; simp only [List.length_cons,List.length_nil]; omega) fun dv' H8 l8=>?_
     rw [za,zl]
     intro H9 e9
     have hone:=((l8.ext e9).sv (i:=2) rfl).one
     refine (l8.ext e9).st (i:=1) (j:=1) (v:=dv') rfl (by simp) hone.2 hone.1 fun H10 l10=>?_
     rw [zl]
     intro H11 e11
     rw [zk,za,zK,zv (by omega)]
     refine ⟨⟨i+1,dv',by omega,rfl,?_⟩,by simp only [zC]; omega⟩
     rw [him,List.map_append]
     exact l10.ext e11
   · rw [if_pos (by simpa using heq)] at him
     rw [zk,za,zK,zv (by omega)]
     refine ⟨⟨i+1,dv,by omega,rfl,?_⟩,by simp only [zC]; omega⟩
     rw [him]; exact l4
 · have ei:i=L.length:=by omega
   subst ei
   rw [List.take_length] at l4
   have hone:=(l4.sv (i:=2) rfl).one
   rw [l4.ldAll (i:=1) (n:=2) rfl rfl,za]
   refine l4.ret (i:=0) rfl rfl rfl (by unfold zF; rw [← Array.all_toList]; simp [hone.2]; rfl) fun H' l'=>?_
   exact k H' dv l'.ext0 (l'.outN (i:=2) rfl)
end
theorem Lay.cok (x:Lay):zF x.cells:=Lay.ok x
def numI (x:Lay):Nat→Int
 | 0=>x.B
 | 1=>x.L
 | 2=>x.I
 | 3=>x.logAt
 | 4=>x.nodeAt
 | 5=>x.nodeBlocks
 | 6=>x.bitsAt
 | 7=>x.bitsBlocks
 | _=>x.dataAt
theorem numI_get (x:Lay):∀ i,i<9→x.cells[i]?=some (zm (numI x i))
 | 0,_ | 1,_ | 2,_ | 3,_ | 4,_ | 5,_ | 6,_ | 7,_ | 8,_=>rfl
 | n+9,h=>by omega
theorem numI_ok {B L I:Int} (hg:Zd B L I):∀ i,0≤numI (zp B L I) i∧numI (zp B L I) i≤1048576:=by
 obtain ⟨h1,h2,h3,h4,h5,h6,h7⟩:=hg
 simp only [zp] at h7
 intro i
 match i with
 | 0 | 1 | 2 | 3 | 4 | 5 | 6 | 7=>simp only [numI,zp]; omega
 | n+8=>simp only [numI,zp]; omega
def magS:ByteArray:=⟨#[99,114,111,102,116,102,115,49]⟩
def magB:Nat→Blk
 | 0=>zB
 | i+1=>(magB i).setIfInBounds i (.int .u8 (sb magS i))
theorem magB_is:∀ i,IsB (magB i)
 | 0=>Zn
 | i+1=>(magB_is i).set i (sb_lt _ _)
def supN (x:Lay):Nat→Blk
 | 0=>magB 8
 | i+1=>seB (supN x i) (8+4*i) 4 (numI x i).toNat
theorem YO (x:Lay):∀ i,IsB (supN x i)
 | 0=>magB_is 8
 | i+1=>(seB_is _ _ _ (YO x i).n).b
def ZN (x:Lay):Blk:=supN x 9
theorem supN_num (x:Lay):∀ n,n≤9→∀ i,i<n→leB (supN x n) (8+4*i) 4=(numI x i).toNat % 4294967296
 | 0,_,_,h=>by omega
 | n+1,hn,i,hi=>by
   unfold supN
   by_cases e:i=n
   · subst e; exact leB_seB (YO x i).n (by omega) _
   · rw [YV (YO x n).n (by omega) _ (by omega)]
     exact supN_num x n (by omega) i (by omega)
theorem zero9:zD Tryz.prog 183=some (.agg zLay):=by kernel_rfl
theorem build9 (a b c d e f g h i:Int):zu Tryz.prog 183 [(0,zm a),(1,zm b),(2,zm c),(3,zm d),(4,zm e),(5,zm f),(6,zm g),(7,zm h),(8,zm i)]=some (.agg (Lay.cells ⟨a,b,c,d,e,f,g,h,i⟩)):=by kernel_rfl
section
variable {H:Hp} {R:Value→Hp→Prop}
theorem fits3 {B L I:Int} (hB : -9223372036854775808≤B∧B≤9223372036854775807) (hg:Zd B L I) (h:∀ H',Ext H H'→R (.bool true) H'):Fc Tryz.prog 86 #[.agg (zp B L I).cells] H R:=by
 refine fn86 ?_
 simp only [sh86,yp,za]
 refine (Lo.start _ H:Lx H H []).boxA fun b1 H1 _ l1=>?_
 rw [zi,za,Zp (l1.at (i:=0) rfl) (show 0+3≤(zp B L I).cells.size from by rw [Lay.size]; decide),za,show ((zp B L I).cells.extract (0+0) (0+0+3))=#[zm B,zm L,zm I] from by simp [Lay.cells,zp]]
 refine of3 hB (fun H2 e2 _=>?_) (fun H2 e2 hno=>absurd hg hno)
 simp only [ze,List.getElem?_toArray,List.getElem?_cons_zero,List.getElem?_cons_succ,za]
 refine (l1.ext e2).boxA fun b3 H3 _ l3=>?_
 refine l3.stAll (i:=1) rfl rfl (Lay.size _) (Lay.cok _) fun H4 l4=>?_
 simp only [zy,za,decide_true,Zm]
 rw [l4.ldAll (i:=1) (n:=9) rfl (Lay.size _),za,l4.ldAll (i:=0) (n:=9) rfl (Lay.size _),za,eqXE_eql,eqLay_same,Option.map_some,za]
 exact h H4 l4.ext0
theorem numbers3 (x:Lay) (h:∀ H',Ext H H'→R (.agg x.cells) H'):Fc Tryz.prog 87 #[.agg x.cells] H R:=by
 refine fn87 ?_
 simp only [sh87,zero9,za]
 refine (Lo.start _ H:Lx H H []).boxA fun b1 H1 _ l1=>?_
 refine l1.boxA fun b2 H2 _ l2=>?_
 have g:=fun i hi=>(zq (l2.at (i:=0) rfl)).trans (numI_get x i hi)
 simp only [zi,Nat.zero_add,Nat.add_zero,za]
 rw [g 0 (by omega),g 1 (by omega),g 2 (by omega),g 3 (by omega),g 4 (by omega),g 5 (by omega),g 6 (by omega),g 7 (by omega),g 8 (by omega)]
 simp only [za,build9]
 exact l2.ret (i:=1) rfl rfl (Lay.size _) (Lay.cok _) fun H' l'=>h H' l'.ext0
theorem enc3 {B L I:Int} (hB : -9223372036854775808≤B∧B≤9223372036854775807) (hg:Zd B L I) (k:∀ H',Ext H H'→R (.tuple #[.agg (ZN (zp B L I)),zm 0]) H'):Fc Tryz.prog 50 #[.agg (zp B L I).cells] H R:=by
 have hnum:=numI_ok hg
 refine fn50 ?_
 simp only [sh50,ya,YF,zero9,za,zt]
 refine (Lo.start _ H:Lx H H []).boxA fun b1 H1 _ l1=>?_
 refine l1.boxA fun b2 H2 _ l2=>?_
 rw [l2.ldAll (i:=0) (n:=9) rfl (Lay.size _),za]
 refine fits3 hB hg fun H3 e3=>?_
 rw [zT,za,Bool.not_true,zn]
 refine (l2.ext e3).boxA fun b3 H5 _ l5=>?_
 refine zx.mk (fun t H'=>∃ i:Nat,i≤8∧t=(zm i,())∧Lx H H' [.box b1 (zp B L I).cells 74,.box b2 zB 94,.box b3 (magB i) 94])
   (fun t _=>mi t.1 fun i=>(8 - i).toNat) ⟨0,by omega,rfl,l5⟩ ?_
 rintro _ H6 ⟨i,hi,rfl,l6⟩
 rw [show lenE Tryz.prog 9 (.string ⟨#[99,114,111,102,116,102,115,49]⟩)=some (zm 8) from str_len magS,za,zr,za,zf]
 refine ⟨fun hlt=>?_,fun hge=>?_⟩
 · rw [show idxE Tryz.prog 9 (.string ⟨#[99,114,111,102,116,102,115,49]⟩) (zm i)=some (.int .u8 (sb magS i)) from str_idx (show i<magS.size from by show i<8; omega),za,zG (by omega),za,Nat.zero_add,Nat.mul_one]
   refine l6.st (i:=2) (j:=i) (v:=.int .u8 (sb magS i)) rfl (by rw [(magB_is i).size]; omega) rfl rfl fun H7 l7=>?_
   rw [zk,za,zK,zv (by omega)]
   exact ⟨⟨i+1,by omega,rfl,l7⟩,by simp only [zC]; omega⟩
 · have ei:i=8:=by omega
   subst ei
   rw [l6.ldAll (i:=0) (n:=9) rfl (Lay.size _),za]
   refine numbers3 _ fun H8 e8=>?_
   refine (l6.ext e8).boxA fun b4 H9 _ l9=>?_
   refine l9.stAll (i:=3) rfl rfl (Lay.size _) (Lay.cok _) fun H10 l10=>?_
   refine zx.mk (fun t H'=>∃ i:Nat,i≤9∧t=(zm i,())∧Lx H H' [.box b1 (zp B L I).cells 74,.box b2 zB 94,.box b3 (supN (zp B L I) i) 94,.box b4 (zp B L I).cells 183])
     (fun t _=>mi t.1 fun i=>(9 - i).toNat) ⟨0,by omega,rfl,l10⟩ ?_
   rintro _ H11 ⟨i,hi,rfl,l11⟩
   rw [zr,za,zf]
   refine ⟨fun hlt=>?_,fun hge=>?_⟩
   · have hni:=hnum i
     obtain ⟨v,ev⟩:∃ v:Nat,numI (zp B L I) i=v:=⟨(numI (zp B L I) i).toNat,by omega⟩
     rw [zG (by omega),za,l11.ld (i:=3) rfl,Nat.zero_add,Nat.mul_one,numI_get _ i (by omega),za,ev]
     have hsu:=YO (zp B L I) i
     have hes:supN (zp B L I) (i+1)=seB (supN (zp B L I) i) (8+4*i) 4 v:=by
       show seB _ _ _ (numI (zp B L I) i).toNat=_
       rw [ev,Int.toNat_natCast]
     generalize hcc:supN (zp B L I) i=c at hsu hes l11
     refine zx.mk (fun t H'=>∃ (j:Nat) (cj:Blk) (vj:Nat),j≤4∧vj<9223372036854775808∧IsB cj∧seB cj (8+4*i+j) (4 - j) vj=seB c (8+4*i) 4 v∧t=(zm vj,zm j,())∧Lx H H' [.box b1 (zp B L I).cells 74,.box b2 zB 94,.box b3 cj 94,.box b4 (zp B L I).cells 183])
       (fun t _=>mi t.2.1 fun j=>(4 - j).toNat) ⟨0,c,v,by omega,by omega,hsu,rfl,rfl,l11⟩ ?_
     rintro _ H12 ⟨j,cj,vj,hj,hvj,hcj,he,rfl,l12⟩
     rw [zr,za,zf]
     refine ⟨fun hlt2=>?_,fun hge2=>?_⟩
     · rw [zX,za,zg (by omega) (by omega),zk,za,zg (by omega) (by omega),zk,za,zg (by omega) (by omega),zW (by decide),za,zE,za,u8mod,show (8:Int)+4*(i:Int)+(j:Int)=((8+4*i+j:Nat):Int) by omega,zG (by omega),za,Nat.zero_add,Nat.mul_one]
       refine l12.st (i:=2) (j:=8+4*i+j) (v:=.int .u8 (vj % 256:Nat)) rfl (by rw [hcj.size]; omega) rfl rfl fun H13 l13=>?_
       rw [Zh (by decide),za,quo256,zv (by omega),zk,za,zK,zv (by omega)]
       refine ⟨⟨j+1,_,vj / 256,by omega,by omega,hcj.set _ (m:=vj % 256) (Nat.mod_lt _ (by omega)),?_,rfl,l13⟩,by simp only [zC]; omega⟩
       rw [← he,show 4 - j=(4 - (j+1))+1 by omega]; rfl
     · have ej:j=4:=by omega
       subst ej
       have he:cj=seB c (8+4*i) 4 v:=he
       rw [zk,za,zK,zv (by omega)]
       refine ⟨⟨i+1,by omega,rfl,?_⟩,by simp only [zC]; omega⟩
       rw [hes,← he]; exact l12
   · have ei:i=9:=by omega
     subst ei
     have hsu:=YO (zp B L I) 9
     rw [l11.ldAll (i:=2) (n:=1024) rfl hsu.size,za]
     exact l11.ret (i:=1) (K:=fun x H4=>R (.tuple #[x,zm 0]) H4) rfl zJ hsu.size hsu.ok fun H' l'=>k H' l'.ext0
end
section
variable {S:Nat→Prop} {H0 H:Hp} {l:List Ob}
theorem Lo.pick (h:Lo S H0 H l) (idx:List Nat) (hnd:idx.Nodup) (hlt:∀ i∈idx,i<l.length):Lo S H0 H (idx.map fun i=>l.getD i .no):=by
 obtain ⟨k,col,w,hc⟩:=h
 have key:∀ (i j:Nat),idx[i]?=some j→∃ x,l[j]?=some x∧(idx.map fun i=>l.getD i .no)[i]?=some x:=fun i j hj=>by
   have h1:=hlt j (List.mem_of_getElem? hj)
   refine ⟨l[j],List.getElem?_eq_getElem h1,?_⟩
   rw [List.getElem?_map,hj,Option.map_some,List.getD_eq_getElem?_getD,List.getElem?_eq_getElem h1]; rfl
 have uniq:∀ {i i' j:Nat},idx[i]?=some j→idx[i']?=some j→i=i':=fun {i i' j} h1 h2=>by
   have hi:i<idx.length:=by
     rcases Nat.lt_or_ge i idx.length with h | h
     · exact h
     · rw [List.getElem?_eq_none h] at h1; cases h1
   exact (List.getElem?_inj hi hnd).1 (h1.trans h2.symm)
 have ex:∀ b:Nat,(∃ i j:Nat,idx[i]?=some j∧col b=j+1)→∃ n:Nat,∀ i j:Nat,idx[i]?=some j→col b=j+1→n=i:=fun b ⟨i,j,h1,h2⟩=>⟨i,fun i' j' h1' h2'=>by
   obtain rfl:j=j':=by omega
   exact uniq h1 h1'⟩
 let col':Nat→Nat:=fun b=>if hb:∃ i j:Nat,idx[i]?=some j∧col b=j+1 then Classical.choose (ex b hb)+1 else 0
 have cv:∀ {b i j},idx[i]?=some j→(col' b=i+1↔col b=j+1):=fun {b i j} hij=>by
   constructor
   · intro hb
     by_cases hx:∃ i j:Nat,idx[i]?=some j∧col b=j+1
     · obtain ⟨i',j',h1,h2⟩:=hx
       have e:col' b=Classical.choose (ex b ⟨i',j',h1,h2⟩)+1:=dif_pos ⟨i',j',h1,h2⟩
       have e2:=Classical.choose_spec (ex b ⟨i',j',h1,h2⟩) i' j' h1 h2
       have:i'=i:=by omega
       subst this
       rw [hij] at h1; injection h1 with h1; omega
     · have:col' b=0:=dif_neg hx
       omega
   · intro hb
     have e:col' b=Classical.choose (ex b ⟨i,j,hij,hb⟩)+1:=dif_pos ⟨i,j,hij,hb⟩
     have e2:=Classical.choose_spec (ex b ⟨i,j,hij,hb⟩) i j hij hb
     omega
 have nz:∀ b,col' b≠0→col b≠0:=fun b hb=>by
   by_cases hx:∃ i j:Nat,idx[i]?=some j∧col b=j+1
   · obtain ⟨i',j',h1,h2⟩:=hx; omega
   · exact absurd (dif_neg hx) hb
 refine ⟨k,col',⟨fun i x hx=>?_,fun b hb=>?_⟩,fun b hb hn=>hc b hb (nz b hn)⟩
 · cases hj:idx[i]? with
   | none=>rw [List.getElem?_map,hj] at hx; cases hx
   | some j=>
     obtain ⟨y,hy,hy2⟩:=key i j hj
     rw [hx] at hy2
     injection hy2 with hy2; subst hy2
     have ho:=w.get hy
     exact x.frame ho (fun _ _=>rfl) (Nat.le_refl _) (fun b hb=>(cv hj).2 hb) fun b hb=>x.own ho b ((cv hj).1 hb)
 · by_cases hz:col' b=0
   · exact hz
   · exact absurd (w.out b hb) (nz b hz)
theorem Lo.pack {r:List Ob} (h:Lo S H0 H (l++r)):Lo S H0 H (l++[.all r]):=by
 obtain ⟨k,col,w,hc⟩:=h
 refine ⟨k,fun b=>if col b≤l.length then col b else l.length+1,⟨fun i x hx=>?_,fun b hb=>by simp [w.out b hb]⟩,fun b hb hn=>hc b hb fun e=>hn (by simp [e])⟩
 by_cases hi:i<l.length
 · rw [List.getElem?_append_left hi] at hx
   have hx':(l++r)[i]?=some x:=by rw [List.getElem?_append_left hi]; exact hx
   have ho:=w.get hx'
   refine x.frame ho (fun _ _=>rfl) (Nat.le_refl _) (fun b hb=>?_) fun b hb=>?_
   · have hb:col b=i+1:=hb
     show (if col b≤l.length then col b else l.length+1)=i+1
     rw [if_pos (by omega)]; exact hb
   · have hb:(if col b≤l.length then col b else l.length+1)=i+1:=hb
     split at hb
     · exact x.own ho b hb
     · omega
 · rw [List.getElem?_append_right (by omega)] at hx
   cases hk:i - l.length with
   | succ n=>rw [hk] at hx; simp at hx
   | zero=>
     rw [hk] at hx
     simp only [List.getElem?_cons_zero,Option.some.injEq] at hx
     subst hx
     obtain rfl:i=l.length:=by omega
     refine ⟨⟨fun b=>col b - l.length,⟨fun j y hy=>?_,fun b hb=>by rw [w.out b hb]; omega⟩,fun b hb=>?_⟩,fun b hb=>?_⟩
     · have hy':(l++r)[l.length+j]?=some y:=by rw [List.getElem?_append_right (by omega),Nat.add_sub_cancel_left]; exact hy
       have ho:=w.get hy'
       refine y.frame ho (fun _ _=>rfl) (Nat.le_refl _) (fun b hb=>?_) fun b hb=>?_
       · have hb:col b=l.length+j+1:=hb
         show col b - l.length=j+1
         omega
       · have hb:col b - l.length=j+1:=hb
         exact y.own ho b (show col b=l.length+j+1 by omega)
     · have hb:col b - l.length≠0:=hb
       show (if col b≤l.length then col b else l.length+1)=l.length+1
       rw [if_neg (by omega)]
     · have hb:(if col b≤l.length then col b else l.length+1)=l.length+1:=hb
       rcases Nat.lt_or_ge b H.size with h1 | h1
       · exact h1
       · rw [w.out b h1] at hb; simp at hb
theorem Lo.make {P:Program} {e:ZT} {ty T n by' cnt:Nat} {K:Value × Hp→Prop} (h:Lo S H0 H l) (he:zI P ty=some e) (hf:e.type=T∧e.size=n∧e.zero.size=n∧e.bytes=by') (hl:cnt≤2 ^ 48) (hby:by'*cnt≤2 ^ 47) (hn:n≠0)
   (k:∀ b H',Ext H H'→Lo S H0 H' (l++[.sl T n (.slice (some ⟨b,0,none⟩) cnt cnt) (List.replicate cnt e.zero)])→K (.slice (some ⟨b,0,none⟩) cnt cnt,H')):Pu (YT (zI P ty) (zm cnt) (zm cnt) H) K:=by
 obtain ⟨f1,f2,f3,f4⟩:=hf
 rw [he]
 refine make_i (P:=P) f1 f2 f3 hl (by rw [f4]; exact hby) (.inr hn) fun b H' hb e' hs sv=>k b H' e' (h.add (O:=(·=b)) e' ⟨⟨sv,fun b' hb'=>?_⟩,fun c hc=>by omega⟩ fun c hc=>by omega)
 simp only [ZS,Option.some.injEq] at hb'
 exact hb'.symm
end
noncomputable def eBk:ZT:=orE (zI Tryz.prog 118)
noncomputable def eBo:ZT:=orE (zI Tryz.prog 119)
set_option maxRecDepth 100000 in
theorem elBk:zI Tryz.prog 118=some eBk:=by kernel_rfl
set_option maxRecDepth 100000 in
theorem elBo:zI Tryz.prog 119=some eBo:=by kernel_rfl
set_option maxRecDepth 100000 in
theorem eBk_f:eBk.type=94∧eBk.size=1024∧eBk.zero.size=1024∧eBk.bytes=1024:=⟨by kernel_rfl,by kernel_rfl,by kernel_rfl,by kernel_rfl⟩
set_option maxRecDepth 100000 in
theorem eBk_z:eBk.zero=zB:=by kernel_rfl
set_option maxRecDepth 100000 in
theorem eBo_f:eBo.type=4∧eBo.size=1∧eBo.zero.size=1∧eBo.bytes=1:=⟨by kernel_rfl,by kernel_rfl,by kernel_rfl,by kernel_rfl⟩
set_option maxRecDepth 100000 in
theorem eBo_z:eBo.zero=#[.bool false]:=by kernel_rfl
theorem buildPg (a b c d e f g h i:Int) (b1 b2 n1 n2:Nat):zu Tryz.prog 121 [(0,.agg (Lay.cells ⟨a,b,c,d,e,f,g,h,i⟩)),(1,.slice (some ⟨b1,0,none⟩) n1 n1),(2,.slice (some ⟨b2,0,none⟩) n2 n2)]=some (.agg (pgC ⟨a,b,c,d,e,f,g,h,i⟩ (.slice (some ⟨b1,0,none⟩) n1 n1) (.slice (some ⟨b2,0,none⟩) n2 n2) 0 0 false)):=by kernel_rfl
def StAt (H:Hp) (iv:Value) (its:List Itm):Prop:=∃ cs:List (Array Value),Sr 7 H iv cs∧cs.length=its.length∧∀ (i:Nat) (t:Itm),its[i]?=some t→∃ dv sv,cs[i]?=some (yl t dv sv)∧Sr 1025 H dv (t.data.map zM)∧Sr 2 H sv (t.slots.map ZP)
theorem StAt.ext {H H':Hp} {iv:Value} {its:List Itm} (h:StAt H iv its) (e:Ext H H'):StAt H' iv its:=by
 obtain ⟨cs,h1,h2,h3⟩:=h
 exact ⟨cs,h1.ext e,h2,fun i t hi=>by obtain ⟨dv,sv,h4,h5,h6⟩:=h3 i t hi; exact ⟨dv,sv,h4,h5.ext e,h6.ext e⟩⟩
noncomputable def zA (m:Pm):List Itm→Pg→Pg
 | [],q=>q
 | t :: l,q=>if q.full then q else zA m l (Pg.item m q t)
theorem Zj {m:Pm} {t:Itm} {l:List Itm} {q:Pg}:zA m (t :: l) q=if q.full then q else zA m l (Pg.item m q t):=rfl
def pg0 (m:Pm):Pg:=⟨List.replicate m.B zB,0,false⟩
structure MOf (m:Pm) (B L I:Int):Prop where
 ok:yA m
 x:m.x=zp B L I
 B:(m.B:Int)=B
noncomputable def bitStep (m:Pm) (c sd a:Nat) (L:List Blk):List Blk:=
 if a<m.da∨(∃ k,k<c∧a=m.blk k) then L.set (m.x.bitsAt.toNat+a / 8192) (setB (L.getD (m.x.bitsAt.toNat+a / 8192) zB) (a % 8192))
 else if sd % 2=1∧a % 3=0 then L.set a (markB a sd) else L
noncomputable def Yu (m:Pm) (c sd:Nat) (L:List Blk):Nat→List Blk
 | 0=>L
 | a+1=>bitStep m c sd a (Yu m c sd L a)
noncomputable def Zq (m:Pm) (q:Pg) (sd:Nat):List Blk:=
 if sd % 2=1 then (Yu m q.c sd (q.L.set 0 (ZN m.x)) m.B).set (m.x.logAt.toNat+1+sd % (m.x.L.toNat - 1)) (markB 1 sd) else Yu m q.c sd (q.L.set 0 (ZN m.x)) m.B
structure Pgs (m:Pm) (q:Pg):Prop where
 ok:PgOk m q
 z:q.full=false→Zr m q
theorem pg0_ok {m:Pm} (hm:yA m):Pgs m (pg0 m):=⟨⟨by simp [pg0],fun c hc=>by simp only [pg0,List.mem_replicate] at hc; rw [hc.2]; exact Zn,Nat.zero_le _⟩,fun _ k _ hk=>by
 simp only [pg0,List.getElem?_replicate,if_pos (m.blk_lt hm k).2]⟩
theorem Yz {m:Pm} {B L I:Int} (hm:MOf m B L I) (hg:Zd B L I) {q:Pg} (h:Pgs m q) {t:Itm} (ht:ZK t):Pgs m (Pg.item m q t):=by
 have hu:=itm_keep hm.ok ht h.ok h.z
 unfold Pg.item
 split
 · exact ⟨⟨h.ok.len,h.ok.is,h.ok.c⟩,fun hh=>by cases hh⟩
 · refine ⟨setL_ok hu.ok _ (yg (getD_is hu.ok _).n (encN_is _) (by omega)).b,fun hf k h1 h2=>?_⟩
   obtain ⟨a,ha⟩:=hu.fr hf
   have hz:=ha.z k h1 h2
   have hd:m.da=(zp B L I).dataAt:=by rw [← hm.ok.da,hm.x]
   have hN:m.x.nodeAt=1+L:=by rw [hm.x]; rfl
   have hI:m.x.I=I:=by rw [hm.x]; rfl
   obtain ⟨g1,g2,g3,g4,g5,g6,g7⟩:=hg
   simp only [zp] at hd g7
   have hb:=(m.blk_lt hm.ok k).1
   show ((Zo m q t).1.L.set _ _)[m.blk k]?=_
   rw [List.getElem?_set_ne (by omega)]
   exact hz
theorem bitGo_is {m:Pm} {c sd:Nat} {L:List Blk} (hL:∀ x∈L,IsB x):∀ n,∀ x∈Yu m c sd L n,IsB x
 | 0=>hL
 | a+1=>fun x hx=>by
   have ih:=bitGo_is (m:=m) (c:=c) (sd:=sd) hL a
   simp only [Yu,bitStep] at hx
   have hg:∀ i,IsB ((Yu m c sd L a).getD i zB):=fun i=>by
     rw [List.getD_eq_getElem?_getD]
     cases h:(Yu m c sd L a)[i]? with
     | none=>exact Zn
     | some y=>exact ih y (List.mem_of_getElem? h)
   split at hx
   · rcases List.mem_or_eq_of_mem_set hx with h1 | h1
     · exact ih x h1
     · rw [h1]; exact setB_is (hg _) _
   · split at hx
     · rcases List.mem_or_eq_of_mem_set hx with h1 | h1
       · exact ih x h1
       · rw [h1]; exact markB_is _ _
     · exact ih x hx
theorem bitGo_len {m:Pm} {c sd:Nat} {L:List Blk}:∀ n,(Yu m c sd L n).length=L.length
 | 0=>rfl
 | a+1=>by
   simp only [Yu,bitStep]
   split
   · rw [List.length_set,bitGo_len a]
   · split
     · rw [List.length_set,bitGo_len a]
     · exact bitGo_len a
theorem pg_same {H:Hp} {p T T':Nat} {x x':Lay} {sl su sl' su':Value} {tn nx tn' nx':Nat} {fl fl':Bool} (g:H[p]?=some (.cells (pgC x sl su tn nx fl) T)) (g':H[p]?=some (.cells (pgC x' sl' su' tn' nx' fl') T')):sl=sl'∧su=su':=by
 rw [g] at g'
 injection g' with g'
 injection g' with g' _
 have h9:=congrArg (fun c:Array Value=>c[9]?) g'
 have h10:=congrArg (fun c:Array Value=>c[10]?) g'
 simp only [pgC9,pgC10] at h9 h10
 injection h9 with h9
 injection h10 with h10
 exact ⟨h9,h10⟩
section
variable {S:Nat→Prop} {H0 H:Hp} {l:List Ob} {m:Pm} {p:Nat} {q:Pg}
theorem Lo.pgSet (h:Lo S H0 H l) {i:Nat} (hi:l[i]?=some (Ze m p q)) {x:Lay} {sl su:Value} {tn nx T:Nat} {fl:Bool} (g:H[p]?=some (.cells (pgC x sl su tn nx fl) T)) {a:Nat} (ha:a<m.B) :
   ∃ bb o,(∀ k,zh (some (none,1024)) sl (.int k a)=some (.pointer (some ⟨bb,o,none⟩)))∧(∀ {H'},Ext H H'→zb (some (some 1024)) (.pointer (some ⟨bb,o,none⟩)) H'=some (.agg (q.L.getD a zB))) ∧
     ∀ {H'},Ext H H'→∀ {b:Blk} {K:Hp→Prop},IsB b→(∀ H'',Lo S H0 H'' (l.set i (Ze m p (q.setL a b)))→K H'')→Pu (zj (some 1024) (.pointer (some ⟨bb,o,none⟩)) (.agg b) H') K:=by
 obtain ⟨sl1,su1,g1,sv1,_,hq,_,_⟩:=h.pg hi
 obtain ⟨rfl,rfl⟩:=pg_same g g1
 have hL:q.L[a]?=some (q.L.getD a zB):=by rw [List.getD_eq_getElem?_getD,List.getElem?_eq_getElem (by rw [hq.len]; exact ha)]; rfl
 obtain ⟨bb,o,h1,h2⟩:=sv1.row hL
 refine ⟨bb,o,h1,fun {H'} e=>loadE_ext e h2,fun {H'} e {b K} hb hk=>?_⟩
 obtain ⟨sl2,su2,g2,_,_,_,_,stL⟩:=(h.ext e).pg hi
 obtain ⟨rfl,rfl⟩:=pg_same (e.at g) g2
 obtain ⟨bb2,o2,h3,h4⟩:=stL ha hb hk
 have e2:=(h1 .i64).symm.trans (h3 .i64)
 injection e2 with e2; injection e2 with e2; injection e2 with e2; injection e2 with e3 e4
 subst e3 e4
 exact h4
end
theorem undItems:Tryz.prog.underlying 24=some (.slice 40):=by kernel_rfl
section
variable {H:Hp} {R:Value→Hp→Prop}
def img0C:Array Value:=#[zm 0,.slice none 0 0]
theorem img0_ok:zF img0C:=by unfold zF; rw [← Array.all_toList]; rfl
set_option maxHeartbeats 4000000 in
theorem laid_ok {B L I:Int} (hB : -9223372036854775808≤B∧B≤9223372036854775807) {iv:Value} {its:List Itm} (hst:StAt H iv its) (hits:∀ t∈its,ZK t) (hlen:its.length<281474976710656) {fr sp seed:Int} (hseed : -9223372036854775808≤seed∧seed≤9223372036854775807)
   (k0:∀ H',Ext H H'→(Zd B L I→∃ m,MOf m B L I∧(zA m its (pg0 m)).full=true)→R (.agg #[zm 0,.slice none 0 0]) H')
   (k:∀ H' dv m,Ext H H'→Zd B L I→MOf m B L I→(zA m its (pg0 m)).full=false→New H H' (.sl 98 1025 dv ((Yg 0 (Zq m (zA m its (pg0 m)) (seed % 1000003).toNat)).map zM))→R (.agg #[zm B,dv]) H') :
   Fc Tryz.prog 19 #[.agg #[zm B,zm L,zm I],.agg #[iv,zm fr,zm sp],zm seed] H R:=by
 refine fn19 ?_
 simp only [sh19,zeroImg,yp,buildImg0,za,zt]
 refine (Lo.start _ H:Lx H H []).boxA fun b1 H1 _ l1=>?_
 refine l1.boxA fun b2 H2 _ l2=>?_
 refine l2.boxA fun b3 H3 _ l3=>?_
 rw [l3.ldAll (i:=0) (n:=3) rfl rfl,za]
 have fail:∀ {H':Hp} {l':List Ob},Lx H H' (.box b1 #[zm B,zm L,zm I] 23 :: .box b2 #[iv,zm fr,zm sp] 26 :: .box b3 img0C 71 :: l')→(Zd B L I→∃ m,MOf m B L I∧(zA m its (pg0 m)).full=true) →
     Pu (zj (some 2) (.pointer (some ⟨b3,0,none⟩)) (.agg #[zm 0,.slice none 0 0]) H') fun H7=>Pu (zb (some (some 2)) (.pointer (some ⟨b3,0,none⟩)) H7) fun x=>R x H7:=fun l hf=>by
   exact l.ret (i:=2) rfl rfl rfl img0_ok fun H' l'=>k0 H' l'.ext0 hf
 refine of3 hB (fun H4 e4 hg=>?_) (fun H4 e4 hno=>?_)
 rotate_left
 · simp only [ze,List.getElem?_toArray,List.getElem?_cons_zero,List.getElem?_cons_succ,za]
   refine (l3.ext e4).boxA fun b4 H5 _ l5=>?_
   refine l5.stAll (i:=3) rfl rfl rfl (all9 ..) fun H6 l6=>?_
   rw [zw,za,show decide ((2:Int)≠0)=true from rfl,Zm]
   exact fail l6 fun h=>absurd h hno
 simp only [ze,List.getElem?_toArray,List.getElem?_cons_zero,List.getElem?_cons_succ,za]
 refine (l3.ext e4).boxA fun b4 H5 _ l5=>?_
 refine l5.stAll (i:=3) rfl rfl (Lay.size _) (Lay.cok _) fun H6 l6=>?_
 rw [zw,za,show decide ((0:Int)≠0)=false from rfl,zn]
 simp only [zc,zi,Nat.zero_add,za]
 obtain ⟨gL1,gL2,gI1,gI2,gB1,gB2,gD⟩:=id hg
 obtain ⟨n0,en0⟩:∃ n0:Nat,B=n0:=⟨B.toNat,by omega⟩
 have hda:(zp B L I).dataAt=1+L+(I+16) / 16+(B+8191) / 8192:=rfl
 have cX:∀ i,i<9→(zp B L I).cells[i]?=some (zm (numI (zp B L I) i)):=fun i hi=>numI_get _ i hi
 refine zS.mk (fun s H'=>∃ p sl su,s.1=z6 p∧Lx H H' [.box b1 #[zm B,zm L,zm I] 23,.box b2 #[iv,zm fr,zm sp] 26,.box b3 img0C 71,.box b4 (zp B L I).cells 74,.box p (pgC (zp B L I) sl su 0 0 false) 121,.sl 94 1024 sl (List.replicate n0 zB),.sl 4 1 su (List.replicate n0 #[.bool false])]) ?_ ?_
 rotate_left
 · rw [l6.ldAll (i:=3) (n:=9) rfl (Lay.size _),za,l6.ld (i:=0) rfl]
   show Pu (some (zm B)) _
   rw [za]
   show Pu (some (zm B)) _
   rw [za,en0]
   have hlb:(1:Nat)*n0≤2 ^ 47:=by omega
   have hlk:(1024:Nat)*n0≤2 ^ 47:=by omega
   refine ⟨?_,?_,trivial⟩
   · rw [zl]
     intro H7 e7
     refine (l6.ext e7).make elBk eBk_f (by omega) hlk (by omega) fun c1 H8 _ l8=>?_
     rw [zl]
     intro H9 e9
     refine (l8.ext e9).make elBo eBo_f (by omega) hlb (by omega) fun c2 H10 _ l10=>?_
     rw [eBk_z,eBo_z] at l10
     rw [show zu Tryz.prog 121 [(0,.agg (zp (n0:Int) L I).cells),(1,.slice (some ⟨c1,0,none⟩) n0 n0),(2,.slice (some ⟨c2,0,none⟩) n0 n0)]=_ from buildPg ..,za,zl]
     intro H11 e11
     refine (l10.ext e11).boxA fun p H12 _ l12=>?_
     rw [zl]
     intro H13 e13
     refine ⟨p,.slice (some ⟨c1,0,none⟩) n0 n0,.slice (some ⟨c2,0,none⟩) n0 n0,rfl,?_⟩
     have:=(l12.ext e13).pick [0,1,2,3,6,4,5] (by decide) (by intro i hi; simp at hi; simp; omega)
     rw [en0] at this
     exact this
   · rw [zl]
     intro H7 e7
     refine (l6.ext e7).make elBo eBo_f (by omega) hlb (by omega) fun c2 H8 _ l8=>?_
     rw [zl]
     intro H9 e9
     refine (l8.ext e9).make elBk eBk_f (by omega) hlk (by omega) fun c1 H10 _ l10=>?_
     rw [eBk_z,eBo_z] at l10
     rw [show zu Tryz.prog 121 [(0,.agg (zp (n0:Int) L I).cells),(1,.slice (some ⟨c1,0,none⟩) n0 n0),(2,.slice (some ⟨c2,0,none⟩) n0 n0)]=_ from buildPg ..,za,zl]
     intro H11 e11
     refine (l10.ext e11).boxA fun p H12 _ l12=>?_
     rw [zl]
     intro H13 e13
     refine ⟨p,.slice (some ⟨c1,0,none⟩) n0 n0,.slice (some ⟨c2,0,none⟩) n0 n0,rfl,?_⟩
     have:=(l12.ext e13).pick [0,1,2,3,6,5,4] (by decide) (by intro i hi; simp at hi; simp; omega)
     rw [en0] at this
     exact this
 rintro ⟨s,u⟩ H8 ⟨p,sl,su,hs,l8⟩
 simp only at hs
 subst hs
 simp only [zc,zi,Nat.zero_add,za]
 obtain ⟨da,eda⟩:∃ da:Nat,(zp B L I).dataAt=da:=⟨(zp B L I).dataAt.toNat,by omega⟩
 have hdB:da<n0:=by omega
 rw [l8.ld (i:=0) rfl]
 show Pu (some (zm B)) _
 rw [za,l8.ld (i:=3) rfl,cX 8 (by omega),za]
 show Pu (zo _ .sub (zm B) (zm (zp B L I).dataAt)) _
 rw [eda,en0,zO,za,zg (by omega) (by omega),show (n0:Int) - (da:Int)=((n0 - da:Nat):Int) by omega]
 refine kpick_ok hseed (by decide) (by decide) ?_
 obtain ⟨sd,esd⟩:∃ sd:Nat,seed % 1000003=sd:=⟨(seed % 1000003).toNat,by have:=Int.emod_nonneg seed (show (1000003:Int)≠0 by decide); omega⟩
 have hsd:sd<1000003:=by have:=Int.emod_lt_of_pos seed (show (0:Int)<1000003 by decide); omega
 rw [esd,Int.toNat_natCast] at k
 rw [esd]
 obtain ⟨n,hn⟩:∃ n,n=n0 - da:=⟨_,rfl⟩
 have hnp:0<n:=by omega
 rw [← hn,zW (by omega),za,Za (by omega),← Int.natCast_emod]
 have hst1:sd % n<n:=Nat.mod_lt _ hnp
 refine l8.st (i:=4) (j:=12) (v:=zm (sd % n:Nat)) rfl (by rw [pgC_ok]; omega) rfl rfl fun H10 l10=>?_
 rw [Zh (by decide),za,Zl (by omega),zg (by omega) (by omega),zW (by omega),za,Za (by omega),zk,za,show (sd:Int) / 7 % (n:Int)=((sd / 7 % n:Nat):Int) by rw [Int.natCast_emod,Int.natCast_ediv]; rfl]
 have htn1:sd / 7 % n<n:=Nat.mod_lt _ hnp
 rw [zg (by omega) (by omega),show (1:Int)+((sd / 7 % n:Nat):Int)=((1+sd / 7 % n:Nat):Int) by omega]
 refine l10.st (i:=4) (j:=11) (v:=zm (1+sd / 7 % n:Nat)) rfl (by simp [pgC]) rfl rfl fun H11 l11=>?_
 refine zx.mk (fun _ H'=>∃ tn:Nat,1≤tn∧tn≤n+1∧Lx H H' [.box b1 #[zm B,zm L,zm I] 23,.box b2 #[iv,zm fr,zm sp] 26,.box b3 img0C 71,.box b4 (zp B L I).cells 74,.box p (pgC (zp B L I) sl su tn (sd % n) false) 121,.sl 94 1024 sl (List.replicate n0 zB),.sl 4 1 su (List.replicate n0 #[.bool false])])
   (fun _ H'=>cntH H' p 11 fun x=>(n+1 - x).toNat) ⟨1+sd / 7 % n,by omega,by omega,l11⟩ ?_
 rintro _ H12 ⟨tn,ht1,ht2,l12⟩
 rw [l12.ld (i:=4) rfl,pgC11,za]
 refine divisor_ok (a:=tn) (b:=n) (by omega) (by omega) ?_
 rw [zw,za,zf]
 refine ⟨fun hne=>?_,fun heq=>?_⟩
 · have hne:Nat.gcd n tn≠1:=by omega
   have htl:tn≠n+1:=fun e=>hne (by rw [e,Nat.gcd_self_add_right,Nat.gcd_one_right])
   rw [l12.ld (i:=4) rfl,pgC11,za,zk,za,zK,zv (by omega)]
   have g12:=l12.at (i:=4) rfl
   refine l12.st (i:=4) (j:=11) (v:=zm (tn+1:Nat)) rfl (by rw [pgC_ok]; omega) rfl rfl fun H13 l13=>?_
   have l13':Lx H H13 [.box b1 #[zm B,zm L,zm I] 23,.box b2 #[iv,zm fr,zm sp] 26,.box b3 img0C 71,.box b4 (zp B L I).cells 74,.box p (pgC (zp B L I) sl su (tn+1) (sd % n) false) 121,.sl 94 1024 sl (List.replicate n0 zB),.sl 4 1 su (List.replicate n0 #[.bool false])]:=l13
   refine ⟨⟨tn+1,by omega,by omega,l13'⟩,?_⟩
   rw [cntH_eq g12 pgC11,cntH_eq (l13'.at (i:=4) rfl) pgC11]
   omega
 · have hco:Nat.gcd tn n=1:=by rw [Nat.gcd_comm]; omega
   let m:Pm:=⟨zp B L I,n0,da,n,sd % n,tn⟩
   have hm:yA m:=⟨en0,eda,by show n0=da+n; omega,hnp,by show 1≤da; omega,by show n0≤1048576; omega,hst1,by show tn≤1048577; omega,hco⟩
   have hmo:MOf m B L I:=⟨hm,rfl,en0.symm⟩
   have hgm:Zd m.B L I:=by show Zd (n0:Int) L I; rw [← en0]; exact hg
   have hmx:m.x=zp m.B L I:=by show zp B L I=zp (n0:Int) L I; rw [← en0]
   have hP0:=pg0_ok hm
   have l13:Lx H H12 [.box b1 #[zm B,zm L,zm I] 23,.box b2 #[iv,zm fr,zm sp] 26,.box b3 img0C 71,.box b4 (zp B L I).cells 74,Ze m p (pg0 m)]:=by
     have h1:=Lo.pack (l:=[.box b1 #[zm B,zm L,zm I] 23,.box b2 #[iv,zm fr,zm sp] 26,.box b3 img0C 71,.box b4 (zp B L I).cells 74]) l12
     refine h1.nth (i:=4) (y:=Ze m p (pg0 m)) rfl fun O ho=>⟨hP0.ok,sl,su,?_⟩
     have e1:usC m (pg0 m).c=List.replicate n0 #[.bool false]:=by
       apply List.ext_getElem?
       intro i
       by_cases hi:i<n0
       · rw [usC_get (show i<m.B from hi),List.getElem?_replicate,if_pos hi,decide_eq_false]
         rintro ⟨k,hk,_⟩
         exact absurd hk (Nat.not_lt_zero _)
       · rw [List.getElem?_eq_none (by rw [usC_len]; show n0≤i; omega),List.getElem?_eq_none (by simp; omega)]
     have e2:sg m.n m.st m.tn (pg0 m).c=sd % n:=by
       show sg n (sd % n) tn 0=_
       unfold sg
       rw [Nat.zero_mul,Nat.add_zero,Nat.mod_mod]
     rw [e1,e2]
     exact ho
   clear l12 l11 l10 l8
   refine zx.mk (fun t H'=>∃ (i:Nat) (q:Pg),i≤its.length∧t=(zm i,())∧zA m (its.drop i) q=zA m its (pg0 m)∧Pgs m q∧Lx H H' [.box b1 #[zm B,zm L,zm I] 23,.box b2 #[iv,zm fr,zm sp] 26,.box b3 img0C 71,.box b4 (zp B L I).cells 74,Ze m p q])
     (fun t _=>mi t.1 fun i=>(its.length - i).toNat) ⟨0,pg0 m,by omega,rfl,rfl,hP0,l13⟩ ?_
   rintro _ H15 ⟨i,q,hi,rfl,hgo,hP,l15⟩
   obtain ⟨cs,hcs0,hcl,hci⟩:=id hst
   have hcs:=hcs0.ext l15.ext0
   obtain ⟨sl',su',g15,_⟩:=l15.pg (i:=4) rfl
   refine zS.mk (fun t H'=>H'=H15∧t.1=.bool (decide (i<its.length∧q.full=false))) ?_ ?_
   rotate_left
   · rw [l15.ld (i:=1) rfl]
     show Pu (some iv) _
     rw [za,hcs.lenE undItems,za,hcl,zr,za,zf]
     refine ⟨fun h1=>?_,fun h1=>⟨rfl,?_⟩⟩
     · rw [zq g15,pgC13,za,zT,za]
       refine ⟨rfl,?_⟩
       show Value.bool _=Value.bool _
       congr 1
       cases q.full
       · rw [decide_eq_true ⟨by omega,rfl⟩]; rfl
       · rw [decide_eq_false (by simp)]; rfl
     · show Value.bool _=Value.bool _
       congr 1
       rw [decide_eq_false (fun hh=>by have:=hh.1; omega)]
   rintro ⟨t,u⟩ H16 ⟨rfl,ht⟩
   simp only at ht
   subst ht
   rw [zf]
   refine ⟨fun hc=>?_,fun hc=>?_⟩
   · obtain ⟨hc,hnf⟩:=hc
     have hed:its.drop i=its[i] :: its.drop (i+1):=List.drop_eq_getElem_cons hc
     have hem:its[i]∈its:=List.getElem_mem hc
     obtain ⟨dv,sv,hci',hdv,hsv⟩:=hci i its[i] (List.getElem?_eq_getElem hc)
     generalize its[i]=t at hed hem hci' hdv hsv
     rw [hed,Zj,if_neg (by rw [hnf]; decide)] at hgo
     obtain ⟨bb,o,ha,hr⟩:=hcs.row hci'
     rw [l15.ld (i:=1) rfl]
     show Pu (some iv) _
     rw [za,ha,za,hr,za]
     obtain ⟨O,ho,kk,st⟩:=l15.callK (i:=4) rfl
     refine page_item hm hmx hgm ho hP.z (hits t hem) (dv:=dv) (sv:=sv) (fun H' hk=>hdv.ext ((kk H' hk).ext fun _ _=>id)) (fun H' hk=>hsv.ext ((kk H' hk).ext fun _ _=>id)) fun H17 O17 s17 h17=>?_
     have l17:=st H17 _ O17 s17 h17
     rw [zk,za,zK,zv (by omega)]
     exact ⟨⟨i+1,_,by omega,rfl,hgo,Yz hmo hg hP (hits t hem),l17⟩,by simp only [zC]; omega⟩
   · have hfin:zA m its (pg0 m)=q:=by
       rw [← hgo]
       by_cases hl:i<its.length
       · rw [List.drop_eq_getElem_cons hl,Zj]
         have:q.full=true:=by cases hq:q.full with | true=>rfl | false=>exact absurd ⟨hl,hq⟩ hc
         rw [if_pos this]
       · rw [List.drop_eq_nil_of_le (by omega)]; rfl
     rw [zq g15,pgC13,za,Zz]
     refine ⟨fun hfu=>fail l15 fun _=>⟨m,hmo,by rw [hfin]; exact hfu⟩,fun hnf=>?_⟩
     have k:=fun H' dv hx=>k H' dv m hx hg hmo (by rw [hfin]; exact hnf)
     rw [hfin] at k
     have hqe:(⟨q.L,q.c,false⟩:Pg)=q:=by obtain ⟨a,b,c⟩:=q; simp only at hnf; subst hnf; rfl
     have cX6:(zp B L I).cells[6]?=some (zm (zp B L I).bitsAt):=rfl
     have cX8:(zp B L I).cells[8]?=some (zm (zp B L I).dataAt):=rfl
     have hba:(zp B L I).bitsAt=1+L+(I+16) / 16:=rfl
     obtain ⟨ba,eba⟩:∃ ba:Nat,(zp B L I).bitsAt=ba:=⟨(zp B L I).bitsAt.toNat,by omega⟩
     have ebn:m.x.bitsAt.toNat=ba:=by show (zp B L I).bitsAt.toNat=ba; rw [eba]; rfl
     have hsB:IsB (ZN m.x):=YO _ 9
     have hB0:0<m.B:=by show 0<n0; omega
     refine zS.mk (fun _ H'=>Lx H H' [.box b1 #[zm B,zm L,zm I] 23,.box b2 #[iv,zm fr,zm sp] 26,.box b3 img0C 71,.box b4 (zp B L I).cells 74,Ze m p ⟨q.L.set 0 (ZN m.x),q.c,false⟩]) ?_ ?_
     rotate_left
     · rw [l15.ldAll (i:=3) (n:=9) rfl (Lay.size _),za]
       refine ⟨?_,?_,trivial⟩
       · rw [zq g15,pgC9,za,zl]
         intro H40 e40
         refine enc3 hB hg fun H41 e41=>?_
         simp only [ze,List.getElem?_toArray,List.getElem?_cons_zero,List.getElem?_cons_succ,za]
         obtain ⟨bb,o,ha,_,hst⟩:=(l15.ext (e40.trans e41)).pgSet (i:=4) rfl ((e40.trans e41).at g15) hB0
         have ha0:=ha .i64
         rw [show ((0:Nat):Int)=0 from rfl] at ha0
         rw [ha0,za,zl]
         intro H42 e42
         refine hst e42 hsB fun H43 l43=>?_
         rw [zl]
         intro H44 e44
         have:=l43.ext e44
         rw [← hqe] at this
         exact this
       · rw [zl]
         intro H35 e35
         refine enc3 hB hg fun H36 e36=>?_
         rw [zq ((e35.trans e36).at g15),pgC9,za]
         simp only [ze,List.getElem?_toArray,List.getElem?_cons_zero,List.getElem?_cons_succ,za]
         obtain ⟨bb,o,ha,_,hst⟩:=(l15.ext (e35.trans e36)).pgSet (i:=4) rfl ((e35.trans e36).at g15) hB0
         have ha0:=ha .i64
         rw [show ((0:Nat):Int)=0 from rfl] at ha0
         rw [ha0,za,zl]
         intro H42 e42
         refine hst e42 hsB fun H43 l43=>?_
         rw [zl]
         intro H44 e44
         have:=l43.ext e44
         rw [← hqe] at this
         exact this
     intro _ H19 l19
     refine zx.mk (fun t H'=>∃ a:Nat,a≤n0∧t=(zm a,())∧Lx H H' [.box b1 #[zm B,zm L,zm I] 23,.box b2 #[iv,zm fr,zm sp] 26,.box b3 img0C 71,.box b4 (zp B L I).cells 74,Ze m p ⟨Yu m q.c sd (q.L.set 0 (ZN m.x)) a,q.c,false⟩])
       (fun t _=>mi t.1 fun a=>(n0 - a).toNat) ⟨0,by omega,rfl,l19⟩ ?_
     rintro _ H20 ⟨a,ha,rfl,l20⟩
     have hbs:Yu m q.c sd (q.L.set 0 (ZN m.x)) (a+1)=bitStep m q.c sd a (Yu m q.c sd (q.L.set 0 (ZN m.x)) a):=rfl
     have hfinal:Zq m q sd=if sd % 2=1 then (Yu m q.c sd (q.L.set 0 (ZN m.x)) n0).set (m.x.logAt.toNat+1+sd % (m.x.L.toNat - 1)) (markB 1 sd) else Yu m q.c sd (q.L.set 0 (ZN m.x)) n0:=rfl
     obtain ⟨sl2,su2,g20,sv20,su20,hq20,_,_⟩:=l20.pg (i:=4) rfl
     rw [l20.ld (i:=0) rfl]
     show Pu (some (zm B)) _
     rw [za,zr,za,zf]
     refine ⟨fun hlt=>?_,fun hge=>?_⟩
     · have hlt:a<n0:=by omega
       unfold bitStep at hbs
       rw [ebn] at hbs
       generalize Yu m q.c sd (q.L.set 0 (ZN m.x)) a=La at hbs l20 sv20 hq20
       have hsu:=usC_get (m:=m) (i:=a) hlt q.c
       obtain ⟨ub,uo,hua,hul⟩:=su20.cell hsu (j:=0) (by omega)
       refine zS.mk (fun t H'=>H'=H20∧t.1=.bool (decide (a<m.da∨∃ k,k<q.c∧a=m.blk k))) ?_ ?_
       rotate_left
       · rw [l20.ld (i:=3) rfl,cX8,za,eda,zr,za,zf]
         refine ⟨fun h1=>⟨rfl,?_⟩,fun h1=>?_⟩
         · rw [decide_eq_true (.inl (by show a<da; omega))]
         · rw [zq g20,pgC10,za,hua,za,show (⟨ub,uo,none⟩:Addr)=⟨ub,uo+0,none⟩ from rfl,hul,List.getElem?_toArray,List.getElem?_cons_zero,za]
           refine ⟨rfl,?_⟩
           show Value.bool _=Value.bool _
           congr 1
           rw [decide_eq_decide]
           exact ⟨fun h=>.inr h,fun h=>h.resolve_left (by show ¬ a<da; omega)⟩
       rintro ⟨t,u⟩ H21 ⟨rfl,ht⟩
       simp only at ht
       subst ht
       rw [zf]
       refine ⟨fun hc1=>?_,fun hc1=>?_⟩
       · rw [if_pos hc1] at hbs
         have hidx:ba+a / 8192<m.B:=by show _<n0; omega
         obtain ⟨bb,o,ha1,hld,hst⟩:=l20.pgSet (i:=4) rfl g20 hidx
         have hgB:IsB (La.getD (ba+a / 8192) zB):=getD_is hq20 _
         rw [zq g20,pgC9,za,l20.ld (i:=3) rfl,cX6,za,eba,Zh (by decide),za,Zl (by omega),zg (by omega) (by omega),zk,za,zg (by omega) (by omega),za,za,za,zk,za,zg (by omega) (by omega),show (ba:Int)+(a:Int) / 8192=((ba+a / 8192:Nat):Int) by omega,ha1,za,hld (Ext.refl _),za,zW (by decide),za,Za (by omega),show (a:Int) % 8192=((a % 8192:Nat):Int) by omega]
         refine ⟨.agg (setB (La.getD (ba+a / 8192) zB) (a % 8192)),fun H' _=>set_ok hgB (by omega) fun H'' e=>⟨rfl,e⟩,?_⟩
         rw [za,zl]
         intro H22 e22
         refine hst e22 (setB_is hgB _) fun H23 l23=>?_
         rw [zl]
         intro H24 e24
         rw [zk,za,zK,zv (by omega)]
         refine ⟨⟨a+1,by omega,rfl,?_⟩,by simp only [zC]; omega⟩
         rw [hbs]
         exact l23.ext e24
       · rw [if_neg hc1] at hbs
         refine zS.mk (fun t H'=>H'=H21∧t.1=.bool (decide (sd % 2=1∧a % 3=0))) ?_ ?_
         rotate_left
         · rw [zW (by decide),za,Za (by omega),zy,za,zf]
           refine ⟨fun h1=>?_,fun h1=>⟨rfl,?_⟩⟩
           · rw [zW (by decide),za,Za (by omega),zy,za]
             refine ⟨rfl,?_⟩
             show Value.bool _=Value.bool _
             congr 1
             rw [decide_eq_decide]; omega
           · show Value.bool _=Value.bool _
             congr 1
             rw [decide_eq_false (fun hh=>by have:=hh.1; omega)]
         rintro ⟨t,u⟩ H25 ⟨rfl,ht⟩
         simp only at ht
         subst ht
         rw [zf]
         refine ⟨fun hc2=>?_,fun hc2=>?_⟩
         · rw [if_pos hc2] at hbs
           obtain ⟨bb,o,ha1,_,hst⟩:=l20.pgSet (i:=4) rfl g20 (show a<m.B from hlt)
           rw [zq g20,pgC9,za]
           refine ⟨.agg (markB a sd),fun H' _=>bmark_ok a sd fun H'' e=>⟨rfl,e⟩,?_⟩
           rw [ha1,za,zl]
           intro H26 e26
           refine hst e26 (markB_is _ _) fun H27 l27=>?_
           rw [zl]
           intro H28 e28
           rw [zk,za,zK,zv (by omega)]
           refine ⟨⟨a+1,by omega,rfl,?_⟩,by simp only [zC]; omega⟩
           rw [hbs]
           exact l27.ext e28
         · rw [if_neg hc2] at hbs
           rw [zk,za,zK,zv (by omega)]
           refine ⟨⟨a+1,by omega,rfl,?_⟩,by simp only [zC]; omega⟩
           rw [hbs]
           exact l20
     · have ea:a=n0:=by omega
       subst ea
       generalize Yu m q.c sd (q.L.set 0 (ZN m.x)) a=La at hfinal l20 sv20 hq20
       have fin:∀ {H'},Lx H H' [.box b1 #[zm B,zm L,zm I] 23,.box b2 #[iv,zm fr,zm sp] 26,.box b3 img0C 71,.box b4 (zp B L I).cells 74,Ze m p ⟨Zq m q sd,q.c,false⟩] →
           Pu (zb (some none) (.pointer (some ⟨p,9,none⟩)) H') fun x112=>Fc Tryz.prog 53 #[x112] H' fun x113 H30=>Pu (zj (some 2) (.pointer (some ⟨b3,0,none⟩)) x113 H30) fun H31=>Pu (zb (some (some 2)) (.pointer (some ⟨b3,0,none⟩)) H31) fun x114=>R x114 H31:=fun {H'} l=>by
         obtain ⟨sl3,su3,g3,sv3,_,hq3,_,_⟩:=l.pg (i:=4) rfl
         rw [zq g3,pgC9,za]
         have hlen3:(Zq m q sd).length=a:=hq3.len
         refine image_ok sv3 hq3.is (by show (Zq m q sd).length≤_; rw [hlen3]; omega) fun H30 dv e30 hn30=>?_
         show Pu (zj (some 2) (.pointer (some ⟨b3,0,none⟩)) (.agg #[zm (Zq m q sd).length,dv]) H30) _
         rw [hlen3]
         have l30:=l.new e30 hn30
         have hone:=(l30.sv (i:=5) rfl).one
         refine l30.ret (i:=2) rfl rfl rfl (by unfold zF; rw [← Array.all_toList]; simp [hone.2]; rfl) fun H31 l31=>?_
         rw [← en0]
         exact k H31 dv l31.ext0 (l31.outN (i:=5) rfl)
       refine zS.mk (fun _ H'=>Lx H H' [.box b1 #[zm B,zm L,zm I] 23,.box b2 #[iv,zm fr,zm sp] 26,.box b3 img0C 71,.box b4 (zp B L I).cells 74,Ze m p ⟨Zq m q sd,q.c,false⟩]) (fun _ H29 l29=>fin l29) ?_
       rw [zW (by decide),za,Za (by omega),zy,za,zf]
       refine ⟨fun h1=>?_,fun h1=>?_⟩
       · rw [if_pos (by omega)] at hfinal
         have elg:(zp B L I).logAt=1:=rfl
         have cX3:(zp B L I).cells[3]?=some (zm 1):=rfl
         have emx:m.x.logAt.toNat+1+sd % (m.x.L.toNat - 1)=2+sd % (L.toNat - 1):=rfl
         rw [emx] at hfinal
         obtain ⟨Ln,eL⟩:∃ Ln:Nat,L=Ln:=⟨L.toNat,by omega⟩
         subst eL
         rw [Int.toNat_natCast] at hfinal
         have hmod:sd % (Ln - 1)<Ln - 1:=Nat.mod_lt _ (by omega)
         obtain ⟨bb,o,ha1,_,hst⟩:=l20.pgSet (i:=4) (a:=2+sd % (Ln - 1)) rfl g20 (by show _<a; omega)
         rw [zq g20,pgC9,za,l20.ld (i:=3) rfl,cX3,za,zk,za,zg (x:=1+1) (by omega) (by omega),l20.ld (i:=0) rfl]
         show Pu (some (zm Ln)) _
         rw [za,zO,za,zg (by omega) (by omega),zW (by omega),za,Za (by omega),show (sd:Int) % ((Ln:Int) - 1)=((sd % (Ln - 1):Nat):Int) by rw [Int.natCast_emod]; congr 1; omega,zk,za,zg (by omega) (by omega)]
         refine ⟨.agg (markB 1 sd),fun H' _=>bmark_ok 1 sd fun H'' e=>⟨rfl,e⟩,?_⟩
         rw [show (1:Int)+1+((sd % (Ln - 1):Nat):Int)=((2+sd % (Ln - 1):Nat):Int) by omega,ha1,za,zl]
         intro H32 e32
         refine hst e32 (markB_is _ _) fun H33 l33=>?_
         rw [zl]
         intro H34 e34
         rw [hfinal]
         exact l33.ext e34
       · rw [if_neg (by omega)] at hfinal
         rw [hfinal]
         exact l20
end
structure Tw (m m':Pm) (q q':Pg) (f f':Ino):Prop where
 u:Und m q f
 u':Und m' q' f'
 full:q'.full=q.full
 at_:q.full=false→q'.c=q.c∧∃ a,FR m q f a∧FR m' q' f' a
section
variable {m m':Pm} {q q':Pg} {f f':Ino}
theorem file_tw (hm:yA m) (hm':yA m') (hn:m'.n=m.n) (h:Tw m m' q q' f f') (idx:Int) {b:Blk} (hb:IsB b):Tw m m' (Pg.file m q f idx b).1 (Pg.file m' q' f' idx b).1 (Pg.file m q f idx b).2 (Pg.file m' q' f' idx b).2:=by
 have hu:=yG hm h.u (idx:=idx) hb
 have hu':=yG hm' h.u' (idx:=idx) hb
 by_cases hbad:idx<0∨65802≤idx
 · have e:Pg.file m q f idx b=(⟨q.L,q.c,true⟩,f):=by unfold Pg.file; rw [if_pos hbad]
   have e':Pg.file m' q' f' idx b=(⟨q'.L,q'.c,true⟩,f'):=by unfold Pg.file; rw [if_pos hbad]
   rw [e] at hu
   rw [e'] at hu'
   rw [e,e']
   exact ⟨hu,hu',rfl,fun hh=>by cases hh⟩
 · cases hf:q.full with
   | true=>
     have hf':=h.full.trans hf
     have e:Pg.file m q f idx b=(q,f):=by unfold Pg.file; rw [if_neg hbad,if_pos hf]
     have e':Pg.file m' q' f' idx b=(q',f'):=by unfold Pg.file; rw [if_neg hbad,if_pos hf']
     rw [e,e']
     exact h
   | false=>
     have hf':=h.full.trans hf
     obtain ⟨hc,a,ha,ha'⟩:=h.at_ hf
     obtain ⟨i,rfl⟩:∃ i:Nat,idx=i:=⟨idx.toNat,by omega⟩
     have r:=file_rel hm h.u.ok ha hf (i:=i) (by omega) hb
     have r':=file_rel hm' h.u'.ok ha' hf' (i:=i) (by omega) hb
     rw [hc] at r'
     by_cases hne:q.c+need a i≤m.n
     · obtain ⟨y1,y2,y3⟩:=r.yes hne
       obtain ⟨z1,z2,z3⟩:=r'.yes (by rw [hc,hn]; exact hne)
       exact ⟨hu,hu',by rw [y1,z1],fun _=>⟨by rw [y2,z2,hc],_,y3,z3⟩⟩
     · have y1:=r.no hne
       have z1:=r'.no (by rw [hc,hn]; exact hne)
       exact ⟨hu,hu',by rw [y1,z1],fun hh=>by rw [y1] at hh; cases hh⟩
theorem dir_tw (hm:yA m) (hm':yA m') (hn:m'.n=m.n) (len:Nat):∀ (l:List Ent) (s:Nat) (q q':Pg) (f f':Ino) (b:Blk),IsB b→Tw m m' q q' f f' →
   Tw m m' (ZC m len l s q f b).1 (ZC m' len l s q' f' b).1 (ZC m len l s q f b).2 (ZC m' len l s q' f' b).2
 | [],_,_,_,_,_,_,_,h=>h
 | e :: l,s,q,q',f,f',b,hb,h=>by
   have hp:IsB (Yd b s e):=(yg hb.n (YX e) (by omega)).b
   rw [ZY,ZY,h.full]
   split
   · exact h
   · split
     · exact dir_tw hm hm' hn len l _ _ _ _ _ _ Zn (file_tw hm hm' hn h _ hp)
     · exact dir_tw hm hm' hn len l _ _ _ _ _ _ hp h
theorem data_tw (hm:yA m) (hm':yA m') (hn:m'.n=m.n):∀ (l:List (Int × Blk)) (q q':Pg) (f f':Ino),(∀ x∈l,IsB x.2)→Tw m m' q q' f f' →
   Tw m m' (ZZ m l q f).1 (ZZ m' l q' f').1 (ZZ m l q f).2 (ZZ m' l q' f').2
 | [],_,_,_,_,_,h=>h
 | d :: l,q,q',f,f',hl,h=>by
   rw [ZJ,ZJ,h.full]
   split
   · exact h
   · exact data_tw hm hm' hn l _ _ _ _ (fun x hx=>hl x (List.mem_cons_of_mem _ hx)) (file_tw hm hm' hn h _ (hl d List.mem_cons_self))
theorem itmF_high (t:Itm) {j:Nat} (h:3≤j):yE t j=0:=by unfold yE; rw [if_neg (by omega),if_neg (by omega),if_neg (by omega)]
structure Tq (m m':Pm) (q q':Pg):Prop where
 p:Pgs m q
 p':Pgs m' q'
 full:q'.full=q.full
 at_:q.full=false→q'.c=q.c
theorem itm_tw (hm:yA m) (hm':yA m') (hn:m'.n=m.n) (h:Tq m m' q q') {t:Itm} (ht:ZK t):Tw m m' (Zo m q t).1 (Zo m' q' t).1 (Zo m q t).2 (Zo m' q' t).2:=by
 have hs:∀ {m:Pm} {q:Pg},Zr m q→FR m q (yE t) fun _=>none:=fun hz=>hz.start fun j hj=>itmF_high t (by omega)
 have h0:Tw m m' q q' (yE t) (yE t):=⟨⟨h.p.ok,fun hf=>⟨_,hs (h.p.z hf)⟩,itmF_ok ht⟩,⟨h.p'.ok,fun hf=>⟨_,hs (h.p'.z hf)⟩,itmF_ok ht⟩,h.full,fun hf=>⟨h.at_ hf,_,hs (h.p.z hf),hs (h.p'.z (h.full.trans hf))⟩⟩
 have h1:Tw m m' (if t.kind=2 then ZC m t.slots.length t.slots 0 q (yE t) zB else (q,yE t)).1 (if t.kind=2 then ZC m' t.slots.length t.slots 0 q' (yE t) zB else (q',yE t)).1 (if t.kind=2 then ZC m t.slots.length t.slots 0 q (yE t) zB else (q,yE t)).2 (if t.kind=2 then ZC m' t.slots.length t.slots 0 q' (yE t) zB else (q',yE t)).2:=by
   split
   · exact dir_tw hm hm' hn _ _ _ _ _ _ _ _ Zn h0
   · exact h0
 unfold Zo
 simp only
 split
 · exact data_tw hm hm' hn _ _ _ _ _ (fun x hx=>(ht.data x hx).2) h1
 · exact h1
theorem item_tw {B L I:Int} (hm:MOf m B L I) (hm':MOf m' B L I) (hg:Zd B L I) (h:Tq m m' q q') {t:Itm} (ht:ZK t):Tq m m' (Pg.item m q t) (Pg.item m' q' t):=by
 have hda:m'.da=m.da:=by have h1:=hm.ok.da; have h2:=hm'.ok.da; rw [hm.x] at h1; rw [hm'.x] at h2; omega
 have hn:m'.n=m.n:=by have h1:=hm.ok.n; have h2:=hm'.ok.n; have h3:=hm.B; have h4:=hm'.B; omega
 have hw:=itm_tw hm.ok hm'.ok hn h ht
 have k:=Yz hm hg h.p ht
 have k':=Yz hm' hg h.p' ht
 unfold Pg.item at *
 rw [hm.x] at *
 rw [hm'.x] at *
 split at k
 · rename_i hb
   rw [if_pos hb] at k' ⊢
   rw [if_pos hb]
   exact ⟨k,k',rfl,fun hh=>by cases hh⟩
 · rename_i hb
   rw [if_neg hb] at k' ⊢
   rw [if_neg hb]
   exact ⟨k,k',hw.full,fun hh=>(hw.at_ hh).1⟩
theorem items_tw {B L I:Int} (hm:MOf m B L I) (hm':MOf m' B L I) (hg:Zd B L I):∀ (l:List Itm) (q q':Pg),(∀ t∈l,ZK t)→Tq m m' q q'→Tq m m' (zA m l q) (zA m' l q')
 | [],_,_,_,h=>h
 | t :: l,q,q',hl,h=>by
   rw [Zj,Zj,h.full]
   split
   · exact h
   · exact items_tw hm hm' hg l _ _ (fun x hx=>hl x (List.mem_cons_of_mem _ hx)) (item_tw hm hm' hg h (hl t List.mem_cons_self))
theorem room_same {B L I:Int} (hm:MOf m B L I) (hm':MOf m' B L I) (hg:Zd B L I) {its:List Itm} (hits:∀ t∈its,ZK t):Tq m m' (zA m its (pg0 m)) (zA m' its (pg0 m')):=
 items_tw hm hm' hg its _ _ hits ⟨pg0_ok hm.ok,pg0_ok hm'.ok,rfl,fun _=>rfl⟩
end
section
variable {m:Pm} {q:Pg} {f:Ino}
theorem take_L:(q.take m).1.L=q.L:=by unfold Pg.take; split <;> rfl
theorem take_2 (hm:yA m) (hf:(q.take m).1.full=false):m.da≤(q.take m).2:=by
 unfold Pg.take at hf ⊢
 split
 · exact (m.blk_lt hm _).1
 · rename_i h; rw [if_neg h] at hf; cases hf
theorem fin_out (hm:yA m) {tp pl:Nat} {b:Blk} (htp:m.da≤tp) {i:Nat} (hi:i<m.da):(Pg.fin m q f tp pl b).1.L[i]?=q.L[i]?:=by
 unfold Pg.fin
 split
 · rw [take_L]
 · rename_i hf
   have:=take_2 hm (by simpa using hf)
   show (((q.take m).1.L.set tp _).set (q.take m).2 b)[i]?=_
   rw [List.getElem?_set_ne (by omega),List.getElem?_set_ne (by omega),take_L]
theorem file_out (hm:yA m) (h:Und m q f) (idx:Int) (b:Blk) {i:Nat} (hi:i<m.da):(Pg.file m q f idx b).1.L[i]?=q.L[i]?:=by
 unfold Pg.file
 split
 · rfl
 · split
   · rfl
   · rename_i hbad hnf
     have hnf:q.full=false:=by simpa using hnf
     obtain ⟨a,ha⟩:=h.fr hnf
     have key:∀ {j tt:Nat},(j=14∧tt=0∨j=15∧tt=1)→(Pg.top m q f j).1.L=q.L:=fun {j tt} hj=>by
       unfold Pg.top; split
       · exact take_L
       · rfl
     split
     · split
       · rw [take_L]
       · rename_i hf
         have:=take_2 hm (by simpa using hf)
         show ((q.take m).1.L.set (q.take m).2 b)[i]?=_
         rw [List.getElem?_set_ne (by omega),take_L]
     · split
       · split
         · rw [key (.inl ⟨rfl,rfl⟩)]
         · rename_i hf
           obtain ⟨a1,k,_,_,ht,_⟩:=top_after hm h.ok ha hnf (.inl ⟨rfl,rfl⟩) (by simpa using hf)
           rw [fin_out hm (by rw [ht]; exact (m.blk_lt hm k).1) hi,key (.inl ⟨rfl,rfl⟩)]
       · split
         · rw [key (.inr ⟨rfl,rfl⟩)]
         · rename_i hf
           obtain ⟨a1,k,hfr,hk,ht,_⟩:=top_after hm h.ok ha hnf (.inr ⟨rfl,rfl⟩) (by simpa using hf)
           have hkb:=(m.blk_lt hm k).1
           unfold Pg.dbl
           rw [ht]
           have hgot:=hfr.ix 1 k (by omega) hk ((idx.toNat - 266) / 256) (by omega)
           split
           · split
             · rw [take_L,key (.inr ⟨rfl,rfl⟩)]
             · rename_i hf2
               rw [fin_out hm (take_2 hm (by simpa using hf2)) hi]
               show (((Pg.top m q f 15).1.take m).1.L.set (m.blk k) _)[i]?=_
               rw [List.getElem?_set_ne (by omega),take_L,key (.inr ⟨rfl,rfl⟩)]
           · rename_i hz
             rw [fin_out hm ?_ hi,key (.inr ⟨rfl,rfl⟩)]
             rw [hgot] at hz ⊢
             cases hsl:a1 (ZD 1 ((idx.toNat - 266) / 256)) with
             | none=>rw [hsl] at hz; exact absurd rfl hz
             | some k2=>exact (m.blk_lt hm k2).1
theorem dir_out (hm:yA m) (len:Nat) {i:Nat} (hi:i<m.da):∀ (l:List Ent) (s:Nat) (q:Pg) (f:Ino) (b:Blk),IsB b→Und m q f→(ZC m len l s q f b).1.L[i]?=q.L[i]?
 | [],_,_,_,_,_,_=>rfl
 | e :: l,s,q,f,b,hb,h=>by
   have hp:IsB (Yd b s e):=(yg hb.n (YX e) (by omega)).b
   rw [ZY]
   split
   · rfl
   · split
     · rw [dir_out hm len hi l _ _ _ _ Zn (yG hm h hp),file_out hm h _ _ hi]
     · exact dir_out hm len hi l _ _ _ _ hp h
theorem data_out (hm:yA m) {i:Nat} (hi:i<m.da):∀ (l:List (Int × Blk)) (q:Pg) (f:Ino),(∀ x∈l,IsB x.2)→Und m q f→(ZZ m l q f).1.L[i]?=q.L[i]?
 | [],_,_,_,_=>rfl
 | d :: l,q,f,hl,h=>by
   rw [ZJ]
   split
   · rfl
   · rw [data_out hm hi l _ _ (fun x hx=>hl x (List.mem_cons_of_mem _ hx)) (yG hm h (hl d List.mem_cons_self)),file_out hm h _ _ hi]
theorem itm_out (hm:yA m) (hp:Pgs m q) {t:Itm} (ht:ZK t) {i:Nat} (hi:i<m.da):(Zo m q t).1.L[i]?=q.L[i]?:=by
 have h0:Und m q (yE t):=⟨hp.ok,fun hf=>⟨_,(hp.z hf).start fun j hj=>itmF_high t (by omega)⟩,itmF_ok ht⟩
 unfold Zo
 simp only
 by_cases h2:t.kind=2
 · rw [if_pos h2]
   have hk:=dir_keep hm t.slots.length t.slots 0 q (yE t) zB Zn h0
   have ho:=dir_out hm t.slots.length hi t.slots 0 q (yE t) zB Zn h0
   split
   · rw [data_out hm hi _ _ _ (fun x hx=>(ht.data x hx).2) hk,ho]
   · exact ho
 · rw [if_neg h2]
   split
   · rw [data_out hm hi _ _ _ (fun x hx=>(ht.data x hx).2) h0]
   · rfl
theorem items_low {B L I:Int} (hm:MOf m B L I) (hg:Zd B L I) {i:Nat} (hi:(i:Int)<1+L):∀ (l:List Itm) (q:Pg),(∀ t∈l,ZK t)→Pgs m q→(zA m l q).L[i]?=q.L[i]?
 | [],_,_,_=>rfl
 | t :: l,q,hl,h=>by
   have ht:=hl t List.mem_cons_self
   rw [Zj]
   split
   · rfl
   · rw [items_low hm hg hi l _ (fun x hx=>hl x (List.mem_cons_of_mem _ hx)) (Yz hm hg h ht)]
     have hd:m.da=(zp B L I).dataAt:=by rw [← hm.ok.da,hm.x]
     have hN:m.x.nodeAt=1+L:=by rw [hm.x]; rfl
     obtain ⟨g1,g2,g3,g4,g5,g6,g7⟩:=hg
     simp only [zp] at hd g7
     unfold Pg.item
     split
     · rfl
     · show ((Zo m q t).1.L.set _ _)[i]?=_
       rw [List.getElem?_set_ne (by omega),itm_out hm.ok h ht (by omega)]
theorem YG {c sd:Nat} {L:List Blk} {i:Nat} (h1:i<m.x.bitsAt.toNat) (h2:i<m.da):∀ n,(Yu m c sd L n)[i]?=L[i]?
 | 0=>rfl
 | a+1=>by
   simp only [Yu,bitStep]
   split
   · rw [List.getElem?_set_ne (by omega),YG h1 h2 a]
   · rename_i hc
     split
     · rw [List.getElem?_set_ne (by omega),YG h1 h2 a]
     · exact YG h1 h2 a
theorem laid_low {B L I:Int} (hm:MOf m B L I) (hg:Zd B L I) {its:List Itm} (hits:∀ t∈its,ZK t) (sd:Nat) :
   (Zq m (zA m its (pg0 m)) sd)[0]?=some (ZN (zp B L I))∧(Zq m (zA m its (pg0 m)) sd)[1]?=some zB∧(Zq m (zA m its (pg0 m)) sd).length=m.B∧∀ c∈Zq m (zA m its (pg0 m)) sd,IsB c:=by
 have hP:=(room_same hm hm hg hits).p
 have hd:m.da=(zp B L I).dataAt:=by rw [← hm.ok.da,hm.x]
 have hb:m.x.bitsAt=1+L+(I+16) / 16:=by rw [hm.x]; rfl
 have hl1:m.x.logAt=1:=by rw [hm.x]; rfl
 have hB:=hm.B
 obtain ⟨g1,g2,g3,g4,g5,g6,g7⟩:=id hg
 simp only [zp] at hd g7
 have low:∀ i:Nat,(i:Int)<2→(Zq m (zA m its (pg0 m)) sd)[i]?=((zA m its (pg0 m)).L.set 0 (ZN m.x))[i]?:=fun i hi=>by
   unfold Zq
   split
   · rw [List.getElem?_set_ne (by omega),YG (by omega) (by omega)]
   · exact YG (by omega) (by omega) _
 refine ⟨?_,?_,?_,?_⟩
 · rw [low 0 (by omega),List.getElem?_set_self (by rw [hP.ok.len]; omega),hm.x]
 · rw [low 1 (by omega),List.getElem?_set_ne (by omega),items_low hm hg (by omega) _ _ hits (pg0_ok hm.ok)]
   simp only [pg0,List.getElem?_replicate]
   rw [if_pos (by omega)]
 · unfold Zq
   split
   · rw [List.length_set,bitGo_len,List.length_set,hP.ok.len]
   · rw [bitGo_len,List.length_set,hP.ok.len]
 · have h1:∀ c∈Yu m (zA m its (pg0 m)).c sd ((zA m its (pg0 m)).L.set 0 (ZN m.x)) m.B,IsB c:=bitGo_is (fun c hc=>by
     rcases List.mem_or_eq_of_mem_set hc with h2 | h2
     · exact hP.ok.is c h2
     · rw [h2]; exact YO _ 9) _
   unfold Zq
   split
   · intro c hc
     rcases List.mem_or_eq_of_mem_set hc with h2 | h2
     · exact h1 c h2
     · rw [h2]; exact markB_is _ _
   · exact h1
end
noncomputable def zN (l:List (Int × Blk)) (a:Int):Blk:=((l.find? fun x=>decide (x.1=a)).map (·.2)).getD zB
theorem Zw {l:List (Int × Blk)} (h:∀ x∈l,IsB x.2) (a:Int):IsB (zN l a):=by
 unfold zN
 cases hf:l.find? fun x=>decide (x.1=a) with
 | none=>exact Zn
 | some x=>exact h x (List.mem_of_find?_eq_some hf)
def lkC (n:Int) (dv:Value) (x:Lay):Array Value:=#[zm n,dv,zm x.B,zm x.L,zm x.I,zm x.logAt,zm x.nodeAt,zm x.nodeBlocks,zm x.bitsAt,zm x.bitsBlocks,zm x.dataAt,.slice none 0 0]
structure Lk (H:Hp) (d:Nat) (dv:Value) (B L I:Int) (l:List (Int × Blk)):Prop where
 top:H[d]?=some (.cells (lkC B dv (zp B L I)) 173)
 rd:Sr 1025 H dv (l.map zM)
 is:∀ x∈l,IsB x.2
 len:l.length≤1048576
 ok:Zd B L I
theorem Lk.ext {H H':Hp} {d:Nat} {dv:Value} {B L I:Int} {l:List (Int × Blk)} (h:Lk H d dv B L I l) (e:Ext H H'):Lk H' d dv B L I l:=⟨e.at h.top,h.rd.ext e,h.is,h.len,h.ok⟩
section
variable {n:Int} {dv:Value} {x:Lay}
theorem lkC2:(lkC n dv x)[2]?=some (zm x.B):=rfl
theorem lkC4:(lkC n dv x)[4]?=some (zm x.I):=rfl
theorem lkC6:(lkC n dv x)[6]?=some (zm x.nodeAt):=rfl
theorem lkC7:(lkC n dv x)[7]?=some (zm x.nodeBlocks):=rfl
theorem lkC8:(lkC n dv x)[8]?=some (zm x.bitsAt):=rfl
theorem lkC9:(lkC n dv x)[9]?=some (zm x.bitsBlocks):=rfl
theorem lkC10:(lkC n dv x)[10]?=some (zm x.dataAt):=rfl
theorem lkC11:(lkC n dv x)[11]?=some (.slice none 0 0):=rfl
theorem lkC_size:(lkC n dv x).size=12:=rfl
end
theorem lenNilInts:lenE Tryz.prog 106 (.slice none 0 0)=some (zm 0):=by kernel_rfl
theorem heldC_1 {x:Int × Blk} (h:IsB x.2):(zM x).extract 1 (1+1024)=x.2:=heldC_ext h
section
variable {H:Hp} {R:Value→Hp→Prop} {d:Nat} {dv:Value} {B L I:Int} {l:List (Int × Blk)}
theorem at05 {n a:Int} (hrd:Sr 1025 H dv (l.map zM)) (his:∀ x∈l,IsB x.2) (hlen:l.length≤1048576) (k:∀ H',Ext H H'→R (.agg (zN l a)) H'):Fc Tryz.prog 114 #[.agg #[zm n,dv],zm a] H R:=by
 refine fn114 ?_
 simp only [sh114,ya,YF,za,zt]
 refine (Lo.start _ H:Lx H H []).boxA fun b1 H1 _ l1=>?_
 refine l1.boxA fun b2 H2 _ l2=>?_
 have d0:(#[zm n,dv]:Array Value)[1]?=some dv:=rfl
 simp only [zi,Nat.zero_add,za]
 refine zx.mk (fun t H'=>H'=H2∧∃ i:Nat,i≤l.length∧t=(zm i,())∧∀ x∈l.take i,x.1≠a) (fun t _=>mi t.1 fun i=>(l.length - i).toNat) ⟨rfl,0,by omega,rfl,by simp⟩ ?_
 rintro _ H3 ⟨rfl,i,hi,rfl,hno⟩
 have h3:=hrd.ext l2.ext0
 rw [l2.ld (i:=0) rfl,d0,za,h3.lenE yO,za,List.length_map,zr,za,zf]
 refine ⟨fun hlt=>?_,fun hge=>?_⟩
 · have hil:i<l.length:=by omega
   have hei:(l.map zM)[i]?=some (zM l[i]):=by rw [List.getElem?_map,List.getElem?_eq_getElem hil]; rfl
   have hem:l[i]∈l:=List.getElem_mem hil
   have hdr:l.drop i=l[i] :: l.drop (i+1):=List.drop_eq_getElem_cons hil
   have htk:l.take (i+1)=l.take i++[l[i]]:=List.take_succ_eq_append_getElem hil
   generalize l[i]=x at hei hem hdr htk
   obtain ⟨b,o,ha,hcl,hrow⟩:=h3.el hei
   rw [za,ha,za,zi,za,hcl 0 (by omega),Ys,za,zy,za,zf]
   refine ⟨fun he=>?_,fun hne=>?_⟩
   · rw [za,ha,za,zi,za,hrow 1 1024 (by omega),za,heldC_1 (his x hem)]
     have e:zN l a=x.2:=by
       unfold zN
       rw [show l=l.take i++l.drop i from (List.take_append_drop i l).symm,List.find?_append,List.find?_eq_none.2 (fun y hy=>by simpa using hno y hy),hdr,List.find?_cons_of_pos (by simpa using he)]
       rfl
     refine l2.ret (i:=1) rfl zJ (his x hem).size (his x hem).ok fun H' l'=>?_
     rw [← e]; exact k H' l'.ext0
   · rw [zk,za,zK,zv (by omega)]
     refine ⟨⟨rfl,i+1,by omega,rfl,fun y hy=>?_⟩,by simp only [zC]; omega⟩
     rw [htk] at hy
     rcases List.mem_append.1 hy with h1 | h1
     · exact hno y h1
     · rw [List.mem_singleton.1 h1]; exact hne
 · have ei:i=l.length:=by omega
   subst ei
   rw [List.take_length] at hno
   have e:zN l a=zB:=by
     unfold zN
     rw [List.find?_eq_none.2 (fun y hy=>by simpa using hno y hy)]; rfl
   refine l2.ret (i:=1) rfl zJ zJ Zn.ok fun H' l'=>?_
   rw [← e]; exact k H' l'.ext0
theorem lk_at (h:Lk H d dv B L I l) {a:Int} (k:∀ H',Ext H H'→R (.agg (zN l a)) H'):Fc Tryz.prog 127 #[z6 d,zm a] H R:=by
 refine fn127 ?_
 simp only [sh127,ya,za,zt]
 refine (Lo.start _ H:Lx H H []).boxA fun b1 H1 _ l1=>?_
 have h1:=h.ext l1.ext0
 simp only [zc,zi,Nat.zero_add,Nat.add_zero,za]
 refine zx.mk (fun t H'=>H'=H1∧t=(zm 0,())) (fun _ _=>0) ⟨rfl,rfl⟩ ?_
 rintro _ H2 ⟨rfl,rfl⟩
 rw [zq h1.top,lkC11,za,lenNilInts,za,zr,za,show decide ((0:Int)<0)=false from rfl,zn]
 rw [Zp h1.top (show 0+2≤(lkC B dv (zp B L I)).size from by rw [lkC_size]; omega),za,show (lkC B dv (zp B L I)).extract 0 (0+2)=#[zm B,dv] from by simp [lkC]]
 refine at05 h1.rd h.is h.len fun H' e'=>?_
 have hb:=Zw h.is a
 exact (l1.ext e').ret (i:=0) rfl zJ hb.size hb.ok fun H'' l''=>k H'' l''.ext0
def cutN (c:Blk) (o:Nat):Array Value:=c.extract o (o+64)
theorem cutN_is {c:Blk} (h:IsB c) {o:Nat} (ho:o+64≤1024):IsN 64 (cutN c o):=by
 unfold cutN
 refine ⟨by rw [Array.size_extract,h.size]; omega,fun i hi=>?_⟩
 rw [Array.getElem?_extract,if_pos (by rw [h.size]; omega)]
 exact h.cell _ (by omega)
theorem byt_cutN {c:Blk} (h:IsB c) {o:Nat} (ho:o+64≤1024) {i:Nat} (hi:i<64):byt (cutN c o) i=byt c (o+i):=by
 unfold byt cutN
 rw [Array.getElem?_extract,if_pos (by rw [h.size]; omega)]
theorem inoOf_cutN {c:Blk} (h:IsB c) {o:Nat} (ho:o+64≤1024) {j:Nat} (hj:j<16):Zu (cutN c o) 0 j=Zu c o j:=by
 have:=fo_le hj
 unfold Zu
 refine Yy _ _ _ fun i hi=>?_
 rw [byt_cutN h ho (by omega)]; congr 1; omega
noncomputable def inoB (B L I:Int) (l:List (Int × Blk)) (i:Nat):Blk:=zN l (1+L+((i / 16:Nat):Int))
noncomputable def y9 (B L I:Int) (l:List (Int × Blk)) (i:Nat):Ino:=Zu (inoB B L I l i) (64*(i % 16))
noncomputable def rawP (B L I:Int) (l:List (Int × Blk)) (i:Nat):Array Value:=cutN (inoB B L I l i) (64*(i % 16))
theorem lk_raw (h:Lk H d dv B L I l) {i:Nat} (hi:i<65552) (k:∀ H',Ext H H'→R (.agg (rawP B L I l i)) H'):Fc Tryz.prog 147 #[z6 d,zm i] H R:=by
 have hok:=h.ok
 have hN:(zp B L I).nodeAt=1+L:=rfl
 have hL:=hok.1
 have hL2:=hok.2.1
 refine fn147 ?_
 simp only [sh147,ya,zero64,za,zt]
 refine (Lo.start _ H:Lx H H []).boxA fun b1 H1 _ l1=>?_
 have h1:=h.ext l1.ext0
 simp only [zc,zi,Nat.zero_add,Nat.add_zero,Nat.reduceAdd,za]
 rw [zq h1.top,lkC6,za,Zh (by decide),za,Zl (by omega),zg (by omega) (by omega),hN,zk,za,zg (by omega) (by omega),show (1+L+(i:Int) / 16)=1+L+((i / 16:Nat):Int) by omega]
 refine lk_at h1 fun H2 e2=>?_
 have hb:IsB (inoB B L I l i):=Zw h.is _
 refine (l1.ext e2).boxA fun b2 H3 _ l3=>?_
 refine l3.stAll (i:=1) (vs:=inoB B L I l i) rfl zJ hb.size hb.ok fun H4 l4=>?_
 refine l4.boxA fun b3 H5 _ l5=>?_
 have ho:64*(i % 16)+64≤1024:=by omega
 have hcut:=cutN_is hb ho
 refine zx.mk (fun t H'=>∃ (j:Nat) (c:Array Value),j≤64∧t=(zm j,())∧IsN 64 c∧(∀ x,x<j→byt c x=byt (rawP B L I l i) x)∧Lx H H' [.box b1 (zR 64) 148,.box b2 (inoB B L I l i) 94,.box b3 c 148])
   (fun t _=>mi t.1 fun j=>(64 - j).toNat) ⟨0,zR 64,by omega,rfl,yi 64,fun x hx=>by omega,l5⟩ ?_
 rintro _ H6 ⟨j,c,hj,rfl,hc,hcx,l6⟩
 rw [zr,za,zf]
 refine ⟨fun hlt=>?_,fun hge=>?_⟩
 · rw [zW (by decide),za,Za (by omega),zX,za,zg (by omega) (by omega),zk,za,zg (by omega) (by omega),show (64*((i:Int) % 16)+(j:Int))=((64*(i % 16)+j:Nat):Int) by omega,zG (by omega),za,Nat.zero_add,Nat.mul_one,l6.ld (i:=1) rfl,hb.get (by omega),za,zG (by omega),za,Nat.zero_add,Nat.mul_one]
   refine l6.st (i:=2) (j:=j) (v:=.int .u8 (byt (inoB B L I l i) (64*(i % 16)+j))) rfl (by rw [hc.size]; omega) rfl rfl fun H7 l7=>?_
   rw [zk,za,zK,zv (by omega)]
   refine ⟨⟨j+1,_,by omega,rfl,hc.set j (hb.lt _),fun x hx=>?_,l7⟩,by simp only [zC]; omega⟩
   rw [hc.byt_set (by omega)]
   by_cases e:j=x
   · subst e
     rw [if_pos rfl]; exact (byt_cutN hb ho (by omega)).symm
   · rw [if_neg e]; exact hcx x (by omega)
 · have ej:j=64:=by omega
   subst ej
   have e:c=rawP B L I l i:=hc.ext hcut fun x hx=>hcx x hx
   rw [l6.ldAll (i:=2) (n:=64) rfl hc.size,za]
   refine l6.ret (i:=0) rfl (yW 64) hc.size hc.ok fun H' l'=>?_
   rw [e]; exact k H' l'.ext0
theorem get10 {c:Array Value} (hc:IsN 64 c) {a n:Nat} (ha:a+n≤64) (hn:1≤n∧n≤4) (k:∀ H',Ext H H'→R (.int .u32 (leB c a n)) H'):Fc Tryz.prog 144 #[.agg c,zm a,zm n] H R:=by
 refine fn144 ?_
 simp only [sh144,zt]
 refine (Lo.start _ H:Lx H H []).boxA fun b1 H1 _ l1=>?_
 rw [zO,za,zg (by omega) (by omega)]
 refine zx.mk (fun t H'=>H'=H1∧∃ j:Nat,j≤n∧t=(.int .u32 (leB c (a+(n - j)) j:Nat),zm ((n:Int) - 1 - (j:Int)),())) (fun t _=>mi t.2.1 fun x=>(x+1).toNat) ⟨rfl,0,by omega,by rw [show (n:Int) - 1 - ((0:Nat):Int)=(n:Int) - 1 by omega]; rfl⟩ ?_
 rintro _ H2 ⟨rfl,j,hj,rfl⟩
 have hv:=leB_lt (c:=c) hc.lt j (a+(n - j))
 have hv2:256 ^ j≤256 ^ 4:=Nat.pow_le_pow_right (by omega) (by omega)
 generalize hv3:leB c (a+(n - j)) j=v at hv
 rw [zQ,za,zf]
 refine ⟨fun hge=>?_,fun hlt=>?_⟩
 · have hv4:256 ^ j≤256 ^ 3:=Nat.pow_le_pow_right (by omega) (by omega)
   rw [zX,za,Zk (by omega) (by omega),zk,za,zg (by omega) (by omega),show ((a:Int)+((n:Int) - 1 - (j:Int)))=((a+(n - 1 - j):Nat):Int) by omega,zG (by omega),za,Nat.zero_add,Nat.mul_one,l1.ld (i:=0) rfl,hc.get (by omega),za,zE,za]
   have hbl:=hc.lt (a+(n - 1 - j))
   rw [u32nat (by omega),zk,za,Zk (by omega) (by omega),zO,za,zg (by omega) (by omega)]
   refine ⟨⟨rfl,j+1,by omega,?_⟩,by simp only [zC]; omega⟩
   have e1:leB c (a+(n - (j+1))) (j+1)=byt c (a+(n - 1 - j))+256*v:=by
     show byt c (a+(n - (j+1)))+256*leB c (a+(n - (j+1))+1) j=_
     rw [show a+(n - (j+1))+1=a+(n - j) by omega,hv3,show a+(n - (j+1))=a+(n - 1 - j) by omega]
   rw [e1,show (256*(v:Int)+(byt c (a+(n - 1 - j)):Int))=((byt c (a+(n - 1 - j))+256*v:Nat):Int) by omega,show ((n:Int) - 1 - (j:Int) - 1)=(n:Int) - 1 - ((j+1:Nat):Int) by omega]
   rfl
 · have ej:j=n:=by omega
   subst ej
   rw [Nat.sub_self,Nat.add_zero] at hv3
   rw [← hv3]; exact k _ l1.ext0
end
theorem buildNode4 (a b c d:Int):zu Tryz.prog 88 [(0,.int .u16 a),(1,.int .u16 b),(2,.int .u32 c),(3,.int .u32 d)]=some (.agg #[.int .u16 a,.int .u16 b,.int .u32 c,.int .u32 d,.int .u32 0,.int .u32 0,.int .u32 0,.int .u32 0,.int .u32 0,.int .u32 0,.int .u32 0,.int .u32 0,.int .u32 0,.int .u32 0,.int .u32 0,.int .u32 0]):=by kernel_rfl
def inoT (f:Ino) (n:Nat):Ino:=fun j=>if j<n then f j else 0
theorem inoT_set (f:Ino) {n:Nat} (h2:2≤n) (h:n<16):(Zs (inoT f n)).setIfInBounds n (.int .u32 (f n))=Zs (inoT f (n+1)):=by
 rw [yQ _ _ n h2 h]
 refine yT fun j hj=>?_
 unfold upd inoT
 by_cases e:j=n
 · subst e; rw [if_pos rfl,if_pos (by omega)]
 · rw [if_neg e]
   by_cases h3:j<n
   · rw [if_pos h3,if_pos (by omega)]
   · rw [if_neg h3,if_neg (by omega)]
section
variable {H:Hp} {R:Value→Hp→Prop} {d:Nat} {dv:Value} {B L I:Int} {l:List (Int × Blk)}
theorem dec10 {c:Array Value} (hc:IsN 64 c) (k:∀ H',Ext H H'→R (.agg (Zs (Zu c 0))) H'):Fc Tryz.prog 107 #[.agg c] H R:=by
 have hok:InoOk (Zu c 0):=inoOf_ok hc.lt 0
 have h0:=hok 0 (by omega)
 have h1:=hok 1 (by omega)
 simp only [fw,Nat.reduceLT,if_true,Nat.reducePow] at h0 h1
 have eF:∀ j,leB c (fo j) (fw j)=Zu c 0 j:=fun j=>by unfold Zu; rw [Nat.zero_add]
 have q:∀ {H':Hp} {a n:Nat},a+n≤64→1≤n∧n≤4→QC true Tryz.prog 144 #[.agg c,zm a,zm n] H' (.int .u32 (leB c a n)):=fun {H' a n} ha hn H'' _=>get10 hc ha hn fun H3 e3=>⟨rfl,e3⟩
 refine fn107 ?_
 simp only [sh107,yd,za,zt]
 refine (Lo.start _ H:Lx H H []).boxA fun b1 H1 _ l1=>?_
 refine l1.boxA fun b2 H2 _ l2=>?_
 simp only [l2.ldAll (i:=0) (n:=64) rfl hc.size,zi,Nat.zero_add,za]
 refine ⟨_,q (a:=0) (n:=2) (by omega) (by omega),?_⟩
 rw [zE,za]
 refine ⟨_,q (a:=2) (n:=2) (by omega) (by omega),?_⟩
 rw [zE,za]
 refine ⟨_,q (a:=4) (n:=4) (by omega) (by omega),?_⟩
 refine ⟨_,q (a:=8) (n:=4) (by omega) (by omega),?_⟩
 have e0:=eF 0
 have e1:=eF 1
 have e2:=eF 2
 have e3:=eF 3
 simp only [fo,fw,Nat.reduceLT,if_true,if_false,Nat.reduceMul,Nat.reduceSub,Nat.lt_irrefl] at e0 e1 e2 e3
 rw [e0,e1,e2,e3,Zv (by omega) (by omega),Zv (by omega) (by omega),buildNode4,za,zl]
 intro H3 x3
 refine (l2.ext x3).boxA fun b3 H4 _ l4=>?_
 simp only [zi,Nat.zero_add,za]
 rw [zl]
 intro H5 x5
 refine (l4.ext x5).stAll (i:=2) (vs:=Zs (inoT (Zu c 0) 4)) rfl (zz _) (zz _) (Z0 _) fun H6 l6=>?_
 rw [zl]
 intro H7 x7
 have l7:=l6.ext x7
 refine zx.mk (fun t H'=>∃ i:Nat,i≤10∧t=(zm i,())∧Lx H H' [.box b1 c 148,.box b2 (Zs fun _=>0) 88,.box b3 (Zs (inoT (Zu c 0) (4+i))) 88])
   (fun t _=>mi t.1 fun i=>(10 - i).toNat) ⟨0,by omega,rfl,l7⟩ ?_
 rintro _ H8 ⟨i,hi,rfl,l8⟩
 rw [zr,za,zf]
 refine ⟨fun hlt=>?_,fun hge=>?_⟩
 · rw [l8.ldAll (i:=0) (n:=64) rfl hc.size,za,zX,za,zg (by omega) (by omega),zk,za,zg (by omega) (by omega),show (12:Int)+4*(i:Int)=((12+4*i:Nat):Int) by omega]
   refine get10 (n:=4) hc (by omega) (by omega) fun H9 e9=>?_
   have e4:leB c (12+4*i) 4=Zu c 0 (4+i):=by
     have:=eF (4+i)
     rw [show fo (4+i)=12+4*i by unfold fo; rw [if_neg (by omega)]; omega,show fw (4+i)=4 by unfold fw; rw [if_neg (by omega)]] at this
     exact this
   rw [e4,zG (by omega),za,Nat.mul_one]
   refine (l8.ext e9).st (i:=2) (j:=4+i) (v:=.int .u32 (Zu c 0 (4+i))) rfl (by rw [zz]; omega) rfl rfl fun H10 l10=>?_
   rw [inoT_set _ (by omega) (by omega)] at l10
   rw [zk,za,zK,zv (by omega)]
   exact ⟨⟨i+1,by omega,rfl,l10⟩,by simp only [zC]; omega⟩
 · have ei:i=10:=by omega
   subst ei
   rw [l8.ldAll (i:=0) (n:=64) rfl hc.size,za]
   refine get10 (a:=52) (n:=4) hc (by omega) (by omega) fun H11 e11=>?_
   have e14:=eF 14
   have e15:=eF 15
   rw [show fo 14=52 from rfl,show fw 14=4 from rfl] at e14
   rw [show fo 15=56 from rfl,show fw 15=4 from rfl] at e15
   rw [e14]
   refine (l8.ext e11).st (i:=2) (j:=14) (v:=.int .u32 (Zu c 0 14)) rfl (by rw [zz]; omega) rfl rfl fun H12 l12=>?_
   rw [inoT_set _ (by omega) (by omega)] at l12
   rw [l12.ldAll (i:=0) (n:=64) rfl hc.size,za]
   refine get10 (a:=56) (n:=4) hc (by omega) (by omega) fun H13 e13=>?_
   rw [e15]
   refine (l12.ext e13).st (i:=2) (j:=15) (v:=.int .u32 (Zu c 0 15)) rfl (by rw [zz]; omega) rfl rfl fun H14 l14=>?_
   rw [inoT_set _ (by omega) (by omega)] at l14
   rw [l14.ldAll (i:=2) (n:=16) rfl (zz _),za]
   refine l14.ret (i:=1) rfl (zz _) (zz _) (Z0 _) fun H' l'=>?_
   rw [yT (g:=Zu c 0) fun j hj=>by unfold inoT; rw [if_pos (by omega)]]
   exact k H' l'.ext0
theorem lk_node (h:Lk H d dv B L I l) {i:Nat} (hi:i<65552) (k:∀ H',Ext H H'→R (.agg (Zs (y9 B L I l i))) H'):Fc Tryz.prog 124 #[z6 d,zm i] H R:=by
 refine fn124 ?_
 simp only [sh124,yd,za]
 refine (Lo.start _ H:Lx H H []).boxA fun b1 H1 _ l1=>?_
 have hb:IsB (inoB B L I l i):=Zw h.is _
 refine lk_raw (h.ext l1.ext0) hi fun H2 e2=>?_
 refine dec10 (cutN_is hb (by omega)) fun H3 e3=>?_
 refine ((l1.ext e2).ext e3).ret (i:=0) rfl (zz _) (zz _) (Z0 _) fun H' l'=>?_
 have e:Zs (Zu (rawP B L I l i) 0)=Zs (y9 B L I l i):=yT fun j hj=>inoOf_cutN hb (by omega) hj
 rw [e]
 exact k H' l'.ext0
def yC (c:Blk) (i:Nat):Nat:=leB c (4*i) 4
theorem number29 {c:Blk} (hb:IsB c) {i:Nat} (hi:i<256) (k:∀ H',Ext H H'→R (zm (yC c i)) H'):Fc Tryz.prog 158 #[.agg c,zm i] H R:=by
 refine fn158 ?_
 simp only [sh158,zt]
 refine (Lo.start _ H:Lx H H []).boxA fun b1 H1 _ l1=>?_
 refine zx.mk (fun s H'=>H'=H1∧∃ j:Nat,j≤4∧s=(zm (leB c (4*i+(4 - j)) j:Nat),zm (3 - (j:Int)),())) (fun s _=>mi s.2.1 fun x=>(x+1).toNat) ⟨rfl,0,by omega,rfl⟩ ?_
 rintro _ H2 ⟨rfl,j,hj,rfl⟩
 have hv:=leB_lt (c:=c) hb.lt j (4*i+(4 - j))
 have hv2:256 ^ j≤256 ^ 4:=Nat.pow_le_pow_right (by omega) hj
 generalize hv3:leB c (4*i+(4 - j)) j=v at hv
 rw [zQ,za,zf]
 refine ⟨fun hge=>?_,fun hlt=>?_⟩
 · have hv4:256 ^ j≤256 ^ 3:=Nat.pow_le_pow_right (by omega) (by omega)
   rw [zX,za,zX,za,zg (x:=256*(v:Int)) (by omega) (by omega),zg (x:=4*(i:Int)) (by omega) (by omega),zk,za,zg (by omega) (by omega),show (4*(i:Int)+(3 - (j:Int)))=((4*i+(3 - j):Nat):Int) by omega,zG (by omega),za,Nat.zero_add,Nat.mul_one,l1.ld (i:=0) rfl,hb.get (by omega),za,zE,za]
   have hbl:=hb.lt (4*i+(3 - j))
   rw [zv (by omega),zk,za,zg (by omega) (by omega),zO,za,zg (by omega) (by omega)]
   refine ⟨⟨rfl,j+1,by omega,?_⟩,by simp only [zC]; omega⟩
   have e1:leB c (4*i+(4 - (j+1))) (j+1)=byt c (4*i+(3 - j))+256*v:=by
     show byt c (4*i+(4 - (j+1)))+256*leB c (4*i+(4 - (j+1))+1) j=_
     rw [show 4*i+(4 - (j+1))+1=4*i+(4 - j) by omega,hv3,show 4*i+(4 - (j+1))=4*i+(3 - j) by omega]
   rw [e1,show (256*(v:Int)+(byt c (4*i+(3 - j)):Int))=((byt c (4*i+(3 - j))+256*v:Nat):Int) by omega,show (3 - (j:Int) - 1)=3 - ((j+1:Nat):Int) by omega]
   rfl
 · have ej:j=4:=by omega
   subst ej
   rw [← hv3]; exact k _ l1.ext0
def yP (B L I:Int) (a:Int):Prop:=(zp B L I).dataAt≤a∧a<B
theorem data29 (h:Lk H d dv B L I l) {a:Int} (k:R (.bool (decide (yP B L I a))) H):Fc Tryz.prog 150 #[z6 d,zm a] H R:=by
 refine fn150 ?_
 simp only [sh150,zc,zi,Nat.zero_add,Nat.add_zero,Nat.reduceAdd,za]
 rw [zq h.top,lkC10,za,zQ,za,zf]
 refine ⟨fun h1=>?_,fun h1=>?_⟩
 · rw [zq h.top,lkC2,za,zr,za]
   have e:decide (a<(zp B L I).B)=decide (yP B L I a):=by
     rw [decide_eq_decide]; exact ⟨fun h2=>⟨h1,h2⟩,fun h2=>h2.2⟩
   rw [e]; exact k
 · have e:decide (yP B L I a)=false:=decide_eq_false fun h2=>h1 h2.1
   rw [e] at k; exact k
theorem up29 {n:Int} (h0:0≤n∧n≤4611686018427387904) (k:R (zm ((n+1023) / 1024)) H):Fc Tryz.prog 162 #[zm n] H R:=by
 refine fn162 ?_
 simp only [sh162]
 rw [zk,za,zg (by omega) (by omega),zO,za,zg (by omega) (by omega),Zh (by decide),za,Zl (by omega),zg (by omega) (by omega),show n+1024 - 1=n+1023 by omega]
 exact k
abbrev Spt:=Int × Int
def spC (s:Spt):Array Value:=#[zm s.1,zm s.2]
theorem spC_ok (s:Spt):zF (spC s):=by unfold zF; rw [← Array.all_toList]; rfl
noncomputable def eSpot:ZT:=orE (zI Tryz.prog 175)
set_option maxRecDepth 100000 in
theorem elSpot:zI Tryz.prog 175=some eSpot:=by kernel_rfl
set_option maxRecDepth 100000 in
theorem yw:eSpot.type=233∧eSpot.size=2∧eSpot.zero.size=2∧eSpot.bytes=16:=⟨by kernel_rfl,by kernel_rfl,by kernel_rfl,by kernel_rfl⟩
theorem YM:Tryz.prog.underlying 175=some (.slice 233):=by kernel_rfl
theorem buildSpot (a b:Int):zu Tryz.prog 233 [(0,zm a),(1,zm b)]=some (.agg (spC (a,b))):=by kernel_rfl
noncomputable def underP (c:Blk) (first:Int) (n:Nat):List Spt:=(List.range n).filterMap fun i=>if yC c i=0 then none else some (first+(i:Int),(yC c i:Int))
theorem underP_succ (c:Blk) (first:Int) (n:Nat):underP c first (n+1)=underP c first n++(if yC c n=0 then [] else [(first+(n:Int),(yC c n:Int))]):=by
 unfold underP
 rw [List.range_succ,List.filterMap_append]
 congr 1
 simp only [List.filterMap_cons,List.filterMap_nil]
 split <;> rename_i h <;> split at h <;> simp_all
theorem underP_len (c:Blk) (first:Int) (n:Nat):(underP c first n).length≤n:=by
 unfold underP
 have:=List.length_filterMap_le (fun i=>if yC c i=0 then none else some (first+(i:Int),(yC c i:Int))) (List.range n)
 simpa using this
theorem under29 (h:Lk H d dv B L I l) {a first:Int} (hf:0≤first∧first≤1000000) (k:∀ H' s,Ext H H'→New H H' (.sl 233 2 s ((underP (zN l a) first 256).map spC))→R s H'):Fc Tryz.prog 157 #[z6 d,zm a,zm first] H R:=by
 refine fn157 ?_
 simp only [sh157,ya,za,zt]
 have hb:=Zw h.is a
 refine lk_at h fun H1 e1=>?_
 generalize zN l a=c at hb k
 refine ((Lo.start _ H:Lx H H []).ext e1).boxA fun b2 H2 _ l2=>?_
 refine l2.stAll (i:=0) rfl zJ hb.size hb.ok fun H3 l3=>?_
 have l3:=l3.nilS 233 2
 refine zx.mk (fun t H'=>∃ (i:Nat) (s:Value),i≤256∧t=(s,zm i,())∧Lx H H' [.box b2 c 94,.sl 233 2 s ((underP c first i).map spC)])
   (fun t _=>mi t.2.1 fun i=>(256 - i).toNat) ⟨0,.slice none 0 0,by omega,rfl,l3⟩ ?_
 rintro _ H4 ⟨i,s,hi,rfl,l4⟩
 rw [zr,za,zf]
 refine ⟨fun hlt=>?_,fun hge=>?_⟩
 · rw [l4.ldAll (i:=0) (n:=1024) rfl hb.size,za]
   refine number29 hb (by omega) fun H5 e5=>?_
   have hsu:=underP_succ c first i
   have hle:=underP_len c first i
   rw [zw,za,zf]
   refine ⟨fun hne=>?_,fun heq=>?_⟩
   · rw [if_neg (by omega)] at hsu
     rw [zk,za,zg (by omega) (by omega),buildSpot,za]
     refine (l4.ext e5).appO elSpot yw (i:=1) rfl (by rfl) (by omega) (by omega) rfl (spC_ok _) (by rw [List.length_map]; omega) fun s' H7 l7=>?_
     rw [zk,za,zK,zv (by omega)]
     refine ⟨⟨i+1,s',by omega,rfl,?_⟩,by simp only [zC]; omega⟩
     rw [hsu,List.map_append]; exact l7
   · rw [if_pos (by omega),List.append_nil] at hsu
     rw [zk,za,zK,zv (by omega)]
     refine ⟨⟨i+1,s,by omega,rfl,?_⟩,by simp only [zC]; omega⟩
     rw [hsu]; exact l4.ext e5
 · have ei:i=256:=by omega
   subst ei
   exact k H4 s l4.ext0 (l4.outN (i:=1) rfl)
end
theorem Lo.mergeD {S:Nat→Prop} {H0 H:Hp} {l:List Ob} (h:Lo S H0 H l) {i j:Nat} (hij:i≠j) {x y z:Ob} (hx:l[i]?=some x) (hy:l[j]?=some y) (hz:∀ A B:Nat→Prop,x.at_ H A→y.at_ H B→(∀ b,A b→¬ B b)→z.at_ H fun b=>A b∨B b):Lo S H0 H ((l.set i z).set j .no):=by
 obtain ⟨k,col,w,hc⟩:=h
 have hil:i<l.length:=by
   rcases Nat.lt_or_ge i l.length with h1 | h1
   · exact h1
   · rw [List.getElem?_eq_none h1] at hx; cases hx
 have hjl:j<l.length:=by
   rcases Nat.lt_or_ge j l.length with h1 | h1
   · exact h1
   · rw [List.getElem?_eq_none h1] at hy; cases hy
 have hz':=hz _ _ (w.get hx) (w.get hy) fun b h1 h2=>by
   have h1:col b=i+1:=h1
   have h2:col b=j+1:=h2
   omega
 refine ⟨k,fun b=>if col b=j+1 then i+1 else col b,⟨fun n u hu=>?_,fun b hb=>?_⟩,fun b hb hn=>hc b hb fun e=>hn ?_⟩
 · by_cases hnj:j=n
   · subst hnj
     rw [List.getElem?_set_self (by rw [List.length_set]; exact hjl)] at hu
     injection hu with hu; subst hu
     refine ⟨trivial,fun b hb=>?_⟩
     have hb:(if col b=j+1 then i+1 else col b)=j+1:=hb
     split at hb
     · omega
     · contradiction
   · rw [List.getElem?_set_ne hnj] at hu
     by_cases hin:i=n
     · subst hin
       rw [List.getElem?_set_self hil] at hu
       injection hu with hu; subst hu
       refine z.frame hz' (fun _ _=>rfl) (Nat.le_refl _) (fun b hb=>?_) fun b hb=>?_
       · show (if col b=j+1 then i+1 else col b)=i+1
         rcases hb with hb | hb
         · have hb:col b=i+1:=hb
           split <;> omega
         · rw [if_pos hb]
       · have hb:(if col b=j+1 then i+1 else col b)=i+1:=hb
         split at hb
         · rename_i h2; exact z.own hz' b (.inr h2)
         · exact z.own hz' b (.inl hb)
     · rw [List.getElem?_set_ne hin] at hu
       have ho:=w.get hu
       refine u.frame ho (fun _ _=>rfl) (Nat.le_refl _) (fun b hb=>?_) fun b hb=>?_
       · have hb:col b=n+1:=hb
         show (if col b=j+1 then i+1 else col b)=n+1
         rw [if_neg (by omega)]; exact hb
       · have hb:(if col b=j+1 then i+1 else col b)=n+1:=hb
         split at hb
         · omega
         · exact u.own ho b hb
 · show (if col b=j+1 then i+1 else col b)=0
   rw [w.out b hb,if_neg (by omega)]
 · show (if col b=j+1 then i+1 else col b)=0
   rw [e,if_neg (by omega)]
structure Sub where
 v:Value
 T:Nat
 n:Nat
 vs:List (Array Value)
def Ob.subs (ss:List Sub):Ob:=.of (fun H O=>∀ x∈ss,Sv x.T x.n H x.v x.vs∧∀ b,ZS x.v=some b→O b) fun h hb _ ho x hx=>⟨(h x hx).1.of fun b hh=>hb b ((h x hx).2 b hh),fun b hh=>ho b ((h x hx).2 b hh)⟩
structure Nel where
 c:Array Value
 ss:List Sub
def Ob.nest (T n:Nat) (s:Value) (es:List Nel):Ob:=.of (fun H O=>Sv T n H s (es.map Nel.c)∧(∀ b,ZS s=some b→O b)∧∀ e∈es,∀ x∈e.ss,Sv x.T x.n H x.v x.vs∧∀ b,ZS x.v=some b→O b∧ZS s≠some b)
 fun h hb _ ho=>⟨h.1.of fun b hh=>hb b (h.2.1 b hh),fun b hh=>ho b (h.2.1 b hh),fun e he x hx=>⟨(h.2.2 e he x hx).1.of fun b hh=>hb b ((h.2.2 e he x hx).2 b hh).1,fun b hh=>⟨ho b ((h.2.2 e he x hx).2 b hh).1,((h.2.2 e he x hx).2 b hh).2⟩⟩⟩
def Ob.nest2 (T n:Nat) (s:Value) (es:List Nel) (ss:List Sub):Ob:=.of (fun H O=>Sv T n H s (es.map Nel.c)∧(∀ b,ZS s=some b→O b)∧(∀ e∈es,∀ y∈e.ss,Sv y.T y.n H y.v y.vs∧∀ b,ZS y.v=some b→O b∧ZS s≠some b)∧∀ y∈ss,Sv y.T y.n H y.v y.vs∧∀ b,ZS y.v=some b→O b∧ZS s≠some b)
 fun h hb _ ho=>⟨h.1.of fun b hh=>hb b (h.2.1 b hh),fun b hh=>ho b (h.2.1 b hh),fun e he x hx=>⟨(h.2.2.1 e he x hx).1.of fun b hh=>hb b ((h.2.2.1 e he x hx).2 b hh).1,fun b hh=>⟨ho b ((h.2.2.1 e he x hx).2 b hh).1,((h.2.2.1 e he x hx).2 b hh).2⟩⟩,fun x hx=>⟨(h.2.2.2 x hx).1.of fun b hh=>hb b ((h.2.2.2 x hx).2 b hh).1,fun b hh=>⟨ho b ((h.2.2.2 x hx).2 b hh).1,((h.2.2.2 x hx).2 b hh).2⟩⟩⟩
theorem New.nilN (H:Hp) (T n:Nat):New H H (.nest T n (.slice none 0 0) []):=⟨fun _=>False,⟨⟨Sv.nil T n H,fun b hb=>(by cases hb),fun e he=>(by cases he)⟩,fun b hb=>hb.elim⟩,fun b hb=>hb.elim⟩
theorem New.subs1 {H H':Hp} {T n:Nat} {s:Value} {vs:List (Array Value)} (h:New H H' (.sl T n s vs)):New H H' (.subs [⟨s,T,n,vs⟩]):=by
 obtain ⟨O,ho,hn⟩:=h
 exact ⟨O,⟨fun x hx=>by rw [List.mem_singleton.1 hx]; exact ho.1,ho.2⟩,hn⟩
theorem New.nest_sv {H H':Hp} {T n:Nat} {s:Value} {es:List Nel} (h:New H H' (.nest T n s es)):Sv T n H' s (es.map Nel.c):=by
 obtain ⟨O,ho,_⟩:=h; exact ho.1.1
theorem New.nest_sub {H H':Hp} {T n:Nat} {s:Value} {es:List Nel} (h:New H H' (.nest T n s es)):∀ e∈es,∀ x∈e.ss,Sv x.T x.n H' x.v x.vs:=by
 obtain ⟨O,ho,_⟩:=h; exact fun e he x hx=>(ho.1.2.2 e he x hx).1
section
variable {P:Program} {S:Nat→Prop} {H0 H:Hp} {l:List Ob}
theorem Lo.nsv (h:Lo S H0 H l) {i T n:Nat} {s:Value} {es:List Nel} (hi:l[i]?=some (.nest T n s es)):Sv T n H s (es.map Nel.c):=by
 obtain ⟨O,ho⟩:=h.get hi; exact ho.1.1
theorem Lo.ssub (h:Lo S H0 H l) {i:Nat} {ss:List Sub} (hi:l[i]?=some (.subs ss)):∀ x∈ss,Sv x.T x.n H x.v x.vs:=by
 obtain ⟨O,ho⟩:=h.get hi; exact fun x hx=>(ho.1 x hx).1
end
def fC (kd n:Int):Array Value:=#[.int .u8 kd,zm n]
theorem fC_ok (kd n:Int):zF (fC kd n):=by unfold zF; rw [← Array.all_toList]; rfl
noncomputable def eFlt:ZT:=orE (zI Tryz.prog 113)
set_option maxRecDepth 100000 in
theorem elFlt:zI Tryz.prog 113=some eFlt:=by kernel_rfl
set_option maxRecDepth 100000 in
theorem eFlt_f:eFlt.type=254∧eFlt.size=2∧eFlt.zero.size=2∧eFlt.bytes=16:=⟨by kernel_rfl,by kernel_rfl,by kernel_rfl,by kernel_rfl⟩
theorem undFlts:Tryz.prog.underlying 113=some (.slice 254):=by kernel_rfl
theorem buildFlt (a b:Int):zu Tryz.prog 254 [(0,.int .u8 a),(1,zm b)]=some (.agg (fC a b)):=by kernel_rfl
theorem Ye (a:Int):zu Tryz.prog 258 [(0,.int .u8 a)]=some (.agg #[.int .u8 a,.slice none 0 0]):=by kernel_rfl
def yb (p:Nat) (kd:Int) (fs:List Int):Ob:=
 ⟨fun H O=>∃ s,(Ob.all [.box p #[.int .u8 kd,s] 258,.sl 254 2 s (fs.map (fC kd))]).at_ H O,
  fun ⟨_,h⟩=>Ob.own _ h,fun ⟨s,h⟩ hb hs ho hl=>⟨s,Ob.frame _ h hb hs ho hl⟩⟩
section
variable {S:Nat→Prop} {H0 H:Hp} {l:List Ob}
theorem Lo.flts {kd:Int} {K:Value→Hp→Prop} (h:Lo S H0 H l) (k:∀ p H',Ext H H'→Lo S H0 H' (l++[yb p kd []])→K (z6 p) H'):Box 258 (.agg #[.int .u8 kd,.slice none 0 0]) H K:=by
 refine h.boxA fun p H' e l1=>k p H' e ?_
 have l2:=l1.nilS 254 2
 rw [List.append_assoc] at l2
 have l3:=Lo.pack l2
 have hl:(l++[Ob.all ([Ob.box p #[.int .u8 kd,.slice none 0 0] 258]++[Ob.sl 254 2 (.slice none 0 0) []])])[l.length]?=some (Ob.all ([Ob.box p #[.int .u8 kd,.slice none 0 0] 258]++[Ob.sl 254 2 (.slice none 0 0) []])):=by
   rw [List.getElem?_append_right (Nat.le_refl _),Nat.sub_self]; rfl
 have l4:=l3.nth (y:=yb p kd []) hl fun O ho=>⟨_,ho⟩
 rw [List.set_append_right _ _ (Nat.le_refl _),Nat.sub_self] at l4
 exact l4
theorem Lo.fltEnd {p:Nat} {kd:Int} {fs:List Int} (h:Lo S H0 H l) {i:Nat} (hi:l[i]?=some (yb p kd fs)):∃ s,H[p]?=some (.cells #[.int .u8 kd,s] 258)∧Lo S H0 H (l.set i (.sl 254 2 s (fs.map (fC kd)))):=by
 obtain ⟨O,⟨s,ha⟩,st⟩:=h.call hi
 have l0:=Lo.open ha
 refine ⟨s,l0.at (i:=0) rfl,?_⟩
 obtain ⟨O',s',hx⟩:=Lo.close (l:=[_]) (r:=[]) (l0.pick [1] (by decide) (by simp))
 refine st H _ O' s' ?_
 obtain ⟨⟨col,w,hc⟩,hl⟩:=hx
 exact Ob.frame _ (w.obs 0 _ rfl) (fun _ _=>rfl) (Nat.le_refl _) (fun b hb=>hc b (by have hb:col b=0+1:=hb; omega)) hl
end
section
variable {H:Hp} {R:Value→Hp→Prop} {p:Nat} {kd:Int} {fs:List Int} {O:Nat→Prop}
theorem flt_add (h:(yb p kd fs).at_ H O) (hlen:fs.length<1099511627776) {n:Int} (k:∀ H' O' fs',fs'≠[]→fs'.length≤fs.length+1→Stp O O' H H'→(yb p kd fs').at_ H' O'→R (.tuple #[]) H'):Fc Tryz.prog 149 #[z6 p,zm n] H R:=by
 obtain ⟨s,ha⟩:=h
 have l0:=(Lo.open ha).nilS 254 2
 refine fn149 ?_
 simp only [sh149,zc,zi,Nat.zero_add,za,zt]
 have f0:(#[.int .u8 kd,s]:Array Value)[0]?=some (.int .u8 kd):=rfl
 have f1:(#[.int .u8 kd,s]:Array Value)[1]?=some s:=rfl
 refine zx.mk (fun t H'=>∃ (i:Nat) (dn:Bool) (v:Value) (gs:List Int),i≤fs.length∧t=(v,.bool dn,zm i,())∧gs.length=i+(if dn then 1 else 0)∧Lo O H H' [.box p #[.int .u8 kd,s] 258,.sl 254 2 s (fs.map (fC kd)),.sl 254 2 v (gs.map (fC kd))])
   (fun t _=>mi t.2.2.1 fun i=>(fs.length - i).toNat) ⟨0,false,.slice none 0 0,[],by omega,rfl,rfl,l0⟩ ?_
 rintro _ H1 ⟨i,dn,v,gs,hi,rfl,hgl,l1⟩
 have hgl':gs.length≤i+1:=by rw [hgl]; split <;> omega
 have sv:=l1.sv (i:=1) rfl
 rw [l1.ld (i:=0) rfl,f1,za,sv.lenE undFlts,za,List.length_map,zr,za,zf]
 refine ⟨fun hlt=>?_,fun hge=>?_⟩
 · have hil:i<fs.length:=by omega
   have hei:(fs.map (fC kd))[i]?=some (fC kd fs[i]):=by rw [List.getElem?_map,List.getElem?_eq_getElem hil]; rfl
   generalize fs[i]=x at hei
   obtain ⟨b,o,ha1,hcl,hrow⟩:=sv.sr.el hei
   rw [za,ha1,za,zi,za,hcl 1 (by omega),show (fC kd x)[1]?=some (zm x) from rfl,za,zy,za,zf]
   refine ⟨fun he=>?_,fun hne=>?_⟩
   · obtain ⟨O',st,ho⟩:=Lo.close (l:=[_,_]) (r:=[_]) l1
     exact k H1 O' fs (fun e=>by subst e; simp at hil) (by omega) st ⟨s,ho⟩
   · refine zS.mk (fun t H'=>∃ (dn':Bool) (v':Value) (gs':List Int),t=(v',.bool dn',())∧gs'.length=i+(if dn' then 1 else 0)∧Lo O H H' [.box p #[.int .u8 kd,s] 258,.sl 254 2 s (fs.map (fC kd)),.sl 254 2 v' (gs'.map (fC kd))]) ?_ ?_
     · rintro _ H2 ⟨dn',v',gs',rfl,hgl2,l2⟩
       have hgl2':gs'.length≤i+1:=by rw [hgl2]; split <;> omega
       obtain ⟨b,o,ha1,hcl,hrow⟩:=(l2.sv (i:=1) rfl).sr.el hei
       rw [l2.ld (i:=0) rfl,f1,za,ha1,za,show (⟨b,o,none⟩:Addr)=⟨b,o+0,none⟩ from rfl,hrow 0 2 (by omega),za,show (fC kd x).extract 0 (0+2)=fC kd x from rfl]
       refine l2.appO elFlt eFlt_f (i:=2) rfl (by rfl) (by omega) (by omega) rfl (fC_ok _ _) (by rw [List.length_map]; omega) fun v3 H4 l4=>?_
       rw [zk,za,zK,zv (by omega)]
       refine ⟨⟨i+1,dn',v3,gs'++[x],by omega,rfl,?_,?_⟩,by simp only [zC]; omega⟩
       · rw [List.length_append,hgl2]; simp only [List.length_cons,List.length_nil]; omega
       · rw [List.map_append]; exact l4
     · refine zS.mk (fun t H'=>H'=H1∧∃ c:Bool,t.1=.bool c∧(c=true→dn=false)) ?_ ?_
       · rintro ⟨t,u⟩ H5 ⟨rfl,c,ht,hcd⟩
         simp only at ht
         subst ht
         rw [Zz]
         refine ⟨fun hc=>?_,fun hc=>⟨dn,v,gs,rfl,hgl,l1⟩⟩
         have hd:=hcd hc
         rw [l1.ld (i:=0) rfl,f0,za,buildFlt,za]
         refine l1.appO elFlt eFlt_f (i:=2) rfl (by rfl) (by omega) (by omega) rfl (fC_ok _ _) (by rw [List.length_map]; omega) fun v3 H4 l4=>?_
         refine ⟨true,v3,gs++[n],rfl,?_,by rw [List.map_append]; exact l4⟩
         rw [List.length_append,hgl,hd]; rfl
       · rw [zT,za,yy]
         refine ⟨fun hd=>?_,fun hd=>⟨rfl,false,rfl,fun hh=>by cases hh⟩⟩
         rw [za,ha1,za,zi,za,hcl 1 (by omega),show (fC kd x)[1]?=some (zm x) from rfl,za,zL,za]
         exact ⟨rfl,_,rfl,fun _=>hd⟩
 · have ei:i=fs.length:=by omega
   refine zS.mk (fun t H'=>∃ (v':Value) (gs':List Int),t.1=v'∧gs'≠[]∧gs'.length≤fs.length+1∧Lo O H H' [.box p #[.int .u8 kd,s] 258,.sl 254 2 s (fs.map (fC kd)),.sl 254 2 v' (gs'.map (fC kd))]) ?_ ?_
   · rintro ⟨t,u⟩ H8 ⟨v',gs',rfl,hne,hle,l8⟩
     have hone:=(l8.sv (i:=2) rfl).one
     refine l8.st (i:=0) (j:=1) (v:=t) rfl (by simp) hone.2 hone.1 fun H9 l9=>?_
     obtain ⟨O',st,ho⟩:=Lo.close (l:=[_,_]) (r:=[]) (l9.pick [0,2] (by decide) (by simp))
     exact k H9 O' gs' hne hle st ⟨t,ho⟩
   · rw [zT,za,yy]
     refine ⟨fun hd=>?_,fun hd=>?_⟩
     · rw [l1.ld (i:=0) rfl,f0,za,buildFlt,za]
       refine l1.appO elFlt eFlt_f (i:=2) rfl (by rfl) (by omega) (by omega) rfl (fC_ok _ _) (by rw [List.length_map]; omega) fun v3 H4 l4=>?_
       refine ⟨v3,gs++[n],rfl,by simp,?_,by rw [List.map_append]; exact l4⟩
       rw [List.length_append]; simp only [List.length_cons,List.length_nil]; rw [hd] at hgl; simp at hgl; omega
     · rw [hd] at hgl
       simp only [if_true] at hgl
       exact ⟨v,gs,rfl,fun e=>by subst e; simp at hgl,by omega,l1⟩
def oddP (c:Array Value) (f:Ino):Prop:=(∃ i,60≤i∧i<64∧byt c i≠0)∨2<f 0∨67381248<f 2∨1000<f 1∨(f 0=2∧(f 2 % 16≠0∨f 1≠0∧(f 2<32∨f 1=1)))
theorem odd29 {c:Array Value} {f:Ino} (hc:IsN 64 c) (k:∀ H',Ext H H'→R (.bool (decide (oddP c f))) H'):Fc Tryz.prog 148 #[.agg c,.agg (Zs f)] H R:=by
 refine fn148 ?_
 simp only [sh148,zt]
 refine (Lo.start _ H:Lx H H []).boxA fun b1 H1 _ l1=>?_
 refine l1.boxA fun b2 H2 _ l2=>?_
 simp only [zi,Nat.zero_add,za]
 have i0:(Zs f)[0]?=some (.int .u16 (f 0)):=rfl
 have i1:(Zs f)[1]?=some (.int .u16 (f 1)):=rfl
 have i2:(Zs f)[2]?=some (.int .u32 (f 2)):=rfl
 have fin:∀ (b:Bool) {p:Prop},(b=true↔p)→(p↔oddP c f)→R (.bool b) H2:=fun b p h1 h2=>by
   have:=k H2 l2.ext0
   rw [show decide (oddP c f)=b from by rw [Bool.eq_iff_iff,decide_eq_true_eq,h1,h2]] at this
   exact this
 refine zx.mk (fun t H'=>H'=H2∧∃ i:Nat,60≤i∧i≤64∧t=(zm i,())∧∀ j,60≤j→j<i→byt c j=0) (fun t _=>mi t.1 fun i=>(64 - i).toNat) ⟨rfl,60,by omega,by omega,rfl,fun j _ _=>by omega⟩ ?_
 rintro _ H3 ⟨rfl,i,hi1,hi2,rfl,hz⟩
 rw [zr,za,zf]
 refine ⟨fun hlt=>?_,fun hge=>?_⟩
 · rw [zG (by omega),za,Nat.zero_add,Nat.mul_one,l2.ld (i:=0) rfl,hc.get (by omega),za,zw,za,zf]
   refine ⟨fun hne=>fin true (p:=True) (by simp) ⟨fun _=>.inl ⟨i,hi1,by omega,by omega⟩,fun _=>trivial⟩,fun he=>?_⟩
   rw [zk,za,zK,zv (by omega)]
   refine ⟨⟨rfl,i+1,by omega,by omega,rfl,fun j h1 h2=>?_⟩,by simp only [zC]; omega⟩
   by_cases e:j=i
   · subst e; omega
   · exact hz j h1 (by omega)
 · have ei:i=64:=by omega
   subst ei
   have hno:¬ ∃ i,60≤i∧i<64∧byt c i≠0:=fun ⟨j,h1,h2,h3⟩=>h3 (hz j h1 h2)
   have hodd:oddP c f↔(2<f 0∨67381248<f 2∨1000<f 1)∨(f 0=2∧(f 2 % 16≠0∨f 1≠0∧(f 2<32∨f 1=1))):=by
     unfold oddP
     constructor
     · rintro (h | h | h | h | h)
       · exact absurd h hno
       · exact .inl (.inl h)
       · exact .inl (.inr (.inl h))
       · exact .inl (.inr (.inr h))
       · exact .inr h
     · rintro ((h | h | h) | h)
       · exact .inr (.inl h)
       · exact .inr (.inr (.inl h))
       · exact .inr (.inr (.inr (.inl h)))
       · exact .inr (.inr (.inr (.inr h)))
   refine zS.mk (fun t H'=>H'=H3∧t.1=.bool (decide (2<f 0∨67381248<f 2∨1000<f 1))) ?_ ?_
   · rintro ⟨t,u⟩ H4 ⟨rfl,ht⟩
     simp only at ht
     subst ht
     rw [zf]
     refine ⟨fun h1=>fin true (p:=True) (by simp) (by rw [hodd]; exact ⟨fun _=>.inl h1,fun _=>trivial⟩),fun h1=>?_⟩
     rw [l2.ld (i:=1) rfl,i0,za,zy,za,zf]
     refine ⟨fun h2=>?_,fun h2=>fin false (p:=False) (by simp) (by rw [hodd]; exact ⟨False.elim,fun h=>h.elim h1 fun h=>h2 (by omega)⟩)⟩
     have h2:f 0=2:=by omega
     rw [l2.ld (i:=1) rfl,i2,za,zW (by decide),za,Za (by omega),zw,za,zf]
     refine ⟨fun h3=>fin true (p:=True) (by simp) (by rw [hodd]; exact ⟨fun _=>.inr ⟨h2,.inl (by omega)⟩,fun _=>trivial⟩),fun h3=>?_⟩
     rw [l2.ld (i:=1) rfl,i1,za,zw,za,zf]
     refine ⟨fun h4=>?_,fun h4=>fin false (p:=False) (by simp) (by rw [hodd]; exact ⟨False.elim,fun h=>h.elim h1 fun h=>by omega⟩)⟩
     rw [za,zr,za,zf]
     refine ⟨fun h5=>fin true (p:=True) (by simp) (by rw [hodd]; exact ⟨fun _=>.inr ⟨h2,.inr ⟨by omega,.inl (by omega)⟩⟩,fun _=>trivial⟩),fun h5=>?_⟩
     rw [za,zy,za]
     refine fin _ (p:=f 1=1) (by rw [decide_eq_true_eq]; omega) ?_
     rw [hodd]
     exact ⟨fun h=>.inr ⟨h2,.inr ⟨by omega,.inr h⟩⟩,fun h=>h.elim (fun h=>absurd h h1) fun h=>by omega⟩
   · rw [l2.ld (i:=1) rfl,i0,za,zL,za,zf]
     refine ⟨fun h1=>⟨rfl,?_⟩,fun h1=>?_⟩
     · rw [decide_eq_true (.inl (by omega))]
     · rw [l2.ld (i:=1) rfl,i2,za,zL,za,zf]
       refine ⟨fun h2=>⟨rfl,?_⟩,fun h2=>?_⟩
       · rw [decide_eq_true (.inr (.inl (by omega)))]
       · rw [l2.ld (i:=1) rfl,i1,za,zL,za]
         refine ⟨rfl,?_⟩
         show Value.bool _=Value.bool _
         congr 1; rw [decide_eq_decide]; omega
end
theorem rowR:IntRow Tryz.prog 148 64 .u8:=⟨⟨5,by kernel_rfl,by kernel_rfl,by kernel_rfl,by kernel_rfl⟩,by kernel_rfl⟩
theorem build64:zu Tryz.prog 148 []=some (.agg (zR 64)):=by kernel_rfl
theorem eqR {a b:Array Value} (ha:IsN 64 a) (hb:IsN 64 b) {lit:Bool} {H:Hp}:eqE Tryz.prog 148 lit (.agg a) (.agg b) H=some (decide (a=b)):=
 eqX_row rowR ha.size hb.size (fun i hi=>⟨_,ha.get hi⟩) (fun i hi=>⟨_,hb.get hi⟩)
section
variable (B L I:Int) (l:List (Int × Blk))
def bad0 (i:Nat):Prop:=(y9 B L I l i 0≠0∧oddP (rawP B L I l i) (y9 B L I l i))∨(y9 B L I l i 0=0∧rawP B L I l i≠zR 64)
def yM (i:Nat):Prop:=bad0 B L I l i∨(i=0∧rawP B L I l i≠zR 64)∨(i=1∧(y9 B L I l i 0≠2∨y9 B L I l i 1=0))
def NodesOk:Prop:=(∀ i:Nat,(i:Int)≤I→¬ yM B L I l i)∧∀ i:Nat,I<i→(i:Int)<16*((I+16) / 16)→rawP B L I l i=zR 64
end
section
variable {H:Hp} {R:Value→Hp→Prop} {d:Nat} {dv:Value} {B L I:Int} {l:List (Int × Blk)}
theorem rawP_is (h:Lk H d dv B L I l) (i:Nat):IsN 64 (rawP B L I l i):=cutN_is (Zw h.is _) (by omega)
theorem lk_nodes (h:Lk H d dv B L I l) (k:∀ H' s fs,Ext H H'→New H H' (.sl 254 2 s (fs.map (fC 4)))→(fs=[]↔NodesOk B L I l)→R s H'):Fc Tryz.prog 115 #[z6 d] H R:=by
 obtain ⟨gL1,gL2,gI1,gI2,gB1,gB2,gD⟩:=id h.ok
 obtain ⟨In,eI⟩:∃ In:Nat,I=In:=⟨I.toNat,by omega⟩
 have hI:(zp B L I).I=I:=rfl
 have hNB:(zp B L I).nodeBlocks=(I+16) / 16:=rfl
 refine fn115 ?_
 simp only [sh115,Ye,zero64,yd,build64,za,zt]
 refine (Lo.start _ H:Lx H H []).flts fun p H1 e1 l1=>?_
 have l1:Lx H H1 [yb p 4 []]:=l1
 simp only [zc,zi,Nat.zero_add,Nat.add_zero,Nat.reduceAdd,za]
 rw [zq (h.ext l1.ext0).top,lkC4,za,hI]
 refine zx.mk (fun t H'=>∃ (i:Nat) (fs:List Int),i≤In+1∧t=(zm i,())∧fs.length≤i∧(fs=[]↔∀ j,j<i→¬ yM B L I l j)∧Lx H H' [yb p 4 fs])
   (fun t _=>mi t.1 fun i=>(In+1 - i).toNat) ⟨0,[],by omega,rfl,by simp,by simp,l1⟩ ?_
 rintro _ H2 ⟨i,fs,hi,rfl,hfl,hfs,l2⟩
 rw [Yp,za,zf]
 refine ⟨fun hle=>?_,fun hgt=>?_⟩
 · have hraw:=rawP_is h i
   refine lk_raw (h.ext l2.ext0) (by omega) fun H3 e3=>?_
   refine (l2.ext e3).boxA fun b1 H4 _ l4=>?_
   refine l4.stAll (i:=1) rfl (yW 64) hraw.size hraw.ok fun H5 l5=>?_
   refine lk_node (h.ext l5.ext0) (by omega) fun H6 e6=>?_
   refine (l5.ext e6).boxA fun b2 H7 _ l7=>?_
   refine l7.stAll (i:=2) rfl (zz _) (zz _) (Z0 _) fun H8 l8=>?_
   have l8:Lx H H8 [yb p 4 fs,.box b1 (rawP B L I l i) 148,.box b2 (Zs (y9 B L I l i)) 88]:=l8
   have i0:(Zs (y9 B L I l i))[0]?=some (.int .u16 (y9 B L I l i 0)):=rfl
   have i1:(Zs (y9 B L I l i))[1]?=some (.int .u16 (y9 B L I l i 1)):=rfl
   rw [l8.ldAll (i:=1) (n:=64) rfl hraw.size,za,eqXE_eql,eqR hraw (yi 64),Option.map_some,za]
   simp only [zi,Nat.zero_add,za]
   refine zS.mk (fun t H'=>t.1=.bool (decide (bad0 B L I l i))∧Lx H H' [yb p 4 fs,.box b1 (rawP B L I l i) 148,.box b2 (Zs (y9 B L I l i)) 88]) ?_ ?_
   · rintro ⟨t,u⟩ H9 ⟨ht,l9⟩
     simp only at ht
     subst ht
     refine zS.mk (fun t H'=>H'=H9∧t.1=.bool (decide (yM B L I l i))) ?_ ?_
     · rintro ⟨t,u⟩ H10 ⟨rfl,ht⟩
       simp only at ht
       subst ht
       rw [zf]
       have hst:∀ j,j<i+1↔j<i∨j=i:=fun j=>by omega
       refine ⟨fun hb=>?_,fun hb=>?_⟩
       · obtain ⟨O,ho,st⟩:=l9.call (i:=0) rfl
         refine flt_add ho (by omega) fun H11 O11 fs' hne hle s11 h11=>?_
         have l11:=st H11 _ O11 s11 h11
         rw [zk,za,zK,zv (by omega)]
         refine ⟨⟨i+1,fs',by omega,rfl,by omega,⟨fun e=>absurd e hne,fun hh=>absurd hb (hh i (by omega))⟩,l11.takeN 1⟩,by simp only [zC]; omega⟩
       · rw [zk,za,zK,zv (by omega)]
         refine ⟨⟨i+1,fs,by omega,rfl,by omega,⟨fun e j hj=>?_,fun hh=>hfs.2 fun j hj=>hh j (by omega)⟩,l9.takeN 1⟩,by simp only [zC]; omega⟩
         rcases (hst j).1 hj with h1 | h1
         · exact hfs.1 e j h1
         · rw [h1]; exact hb
     · have b1:∀ {c:Bool},(c=true↔yM B L I l i)→(Value.bool c)=.bool (decide (yM B L I l i)):=fun hc=>by congr 1; rw [Bool.eq_iff_iff,hc,decide_eq_true_eq]
       rw [zf]
       refine ⟨fun hb=>⟨rfl,b1 (by simp [yM,hb])⟩,fun hb=>?_⟩
       rw [zy,za,zf]
       refine ⟨fun h0=>?_,fun h0=>?_⟩
       · have h0:i=0:=by omega
         subst h0
         rw [zT,za,yy]
         refine ⟨fun hr=>⟨rfl,b1 ?_⟩,fun hr=>?_⟩
         · rw [decide_eq_false_iff_not] at hr
           simp [yM,hr]
         · rw [decide_eq_true_eq] at hr
           rw [zy,za,zf]
           refine ⟨fun h1=>by omega,fun _=>⟨rfl,b1 ?_⟩⟩
           simp [yM,hb,hr]
       · have h0:i≠0:=by omega
         rw [zy,za,zf]
         refine ⟨fun h1=>?_,fun h1=>⟨rfl,b1 ?_⟩⟩
         · have h1:i=1:=by omega
           subst h1
           rw [l9.ld (i:=2) rfl,i0,za,zw,za,zf]
           refine ⟨fun h2=>⟨rfl,b1 ?_⟩,fun h2=>?_⟩
           · have:y9 B L I l 1 0≠2:=by omega
             simp [yM,this]
           · rw [l9.ld (i:=2) rfl,i1,za,zy,za]
             refine ⟨rfl,b1 ?_⟩
             have h2:y9 B L I l 1 0=2:=by omega
             rw [decide_eq_true_eq]
             unfold yM
             constructor
             · intro h3; exact .inr (.inr ⟨rfl,.inr (by omega)⟩)
             · rintro (h3 | h3 | h3)
               · exact absurd h3 hb
               · omega
               · rcases h3.2 with h4 | h4
                 · exact absurd h2 h4
                 · omega
         · have h1:i≠1:=by omega
           simp [yM,hb,h0,h1]
   · have b1:∀ {c:Bool},(c=true↔bad0 B L I l i)→(Value.bool c)=.bool (decide (bad0 B L I l i)):=fun hc=>by congr 1; rw [Bool.eq_iff_iff,hc,decide_eq_true_eq]
     rw [l8.ld (i:=2) rfl,i0,za,zw,za,zf]
     refine ⟨fun h0=>?_,fun h0=>?_⟩
     · have h0:y9 B L I l i 0≠0:=by omega
       rw [l8.ldAll (i:=2) (n:=16) rfl (zz _),za]
       refine odd29 hraw fun H12 e12=>?_
       have l12:=l8.ext e12
       rw [zf]
       refine ⟨fun ho=>⟨b1 (by simp [bad0,h0,ho]),l12⟩,fun ho=>?_⟩
       rw [l12.ld (i:=2) rfl,i0,za,zy,za,zf]
       refine ⟨fun h1=>by omega,fun _=>⟨b1 (by simp [bad0,h0,ho]),l12⟩⟩
     · have h0:y9 B L I l i 0=0:=by omega
       rw [za,zy,za,zf]
       refine ⟨fun _=>?_,fun h1=>by omega⟩
       rw [zT,za]
       refine ⟨b1 ?_,l8⟩
       simp [bad0,h0]
 · have ei:i=In+1:=by omega
   subst ei
   refine l2.boxA fun b3 H13 _ l13=>?_
   rw [zk,za,zg (by omega) (by omega),eI,zK]
   obtain ⟨M,eM,hM⟩:∃ M:Nat,16*(((In:Int)+16) / 16)=M∧M<65553:=⟨(16*(((In:Int)+16) / 16)).toNat,by omega,by omega⟩
   refine zx.mk (fun t H'=>∃ (i:Nat) (fs:List Int),In+1≤i∧i≤M∧t=(zm i,())∧fs.length≤i∧(fs=[]↔(∀ j,j<In+1→¬ yM B L I l j)∧∀ j,In+1≤j→j<i→rawP B L I l j=zR 64)∧Lx H H' [yb p 4 fs,.box b3 (zR 64) 148])
     (fun t _=>mi t.1 fun i=>(M - i).toNat) ⟨In+1,fs,by omega,by omega,rfl,hfl,by rw [hfs]; exact ⟨fun hh=>⟨hh,fun j h1 h2=>by omega⟩,fun hh=>hh.1⟩,l13⟩ ?_
   rintro _ H14 ⟨i,fs,hi1,hi2,rfl,hfl,hfs,l14⟩
   have h14:=h.ext l14.ext0
   rw [zq h14.top,lkC7,za,hNB,eI,zX,za,zg (by omega) (by omega),eM,zr,za,zf]
   refine ⟨fun hlt=>?_,fun hge=>?_⟩
   · have hraw:=rawP_is h i
     refine zS.mk (fun t H'=>t.1=.bool (decide (rawP B L I l i≠zR 64))∧Lx H H' [yb p 4 fs,.box b3 (zR 64) 148]) ?_ ?_
     · rintro ⟨t,u⟩ H15 ⟨ht,l15⟩
       simp only at ht
       subst ht
       rw [zf]
       refine ⟨fun hb=>?_,fun hb=>?_⟩
       · rw [zk,za,zg (by omega) (by omega)]
         obtain ⟨O,ho,st⟩:=l15.call (i:=0) rfl
         refine flt_add ho (by omega) fun H11 O11 fs' hne hle s11 h11=>?_
         have l11:=st H11 _ O11 s11 h11
         rw [za,zK]
         refine ⟨⟨i+1,fs',by omega,by omega,rfl,by omega,⟨fun e=>absurd e hne,fun hh=>absurd (hh.2 i (by omega) (by omega)) hb⟩,l11⟩,by simp only [zC]; omega⟩
       · have hb:=Classical.not_not.1 hb
         rw [zk,za,zK,zv (by omega)]
         refine ⟨⟨i+1,fs,by omega,by omega,rfl,by omega,⟨fun e=>⟨(hfs.1 e).1,fun j h1 h2=>?_⟩,fun hh=>hfs.2 ⟨hh.1,fun j h1 h2=>hh.2 j h1 (by omega)⟩⟩,l15⟩,by simp only [zC]; omega⟩
         by_cases e2:j=i
         · rw [e2]; exact hb
         · exact (hfs.1 e).2 j h1 (by omega)
     · have fin:∀ {H':Hp},yH Tryz.prog 148 false .neq (.agg (rawP B L I l i)) (.agg (zR 64)) H'=some (.bool (decide (rawP B L I l i≠zR 64))):=fun {H'}=>by
         rw [Ym,eqR hraw (yi 64),Option.map_some]
         congr 2; rw [Bool.eq_iff_iff]; simp
       refine ⟨?_,?_,trivial⟩
       · rw [zl]
         intro H20 e20
         refine lk_raw (h14.ext e20) (by omega) fun H21 e21=>?_
         have l21:=l14.ext (e20.trans e21)
         rw [l21.ldAll (i:=1) (n:=64) rfl (yW 64),za,fin,za,zl]
         exact fun H22 e22=>⟨rfl,l21.ext e22⟩
       · rw [l14.ldAll (i:=1) (n:=64) rfl (yW 64),za,zl]
         intro H20 e20
         refine lk_raw (h14.ext e20) (by omega) fun H21 e21=>?_
         rw [fin,za,zl]
         exact fun H22 e22=>⟨rfl,l14.ext ((e20.trans e21).trans e22)⟩
   · obtain ⟨s,hg,l15⟩:=l14.fltEnd (i:=0) rfl
     rw [zq hg]
     show Pu (some s) _
     rw [za]
     refine k H14 s fs l14.ext0 (l15.outN (i:=0) rfl) ?_
     rw [hfs]
     unfold NodesOk
     rw [eI]
     exact ⟨fun hh=>⟨fun j hj=>hh.1 j (by omega),fun j h1 h2=>hh.2 j (by omega) (by omega)⟩,fun hh=>⟨fun j hj=>hh.1 j (by omega),fun j h1 h2=>hh.2 j (by omega) (by omega)⟩⟩
end
noncomputable def dirN (f:Ino) (n:Nat):List Spt:=(List.range n).filterMap fun i=>if f (4+i)=0 then none else some ((i:Int),(f (4+i):Int))
theorem dirN_succ (f:Ino) (n:Nat):dirN f (n+1)=dirN f n++(if f (4+n)=0 then [] else [((n:Int),(f (4+n):Int))]):=by
 unfold dirN
 rw [List.range_succ,List.filterMap_append]
 congr 1
 simp only [List.filterMap_cons,List.filterMap_nil]
 split <;> rename_i h <;> split at h <;> simp_all
theorem dirN_len (f:Ino) (n:Nat):(dirN f n).length≤n:=by
 unfold dirN
 have:=List.length_filterMap_le (fun i=>if f (4+i)=0 then none else some ((i:Int),(f (4+i):Int))) (List.range n)
 simpa using this
section
variable (B L I:Int) (l:List (Int × Blk))
noncomputable def one_ (n:Nat):List Spt:=if n=0 then [] else [(-1,(n:Int))]
noncomputable def unN (a:Nat) (first:Int):List Spt:=if yP B L I a then underP (zN l a) first 256 else []
noncomputable def dblN (c:Blk) (n:Nat):List Spt:=(List.range n).flatMap fun i=>one_ (yC c i)++unN B L I l (yC c i) (266+256*(i:Int))
noncomputable def Z2 (f:Ino):List Spt:=dirN f 10++one_ (f 14)++unN B L I l (f 14) 10++one_ (f 15)++(if yP B L I (f 15) then dblN B L I l (zN l (f 15)) 256 else [])
end
theorem one_len (n:Nat):(one_ n).length≤1:=by unfold one_; split <;> simp
theorem unN_len (B L I:Int) (l:List (Int × Blk)) (a:Nat) (first:Int):(unN B L I l a first).length≤256:=by
 unfold unN; split
 · exact underP_len _ _ _
 · simp
theorem dblN_succ (B L I:Int) (l:List (Int × Blk)) (c:Blk) (n:Nat):dblN B L I l c (n+1)=dblN B L I l c n++one_ (yC c n)++unN B L I l (yC c n) (266+256*(n:Int)):=by
 unfold dblN
 rw [List.range_succ,List.flatMap_append,List.append_assoc]
 congr 1
 simp
theorem dblN_len (B L I:Int) (l:List (Int × Blk)) (c:Blk):∀ n,(dblN B L I l c n).length≤257*n
 | 0=>by simp [dblN]
 | n+1=>by
   have h1:=dblN_len B L I l c n
   have h2:=one_len (yC c n)
   have h3:=unN_len B L I l (yC c n) (266+256*(n:Int))
   rw [dblN_succ,List.length_append,List.length_append]; omega
theorem spotsP_len (B L I:Int) (l:List (Int × Blk)) (f:Ino):(Z2 B L I l f).length≤66100:=by
 have h1:=dirN_len f 10
 have h2:=one_len (f 14)
 have h3:=unN_len B L I l (f 14) 10
 have h4:=one_len (f 15)
 have h5:=dblN_len B L I l (zN l (f 15)) 256
 unfold Z2
 simp only [List.length_append]
 split <;> simp <;> omega
section
variable {H:Hp} {R:Value→Hp→Prop} {d:Nat} {dv:Value} {B L I:Int} {l:List (Int × Blk)}
section
variable {S:Nat→Prop} {H0 H:Hp} {ol:List Ob}
theorem Lo.appOne {K:Value→Hp→Prop} (h:Lo S H0 H ol) {i n:Nat} {s:Value} {sp:List Spt} (hi:ol[i]?=some (.sl 233 2 s (sp.map spC))) (hlen:sp.length<1000000)
   (k:∀ s' H',Lo S H0 H' (ol.set i (.sl 233 2 s' ((sp++one_ n).map spC)))→K s' H') :
   Pu (zo (some (.int .i64)) .neq (zm n) (.int .i64 0)) fun x70=>Ite x70 (Pu (zu Tryz.prog 233 [(0,(.int .i64 (-1))),(1,zm n)]) fun x71=>Pu (zI Tryz.prog 175) fun x72=>Pu (zH (some x72) 1 [(0,x71)]) fun x73=>NewS x72.type 1 x73 H fun x74 H25=>Y2 (zI Tryz.prog 175) s x74 H25 fun x75 H26=>K x75 H26) (K s H):=by
 rw [zw,za,zf]
 refine ⟨fun hne=>?_,fun he=>?_⟩
 · rw [buildSpot,za]
   refine h.appO elSpot yw hi (by rfl) (by omega) (by omega) rfl (spC_ok _) (by rw [List.length_map]; omega) fun s' H' l'=>k s' H' ?_
   unfold one_
   rw [if_neg (by omega),List.map_append]; exact l'
 · refine k s H ?_
   unfold one_
   rw [if_pos (by omega),List.append_nil]
   have:=h.nth hi (y:=.sl 233 2 s (sp.map spC)) fun O ho=>ho
   exact this
end
set_option maxHeartbeats 1000000 in
theorem spots29 (h:Lk H d dv B L I l) {f:Ino} (hf:InoOk f) (k:∀ H' s,Ext H H'→New H H' (.sl 233 2 s ((Z2 B L I l f).map spC))→R s H'):Fc Tryz.prog 125 #[z6 d,.agg (Zs f)] H R:=by
 have h14:=hf.lt (j:=14) (by omega)
 have h15:=hf.lt (j:=15) (by omega)
 have ld1:=dirN_len f 10
 have lo1:=one_len (f 14)
 have lu1:=unN_len B L I l (f 14) 10
 have lo2:=one_len (f 15)
 refine fn125 ?_
 simp only [sh125,ya,zt,za]
 refine (Lo.start _ H:Lx H H []).boxA fun b1 H1 _ l1=>?_
 have l1:=l1.nilS 233 2
 simp only [zi,Nat.zero_add,za]
 refine zx.mk (fun t H'=>∃ (i:Nat) (s:Value),i≤10∧t=(s,zm i,())∧Lx H H' [.box b1 (Zs f) 88,.sl 233 2 s ((dirN f i).map spC)])
   (fun t _=>mi t.2.1 fun i=>(10 - i).toNat) ⟨0,.slice none 0 0,by omega,rfl,l1⟩ ?_
 rintro _ H2 ⟨i,s,hi,rfl,l2⟩
 have hsu:=dirN_succ f i
 have hle:=dirN_len f i
 rw [zr,za,zf]
 refine ⟨fun hlt=>?_,fun hge=>?_⟩
 · have hfi:=hf.lt (j:=4+i) (by omega)
   rw [zG (by omega),za,Nat.mul_one,l2.ld (i:=0) rfl,ZI f (4+i) (by omega) (by omega),za,zw,za,zf]
   refine ⟨fun hne=>?_,fun he=>?_⟩
   · rw [if_neg (by omega)] at hsu
     rw [za,l2.ld (i:=0) rfl,ZI f (4+i) (by omega) (by omega),za,zE,za,zv (by omega),buildSpot,za]
     refine l2.appO elSpot yw (i:=1) rfl (by rfl) (by omega) (by omega) rfl (spC_ok _) (by rw [List.length_map]; omega) fun s' H4 l4=>?_
     rw [zk,za,zK,zv (by omega)]
     refine ⟨⟨i+1,s',by omega,rfl,?_⟩,by simp only [zC]; omega⟩
     rw [hsu,List.map_append]; exact l4
   · rw [if_pos (by omega),List.append_nil] at hsu
     rw [zk,za,zK,zv (by omega)]
     refine ⟨⟨i+1,s,by omega,rfl,?_⟩,by simp only [zC]; omega⟩
     rw [hsu]; exact l2
 · have ei:i=10:=by omega
   subst ei
   rw [l2.ld (i:=0) rfl,ZI f 14 (by omega) (by omega),za,zE,za,zv (by omega)]
   refine zS.mk (fun t H'=>Lx H H' [.box b1 (Zs f) 88,.sl 233 2 t.1 ((dirN f 10++one_ (f 14)).map spC)]) ?_ (l2.appOne (i:=1) rfl (by omega) fun s' H' l'=>l')
   rintro ⟨s5,u⟩ H5 l5
   simp only at l5
   refine data29 (h.ext l5.ext0) ?_
   refine zS.mk (fun t H'=>Lx H H' [.box b1 (Zs f) 88,.sl 233 2 t.1 ((dirN f 10++one_ (f 14)++unN B L I l (f 14) 10).map spC)]) ?_ ?_
   rotate_left
   · rw [zf]
     refine ⟨fun hd=>?_,fun hd=>?_⟩
     · refine under29 (h.ext l5.ext0) (by omega) fun H23 s23 e23 n23=>?_
       have l23:=l5.new e23 n23
       rw [elSpot]
       have lu:=underP_len (zN l (f 14)) 10 256
       refine l23.app (i:=1) rfl yw.1 yw.2.1 yw.2.2.1 (by rw [yw.2.2.2]; decide) (l23.sv (i:=2) rfl) (fun u hu=>by obtain ⟨x,_,rfl⟩:=List.mem_map.1 hu; exact spC_ok x) (by rw [yw.2.2.2,List.length_map,List.length_map,List.length_append]; omega) fun s' H' l'=>?_
       have l':=l'.takeN 2
       unfold unN
       rw [if_pos hd,List.map_append]
       exact l'
     · unfold unN
       rw [if_neg hd,List.append_nil]
       exact l5
   rintro ⟨s7,u⟩ H7 l7
   simp only at l7
   rw [l7.ld (i:=0) rfl,ZI f 15 (by omega) (by omega),za,zE,za,zv (by omega)]
   refine zS.mk (fun t H'=>Lx H H' [.box b1 (Zs f) 88,.sl 233 2 t.1 ((dirN f 10++one_ (f 14)++unN B L I l (f 14) 10++one_ (f 15)).map spC)]) ?_ (l7.appOne (i:=1) rfl (by simp only [List.length_append]; omega) fun s' H' l'=>l')
   rintro ⟨s8,u⟩ H8 l8
   simp only at l8
   refine data29 (h.ext l8.ext0) ?_
   have hsp:Z2 B L I l f=dirN f 10++one_ (f 14)++unN B L I l (f 14) 10++one_ (f 15)++(if yP B L I (f 15) then dblN B L I l (zN l (f 15)) 256 else []):=rfl
   have hl4:(dirN f 10++one_ (f 14)++unN B L I l (f 14) 10++one_ (f 15)).length≤268:=by simp only [List.length_append]; omega
   generalize dirN f 10++one_ (f 14)++unN B L I l (f 14) 10++one_ (f 15)=sp0 at hsp hl4 l8
   rw [zT,za,yy]
   refine ⟨fun hd=>?_,fun hd=>?_⟩
   · rw [decide_eq_false_iff_not] at hd
     rw [if_neg hd,List.append_nil] at hsp
     rw [hsp] at k
     exact k H8 s8 l8.ext0 (l8.outN (i:=1) rfl)
   · rw [decide_eq_true_eq] at hd
     rw [if_pos hd] at hsp
     refine lk_at (h.ext l8.ext0) fun H10 e10=>?_
     have hb:=Zw h.is (f 15)
     generalize zN l (f 15)=c at hb hsp
     refine (l8.ext e10).boxA fun b2 H11 _ l11=>?_
     refine l11.stAll (i:=2) rfl zJ hb.size hb.ok fun H12 l12=>?_
     have l12:Lx H H12 [.box b1 (Zs f) 88,.sl 233 2 s8 (sp0.map spC),.box b2 c 94]:=l12
     refine zx.mk (fun t H'=>∃ (i:Nat) (s:Value),i≤256∧t=(s,zm i,())∧Lx H H' [.box b1 (Zs f) 88,.sl 233 2 s ((sp0++dblN B L I l c i).map spC),.box b2 c 94])
       (fun t _=>mi t.2.1 fun i=>(256 - i).toNat) ⟨0,s8,by omega,rfl,by rw [show dblN B L I l c 0=[] from rfl,List.append_nil]; exact l12⟩ ?_
     rintro _ H13 ⟨i,s,hi,rfl,l13⟩
     have hdu:=dblN_succ B L I l c i
     have hdl:=dblN_len B L I l c i
     rw [zr,za,zf]
     refine ⟨fun hlt=>?_,fun hge=>?_⟩
     · rw [l13.ldAll (i:=2) (n:=1024) rfl hb.size,za]
       refine number29 hb (by omega) fun H14 e14=>?_
       have l14:=l13.ext e14
       have ho:=one_len (yC c i)
       refine zS.mk (fun t H'=>Lx H H' [.box b1 (Zs f) 88,.sl 233 2 t.1 ((sp0++dblN B L I l c i++one_ (yC c i)).map spC),.box b2 c 94]) ?_ (l14.appOne (i:=1) rfl (by rw [List.length_append]; omega) fun s' H' l'=>l')
       rintro ⟨s15,u⟩ H15 l15
       simp only at l15
       refine data29 (h.ext l15.ext0) ?_
       rw [zf]
       refine ⟨fun hd2=>?_,fun hd2=>?_⟩
       · rw [zX,za,zg (by omega) (by omega),zk,za,zg (by omega) (by omega)]
         refine under29 (h.ext l15.ext0) (by omega) fun H17 s17 e17 n17=>?_
         have l17:=l15.new e17 n17
         rw [elSpot]
         have lu:=underP_len (zN l (yC c i)) (266+256*(i:Int)) 256
         refine l17.app (i:=1) rfl yw.1 yw.2.1 yw.2.2.1 (by rw [yw.2.2.2]; decide) (l17.sv (i:=3) rfl) (fun u hu=>by obtain ⟨x,_,rfl⟩:=List.mem_map.1 hu; exact spC_ok x) (by rw [yw.2.2.2,List.length_map,List.length_map,List.length_append,List.length_append]; omega) fun s' H' l'=>?_
         have l':=l'.takeN 3
         rw [zk,za,zK,zv (by omega)]
         refine ⟨⟨i+1,s',by omega,rfl,?_⟩,by simp only [zC]; omega⟩
         rw [hdu,← List.append_assoc,← List.append_assoc]
         unfold unN
         rw [if_pos hd2,List.map_append]
         exact l'
       · rw [zk,za,zK,zv (by omega)]
         refine ⟨⟨i+1,s15,by omega,rfl,?_⟩,by simp only [zC]; omega⟩
         rw [hdu,← List.append_assoc,← List.append_assoc]
         unfold unN
         rw [if_neg hd2,List.append_nil]
         exact l15
     · have ei:i=256:=by omega
       subst ei
       rw [hsp] at k
       exact k H13 s l13.ext0 (l13.outN (i:=1) rfl)
noncomputable def mapP (sp:List Spt) (i:Int):Int:=((sp.find? fun x=>decide (x.1=i)).map (·.2)).getD 0
theorem mapped29 {s:Value} {sp:List Spt} {a:Int} (hs:Sr 2 H s (sp.map spC)) (hlen:sp.length<1000000) (k:R (zm (mapP sp a)) H):Fc Tryz.prog 159 #[s,zm a] H R:=by
 refine fn159 ?_
 simp only [sh159,zt]
 refine zx.mk (fun t H'=>H'=H∧∃ i:Nat,i≤sp.length∧t=(zm i,())∧∀ x∈sp.take i,x.1≠a) (fun t _=>mi t.1 fun i=>(sp.length - i).toNat) ⟨rfl,0,by omega,rfl,by simp⟩ ?_
 rintro _ H3 ⟨rfl,i,hi,rfl,hno⟩
 rw [hs.lenE YM,za,List.length_map,zr,za,zf]
 refine ⟨fun hlt=>?_,fun hge=>?_⟩
 · have hil:i<sp.length:=by omega
   have hei:(sp.map spC)[i]?=some (spC sp[i]):=by rw [List.getElem?_map,List.getElem?_eq_getElem hil]; rfl
   have hdr:sp.drop i=sp[i] :: sp.drop (i+1):=List.drop_eq_getElem_cons hil
   have htk:sp.take (i+1)=sp.take i++[sp[i]]:=List.take_succ_eq_append_getElem hil
   generalize sp[i]=x at hei hdr htk
   obtain ⟨b,o,ha,hcl,_⟩:=hs.el hei
   rw [ha,za,zi,za,hcl 0 (by omega),show (spC x)[0]?=some (zm x.1) from rfl,za,zy,za,zf]
   refine ⟨fun he=>?_,fun hne=>?_⟩
   · rw [za,zi,za,hcl 1 (by omega),show (spC x)[1]?=some (zm x.2) from rfl,za]
     have e:mapP sp a=x.2:=by
       unfold mapP
       rw [show sp=sp.take i++sp.drop i from (List.take_append_drop i sp).symm,List.find?_append,List.find?_eq_none.2 (fun y hy=>by simpa using hno y hy),hdr,List.find?_cons_of_pos (by simpa using he)]
       rfl
     rw [← e]; exact k
   · rw [zk,za,zK,zv (by omega)]
     refine ⟨⟨rfl,i+1,by omega,rfl,fun y hy=>?_⟩,by simp only [zC]; omega⟩
     rw [htk] at hy
     rcases List.mem_append.1 hy with h1 | h1
     · exact hno y h1
     · rw [List.mem_singleton.1 h1]; exact hne
 · have ei:i=sp.length:=by omega
   subst ei
   rw [List.take_length] at hno
   have e:mapP sp a=0:=by
     unfold mapP
     rw [List.find?_eq_none.2 (fun y hy=>by simpa using hno y hy)]; rfl
   rw [← e]; exact k
end
section
variable {P:Program} {S:Nat→Prop} {H0 H:Hp} {l:List Ob}
theorem Lo.nestAppX {ty:Nat} {e:ZT} {T n by':Nat} {v:Value} {K:Value→Hp→Prop} (h:Lo S H0 H l) (he:zI P ty=some e) {i j:Nat} (hij:i≠j) {s:Value} {es:List Nel} {x:Nel} (hi:l[i]?=some (.nest T n s es)) (hj:l[j]?=some (.subs x.ss)) (hf:e.type=T∧e.size=n∧e.zero.size=n∧e.bytes=by') (hby:0<by') (hn:0<n∧n≤2 ^ 24) (hv:v.cells=x.c) (hc:x.c.size=n) (hok:zF x.c)
   (hlim:(es.length+1)*by'≤2 ^ 47) (k:∀ s' H',Lo S H0 H' ((l.set i (.nest T n s' (es++[x]))).set j .no)→K s' H'):Pu (zI P ty) fun x1=>Pu (zH (some x1) 1 [(0,v)]) fun cs=>NewS x1.type 1 cs H fun x2 H2=>ForX true H2 fun H3=>Y2 (zI P ty) s x2 H3 K:=by
 obtain ⟨f1,f2,f3,f4⟩:=hf
 rw [he,za,newS_one (by omega) (by omega) (by rw [hv,hc,f2]),za,hv]
 subst f1
 have hm:=h.mergeD hij hi hj (z:=.nest2 e.type n s es x.ss) fun A B hA hB hD=>?_
 · have hil:i<l.length:=by
     rcases Nat.lt_or_ge i l.length with h1 | h1
     · exact h1
     · rw [List.getElem?_eq_none h1] at hi; cases hi
   refine newS_i fun b H1 hb e1 hs1 g=>?_
   rw [zl]
   intro H2 e2
   have hm2:=(hm.ext e1).ext e2
   rw [List.set_comm _ _ hij] at hm2
   have hi2:((l.set j .no).set i (.nest2 e.type n s es x.ss))[i]?=some (.nest2 e.type n s es x.ss):=List.getElem?_set_self (by rw [List.length_set]; exact hil)
   obtain ⟨O,ho,st⟩:=hm2.step hi2
   obtain ⟨⟨q1,q2,q3,q4⟩,q5⟩:=ho
   refine app_many rfl f2 f3 (by omega) q1 ((Sv.single g hc).ext e2) (us:=[x.c]) (by simpa using hok) (by rw [List.length_map,f4]; exact hlim) fun s' H' sv k' hbk=>?_
   have st':=st H' (.nest e.type n s' (es++[x])) (fun b=>O b∨H2.size≤b∧b<H'.size) (k'.mono fun b _ e=>q2 b e) ⟨⟨by simpa using sv,fun b hh=>?_,fun y hy z hz=>?_⟩,fun b hh=>?_⟩ fun b hh=>?_
   · rw [List.set_set,List.set_comm _ _ (Ne.symm hij)] at st'
     exact k s' H' st'
   · rcases hbk b hh with h1 | h1
     · exact .inl (q2 b h1)
     · exact .inr ⟨h1,sv.lt hh⟩
   · have hz':Sv z.T z.n H2 z.v z.vs∧∀ b,ZS z.v=some b→O b∧ZS s≠some b:=by
       rcases List.mem_append.1 hy with h1 | h1
       · exact q3 y h1 z hz
       · rw [List.mem_singleton.1 h1] at hz; exact q4 z hz
     refine ⟨hz'.1.kp k' fun b hb=>(hz'.2 b hb).2,fun b hb=>⟨.inl (hz'.2 b hb).1,fun e=>?_⟩⟩
     rcases hbk b e with h1 | h1
     · exact (hz'.2 b hb).2 h1
     · have:=q5 b (hz'.2 b hb).1; omega
   · rcases hh with h1 | h1
     · exact Nat.lt_of_lt_of_le (q5 b h1) k'.le
     · exact h1.2
   · rcases hh with h1 | h1
     · exact .inl h1
     · exact .inr h1.1
 · refine ⟨⟨hA.1.1,fun b hb=>.inl (hA.1.2.1 b hb),fun e he y hy=>⟨(hA.1.2.2 e he y hy).1,fun b hb=>⟨.inl ((hA.1.2.2 e he y hy).2 b hb).1,((hA.1.2.2 e he y hy).2 b hb).2⟩⟩,fun y hy=>⟨(hB.1 y hy).1,fun b hb=>⟨.inr ((hB.1 y hy).2 b hb),fun e=>hD b (hA.1.2.1 b e) ((hB.1 y hy).2 b hb)⟩⟩⟩,fun b hb=>?_⟩
   rcases hb with h1 | h1
   · exact hA.2 b h1
   · exact hB.2 b h1
end
structure Fl where
 i:Nat
 f:Ino
 v:Value
 sp:List Spt
def flC (x:Fl):Array Value:=#[zm x.i,.int .u16 (x.f 0),.int .u16 (x.f 1),.int .u32 (x.f 2),.int .u32 (x.f 3),.int .u32 (x.f 4),.int .u32 (x.f 5),.int .u32 (x.f 6),.int .u32 (x.f 7),.int .u32 (x.f 8),.int .u32 (x.f 9),.int .u32 (x.f 10),.int .u32 (x.f 11),.int .u32 (x.f 12),.int .u32 (x.f 13),.int .u32 (x.f 14),.int .u32 (x.f 15),x.v]
def flN (x:Fl):Nel:=⟨flC x,[⟨x.v,233,2,x.sp.map spC⟩]⟩
theorem flC_ok {x:Fl} {b:Option Addr} {n c:Nat} (h:x.v=.slice b n c):zF (flC x):=by
 unfold zF flC
 rw [h,← Array.all_toList]; rfl
noncomputable def eFile:ZT:=orE (zI Tryz.prog 170)
set_option maxRecDepth 100000 in
theorem elFile:zI Tryz.prog 170=some eFile:=by kernel_rfl
set_option maxRecDepth 100000 in
theorem eFile_f:eFile.type=177∧eFile.size=18∧eFile.zero.size=18∧eFile.bytes=96:=⟨by kernel_rfl,by kernel_rfl,by kernel_rfl,by kernel_rfl⟩
theorem yz:Tryz.prog.underlying 170=some (.slice 177):=by kernel_rfl
theorem buildFile (i:Nat) (f:Ino) (b:Option Addr) (n c:Nat):zu Tryz.prog 177 [(0,zm i),(1,.agg (Zs f)),(2,.slice b n c)]=some (.agg (flC ⟨i,f,.slice b n c,[]⟩)):=by kernel_rfl
structure Fls (H:Hp) (s:Value) (fs:List Fl):Prop where
 row:Sr 18 H s (fs.map flC)
 sub:∀ x∈fs,Sr 2 H x.v (x.sp.map spC)
 few:∀ x∈fs,x.sp.length≤66100
 len:fs.length≤65535
 num:∀ x∈fs,x.i≤65535
 ok:∀ x∈fs,InoOk x.f
theorem Fls.ext {H H':Hp} {s:Value} {fs:List Fl} (h:Fls H s fs) (e:Ext H H'):Fls H' s fs:=⟨h.row.ext e,fun x hx=>(h.sub x hx).ext e,h.few,h.len,h.num,h.ok⟩
structure FlsOk (B L I:Int) (l:List (Int × Blk)) (n:Nat) (fs:List Fl):Prop where
 ids:fs.map (·.i)=((List.range n).map (·+1)).filter fun i=>decide (y9 B L I l i 0≠0)
 is:∀ x∈fs,x.f=y9 B L I l x.i∧x.sp=Z2 B L I l x.f
theorem FlsOk.len {B L I:Int} {l:List (Int × Blk)} {n:Nat} {fs:List Fl} (h:FlsOk B L I l n fs):fs.length≤n:=by
 have e:=congrArg List.length h.ids
 rw [List.length_map] at e
 rw [e]
 refine Nat.le_trans (List.length_filter_le _ _) ?_
 rw [List.length_map,List.length_range]; omega
theorem FlsOk.mem {B L I:Int} {l:List (Int × Blk)} {n:Nat} {fs:List Fl} (h:FlsOk B L I l n fs) {x:Fl} (hx:x∈fs):1≤x.i∧x.i≤n∧y9 B L I l x.i 0≠0:=by
 have hm:x.i∈fs.map (·.i):=List.mem_map.2 ⟨x,hx,rfl⟩
 rw [h.ids,List.mem_filter] at hm
 obtain ⟨h1,h2⟩:=hm
 obtain ⟨j,hj,e⟩:=List.mem_map.1 h1
 rw [List.mem_range] at hj
 rw [decide_eq_true_eq] at h2
 exact ⟨by omega,by omega,h2⟩
theorem FlsOk.has {B L I:Int} {l:List (Int × Blk)} {n:Nat} {fs:List Fl} (h:FlsOk B L I l n fs) {i:Nat} (h1:1≤i) (h2:i≤n) (h3:y9 B L I l i 0≠0):∃ x∈fs,x.i=i:=by
 have:i∈fs.map (·.i):=by
   rw [h.ids,List.mem_filter]
   exact ⟨List.mem_map.2 ⟨i - 1,List.mem_range.2 (by omega),by omega⟩,decide_eq_true h3⟩
 exact List.mem_map.1 this
theorem inoP_ok {B L I:Int} {l:List (Int × Blk)} (h:∀ x∈l,IsB x.2) (i:Nat):InoOk (y9 B L I l i):=inoOf_ok (Zw h _).lt _
theorem FlsOk.add {B L I:Int} {l:List (Int × Blk)} {n:Nat} {fs:List Fl} (h:FlsOk B L I l n fs) {x:Fl} (hi:x.i=n+1) (hf:x.f=y9 B L I l x.i) (hs:x.sp=Z2 B L I l x.f) (h0:y9 B L I l (n+1) 0≠0):FlsOk B L I l (n+1) (fs++[x]):=by
 refine ⟨?_,fun y hy=>?_⟩
 · rw [List.map_append,h.ids,List.range_succ,List.map_append,List.filter_append]
   simp [hi,h0]
 · rcases List.mem_append.1 hy with h1 | h1
   · exact h.is y h1
   · rw [List.mem_singleton.1 h1]; exact ⟨hf,hs⟩
theorem FlsOk.skip {B L I:Int} {l:List (Int × Blk)} {n:Nat} {fs:List Fl} (h:FlsOk B L I l n fs) (h0:y9 B L I l (n+1) 0=0):FlsOk B L I l (n+1) fs:=by
 refine ⟨?_,h.is⟩
 rw [h.ids,List.range_succ,List.map_append,List.filter_append]
 simp [h0]
section
variable {H:Hp} {R:Value→Hp→Prop} {d:Nat} {dv:Value} {B L I:Int} {l:List (Int × Blk)}
theorem files_fr {H H':Hp} {s:Value} {fs:List Fl} {n:Nat} (h:Lk H d dv B L I l) (hn:n≤65535) (ho:FlsOk B L I l n fs) (hw:New H H' (.nest 177 18 s (fs.map flN))):Fls H' s fs:=by
 refine ⟨?_,fun x hx=>?_,fun x hx=>?_,?_,fun x hx=>?_,fun x hx=>?_⟩
 · have:=hw.nest_sv.sr
   rw [List.map_map] at this
   exact this
 · exact (hw.nest_sub (flN x) (List.mem_map.2 ⟨x,hx,rfl⟩) ⟨x.v,233,2,x.sp.map spC⟩ (List.mem_singleton.2 rfl)).sr
 · rw [(ho.is x hx).2]; exact spotsP_len _ _ _ _ _
 · have:=ho.len; omega
 · have:=ho.mem hx; omega
 · rw [(ho.is x hx).1]; exact inoP_ok h.is _
theorem lk_files (h:Lk H d dv B L I l) (k:∀ H' s fs,Ext H H'→New H H' (.nest 177 18 s (fs.map flN))→FlsOk B L I l I.toNat fs→R s H'):Fc Tryz.prog 80 #[z6 d] H R:=by
 obtain ⟨gL1,gL2,gI1,gI2,gB1,gB2,gD⟩:=id h.ok
 obtain ⟨In,eI⟩:∃ In:Nat,I=In:=⟨I.toNat,by omega⟩
 have hI:(zp B L I).I=I:=rfl
 refine fn80 ?_
 simp only [sh80,yd,zt,za]
 have l1:Lx H H [.nest 177 18 (.slice none 0 0) []]:=(Lo.start _ H:Lx H H []).new (Ext.refl H) (New.nilN H _ _)
 simp only [zc,zi,Nat.zero_add,Nat.add_zero,Nat.reduceAdd,za]
 refine zx.mk (fun t H'=>∃ (i:Nat) (s:Value) (fs:List Fl),i≤In∧t=(s,zm ((i+1:Nat):Int),())∧FlsOk B L I l i fs∧Lx H H' [.nest 177 18 s (fs.map flN)])
   (fun t _=>mi t.2.1 fun i=>(In+1 - i).toNat) ⟨0,.slice none 0 0,[],by omega,rfl,⟨rfl,fun x hx=>by cases hx⟩,l1⟩ ?_
 rintro _ H2 ⟨i,s,fs,hi,rfl,hfs,l2⟩
 have hlen:=hfs.len
 have h2:=h.ext l2.ext0
 rw [zq h2.top,lkC4,za,hI,Yp,za,zf]
 refine ⟨fun hle=>?_,fun hgt=>?_⟩
 · have hfo:=inoP_ok (B:=B) (L:=L) (I:=I) h.is (i+1)
   refine lk_node h2 (by omega) fun H3 e3=>?_
   refine (l2.ext e3).boxA fun b2 H4 _ l4=>?_
   refine l4.stAll (i:=1) rfl (zz _) (zz _) (Z0 _) fun H5 l5=>?_
   have l5:Lx H H5 [.nest 177 18 s (fs.map flN),.box b2 (Zs (y9 B L I l (i+1))) 88]:=l5
   have i0:(Zs (y9 B L I l (i+1)))[0]?=some (.int .u16 (y9 B L I l (i+1) 0)):=rfl
   rw [zi,za,l5.ld (i:=1) rfl,i0,za,zw,za,zf]
   refine ⟨fun hne=>?_,fun he=>?_⟩
   · rw [l5.ldAll (i:=1) (n:=16) rfl (zz _),za]
     have fin:∀ {H6:Hp} {sv:Value},Lx H H6 [.nest 177 18 s (fs.map flN),.box b2 (Zs (y9 B L I l (i+1))) 88,.subs [⟨sv,233,2,(Z2 B L I l (y9 B L I l (i+1))).map spC⟩]]→∀ {K:Value→Hp→Prop},(∀ s' H',Lx H H' [.nest 177 18 s' ((fs++[(⟨i+1,y9 B L I l (i+1),sv,Z2 B L I l (y9 B L I l (i+1))⟩:Fl)]).map flN)]→K s' H') →
         Pu (zu Tryz.prog 177 [(0,zm ((i+1:Nat):Int)),(1,.agg (Zs (y9 B L I l (i+1)))),(2,sv)]) fun x18=>ForX true H6 fun H7=>Pu (zI Tryz.prog 170) fun x19=>Pu (zH (some x19) 1 [(0,x18)]) fun x20=>NewS x19.type 1 x20 H7 fun x21 H8=>ForX true H8 fun H9=>Y2 (zI Tryz.prog 170) s x21 H9 K:=by
       intro H6 sv l6 K hk
       obtain ⟨bb,cc,esv⟩:=(l6.ssub (i:=2) rfl _ (List.mem_singleton.2 rfl)).len
       simp only at esv
       subst esv
       rw [buildFile,za,zl]
       intro H7 e7
       refine (l6.ext e7).nestAppX elFile (i:=0) (j:=2) (by decide) (x:=flN ⟨i+1,y9 B L I l (i+1),_,Z2 B L I l (y9 B L I l (i+1))⟩) rfl rfl eFile_f (by omega) (by omega) rfl rfl (flC_ok rfl) (by rw [List.length_map]; omega) fun s' H' l'=>?_
       have l':=l'.takeN 1
       refine hk s' H' ?_
       rw [List.map_append]
       exact l'
     refine ⟨?_,?_,trivial⟩
     · rw [za,zl]
       intro H6 e6
       refine spots29 (h.ext (l5.ext e6).ext0) hfo fun H7 sv e7 n7=>?_
       refine fin (((l5.ext e6).new e7 n7.subs1)) fun s' H' l'=>?_
       rw [zl]
       intro H18 e18
       rw [zk,za,zK (i+1),zv (v:=i+1+1) (by omega)]
       exact ⟨⟨i+1,s',_,by omega,rfl,hfs.add rfl rfl rfl (by omega),l'.ext e18⟩,by simp only [zC]; omega⟩
     · rw [zl]
       intro H6 e6
       refine spots29 (h.ext (l5.ext e6).ext0) hfo fun H7 sv e7 n7=>?_
       have l7:=(l5.ext e6).new e7 n7.subs1
       rw [l7.ldAll (i:=1) (n:=16) rfl (zz _),za]
       refine fin l7 fun s' H' l'=>?_
       rw [zl]
       intro H18 e18
       rw [zk,za,zK (i+1),zv (v:=i+1+1) (by omega)]
       exact ⟨⟨i+1,s',_,by omega,rfl,hfs.add rfl rfl rfl (by omega),l'.ext e18⟩,by simp only [zC]; omega⟩
   · rw [zk,za,zK (i+1),zv (v:=i+1+1) (by omega)]
     exact ⟨⟨i+1,s,fs,by omega,rfl,hfs.skip (by omega),l5.takeN 1⟩,by simp only [zC]; omega⟩
 · have ei:i=In:=by omega
   subst ei
   refine k H2 s fs l2.ext0 (l2.outN (i:=0) rfl) ?_
   rw [eI,Int.toNat_natCast,← eI]; exact hfs
end
def z8 (fs:List Fl):List Int:=fs.flatMap fun x=>x.sp.map (·.2)
theorem blksP_app (a b:List Fl):z8 (a++b)=z8 a++z8 b:=List.flatMap_append ..
theorem blksP_one (x:Fl):z8 [x]=x.sp.map (·.2):=by simp [z8]
theorem blksP_len {fs:List Fl} (h:∀ x∈fs,x.sp.length≤66100):(z8 fs).length≤66100*fs.length:=by
 induction fs with
 | nil=>simp [z8]
 | cons x r ih=>
   have h1:=ih fun y hy=>h y (List.mem_cons_of_mem _ hy)
   have h2:=h x (List.mem_cons_self ..)
   have e:z8 (x :: r)=x.sp.map (·.2)++z8 r:=by simp [z8]
   rw [e,List.length_append,List.length_map,List.length_cons]; omega
def ownC (ps:List Int) (b:Nat):Nat:=ps.countP fun y:Int=>decide (y=(b:Int))
theorem ownC_app (ps:List Int) (y:Int) (b:Nat):ownC (ps++[y]) b=ownC ps b+if y=b then 1 else 0:=by
 unfold ownC
 rw [List.countP_append,List.countP_singleton]
 simp only [decide_eq_true_eq]
theorem ownC_le (ps:List Int) (b:Nat):ownC ps b≤ps.length:=List.countP_le_length
def nC (n:Nat):Array Value:=#[zm n]
def cN (c:Nat→Nat) (n:Nat):List (Array Value):=(List.range n).map fun b=>nC (c b)
theorem cN_len (c:Nat→Nat) (n:Nat):(cN c n).length=n:=by simp [cN]
theorem cN_get {c:Nat→Nat} {n b:Nat} (h:b<n):(cN c n)[b]?=some (nC (c b)):=by
 unfold cN; rw [List.getElem?_map,List.getElem?_range h]; rfl
theorem cN_set {c c':Nat→Nat} {n y:Nat} {u:Nat} (h1:c' y=u) (h2:∀ b,b≠y→c' b=c b):(cN c n).set y (nC u)=cN c' n:=by
 apply List.ext_getElem?
 intro b
 by_cases hb:b<n
 · rw [cN_get hb]
   by_cases e:y=b
   · subst e
     rw [List.getElem?_set_self (by rw [cN_len]; exact hb),h1]
   · rw [List.getElem?_set_ne e,cN_get hb,h2 b (Ne.symm e)]
 · rw [List.getElem?_eq_none (by rw [List.length_set,cN_len]; omega),List.getElem?_eq_none (by rw [cN_len]; omega)]
theorem cN_zero (n:Nat):cN (fun _=>0) n=List.replicate n #[zm 0]:=by
 unfold cN; apply List.ext_getElem? ; intro b; by_cases hb:b<n
 · rw [List.getElem?_map,List.getElem?_range hb,List.getElem?_replicate,if_pos hb]; rfl
 · rw [List.getElem?_eq_none (by simp; omega),List.getElem?_eq_none (by simp; omega)]
noncomputable def eIn:ZT:=orE (zI Tryz.prog 106)
set_option maxRecDepth 100000 in
theorem elIn:zI Tryz.prog 106=some eIn:=by kernel_rfl
set_option maxRecDepth 100000 in
theorem eIn_f:eIn.type=3∧eIn.size=1∧eIn.zero.size=1∧eIn.bytes=8:=⟨by kernel_rfl,by kernel_rfl,by kernel_rfl,by kernel_rfl⟩
theorem eIn_z:eIn.zero=#[zm 0]:=by kernel_rfl
theorem undIn:Tryz.prog.underlying 106=some (.slice 3):=by kernel_rfl
section
variable {P:Program} {S:Nat→Prop} {H0 H:Hp} {l:List Ob}
theorem Lo.put1 {T:Nat} {kk:IntKind} {K:Hp→Prop} (h:Lo S H0 H l) {i j:Nat} {s:Value} {v:Array Value} {u:Value} {vs:List (Array Value)} (hi:l[i]?=some (.sl T 1 s vs)) (hj:vs[j]?=some v) (hv:zF v) (hu:u.oneCell'=true) (hc:u.cells=#[u]) (k:∀ H',Lo S H0 H' (l.set i (.sl T 1 s (vs.set j (v.setIfInBounds 0 u))))→K H') :
   Pu (zh (some (none,1)) s (.int kk j)) fun x=>Pu (zj (some 1) x u H) K:=by
 obtain ⟨b,o,ha,hp⟩:=h.slCell (x:=0) hi hj (by omega) hv hu hc k
 rw [ha,za]; exact hp
end
theorem ids_step {α:Type} {Q:α→Prop} {ps:List α} {y:α} {ys:List Int} {p:Prop} (hp:p↔∀ z∈ps,Q z):(p∧Q y)↔∀ z∈ps++[y],Q z:=by
 rw [hp]
 constructor
 · rintro ⟨h1,h2⟩ z hz
   rcases List.mem_append.1 hz with h | h
   · exact h1 z h
   · rw [List.mem_singleton.1 h]; exact h2
 · exact fun h=>⟨fun z hz=>h z (List.mem_append_left _ hz),h y (List.mem_append_right _ (List.mem_singleton.2 rfl))⟩
section
variable {H:Hp} {R:Value→Hp→Prop} {d:Nat} {dv:Value} {B L I:Int} {l:List (Int × Blk)} {s:Value} {fs:List Fl}
theorem pointers29 (h:Lk H d dv B L I l) (hf:Fls H s fs) (k:∀ H' s' ps,Ext H H'→New H H' (.sl 254 2 s' (ps.map (fC 5)))→(ps=[]↔∀ y∈z8 fs,yP B L I y)→R s' H'):Fc Tryz.prog 116 #[z6 d,s] H R:=by
 have hfl:=hf.len
 refine fn116 ?_
 simp only [sh116,Ye,zt,za]
 refine (Lo.start _ H:Lx H H []).flts fun p H1 e1 l1=>?_
 have l1:Lx H H1 [yb p 5 []]:=l1
 simp only [zc,zi,Nat.zero_add,Nat.add_zero,Nat.reduceAdd,za]
 refine zx.mk (fun t H'=>∃ (i:Nat) (ps:List Int),i≤fs.length∧t=(zm i,())∧ps.length≤66100*i∧(ps=[]↔∀ y∈z8 (fs.take i),yP B L I y)∧Lx H H' [yb p 5 ps])
   (fun t _=>mi t.1 fun i=>(fs.length - i).toNat) ⟨0,[],by omega,rfl,by simp,by simp [z8],l1⟩ ?_
 rintro _ H2 ⟨i,ps,hi,rfl,hpl,hps,l2⟩
 rw [hf.row.lenE yz,za,List.length_map,zr,za,zf]
 refine ⟨fun hlt=>?_,fun hge=>?_⟩
 · have hil:i<fs.length:=by omega
   have hei:(fs.map flC)[i]?=some (flC fs[i]):=by rw [List.getElem?_map,List.getElem?_eq_getElem hil]; rfl
   have htk:fs.take (i+1)=fs.take i++[fs[i]]:=List.take_succ_eq_append_getElem hil
   have hmem:fs[i]∈fs:=List.getElem_mem hil
   generalize fs[i]=x at hei htk hmem
   have hsub:=hf.sub x hmem
   have hfew:=hf.few x hmem
   refine zx.mk (fun t H'=>∃ (j:Nat) (ps:List Int),j≤x.sp.length∧t=(zm j,())∧ps.length≤66100*i+j∧(ps=[]↔∀ y∈z8 (fs.take i)++(x.sp.take j).map (·.2),yP B L I y)∧Lx H H' [yb p 5 ps])
     (fun t _=>mi t.1 fun j=>(x.sp.length - j).toNat) ⟨0,ps,by omega,rfl,by omega,by simpa using hps,l2⟩ ?_
   rintro _ H3 ⟨j,ps,hj,rfl,hpl,hps,l3⟩
   obtain ⟨b,o,ha,hcl,_⟩:=(hf.ext l3.ext0).row.el hei
   rw [ha,za,zi,za,hcl 17 (by omega),show (flC x)[17]?=some x.v from rfl,za,hsub.lenE YM,za,List.length_map,zr,za,zf]
   refine ⟨fun hlt2=>?_,fun hge2=>?_⟩
   · have hjl:j<x.sp.length:=by omega
     have hej:(x.sp.map spC)[j]?=some (spC x.sp[j]):=by rw [List.getElem?_map,List.getElem?_eq_getElem hjl]; rfl
     have htj:x.sp.take (j+1)=x.sp.take j++[x.sp[j]]:=List.take_succ_eq_append_getElem hjl
     generalize x.sp[j]=y at hej htj
     obtain ⟨b2,o2,ha2,hcl2,_⟩:=(hsub.ext l3.ext0).el hej
     have hst:=ids_step (y:=y.2) (ys:=[]) hps
     rw [List.append_assoc,show (x.sp.take j).map (·.2)++[y.2]=(x.sp.take (j+1)).map (·.2) by rw [htj,List.map_append]; rfl] at hst
     rw [za,zi,za,hcl 17 (by omega),show (flC x)[17]?=some x.v from rfl,za,ha2,za,zi,za,hcl2 1 (by omega),show (spC y)[1]?=some (zm y.2) from rfl,za]
     refine data29 (h.ext l3.ext0) ?_
     rw [zT,za,yy]
     refine ⟨fun hd=>?_,fun hd=>?_⟩
     · rw [decide_eq_false_iff_not] at hd
       rw [za,zi,za,Nat.add_zero]
       have:=hcl 0 (by omega)
       rw [Nat.add_zero] at this
       rw [this,show (flC x)[0]?=some (zm x.i) from rfl,za]
       obtain ⟨O,ho,st⟩:=l3.call (i:=0) rfl
       refine flt_add ho (by omega) fun H11 O11 ps' hne hle s11 h11=>?_
       have l11:=st H11 _ O11 s11 h11
       rw [zk,za,zK,zv (by omega)]
       refine ⟨⟨j+1,ps',by omega,rfl,by omega,?_,l11⟩,by simp only [zC]; omega⟩
       rw [← hst]
       exact ⟨fun e=>absurd e hne,fun e=>absurd e.2 hd⟩
     · rw [decide_eq_true_eq] at hd
       rw [zk,za,zK,zv (by omega)]
       refine ⟨⟨j+1,ps,by omega,rfl,by omega,?_,l3⟩,by simp only [zC]; omega⟩
       rw [← hst]
       exact ⟨fun e=>⟨e,hd⟩,fun e=>e.1⟩
   · have ej:j=x.sp.length:=by omega
     subst ej
     rw [List.take_length,← blksP_one,← blksP_app,← htk] at hps
     rw [zk,za,zK,zv (by omega)]
     exact ⟨⟨i+1,ps,by omega,rfl,by omega,hps,l3⟩,by simp only [zC]; omega⟩
 · have ei:i=fs.length:=by omega
   subst ei
   rw [List.take_length] at hps
   obtain ⟨s',hg,l15⟩:=l2.fltEnd (i:=0) rfl
   rw [zq hg]
   show Pu (some s') _
   rw [za]
   exact k H2 s' ps l2.ext0 (l15.outN (i:=0) rfl) hps
theorem owned29 (h:Lk H d dv B L I l) (hf:Fls H s fs) (hd:∀ y∈z8 fs,yP B L I y) (k:∀ H' s',Ext H H'→New H H' (.sl 3 1 s' (cN (ownC (z8 fs)) B.toNat))→R s' H'):Fc Tryz.prog 151 #[z6 d,s] H R:=by
 have hfl:=hf.len
 obtain ⟨gL1,gL2,gI1,gI2,gB1,gB2,gD⟩:=id h.ok
 have hB:(zp B L I).B=B:=rfl
 obtain ⟨Bn,eB⟩:∃ Bn:Nat,B=Bn:=⟨B.toNat,by omega⟩
 have hdat:∀ y,yP B L I y→0≤y∧y<B:=fun y hy=>by
   have h1:(zp B L I).dataAt=1+L+(I+16) / 16+(B+8191) / 8192:=rfl
   obtain ⟨h2,h3⟩:=hy
   exact ⟨by omega,h3⟩
 refine fn151 ?_
 simp only [sh151,zt,zc,zi,Nat.zero_add,Nat.add_zero,Nat.reduceAdd,za]
 rw [zq h.top,lkC2,za,hB]
 have eBt:B.toNat=Bn:=by omega
 rw [eBt] at k
 rw [eB]
 refine (Lo.start _ H:Lx H H []).make elIn eIn_f (by omega) (by omega) (by omega) fun b0 H1 _ l1=>?_
 rw [eIn_z,← cN_zero] at l1
 generalize hsv:Value.slice (some ⟨b0,0,none⟩) Bn Bn=sv at l1
 have l1:Lx H H1 [.sl 3 1 sv (cN (ownC (z8 (fs.take 0))) Bn)]:=l1
 simp only []
 refine zx.mk (fun t H'=>∃ (i:Nat),i≤fs.length∧t=(zm i,())∧Lx H H' [.sl 3 1 sv (cN (ownC (z8 (fs.take i))) Bn)])
   (fun t _=>mi t.1 fun i=>(fs.length - i).toNat) ⟨0,by omega,rfl,l1⟩ ?_
 rintro _ H2 ⟨i,hi,rfl,l2⟩
 rw [hf.row.lenE yz,za,List.length_map,zr,za,zf]
 refine ⟨fun hlt=>?_,fun hge=>?_⟩
 · have hil:i<fs.length:=by omega
   have hei:(fs.map flC)[i]?=some (flC fs[i]):=by rw [List.getElem?_map,List.getElem?_eq_getElem hil]; rfl
   have htk:fs.take (i+1)=fs.take i++[fs[i]]:=List.take_succ_eq_append_getElem hil
   have hmem:fs[i]∈fs:=List.getElem_mem hil
   have hpl:=blksP_len (fs:=fs.take i) fun y hy=>hf.few y (List.mem_of_mem_take hy)
   rw [List.length_take] at hpl
   generalize fs[i]=x at hei htk hmem
   have hsub:=hf.sub x hmem
   have hfew:=hf.few x hmem
   refine zx.mk (fun t H'=>∃ (j:Nat),j≤x.sp.length∧t=(zm j,())∧Lx H H' [.sl 3 1 sv (cN (ownC (z8 (fs.take i)++(x.sp.take j).map (·.2))) Bn)])
     (fun t _=>mi t.1 fun j=>(x.sp.length - j).toNat) ⟨0,by omega,rfl,by simpa using l2⟩ ?_
   rintro _ H3 ⟨j,hj,rfl,l3⟩
   obtain ⟨b,o,ha,hcl,_⟩:=(hf.ext l3.ext0).row.el hei
   rw [ha,za,zi,za,hcl 17 (by omega),show (flC x)[17]?=some x.v from rfl,za,hsub.lenE YM,za,List.length_map,zr,za,zf]
   refine ⟨fun hlt2=>?_,fun hge2=>?_⟩
   · have hjl:j<x.sp.length:=by omega
     have hej:(x.sp.map spC)[j]?=some (spC x.sp[j]):=by rw [List.getElem?_map,List.getElem?_eq_getElem hjl]; rfl
     have htj:x.sp.take (j+1)=x.sp.take j++[x.sp[j]]:=List.take_succ_eq_append_getElem hjl
     have hym:x.sp[j]∈x.sp:=List.getElem_mem hjl
     generalize x.sp[j]=y at hej htj hym
     obtain ⟨b2,o2,ha2,hcl2,_⟩:=(hsub.ext l3.ext0).el hej
     have hy:=hdat y.2 (hd y.2 (List.mem_flatMap.2 ⟨x,hmem,List.mem_map.2 ⟨y,hym,rfl⟩⟩))
     obtain ⟨yn,ey⟩:∃ yn:Nat,y.2=yn:=⟨y.2.toNat,by omega⟩
     have hyn:yn<Bn:=by omega
     rw [za,zi,za,hcl 17 (by omega),show (flC x)[17]?=some x.v from rfl,za,ha2,za,zi,za,hcl2 1 (by omega),show (spC y)[1]?=some (zm y.2) from rfl,za,ey]
     have hcnt:=ownC_le (z8 (fs.take i)++(x.sp.take j).map (·.2)) yn
     rw [List.length_append,List.length_map,List.length_take] at hcnt
     have hg:=cN_get (c:=ownC (z8 (fs.take i)++(x.sp.take j).map (·.2))) hyn
     obtain ⟨b3,o3,ha3,hcl3,_⟩:=(l3.sv (i:=0) rfl).sr.el hg
     have hc0:=hcl3 0 (by omega)
     rw [Nat.add_zero] at hc0
     rw [ha3,za,hc0,show (nC (ownC (z8 (fs.take i)++(x.sp.take j).map (·.2)) yn))[0]?=some (zm (ownC (z8 (fs.take i)++(x.sp.take j).map (·.2)) yn)) from rfl,za,zk,za,zK,zv (by omega),← ha3 .i64]
     refine l3.put1 (i:=0) (u:=zm ((ownC (z8 (fs.take i)++(x.sp.take j).map (·.2)) yn+1:Nat):Int)) rfl hg (by unfold zF; rw [← Array.all_toList]; rfl) rfl rfl fun H4 l4=>?_
     rw [zk,za,zK,zv (by omega)]
     refine ⟨⟨j+1,by omega,rfl,?_⟩,by simp only [zC]; omega⟩
     have e:(cN (ownC (z8 (fs.take i)++(x.sp.take j).map (·.2))) Bn).set yn (nC (ownC (z8 (fs.take i)++(x.sp.take j).map (·.2)) yn+1))=cN (ownC (z8 (fs.take i)++(x.sp.take (j+1)).map (·.2))) Bn:=by
       rw [htj,List.map_append,← List.append_assoc,show List.map (·.2) [y]=[y.2] from rfl,ey]
       refine cN_set ?_ fun b hb=>?_
       · rw [ownC_app,if_pos rfl]
       · rw [ownC_app,if_neg (by omega)]; rfl
     rw [← e]; exact l4
   · have ej:j=x.sp.length:=by omega
     subst ej
     rw [List.take_length,← blksP_one,← blksP_app,← htk] at l3
     rw [zk,za,zK,zv (by omega)]
     exact ⟨⟨i+1,by omega,rfl,l3⟩,by simp only [zC]; omega⟩
 · have ei:i=fs.length:=by omega
   subst ei
   rw [List.take_length] at l2
   exact k H2 sv l2.ext0 (l2.outN (i:=0) rfl)
end
theorem dec_dec {p q:Prop} {a:Decidable p} {b:Decidable q} (h:p↔q):@decide p a=@decide q b:=by
 rw [Bool.eq_iff_iff]; simp [h]
theorem Yh {p q:Prop} {a:Decidable p} {b:Decidable q} (h:p↔q):Value.bool (@decide p a)=Value.bool (@decide q b):=by rw [dec_dec h]
theorem yf {p:Prop} {a:Decidable p} (h:p):Value.bool true=Value.bool (@decide p a):=by rw [decide_eq_true h]
theorem YK {p:Prop} {a:Decidable p} (h:¬ p):Value.bool false=Value.bool (@decide p a):=by rw [decide_eq_false h]
theorem ext_all {c:Array Value} {n:Nat} (h:c.size=n):c.extract 0 (0+n)=c:=by rw [Nat.zero_add,← h]; simp
theorem zeroSpot:zD Tryz.prog 233=some (.agg #[zm 0,zm 0]):=by kernel_rfl
section
variable (B L I:Int) (l:List (Int × Blk))
def Yf (kd:Int) (x:Fl) (y:Spt):Prop:=(kd=8∧((x.f 2:Int)+1023) / 1024≤y.1)∨(kd=7∧y.1<0∧zN l y.2=zB)
def yB (kd:Int) (x:Fl):Prop:=
 if kd=10 then x.f 3≠x.sp.length
 else if kd=12 then x.f 0=2∧∃ i:Nat,(i:Int)<((x.f 2:Int)+1023) / 1024∧mapP x.sp i=0
 else if kd=9 then mapP x.sp ((x.f 2:Int) / 1024)≠0∧x.f 2 % 1024≠0∧∃ i,x.f 2 % 1024≤i∧i<1024∧byt (zN l (mapP x.sp ((x.f 2:Int) / 1024))) i≠0
 else ∃ y∈x.sp,Yf l kd x y
end
section
variable {H:Hp} {R:Value→Hp→Prop} {d:Nat} {dv:Value} {B L I:Int} {l:List (Int × Blk)} {s:Value} {fs:List Fl}
theorem blank29 (h:Lk H d dv B L I l) {a:Int} (k:∀ H',Ext H H'→R (.bool (decide (zN l a=zB))) H'):Fc Tryz.prog 163 #[z6 d,zm a] H R:=by
 refine fn163 ?_
 simp only [sh163,YF,za]
 refine lk_at h fun H1 e1=>?_
 rw [eqXE_eql,eqB rowB (Zw h.is a) Zn,Option.map_some,za]
 exact k H1 e1
set_option maxHeartbeats 1000000 in
theorem wrong29 (h:Lk H d dv B L I l) {x:Fl} (hsub:Sr 2 H x.v (x.sp.map spC)) (hfew:x.sp.length≤66100) (hok:InoOk x.f) {kd:Int} (k:∀ H',Ext H H'→R (.bool (decide (yB l kd x))) H'):Fc Tryz.prog 152 #[z6 d,.agg (flC x),.int .u8 kd] H R:=by
 have h2:=hok 2 (by omega)
 have h3:=hok 3 (by omega)
 simp only [fw,Nat.reduceLT,if_false,Nat.reducePow,Nat.lt_irrefl] at h2 h3
 have f0:(flC x)[0]?=some (zm x.i):=rfl
 have f1:(flC x)[1]?=some (.int .u16 (x.f 0)):=rfl
 have f3:(flC x)[3]?=some (.int .u32 (x.f 2)):=rfl
 have f4:(flC x)[4]?=some (.int .u32 (x.f 3)):=rfl
 have f17:(flC x)[17]?=some x.v:=rfl
 refine fn152 ?_
 simp only [sh152,zt]
 refine (Lo.start _ H:Lx H H []).boxA fun b1 H1 _ l1=>?_
 have l1:Lx H H1 [.box b1 (flC x) 177]:=l1
 have fin:∀ {H'} (b:Bool),Ext H H'→(b=true↔yB l kd x)→R (.bool b) H':=fun {H'} b e hb=>by
   have:=k H' e
   rw [show decide (yB l kd x)=b from by rw [Bool.eq_iff_iff,decide_eq_true_eq,hb]] at this
   exact this
 simp only [zi,Nat.zero_add,Nat.add_zero,Nat.reduceAdd,za,ya]
 rw [l1.ld (i:=0) rfl,f3,za,zE,za,zv (by omega)]
 refine up29 (by omega) ?_
 rw [zy,za,zf]
 refine ⟨fun h10=>?_,fun h10=>?_⟩
 · rw [l1.ld (i:=0) rfl,f4,za,zE,za,zv (by omega),l1.ld (i:=0) rfl,f17,za,hsub.lenE YM,za,List.length_map,zw,za]
   refine fin _ l1.ext0 ?_
   unfold yB
   rw [if_pos h10,decide_eq_true_eq]; omega
 · rw [zy,za,zf]
   refine ⟨fun h12=>?_,fun h12=>?_⟩
   · have hw:yB l kd x↔x.f 0=2∧∃ i:Nat,(i:Int)<((x.f 2:Int)+1023) / 1024∧mapP x.sp i=0:=by unfold yB; rw [if_neg h10,if_pos h12]
     refine zx.mk (fun t H'=>H'=H1∧∃ i:Nat,(i:Int)≤((x.f 2:Int)+1023) / 1024∧t=(zm i,())∧∀ j:Nat,j<i→mapP x.sp j≠0) (fun t _=>mi t.1 fun i=>(((x.f 2:Int)+1023) / 1024 - i).toNat) ⟨rfl,0,by omega,rfl,fun j hj=>by omega⟩ ?_
     rintro _ H3 ⟨rfl,i,hi,rfl,hno⟩
     refine zS.mk (fun t H'=>H'=H3∧t.1=.bool (decide ((i:Int)<((x.f 2:Int)+1023) / 1024∧x.f 0=2))) ?_ ?_
     · rintro ⟨t,u⟩ H4 ⟨rfl,ht⟩
       simp only at ht
       subst ht
       rw [zf]
       refine ⟨fun hb=>?_,fun hb=>?_⟩
       · rw [l1.ld (i:=0) rfl,f17,za]
         refine mapped29 (hsub.ext l1.ext0) (by omega) ?_
         rw [zy,za,zf]
         refine ⟨fun h0=>fin true l1.ext0 ?_,fun h0=>?_⟩
         · rw [hw]; exact ⟨fun _=>⟨hb.2,i,hb.1,h0⟩,fun _=>rfl⟩
         · rw [zk,za,zK,zv (by omega)]
           refine ⟨⟨rfl,i+1,by omega,rfl,fun j hj=>?_⟩,by simp only [zC]; omega⟩
           by_cases e:j=i
           · rw [e]; exact h0
           · exact hno j (by omega)
       · refine fin false l1.ext0 ?_
         rw [hw]
         refine ⟨fun e=>(by cases e),fun ⟨h1,j,hj,h4⟩=>?_⟩
         by_cases e:(i:Int)<((x.f 2:Int)+1023) / 1024
         · exact absurd ⟨e,h1⟩ hb
         · exact absurd h4 (hno j (by omega))
     · rw [zr,za,zf]
       refine ⟨fun hlt=>?_,fun hge=>⟨rfl,YK fun e=>hge e.1⟩⟩
       · rw [l1.ld (i:=0) rfl,f1,za,zy,za]
         refine ⟨rfl,Yh ?_⟩
         omega
   · rw [zy,za,zf]
     refine ⟨fun h9=>?_,fun h9=>?_⟩
     · have hw:yB l kd x↔mapP x.sp ((x.f 2:Int) / 1024)≠0∧x.f 2 % 1024≠0∧∃ i,x.f 2 % 1024≤i∧i<1024∧byt (zN l (mapP x.sp ((x.f 2:Int) / 1024))) i≠0:=by unfold yB; rw [if_neg h10,if_neg h12,if_pos h9]
       rw [l1.ld (i:=0) rfl,f17,za,l1.ld (i:=0) rfl,f3,za,zE,za,zv (by omega),Zh (by decide),za,Zl (by omega),zg (by omega) (by omega)]
       refine mapped29 (hsub.ext l1.ext0) (by omega) ?_
       refine zS.mk (fun t H'=>H'=H1∧t.1=.bool (decide (mapP x.sp ((x.f 2:Int) / 1024)=0∨x.f 2 % 1024=0))) ?_ ?_
       · rintro ⟨t,u⟩ H4 ⟨rfl,ht⟩
         simp only at ht
         subst ht
         rw [zf]
         refine ⟨fun hb=>fin false l1.ext0 ?_,fun hb=>?_⟩
         · rw [hw]
           refine ⟨fun e=>(by cases e),fun ⟨h1,h4,_⟩=>?_⟩
           rcases hb with e | e
           · exact absurd e h1
           · exact absurd e h4
         · have hb1:mapP x.sp ((x.f 2:Int) / 1024)≠0:=fun e=>hb (.inl e)
           have hb2:x.f 2 % 1024≠0:=fun e=>hb (.inr e)
           refine lk_at (h.ext l1.ext0) fun H5 e5=>?_
           have hbl:=Zw h.is (mapP x.sp ((x.f 2:Int) / 1024))
           generalize zN l (mapP x.sp ((x.f 2:Int) / 1024))=c at hbl hw
           refine (l1.ext e5).boxA fun b2 H6 _ l6=>?_
           refine l6.stAll (i:=1) rfl zJ hbl.size hbl.ok fun H7 l7=>?_
           have l7:Lx H H7 [.box b1 (flC x) 177,.box b2 c 94]:=l7
           rw [l7.ld (i:=0) rfl,f3,za,zE,za,zv (by omega),zW (by decide),za,Za (by omega)]
           refine zx.mk (fun t H'=>H'=H7∧∃ i:Nat,x.f 2 % 1024≤i∧i≤1024∧t=(zm i,())∧∀ j,x.f 2 % 1024≤j→j<i→byt c j=0) (fun t _=>mi t.1 fun i=>(1024 - i).toNat) ⟨rfl,x.f 2 % 1024,by omega,by omega,by congr 2,fun j _ _=>by omega⟩ ?_
           rintro _ H8 ⟨rfl,i,hi1,hi2,rfl,hz⟩
           rw [zr,za,zf]
           refine ⟨fun hlt=>?_,fun hge=>?_⟩
           · rw [zG (by omega),za,Nat.zero_add,Nat.mul_one,l7.ld (i:=1) rfl,hbl.get (by omega),za,zw,za,zf]
             refine ⟨fun hne=>fin true l7.ext0 ?_,fun he=>?_⟩
             · rw [hw]; exact ⟨fun _=>⟨hb1,hb2,i,hi1,by omega,by omega⟩,fun _=>rfl⟩
             · rw [zk,za,zK,zv (by omega)]
               refine ⟨⟨rfl,i+1,by omega,by omega,rfl,fun j h1 h4=>?_⟩,by simp only [zC]; omega⟩
               by_cases e:j=i
               · subst e; omega
               · exact hz j h1 (by omega)
           · refine fin false l7.ext0 ?_
             rw [hw]
             refine ⟨fun e=>(by cases e),fun ⟨_,_,j,h4,h5,h6⟩=>?_⟩
             exact absurd (hz j h4 (by omega)) h6
       · rw [zy,za,zf]
         refine ⟨fun h0=>⟨rfl,yf (.inl h0)⟩,fun h0=>?_⟩
         · rw [l1.ld (i:=0) rfl,f3,za,zW (by decide),za,Za (by omega),zy,za]
           refine ⟨rfl,Yh ?_⟩
           constructor
           · intro e; exact .inr (by omega)
           · rintro (e | e)
             · exact absurd e h0
             · omega
     · have hw:yB l kd x↔∃ y∈x.sp,Yf l kd x y:=by unfold yB; rw [if_neg h10,if_neg h12,if_neg h9]
       refine zx.mk (fun t H'=>∃ i:Nat,i≤x.sp.length∧t=(zm i,())∧(∀ y∈x.sp.take i,¬ Yf l kd x y)∧Lx H H' [.box b1 (flC x) 177]) (fun t _=>mi t.1 fun i=>(x.sp.length - i).toNat) ⟨0,by omega,rfl,by simp,l1⟩ ?_
       rintro _ H3 ⟨i,hi,rfl,hno,l3⟩
       rw [l3.ld (i:=0) rfl,f17,za,hsub.lenE YM,za,List.length_map,zr,za,zf]
       refine ⟨fun hlt=>?_,fun hge=>?_⟩
       · have hjl:i<x.sp.length:=by omega
         have hej:(x.sp.map spC)[i]?=some (spC x.sp[i]):=by rw [List.getElem?_map,List.getElem?_eq_getElem hjl]; rfl
         have htj:x.sp.take (i+1)=x.sp.take i++[x.sp[i]]:=List.take_succ_eq_append_getElem hjl
         have hym:x.sp[i]∈x.sp:=List.getElem_mem hjl
         generalize x.sp[i]=y at hej htj hym
         obtain ⟨b2,o2,ha2,hcl2,hrow2⟩:=(hsub.ext l3.ext0).el hej
         have hr2:=hrow2 0 2 (by omega)
         rw [Nat.add_zero,show (spC y).extract 0 (0+2)=spC y from rfl] at hr2
         rw [za,ha2,za,hr2,za,zeroSpot,za]
         refine l3.boxA fun b3 H4 _ l4=>?_
         refine l4.stAll (i:=1) (vs:=spC y) rfl rfl rfl (spC_ok _) fun H5 l5=>?_
         have l5:Lx H H5 [.box b1 (flC x) 177,.box b3 (spC y) 233]:=l5
         have y0:(spC y)[0]?=some (zm y.1):=rfl
         have y1:(spC y)[1]?=some (zm y.2):=rfl
         refine zS.mk (fun t H'=>t.1=.bool (decide (Yf l kd x y))∧Lx H H' [.box b1 (flC x) 177,.box b3 (spC y) 233]) ?_ ?_
         · rintro ⟨t,u⟩ H6 ⟨ht,l6⟩
           simp only at ht
           subst ht
           rw [zf]
           refine ⟨fun hb=>fin true l6.ext0 ?_,fun hb=>?_⟩
           · rw [hw]; exact ⟨fun _=>⟨y,hym,hb⟩,fun _=>rfl⟩
           · rw [zk,za,zK,zv (by omega)]
             refine ⟨⟨i+1,by omega,rfl,fun z hz=>?_,l6.takeN 1⟩,by simp only [zC]; omega⟩
             rw [htj] at hz
             rcases List.mem_append.1 hz with h1 | h1
             · exact hno z h1
             · rw [List.mem_singleton.1 h1]; exact hb
         · have b1:∀ {c:Bool},(c=true↔Yf l kd x y)→(Value.bool c)=.bool (decide (Yf l kd x y)):=fun hc=>by congr 1; rw [Bool.eq_iff_iff,hc,decide_eq_true_eq]
           simp only [zi,Nat.zero_add,Nat.add_zero,za]
           rw [zy,za,zf]
           refine ⟨fun h8=>?_,fun h8=>?_⟩
           · rw [l5.ld (i:=1) rfl,y0,za,zQ,za,zf]
             refine ⟨fun hb=>⟨b1 (by simp [Yf,h8,hb]),l5⟩,fun hb=>?_⟩
             rw [zy,za,zf]
             refine ⟨fun h7=>by omega,fun h7=>⟨b1 (by simp [Yf,h7,hb]),l5⟩⟩
           · rw [zy,za,zf]
             refine ⟨fun h7=>?_,fun h7=>⟨b1 (by simp [Yf,h7,h8]),l5⟩⟩
             rw [l5.ld (i:=1) rfl,y0,za,zr,za,zf]
             refine ⟨fun hb=>?_,fun hb=>⟨b1 (by simp [Yf,h8,hb]),l5⟩⟩
             rw [l5.ld (i:=1) rfl,y1,za]
             refine blank29 (h.ext l5.ext0) fun H9 e9=>⟨b1 (by simp [Yf,h7,hb]),l5.ext e9⟩
       · have ei:i=x.sp.length:=by omega
         subst ei
         rw [List.take_length] at hno
         refine fin false l3.ext0 ?_
         rw [hw]
         exact ⟨fun e=>(by cases e),fun ⟨y,hy,hb⟩=>absurd hb (hno y hy)⟩
theorem files29 (h:Lk H d dv B L I l) (hf:Fls H s fs) {kd:Int} (hkd:kd≠1000) (k:∀ H' s' ps,Ext H H'→New H H' (.sl 254 2 s' (ps.map (fC kd)))→(ps=[]↔∀ x∈fs,¬ yB l kd x)→R s' H'):Fc Tryz.prog 118 #[z6 d,s,.int .u8 kd] H R:=by
 have hfl:=hf.len
 refine fn118 ?_
 simp only [sh118,Ye,zt,za]
 refine (Lo.start _ H:Lx H H []).flts fun p H1 e1 l1=>?_
 have l1:Lx H H1 [yb p kd []]:=l1
 simp only [zc,zi,Nat.zero_add,Nat.add_zero,Nat.reduceAdd,za]
 refine zx.mk (fun t H'=>∃ (i:Nat) (ps:List Int),i≤fs.length∧t=(zm i,())∧ps.length≤i∧(ps=[]↔∀ y∈fs.take i,¬ yB l kd y)∧Lx H H' [yb p kd ps])
   (fun t _=>mi t.1 fun i=>(fs.length - i).toNat) ⟨0,[],by omega,rfl,by simp,by simp,l1⟩ ?_
 rintro _ H2 ⟨i,ps,hi,rfl,hpl,hps,l2⟩
 rw [hf.row.lenE yz,za,List.length_map,zr,za,zf]
 refine ⟨fun hlt=>?_,fun hge=>?_⟩
 · have hil:i<fs.length:=by omega
   have hei:(fs.map flC)[i]?=some (flC fs[i]):=by rw [List.getElem?_map,List.getElem?_eq_getElem hil]; rfl
   have htk:fs.take (i+1)=fs.take i++[fs[i]]:=List.take_succ_eq_append_getElem hil
   have hmem:fs[i]∈fs:=List.getElem_mem hil
   generalize fs[i]=x at hei htk hmem
   have hst:=ids_step (y:=x) (ys:=[]) hps
   rw [← htk] at hst
   obtain ⟨b,o,ha,hcl,hrow⟩:=(hf.ext l2.ext0).row.el hei
   have hr:=hrow 0 18 (by omega)
   rw [Nat.add_zero,ext_all (c:=flC x) (n:=18) rfl] at hr
   rw [ha,za,hr,za]
   refine wrong29 (h.ext l2.ext0) ((hf.sub x hmem).ext l2.ext0) (hf.few x hmem) (hf.ok x hmem) fun H3 e3=>?_
   have l3:=l2.ext e3
   rw [zf]
   refine ⟨fun hb=>?_,fun hb=>?_⟩
   · obtain ⟨b,o,ha',hcl,hrow⟩:=(hf.ext l3.ext0).row.el hei
     have h0:=hcl 0 (by omega)
     rw [Nat.add_zero] at h0
     rw [← ha .i64,ha' .i64,za,zi,za,Nat.add_zero,h0,show (flC x)[0]?=some (zm x.i) from rfl,za]
     obtain ⟨O,ho,st⟩:=l3.call (i:=0) rfl
     refine flt_add ho (by omega) fun H11 O11 ps' hne hle s11 h11=>?_
     have l11:=st H11 _ O11 s11 h11
     rw [zk,za,zK,zv (by omega)]
     refine ⟨⟨i+1,ps',by omega,rfl,by omega,?_,l11⟩,by simp only [zC]; omega⟩
     rw [← hst]
     exact ⟨fun e=>absurd e hne,fun e=>absurd hb e.2⟩
   · rw [zk,za,zK,zv (by omega)]
     refine ⟨⟨i+1,ps,by omega,rfl,by omega,?_,l3⟩,by simp only [zC]; omega⟩
     rw [← hst]
     exact ⟨fun e=>⟨e,hb⟩,fun e=>e.1⟩
 · have ei:i=fs.length:=by omega
   subst ei
   rw [List.take_length] at hps
   obtain ⟨s',hg,l15⟩:=l2.fltEnd (i:=0) rfl
   rw [zq hg]
   show Pu (some s') _
   rw [za]
   exact k H2 s' ps l2.ext0 (l15.outN (i:=0) rfl) hps
theorem twice29 (h:Lk H d dv B L I l) (hf:Fls H s fs) (hd:∀ y∈z8 fs,yP B L I y) (k:∀ H' s' ps,Ext H H'→New H H' (.sl 254 2 s' (ps.map (fC 6)))→(ps=[]↔∀ b:Nat,(b:Int)<B→ownC (z8 fs) b≤1)→R s' H'):Fc Tryz.prog 117 #[z6 d,s] H R:=by
 obtain ⟨gL1,gL2,gI1,gI2,gB1,gB2,gD⟩:=id h.ok
 refine fn117 ?_
 simp only [sh117,Ye,zt,za]
 refine (Lo.start _ H:Lx H H []).boxA fun p H1 e1 l1=>?_
 have l1:=l1.nilS 254 2
 refine owned29 (h.ext l1.ext0) (hf.ext l1.ext0) hd fun H2 sv e2 n2=>?_
 have l2:=l1.new e2 n2
 obtain ⟨Bn,eB⟩:∃ Bn:Nat,B=Bn:=⟨B.toNat,by omega⟩
 have eBt:B.toNat=Bn:=by omega
 rw [eBt] at l2
 simp only [zc,zi,Nat.zero_add,Nat.add_zero,Nat.reduceAdd,za]
 refine zx.mk (fun t H'=>∃ (i:Nat) (s':Value) (ps:List Int),i≤Bn∧t=(zm i,())∧ps.length≤i∧(ps=[]↔∀ b:Nat,b<i→ownC (z8 fs) b≤1)∧Lx H H' [.box p #[.int .u8 6,s'] 258,.sl 254 2 s' (ps.map (fC 6)),.sl 3 1 sv (cN (ownC (z8 fs)) Bn)])
   (fun t _=>mi t.1 fun i=>(Bn - i).toNat) ⟨0,.slice none 0 0,[],by omega,rfl,by simp,by simp,l2⟩ ?_
 rintro _ H3 ⟨i,s',ps,hi,rfl,hpl,hps,l3⟩
 have f1:(#[.int .u8 6,s']:Array Value)[1]?=some s':=rfl
 have hst:∀ b,b<i+1↔b<i∨b=i:=fun b=>by omega
 rw [(l3.sv (i:=2) rfl).lenE undIn,za,cN_len,zr,za,zf]
 refine ⟨fun hlt=>?_,fun hge=>?_⟩
 · have hg:=cN_get (c:=ownC (z8 fs)) (n:=Bn) (b:=i) (by omega)
   obtain ⟨b3,o3,ha3,hcl3,_⟩:=(l3.sv (i:=2) rfl).sr.el hg
   have hc0:=hcl3 0 (by omega)
   rw [Nat.add_zero] at hc0
   rw [ha3,za,hc0,show (nC (ownC (z8 fs) i))[0]?=some (zm (ownC (z8 fs) i)) from rfl,za,zL,za,zf]
   refine ⟨fun hgt=>?_,fun hle=>?_⟩
   · rw [l3.ld (i:=0) rfl,f1,za,buildFlt,za]
     refine l3.appO elFlt eFlt_f (i:=1) rfl (by rfl) (by omega) (by omega) rfl (fC_ok _ _) (by rw [List.length_map]; omega) fun v3 H4 l4=>?_
     have hone:=(l4.sv (i:=1) rfl).one
     refine l4.st (i:=0) (j:=1) (v:=v3) rfl (by simp) hone.2 hone.1 fun H5 l5=>?_
     rw [zk,za,zK,zv (by omega)]
     refine ⟨⟨i+1,v3,ps++[(i:Int)],by omega,rfl,by rw [List.length_append]; simp only [List.length_cons,List.length_nil]; omega,⟨fun e=>absurd (List.append_eq_nil_iff.1 e).2 (List.cons_ne_nil _ _),fun hh=>?_⟩,?_⟩,by simp only [zC]; omega⟩
     · have:=hh i (by omega); omega
     · rw [List.map_append]; exact l5
   · rw [zk,za,zK,zv (by omega)]
     refine ⟨⟨i+1,s',ps,by omega,rfl,by omega,⟨fun e b hb=>?_,fun hh=>hps.2 fun b hb=>hh b (by omega)⟩,l3⟩,by simp only [zC]; omega⟩
     rcases (hst b).1 hb with h1 | h1
     · exact hps.1 e b h1
     · rw [h1]; omega
 · have ei:i=Bn:=by omega
   subst ei
   rw [l3.ld (i:=0) rfl,f1,za]
   refine k H3 s' ps l3.ext0 (l3.outN (i:=1) rfl) ?_
   rw [hps,eB]
   exact ⟨fun hh b hb=>hh b (by omega),fun hh b hb=>hh b (by omega)⟩
end
section
variable {P:Program} {T:TypeId} {a b:Array Value} {lit:Bool} {H:Hp}
def fldE (P:Program) (d:Nat) (xs ys:Array Value) (f:Field):Option Bool:=if f.name = "_" then some true else (yK (ldK P f.type) xs f.offset).bind fun a=>(yK (ldK P f.type) ys f.offset).bind fun b=>eqT P d f.type a b
theorem eqE_struct {fs:Array Field} {l:List Field} (hu:P.underlying T=some (.struct fs)) (hl:fs.toList=l) (hg:P.eqGuardType P.depth T=false) (hs:P.stoodInHeld T=false):eqE P T lit (.agg a) (.agg b) H=YE (fldE P 9999 a b) l:=by
 unfold eqE eqD
 rw [hu]
 simp only [hg,Bool.false_eq_true,if_false]
 unfold eqT
 rw [hu]
 simp only [hs,Bool.false_eq_true,if_false,hl]
 rfl
theorem fldE_int {d:Nat} {f:Field} {k:IntKind} {x y:Int} (hn:f.name ≠ "_") (hu:P.underlying f.type=some (.int k)) (ha:a[f.offset]?=some (.int k x)) (hb:b[f.offset]?=some (.int k y)):fldE P (d+1) a b f=some (decide (x=y)):=by
 unfold fldE
 rw [if_neg hn]
 have hk:ldK P f.type=some none:=by unfold ldK; rw [hu]
 simp only [hk,yK,ha,hb,Option.bind_some]
 unfold eqT
 rw [hu]
 simp only [if_true,Option.some.injEq]
 rw [Bool.eq_iff_iff]; simp
theorem str_eq (s t:ByteArray):(s.toList == t.toList)=decide (s=t):=by
 rw [ByteArray.toList_eq,ByteArray.toList_eq,Bool.eq_iff_iff,beq_iff_eq,decide_eq_true_eq]
 constructor
 · intro h
   cases s; cases t
   simp only at h
   congr 1
   exact Array.toList_inj.1 h
 · intro h; rw [h]
theorem fldE_str {d:Nat} {f:Field} {x y:ByteArray} (hn:f.name ≠ "_") (hu:P.underlying f.type=some .string) (ha:a[f.offset]?=some (.string x)) (hb:b[f.offset]?=some (.string y)):fldE P (d+1) a b f=some (decide (x=y)):=by
 unfold fldE
 rw [if_neg hn]
 have hk:ldK P f.type=some none:=by unfold ldK; rw [hu]
 simp only [hk,yK,ha,hb,Option.bind_some]
 unfold eqT
 rw [hu]
 simp only [Option.some.injEq]
 exact str_eq x y
end
noncomputable def fsOf (T:TypeId):Array Field:=match Tryz.prog.underlying T with | some (.struct fs)=>fs | _=>#[]
noncomputable def YB (T:TypeId) (i:Nat):Field:=(fsOf T).toList.getD i default
theorem entU:Tryz.prog.underlying 61=some (.struct (fsOf 61)):=by kernel_rfl
theorem entL2:(fsOf 61).toList=[YB 61 0,YB 61 1]:=by kernel_rfl
theorem entN0:(YB 61 0).name = "Inum" := by kernel_rfl
theorem entN1:(YB 61 1).name = "Name" := by kernel_rfl
theorem entO0:(YB 61 0).offset=0:=by kernel_rfl
theorem entO1:(YB 61 1).offset=1:=by kernel_rfl
theorem entT0:Tryz.prog.underlying (YB 61 0).type=some (.int .u16):=by kernel_rfl
theorem entT1:Tryz.prog.underlying (YB 61 1).type=some .string:=by kernel_rfl
theorem entG:Tryz.prog.eqGuardType Tryz.prog.depth 61=false:=by kernel_rfl
theorem entS:Tryz.prog.stoodInHeld 61=false:=by kernel_rfl
theorem eqEnt {x y:Ent} {lit:Bool} {H:Hp}:eqE Tryz.prog 61 lit (.agg (ZP x)) (.agg (ZP y)) H=some (decide (x=y)):=by
 rw [eqE_struct entU entL2 entG entS]
 have h0:fldE Tryz.prog 9999 (ZP x) (ZP y) (YB 61 0)=some (decide ((x.1:Int)=y.1)):=fldE_int (d:=9998) (by rw [entN0]; decide) entT0 (by rw [entO0]; rfl) (by rw [entO0]; rfl)
 have h1:fldE Tryz.prog 9999 (ZP x) (ZP y) (YB 61 1)=some (decide (x.2=y.2)):=fldE_str (d:=9998) (by rw [entN1]; decide) entT1 (by rw [entO1]; rfl) (by rw [entO1]; rfl)
 obtain ⟨x1,x2⟩:=x
 obtain ⟨y1,y2⟩:=y
 simp only at h0 h1
 unfold YE
 rw [h0]
 by_cases e1:(x1:Int)=y1
 · rw [decide_eq_true e1]
   unfold YE
   rw [h1]
   have e1:x1=y1:=by omega
   by_cases e2:x2=y2
   · simp [e1,e2,YE]
   · simp [e1,e2]
 · have e1':x1≠y1:=fun e=>e1 (by omega)
   simp [e1,e1']
def sB (m:Nat):ByteArray:=strOfNums [(m:Int)]
theorem sB_size (m:Nat):(sB m).size=1:=rfl
def decS (c:Array Value):Nat→ByteArray
 | 0=>⟨#[]⟩
 | n+1=>decS c n++sB (byt c (2+n))
theorem decS_size (c:Array Value):∀ n,(decS c n).size=n
 | 0=>rfl
 | n+1=>by rw [decS,ByteArray.size_append,decS_size c n,sB_size]
def nulS (c:Array Value):Nat→Nat→Nat
 | 0,i=>i
 | f+1,i=>if byt c (2+i)=0 then i else nulS c f (i+1)
theorem nulS_eq {c:Array Value}:∀ (f i:Nat) {n:Nat},i≤n→(∀ j,i≤j→j<n→byt c (2+j)≠0)→(n=i+f∨(n<i+f∧byt c (2+n)=0))→nulS c f i=n
 | 0,i,n,h1,h2,h3=>by
   show i=n
   omega
 | f+1,i,n,h1,h2,h3=>by
   unfold nulS
   by_cases e:i=n
   · subst e
     rcases h3 with h | h
     · omega
     · rw [if_pos h.2]
   · rw [if_neg (h2 i (Nat.le_refl _) (by omega))]
     exact nulS_eq f (i+1) (by omega) (fun j h4 h5=>h2 j (by omega) h5) (by omega)
def decE (c:Array Value):Ent:=(byt c 0+256*byt c 1,decS c (nulS c 14 0))
def fineE (c:Array Value):Prop:=encR (decE c)=0∧encE (decE c)=c
noncomputable def slotE (c:Array Value):Ent:=if fineE c then decE c else (0,⟨#[]⟩)
theorem slotE_lt {c:Array Value} (h:IsN 16 c):(slotE c).1<65536:=by
 unfold slotE
 split
 · have h0:=h.lt 0
   have h1:=h.lt 1
   show byt c 0+256*byt c 1<_
   omega
 · exact (by decide:(0:Nat)<65536)
theorem und16:Tryz.prog.underlying 57=some (.array 16 5):=by kernel_rfl
noncomputable def inf8:TypeInfo:=(Tryz.prog.info? 5).getD default
theorem inf8_e:Tryz.prog.info? 5=some inf8:=by kernel_rfl
theorem inf8_s:inf8.size=1:=by kernel_rfl
theorem sl16 {b i:Nat} (hi:i<16):ZO Tryz.prog 57 (.pointer (some ⟨b,0,none⟩)) (some (zm i)) (some (zm ((i+1:Nat):Int))) none=some (.slice (some ⟨b,i,none⟩) 1 (16 - i)):=by
 unfold ZO
 rw [und16]
 have h1:(0:Int)≤((i+1:Nat):Int)∧((i+1:Nat):Int)≤((16:Nat):Int):=by omega
 have h2:(0:Int)≤(i:Int)∧(i:Int)≤((i+1:Nat):Int):=by omega
 simp only [Zf,hiE,Option.bind_some,Int.toNat_natCast,inf8_e,Option.map_some]
 rw [if_pos h1]
 simp only [Option.bind_some]
 rw [if_pos h2]
 simp only [Option.bind_some,Option.map_some,inf8_s,Nat.mul_one]
 rw [if_neg (by omega)]
 simp only [Addr.add_mk,Nat.zero_add]
 congr 2
 omega
theorem strOf1 {H:Hp} {b i m c':Nat} {c:Array Value} {T:TypeId} (hb:H[b]?=some (.cells c T)) (hi:c[i]?=some (.int .u8 m)):strOfE (.slice (some ⟨b,i,none⟩) 1 c') H=some (.string (sB m)):=by
 have hlt:i<c.size:=by
   rcases Nat.lt_or_ge i c.size with h | h
   · exact h
   · rw [Array.getElem?_eq_none h] at hi; cases hi
 have hr:rowH H ⟨b,i,none⟩ 1=some #[.int .u8 m]:=by
   unfold rowH
   simp only [hb]
   rw [if_pos ⟨trivial,by omega⟩]
   congr 1
   apply Array.ext_getElem?
   intro j
   rw [Array.getElem?_extract]
   by_cases hj:j=0
   · subst hj
     rw [if_pos (by omega),Nat.add_zero,hi]; rfl
   · rw [if_neg (by omega),Array.getElem?_eq_none (by simp; omega)]
 unfold strOfE
 simp only [hr,Option.bind_some]
 rfl
theorem str_add {s t:ByteArray} (h:s.size+t.size<1000000):zo (some .string) .add (.string s) (.string t)=some (.string (s++t)):=by
 show strE .add s t=_
 unfold strE
 have:IntKind.i64.max=9223372036854775807:=by decide
 simp only
 rw [if_neg (by omega)]
theorem str_cmp {s t:ByteArray}:zo (some .string) .eql (.string s) (.string t)=some (.bool (decide (s=t))):=by
 show some (Value.bool (s.toList == t.toList))=_
 rw [str_eq]
theorem str_ncmp {s t:ByteArray}:zo (some .string) .neq (.string s) (.string t)=some (.bool (decide (s≠t))):=by
 show some (Value.bool (!(s.toList == t.toList)))=_
 rw [str_eq]; congr 2; rw [Bool.eq_iff_iff]; simp
theorem row16:IntRow Tryz.prog 57 16 .u8:=⟨⟨5,by kernel_rfl,by kernel_rfl,by kernel_rfl,by kernel_rfl⟩,by kernel_rfl⟩
theorem eq16 {a b:Array Value} (ha:IsN 16 a) (hb:IsN 16 b) {lit:Bool} {H:Hp}:eqE Tryz.prog 57 lit (.agg a) (.agg b) H=some (decide (a=b)):=
 eqX_row row16 ha.size hb.size (fun i hi=>⟨_,ha.get hi⟩) (fun i hi=>⟨_,hb.get hi⟩)
theorem zeroEnt:zD Tryz.prog 61=some (.agg (ZP (0,⟨#[]⟩))):=by kernel_rfl
theorem buildEnt0:zu Tryz.prog 61 []=some (.agg (ZP (0,⟨#[]⟩))):=by kernel_rfl
theorem buildEnt1 (a:Int):zu Tryz.prog 61 [(0,.int .u16 a)]=some (.agg #[.int .u16 a,.string ⟨#[]⟩]):=by kernel_rfl
theorem entC_okk (e:Ent):zF (ZP e):=by unfold zF; rw [← Array.all_toList]; rfl
section
variable {H:Hp} {R:Value→Hp→Prop}
theorem dec18 {c:Array Value} (hc:IsN 16 c) (k:∀ H',Ext H H'→R (.tuple #[.agg (ZP (slotE c)),zm (if fineE c then 0 else 4)]) H'):Fc Tryz.prog 160 #[.agg c] H R:=by
 have hb0:=hc.lt 0
 have hb1:=hc.lt 1
 refine fn160 ?_
 simp only [sh160,zt,zeroEnt,za]
 refine (Lo.start _ H:Lx H H []).boxA fun b1 H1 _ l1=>?_
 refine l1.boxA fun b2 H2 _ l2=>?_
 rw [show (Value.int .i64 0)=zm ((0:Nat):Int) from rfl,show (Value.int .i64 1)=zm ((1:Nat):Int) from rfl]
 rw [zG (by omega),za,Nat.zero_add,Nat.zero_mul,l2.ld (i:=0) rfl,hc.get (by omega),za,zE,za,Zv (by omega) (by omega),zG (by omega),za,Nat.zero_add,Nat.mul_one,l2.ld (i:=0) rfl,hc.get (by omega),za,zE,za,Zv (by omega) (by omega),zX,za,Zv (by omega) (by omega),zk,za,Zv (by omega) (by omega),buildEnt1,za]
 refine l2.boxA fun b3 H3 _ l3=>?_
 have hnum:(byt c 0:Int)+256*(byt c 1:Int)=((byt c 0+256*byt c 1:Nat):Int):=by omega
 rw [hnum]
 refine l3.stAll (i:=2) (vs:=ZP (byt c 0+256*byt c 1,decS c 0)) rfl rfl rfl (entC_okk _) fun H4 l4=>?_
 refine zx.mk (fun t H'=>∃ i:Nat,i≤14∧t=(zm ((2+i:Nat):Int),())∧(∀ j,j<i→byt c (2+j)≠0)∧Lx H H' [.box b1 c 57,.box b2 (ZP (0,⟨#[]⟩)) 61,.box b3 (ZP (byt c 0+256*byt c 1,decS c i)) 61])
   (fun t _=>mi t.1 fun i=>(16 - i).toNat) ⟨0,by omega,rfl,fun j hj=>by omega,l4⟩ ?_
 rintro _ H5 ⟨i,hi,rfl,hno,l5⟩
 have e1:∀ {v:ByteArray},(ZP (byt c 0+256*byt c 1,v))[1]?=some (.string v):=rfl
 refine zS.mk (fun t H'=>H'=H5∧t.1=.bool (decide (i<14∧byt c (2+i)≠0))) ?_ ?_
 · rintro ⟨t,u⟩ H6 ⟨rfl,ht⟩
   simp only at ht
   subst ht
   simp only [zi,Nat.zero_add,za]
   rw [zf]
   refine ⟨fun hgo=>?_,fun hend=>?_⟩
   · rw [l5.ld (i:=2) rfl,e1,za,zk,za,addN (2+i) 1,zv (v:=2+i+1) (by omega),sl16 (by omega),za,strOf1 (l5.at (i:=0) rfl) (hc.get (by omega)),za,str_add (by rw [decS_size,sB_size]; omega),za]
     refine l5.st (i:=2) (j:=1) (v:=.string (decS c i++sB (byt c (2+i)))) rfl (by exact (by decide:1<2)) rfl rfl fun H7 l7=>?_
     rw [za]
     refine ⟨⟨i+1,by omega,rfl,fun j hj=>?_,l7⟩,by simp only [zC]; omega⟩
     by_cases e:j=i
     · rw [e]; exact hgo.2
     · exact hno j (by omega)
   · have hlen:nulS c 14 0=i:=nulS_eq 14 0 (by omega) (fun j _ hj=>hno j hj) (by
       by_cases e:i=14
       · omega
       · by_cases e2:byt c (2+i)=0
         · omega
         · exact absurd ⟨by omega,e2⟩ hend)
     have hdec:((byt c 0+256*byt c 1,decS c i):Ent)=decE c:=by unfold decE; rw [hlen]
     have hsz:(decE c).2.size≤14:=by rw [← hdec]; show (decS c i).size≤14; rw [decS_size]; exact hi
     have hlt:(decE c).1<65536:=by rw [← hdec]; show byt c 0+256*byt c 1<_; omega
     rw [hdec] at l5
     rw [l5.ldAll (i:=2) (n:=2) rfl rfl,za]
     refine enc18 hlt (by omega) fun H8 e8=>?_
     have l8:=l5.ext e8
     have hei:=YX (decE c)
     rw [show ze (.tuple #[.agg (encE (decE c)),zm (encR (decE c))]) 0=some (.agg (encE (decE c))) from rfl,za,show ze (.tuple #[.agg (encE (decE c)),zm (encR (decE c))]) 1=some (zm (encR (decE c))) from rfl,za,zero16,za]
     refine l8.boxA fun b4 H9 _ l9=>?_
     refine l9.stAll (i:=3) (vs:=encE (decE c)) rfl (yW 16) hei.size hei.ok fun H10 l10=>?_
     have l10:Lx H H10 [.box b1 c 57,.box b2 (ZP (0,⟨#[]⟩)) 61,.box b3 (ZP (decE c)) 61,.box b4 (encE (decE c)) 57]:=l10
     refine zS.mk (fun t H'=>H'=H10∧t.1=.bool (decide (¬ fineE c))) ?_ ?_
     · rintro ⟨t,u⟩ H11 ⟨rfl,ht⟩
       simp only at ht
       subst ht
       rw [zf]
       refine ⟨fun hb=>?_,fun hb=>?_⟩
       · rw [buildEnt0,za]
         refine l10.ret (i:=1) rfl rfl rfl (entC_okk _) fun H' l'=>?_
         have:=k H' l'.ext0
         unfold slotE at this
         rw [if_neg hb,if_neg hb] at this
         exact this
       · have hb:=Classical.not_not.1 hb
         rw [l10.ldAll (i:=2) (n:=2) rfl rfl,za]
         refine l10.ret (i:=1) rfl rfl rfl (entC_okk _) fun H' l'=>?_
         have:=k H' l'.ext0
         unfold slotE at this
         rw [if_pos hb,if_pos hb] at this
         exact this
     · rw [zw,za,zf]
       refine ⟨fun hne=>⟨rfl,yf fun e=>hne e.1⟩,fun he=>?_⟩
       have he:encR (decE c)=0:=Classical.not_not.1 he
       rw [l10.ldAll (i:=3) (n:=16) rfl hei.size,za,l10.ldAll (i:=0) (n:=16) rfl hc.size,za,Ym,eq16 hei hc,Option.map_some,za]
       refine ⟨rfl,?_⟩
       show Value.bool (!decide (encE (decE c)=c))=_
       congr 1
       rw [Bool.eq_iff_iff]
       simp [fineE,he]
 · rw [zr,za,zf]
   refine ⟨fun hlt=>?_,fun hge=>⟨rfl,YK fun e=>hge (by omega)⟩⟩
   rw [zG (by omega),za,Nat.zero_add,Nat.mul_one,l5.ld (i:=0) rfl,hc.get (by omega),za,zw,za]
   refine ⟨rfl,Yh ?_⟩
   omega
end
def cutE (c:Blk) (o:Nat):Array Value:=c.extract o (o+16)
theorem cutE_is {c:Blk} (h:IsB c) {o:Nat} (ho:o+16≤1024):IsN 16 (cutE c o):=by
 unfold cutE
 refine ⟨by rw [Array.size_extract,h.size]; omega,fun i hi=>?_⟩
 rw [Array.getElem?_extract,if_pos (by rw [h.size]; omega)]
 exact h.cell _ (by omega)
theorem byt_cutE {c:Blk} (h:IsB c) {o:Nat} (ho:o+16≤1024) {i:Nat} (hi:i<16):byt (cutE c o) i=byt c (o+i):=by
 unfold byt cutE
 rw [Array.getElem?_extract,if_pos (by rw [h.size]; omega)]
noncomputable def rawS (l:List (Int × Blk)) (x:Fl) (s:Nat):Array Value:=cutE (zN l (mapP x.sp ((s / 64:Nat):Int))) (16*(s % 64))
noncomputable def ZE (l:List (Int × Blk)) (x:Fl) (n:Nat):List Ent:=(List.range n).map fun s=>slotE (rawS l x s)
def YC (l:List (Int × Blk)) (x:Fl) (n:Nat):Prop:=∀ s,s<n→fineE (rawS l x s)
theorem rawS_is {l:List (Int × Blk)} (h:∀ x∈l,IsB x.2) (x:Fl) (s:Nat):IsN 16 (rawS l x s):=cutE_is (Zw h _) (by omega)
theorem yS (l:List (Int × Blk)) (x:Fl) (n:Nat):(ZE l x n).length=n:=by simp [ZE]
theorem slotsP_succ (l:List (Int × Blk)) (x:Fl) (n:Nat):ZE l x (n+1)=ZE l x n++[slotE (rawS l x n)]:=by unfold ZE; rw [List.range_succ,List.map_append]; rfl
theorem Yw (l:List (Int × Blk)) (x:Fl) {n i:Nat} (h:i<n):(ZE l x n)[i]?=some (slotE (rawS l x i)):=by unfold ZE; rw [List.getElem?_map,List.getElem?_range h]; rfl
noncomputable def eEn:ZT:=orE (zI Tryz.prog 38)
set_option maxRecDepth 100000 in
theorem elEn:zI Tryz.prog 38=some eEn:=by kernel_rfl
set_option maxRecDepth 100000 in
theorem eEn_f:eEn.type=61∧eEn.size=2∧eEn.zero.size=2∧eEn.bytes=24:=⟨by kernel_rfl,by kernel_rfl,by kernel_rfl,by kernel_rfl⟩
section
variable {H:Hp} {R:Value→Hp→Prop} {d:Nat} {dv:Value} {B L I:Int} {l:List (Int × Blk)} {s:Value} {fs:List Fl}
theorem slots29 (h:Lk H d dv B L I l) {x:Fl} (hsub:Sr 2 H x.v (x.sp.map spC)) (hfew:x.sp.length≤66100) (hok:InoOk x.f) (k:∀ H' s',Ext H H'→New H H' (.sl 61 2 s' ((ZE l x (x.f 2 / 16)).map ZP))→R (.tuple #[s',.bool (decide (YC l x (x.f 2 / 16)))]) H'):Fc Tryz.prog 126 #[z6 d,.agg (flC x)] H R:=by
 have h2:=hok 2 (by omega)
 simp only [fw,Nat.reduceLT,if_false,Nat.reducePow,Nat.lt_irrefl] at h2
 have f3:(flC x)[3]?=some (.int .u32 (x.f 2)):=rfl
 have f17:(flC x)[17]?=some x.v:=rfl
 refine fn126 ?_
 simp only [sh126,zt]
 refine (Lo.start _ H:Lx H H []).boxA fun b1 H1 _ l1=>?_
 have l1:=l1.nilS 61 2
 simp only [zi,Nat.zero_add,Nat.add_zero,Nat.reduceAdd,za,ya,zero16,zeroEnt]
 generalize hn:x.f 2 / 16=n at k
 refine zx.mk (fun t H'=>∃ (i:Nat) (v:Value),i≤n∧t=(.bool (decide (YC l x i)),v,zm i,())∧Lx H H' [.box b1 (flC x) 177,.sl 61 2 v ((ZE l x i).map ZP)])
   (fun t _=>mi t.2.2.1 fun i=>(n - i).toNat) ⟨0,.slice none 0 0,by omega,by rw [decide_eq_true (show YC l x 0 from fun s hs=>by omega)]; rfl,l1⟩ ?_
 rintro _ H2 ⟨i,v,hi,rfl,l2⟩
 rw [l2.ld (i:=0) rfl,f3,za,zE,za,zv (by omega),Zh (by decide),za,Zl (by omega),zg (by omega) (by omega),zr,za,zf]
 refine ⟨fun hlt=>?_,fun hge=>?_⟩
 · rw [l2.ld (i:=0) rfl,f17,za,zX,za,zg (by omega) (by omega),Zh (by decide),za,Zl (by omega),zg (by omega) (by omega),show ((i:Int)*16 / 1024)=((i / 64:Nat):Int) by omega]
   refine mapped29 (hsub.ext l2.ext0) (by omega) ?_
   refine lk_at (h.ext l2.ext0) fun H3 e3=>?_
   have hraw:=rawS_is h.is x i
   have hby:∀ j,j<16→byt (rawS l x i) j=byt (zN l (mapP x.sp ((i / 64:Nat):Int))) (16*(i % 64)+j):=fun j hj=>byt_cutE (Zw h.is _) (by omega) hj
   have hbl:=Zw h.is (mapP x.sp ((i / 64:Nat):Int))
   have hsl:=slotE_lt hraw
   have hfs:YC l x (i+1)↔YC l x i∧fineE (rawS l x i):=⟨fun hh=>⟨fun s hs=>hh s (by omega),hh i (by omega)⟩,fun hh s hs=>by
     by_cases e:s=i
     · rw [e]; exact hh.2
     · exact hh.1 s (by omega)⟩
   have hsc:=slotsP_succ l x i
   generalize zN l (mapP x.sp ((i / 64:Nat):Int))=c at hbl hby
   generalize rawS l x i=r at hraw hby hsl hfs hsc
   refine (l2.ext e3).boxA fun b2 H4 _ l4=>?_
   refine l4.stAll (i:=2) rfl zJ hbl.size hbl.ok fun H5 l5=>?_
   refine l5.boxA fun b3 H6 _ l6=>?_
   refine zx.mk (fun t H'=>∃ (j:Nat) (y:Array Value),j≤16∧t=(zm j,())∧IsN 16 y∧(∀ z,z<j→byt y z=byt r z)∧Lx H H' [.box b1 (flC x) 177,.sl 61 2 v ((ZE l x i).map ZP),.box b2 c 94,.box b3 y 57])
     (fun t _=>mi t.1 fun j=>(16 - j).toNat) ⟨0,zR 16,by omega,rfl,yi 16,fun z hz=>by omega,l6⟩ ?_
   rintro _ H7 ⟨j,y,hj,rfl,hy,hyz,l7⟩
   rw [zr,za,zf]
   refine ⟨fun hlt2=>?_,fun hge2=>?_⟩
   · rw [za,zW (by decide),za,Za (by omega),zk,za,zg (by omega) (by omega),show (((i:Int)*16) % 1024+(j:Int))=((16*(i % 64)+j:Nat):Int) by omega,zG (by omega),za,Nat.zero_add,Nat.mul_one,l7.ld (i:=2) rfl,hbl.get (by omega),za,zG (by omega),za,Nat.zero_add,Nat.mul_one]
     refine l7.st (i:=3) (j:=j) (v:=.int .u8 (byt c (16*(i % 64)+j))) rfl (by rw [hy.size]; omega) rfl rfl fun H8 l8=>?_
     rw [zk,za,zK,zv (by omega)]
     refine ⟨⟨j+1,_,by omega,rfl,hy.set j (hbl.lt _),fun z hz=>?_,l8⟩,by simp only [zC]; omega⟩
     rw [hy.byt_set (by omega)]
     by_cases e:j=z
     · subst e
       rw [if_pos rfl]; exact (hby j (by omega)).symm
     · rw [if_neg e]; exact hyz z (by omega)
   · have ej:j=16:=by omega
     subst ej
     have e:y=r:=hy.ext hraw fun z hz=>hyz z hz
     subst e
     rw [l7.ldAll (i:=3) (n:=16) rfl hy.size,za]
     refine dec18 hy fun H9 e9=>?_
     rw [show ze (.tuple #[.agg (ZP (slotE y)),zm (if fineE y then 0 else 4)]) 0=some (.agg (ZP (slotE y))) from rfl,za,show ze (.tuple #[.agg (ZP (slotE y)),zm (if fineE y then 0 else 4)]) 1=some (zm (if fineE y then 0 else 4)) from rfl,za]
     refine (l7.ext e9).boxA fun b4 H10 _ l10=>?_
     refine l10.stAll (i:=4) (vs:=ZP (slotE y)) rfl rfl rfl (entC_okk _) fun H11 l11=>?_
     have l11:Lx H H11 [.box b1 (flC x) 177,.sl 61 2 v ((ZE l x i).map ZP),.box b2 c 94,.box b3 y 57,.box b4 (ZP (slotE y)) 61]:=l11
     refine zS.mk (fun t H'=>H'=H11∧t.1=.bool (decide (YC l x (i+1)))) ?_ ?_
     · rintro ⟨t,u⟩ H12 ⟨rfl,ht⟩
       simp only at ht
       subst ht
       rw [l11.ldAll (i:=4) (n:=2) rfl rfl,za]
       refine l11.appO elEn eEn_f (i:=1) rfl (by rfl) (by omega) (by omega) rfl (entC_okk _) (by rw [List.length_map,yS]; omega) fun s' H13 l13=>?_
       have l13:=l13.takeN 2
       rw [zk,za,zK,zv (by omega)]
       refine ⟨⟨i+1,s',by omega,rfl,?_⟩,by simp only [zC]; omega⟩
       rw [hsc,List.map_append]
       exact l13
     · rw [zf]
       refine ⟨fun hf=>?_,fun hf=>⟨rfl,YK fun e=>hf (hfs.1 e).1⟩⟩
       rw [zy,za]
       refine ⟨rfl,Yh ?_⟩
       rw [hfs]
       constructor
       · intro h0
         refine ⟨hf,?_⟩
         by_cases e:fineE y
         · exact e
         · rw [if_neg e] at h0; omega
       · intro h0; rw [if_pos h0.2]
 · have ei:i=n:=by omega
   subst ei
   exact k H2 v l2.ext0 (l2.outN (i:=1) rfl)
def usedP (fs:List Fl) (a:Int):Prop:=∃ x∈fs,(x.i:Int)=a
theorem used29 (hf:Fls H s fs) {a:Int} (k:R (.bool (decide (usedP fs a))) H):Fc Tryz.prog 164 #[s,zm a] H R:=by
 have hfl:=hf.len
 refine fn164 ?_
 simp only [sh164,zt]
 refine zx.mk (fun t H'=>H'=H∧∃ i:Nat,i≤fs.length∧t=(zm i,())∧∀ x∈fs.take i,(x.i:Int)≠a) (fun t _=>mi t.1 fun i=>(fs.length - i).toNat) ⟨rfl,0,by omega,rfl,by simp⟩ ?_
 rintro _ H3 ⟨rfl,i,hi,rfl,hno⟩
 rw [hf.row.lenE yz,za,List.length_map,zr,za,zf]
 refine ⟨fun hlt=>?_,fun hge=>?_⟩
 · have hil:i<fs.length:=by omega
   have hei:(fs.map flC)[i]?=some (flC fs[i]):=by rw [List.getElem?_map,List.getElem?_eq_getElem hil]; rfl
   have htk:fs.take (i+1)=fs.take i++[fs[i]]:=List.take_succ_eq_append_getElem hil
   have hmem:fs[i]∈fs:=List.getElem_mem hil
   generalize fs[i]=x at hei htk hmem
   obtain ⟨b,o,ha,hcl,_⟩:=hf.row.el hei
   have h0:=hcl 0 (by omega)
   rw [Nat.add_zero] at h0
   rw [ha,za,zi,za,Nat.add_zero,h0,show (flC x)[0]?=some (zm x.i) from rfl,za,zy,za,zf]
   refine ⟨fun he=>?_,fun hne=>?_⟩
   · have e:decide (usedP fs a)=true:=decide_eq_true ⟨x,hmem,he⟩
     rw [e] at k; exact k
   · rw [zk,za,zK,zv (by omega)]
     refine ⟨⟨rfl,i+1,by omega,rfl,fun y hy=>?_⟩,by simp only [zC]; omega⟩
     rw [htk] at hy
     rcases List.mem_append.1 hy with h1 | h1
     · exact hno y h1
     · rw [List.mem_singleton.1 h1]; exact hne
 · have ei:i=fs.length:=by omega
   subst ei
   rw [List.take_length] at hno
   have e:decide (usedP fs a)=false:=decide_eq_false fun ⟨x,hx,he⟩=>hno x hx he
   rw [e] at k; exact k
end
end Go.Vc
