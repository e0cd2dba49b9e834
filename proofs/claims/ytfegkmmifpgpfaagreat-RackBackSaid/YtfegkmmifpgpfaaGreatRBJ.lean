/- Parts of a proof, joined in build order: a calculus of contracts, contracts of functions. -/
import Derived.Test.YtfegkmmifpgpfaaGreatRBI
import Derived.Test.YtfegkmmifpgpfaaGreatRBG
set_option linter.unusedVariables false
set_option linter.unusedSimpArgs false
namespace Go.Vc
open Go.Proofs Classical
theorem nodeU:Tryz.prog.underlying 54=some (.struct (fsOf 54)):=by kernel_rfl
theorem nodeL7:(fsOf 54).toList=(List.range 7).map (ZX 54):=by kernel_rfl
theorem nodeG:Tryz.prog.eqGuardType Tryz.prog.depth 54=false:=by kernel_rfl
theorem nodeS:Tryz.prog.stoodInHeld 54=false:=by kernel_rfl
theorem nodeN:((List.range 7).map fun i=>(ZX 54 i).name != "_")=List.replicate 7 true:=by kernel_rfl
theorem nodeO:((List.range 7).map fun i=>(ZX 54 i).offset)=[0,1,2,3,4,14,15]:=by kernel_rfl
theorem nodeK4:ldK Tryz.prog (ZX 54 4).type=some (some 10):=by kernel_rfl
theorem nodeR4:IntRow Tryz.prog (ZX 54 4).type 10 .u32:=⟨⟨51,by kernel_rfl,by kernel_rfl,by kernel_rfl,by kernel_rfl⟩,by kernel_rfl⟩
theorem nodeT0:Tryz.prog.underlying (ZX 54 0).type=some (.int .u16):=by kernel_rfl
theorem nodeT1:Tryz.prog.underlying (ZX 54 1).type=some (.int .u16):=by kernel_rfl
theorem nodeT2:Tryz.prog.underlying (ZX 54 2).type=some (.int .u32):=by kernel_rfl
theorem nodeT3:Tryz.prog.underlying (ZX 54 3).type=some (.int .u32):=by kernel_rfl
theorem nodeT5:Tryz.prog.underlying (ZX 54 5).type=some (.int .u32):=by kernel_rfl
theorem nodeT6:Tryz.prog.underlying (ZX 54 6).type=some (.int .u32):=by kernel_rfl
theorem nodeAll {f:Ino}:Yx (fldE Tryz.prog 9999 (zS f) (zS f)) ((List.range 7).map (ZX 54))=some true:=by
 have hn:∀ i,i<7→(ZX 54 i).name ≠ "_" := fun i hi=>by
   have:=congrArg (fun l=>l[i]?) nodeN
   simp only [List.getElem?_map,List.getElem?_range hi,List.getElem?_replicate,hi,if_true,Option.map_some,Option.some.injEq,bne_iff_ne] at this
   exact this
 have ho:∀ i o,i<7→[0,1,2,3,4,14,15][i]?=some o→(ZX 54 i).offset=o:=fun i o hi he=>by
   have:=congrArg (fun l=>l[i]?) nodeO
   simp only [List.getElem?_map,List.getElem?_range hi,Option.map_some] at this
   rw [he] at this
   injection this
 refine (eqAll_dec (g:=fun _=>True) fun a ha=>?_).trans (congrArg some (decide_eq_true fun _ _=>trivial))
 obtain ⟨i,hi,rfl⟩:=List.mem_map.1 ha
 have hi:i<7:=List.mem_range.1 hi
 have h1:=hn i hi
 have hc:i=0∨i=1∨i=2∨i=3∨i=4∨i=5∨i=6:=by omega
 rcases hc with rfl | rfl | rfl | rfl | rfl | rfl | rfl
 · rw [Yp (d:=9998) (k:=.u16) (x:=f 0) (y:=f 0) h1 nodeT0 (by rw [ho 0 0 hi rfl]; rfl) (by rw [ho 0 0 hi rfl]; rfl)]; simp
 · rw [Yp (d:=9998) (k:=.u16) (x:=f 1) (y:=f 1) h1 nodeT1 (by rw [ho 1 1 hi rfl]; rfl) (by rw [ho 1 1 hi rfl]; rfl)]; simp
 · rw [Yp (d:=9998) (k:=.u32) (x:=f 2) (y:=f 2) h1 nodeT2 (by rw [ho 2 2 hi rfl]; rfl) (by rw [ho 2 2 hi rfl]; rfl)]; simp
 · rw [Yp (d:=9998) (k:=.u32) (x:=f 3) (y:=f 3) h1 nodeT3 (by rw [ho 3 3 hi rfl]; rfl) (by rw [ho 3 3 hi rfl]; rfl)]; simp
 · have hx:∀ j,j<10→∃ z,((zS f).extract 4 (4+10))[j]?=some (.int .u32 z):=fun j hj=>by
     rw [Array.getElem?_extract,if_pos (by rw [zz]; omega),Zg f (4+j) (by omega) (by omega)]
     exact ⟨_,rfl⟩
   rw [fldE_row (d:=9997) (x:=(zS f).extract 4 (4+10)) (y:=(zS f).extract 4 (4+10)) h1 nodeR4 nodeK4 (by rw [ho 4 4 hi rfl]) (by rw [ho 4 4 hi rfl]) (by simp [zz]) (by simp [zz]) hx hx]; simp
 · rw [Yp (d:=9998) (k:=.u32) (x:=f 14) (y:=f 14) h1 nodeT5 (by rw [ho 5 14 hi rfl]; rfl) (by rw [ho 5 14 hi rfl]; rfl)]; simp
 · rw [Yp (d:=9998) (k:=.u32) (x:=f 15) (y:=f 15) h1 nodeT6 (by rw [ho 6 15 hi rfl]; rfl) (by rw [ho 6 15 hi rfl]; rfl)]; simp
theorem eqNodeT {f:Ino} {lit:Bool} {H:Hp}:eqE Tryz.prog 54 lit (.agg (zS f)) (.agg (zS f)) H=some true:=(eqE_struct nodeU nodeL7 nodeG nodeS).trans nodeAll
theorem eqNode {f:Ino} {lit:Bool} {H:Hp}:yg Tryz.prog 54 lit .neq (.agg (zS f)) (.agg (zS f)) H=some (.bool false):=by
 rw [yq,eqNodeT]; rfl
noncomputable def eNode:ZO:=orE (zK Tryz.prog 30)
set_option maxRecDepth 100000 in
theorem elNode:zK Tryz.prog 30=some eNode:=by kernel_rfl
set_option maxRecDepth 100000 in
theorem eNode_f:eNode.type=54∧eNode.size=16∧eNode.zero.size=16∧eNode.bytes=60:=⟨by kernel_rfl,by kernel_rfl,by kernel_rfl,by kernel_rfl⟩
theorem undNodes:Tryz.prog.underlying 30=some (.slice 54):=by kernel_rfl
def ndL (f:Nat→Ino):Nat→List Ino
 | 0=>[]
 | n+1=>ndL f n++[f (n+1)]
theorem yL (f:Nat→Ino):∀ n,(ndL f n).length=n
 | 0=>rfl
 | n+1=>by unfold ndL; rw [List.length_append,yL f n]; rfl
theorem ndL_get (f:Nat→Ino):∀ n i,i<n→(ndL f n)[i]?=some (f (i+1))
 | 0,i,h=>by omega
 | n+1,i,h=>by
   unfold ndL
   by_cases e:i<n
   · rw [List.getElem?_append_left (by rw [yL]; exact e)]; exact ndL_get f n i e
   · have e:i=n:=by omega
     rw [List.getElem?_append_right (by rw [yL]; omega),yL,e,Nat.sub_self]; rfl
section
variable {H:Hp} {R:Value→Hp→Prop} {lb p:Nat} {mine:Int} {O:Nat→Prop} {B L I:Int}
set_option maxHeartbeats 1000000 in
set_option maxRecDepth 100000 in
theorem nodes_ok {P:PSt} (h:(ZE lb p (zp B L I) mine P).at_ H O) (hok:POk (zp B L I) mine P) (hg:Zo B L I) (hslack:P.s.reads+70000<4611686018427387904)
   (k:∀ H' s' cs' v,Lo O H H' [ZE lb p (zp B L I) mine { P with s:=s',cs:=cs' },.sl 54 16 v ((ndL (ndP P L) I.toNat).map zS)]→Rd (zp B L I) P s' cs' 65536→R (.tuple #[v,.bool true]) H'):Fc Tryz.prog 8 #[zW lb,zm I] H R:=by
 obtain ⟨gL1,gL2,gI1,gI2,gB1,gB2,gD⟩:=id hg
 have y3:∀ {a b:Value},zf (.tuple #[a,b]) 0=some a:=rfl
 have y4:∀ {a b:Value},zf (.tuple #[a,b]) 1=some b:=rfl
 refine fn8 ?_
 simp only [sh8,yi,za,zu]
 refine zy.mk (fun t H'=>∃ (n:Nat) (s':DS) (cs':List Pl) (v:Value),(n:Int)≤I∧t=(v,zm ((n:Int)+1),())∧Rd (zp B L I) P s' cs' n∧Lo O H H' [ZE lb p (zp B L I) mine { P with s:=s',cs:=cs' },.sl 54 16 v ((ndL (ndP P L) n).map zS)])
   (fun t _=>mi t.2.1 fun i=>(70000 - i).toNat) ⟨0,P.s,P.cs,.slice none 0 0,by omega,rfl,Rd.refl hok,(Lo.own h).nilS 54 16⟩ ?_
 rintro _ H1 ⟨n,s',cs',v,hn,rfl,hrd,l1⟩
 rw [yX,za,ze]
 refine ⟨fun hle=>?_,fun hgt=>?_⟩
 · have hok':=hrd.ok hok (by omega)
   obtain ⟨O1,h1,st1⟩:=l1.call (i:=0) rfl
   rw [show (n:Int)+1=((n+1:Nat):Int) by omega]
   refine pl_rack h1 hok' hg (i:=n+1) (by omega) (by omega) fun H2 O2 s2 cs2 s2' h2 hrd2=>?_
   have l2:Lo O H H2 [ZE lb p (zp B L I) mine { P with s:=s2,cs:=cs2 },.sl 54 16 v ((ndL (ndP P L) n).map zS)]:=st1 H2 _ O2 s2' h2
   have hrd3:=hrd.trans hrd2 (k:=((n+1:Nat):Int)) (by omega)
   have ev:Zq (Zi ({ P with s:=s',cs:=cs' }:PSt).s ({ P with s:=s',cs:=cs' }:PSt).cs (1+L+(((n+1) / 16:Nat):Int))) (64*((n+1) % 16))=ndP P L (n+1):=nd_view hrd (n+1)
   rw [ev,y3,za,y4,za]
   refine l2.boxA fun b H3 _ l3=>?_
   refine l3.stAll (i:=2) rfl (zz _) (zz _) (ZM _) fun H4 l4=>?_
   have l4:Lo O H H4 [ZE lb p (zp B L I) mine { P with s:=s2,cs:=cs2 },.sl 54 16 v ((ndL (ndP P L) n).map zS),.box b (zS (ndP P L (n+1))) 54]:=l4
   rw [zx,za,decide_eq_false (by omega),zl,l4.ldAll (i:=2) (n:=16) rfl (zz _),za]
   refine l4.appO elNode eNode_f (i:=1) (c:=zS (ndP P L (n+1))) rfl rfl (by omega) (by omega) (zz _) (ZM _) (by rw [List.length_map,yL]; omega) fun v' H5 l5=>?_
   rw [zk,za,zJ,zw (by omega)]
   have e:(ndL (ndP P L) (n+1)).map zS=(ndL (ndP P L) n).map zS++[zS (ndP P L (n+1))]:=by show (ndL (ndP P L) n++[ndP P L (n+1)]).map zS=_; rw [List.map_append]; rfl
   have l6:Lo O H H5 [ZE lb p (zp B L I) mine { P with s:=s2,cs:=cs2 },.sl 54 16 v' ((ndL (ndP P L) (n+1)).map zS)]:=by rw [e]; exact l5.takeN 2
   exact ⟨⟨n+1,s2,cs2,v',by omega,by rw [show ((n+1:Nat):Int)+1=((n+1+1:Nat):Int) by omega]; rfl,hrd3,l6⟩,by simp only [zC]; exact ms_lt (by omega)⟩
 · have en:n=I.toNat:=by omega
   subst en
   exact k H1 s' cs' v l1 (hrd.mono (by omega))
theorem same_ok {v w:Value} {xs ys:List (Array Value)} {but:Nat} (hx:Sr 16 H v xs) (hy:Sr 16 H w ys) (hl:xs.length=ys.length) (hlen:xs.length<1000000) (he:∀ i c,i+1≠but→xs[i]?=some c→ys[i]?=some c∧∃ f,c=zS f) (k:R (.bool true) H):Fc Tryz.prog 16 #[v,w,zm but] H R:=by
 refine fn16 ?_
 simp only [sh16,zu]
 rw [hx.lenE undNodes,za,hy.lenE undNodes,za,hl,zx,za,decide_eq_false (by omega),zl]
 refine zy.mk (fun t H'=>H'=H∧∃ i:Nat,i≤ys.length∧t=(zm i,())) (fun t _=>mi t.1 fun i=>(ys.length - i).toNat) ⟨rfl,0,by omega,rfl⟩ ?_
 rintro _ H1 ⟨rfl,i,hi,rfl⟩
 rw [za,zt,za,ze]
 refine ⟨fun hlt=>?_,fun hge=>k⟩
 refine zT.mk (fun t H'=>H'=H1∧t.1=.bool false) ?_ ?_
 · rintro ⟨t,u⟩ H2 ⟨rfl,ht⟩
   simp only at ht
   subst ht
   rw [zl,zk,za,zJ,zw (by omega)]
   exact ⟨⟨rfl,i+1,by omega,rfl⟩,by simp only [zC]; exact ms_lt (by omega)⟩
 · rw [zk,za,zJ,zw (by omega),zx,za,ze]
   refine ⟨fun hne=>?_,fun _=>⟨rfl,rfl⟩⟩
   have hil:i<xs.length:=by omega
   have hxi:xs[i]?=some xs[i]:=List.getElem?_eq_getElem hil
   obtain ⟨hyi,f,hf⟩:=he i _ (by omega) hxi
   obtain ⟨b,o,ha,hr⟩:=hx.row hxi
   obtain ⟨b2,o2,ha2,hr2⟩:=hy.row hyi
   rw [ha,za,hr,za,ha2,za,hr2,za,hf,eqNode,za]
   exact ⟨rfl,rfl⟩
theorem undInts:Tryz.prog.underlying 29=some (.slice 3):=by kernel_rfl
theorem sameInts {v w:Value} {l:List Int} (hx:Sr 1 H v (l.map nI)) (hy:Sr 1 H w (l.map nI)) (hlen:l.length<1000000) (k:R (.bool true) H):Fc Tryz.prog 19 #[v,w] H R:=by
 refine fn19 ?_
 simp only [sh19,zu]
 rw [hx.lenE undInts,za,hy.lenE undInts,za,List.length_map,zx,za,decide_eq_false (by omega),zl]
 refine zy.mk (fun t H'=>H'=H∧∃ i:Nat,i≤l.length∧t=(zm i,())) (fun t _=>mi t.1 fun i=>(l.length - i).toNat) ⟨rfl,0,by omega,rfl⟩ ?_
 rintro _ H1 ⟨rfl,i,hi,rfl⟩
 rw [za,zt,za,ze]
 refine ⟨fun hlt=>?_,fun hge=>k⟩
 have hxi:(l.map nI)[i]?=some (nI l[i]):=by rw [List.getElem?_map,List.getElem?_eq_getElem (by omega)]; rfl
 obtain ⟨b,o,ha,hr⟩:=hx.cell (j:=0) hxi (by omega)
 obtain ⟨b2,o2,ha2,hr2⟩:=hy.cell (j:=0) hxi (by omega)
 rw [Nat.add_zero] at hr hr2
 have n0:(nI l[i])[0]?=some (zm l[i]):=rfl
 rw [ha,za,hr,n0,za,ha2,za,hr2,n0,za,zx,za,decide_eq_false (by omega),zl,zk,za,zJ,zw (by omega)]
 exact ⟨⟨rfl,i+1,by omega,rfl⟩,by simp only [zC]; exact ms_lt (by omega)⟩
end
section
variable {H:Hp} {R:Value→Hp→Prop} {lb p:Nat} {mine:Int} {O:Nat→Prop} {x:Lay}
theorem pl_readD {P:PSt} (h:(ZE lb p x mine P).at_ H O) (hok:POk x mine P) {a:Int} (h0:0≤a) (h1:a<x.B) (hlog:1≤a∧a<1+x.L)
   (k:∀ H' O' s',Stp O O' H H'→(ZE lb p x mine { P with s:=s' }).at_ H' O'→Rd x P s' P.cs 1→IsB (P.s.now a)→R (.tuple #[.agg (P.s.now a),.int .i64 0]) H'):Fc Tryz.prog 18 #[zW lb,.int .i64 a] H R:=by
 obtain ⟨hx1,hx2,hx3,hx4⟩:=hok.lay
 obtain ⟨cb,mb,ov,wv,ha⟩:=h
 have hn:=hok.n
 have er:P.s.read a=({ P.s with reads:=P.s.reads+1 },P.s.now a,0):=by
   unfold DS.read; rw [if_neg (by rw [hok.alive]; decide),if_neg (by omega)]
 have hsm:=DS.read_same P.s a
 rw [er] at hsm
 refine fn18 ?_
 simp only [sh18,ZL,za,zu]
 refine (Lo.open ha).boxA fun b1 H1 e1 l1=>?_
 obtain ⟨ht,Od,Oc,hd,hc,hdis⟩:=pl_pcs (r:=[_]) l1
 obtain ⟨q2,q3,q4,q5,q7,q13⟩:=log_get (os:=ov) (mb:=mb) (p:=p) (cb:=cb) (x:=x) (mine:=mine) (op:=P.open_) (room:=P.room) (wr:=wv) (co:=P.commits) (st:=P.steps)
 refine check_top ht hd hok.mine ?_
 rw [hok.alive]
 simp only [Bool.false_eq_true,if_false]
 rw [zx,za,decide_eq_false (by omega),zl]
 refine zT.mk (fun t H'=>H'=H1∧t.1=.bool false) ?_ ?_
 · rintro ⟨t,u⟩ H2 ⟨rfl,ht'⟩
   simp only at ht'
   subst ht'
   rw [zl]
   refine logs_top ht (by omega) ?_
   rw [decide_eq_true (by omega),z8]
   simp only [zc,zg,Nat.zero_add,Nat.add_zero,za]
   rw [zo ht,q2,za]
   obtain ⟨O1,⟨⟨Od1,Oc1,d1,d2,d3,d4,d5⟩,dO⟩,st1⟩:=l1.call (i:=0) (x:=cdOb p cb (x.L+32) P.s P.cs) rfl
   refine disk_read d1 hok.reads fun H3 k3 hd3=>?_
   have hib:=d1.now_is a
   rw [er] at hd3 ⊢
   have l3:=st1 H3 (cdOb p cb (x.L+32) { P.s with reads:=P.s.reads+1 } P.cs) O1 ⟨k3.kp.mono fun b _ hb=>d4 b hb,fun b hb=>.inl hb⟩ ⟨⟨Od1,Oc1,hd3,d2.of (fun b hb=>k3.kp.same b (dO b (d5 b hb)) fun e=>d3 b e hb) k3.kp.le,d3,d4,d5⟩,fun b hb=>Nat.lt_of_lt_of_le (dO b hb) k3.kp.le⟩
   have l3:Lo O H H3 (plAll lb p cb mb ov wv x mine { P with s:={ P.s with reads:=P.s.reads+1 } }++[.box b1 zB 65]):=l3
   simp only []
   rw [show zf (.tuple #[.agg (P.s.now a),.int .i64 0]) 0=some (.agg (P.s.now a)) from rfl,za,show zf (.tuple #[.agg (P.s.now a),.int .i64 0]) 1=some (.int .i64 0) from rfl,za]
   refine l3.ret (i:=5) (K:=fun y H4=>R (.tuple #[y,.int .i64 0]) H4) rfl zF hib.size hib.ok fun H' l'=>?_
   obtain ⟨O',stt,ha'⟩:=Lo.close (l:=plAll lb p cb mb ov wv x mine { P with s:={ P.s with reads:=P.s.reads+1 } }) (r:=[_]) l'
   refine k H' O' _ stt ⟨cb,mb,ov,wv,ha'⟩ (.mk1 hsm ⟨hok.vw.nd,hok.vw.slow⟩ (fun b=>rfl) rfl (fun b y e _=>e) hok.clen) hib
 · rw [zt,za,decide_eq_false (by omega),zl]
   simp only [zc,zg,Nat.zero_add,Nat.add_zero,za]
   rw [zo ht,q4,za,zU,za,decide_eq_false (by omega)]
   exact ⟨trivial,rfl⟩
end
theorem undRlg:Tryz.prog.underlying 40=some (.pointer 128):=by kernel_rfl
theorem undChgs:Tryz.prog.underlying 126=some (.slice 161):=by kernel_rfl
noncomputable def RDk.ours (D:RDk) (m:Int):Bool:=decide (D.dead=false∧0<m∧m=D.owner)
noncomputable def docChk (D:RDk) (G:RLg):Int:=if G.made then (if D.ours G.mine then 0 else 3) else 1
noncomputable def yz (D:RDk) (G:RLg) (a:Int):Blk:=match G.group.find? fun y=>decide (y.1=a) with
 | some y=>y.2
 | none=>D.at_ a
noncomputable def Yg (x:Lay) (D:RDk) (G:RLg) (a:Int):RDk × Blk × Int:=
 if docChk D G≠0 then (D,zB,docChk D G) else if a<0∨x.B≤a then (D,zB,2) else
   match G.group.find? fun y=>decide (y.1=a) with
   | some y=>(D,y.2,0)
   | none=>((D.read a).1,(D.read a).2.1,0)
structure DOk (D:RDk) (G:RLg):Prop where
 disk:RDkOk D
 is:∀ y∈G.group,IsB y.2
 len:G.group.length≤1048576
section
variable {G:RLg} {r:Nat} {x:Lay} {gv tv:Value}
theorem rlg0:(rlgC r x G gv tv)[0]?=some (zW r):=rfl
theorem rlg1:(rlgC r x G gv tv)[1]?=some (zm x.B):=rfl
theorem rlg10:(rlgC r x G gv tv)[10]?=some (zm G.mine):=rfl
theorem rlg11:(rlgC r x G gv tv)[11]?=some (.bool G.made):=rfl
theorem rlg12:(rlgC r x G gv tv)[12]?=some gv:=rfl
end
section
variable {H:Hp} {R:Value→Hp→Prop} {w r:Nat} {D:RDk} {G:RLg} {x:Lay} {O:Nat→Prop}
theorem claimed04 (h:(ym r D).at_ H O) {m:Int} (k:R (.bool (D.ours m)) H):Fc Tryz.prog 115 #[zW r,zm m] H R:=by
 obtain ⟨hv,wv,ov,ht⟩:=rdk_top h
 refine fn115 ?_
 simp only [sh115]
 rw [show yg Tryz.prog 39 true .neq (zW r) (.pointer none) H=some (.bool true) from neX_ptr undRdk,za,z8]
 simp only [zc,zg,Nat.zero_add,Nat.add_zero,za]
 rw [zo ht,rdk5,za,zM,za]
 unfold RDk.ours at k
 cases hd:D.dead with
 | true=>
   rw [Bool.not_true,zl]
   rw [decide_eq_false (fun e=>by rw [hd] at e; cases e.1)] at k; exact k
 | false=>
   rw [Bool.not_false,z8,zN,za,ze]
   refine ⟨fun h0=>?_,fun h0=>?_⟩
   · rw [zo ht,rdk10,za,zA,za]
     rw [dec_dec (q:=m=D.owner) ⟨fun e=>e.2.2,fun e=>⟨hd,h0,e⟩⟩] at k; exact k
   · rw [decide_eq_false (fun e=>h0 e.2.1)] at k; exact k
theorem doc_check (h:(docOb w r D x G).at_ H O) (k:R (zm (docChk D G)) H):Fc Tryz.prog 67 #[zW w] H R:=by
 obtain ⟨gv,tv,ha⟩:=h
 have l0:Lo O H H [ym r D,.box w (rlgC r x G gv tv) 128,.sl 161 1025 gv (G.group.map zO),.sl 3 1 tv (G.wrote.map nI)]:=Lo.open ha
 refine fn67 ?_
 simp only [sh67,zu]
 simp only [zc,zg,Nat.zero_add,Nat.add_zero,za]
 refine zT.mk (fun t H'=>H'=H∧t.1=.bool (!G.made)) ?_ ?_
 · rintro ⟨t,u⟩ H1 ⟨rfl,ht⟩
   simp only at ht
   subst ht
   unfold docChk at k
   cases hm:G.made with
   | false=>
     rw [Bool.not_false,z8]
     rw [hm] at k; exact k
   | true=>
     rw [Bool.not_true,zl,l0.ld (i:=1) rfl,rlg0,za,l0.ld (i:=1) rfl,rlg10,za]
     obtain ⟨O1,h1,_⟩:=l0.call (i:=0) rfl
     refine claimed04 h1 ?_
     rw [hm] at k
     simp only [if_true] at k
     rw [zM,za]
     cases ho:D.ours G.mine with
     | true=>rw [Bool.not_true,zl]; rw [ho] at k; exact k
     | false=>rw [Bool.not_false,z8]; rw [ho] at k; exact k
 · rw [show yg Tryz.prog 40 true .eql (zW w) (.pointer none) H=some (.bool false) from yO undRlg,za,zl,l0.ld (i:=1) rfl,rlg11,za,zM,za]
   exact ⟨rfl,rfl⟩
set_option maxHeartbeats 1000000 in
theorem doc_read (h:(docOb w r D x G).at_ H O) (hok:DOk D G) {a:Int} (k:∀ H' O',Stp O O' H H'→(docOb w r (Yg x D G a).1 x G).at_ H' O'→R (.tuple #[.agg (Yg x D G a).2.1,zm (Yg x D G a).2.2]) H'):Fc Tryz.prog 35 #[zW w,zm a] H R:=by
 obtain ⟨gv,tv,ha⟩:=h
 have l0:Lo O H H [ym r D,.box w (rlgC r x G gv tv) 128,.sl 161 1025 gv (G.group.map zO),.sl 3 1 tv (G.wrote.map nI)]:=Lo.open ha
 have hlen:=hok.len
 refine fn35 ?_
 simp only [sh35,ZL,Yj,za,zu]
 refine l0.boxA fun b H1 e1 l1=>?_
 have l1:Lo O H H1 [ym r D,.box w (rlgC r x G gv tv) 128,.sl 161 1025 gv (G.group.map zO),.sl 3 1 tv (G.wrote.map nI),.box b zB 65]:=l1
 have out:∀ {H':Hp} {D':RDk} {c:Blk},Lo O H H' [ym r D',.box w (rlgC r x G gv tv) 128,.sl 161 1025 gv (G.group.map zO),.sl 3 1 tv (G.wrote.map nI),.box b c 65]→∃ O',Stp O O' H H'∧(docOb w r D' x G).at_ H' O':=fun l'=>by
   obtain ⟨O',st,ha⟩:=Lo.close (l:=[_,_,_,_]) (r:=[_]) l'
   exact ⟨O',st,⟨_,_,ha⟩⟩
 obtain ⟨O1,st1,h1⟩:=out l1
 refine doc_check h1 ?_
 simp only [zc,zg,Nat.zero_add,Nat.add_zero,za]
 rw [zx,za,ze]
 refine ⟨fun hne=>?_,fun heq=>?_⟩
 · have e:Yg x D G a=(D,zB,docChk D G):=by unfold Yg; rw [if_pos hne]
   rw [e] at k
   refine l1.ret (i:=4) (K:=fun y H4=>R (.tuple #[y,zm (docChk D G)]) H4) rfl zF zF Zl.ok fun H' l'=>?_
   obtain ⟨O',st,h'⟩:=out (D':=D) l'
   exact k H' O' st h'
 · have heq:docChk D G=0:=Classical.not_not.1 heq
   refine zT.mk (fun t H'=>H'=H1∧t.1=.bool (decide (a<0∨x.B≤a))) ?_ ?_
   rotate_left
   · rw [zt,za,ze]
     refine ⟨fun h0=>⟨rfl,Z5 (.inl h0)⟩,fun h0=>?_⟩
     rw [l1.ld (i:=1) rfl,rlg1,za,zU,za]
     exact ⟨rfl,y9 ⟨fun e=>.inr e,fun e=>e.resolve_left h0⟩⟩
   rintro ⟨t,u⟩ H2 ⟨rfl,ht⟩
   simp only at ht
   subst ht
   rw [ze]
   refine ⟨fun hb=>?_,fun hb=>?_⟩
   · have e:Yg x D G a=(D,zB,2):=by unfold Yg; rw [if_neg (by rw [heq]; simp),if_pos hb]
     rw [e] at k
     refine l1.ret (i:=4) (K:=fun y H4=>R (.tuple #[y,zm 2]) H4) rfl zF zF Zl.ok fun H' l'=>?_
     obtain ⟨O',st,h'⟩:=out (D':=D) l'
     exact k H' O' st h'
   have e0:Yg x D G a=match G.group.find? fun y=>decide (y.1=a) with
     | some y=>(D,y.2,0)
     | none=>((D.read a).1,(D.read a).2.1,0):=by unfold Yg; rw [if_neg (by rw [heq]; simp),if_neg hb]
   refine zy.mk (fun t H'=>H'=H2∧∃ i:Nat,i≤G.group.length∧t=(zm i,())∧∀ y∈G.group.take i,y.1≠a) (fun t _=>mi t.1 fun i=>(G.group.length - i).toNat) ⟨rfl,0,by omega,rfl,by simp⟩ ?_
   rintro _ H3 ⟨rfl,i,hi,rfl,hno⟩
   have h3:=(l1.sv (i:=2) rfl).sr
   rw [l1.ld (i:=1) rfl,rlg12,za,h3.lenE undChgs,za,List.length_map,zt,za,ze]
   refine ⟨fun hlt=>?_,fun hge=>?_⟩
   · have hil:i<G.group.length:=by omega
     have hei:(G.group.map zO)[i]?=some (zO G.group[i]):=by rw [List.getElem?_map,List.getElem?_eq_getElem hil]; rfl
     have hem:G.group[i]∈G.group:=List.getElem_mem hil
     have hdr:G.group.drop i=G.group[i] :: G.group.drop (i+1):=List.drop_eq_getElem_cons hil
     have htk:G.group.take (i+1)=G.group.take i++[G.group[i]]:=List.take_succ_eq_append_getElem hil
     generalize G.group[i]=y at hei hem hdr htk
     obtain ⟨b4,o,ha4,hcl,hrow⟩:=h3.el hei
     rw [za,ha4,za,zg,za,hcl 0 (by omega),Ye,za,zA,za,ze]
     refine ⟨fun he=>?_,fun hne=>?_⟩
     · have hyb:=hok.is y hem
       rw [za,ha4,za,zg,za,hrow 1 1024 (by omega),za,YY hyb]
       have ef:(G.group.find? fun y=>decide (y.1=a))=some y:=by
         rw [show G.group=G.group.take i++G.group.drop i from (List.take_append_drop i _).symm,List.find?_append,List.find?_eq_none.2 (fun z hz=>by simpa using hno z hz),hdr,List.find?_cons_of_pos (by simpa using he)]
         rfl
       rw [ef] at e0
       rw [e0] at k
       refine l1.ret (i:=4) (K:=fun y H4=>R (.tuple #[y,zm 0]) H4) rfl zF hyb.size hyb.ok fun H' l'=>?_
       obtain ⟨O',st,h'⟩:=out (D':=D) l'
       exact k H' O' st h'
     · rw [zk,za,zJ,zw (by omega)]
       refine ⟨⟨rfl,i+1,by omega,rfl,fun z hz=>?_⟩,by simp only [zC]; omega⟩
       rw [htk] at hz
       rcases List.mem_append.1 hz with e2 | e2
       · exact hno z e2
       · rw [List.mem_singleton.1 e2]; exact hne
   · have ei:i=G.group.length:=by omega
     subst ei
     rw [List.take_length] at hno
     have ef:(G.group.find? fun y=>decide (y.1=a))=none:=List.find?_eq_none.2 fun z hz=>by simpa using hno z hz
     rw [ef] at e0
     rw [e0] at k
     rw [l1.ld (i:=1) rfl,rlg0,za]
     obtain ⟨O5,h5,st5⟩:=l1.call (i:=0) rfl
     refine read04 h5 hok.disk fun H6 O6 s6 h6=>?_
     have hib:IsB (D.read a).2.1:=by
       unfold RDk.read
       split
       · exact Zl
       · split
         · exact Zl
         · exact RDk.at_is hok.disk a
     have l6:=st5 H6 _ O6 s6 h6
     have l6:Lo O H H6 [ym r (D.read a).1,.box w (rlgC r x G gv tv) 128,.sl 161 1025 gv (G.group.map zO),.sl 3 1 tv (G.wrote.map nI),.box b zB 65]:=l6
     generalize D.read a=q at hib l6 k
     rw [show zf (.tuple #[.agg q.2.1,zm q.2.2]) 0=some (.agg q.2.1) from rfl,za,show zf (.tuple #[.agg q.2.1,zm q.2.2]) 1=some (zm q.2.2) from rfl,za]
     refine l6.boxA fun b7 H7 _ l7=>?_
     refine l7.stAll (i:=5) rfl zF hib.size hib.ok fun H8 l8=>?_
     rw [l8.ldAll (i:=5) (n:=1024) rfl hib.size,za]
     refine l8.ret (i:=4) (K:=fun y H4=>R (.tuple #[y,zm 0]) H4) rfl zF hib.size hib.ok fun H' l'=>?_
     obtain ⟨O',st,h'⟩:=out (D':=q.1) (l'.takeN 5)
     exact k H' O' st h'
end
section
variable {S:Nat→Prop} {H0 H H':Hp} {l r:List Ob}
theorem Lo.join (h:Lo S H0 H l) (m:Lx H H' r):Lo S H0 H' (l++r):=by
 have hp:Lx H H' [.all r]:=Lo.pack (l:=[]) m
 exact Lo.unpack (h.new m.ext0 (hp.outN (i:=0) rfl))
end
noncomputable def pl0 (B:Int) (l:List (Int × Blk)):PSt:=⟨dsOf B l,[],[],false,0,none,0,0⟩
section
variable {B L I:Int} {l:List (Int × Blk)}
theorem pl0_ok (hg:Zo B L I):POk (zp B L I) 1 (pl0 B l):=by
 obtain ⟨gL1,gL2,gI1,gI2,gB1,gB2,gD⟩:=id hg
 refine ⟨rfl,⟨by omega,rfl⟩,⟨List.nodup_nil,fun y hy=>(by cases hy)⟩,Int.le_refl B,⟨by show (1:Int)<_; omega,by show (0:Int)≤1; omega⟩,⟨rfl,gL1,gL2,gB2⟩,?_,?_,?_,fun a ha=>(by cases ha)⟩
 · show Zy []≤((0:Nat):Int)
   rw [fastP_nil]; omega
 · show ((0:Nat):Int)≤L - 1; omega
 · show ((0:Nat):Int)≤L+32; omega
theorem pl0_view {n b:Int} (h:okL n b l) (a:Int):Zi (pl0 B l).s (pl0 B l).cs a=zX l a:=heldL_img h a
structure LawSt (B L I:Int) (g:Nat→Ino) (n:Int) (P:PSt):Prop where
 ok:POk (zp B L I) 1 P
 nd:∀ i j,j<16→ndP P L i j=g i j
 made:P.s.made=0
 reads:P.s.reads≤n
theorem LawSt.rd {g:Nat→Ino} {n m:Int} {P:PSt} {s':DS} {cs':List Pl} (h:LawSt B L I g n P) (hr:Rd (zp B L I) P s' cs' m) (hm:n+m<4611686018427387904):LawSt B L I g (n+m) { P with s:=s',cs:=cs' }:=by
 have h1:=h.reads
 have h2:=hr.reads
 exact ⟨hr.ok h.ok (by omega),fun i j hj=>by rw [nd_view hr i]; exact h.nd i j hj,hr.made.trans h.made,by show s'.reads≤_; omega⟩
theorem LawSt.mono {g:Nat→Ino} {n m:Int} {P:PSt} (h:LawSt B L I g n P) (hm:n≤m):LawSt B L I g m P:={ h with reads:=by have:=h.reads; omega }
def updI (g:Nat→Ino) (i:Nat) (f:Ino):Nat→Ino:=fun k=>if k=i then f else g k
theorem LawSt.wt {g:Nat→Ino} {n m:Int} {P P':PSt} {i:Nat} {f:Ino} (hg:Zo B L I) (hi:1≤i∧(i:Int)≤I) (h:LawSt B L I g n P) (hf:InoOk f) (hib:∀ a,IsB (Zi P.s P.cs a)) (hw:Wt (zp B L I) 1 P P' (1+L+((i / 16:Nat):Int)) (z6 (Zi P.s P.cs (1+L+((i / 16:Nat):Int))) (64*(i % 16)) (encN f)) m):LawSt B L I (updI g i f) (n+m) P':=by
 have h1:=h.reads
 have h2:=hw.reads
 refine ⟨hw.ok,fun k j hj=>?_,hw.made.trans h.made,by omega⟩
 unfold ndP updI
 rw [hw.view]
 by_cases e:k=i
 · subst e
   rw [if_pos rfl,if_pos rfl]
   exact inoOf_splice (hib _).n (by omega) hf hj
 · rw [if_neg e]
   have hk:=h.nd k j hj
   unfold ndP at hk
   by_cases e2:k / 16=i / 16
   · rw [if_pos (by omega),← e2,inoOf_other (hib _).n (ZT f) (by omega) (by omega) hj]
     exact hk
   · rw [if_neg (by omega)]; exact hk
theorem LawSt.ndL {g:Nat→Ino} {n:Int} {P:PSt} (h:LawSt B L I g n P):∀ k,(ndL (ndP P L) k).map zS=(ndL g k).map zS
 | 0=>rfl
 | k+1=>by
   show (Go.Vc.ndL (ndP P L) k++[ndP P L (k+1)]).map zS=(Go.Vc.ndL g k++[g (k+1)]).map zS
   rw [List.map_append,List.map_append,h.ndL k]
   congr 1
   show [zS _]=[zS _]
   rw [yb (h.nd (k+1))]
theorem LawSt.frN {g:Nat→Ino} {n:Int} {P:PSt} (h:LawSt B L I g n P):∀ k,frN (ndP P L) k=frN g k
 | 0=>rfl
 | k+1=>by
   show Go.Vc.frN (ndP P L) k+_=Go.Vc.frN g k+_
   rw [h.frN k,h.nd (k+1) 0 (by omega)]
theorem LawSt.orN {g:Nat→Ino} {n:Int} {P:PSt} (h:LawSt B L I g n P):∀ k,orN (ndP P L) k=orN g k
 | 0=>rfl
 | k+1=>by
   show Go.Vc.orN (ndP P L) k++_=Go.Vc.orN g k++_
   rw [h.orN k,h.nd (k+1) 0 (by omega),h.nd (k+1) 1 (by omega)]
end
theorem pr1 {p lb r w:Nat}:(prC p lb r w)[1]?=some (zW lb):=rfl
theorem pr3 {p lb r w:Nat}:(prC p lb r w)[3]?=some (zW w):=rfl
section
variable {H:Hp} {R:Value→Hp→Prop} {lb p:Nat} {mine:Int} {O:Nat→Prop} {B L I:Int} {x:Lay}
theorem pl_isB {P:PSt} (h:(ZE lb p x mine P).at_ H O) (a:Int):IsB (Zi P.s P.cs a):=by
 obtain ⟨cb,mb,ov,wv,ha⟩:=h
 obtain ⟨_,Od,Oc,hd,hc,_⟩:=pl_pcs (r:=[]) (Lo.open ha)
 unfold Zi
 split
 · rename_i z hz
   exact hc.isB (List.mem_of_find?_eq_some hz)
 · exact hd.now_is a
theorem lives11 {P:PSt} {pp r w:Nat} (ht:H[pp]?=some (.cells (prC p lb r w) 42)) (h:(ZE lb p (zp B L I) mine P).at_ H O) (hok:POk (zp B L I) mine P) (hg:Zo B L I) (hroot:ndP P L 1 0=2)
   (k:∀ H' O' s' cs',Stp O O' H H'→(ZE lb p (zp B L I) mine { P with s:=s',cs:=cs' }).at_ H' O'→Rd (zp B L I) P s' cs' 1→R (.bool true) H'):Fc Tryz.prog 7 #[zW pp] H R:=by
 obtain ⟨gL1,gL2,gI1,gI2,gB1,gB2,gD⟩:=id hg
 have y3:∀ {a b:Value},zf (.tuple #[a,b]) 0=some a:=rfl
 have y4:∀ {a b:Value},zf (.tuple #[a,b]) 1=some b:=rfl
 have i0:(zS (ndP P L 1))[0]?=some (.int .u16 (ndP P L 1 0)):=rfl
 refine fn7 ?_
 simp only [sh7,zc,zg,Nat.zero_add,Nat.add_zero,za,yi]
 rw [zo ht,pr1,za]
 refine pl_rack h hok hg (i:=1) (by omega) (by omega) fun H1 O1 s' cs' s1 h1 hrd=>?_
 rw [y3,za,y4,za]
 refine (Lo.own h1).boxA fun b H2 _ l2=>?_
 refine l2.stAll (i:=1) rfl (zz _) (zz _) (ZM _) fun H3 l3=>?_
 have l3:Lo O1 H1 H3 [ZE lb p (zp B L I) mine { P with s:=s',cs:=cs' },.box b (zS (ndP P L 1)) 54]:=l3
 rw [zA,za,decide_eq_true rfl,z8,zg,za,Nat.zero_add,l3.ld (i:=1) rfl,i0,za,hroot,zA,za]
 obtain ⟨O',st,h'⟩:=Lo.close1 l3
 exact k H3 O' s' cs' (s1.trans st) h' hrd
end
theorem nodes_same {g g':Nat→Ino} {n but:Nat} (h:∀ i,i+1≠but→i<n→zS (g (i+1))=zS (g' (i+1))):∀ i c,i+1≠but→((ndL g n).map zS)[i]?=some c→((ndL g' n).map zS)[i]?=some c∧∃ f,c=zS f:=by
 intro i c hi hc
 have hil:i<n:=by
   rcases Nat.lt_or_ge i n with h1 | h1
   · exact h1
   · rw [List.getElem?_eq_none (by rw [List.length_map,yL]; exact h1)] at hc; cases hc
 rw [List.getElem?_map,ndL_get g n i hil] at hc
 injection hc with hc
 rw [List.getElem?_map,ndL_get g' n i hil,← hc,h i hi hil]
 exact ⟨rfl,_,rfl⟩
theorem docRead_in {x:Lay} {D:RDk} {G:RLg} (hc:docChk D G=0) {a:Int} (h0:0≤a) (h1:a<x.B) (hn:x.B≤D.n):∃ c:Int,0≤c∧c≤1∧Yg x D G a=({ D with seen:=D.seen+c },yz D G a,0):=by
 have hd:D.dead=false:=by
   unfold docChk RDk.ours at hc
   split at hc
   · split at hc
     · rename_i h; exact (of_decide_eq_true h).1
     · omega
   · omega
 unfold Yg yz
 rw [if_neg (by rw [hc]; simp),if_neg (by omega)]
 split
 · exact ⟨0,by omega,by omega,by rw [Int.add_zero]⟩
 · exact ⟨1,by omega,by omega,by rw [RDk.read_alive hd h0 (by omega)]⟩
noncomputable def rngB (V:Int→Blk) (n:Nat):List Blk:=(List.range n).map fun i:Nat=>V (i:Int)
theorem rngB_succ (V:Int→Blk) (n:Nat):rngB V (n+1)=rngB V n++[V (n:Int)]:=by unfold rngB; rw [List.range_succ,List.map_append]; rfl
theorem rngB_len (V:Int→Blk) (n:Nat):(rngB V n).length=n:=by simp [rngB]
theorem rngB_get (V:Int→Blk) {n i:Nat} (h:i<n):(rngB V n)[i]?=some (V (i:Int)):=by unfold rngB; rw [List.getElem?_map,List.getElem?_range h]; rfl
theorem docChk_new {B:Int} {l:List (Int × Blk)}:docChk (rdOf B l) (RLg.new 1)=0:=by
 simp [docChk,RDk.ours,RLg.new,rdOf,RDk.claim,RDk.load]
section
variable {H:Hp} {R:Value→Hp→Prop} {w r:Nat} {D:RDk} {G:RLg} {x:Lay} {O:Nat→Prop}
set_option maxRecDepth 100000 in
theorem steady_ok (h:(docOb w r D x G).at_ H O) (hok:DOk D G) (hc:docChk D G=0) (hn:x.B≤D.n) {n:Nat} (hx:(n:Int)≤x.B) (hs:n≤1048576) (hseen:D.seen<4611686018426000000)
   (k:∀ H' D' v,Lo O H H' [docOb w r D' x G,.sl 65 1024 v (rngB (yz D G) n)]→R v H'):Fc Tryz.prog 9 #[zW w,zm n] H R:=by
 have y3:∀ {a b:Value},zf (.tuple #[a,b]) 0=some a:=rfl
 have y4:∀ {a b:Value},zf (.tuple #[a,b]) 1=some b:=rfl
 refine fn9 ?_
 simp only [sh9,ZL,za,zu]
 refine zy.mk (fun t H'=>∃ (i:Nat) (c:Int) (v:Value),i≤n∧0≤c∧c≤i∧t=(v,zm i,())∧Lo O H H' [docOb w r { D with seen:=D.seen+c } x G,.sl 65 1024 v (rngB (yz D G) i)])
   (fun t _=>mi t.2.1 fun i=>(n - i).toNat) ⟨0,0,.slice none 0 0,by omega,by omega,by omega,rfl,by rw [Int.add_zero]; exact (Lo.own h).nilS 65 1024⟩ ?_
 rintro _ H1 ⟨i,c,v,hi,c0,c1,rfl,l1⟩
 rw [zt,za,ze]
 refine ⟨fun hlt=>?_,fun hge=>?_⟩
 · obtain ⟨O1,h1,st1⟩:=l1.call (i:=0) rfl
   have hok1:DOk { D with seen:=D.seen+c } G:=⟨{ hok.disk with seen:=by have:=hok.disk.seen; exact ⟨by show 0≤D.seen+c; omega,by show D.seen+c<_; omega⟩ },hok.is,hok.len⟩
   refine doc_read h1 hok1 fun H2 O2 s2 h2=>?_
   obtain ⟨c',d0,d1,e⟩:=docRead_in (x:=x) (D:={ D with seen:=D.seen+c }) (G:=G) hc (a:=i) (by omega) (by omega) hn
   have hvb:IsB (yz D G i):=by
     unfold yz
     split
     · rename_i y hy; exact hok.is y (List.mem_of_find?_eq_some hy)
     · exact RDk.at_is hok.disk _
   rw [e] at h2 ⊢
   have l2:=st1 H2 _ O2 s2 h2
   rw [y3,za,y4,za]
   have ev:yz { D with seen:=D.seen+c } G i=yz D G i:=rfl
   rw [ev]
   generalize hq:yz D G i=q at hvb
   refine l2.boxA fun b H3 _ l3=>?_
   refine l3.stAll (i:=2) rfl zF hvb.size hvb.ok fun H4 l4=>?_
   have l4:Lo O H H4 [docOb w r { D with seen:=D.seen+c+c' } x G,.sl 65 1024 v (rngB (yz D G) i),.box b q 65]:=l4
   rw [l4.ldAll (i:=2) (n:=1024) rfl hvb.size,za]
   refine l4.appO elBk eBk_f (i:=1) (c:=q) rfl rfl (by omega) (by omega) hvb.size hvb.ok (by rw [rngB_len]; omega) fun v' H5 l5=>?_
   rw [zk,za,zJ,zw (by omega)]
   have l6:Lo O H H5 [docOb w r { D with seen:=D.seen+(c+c') } x G,.sl 65 1024 v' (rngB (yz D G) (i+1))]:=by
     rw [rngB_succ,← Int.add_assoc]
     show Lo O H H5 [_,.sl _ 1024 v' (_++[yz D G i])]
     rw [hq]
     exact l5.takeN 2
   exact ⟨⟨i+1,c+c',v',by omega,by omega,by omega,rfl,l6⟩,by simp only [zC]; exact ms_lt (by omega)⟩
 · have ei:i=n:=by omega
   subst ei
   exact k H1 _ v l1
end
structure BkSt (B L I:Int) (V:Int→Blk) (g:Nat→Ino) (n:Int) (P:PSt):Prop where
 law:LawSt B L I g n P
 view:∀ b,(b<1+L∨1+L+(I+16) / 16≤b)→Zi P.s P.cs b=V b
section
variable {B L I:Int} {V:Int→Blk} {g:Nat→Ino} {n m:Int} {P P':PSt}
theorem BkSt.rd {s':DS} {cs':List Pl} (h:BkSt B L I V g n P) (hr:Rd (zp B L I) P s' cs' m) (hm:n+m<4611686018427387904):BkSt B L I V g (n+m) { P with s:=s',cs:=cs' }:=⟨h.law.rd hr hm,fun b hb=>(hr.view b).trans (h.view b hb)⟩
theorem BkSt.mono (h:BkSt B L I V g n P) (hm:n≤m):BkSt B L I V g m P:=⟨h.law.mono hm,h.view⟩
theorem LawSt.same (h:LawSt B L I g n P) (hs:P'.s=P.s) (hc:P'.cs=P.cs) (ho:P'.order=P.order):LawSt B L I g n P':=by
 have ok:=h.ok
 refine ⟨⟨by rw [hs]; exact ok.alive,by rw [hs]; exact ok.mine,by rw [hs,hc]; exact ok.vw,by rw [hs]; exact ok.n,by rw [hs]; exact ok.reads,ok.lay,by rw [hc,ho]; exact ok.fast,by rw [ho]; exact ok.few,by rw [hc]; exact ok.clen,by rw [hc,ho]; exact ok.held⟩,fun i j hj=>?_,by rw [hs]; exact h.made,by rw [hs]; exact h.reads⟩
 unfold ndP
 rw [hs,hc]
 exact h.nd i j hj
theorem BkSt.same (h:BkSt B L I V g n P) (hs:P'.s=P.s) (hc:P'.cs=P.cs) (ho:P'.order=P.order):BkSt B L I V g n P':=⟨h.law.same hs hc ho,fun b hb=>by rw [hs,hc]; exact h.view b hb⟩
theorem BkSt.wt {i:Nat} {f:Ino} (hg:Zo B L I) (hi:1≤i∧(i:Int)≤I) (h:BkSt B L I V g n P) (hf:InoOk f) (hib:∀ a,IsB (Zi P.s P.cs a)) (hw:Wt (zp B L I) 1 P P' (1+L+((i / 16:Nat):Int)) (z6 (Zi P.s P.cs (1+L+((i / 16:Nat):Int))) (64*(i % 16)) (encN f)) m):BkSt B L I V (updI g i f) (n+m) P':=by
 refine ⟨h.law.wt hg hi hf hib hw,fun b hb=>?_⟩
 rw [hw.view,if_neg (by omega)]
 exact h.view b hb
end
theorem updI_ndL {g:Nat→Ino} {k:Nat} {f:Ino}:∀ n,k<n→(ndL (updI g (k+1) f) n).map zS=((ndL g n).map zS).set k (zS f):=by
 intro n hk
 apply List.ext_getElem?
 intro i
 rw [List.getElem?_set]
 by_cases hi:i<n
 · rw [List.getElem?_map,ndL_get _ n i hi]
   by_cases e:k=i
   · subst e
     rw [if_pos rfl,if_pos (by rw [List.length_map,yL]; exact hi)]
     unfold updI; rw [if_pos rfl]; rfl
   · rw [if_neg e,List.getElem?_map,ndL_get _ n i hi]
     unfold updI; rw [if_neg (by omega)]
 · rw [List.getElem?_eq_none (by rw [List.length_map,yL]; omega)]
   split
   · rw [if_neg (by rw [List.length_map,yL]; omega)]
   · rw [List.getElem?_eq_none (by rw [List.length_map,yL]; omega)]
section
variable {H:Hp} {R:Value→Hp→Prop}
set_option maxHeartbeats 4000000 in
set_option maxRecDepth 100000 in
theorem law_back {B L I:Int} (hB : -9223372036854775808≤B∧B≤9223372036854775807) {iv:Value} {its:List Itm} (hst:StAt H iv its) (hits:∀ t∈its,Z7 t) (hlen:its.length<281474976710656) {fr sp seed:Int} (hseed : -9223372036854775808≤seed∧seed≤9223372036854775807) (hiv:∃ b n c,iv=.slice b n c)
   {av fv:Value} {ats:List Int} {fs:List Ino} (ha:Sr 1 H av (ats.map nI)) (hf:Sr 16 H fv (fs.map zS)) (hats:∀ a∈ats,-9223372036854775808≤a∧a≤9223372036854775807) (hfs:∀ f∈fs,InoOk f) (hla:ats.length<281474976710656) (hlf:fs.length<281474976710656)
   (k:∀ H',Ext H H'→R (.bool true) H'):Fc Tryz.prog 3 #[.agg (Yy B L I iv fr sp seed),av,fv] H R:=by
 have x3:∀ {a b c:Value},zf (.tuple #[a,b,c]) 0=some a:=rfl
 have x4:∀ {a b c:Value},zf (.tuple #[a,b,c]) 1=some b:=rfl
 have x5:∀ {a b c:Value},zf (.tuple #[a,b,c]) 2=some c:=rfl
 have y3:∀ {a b:Value},zf (.tuple #[a,b]) 0=some a:=rfl
 have y4:∀ {a b:Value},zf (.tuple #[a,b]) 1=some b:=rfl
 have w0:(Yy B L I iv fr sp seed)[0]?=some (zm B):=rfl
 have w2:(Yy B L I iv fr sp seed)[2]?=some (zm I):=rfl
 refine fn3 ?_
 simp only [sh3,zu]
 refine (Lo.start _ H:Lx H H []).boxA fun b1 H2 _ l2=>?_
 have l2:Lx H H2 [.box b1 (Yy B L I iv fr sp seed) 28]:=l2
 rw [l2.ldAll (i:=0) (n:=7) rfl rfl,za]
 refine begin_kit hB (hst.ext l2.ext0) hits hlen hseed hiv (fun H3 e3=>?_) fun H3 pp p lb r w m0 fl m hmay hm hfull l3=>?_
 · rw [x3,za,x4,za,x5,za,zM,za,Bool.not_false,z8]
   exact k H3 (l2.ext e3).ext0
 rw [x3,za,x4,za,x5,za,zM,za,Bool.not_true,zl]
 have hg:=hmay.ok
 have hsm:=hmay.small
 obtain ⟨gL1,gL2,gI1,gI2,gB1,gB2,gD⟩:=id hg
 have hDA:(zp B L I).dataAt=1+L+(I+16) / 16+(B+8191) / 8192:=rfl
 have hBB:(zp B L I).B=B:=rfl
 have hLL:(zp B L I).L=L:=rfl
 have hroot:=may_root hmay hm hfull hits (seed % 1000003).toNat
 have hmf:okL B (-1) (Yv 0 (Zz m (zL m its (pg0 m)) (seed % 1000003).toNat))∧(∀ x∈Yv 0 (Zz m (zL m its (pg0 m)) (seed % 1000003).toNat),IsB x.2)∧(Yv 0 (Zz m (zL m its (pg0 m)) (seed % 1000003).toNat)).length≤1048576:=by
   obtain ⟨h0,h1,h2,h3⟩:=laid_low hm hg hits (seed % 1000003).toNat
   have hb:=hm.B
   have:=imgL_len (Zz m (zL m its (pg0 m)) (seed % 1000003).toNat) 0
   exact ⟨imgL_okL _ 0 (-1) h3 (by omega) (by omega),imgL_is _ 0 h3,by omega⟩
 obtain ⟨hwh,his,hll⟩:=hmf
 generalize Yv 0 (Zz m (zL m its (pg0 m)) (seed % 1000003).toNat)=l at l3 hroot hwh his hll
 have l4:=l2.join l3
 have l4:Lx H H3 [.box b1 (Yy B L I iv fr sp seed) 28,.box pp (prC p lb r w) 42,logOb lb p (dsOf B l) [] (zp B L I) 1,docOb w r (rdOf B l) (zp B L I) (RLg.new 1)]:=l4
 have l4:=l4.nth (i:=2) (y:=ZE lb p (zp B L I) 1 (pl0 B l)) rfl fun O ho=>log_pl ho
 have l4:Lx H H3 [.box b1 (Yy B L I iv fr sp seed) 28,.box pp (prC p lb r w) 42,docOb w r (rdOf B l) (zp B L I) (RLg.new 1),ZE lb p (zp B L I) 1 (pl0 B l)]:=l4.pick [0,1,3,2] (by decide) (by simp)
 have hg0:∀ i,ndP (pl0 B l) L i=Zq (zX l (1+L+((i / 16:Nat):Int))) (64*(i % 16)):=fun i=>by
   unfold ndP; rw [pl0_view hwh]
 generalize hgg:ndP (pl0 B l) L=g at hg0
 have s0:BkSt B L I (zX l) g 1 (pl0 B l):=⟨⟨pl0_ok hg,fun i j _=>by rw [hgg],rfl,Int.le_refl 1⟩,fun b _=>pl0_view hwh b⟩
 have hr1:ndP (pl0 B l) L 1 0=2:=by
   rw [hgg,hg0 1]
   simpa using hroot
 have hpl:∃ P,pl0 B l=P∧P.open_=false∧P.order=[]∧P.steps=0:=⟨_,rfl,rfl,rfl,rfl⟩
 obtain ⟨P,hP,hop0,hord0,hst0⟩:=hpl
 rw [hP] at l4 s0 hr1
 clear hgg hg0 hroot hP
 refine zT.mk (fun t H'=>t.1=.bool false∧∃ P1,BkSt B L I (zX l) g 2 P1∧P1.open_=false∧P1.order=[]∧P1.steps=0∧Lx H H' [.box b1 (Yy B L I iv fr sp seed) 28,.box pp (prC p lb r w) 42,docOb w r (rdOf B l) (zp B L I) (RLg.new 1),ZE lb p (zp B L I) 1 P1]) ?_ ?_
 rotate_left
 · rw [za,zl]
   obtain ⟨O4,h4,st4⟩:=l4.call (i:=3) rfl
   refine lives11 (l4.at (i:=1) rfl) h4 s0.law.ok hg hr1 fun H5 O5 s' cs' s5 h5 hrd=>?_
   have l5:=st4 H5 _ O5 s5 h5
   rw [zM,za]
   exact ⟨rfl,_,(s0.rd hrd (by omega)).mono (by omega),hop0,hord0,hst0,l5⟩
 rintro ⟨t,u⟩ H4 ⟨ht,P1,s1,hop1,hord1,hst1,l4⟩
 simp only at ht
 subst ht
 rw [zl]
 simp only [zc,zg,Nat.zero_add,Nat.add_zero,za]
 rw [l4.ld (i:=1) rfl,pr1,za,l4.ld (i:=0) rfl,w2,za]
 obtain ⟨O4,h4,st4⟩:=l4.call (i:=3) rfl
 refine nodes_ok h4 s1.law.ok hg (by have:=s1.law.reads; omega) fun H5 s2' cs2' v1 l5 hrd2=>?_
 have s2:=(s1.rd hrd2 (by omega)).mono (m:=70000) (by omega)
 obtain ⟨O5,st5,h5⟩:=Lo.close (l:=[_,_]) (r:=[]) l5
 have l5:=Lo.unpack (l:=[_,_,_]) (st4 H5 _ O5 st5 h5)
 rw [s1.law.ndL] at l5
 have l5:Lx H H5 [.box b1 (Yy B L I iv fr sp seed) 28,.box pp (prC p lb r w) 42,docOb w r (rdOf B l) (zp B L I) (RLg.new 1),ZE lb p (zp B L I) 1 { P1 with s:=s2',cs:=cs2' },.sl 54 16 v1 ((ndL g I.toNat).map zS)]:=l5
 generalize hP2:({ P1 with s:=s2',cs:=cs2' }:PSt)=P2 at l5 s2
 have hop2:P2.open_=false:=by rw [← hP2]; exact hop1
 have hord2:P2.order=[]:=by rw [← hP2]; exact hord1
 have hst2:P2.steps=0:=by rw [← hP2]; exact hst1
 clear hP2 hrd2 s1 hop1 hord1 hst1 h5 st5 st4 h4 l4
 rw [y3,za,y4,za,zM,za,Bool.not_true,zl,l5.ld (i:=1) rfl,pr3,za,l5.ld (i:=0) rfl,w0,za]
 obtain ⟨O6,h6,st6⟩:=l5.call (i:=2) rfl
 obtain ⟨nb,hnb⟩:∃ nb:Nat,(nb:Int)=B:=⟨B.toNat,by omega⟩
 have hdv:∀ a,yz (rdOf B l) (RLg.new 1) a=zX l a:=fun a=>rfl
 rw [show zm B=zm (nb:Int) by rw [hnb]]
 refine steady_ok h6 ⟨{ held:=his,wait:=fun x hx=>(by cases hx),hlen:=hll,wlen:=by show 0<_; omega,seen:=⟨by show (0:Int)≤1; omega,by show (1:Int)<_; omega⟩,claims:=⟨by show (0:Int)≤1; omega,by show (1:Int)<_; omega⟩ },fun y hy=>(by cases hy),by show 0≤_; omega⟩ docChk_new (by show B≤B; omega) (by rw [hBB]; omega) (by omega) (by show (1:Int)<_; omega) fun H7 D' v2 l7=>?_
 obtain ⟨O7,st7,h7⟩:=Lo.close (l:=[_,_]) (r:=[]) l7
 have l7:=Lo.unpack (l:=[_,_,_,_]) ((st6 H7 _ O7 st7 h7).pick [0,1,3,4,2] (by decide) (by simp))
 have l7:Lx H H7 [.box b1 (Yy B L I iv fr sp seed) 28,.box pp (prC p lb r w) 42,ZE lb p (zp B L I) 1 P2,.sl 54 16 v1 ((ndL g I.toNat).map zS),docOb w r D' (zp B L I) (RLg.new 1),.sl 65 1024 v2 (rngB (zX l) nb)]:=l7
 have l7:Lx H H7 [.box b1 (Yy B L I iv fr sp seed) 28,.box pp (prC p lb r w) 42,ZE lb p (zp B L I) 1 P2,.sl 54 16 v1 ((ndL g I.toNat).map zS),.sl 65 1024 v2 (rngB (zX l) nb)]:=l7.pick [0,1,2,3,5] (by decide) (by simp)
 clear h7 st7 st6 h6 l5
 refine zy.mk (fun t H'=>∃ (i:Nat) (g':Nat→Ino) (P':PSt),i≤30∧t=(zm i,())∧BkSt B L I (zX l) g' (70000+i) P'∧P'.open_=false∧P'.order.length≤i∧P'.steps=i∧Lx H H' [.box b1 (Yy B L I iv fr sp seed) 28,.box pp (prC p lb r w) 42,ZE lb p (zp B L I) 1 P',.sl 54 16 v1 ((ndL g' I.toNat).map zS),.sl 65 1024 v2 (rngB (zX l) nb)])
   (fun t _=>mi t.1 fun x=>((30:Int) - x).toNat) ⟨0,g,P2,by omega,rfl,s2.mono (by omega),hop2,by rw [hord2]; exact Nat.le_refl 0,hst2,l7⟩ ?_
 rintro _ H8 ⟨i,g1,P3,hi,rfl,s3,hop3,hord3,hst3,l8⟩
 clear s2 hop2 hord2 hst2 l7
 have ha8:=ha.ext l8.ext0
 have hf8:=hf.ext l8.ext0
 refine zT.mk (fun t H'=>H'=H8∧t.1=.bool (decide (i<ats.length∧i<fs.length∧i<30))) ?_ ?_
 rotate_left
 · rw [ha8.lenE undInts,za,List.length_map,zt,za,ze]
   refine ⟨fun h1=>?_,fun h1=>⟨rfl,by rw [decide_eq_false (fun e=>h1 (by omega))]⟩⟩
   rw [hf8.lenE undNodes,za,List.length_map,zt,za,ze]
   refine ⟨fun h2=>?_,fun h2=>⟨rfl,by rw [decide_eq_false (fun e=>h2 (by omega))]⟩⟩
   rw [zt,za]
   exact ⟨rfl,by rw [dec_dec (q:=i<ats.length∧i<fs.length∧i<30) ⟨fun e=>⟨by omega,by omega,by omega⟩,fun e=>by omega⟩]⟩
 rintro ⟨t,u⟩ H9 ⟨rfl,ht⟩
 simp only at ht
 subst ht
 rw [ze]
 refine ⟨fun hin=>?_,fun hout=>?_⟩
 · obtain ⟨i1,i2,i3⟩:=hin
   have hai:(ats.map nI)[i]?=some (nI ats[i]):=by rw [List.getElem?_map,List.getElem?_eq_getElem i1]; rfl
   have hfi:(fs.map zS)[i]?=some (zS fs[i]):=by rw [List.getElem?_map,List.getElem?_eq_getElem i2]; rfl
   have hab:=hats ats[i] (List.getElem_mem i1)
   have hfb:=hfs fs[i] (List.getElem_mem i2)
   generalize ats[i]=a at hai hab
   generalize fs[i]=f at hfi hfb
   obtain ⟨c1,o1,ha1,hr1'⟩:=ha8.cell (j:=0) hai (by omega)
   obtain ⟨c2,o2,ha2,hr2⟩:=hf8.row hfi
   rw [Nat.add_zero] at hr1'
   rw [ha1,za,hr1',show (nI a)[0]?=some (zm a) from rfl,za,l8.ld (i:=0) rfl,w2,za]
   refine kpick_ok hab (by omega) (by omega) ?_
   obtain ⟨q,hq,hqI⟩:∃ q:Nat,a % I=(q:Int)∧(q:Int)<I:=⟨(a % I).toNat,by have:=Int.emod_nonneg a (show I≠0 by omega); omega,by have:=Int.emod_lt_of_pos a (show 0<I by omega); have:=Int.emod_nonneg a (show I≠0 by omega); omega⟩
   rw [hq]
   refine zT.mk (fun t H'=>t.1=.bool false∧∃ P',BkSt B L I (zX l) (updI g1 (q+1) f) (70000+((i+1:Nat):Int)) P'∧P'.open_=false∧P'.order.length≤i+1∧P'.steps=((i+1:Nat):Int)∧Lx H H' [.box b1 (Yy B L I iv fr sp seed) 28,.box pp (prC p lb r w) 42,ZE lb p (zp B L I) 1 P',.sl 54 16 v1 ((ndL g1 I.toNat).map zS),.sl 65 1024 v2 (rngB (zX l) nb)]) ?_ ?_
   rotate_left
   · rw [l8.ld (i:=1) rfl,pr1,za]
     obtain ⟨O8,h8,st8⟩:=l8.call (i:=2) rfl
     refine pl_begin h8 s3.law.ok hop3 (r:=1) (by omega) (by omega) fun H10 O10 s10 h10=>?_
     have l10:=st8 H10 _ O10 s10 h10
     have s4:=s3.same (P':={ P3 with open_:=true,room:=1,wrote:=some [] }) rfl rfl rfl
     have l10:Lx H H10 [.box b1 (Yy B L I iv fr sp seed) 28,.box pp (prC p lb r w) 42,ZE lb p (zp B L I) 1 { P3 with open_:=true,room:=1,wrote:=some [] },.sl 54 16 v1 ((ndL g1 I.toNat).map zS),.sl 65 1024 v2 (rngB (zX l) nb)]:=l10
     obtain ⟨c3,o3,ha3,hr3⟩:=(hf.ext l10.ext0).row hfi
     rw [zx,za,decide_eq_false (by omega),zl,l10.ld (i:=1) rfl,pr1,za,zk,za,zJ,zw (by omega),ha3,za,hr3,za]
     obtain ⟨O11,h11,st11⟩:=l10.call (i:=2) rfl
     have hib:=pl_isB h11
     have hln:=addL_len P3.order (1+L+(((q+1) / 16:Nat):Int))
     refine pl_rwrite h11 s4.law.ok hg rfl rfl (i:=q+1) (by omega) (by omega) (.inr (by show ((0:Nat):Int)<1; omega)) hfb (by have:=s4.law.reads; omega) (by show ((addL P3.order _).length:Int)≤L - 1; split at hln <;> omega) fun H12 O12 P5 s12 h12 hw5=>?_
     have s5:=s4.wt hg ⟨by omega,by omega⟩ hfb hib hw5
     have l12:=st11 H12 _ O12 s12 h12
     have l12:Lx H H12 [.box b1 (Yy B L I iv fr sp seed) 28,.box pp (prC p lb r w) 42,ZE lb p (zp B L I) 1 P5,.sl 54 16 v1 ((ndL g1 I.toNat).map zS),.sl 65 1024 v2 (rngB (zX l) nb)]:=l12
     rw [zx,za,decide_eq_false (by omega),zl,l12.ld (i:=1) rfl,pr1,za]
     obtain ⟨O13,h13,st13⟩:=l12.call (i:=2) rfl
     have est:P5.steps=(i:Int):=hw5.steps.trans hst3
     have eord:P5.order=addL P3.order (1+L+(((q+1) / 16:Nat):Int)):=hw5.order
     refine pl_end h13 s5.law.ok (hw5.open_.trans rfl) (by omega) fun H14 O14 s14 h14=>?_
     have l14:=st13 H14 _ O14 s14 h14
     rw [zx,za]
     refine ⟨rfl,_,(s5.mono (by omega)).same (P':={ P5 with open_:=false,steps:=P5.steps+1 }) rfl rfl rfl,rfl,?_,?_,l14⟩
     · show P5.order.length≤i+1
       rw [eord]; split at hln <;> omega
     · show P5.steps+1=((i+1:Nat):Int)
       omega
   rintro ⟨t,u⟩ H10 ⟨ht,P4,s4,hop4,hord4,hst4,l10⟩
   simp only at ht
   subst ht
   obtain ⟨c3,o3,ha3,hr3⟩:=(hf.ext l10.ext0).row hfi
   rw [zl,ha3,za,hr3,za]
   obtain ⟨bb,oo,had,hput⟩:=l10.slPut (K:=fun H'=>Pu (zn (some (.int .i64)) .add (zm i) (.int .i64 1)) fun x42=>(fun (s':Tup 1) (H':Hp)=>(∃ (i:Nat) (g':Nat→Ino) (P':PSt),i≤30∧s'=(zm i,())∧BkSt B L I (zX l) g' (70000+i) P'∧P'.open_=false∧P'.order.length≤i∧P'.steps=i∧Lx H H' [.box b1 (Yy B L I iv fr sp seed) 28,.box pp (prC p lb r w) 42,ZE lb p (zp B L I) 1 P',.sl 54 16 v1 ((ndL g' I.toNat).map zS),.sl 65 1024 v2 (rngB (zX l) nb)])∧(mi s'.1 fun x=>((30:Int) - x).toNat)<mi (zm i,()).1 fun x=>((30:Int) - x).toNat) (x42,()) H') (i:=3) (j:=q) (c:=zS f) rfl (by rw [List.length_map,yL]; omega) (zz _) (ZM _) fun H11 l11=>by
     rw [zk,za,zJ,zw (by omega)]
     rw [← updI_ndL _ (by omega)] at l11
     exact ⟨⟨i+1,updI g1 (q+1) f,P4,by omega,rfl,s4,hop4,hord4,hst4,l11⟩,by simp only [zC]; exact ms_lt (by omega)⟩
   rw [had,za]
   exact hput
 rw [l8.ld (i:=1) rfl,pr1,za,l8.ld (i:=0) rfl,w2,za]
 obtain ⟨O9,h9,st9⟩:=l8.call (i:=2) rfl
 refine nodes_ok h9 s3.law.ok hg (by have:=s3.law.reads; omega) fun H10 s4' cs4' v3 l10 hrd4=>?_
 have s4:=(s3.rd hrd4 (by omega)).mono (m:=140000) (by omega)
 obtain ⟨O10,st10,h10⟩:=Lo.close (l:=[_,_]) (r:=[]) l10
 have l10:=Lo.unpack (l:=[_,_,_,_]) ((st9 H10 _ O10 st10 h10).pick [0,1,3,4,2] (by decide) (by simp))
 rw [s3.law.ndL] at l10
 have l10:Lx H H10 [.box b1 (Yy B L I iv fr sp seed) 28,.box pp (prC p lb r w) 42,.sl 54 16 v1 ((ndL g1 I.toNat).map zS),.sl 65 1024 v2 (rngB (zX l) nb),ZE lb p (zp B L I) 1 { P3 with s:=s4',cs:=cs4' },.sl 54 16 v3 ((ndL g1 I.toNat).map zS)]:=l10
 generalize ({ P3 with s:=s4',cs:=cs4' }:PSt)=P4 at l10 s4
 clear hrd4 h10 st10 st9 h9 l8
 rw [y3,za,y4,za,l10.ld (i:=1) rfl,pr1,za]
 obtain ⟨O11,h11,st11⟩:=l10.call (i:=4) rfl
 refine spare_ok h11 s4.law.ok hg (by have:=s4.law.reads; omega) fun H11 O12 s5' cs5' s11 h12 hrd5=>?_
 have s5:=(s4.rd hrd5 (by omega)).mono (m:=150000) (by omega)
 have l11:=st11 H11 _ O12 s11 h12
 rw [s4.law.frN]
 have l11:Lx H H11 [.box b1 (Yy B L I iv fr sp seed) 28,.box pp (prC p lb r w) 42,.sl 54 16 v1 ((ndL g1 I.toNat).map zS),.sl 65 1024 v2 (rngB (zX l) nb),ZE lb p (zp B L I) 1 { P4 with s:=s5',cs:=cs5' },.sl 54 16 v3 ((ndL g1 I.toNat).map zS)]:=l11
 generalize ({ P4 with s:=s5',cs:=cs5' }:PSt)=P5 at l11 s5
 clear hrd5 h12 s11 st11 h11 l10
 rw [y3,za,y4,za,l11.ld (i:=1) rfl,pr1,za]
 obtain ⟨O13,h13,st13⟩:=l11.call (i:=4) rfl
 refine orphans_ok h13 s5.law.ok hg (by have:=s5.law.reads; omega) fun H12 s6' cs6' ov l12 hrd6=>?_
 have s6:=(s5.rd hrd6 (by omega)).mono (m:=160000) (by omega)
 obtain ⟨O14,st14,h14⟩:=Lo.close (l:=[_,_]) (r:=[]) l12
 have l12:=Lo.unpack (l:=[_,_,_,_,_]) ((st13 H12 _ O14 st14 h14).pick [0,1,2,3,5,4] (by decide) (by simp))
 rw [s5.law.orN] at l12
 have l12:Lx H H12 [.box b1 (Yy B L I iv fr sp seed) 28,.box pp (prC p lb r w) 42,.sl 54 16 v1 ((ndL g1 I.toNat).map zS),.sl 65 1024 v2 (rngB (zX l) nb),.sl 54 16 v3 ((ndL g1 I.toNat).map zS),ZE lb p (zp B L I) 1 { P5 with s:=s6',cs:=cs6' },.sl 3 1 ov ((orN g1 I.toNat).map nI)]:=l12
 generalize ({ P5 with s:=s6',cs:=cs6' }:PSt)=P6 at l12 s6
 clear hrd6 h14 st14 st13 h13 l11
 have hslen:(ndL g1 I.toNat).length=I.toNat:=yL g1 _
 have hspl:=frN_le g1 I.toNat
 rw [y3,za,y4,za]
 refine zT.mk (fun t H'=>t.1=.bool false∧H'=H12) ?_ ?_
 rotate_left
 · rw [zM,za,Bool.not_true,zl,zx,za,decide_eq_false (by omega),zl,za,zl]
   refine same_ok (but:=0) (l12.sv (i:=2) rfl).sr (l12.sv (i:=4) rfl).sr rfl (by rw [List.length_map,hslen]; omega) (nodes_same fun i _ _=>rfl) ?_
   rw [zM,za]
   exact ⟨rfl,rfl⟩
 rintro ⟨t,u⟩ H13 ⟨ht,rfl⟩
 simp only at ht
 subst ht
 rw [zl]
 have l13:=l12.nilS 3 1
 have l13:Lx H H13 [.box b1 (Yy B L I iv fr sp seed) 28,.box pp (prC p lb r w) 42,.sl 54 16 v1 ((ndL g1 I.toNat).map zS),.sl 65 1024 v2 (rngB (zX l) nb),.sl 54 16 v3 ((ndL g1 I.toNat).map zS),ZE lb p (zp B L I) 1 P6,.sl 3 1 ov ((orN g1 I.toNat).map nI),.sl 3 1 (.slice none 0 0) ((orN g1 0).map nI)]:=l13
 refine zy.mk (fun t H'=>∃ (j:Nat) (os:Value),j≤I.toNat∧t=(zm ((frN g1 I.toNat:Nat) - (frN g1 j:Nat):Int),os,zm j,())∧Lx H H' [.box b1 (Yy B L I iv fr sp seed) 28,.box pp (prC p lb r w) 42,.sl 54 16 v1 ((ndL g1 I.toNat).map zS),.sl 65 1024 v2 (rngB (zX l) nb),.sl 54 16 v3 ((ndL g1 I.toNat).map zS),ZE lb p (zp B L I) 1 P6,.sl 3 1 ov ((orN g1 I.toNat).map nI),.sl 3 1 os ((orN g1 j).map nI)])
   (fun t _=>mi t.2.2.1 fun x=>(I.toNat - x).toNat) ⟨0,.slice none 0 0,by omega,by show _=(zm (_ - ((0:Nat):Int)),_,_,_); rw [show (((frN g1 I.toNat:Nat):Int) - ((0:Nat):Int))=((frN g1 I.toNat:Nat):Int) by omega]; rfl,l13⟩ ?_
 rintro _ H14 ⟨j,os,hj,rfl,l14⟩
 have sr1:=(l14.sv (i:=2) rfl).sr
 rw [sr1.lenE undNodes,za,List.length_map,hslen,zt,za,ze]
 refine ⟨fun hlt=>?_,fun hge=>?_⟩
 · have el:((ndL g1 I.toNat).map zS)[j]?=some (zS (g1 (j+1))):=by rw [List.getElem?_map,ndL_get g1 _ j (by omega)]; rfl
   obtain ⟨c1,o1,ha1,hcl,_⟩:=sr1.el el
   have n0:(zS (g1 (j+1)))[0]?=some (.int .u16 (g1 (j+1) 0)):=rfl
   have n1:(zS (g1 (j+1)))[1]?=some (.int .u16 (g1 (j+1) 1)):=rfl
   have hfj:=frN_le g1 j
   have efr:frN g1 (j+1)=frN g1 j+if g1 (j+1) 0=0 then 1 else 0:=rfl
   have eor:orN g1 (j+1)=orN g1 j++if g1 (j+1) 0≠0∧g1 (j+1) 1=0 then [((j+1:Nat):Int)] else []:=rfl
   have hol:=orN_len g1 j
   rw [ha1,za,zg,za,hcl 0 (by omega),n0,za,zA,za,ze]
   refine ⟨fun h0=>?_,fun h0=>?_⟩
   · rw [if_pos (by omega)] at efr
     rw [if_neg (fun e=>e.1 (by omega)),List.append_nil] at eor
     rw [zV,za,zh (by omega) (by omega),zk,za,zJ,zw (by omega)]
     refine ⟨⟨j+1,os,by omega,?_,by rw [eor]; exact l14⟩,by simp only [zC]; exact ms_lt (by omega)⟩
     rw [efr,show (((frN g1 I.toNat:Nat):Int) - ((frN g1 j:Nat):Int) - 1)=((frN g1 I.toNat:Nat):Int) - ((frN g1 j+1:Nat):Int) by omega]; rfl
   · rw [if_neg (by omega),Nat.add_zero] at efr
     rw [za,zg,za,hcl 1 (by omega),n1,za,zA,za,ze]
     refine ⟨fun h1=>?_,fun h1=>?_⟩
     · rw [if_pos ⟨by omega,by omega⟩] at eor
       rw [zk,za,zJ,zw (by omega)]
       refine l14.appO elIn eIn_f (i:=7) (c:=nI ((j+1:Nat):Int)) rfl rfl (by omega) (by omega) rfl (by unfold zG; rw [← Array.all_toList]; rfl) (by rw [List.length_map]; omega) fun os' H15 l15=>?_
       rw [za]
       refine ⟨⟨j+1,os',by omega,by rw [efr]; rfl,?_⟩,by simp only [zC]; exact ms_lt (by omega)⟩
       rw [eor,List.map_append]; exact l15
     · rw [if_neg (fun e=>h1 (by omega)),List.append_nil] at eor
       rw [zk,za,zJ,zw (by omega)]
       exact ⟨⟨j+1,os,by omega,by rw [efr]; rfl,by rw [eor]; exact l14⟩,by simp only [zC]; exact ms_lt (by omega)⟩
 have ej:j=I.toNat:=by omega
 subst ej
 rw [l14.ld (i:=1) rfl,pr1,za]
 obtain ⟨O15,h15,_⟩:=l14.call (i:=5) rfl
 refine pl_layout h15 s6.law.ok fun H15 e15=>?_
 have k3:(zp B L I).cells[3]?=some (zm 1):=rfl
 have k6:(zp B L I).cells[6]?=some (zm (1+L+(I+16) / 16)):=rfl
 rw [yj,za]
 refine (l14.ext e15).boxA fun b6 H16 _ l16=>?_
 refine l16.stAll (i:=8) rfl rfl (Lay.size _) (Lay.cok _) fun H17 l17=>?_
 have l17:Lx H H17 [.box b1 (Yy B L I iv fr sp seed) 28,.box pp (prC p lb r w) 42,.sl 54 16 v1 ((ndL g1 I.toNat).map zS),.sl 65 1024 v2 (rngB (zX l) nb),.sl 54 16 v3 ((ndL g1 I.toNat).map zS),ZE lb p (zp B L I) 1 P6,.sl 3 1 ov ((orN g1 I.toNat).map nI),.sl 3 1 os ((orN g1 I.toNat).map nI),.box b6 (zp B L I).cells 62]:=l17
 refine zy.mk (fun t H'=>∃ (j:Nat) (P':PSt),j≤nb∧t=(zm j,())∧BkSt B L I (zX l) g1 (160000+j) P'∧Lx H H' [.box b1 (Yy B L I iv fr sp seed) 28,.box pp (prC p lb r w) 42,.sl 54 16 v1 ((ndL g1 I.toNat).map zS),.sl 65 1024 v2 (rngB (zX l) nb),.sl 54 16 v3 ((ndL g1 I.toNat).map zS),ZE lb p (zp B L I) 1 P',.sl 3 1 ov ((orN g1 I.toNat).map nI),.sl 3 1 os ((orN g1 I.toNat).map nI),.box b6 (zp B L I).cells 62])
   (fun t _=>mi t.1 fun x=>(nb - x).toNat) ⟨0,P6,by omega,rfl,s6.mono (by omega),l17⟩ ?_
 rintro _ H18 ⟨j,P7,hj7,rfl,s7,l18⟩
 clear l17 l14 l13 l12 s6 h15
 rw [l18.ld (i:=0) rfl,w0,za,zt,za,ze]
 refine ⟨fun hlt=>?_,fun hge=>?_⟩
 · rw [l18.ld (i:=1) rfl,pr1,za]
   obtain ⟨O19,h19,st19⟩:=l18.call (i:=5) rfl
   have hrds:=s7.law.reads
   refine Fc.mono (R:=fun v H'=>∃ c P',v=.tuple #[.agg c,.int .i64 0]∧IsB c∧(((j:Int)<1∨1+L+(I+16) / 16≤j)→c=zX l j)∧BkSt B L I (zX l) g1 (160000+((j+1:Nat):Int)) P'∧Lx H H' [.box b1 (Yy B L I iv fr sp seed) 28,.box pp (prC p lb r w) 42,.sl 54 16 v1 ((ndL g1 I.toNat).map zS),.sl 65 1024 v2 (rngB (zX l) nb),.sl 54 16 v3 ((ndL g1 I.toNat).map zS),ZE lb p (zp B L I) 1 P',.sl 3 1 ov ((orN g1 I.toNat).map nI),.sl 3 1 os ((orN g1 I.toNat).map nI),.box b6 (zp B L I).cells 62]) ?_ ?_
   · by_cases hlog:1≤(j:Int)∧(j:Int)<1+L
     · refine pl_readD h19 s7.law.ok (by omega) (by rw [hBB]; omega) (by rw [hLL]; exact hlog) fun H20 O20 s8' s20 h20 hrd8 hib=>?_
       exact ⟨_,_,rfl,hib,fun e=>by omega,(s7.rd hrd8 (by omega)).mono (by omega),st19 H20 _ O20 s20 h20⟩
     · refine pl_read h19 s7.law.ok (by omega) (by rw [hBB]; omega) (by rw [hLL]; omega) fun H20 O20 s8' cs8' s20 h20 hrd8 hib=>?_
       exact ⟨_,_,rfl,hib,fun e=>s7.view _ (by omega),(s7.rd hrd8 (by omega)).mono (by omega),st19 H20 _ O20 s20 h20⟩
   · rintro v H20 ⟨c,P8,rfl,hib,hc,s8,l20⟩
     rw [y3,za,y4,za,ZL,za]
     refine l20.boxA fun b7 H21 _ l21=>?_
     refine l21.stAll (i:=9) rfl zF hib.size hib.ok fun H22 l22=>?_
     have l22:Lx H H22 [.box b1 (Yy B L I iv fr sp seed) 28,.box pp (prC p lb r w) 42,.sl 54 16 v1 ((ndL g1 I.toNat).map zS),.sl 65 1024 v2 (rngB (zX l) nb),.sl 54 16 v3 ((ndL g1 I.toNat).map zS),ZE lb p (zp B L I) 1 P8,.sl 3 1 ov ((orN g1 I.toNat).map nI),.sl 3 1 os ((orN g1 I.toNat).map nI),.box b6 (zp B L I).cells 62,.box b7 c 65]:=l22
     refine zT.mk (fun t H'=>t.1=.bool false∧H'=H22) ?_ ?_
     · rintro ⟨t,u⟩ H23 ⟨ht,rfl⟩
       simp only at ht
       subst ht
       rw [zl,zk,za,zJ,zw (by omega)]
       exact ⟨⟨j+1,P8,by omega,rfl,s8,l22.takeN 9⟩,by simp only [zC]; exact ms_lt (by omega)⟩
     · have el:(rngB (zX l) nb)[j]?=some (zX l j):=rngB_get _ (by omega)
       obtain ⟨c4,o4,ha4,hr4⟩:=(l22.sv (i:=3) rfl).sr.row el
       have hnb2:=hib
       rw [zx,za,decide_eq_false (by omega),zl,zg,za,Nat.zero_add,l22.ld (i:=8) rfl,k3,za,zt,za,ze]
       refine ⟨fun h1=>?_,fun h1=>?_⟩
       · rw [l22.ldAll (i:=9) (n:=1024) rfl hib.size,za,ha4,za,hr4,za,← hc (.inl h1),yq,eqB_true rowB hib,Option.map_some,za]
         exact ⟨rfl,rfl⟩
       · rw [zg,za,Nat.zero_add,l22.ld (i:=8) rfl,k6,za,zU,za,ze]
         refine ⟨fun h2=>?_,fun h2=>⟨rfl,rfl⟩⟩
         rw [l22.ldAll (i:=9) (n:=1024) rfl hib.size,za,ha4,za,hr4,za,← hc (.inr h2),yq,eqB_true rowB hib,Option.map_some,za]
         exact ⟨rfl,rfl⟩
 · rw [zA,za,decide_eq_true (by omega),z8]
   have hol:=orN_len g1 I.toNat
   exact sameInts (l18.sv (i:=6) rfl).sr (l18.sv (i:=7) rfl).sr (by omega) (k H18 l18.ext0)
end
end Go.Vc
