/- Parts of a proof, joined in build order: a calculus of contracts, contracts of functions. -/
import Derived.Test.YtfegkmmifpgpfaaGreatRQE
import Derived.ChangeArms
import Derived.Test.YtfegkmmifpgpfaaGreatProg
import Derived.Test.YtfegkmmifpgpfaaGreatRQF
set_option linter.unusedVariables false
set_option linter.unusedSimpArgs false
set_option maxHeartbeats 8000000
set_option maxRecDepth 100000
namespace Go.Vc
theorem NN{H:Hp}{b o n:Nat}{c:Array Value}(h:np H ⟨b,o,none⟩ n=some c):zX (some (some n)) (.pointer (some ⟨b,o,none⟩)) H=some (.agg c):=by
 simp only[zX,h,iR]
theorem Er{H:Hp}{b o n:Nat}{c:Array Value}(h:np H ⟨b,o,none⟩ n=some c){j:Nat}(hj:j<n):zX (some none) (.pointer (some ⟨b,o+j,none⟩)) H=c[j]?:=by
 have:=(Fh h).2 j hj;rw[Addr.oE]at this;exact this
structure Sr(n:Nat)(H:Hp)(s:Value)(vs:List (Array Value)):Prop where
 is:∃ (base:Option Addr) (cap:Nat),s=.slice base vs.length cap/\vs.length<=cap/\(vs≠[]->∃ b o,base=some ⟨b,o,none⟩/\∀ i v,vs[i]?=some v->np H ⟨b,o+i*n,none⟩ n=some v)
section
variable{T n:Nat}{H H':Hp}{s:Value}{vs:List (Array Value)}
theorem Sr.nil(n:Nat)(H:Hp):Sr n H (.slice none 0 0) []:=⟨none,0,rfl,iU _,fun h=>absurd rfl h⟩
theorem Sr.ext(h:Sr n H s vs)(hx:Ext H H'):Sr n H' s vs:=by
 obtain⟨base,cap,rfl,hle,h⟩:=h;refine⟨base,cap,rfl,hle,fun jZ=>?_⟩;obtain⟨b,o,rfl,h2⟩:=h jZ;exact⟨b,o,rfl,fun i v hi=>HD hx (h2 i v hi)⟩
theorem Sr.len(h:Sr n H s vs):∃ b c,s=.slice b vs.length c:=by
 obtain⟨base,cap,rfl,_⟩:=h;exact⟨base,cap,rfl⟩
theorem Sr.j9{P:Program}{S:TypeId}{e:TypeId}(h:Sr n H s vs)(hu:P.underlying S=some (.slice e)):j9 P S s=some (.int .i64 vs.length):=by
 obtain⟨b,c,rfl⟩:=h.len;exact tU hu
theorem Sr.elem(h:Sr n H s vs){i:Nat}{v:Array Value}(hi:vs[i]?=some v):∃ b o,np H ⟨b,o,none⟩ n=some v/\∀ k,zG (some (none,n)) s (.int k i)=some (.pointer (some ⟨b,o,none⟩)):=by
 obtain⟨base,cap,rfl,hle,h⟩:=h;have kc:i<vs.length:=by
  rcases jx i vs.length with h1 | h1
  ·exact h1
  ·rw[eR h1]at hi;cases hi
 obtain⟨b,o,rfl,h2⟩:=h fun e=>by subst e;simp at kc
 refine⟨b,o+i*n,h2 i v hi,fun k=>?_⟩;have:=@Bk vs.length cap n b o k i (by omega) (by omega);simpa using this
theorem Sr.cell(h:Sr n H s vs){i j:Nat}{v:Array Value}(hi:vs[i]?=some v)(hj:j<n):∃ b o,(∀ k,zG (some (none,n)) s (.int k i)=some (.pointer (some ⟨b,o,none⟩)))/\zX (some none) (.pointer (some ⟨b,o+j,none⟩)) H=v[j]?:=by
 obtain⟨b,o,hr,ha⟩:=h.elem hi;exact⟨b,o,ha,Er hr hj⟩
theorem Sr.row(h:Sr n H s vs){i:Nat}{v:Array Value}(hi:vs[i]?=some v):∃ b o,(∀ k,zG (some (none,n)) s (.int k i)=some (.pointer (some ⟨b,o,none⟩)))/\zX (some (some n)) (.pointer (some ⟨b,o,none⟩)) H=some (.agg v):=by
 obtain⟨b,o,hr,ha⟩:=h.elem hi;exact⟨b,o,ha,NN hr⟩
theorem Sv.sr(h:Sv T n H s vs):Sr n H s vs:=by
 obtain⟨base,cap,rfl,hle,hn,h⟩:=h;refine⟨base,cap,rfl,hle,fun jZ=>?_⟩;have acG:0<vs.length:=List.length_pos_iff.2 jZ;cases base with
 | none=>simp only at h;omega
 | some a=>
  obtain⟨oI,cs,hg,lH,h⟩:=h;obtain⟨kC,off,sp⟩:=a;simp only at oI hg lH h;subst oI;refine⟨kC,off,rfl,fun i v hi=>?_⟩;have kc:i<vs.length:=by
   rcases jx i vs.length with h1 | h1
   ·exact h1
   ·rw[eR h1]at hi;cases hi
  have hm:(i+1)*n<=cap*n:=jU n (by omega);rw[kn,kY]at hm;unfold np;simp only[hg];rw[aU ⟨trivial,by omega⟩,h i v hi]
end
theorem mapM_cells{H:Hp}{a:Addr}:∀ (l:List Nat) (r:List Value),(l.mapM fun i=>qK H (a.add i))=some r->r.length=l.length/\∀ k i:Nat,l[k]?=some i->qK H (a.add i)=r[k]?:=by
 intro l;induction l with
 | nil=>intro r h;simp only[List.mapM_nil]at h;injection h with h;subst h;exact⟨rfl,fun k i hk=>by simp at hk⟩
 | cons x l ih=>
  intro r h;rw[List.mapM_cons]at h;cases hc:qK H (a.add x) with
  | none=>rw[hc]at h;cases h
  | some v=>
   rw[hc]at h;cases hm:(l.mapM fun i=>qK H (a.add i)) with
   | none=>rw[hm]at h;cases h
   | some r'=>
    rw[hm]at h;injection h with h;subst h;obtain⟨h1,h2⟩:=ih r' hm;refine⟨by simp[h1],fun k i hk=>?_⟩;cases k with
    | zero=>simp only[dU,iH]at hk;subst hk;simpa using hc
    | succ k=>simp only[gH]at hk ⊢;exact h2 k i hk
theorem add_zero(a:Addr):a.add 0=a:=by unfold Addr.add;rw[aU rfl]
theorem Fg{w:World}{a:Addr}{n:Nat}{r:List Value}(hn:0<n)(h:w.cells? 0 a n=some r):a.spot=none/\np w.heap a n=some r.toArray:=by
 unfold World.cells? at h;rw[aU (mT _)]at h;obtain⟨hl,hg⟩:=mapM_cells (H:=w.heap) (a:=a) (List.range n) r h;rw[List.length_range]at hl;have sw:∀ k,k<n->qK w.heap (a.add k)=r[k]?:=fun k hk=>hg k k (by rw[kN hk]);have CD:∀ k,k<n->∃ v,qK w.heap (a.add k)=some v:=fun k hk=>by
  rw[sw k hk];exact⟨r[k]'(by omega),bU (by omega)⟩
 have oI:a.spot=none:=by
  obtain⟨v,hv⟩:=CD 0 hn;rw[add_zero]at hv;unfold qK at hv;split at hv
  ·split at hv
   ·cases hv
   ·rename_i h1;simpa using h1
  ·cases hv
 refine⟨oI,?_⟩;obtain⟨b,o,sp⟩:=a;simp only at oI;subst oI;simp only[Addr.oE]at sw CD;have key:∃ c T z,w.heap[b]?=some (.cells c T z)/\∀ k,k<n->c[o+k]?=r[k]?:=by
  obtain⟨v,hv⟩:=CD 0 hn;unfold qK at hv;split at hv
  ·rename_i c T z hb;refine⟨c,T,z,hb,fun k hk=>?_⟩;rw[<- sw k hk];unfold qK;simp only[hb];simp
  ·cases hv
 obtain⟨c,T,z,hb,hc⟩:=key;have lH:o+n<=c.size:=by
  have h1:=hc (n - 1) (by omega);rw[bU (show n - 1<r.length by omega)]at h1;rcases jx (o+(n - 1)) c.size with h2 | h2
  ·omega
  ·rw[iQ h2]at h1;cases h1
 unfold np;simp only[hb];rw[aU ⟨trivial,lH⟩];congr 1;refine qk (by simpa using hl) lH fun j hj=>?_;rw[hc j hj];simp
theorem U5{K:Type}{enc:TypeId × Value->K}{P:Program}{w:World}{sp:Nat->Bool}{hd:Bool}{fuel n:Nat}{t e:TypeId}{s:Value}{x:DataW K × List MemPlace}(ht:P.underlying t=some (.slice e))(hn:P.cellsOf e=n)(hp:0<n)
   (h:DataW.trod enc P w 0 sp hd fuel t [s]=some x) :
   ∃ (vs:List (Array Value)) (m:Nat) (ds:List (DataW K × List MemPlace)),Sr n w.heap s vs/\ds.length=vs.length/\(∀ (i:Nat) (v:Array Value),vs[i]?=some v->DataW.trod enc P w 0 sp hd m e v.toList=ds[i]?)/\vs.length<=maxLen/\(vs=[]/\ds=[]\/∃ r,x.1=.slice (ds.map (·.1)) r):=by
 rcases DataW.trod_slice ht h with ⟨h1,h2⟩ | ⟨a,len,cap,elems,rest,m,hf,Gk,hx,hb,hle,Sy,wG,sw,_⟩
 · injection h1 with h1;subst h1
   exact⟨[],0,[],Sr.nil n _,rfl,fun i v hi=>by simp at hi,mT _,.inl ⟨rfl,rfl⟩⟩
 · injection Gk with Gk;subst Gk
   rw[hn]at sw
   have CD:∀ i,i<len->∃ r,w.cells? 0 (a.add (i*n)) n=some r/\DataW.trod enc P w 0 sp hd m e r=elems[i]?:=fun i hi=>by
     have h1:=sw i hi
     rw[bU (show i<elems.length by omega)]at h1 ⊢
     cases hc:w.cells? 0 (a.add (i*n)) n with
     | none=>rw[hc]at h1;cases h1
     | some r=>rw[hc]at h1;exact⟨r,rfl,h1⟩
   refine⟨(List.range len).map fun i=>((w.cells? 0 (a.add (i*n)) n).getD []).toArray,m,elems,⟨some a,cap,by simp,by simpa using hle,fun jZ=>?_⟩,by simpa using wG,fun i v hi=>?_,by simp;omega,.inr ⟨_,by rw[hx]⟩⟩
   · have acG:0<len:=by
       rcases Nat.eq_zero_or_pos len with h0 | h0
       · subst h0;exact absurd rfl jZ
       · exact h0
     obtain⟨r0,hr0,_⟩:=CD 0 acG
     rw[An,add_zero]at hr0
     have oI:=(Fg hp hr0).1
     obtain⟨b,o,s2⟩:=a
     simp only at oI
     subst oI
     refine⟨b,o,rfl,fun i v hi=>?_⟩
     rw[dR]at hi
     cases IA:(List.range len)[i]? with
     | none=>rw[IA]at hi;cases hi
     | some j=>
       rw[IA]at hi
       have kI:i<len:=by
         rcases jx i len with h1 | h1
         · exact h1
         · rw[eR (by simpa using h1)]at IA;cases IA
       rw[kN kI]at IA
       injection IA with IA;subst IA
       obtain⟨r,hr,_⟩:=CD i kI
       simp only[iR,hr,Option.getD_some]at hi
       injection hi with hi;subst hi
       have:=(Fg hp hr).2
       rw[Addr.oE]at this
       exact this
   · rw[dR]at hi
     cases IA:(List.range len)[i]? with
     | none=>rw[IA]at hi;cases hi
     | some j=>
       rw[IA]at hi
       have kI:i<len:=by
         rcases jx i len with h1 | h1
         · exact h1
         · rw[eR (by simpa using h1)]at IA;cases IA
       rw[kN kI]at IA
       injection IA with IA;subst IA
       obtain⟨r,hr,PL⟩:=CD i kI
       simp only[iR,hr,Option.getD_some]at hi
       injection hi with hi;subst hi
       simpa using PL
end Go.Vc
namespace Go.Vc
open Classical
structure Ob where
 at_:Hp->(Nat->Prop)->Prop
 own:∀ {H:Hp} {O:Nat->Prop},at_ H O->∀ b,O b->b<H.size
 frame:∀ {H H':Hp} {O O':Nat->Prop},at_ H O->(∀ b,O b->H'[b]?=H[b]?)->H.size<=H'.size->(∀ b,O b->O' b)->(∀ b,O' b->b<H'.size)->at_ H' O'
structure Wd(kP:Nat->Nat)(H:Hp)(l:List Ob):Prop where
 Rm:∀ (i:Nat) (x:Ob),l[i]?=some x->x.at_ H fun b=>kP b=i+1
 out:∀ b,H.size<=b->kP b=0
def Cg(H:Hp)(kP pM:Nat->Nat):Prop:=∀ b,b<H.size->pM b=kP b
section
variable{kP:Nat->Nat}{H H':Hp}{l:List Ob}
theorem Wd.nil(H:Hp):Wd (fun _=>0) H []:=⟨fun i x h=>by simp at h,fun _ _=>rfl⟩
theorem Wd.kp(h:Wd kP H l){S:Nat->Prop}(k:Kp S H H')(hS:∀ b,b<H.size->S b->kP b=0):Wd kP H' l:=
 ⟨fun i x hx=>by
   have ho:=h.Rm i x hx
   exact x.frame ho (fun b hb=>k.same b (x.own ho b hb) fun hs=>by have:=hS b (x.own ho b hb) hs;have hb:kP b=i+1:=hb;omega) k.le (fun b hb=>hb) fun b hb=>jj (x.own ho b hb) k.le,
  fun b hb=>h.out b (kg k.le hb)⟩
theorem Wd.ext(h:Wd kP H l)(e:Ext H H'):Wd kP H' l:=h.kp (e.kp fun _=>False) fun b _ hb=>hb.elim
theorem Wd.get(h:Wd kP H l){i:Nat}{x:Ob}(hx:l[i]?=some x):x.at_ H fun b=>kP b=i+1:=h.Rm i x hx
theorem Wd.step(h:Wd kP H l){i:Nat}{x x':Ob}(hx:l[i]?=some x)(k:Kp (fun b=>kP b=i+1) H H'){O':Nat->Prop}(AQ:x'.at_ H' O')(hO:∀ b,O' b->kP b=i+1\/H.size<=b) :
   ∃ pM,Wd pM H' (l.set i x')/\Cg H kP pM:=by
 have kI:i<l.length:=by
   rcases jx i l.length with h1 | h1
   · exact h1
   · rw[eR h1]at hx;cases hx
 refine⟨fun b=>if b<H.size then kP b else if O' b then i+1 else 0,⟨fun j y hy=>?_,fun b hb=>?_⟩,fun b hb=>aU hb⟩
 · by_cases EO:i=j
   · subst EO
     rw[jX kI]at hy
     injection hy with hy;subst hy
     refine x'.frame AQ (fun _ _=>rfl) (iU _) (fun b hb=>?_) fun b hb=>?_
     · show(if b<H.size then kP b else if O' b then i+1 else 0)=i+1
       split
       · rename_i kc
         exact(hO b hb).resolve_right (by omega)
       · first | rfl | rw[aU hb]
     · have hb:(if b<H.size then kP b else if O' b then i+1 else 0)=i+1:=hb
       split at hb
       · have:=k.le;omega
       · split at hb
         · rename_i h2;exact x'.own AQ b h2
         · omega
   · rw[jy EO]at hy
     have ho:=h.Rm j y hy
     refine y.frame ho (fun b hb=>k.same b (y.own ho b hb) fun e=>?_) k.le (fun b hb=>?_) fun b hb=>?_
     · have hb:kP b=j+1:=hb
       have e:kP b=i+1:=e
       omega
     · show(if b<H.size then kP b else if O' b then i+1 else 0)=j+1
       rw[aU (y.own ho b hb)];exact hb
     · have hb:(if b<H.size then kP b else if O' b then i+1 else 0)=j+1:=hb
       split at hb
       · have:=k.le;omega
       · split at hb<;>omega
 · have:=k.le
   rw[aH (by omega)]
   split
   · rename_i h2
     have:=x'.own AQ b h2;omega
   · rfl
theorem Wd.add(h:Wd kP H l)(e:Ext H H'){x:Ob}{O':Nat->Prop}(hx:x.at_ H' O')(hO:∀ b,O' b->H.size<=b):∃ pM,Wd pM H' (l++[x])/\Cg H kP pM:=by
 refine⟨fun b=>if b<H.size then kP b else if O' b then l.length+1 else 0,⟨fun n z hz=>?_,fun b hb=>?_⟩,fun b hb=>aU hb⟩
 ·by_cases hn:n<l.length
  ·rw[ko hn]at hz;have ho:=h.Rm n z hz;refine z.frame ho (fun b hb=>e.same b (z.own ho b hb)) e.le (fun b hb=>?_) fun b hb=>?_
   ·show(if b<H.size then kP b else if O' b then l.length+1 else 0)=n+1;rw[aU (z.own ho b hb)];exact hb
   ·have hb:(if b<H.size then kP b else if O' b then l.length+1 else 0)=n+1:=hb;split at hb
    ·have:=e.le;omega
    ·split at hb<;>omega
  ·rw[jB (by omega)]at hz;cases hk:n - l.length with
   | succ q=>rw[hk]at hz;simp at hz
   | zero=>
    rw[hk]at hz;simp only[dU,iH]at hz;subst hz;obtain rfl:n=l.length:=by omega
    refine x.frame hx (fun _ _=>rfl) (iU _) (fun b hb=>?_) fun b hb=>?_
    ·show(if b<H.size then kP b else if O' b then l.length+1 else 0)=l.length+1;rw[aH (by have:=hO b hb;omega),aU hb]
    ·have hb:(if b<H.size then kP b else if O' b then l.length+1 else 0)=l.length+1:=hb;split at hb
     ·rename_i kc;have:=e.le;omega
     ·split at hb
      ·rename_i h2;exact x.own hx b h2
      ·omega
 ·have:=e.le;rw[aH (by omega)];split
  ·rename_i h2;have:=x.own hx b h2;omega
  ·rfl
end
def Ob.of(F:Hp->(Nat->Prop)->Prop)(hf:∀ {H H':Hp} {O O':Nat->Prop},F H O->(∀ b,O b->H'[b]?=H[b]?)->H.size<=H'.size->(∀ b,O b->O' b)->F H' O'):Ob:=
 ⟨fun H O=>F H O/\∀ b,O b->b<H.size,fun h=>h.2,fun h hb hs ho hl=>⟨hf h.1 hb hs ho,hl⟩⟩
def Ob.box(b:Nat)(c:Array Value)(T:TypeId):Ob:=.of (fun H O=>H[b]?=some (.cells c T)/\O b) fun h hb _ ho=>⟨by rw[hb _ h.2];exact h.1,ho _ h.2⟩
def Ob.sl(T n:Nat)(s:Value)(vs:List (Array Value)):Ob:=.of (fun H O=>Sv T n H s vs/\∀ b,ZH s=some b->O b) fun h hb _ ho=>⟨h.1.of fun b hh=>hb b (h.2 b hh),fun b hh=>ho b (h.2 b hh)⟩
def Ob.no:Ob:=.of (fun _ _=>True) fun _ _ _ _=>trivial
def oh(H H':Hp)(x:Ob):Prop:=∃ O,x.at_ H' O/\∀ b,O b->H.size<=b
theorem oh.old{H0 H H':Hp}{x:Ob}(h:oh H H' x)(e:H0.size<=H.size):oh H0 H' x:=by
 obtain⟨O,ho,hn⟩:=h;exact⟨O,ho,fun b hb=>kg e (hn b hb)⟩
theorem oh.nt(H:Hp)(T n:Nat):oh H H (.sl T n (.slice none 0 0) []):=⟨fun _=>False,⟨⟨Sv.nil T n H,fun b hb=>by cases hb⟩,fun b hb=>hb.elim⟩,fun b hb=>hb.elim⟩
theorem oh.sv{H H':Hp}{T n:Nat}{s:Value}{vs:List (Array Value)}(h:oh H H' (.sl T n s vs)):Sv T n H' s vs:=by
 obtain⟨O,ho,_⟩:=h;exact ho.1.1
structure Lo(S:Nat->Prop)(H0 H:Hp)(l:List Ob):Prop where
 kp:Kp S H0 H
 wd:∃ kP,Wd kP H l/\∀ b,b<H0.size->kP b≠0->S b
abbrev Lx:=Lo fun _=>False
section
variable{S:Nat->Prop}{H0 H H':Hp}{l:List Ob}
theorem Lo.start(S:Nat->Prop)(H:Hp):Lo S H H []:=⟨Kp.refl _ _,_,Wd.nil H,fun b _ h=>absurd rfl h⟩
theorem Lo.own{x:Ob}{O:Nat->Prop}(h:x.at_ H O):Lo O H H [x]:=by
 refine⟨Kp.refl _ _,fun b=>if O b then 1 else 0,⟨fun i y hy=>?_,fun b hb=>aH fun ho=>?_⟩,fun b _ hb=>?_⟩
 ·cases i with
  | zero=>
   simp only[dU,iH]at hy;subst hy;refine x.frame h (fun _ _=>rfl) (iU _) (fun b hb=>aU hb) fun b hb=>?_;have hb:(if O b then 1 else 0)=0+1:=hb;split at hb
   ·rename_i ho;exact x.own h b ho
   ·omega
  | succ i=>simp at hy
 ·have:=x.own h b ho;omega
 ·by_cases ho:O b
  ·exact ho
  ·exact absurd (aH ho) hb
theorem Lo.ext(h:Lo S H0 H l)(e:Ext H H'):Lo S H0 H' l:=by
 obtain⟨k,kP,w,hc⟩:=h;exact⟨k.trans (e.kp _),kP,w.ext e,hc⟩
theorem Lo.iZ{l:List Ob}(h:Lx H0 H l):Ext H0 H:=h.kp.ext fun _ _=>id
theorem Lo.add(h:Lo S H0 H l)(e:Ext H H'){x:Ob}{O:Nat->Prop}(hx:x.at_ H' O)(hO:∀ b,O b->H.size<=b):Lo S H0 H' (l++[x]):=by
 obtain⟨k,kP,w,hc⟩:=h;obtain⟨pM,w',hg⟩:=w.add e hx hO;exact⟨k.trans (e.kp _),pM,w',fun b hb hn=>hc b hb (by rw[<- hg b (jj hb k.le)];exact hn)⟩
theorem Lo.new(h:Lo S H0 H l)(e:Ext H H'){x:Ob}(hx:oh H H' x):Lo S H0 H' (l++[x]):=by
 obtain⟨O,h1,h2⟩:=hx;exact h.add e h1 h2
theorem Lo.get(h:Lo S H0 H l){i:Nat}{x:Ob}(hx:l[i]?=some x):∃ O,x.at_ H O:=by
 obtain⟨k,kP,w,hc⟩:=h;exact⟨_,w.get hx⟩
theorem Lo.out(h:Lo S H0 H l){i:Nat}{x:Ob}(hx:l[i]?=some x):∃ O,x.at_ H O/\∀ b,O b->S b\/H0.size<=b:=by
 obtain⟨k,kP,w,hc⟩:=h;refine⟨_,w.get hx,fun b hb=>?_⟩;have hb:kP b=i+1:=hb;rcases jx b H0.size with h1 | h1
 ·exact .inl (hc b h1 (by omega))
 ·exact .inr h1
theorem Lo.nY(h:Lx H0 H l){i:Nat}{x:Ob}(hx:l[i]?=some x):oh H0 H x:=by
 obtain⟨O,h1,h2⟩:=h.out hx;exact⟨O,h1,fun b hb=>(h2 b hb).resolve_left id⟩
theorem Lo.step(h:Lo S H0 H l){i:Nat}{x:Ob}(hx:l[i]?=some x):∃ O,x.at_ H O/\∀ (H':Hp) (x':Ob) (O':Nat->Prop),Kp O H H'->x'.at_ H' O'->(∀ b,O' b->O b\/H.size<=b)->Lo S H0 H' (l.set i x'):=by
 obtain⟨k,kP,w,hc⟩:=h;refine⟨_,w.get hx,fun H' x' O' k' AQ hO=>?_⟩;obtain⟨pM,w',hg⟩:=w.step hx k' AQ hO;refine⟨k.tr k' (fun _ _ hb=>hb) fun b hb qO=>?_,pM,w',fun b hb hn=>hc b hb (by rw[<- hg b (jj hb k.le)];exact hn)⟩;have qO:kP b=i+1:=qO;exact hc b hb (by omega)
theorem Lo.take{m:List Ob}(h:Lo S H0 H (l++m)):Lo S H0 H l:=by
 obtain⟨k,kP,w,hc⟩:=h;refine⟨k,fun b=>if kP b<=l.length then kP b else 0,⟨fun i x hx=>?_,fun b hb=>by simp[w.out b hb]⟩,fun b hb hn=>hc b hb fun e=>hn (by simp[e])⟩;have kI:i<l.length:=by
  rcases jx i l.length with h1 | h1
  ·exact h1
  ·rw[eR h1]at hx;cases hx
 have AQ:(l++m)[i]?=some x:=by rw[ko kI];exact hx
 have ho:=w.get AQ;refine x.frame ho (fun _ _=>rfl) (iU _) (fun b hb=>?_) fun b hb=>?_
 ·have hb:kP b=i+1:=hb;show(if kP b<=l.length then kP b else 0)=i+1;rw[aU (by omega)];exact hb
 ·have hb:(if kP b<=l.length then kP b else 0)=i+1:=hb;split at hb
  ·exact x.own ho b hb
  ·omega
theorem Lo.takeN(h:Lo S H0 H l)(n:Nat):Lo S H0 H (l.take n):=by
 rw[<- nf n l]at h;exact h.take
theorem Lo.box{T:TypeId}{v:Value}{K:Value->Hp->Prop}(h:Lo S H0 H l)(k:∀ b H',Ext H H'->Lo S H0 H' (l++[.box b v.cells T])->K (.pointer (some ⟨b,0,none⟩)) H'):kT T v H K:=
 Z9 fun b H' hb e hs g=>k b H' e (h.add (O:=(·=b)) e ⟨⟨g,rfl⟩,fun c hc=>by omega⟩ fun c hc=>by omega)
theorem Lo.at(h:Lo S H0 H l){i b:Nat}{c:Array Value}{T:TypeId}(hi:l[i]?=some (.box b c T)):H[b]?=some (.cells c T):=by
 obtain⟨O,ho⟩:=h.get hi;exact ho.1.1
theorem Lo.put(h:Lo S H0 H l){i b:Nat}{c c':Array Value}{T:TypeId}(hi:l[i]?=some (.box b c T))(k:Kp (·=b) H H')(hs:H'.size=H.size)(hg:H'[b]?=some (.cells c' T)):Lo S H0 H' (l.set i (.box b c' T)):=by
 obtain⟨O,ho,st⟩:=h.step hi;exact st H' _ O (k.mono fun x _ e=>e ▸ ho.1.2) ⟨⟨hg,ho.1.2⟩,fun x hx=>by rw[hs];exact ho.2 x hx⟩ fun x hx=>.inl hx
theorem Lo.st{K:Hp->Prop}(h:Lo S H0 H l){i b j:Nat}{c:Array Value}{T:TypeId}{v:Value}(hi:l[i]?=some (.box b c T))(hj:j<c.size)(hv:v.oneCell'=true)(hc:v.cells=#[v])
   (k:∀ H',Lo S H0 H' (l.set i (.box b (c.setIfInBounds j v) T))->K H'):Pu (zY (some 1) (.pointer (some ⟨b,j,none⟩)) v H) K:=
 ZQ (h.at hi) hj hv hc fun H' k' hs g=>k H' (h.put hi k' hs g)
theorem Lo.XN{K:Hp->Prop}(h:Lo S H0 H l){i b j n:Nat}{c vs:Array Value}{T:TypeId}(hi:l[i]?=some (.box b c T))(hj:j+n<=c.size)(hn:vs.size=n)(hv:zv vs)
   (k:∀ H',Lo S H0 H' (l.set i (.box b (zL c j vs) T))->K H'):Pu (zY (some n) (.pointer (some ⟨b,j,none⟩)) (.agg vs) H) K:=
 uW (h.at hi) hj hn hv fun H' k' hs g=>k H' (h.put hi k' hs g)
theorem Lo.jE{K:Hp->Prop}(h:Lo S H0 H l){i b n:Nat}{c vs:Array Value}{T:TypeId}(hi:l[i]?=some (.box b c T))(hj:c.size=n)(hn:vs.size=n)(hv:zv vs)
   (k:∀ H',Lo S H0 H' (l.set i (.box b vs T))->K H'):Pu (zY (some n) (.pointer (some ⟨b,0,none⟩)) (.agg vs) H) K:=
 Zc (h.at hi) hj hn hv fun H' k' hs g=>k H' (h.put hi k' hs g)
theorem Lo.sv(h:Lo S H0 H l){i T n:Nat}{s:Value}{vs:List (Array Value)}(hi:l[i]?=some (.sl T n s vs)):Sv T n H s vs:=by
 obtain⟨O,ho⟩:=h.get hi;exact ho.1.1
theorem Lo.nt(h:Lo S H0 H l)(T n:Nat):Lo S H0 H (l++[.sl T n (.slice none 0 0) []]):=h.new (Ext.refl H) (oh.nt H T n)
theorem Lo.app{e:ZX}{T T' n:Nat}{K:Value->Hp->Prop}(h:Lo S H0 H l){i:Nat}{s x:Value}{vs us:List (Array Value)}(hi:l[i]?=some (.sl T n s vs))(hT:e.type=T)(hs:e.size=n)(hz:e.zero.size=n)(AE:0<e.bytes)(hx:Sv T' n H x us)(kD:∀ u∈us,zv u)
   (nu:(vs.length+us.length)*e.bytes<=2 ^ 47) (k:∀ s' H',Lo S H0 H' (l.set i (.sl T n s' (vs++us)))->K s' H'):mD (some e) s x H K:=by
 obtain⟨O,ho,st⟩:=h.step hi
 refine tE hT hs hz AE ho.1.1 hx kD nu fun s' H' sv k' hb=>k s' H' (st H' _ (fun b=>O b\/H.size<=b/\b<H'.size) (k'.mono fun b _ e=>ho.1.2 b e) ⟨⟨sv,fun b hh=>?_⟩,fun b hh=>?_⟩ fun b hh=>?_)
 · rcases hb b hh with h1 | h1
   · exact .inl (ho.1.2 b h1)
   · exact .inr ⟨h1,sv.lt hh⟩
 · rcases hh with h1 | h1
   · exact jj (ho.2 b h1) k'.le
   · exact h1.2
 · rcases hh with h1 | h1
   · exact .inl h1
   · exact .inr h1.1
theorem Lo.alY{e:ZX}{T n:Nat}{K:Value->Hp->Prop}(h:Lo S H0 H l){i:Nat}{s:Value}{c:Array Value}{vs:List (Array Value)}(hi:l[i]?=some (.sl T n s vs))(hT:e.type=T)(hs:e.size=n)(hz:e.zero.size=n)(AE:0<e.bytes)(hc:c.size=n)(kD:zv c)
   (nu:(vs.length+1)*e.bytes<=2 ^ 47) (k:∀ s' H',Lo S H0 H' (l.set i (.sl T n s' (vs++[c])))->K s' H'):nK e.type 1 c H fun x H2=>mD (some e) s x H2 K:=
 pK fun b H2 hb e2 sH g=>(h.ext e2).app hi hT hs hz AE (Sv.single g hc) (by simpa using kD) (by simpa using nu) k
theorem Lo.afl{T n:Nat}{K:Hp->Prop}(h:Lo S H0 H l){i j:Nat}{s:Value}{c:Array Value}{vs:List (Array Value)}(hi:l[i]?=some (.sl T n s vs))(hj:j<vs.length)(hc:c.size=n)(kD:zv c)(k:∀ H',Lo S H0 H' (l.set i (.sl T n s (vs.set j c)))->K H') :
   ∃ b o,(∀ k,zG (some (none,n)) s (.int k j)=some (.pointer (some ⟨b,o,none⟩)))/\Pu (zY (some n) (.pointer (some ⟨b,o,none⟩)) (.agg c) H) K:=by
 obtain⟨O,ho,st⟩:=h.step hi
 obtain⟨b,o,h1,h2,h3⟩:=Sv.put (K:=K) ho.1.1 hj hc kD
 refine⟨b,o,h2,h3 fun H' k' hs sv=>k H' (st H' _ O (k'.mono fun x _ e=>e ▸ ho.1.2 b h1) ⟨⟨sv,ho.1.2⟩,fun x hx=>by rw[hs];exact ho.2 x hx⟩ fun x hx=>.inl hx)⟩
end
structure mu(n:Nat)(c:Array Value):Prop where
 size:c.size=n
 cell:∀ i,i<n->∃ m:Nat,m<256/\c[i]?=some (.int .u8 m)
theorem jR.n{c:Array Value}(h:jR c):mu 1024 c:=⟨h.size,h.cell⟩
theorem mu.b{c:Array Value}(h:mu 1024 c):jR c:=⟨h.size,h.cell⟩
section
variable{n:Nat}{c a:Array Value}
theorem mu.get(h:mu n c){i:Nat}(hi:i<n):c[i]?=some (.int .u8 (kv c i)):=by
 obtain⟨m,_,hm⟩:=h.cell i hi;simp[kv,hm]
theorem mu.lt(h:mu n c)(i:Nat):kv c i<256:=by
 by_cases hi:i<n
 ·obtain⟨m,h1,hm⟩:=h.cell i hi;simpa[kv,hm]using h1
 ·have:c[i]?=none:=iQ (by rw[h.size];omega);simp[kv,this]
theorem mu.set(h:mu n c)(k:Nat){m:Nat}(hm:m<256):mu n (c.setIfInBounds k (.int .u8 m)):=by
 refine⟨by simp[h.size],fun i hi=>?_⟩;rw[iY];by_cases hk:k=i
 ·subst hk;exact⟨m,hm,by simp[h.size,hi]⟩
 ·rw[aH hk];exact h.cell i hi
theorem mu.oL(h:mu n c){k:Nat}(hk:k<n)(m i:Nat):kv (c.setIfInBounds k (.int .u8 m)) i=if k=i then m else kv c i:=by
 unfold kv;rw[iY];by_cases Sb:k=i
 ·subst Sb;simp[h.size,hk]
 ·simp[Sb]
theorem mu.ext(ha:mu n a)(hc:mu n c)(h:∀ i,i<n->kv a i=kv c i):a=c:=by
 apply jm;intro i;by_cases hi:i<n
 ·rw[ha.get hi,hc.get hi,h i hi]
 ·rw[iQ (by rw[ha.size];omega),iQ (by rw[hc.size];omega)]
theorem mu.ok(h:mu n c):zv c:=by
 unfold zv;rw[Array.all_eq_true];intro i hi;have h1:=h.get (i:=i) (by rw[<- h.size];exact hi);rw[ka hi]at h1;injection h1 with h1;rw[h1];rfl
theorem yz(n:Nat):mu n (Array.replicate n (.int .u8 0)):=⟨by simp,fun i hi=>⟨0,by omega,by simp[kX,hi]⟩⟩
theorem Tu(n i:Nat):kv (Array.replicate n (.int .u8 0)) i=0:=by
 unfold kv;rw[kX];split<;>rename_i h<;>split at h<;>simp_all
end
def nQ(c:Array Value):Nat->Nat->Nat
 | _,0=>0
 | o,n+1=>kv c o+256*nQ c (o+1) n
def nW:Array Value->Nat->Nat->Nat->Array Value
 | c,_,0,_=>c
 | c,o,n+1,v=>nW (c.setIfInBounds o (.int .u8 (v % 256:Nat))) (o+1) n (v / 256)
section
variable{m:Nat}{c a:Array Value}
theorem xF(h:∀ i,kv c i<256):∀ (n o:Nat),nQ c o n<256 ^ n
 | 0,o=>by simp[nQ]
 | n+1,o=>by
  have h1:=h o;have h2:=xF h n (o+1);unfold nQ;rw[sE];omega
theorem qc:∀ (n o o':Nat),(∀ i,i<n->kv a (o+i)=kv c (o'+i))->nQ a o n=nQ c o' n
 | 0,_,_,_=>rfl
 | n+1,o,o',h=>by
  unfold nQ;have h0:=h 0 (by omega);rw[bH,bH]at h0;rw[h0,qc n (o+1) (o'+1) fun i hi=>by have:=h (i+1) (by omega);rw[show o+1+i=o+(i+1) by omega,show o'+1+i=o'+(i+1) by omega];exact this]
theorem Y9:∀ (n o v:Nat) {c:Array Value},mu m c->mu m (nW c o n v)
 | 0,_,_,_,h=>h
 | n+1,o,v,_,h=>Y9 n (o+1) (v / 256) (h.set o (kV _ (by omega)))
theorem Bt:∀ (n o v:Nat) {c:Array Value},mu m c->o+n<=m->∀ j,kv (nW c o n v) j=if o<=j/\j<o+n then v / 256 ^ (j - o) % 256 else kv c j
 | 0,o,v,c,h,ho,j=>by rw[aH (by omega)];rfl
 | n+1,o,v,c,h,ho,j=>by
  unfold nW;rw[Bt n (o+1) (v / 256) (h.set o (kV _ (by omega))) (by omega) j,h.oL (by omega)];by_cases h1:o=j
  ·subst h1;rw[aH (by omega),aU rfl,aU (by omega),nM,ad6,Nat.div_one]
  ·rw[aH h1];by_cases h2:o+1<=j/\j<o+1+n
   ·rw[aU h2,aU (by omega),o0,show j - o=(j - (o+1))+1 by omega,sE,Nat.mul_comm 256]
   ·rw[aH h2,aH (by omega)]
theorem Cs:∀ (n o v:Nat),(∀ i,i<n->kv c (o+i)=v / 256 ^ i % 256)->nQ c o n=v % 256 ^ n
 | 0,_,v,_=>by simp[nQ,Nat.mod_one]
 | n+1,o,v,h=>by
  unfold nQ;have h0:=h 0 (by omega);rw[ad6,Nat.div_one,bH]at h0;rw[h0,Cs n (o+1) (v / 256) fun i hi=>by
   have:=h (i+1) (by omega);rw[show o+1+i=o+(i+1) by omega,this,o0,sE,Nat.mul_comm 256]]
  rw[sE,Nat.mul_comm (256 ^ n) 256,Nat.mod_mul]
theorem Ga(h:mu m c){n o:Nat}(ho:o+n<=m)(v:Nat):nQ (nW c o n v) o n=v % 256 ^ n:=
 Cs n o v fun i hi=>by rw[Bt n o v h ho,aU (by omega),Nat.add_sub_cancel_left]
theorem qE(h:mu m c){n o:Nat}(ho:o+n<=m)(v:Nat){n' o':Nat}(hd:o'+n'<=o\/o+n<=o'):nQ (nW c o n v) o' n'=nQ c o' n':=
 qc n' o' o' fun i hi=>by rw[Bt n o v h ho,aH (by omega)]
theorem Il(h:∀ i,kv c i=0):∀ (n o:Nat),nQ c o n=0
 | 0,_=>rfl
 | n+1,o=>by unfold nQ;rw[h,Il h n]
end
abbrev kM:=Nat->Nat
def fo(j:Nat):Nat:=if j<2 then 2*j else 4*(j - 1)
def fw(j:Nat):Nat:=if j<2 then 2 else 4
def zS(f:kM):Array Value:=#[.int .u16 (f 0),.int .u16 (f 1),.int .u32 (f 2),.int .u32 (f 3),.int .u32 (f 4),.int .u32 (f 5),.int .u32 (f 6),.int .u32 (f 7),.int .u32 (f 8),.int .u32 (f 9),.int .u32 (f 10),.int .u32 (f 11),.int .u32 (f 12),.int .u32 (f 13),.int .u32 (f 14),.int .u32 (f 15)]
def lE(f:kM):Prop:=∀ j,j<16->f j<256 ^ fw j
def ZD(c:Array Value)(o:Nat):kM:=fun j=>nQ c (o+fo j) (fw j)
def mH(c:Array Value)(o:Nat)(f:kM):Nat->Array Value
 | 0=>c
 | j+1=>nW (mH c o f j) (o+fo j) (fw j) (f j)
def mP(f:kM):Array Value:=mH (Array.replicate 64 (.int .u8 0)) 0 f 16
theorem E1{j:Nat}(h:j<16):fo j+fw j<=60:=by unfold fo fw;split<;>omega
theorem adv{i j:Nat}(h:i≠j):fo i+fw i<=fo j\/fo j+fw j<=fo i:=by
 unfold fo fw;split<;>split<;>omega
section
variable{m:Nat}{c a:Array Value}{f:kM}
theorem Y1(h:mu m c)(o:Nat):∀ n,mu m (mH c o f n)
 | 0=>h
 | n+1=>Y9 _ _ _ (Y1 h o n)
theorem RH(h:mu m c){o:Nat}(ho:o+60<=m):∀ n,n<=16->∀ j,(j<o\/o+60<=j)->kv (mH c o f n) j=kv c j
 | 0,_,_,_=>rfl
 | n+1,hn,j,hj=>by
  have:=E1 (j:=n) (by omega);unfold mH;rw[Bt _ _ _ (Y1 h o n) (by omega),aH (by omega),RH h ho n (by omega) j hj]
theorem Im(h:mu m c){o:Nat}(ho:o+60<=m):∀ n,n<=16->∀ j,j<n->nQ (mH c o f n) (o+fo j) (fw j)=f j % 256 ^ fw j
 | 0,_,_,hj=>by omega
 | n+1,hn,j,hj=>by
  have h1:=E1 (j:=n) (by omega);unfold mH;by_cases hjn:j=n
  ·subst hjn;exact Ga (Y1 h o j) (by omega) _
  ·have:=adv (i:=j) (j:=n) hjn;rw[qE (Y1 h o n) (by omega) _ (by omega)];exact Im h ho n (by omega) j (by omega)
theorem ZG(f:kM):mu 64 (mP f):=Y1 (yz 64) 0 16
theorem SY(hf:lE f){j:Nat}(hj:j<16):nQ (mP f) (fo j) (fw j)=f j:=by
 have:=Im (f:=f) (yz 64) (o:=0) (by omega) 16 (by omega) j hj;rw[aR]at this;unfold mP;rw[this,mf (hf j hj)]
theorem rT(h:mu m c){o k:Nat}(ha:mu k a)(ho:o+k<=m)(j:Nat):kv (zL c o a) j=if o<=j/\j<o+k then kv a (j - o) else kv c j:=by
 unfold kv;rw[zH (by rw[ha.size,h.size];exact ho),ha.size];by_cases h1:j<o
 ·rw[aU h1,aH (by omega)]
 ·rw[aH h1];by_cases h2:j<o+k
  ·rw[aU h2,aU (by omega)]
  ·rw[aH h2,aH (by omega)]
theorem yc(h:mu m c){o k:Nat}(ha:mu k a)(ho:o+k<=m):mu m (zL c o a):=by
 refine⟨by rw[zO (by rw[ha.size,h.size];exact ho),h.size],fun i hi=>?_⟩;rw[zH (by rw[ha.size,h.size];exact ho),ha.size];split
 ·exact h.cell i hi
 ·split
  ·exact ha.cell _ (by omega)
  ·exact h.cell i hi
theorem Gd(h:mu m c){o:Nat}(ho:o+64<=m)(hf:lE f){j:Nat}(hj:j<16):ZD (zL c o (mP f)) o j=f j:=by
 have h1:=E1 hj;rw[<- SY hf hj];unfold ZD;refine qc _ _ _ fun i hi=>?_;rw[rT h (ZG f) ho,aU (by omega)];congr 1;omega
theorem Iu(h:mu m c){o o':Nat}(ha:mu 64 a)(ho:o+64<=m)(hd:o'+64<=o\/o+64<=o'){j:Nat}(hj:j<16):ZD (zL c o a) o' j=ZD c o' j:=by
 have h1:=E1 hj;unfold ZD;refine qc _ _ _ fun i hi=>?_;rw[rT h ha ho,aH (by omega)]
theorem Iv(h:∀ i,kv c i<256)(o:Nat):lE (ZD c o):=fun j hj=>xF h _ _
theorem zt(f:kM):(zS f).size=16:=rfl
theorem ZA(f:kM):zv (zS f):=by unfold zv;rw[<- iV];rfl
theorem yH{f g:kM}(h:∀ j,j<16->f j=g j):zS f=zS g:=by
 unfold zS;rw[h 0 (by omega),h 1 (by omega),h 2 (by omega),h 3 (by omega),h 4 (by omega),h 5 (by omega),h 6 (by omega),h 7 (by omega),h 8 (by omega),h 9 (by omega),h 10 (by omega),h 11 (by omega),h 12 (by omega),h 13 (by omega),h 14 (by omega),h 15 (by omega)]
end
def sg(n st tn k:Nat):Nat:=(st+k*tn) % n
theorem QE{n st tn k:Nat}(h:0<n):sg n st tn k<n:=kV _ h
theorem Vk{n st tn k:Nat}:(sg n st tn k+tn) % n=sg n st tn (k+1):=by
 unfold sg;rw[Nat.mod_add_mod,kn,kY,Nat.add_assoc]
theorem QF{n st tn i k:Nat}(hc:Nat.gcd tn n=1)(hi:i<n)(hk:k<n)(h:sg n st tn i=sg n st tn k):i=k:=by
 have key:∀ a b:Nat,a<=b->b<n->sg n st tn a=sg n st tn b->a=b:=by
  intro a b II hb he;unfold sg at he;have h1:n ∣ (st+b*tn) - (st+a*tn):=by
   have:=Nat.mod_add_div (st+a*tn) n;have h2:=Nat.mod_add_div (st+b*tn) n;refine⟨(st+b*tn) / n - (st+a*tn) / n,?_⟩;rw[Nat.mul_sub];have:=jU tn II;omega
  have h2:(st+b*tn) - (st+a*tn)=(b - a)*tn:=by rw[Nat.sub_mul];have:=jU tn II;omega
  rw[h2]at h1;have h3:n ∣ b - a:=Nat.Coprime.dvd_of_dvd_mul_right (show Nat.Coprime n tn by rw[Nat.Coprime,Nat.gcd_comm];exact hc) h1;rcases Nat.eq_zero_or_pos (b - a) with h4 | h4
  ·omega
  ·have:=Nat.le_of_dvd h4 h3;omega
 rcases Nat.le_total i k with h1 | h1
 ·exact key i k h1 hk h
 ·exact(key k i h1 hi h.symm).symm
theorem QG{n st tn:Nat}(hn:0<n)(hc:Nat.gcd tn n=1){p:Nat}(hp:p<n):∃ k,k<n/\sg n st tn k=p:=by
 have lj:((List.range n).map (sg n st tn)).Nodup:=
  List.pairwise_map.2 (List.Pairwise.imp_of_mem (fun ha hb jZ h=>jZ (QF hc (ki.1 ha) (ki.1 hb) h)) (List.nodup_range (n:=n)))
 by_cases hm:p∈(List.range n).map (sg n st tn)
 ·obtain⟨k,hk,h⟩:=iT.1 hm;exact⟨k,ki.1 hk,h⟩
 ·have h1:(p :: (List.range n).map (sg n st tn)).Nodup:=jo.2 ⟨hm,lj⟩;have:=h1.length_le_of_subset (l₂:=List.range n) fun x hx=>by
   rcases jg.1 hx with rfl | hx
   ·exact ki.2 hp
   ·obtain⟨k,_,rfl⟩:=iT.1 hx;exact ki.2 (QE hn)
  simp at this;omega
end Go.Vc
namespace Go.Proofs
open Go.Vc
section
variable(v0 v1 v2 v3 v4 v5 v6 v7 v8:Value)(H:Hp)(R:Value->Hp->Prop)
def sh121:Prop:=kT 54 v1 H fun f q=>Uz 54 q fun i r=>Uz 65 r fun g s=>Uo (n:=1) ((Uv 0),()) s (fun j a h=>Uj (n:=1) (fun t b=>hU t.1 (Ui 2 v2 a.1 fun u=>UL 2 u b fun v=>Uf 166 #[v] b fun k w=>Ux k 0 fun x=>Ux k 1 fun ao=>Uz 237 w fun l y=>Us 16 l x y fun z=>Uo (n:=1) ((Uv 0),()) z (fun A c d=>Ub .lss c.1 (Uv 16) fun B=>hU B (Ub .mul a.1 (Uv 16) fun C=>Ub .rem C (Uv 1024) fun D=>Ub .add D c.1 fun E=>Uk 16 1 l c.1 fun F=>Ul F d fun G=>Uk 1024 1 g E fun I=>Us 1 I G d fun J=>Ub .add c.1 (Uv 1) fun K=>A (K,()) J) (Uj (n:=1) (fun L e=>hU L.1 (UL 16 f e fun M=>Ub .mul a.1 (Uv 16) fun N=>Ub .quo N (Uv 1024) fun O=>UL 1024 g e fun P=>Uf 122 #[v0,M,O,P] e fun Q T=>Us 16 f Q T fun V=>Pu (zo TP 65 []) fun W=>Us 1024 g W V fun X=>Ub .add a.1 (Uv 1) fun Y=>j (Y,()) X) (Ub .add a.1 (Uv 1) fun Z=>j (Z,()) e)) (fun m=>Ub .mul a.1 (Uv 16) fun aa=>Ub .rem aa (Uv 1024) fun ab=>Ub .eql ab (Uv 1008) fun ac=>hU ac (m (U1,()) d) (Ug 140 v2 fun ad=>Ub .sub ad (Uv 1) fun ae=>Ub .eql a.1 ae fun af=>m (af,()) d))))) (UL 16 f b fun ag=>Us 16 i ag b fun o=>UL 16 i o fun ah=>R ah o)) (fun p=>Ug 140 v2 fun ai=>Ub .lss a.1 ai fun aj=>hU aj (UI v0 fun ak=>UA 13 ak fun al=>Ul al h fun am=>Uu am fun an=>p (an,()) h) (p (U0,()) h)))
def sh122:Prop:=kT 54 v1 H fun a O=>kT 65 v3 O fun l P=>Uz 54 P fun b m=>Uj (n:=0) (fun bI c=>UI v0 fun Q=>UA 13 Q fun T=>Ul T c fun V=>hU V (UL 16 a c fun W=>Us 16 b W c fun o=>UL 16 b o fun X=>R X o) (Ub .lss v2 (Uv 10) fun Y=>hU Y (Uf 167 #[v0] c fun p i=>UI v0 fun Z=>UA 13 Z fun aa=>Ul aa i fun ab=>hU ab (UL 16 a i fun ac=>Us 16 b ac i fun q=>UL 16 b q fun ad=>R ad q) (Pu (Ze (some (.int .i64)) (some (.int .u32)) p) fun ae=>UA 4 a fun af=>Uk 10 1 af v2 fun ag=>Us 1 ag ae i fun r=>UA 3 a fun ah=>Ul ah r fun ai=>Pu (z8 (some (.int .u32)) .add ai (.int .u32 1)) fun aj=>UA 3 a fun ak=>Us 1 ak aj r fun j=>UI v0 fun al=>UA 9 al fun am=>Ul am j fun an=>UL 1024 l j fun ao=>Ui 1024 an p fun ap=>Us 1024 ap ao j fun s=>UL 16 a s fun aq=>Us 16 b aq s fun t=>UL 16 b t fun ar=>R ar t)) (UA 14 a fun au=>Ul au c fun av=>Pu (Ze (some (.int .u32)) (some (.int .i64)) av) fun aw=>Ub .sub v2 (Uv 10) fun ax=>Uj (n:=2) (fun d u=>Uj (n:=1) (fun e f=>UI v0 fun ay=>UA 13 ay fun az=>Ul az f fun aA=>hU aA (UL 16 a f fun aB=>Us 16 b aB f fun v=>UL 16 b v fun aC=>R aC v) (Uj (n:=2) (fun w aD=>Uf 167 #[v0] aD fun x g=>UI v0 fun aE=>UA 13 aE fun aF=>Ul aF g fun aG=>hU aG (UL 16 a g fun aI=>Us 16 b aI g fun y=>UL 16 b y fun aJ=>R aJ y) (UA 3 a fun aK=>Ul aK g fun aL=>Pu (z8 (some (.int .u32)) .add aL (.int .u32 1)) fun aM=>UA 3 a fun aN=>Us 1 aN aM g fun aO=>Uf 169 #[v0,w.1,w.2.1,x] aO fun bJ k=>UI v0 fun aP=>UA 9 aP fun aQ=>Ul aQ k fun aS=>UL 1024 l k fun aT=>Ui 1024 aS x fun aV=>Us 1024 aV aT k fun z=>UL 16 a z fun aW=>Us 16 b aW z fun A=>UL 16 b A fun aX=>R aX A)) (fun B=>Ub .lss v2 (Uv 266) fun aY=>hU aY (Pu (Ze (some (.int .i64)) (some (.int .u32)) e.1) fun aZ=>UA 14 a fun a0=>Us 1 a0 aZ f fun a1=>B (e.1,d.2.1,()) a1) (Pu (Ze (some (.int .i64)) (some (.int .u32)) e.1) fun a2=>UA 15 a fun a3=>Us 1 a3 a2 f fun a4=>Uf 168 #[v0,e.1,d.2.1] a4 fun C D=>Uj (n:=1) (fun a5 a6=>Ub .sub v2 (Uv 10) fun a7=>Ub .sub a7 (Uv 256) fun a8=>Ub .rem a8 (Uv 256) fun a9=>B (a5.1,a9,()) a6) (fun E=>Ub .eql C (Uv 0) fun ba=>hU ba (Uf 167 #[v0] D fun F h=>UI v0 fun bb=>UA 13 bb fun bc=>Ul bc h fun bd=>hU bd (UL 16 a h fun be=>Us 16 b be h fun G=>UL 16 b G fun bf=>R bf G) (UA 3 a fun bg=>Ul bg h fun bh=>Pu (z8 (some (.int .u32)) .add bh (.int .u32 1)) fun bi=>UA 3 a fun bj=>Us 1 bj bi h fun bk=>Uf 169 #[v0,e.1,d.2.1,F] bk fun bK bl=>E (F,()) bl)) (E (C,()) D)))))) (fun I=>Ub .eql d.1 (Uv 0) fun bm=>hU bm (Uf 167 #[v0] u fun bn J=>UA 3 a fun bo=>Ul bo J fun bp=>Pu (z8 (some (.int .u32)) .add bp (.int .u32 1)) fun bq=>UA 3 a fun br=>Us 1 br bq J fun bs=>I (bn,()) bs) (I (d.1,()) u))) (fun K=>Ub .geq v2 (Uv 266) fun bt=>hU bt (UA 15 a fun bu=>Ul bu c fun bv=>Pu (Ze (some (.int .u32)) (some (.int .i64)) bv) fun bw=>Ub .sub v2 (Uv 10) fun bx=>Ub .sub bx (Uv 256) fun bz=>Ub .quo bz (Uv 256) fun bA=>K (bw,bA,()) c) (K (aw,ax,()) c))))) (fun L=>Uj (n:=1) (fun bB M=>hU bB.1 (UI v0 fun bC=>UA 13 bC fun bD=>Us 1 bD U1 M fun bE=>L (()) bE) (L (()) M)) (fun N=>Ub .lss v2 (Uv 0) fun bF=>hU bF (N (U1,()) m) (Ub .geq v2 (Uv 65802) fun bG=>N (bG,()) m)))
def sh168:Prop:=Uo (n:=2) ((Uv 0),(Uv 3),()) H (fun c a b=>Ub .geq a.2.1 (Uv 0) fun d=>hU d (Ub .mul (Uv 256) a.1 fun e=>UI v0 fun f=>UA 9 f fun g=>Ul g b fun h=>Ub .mul (Uv 4) v2 fun i=>Ub .add i a.2.1 fun j=>Ui 1024 h v1 fun k=>Uk 1024 1 k j fun l=>Ul l b fun m=>Pu (Ze (some (.int .u8)) (some (.int .i64)) m) fun o=>Ub .add e o fun p=>Ub .sub a.2.1 (Uv 1) fun q=>c (p,q,()) b) (R a.1 b))
def sh77:Prop:=kT 142 v1 H fun a f=>Uj (n:=1) (fun p g=>hU p.1 (UI v0 fun q=>UA 13 q fun r=>Us 1 r U1 g fun s=>R (.tuple #[]) s) (UA 1 a fun t=>Ul t g fun u=>UA 2 a fun v=>Ul v g fun w=>Pu (Ze (some (.int .i64)) (some (.int .u16)) w) fun x=>UA 3 a fun y=>Ul y g fun z=>Pu (Ze (some (.int .i64)) (some (.int .u32)) z) fun A=>Pu (zo TP 54 [(0,u),(1,x),(2,A)]) fun B=>Uz 54 g fun d C=>Us 16 d B C fun h=>Uj (n:=0) (fun bc D=>Uo (n:=1) ((Uv 0),()) D (fun E i e=>Uj (n:=1) (fun F b=>hU F.1 (UL 16 d b fun G=>UA 5 a fun I=>Ul I b fun J=>Ui 1025 J i.1 fun K=>UA 0 K fun L=>Ul L b fun M=>UA 5 a fun N=>Ul N b fun O=>Ui 1025 O i.1 fun P=>UA 1 P fun Q=>UL 1024 Q b fun T=>Uf 122 #[v0,G,M,T] b fun V W=>Us 16 d V W fun X=>Ub .add i.1 (Uv 1) fun Y=>E (Y,()) X) (UL 16 d b fun Z=>Uf 123 #[Z] b fun aa ab=>Uz 104 ab fun l ac=>Us 64 l aa ac fun ad=>Uo (n:=1) ((Uv 0),()) ad (fun ae j c=>Ub .lss j.1 (Uv 64) fun af=>hU af (UI v0 fun ag=>UA 9 ag fun ah=>Ul ah c fun ai=>UI v0 fun aj=>UA 0 aj fun ak=>UA 4 ak fun al=>Ul al c fun am=>UA 0 a fun an=>Ul an c fun ao=>Ub .quo ao (Uv 16) fun ap=>Ub .add am ap fun aq=>UA 0 a fun ar=>Ul ar c fun au=>Ub .rem au (Uv 16) fun av=>Ub .mul (Uv 64) av fun aw=>Ub .add aw j.1 fun ax=>Uk 64 1 l j.1 fun ay=>Ul ay c fun az=>Ui 1024 ai aq fun aA=>Uk 1024 1 aA ax fun aB=>Us 1 aB az c fun aC=>Ub .add j.1 (Uv 1) fun aD=>ae (aD,()) aC) (R (.tuple #[]) c)))) (fun k=>UA 5 a fun aE=>Ul aE e fun aF=>Ug 79 aF fun aG=>Ub .lss i.1 aG fun aI=>hU aI (UA 1 a fun aJ=>Ul aJ e fun aK=>Pu (z8 (some (.int .u16)) .eql aK (.int .u16 1)) fun aL=>hU aL (UI v0 fun aM=>UA 13 aM fun aN=>Ul aN e fun aO=>Uu aO fun aP=>k (aP,()) e) (k (U0,()) e)) (k (U0,()) e)))) (fun m=>UA 1 a fun aQ=>Ul aQ h fun aS=>Pu (z8 (some (.int .u16)) .eql aS (.int .u16 2)) fun aT=>hU aT (UL 16 d h fun aV=>UA 6 a fun aW=>Ul aW h fun aX=>Uf 121 #[v0,aV,aX] h fun aY aZ=>Us 16 d aY aZ fun a0=>m (()) a0) (m (()) h)))) (fun o=>UA 0 a fun a1=>Ul a1 f fun a2=>Ub .lss a2 (Uv 1) fun a3=>hU a3 (o (U1,()) f) (UA 0 a fun a4=>Ul a4 f fun a5=>UI v0 fun a6=>UA 0 a6 fun a7=>UA 0 a7 fun a8=>UA 2 a8 fun a9=>Ul a9 f fun ba=>Ub .gtr a5 ba fun bb=>o (bb,()) f))
def sh169:Prop:=Uo (n:=2) (v3,(Uv 0),()) H (fun c a b=>Ub .lss a.2.1 (Uv 4) fun d=>hU d (UI v0 fun e=>UA 9 e fun f=>Ul f b fun g=>Ub .mul (Uv 4) v2 fun h=>Ub .add h a.2.1 fun i=>Ub .rem a.1 (Uv 256) fun j=>Pu (Ze (some (.int .i64)) (some (.int .u8)) j) fun k=>Ui 1024 g v1 fun l=>Uk 1024 1 l i fun m=>Us 1 m k b fun o=>Ub .quo a.1 (Uv 256) fun p=>Ub .add a.2.1 (Uv 1) fun q=>c (p,q,()) o) (R (.tuple #[]) b))
def sh167:Prop:=UI v0 fun f=>UA 9 f fun g=>Ul g H fun h=>Ug 43 h fun i=>UI v0 fun j=>UA 0 j fun k=>UA 8 k fun l=>Ul l H fun m=>Ub .sub i m fun d=>Uo (n:=1) ((Uv 0),()) H (fun o e a=>Ub .lss e.1 d fun p=>hU p (UI v0 fun q=>UA 0 q fun r=>UA 8 r fun s=>Ul s a fun t=>UI v0 fun u=>UA 12 u fun v=>Ul v a fun w=>Ub .add t w fun c=>UI v0 fun x=>UA 12 x fun y=>Ul y a fun z=>UI v0 fun A=>UA 11 A fun B=>Ul B a fun C=>Ub .add z C fun D=>Ub .rem D d fun E=>UI v0 fun F=>UA 12 F fun G=>Us 1 G E a fun b=>UI v0 fun I=>UA 10 I fun J=>Ul J b fun K=>Ui 1 K c fun L=>Ul L b fun M=>Uu M fun N=>hU N (UI v0 fun O=>UA 10 O fun P=>Ul P b fun Q=>Ui 1 Q c fun T=>Us 1 T U1 b fun V=>R c V) (Ub .add e.1 (Uv 1) fun W=>o (W,()) b)) (UI v0 fun X=>UA 13 X fun Y=>Us 1 Y U1 a fun Z=>R (Uv 0) Z))
def sh10:Prop:=Ub .rem v0 v1 fun a=>Ub .lss a (Uv 0) fun b=>hU b (Ub .add a v1 fun c=>R c H) (R a H)
def sh80:Prop:=Uz 65 H fun a c=>Ub .add v0 (Uv 1) fun d=>Pu (Ze (some (.int .i64)) (some (.int .u8)) d) fun e=>Ub .add v1 (Uv 1) fun f=>Pu (Ze (some (.int .i64)) (some (.int .u8)) f) fun g=>Pu (zo TP 65 [(0,e),(1,g),(2,(.int .u8 77))]) fun h=>Us 1024 a h c fun b=>UL 1024 a b fun i=>R i b
def sh76:Prop:=Uo (n:=2) (v0,v1,()) H (fun c a b=>Ub .gtr a.2.1 (Uv 0) fun d=>hU d (Ub .rem a.1 a.2.1 fun e=>c (a.2.1,e,()) b) (R a.1 b))
def sh81:Prop:=Uz 81 H fun d h=>Ug 43 v0 fun i=>Pu (zo TP 81 [(0,i)]) fun j=>Uz 81 h fun c k=>Us 2 c j k fun l=>Uo (n:=1) ((Uv 0),()) l (fun e b a=>Ug 43 v0 fun m=>Ub .lss b.1 m fun o=>hU o (Ui 1024 v0 b.1 fun p=>UL 1024 p a fun q=>Pu (zo TP 65 []) fun r=>Pu (ya TP 65 false .neq q r a) fun s=>hU s (UA 1 c fun t=>Ul t a fun u=>Ui 1024 v0 b.1 fun v=>UL 1024 v a fun w=>Pu (zo TP 149 [(0,b.1),(1,w)]) fun x=>Uw a fun y=>Pu (zQ TP 79) fun f=>Pu (zT (some f) 1 [(0,x)]) fun z=>nK f.type 1 z y fun A B=>Uw B fun C=>mD (zQ TP 79) u A C fun D E=>UA 1 c fun F=>Uw E fun G=>Us 1 F D G fun I=>Uw I fun J=>Ub .add b.1 (Uv 1) fun K=>e (K,()) J) (Ub .add b.1 (Uv 1) fun L=>e (L,()) a)) (UL 2 c a fun M=>Us 2 d M a fun g=>UL 2 d g fun N=>R N g))
def sh126:Prop:=kT 65 v0 H fun f c=>Uj (n:=1) (fun g b=>hU g.1 (R U0 b) (Ub .quo v1 (Uv 8) fun h=>Uk 1024 1 f h fun i=>Ul i b fun j=>Pu (Ze (some (.int .u8)) (some (.int .i64)) j) fun k=>Uo (n:=2) (k,(Uv 0),()) b (fun l a d=>Ub .rem v1 (Uv 8) fun m=>Ub .lss a.2.1 m fun o=>hU o (Ub .quo a.1 (Uv 2) fun p=>Ub .add a.2.1 (Uv 1) fun q=>l (p,q,()) d) (Ub .rem a.1 (Uv 2) fun r=>Ub .eql r (Uv 1) fun s=>R s d)))) (fun e=>Ub .lss v1 (Uv 0) fun t=>hU t (e (U1,()) c) (Ub .geq v1 (Uv 8192) fun u=>e (u,()) c))
def sh79:Prop:=kT 65 v0 H fun a l=>Uz 65 l fun d e=>Uj (n:=1) (fun m f=>hU m.1 (UL 1024 a f fun o=>Us 1024 d o f fun h=>UL 1024 d h fun p=>R p h) (Uo (n:=2) ((.int .u8 1),(Uv 0),()) f (fun q b c=>Ub .rem v1 (Uv 8) fun r=>Ub .lss b.2.1 r fun s=>hU s (Pu (z8 (some (.int .u8)) .mul (.int .u8 2) b.1) fun t=>Ub .add b.2.1 (Uv 1) fun u=>q (t,u,()) c) (Uj (n:=0) (fun V i=>UL 1024 a i fun v=>Us 1024 d v i fun j=>UL 1024 d j fun w=>R w j) (fun k=>hU v2 (Ub .quo v1 (Uv 8) fun x=>Ub .quo v1 (Uv 8) fun y=>Uk 1024 1 a y fun z=>Ul z c fun A=>Pu (z8 (some (.int .u8)) .add A b.1) fun B=>Uk 1024 1 a x fun C=>Us 1 C B c fun D=>k (()) D) (Ub .quo v1 (Uv 8) fun E=>Ub .quo v1 (Uv 8) fun F=>Uk 1024 1 a F fun G=>Ul G c fun I=>Pu (z8 (some (.int .u8)) .sub I b.1) fun J=>Uk 1024 1 a E fun K=>Us 1 K J c fun L=>k (()) L)))))) (fun g=>Ub .lss v1 (Uv 0) fun M=>hU M (g (U1,()) e) (Ub .geq v1 (Uv 8192) fun N=>hU N (g (U1,()) e) (UL 1024 a e fun O=>Uf 126 #[O,v1] e fun P Q=>Pu (z8 (some .bool) .eql P v2) fun T=>g (T,()) Q)))
def sh78:Prop:=kT 62 v0 H fun h p=>Uz 65 p fun b i=>UL 9 h i fun q=>Uf 124 #[q] i fun r j=>Uu r fun s=>hU s (Pu (zo TP 65 []) fun t=>Us 1024 b t j fun k=>UL 1024 b k fun u=>R (.tuple #[u,(Uv 2)]) k) (Uz 65 j fun f v=>Uo (n:=1) ((Uv 0),()) v (fun w c g=>Ug 9 (.string ⟨#[99,114,111,102,116,102,115,49]⟩) fun x=>Ub .lss c.1 x fun y=>hU y (Pu (xK TP 9 (.string ⟨#[99,114,111,102,116,102,115,49]⟩) c.1) fun z=>Uk 1024 1 f c.1 fun A=>Us 1 A z g fun B=>Ub .add c.1 (Uv 1) fun C=>w (C,()) B) (UL 9 h g fun D=>Uf 125 #[D] g fun E F=>Uz 198 F fun l G=>Us 9 l E G fun I=>Uo (n:=1) ((Uv 0),()) I (fun J d e=>Ub .lss d.1 (Uv 9) fun K=>hU K (Uk 9 1 l d.1 fun L=>Ul L e fun M=>Uo (n:=2) (M,(Uv 0),()) e (fun N a m=>Ub .lss a.2.1 (Uv 4) fun O=>hU O (Ub .mul (Uv 4) d.1 fun P=>Ub .add (Uv 8) P fun Q=>Ub .add Q a.2.1 fun T=>Ub .rem a.1 (Uv 256) fun V=>Pu (Ze (some (.int .i64)) (some (.int .u8)) V) fun W=>Uk 1024 1 f T fun X=>Us 1 X W m fun Y=>Ub .quo a.1 (Uv 256) fun Z=>Ub .add a.2.1 (Uv 1) fun aa=>N (Z,aa,()) Y) (Ub .add d.1 (Uv 1) fun ab=>J (ab,()) m))) (UL 1024 f e fun ac=>Us 1024 b ac e fun o=>UL 1024 b o fun ad=>R (.tuple #[ad,(Uv 0)]) o)))))
def sh124:Prop:=kT 62 v0 H fun b c=>UA 0 b fun f=>UL 3 f c fun g=>Uf 29 #[g] c fun d h=>Ux d 0 fun i=>Ux d 1 fun j=>Uz 62 h fun e k=>Us 9 e i k fun a=>Ub .eql j (Uv 0) fun l=>hU l (UL 9 e a fun m=>UL 9 b a fun n=>Pu (ya TP 62 false .eql m n a) fun o=>R o a) (R U0 a)
def sh29:Prop:=kT 23 v0 H fun c m=>Uz 62 m fun f b=>Uj (n:=1) (fun o i=>hU o.1 (Pu (zo TP 62 []) fun p=>Us 9 f p i fun j=>UL 9 f j fun q=>R (.tuple #[q,(Uv 2)]) j) (UL 3 c i fun r=>UA 1 c fun s=>Ul s i fun t=>Ub .add (Uv 1) t fun u=>Pu (zo TP 62 [(0,r),(1,(Uv 1)),(2,u)]) fun v=>Uz 62 i fun a w=>Us 9 a v w fun x=>Uo (n:=0) () x (fun y aT d=>UA 5 a fun z=>Ul z d fun A=>Ub .mul (Uv 16) A fun B=>UA 2 c fun C=>Ul C d fun D=>Ub .add D (Uv 1) fun E=>Ub .lss B E fun F=>hU F (UA 5 a fun G=>Ul G d fun I=>Ub .add I (Uv 1) fun J=>UA 5 a fun K=>Us 1 K J d fun L=>y (()) L) (UA 4 a fun M=>Ul M d fun N=>UA 5 a fun O=>Ul O d fun P=>Ub .add N P fun Q=>UA 6 a fun T=>Us 1 T Q d fun V=>Uo (n:=0) () V (fun W aV e=>UA 7 a fun X=>Ul X e fun Y=>Ub .mul (Uv 8192) Y fun Z=>UA 0 c fun aa=>Ul aa e fun ab=>Ub .lss Z ab fun ac=>hU ac (UA 7 a fun ad=>Ul ad e fun ae=>Ub .add ae (Uv 1) fun af=>UA 7 a fun ag=>Us 1 ag af e fun ah=>W (()) ah) (UA 6 a fun ai=>Ul ai e fun aj=>UA 7 a fun ak=>Ul ak e fun al=>Ub .add aj al fun am=>UA 8 a fun an=>Us 1 an am e fun h=>UA 8 a fun ao=>Ul ao h fun ap=>UA 0 c fun aq=>Ul aq h fun ar=>Ub .geq ap ar fun au=>hU au (Pu (zo TP 62 []) fun av=>Us 9 f av h fun k=>UL 9 f k fun aw=>R (.tuple #[aw,(Uv 2)]) k) (UL 9 a h fun ax=>Us 9 f ax h fun l=>UL 9 f l fun ay=>R (.tuple #[ay,(Uv 0)]) l))))))) (fun g=>UA 1 c fun az=>Ul az b fun aA=>Ub .lss aA (Uv 32) fun aB=>hU aB (g (U1,()) b) (UA 1 c fun aC=>Ul aC b fun aD=>Ub .gtr aD (Uv 256) fun aE=>hU aE (g (U1,()) b) (UA 2 c fun aF=>Ul aF b fun aG=>Ub .lss aG (Uv 1) fun aI=>hU aI (g (U1,()) b) (UA 2 c fun aJ=>Ul aJ b fun aK=>Ub .gtr aK (Uv 65535) fun aL=>hU aL (g (U1,()) b) (UA 0 c fun aM=>Ul aM b fun aN=>Ub .gtr aN (Uv 1048576) fun aO=>hU aO (g (U1,()) b) (UA 0 c fun aP=>Ul aP b fun aQ=>Ub .lss aQ (Uv 1) fun aS=>g (aS,()) b))))))
def sh125:Prop:=kT 62 v0 H fun b e=>Uz 198 e fun c a=>UA 0 b fun f=>UA 0 f fun g=>Ul g a fun h=>UA 0 b fun i=>UA 1 i fun j=>Ul j a fun k=>UA 0 b fun l=>UA 2 l fun m=>Ul m a fun n=>UA 3 b fun o=>Ul o a fun p=>UA 4 b fun q=>Ul q a fun r=>UA 5 b fun s=>Ul s a fun t=>UA 6 b fun u=>Ul u a fun v=>UA 7 b fun w=>Ul w a fun x=>UA 8 b fun y=>Ul y a fun z=>Pu (zo TP 198 [(0,h),(1,k),(2,n),(3,p),(4,r),(5,t),(6,v),(7,x),(8,z)]) fun A=>Us 9 c A a fun d=>UL 9 c d fun B=>R B d
def sh123:Prop:=kT 54 v0 H fun b m=>Uz 104 m fun i o=>Uz 104 o fun a e=>UL 64 a e fun p=>UA 0 b fun q=>Ul q e fun r=>Pu (Ze (some (.int .u16)) (some (.int .u32)) r) fun s=>Uf 170 #[p,(Uv 0),(Uv 2),s] e fun t u=>Us 64 a t u fun f=>UL 64 a f fun v=>UA 1 b fun w=>Ul w f fun x=>Pu (Ze (some (.int .u16)) (some (.int .u32)) x) fun y=>Uf 170 #[v,(Uv 2),(Uv 2),y] f fun z A=>Us 64 a z A fun g=>UL 64 a g fun B=>UA 2 b fun C=>Ul C g fun D=>Uf 170 #[B,(Uv 4),(Uv 4),D] g fun E F=>Us 64 a E F fun h=>UL 64 a h fun G=>UA 3 b fun I=>Ul I h fun J=>Uf 170 #[G,(Uv 8),(Uv 4),J] h fun K L=>Us 64 a K L fun j=>UL 16 b j fun M=>Uf 171 #[M] j fun N O=>Uz 244 O fun k P=>Us 12 k N P fun Q=>Uo (n:=1) ((Uv 0),()) Q (fun T d c=>Ub .lss d.1 (Uv 12) fun V=>hU V (UL 64 a c fun W=>Ub .mul (Uv 4) d.1 fun X=>Ub .add (Uv 12) X fun Y=>Uk 12 1 k d.1 fun Z=>Ul Z c fun aa=>Uf 170 #[W,Y,(Uv 4),aa] c fun ab ac=>Us 64 a ab ac fun ad=>Ub .add d.1 (Uv 1) fun ae=>T (ae,()) ad) (UL 64 a c fun af=>Us 64 i af c fun l=>UL 64 i l fun ag=>R ag l))
def sh171:Prop:=kT 54 v0 H fun d i=>Uz 244 i fun e j=>Uz 244 j fun a k=>Uo (n:=1) ((Uv 0),()) k (fun l b c=>Ub .lss b.1 (Uv 10) fun m=>hU m (UA 4 d fun o=>Uk 10 1 o b.1 fun p=>Ul p c fun q=>Uk 12 1 a b.1 fun r=>Us 1 r q c fun s=>Ub .add b.1 (Uv 1) fun t=>l (t,()) s) (UA 14 d fun u=>Ul u c fun v=>Uk 12 1 a (Uv 10) fun w=>Us 1 w v c fun f=>UA 15 d fun x=>Ul x f fun y=>Uk 12 1 a (Uv 11) fun z=>Us 1 z y f fun g=>UL 12 a g fun A=>Us 12 e A g fun h=>UL 12 e h fun B=>R B h))
def sh170:Prop:=kT 104 v0 H fun c f=>Uz 104 f fun d g=>Uo (n:=2) (v3,(Uv 0),()) g (fun h a b=>Ub .lss a.2.1 v2 fun i=>hU i (Ub .add v1 a.2.1 fun j=>Pu (z8 (some (.int .u32)) .rem a.1 (.int .u32 256)) fun k=>Pu (Ze (some (.int .u32)) (some (.int .u8)) k) fun l=>Uk 64 1 c j fun m=>Us 1 m l b fun o=>Pu (z8 (some (.int .u32)) .quo a.1 (.int .u32 256)) fun p=>Ub .add a.2.1 (Uv 1) fun q=>h (p,q,()) o) (UL 64 c b fun r=>Us 64 d r b fun e=>UL 64 d e fun s=>R s e))
def sh166:Prop:=kT 241 v0 H fun c o=>Uz 237 o fun a p=>Uz 237 p fun d b=>UA 0 c fun q=>Ul q b fun r=>Pu (z8 (some (.int .u16)) .eql r (.int .u16 0)) fun s=>hU s (UA 1 c fun t=>Ul t b fun u=>Pu (z8 (some .string) .neq u (.string ⟨#[]⟩)) fun v=>hU v (UL 16 d b fun w=>Us 16 a w b fun h=>UL 16 a h fun x=>R (.tuple #[x,(Uv 4)]) h) (UL 16 d b fun y=>Us 16 a y b fun i=>UL 16 a i fun z=>R (.tuple #[z,(Uv 0)]) i)) (UA 1 c fun A=>Ul A b fun B=>Uf 192 #[B] b fun j f=>Ub .neq j (Uv 0) fun C=>hU C (UL 16 d f fun D=>Us 16 a D f fun k=>UL 16 a k fun E=>R (.tuple #[E,j]) k) (UA 0 c fun F=>Ul F f fun G=>Pu (z8 (some (.int .u16)) .rem G (.int .u16 256)) fun I=>Pu (Ze (some (.int .u16)) (some (.int .u8)) I) fun J=>Uk 16 1 d (Uv 0) fun K=>Us 1 K J f fun l=>UA 0 c fun L=>Ul L l fun M=>Pu (z8 (some (.int .u16)) .quo M (.int .u16 256)) fun N=>Pu (Ze (some (.int .u16)) (some (.int .u8)) N) fun O=>Uk 16 1 d (Uv 1) fun P=>Us 1 P O l fun Q=>Uo (n:=1) ((Uv 0),()) Q (fun T g e=>UA 1 c fun V=>Ul V e fun W=>Ug 9 W fun X=>Ub .lss g.1 X fun Y=>hU Y (Ub .add (Uv 2) g.1 fun Z=>UA 1 c fun aa=>Ul aa e fun ab=>Pu (xK TP 9 ab g.1) fun ac=>Uk 16 1 d Z fun ad=>Us 1 ad ac e fun ae=>Ub .add g.1 (Uv 1) fun af=>T (af,()) ae) (UL 16 d e fun ag=>Us 16 a ag e fun m=>UL 16 a m fun ah=>R (.tuple #[ah,(Uv 0)]) m))))
def sh192:Prop:=Pu (z8 (some .string) .eql v0 (.string ⟨#[]⟩)) fun e=>hU e (R (Uv 4) H) (Uo (n:=1) ((Uv 0),()) H (fun f a b=>Ug 9 v0 fun g=>Ub .lss a.1 g fun h=>hU h (Uj (n:=1) (fun i c=>hU i.1 (R (Uv 4) c) (Ub .add a.1 (Uv 1) fun j=>f (j,()) c)) (fun d=>Pu (xK TP 9 v0 a.1) fun k=>Pu (z8 (some (.int .u8)) .eql k (.int .u8 0)) fun l=>hU l (d (U1,()) b) (Pu (xK TP 9 v0 a.1) fun m=>Pu (z8 (some (.int .u8)) .eql m (.int .u8 47)) fun o=>d (o,()) b))) (Ug 9 v0 fun p=>Ub .gtr p (Uv 14) fun q=>hU q (R (Uv 12) b) (R (Uv 0) b))))
end
variable{v0 v1 v2 v3 v4 v5 v6 v7 v8:Value}{H:Hp}{R:Value->Hp->Prop}
theorem fn121(h:sh121 v0 v1 v2 H R):Fc TP 121 #[v0,v1,v2] H R:=
 xe UQ (.seq .nil (.seq .nil (.seq (.seq .nil (.loop [8] (Ur 12 11++Ur 26 5++[25,31,32,9,10,11,33,34]++Ur 37 9++[35,36]++Ur 46 19++[23,24]) (.seq (.join [22] (Ur 12 10) .nil .nil) (.seq (.seq .nil (.seq (.seq .nil (.loop [11] ([33,34]++Ur 37 9++[35,36]) .nil)) (.join [56] (Ur 46 10) .nil .nil))) .nil)))) .nil))) Tryz.func121 h
theorem fn122(h:sh122 v0 v1 v2 v3 H R):Fc TP 122 #[v0,v1,v2,v3] H R:=
 UG4 UQ (.seq .nil (.join [] (Ur 14 9) (.join [19] (Ur 14 5) .nil .nil) (.seq .nil (.seq .nil (.seq .nil (.seq .nil (.join [10,11] (Ur 59 9) .nil (.join [10] (Ur 68 8) .nil (.seq .nil (.join [10,11] (Ur 81 12++[12]++Ur 93 23) (.seq .nil (.cond .nil (.seq .nil (.seq .nil (.join [12] (Ur 93 18) .nil .nil))))) .nil)))))))))) Tryz.func122 h
theorem fn168(h:sh168 v0 v1 v2 H R):Fc TP 168 #[v0,v1,v2] H R:=
 xe UQ (.seq .nil (.seq .nil (.seq (.seq .nil (.loop [7,8] ([9,10]++Ur 13 16++[11,12]) .nil)) .nil))) Tryz.func168 h
theorem fn77(h:sh77 v0 v1 H R):Fc TP 77 #[v0,v1] H R:=
 mr UQ (.seq .nil (.seq (.join [21] (Ur 8 13) .nil .nil) (.seq .nil (.join [] (Ur 34 8) .nil (.seq (.seq .nil (.loop [5] (Ur 42 17++Ur 61 15++[59,60]) (.seq (.join [58] (Ur 42 16) .nil .nil) .nil))) (.seq .nil (.seq .nil (.loop [7] ([78,79]++Ur 82 24++[80,81]) .nil)))))))) Tryz.func77 h
theorem fn169(h:sh169 v0 v1 v2 v3 H R):Fc TP 169 #[v0,v1,v2,v3] H R:=
 UG4 UQ (.seq .nil (.loop [3,8] ([9,10]++Ur 13 16++[11,12]) .nil)) Tryz.func169 h
theorem fn167(h:sh167 v0 H R):Fc TP 167 #[v0] H R:=
 mU UQ (.seq .nil (.seq .nil (.seq (.seq .nil (.loop [4] ([17,18,19]++Ur 22 10++[5]++Ur 32 29++[2,20,21]) .nil)) .nil))) Tryz.func167 h
theorem fn10(h:sh10 v0 v1 H R):Fc TP 10 #[v0,v1] H R:=
 mr UQ .nil Tryz.func10 h
theorem fn80(h:sh80 v0 v1 H R):Fc TP 80 #[v0,v1] H R:=
 mr UQ .nil Tryz.func80 h
theorem fn76(h:sh76 v0 v1 H R):Fc TP 76 #[v0,v1] H R:=
 mr UQ (.seq .nil (.seq (.loop [0,1] (Ur 5 6) .nil) .nil)) Tryz.func76 h
theorem fn81(h:sh81 v0 H R):Fc TP 81 #[v0] H R:=
 mU UQ (.seq .nil (.seq .nil (.seq (.seq .nil (.loop [4] (Ur 8 4++Ur 14 17++[12,13]) .nil)) .nil))) Tryz.func81 h
theorem fn126(h:sh126 v0 v1 H R):Fc TP 126 #[v0,v1] H R:=
 mr UQ (.seq .nil (.seq (.join [12] (Ur 7 5) .nil .nil) (.seq .nil (.seq (.seq .nil (.loop [5,6] (Ur 18 4++[24,25,22,23]) .nil)) .nil)))) Tryz.func126 h
theorem fn79(h:sh79 v0 v1 v2 H R):Fc TP 79 #[v0,v1,v2] H R:=
 xe UQ (.seq .nil (.seq (.join [21] (Ur 9 12) .nil .nil) (.seq .nil (.seq (.seq .nil (.loop [7,8] (Ur 23 4++[29,30,27,28]) .nil)) (.join [] (Ur 31 19) .nil .nil))))) Tryz.func79 h
theorem fn78(h:sh78 v0 H R):Fc TP 78 #[v0] H R:=
 mU UQ (.seq .nil (.seq .nil (.seq .nil (.seq .nil (.seq .nil (.seq (.seq .nil (.loop [7] (Ur 17 4++Ur 23 5++[21,22]) .nil)) (.seq .nil (.seq (.seq .nil (.loop [9] ([30,31,34,35,36,10,11,37,38]++Ur 41 11++[39,40,32,33]) (.seq .nil (.seq (.seq .nil (.seq .nil (.loop [10,11] ([37,38]++Ur 41 11++[39,40]) .nil))) .nil)))) .nil)))))))) Tryz.func78 h
theorem fn124(h:sh124 v0 H R):Fc TP 124 #[v0] H R:=
 mU UQ .nil Tryz.func124 h
theorem fn29(h:sh29 v0 H R):Fc TP 29 #[v0] H R:=
 mU UQ (.seq .nil (.seq (.join [32] (Ur 5 27) .nil .nil) (.seq .nil (.seq (.loop [] (Ur 39 11) .nil) (.seq .nil (.seq (.loop [] (Ur 56 10) .nil) .nil)))))) Tryz.func29 h
theorem fn125(h:sh125 v0 H R):Fc TP 125 #[v0] H R:=
 mU UQ .nil Tryz.func125 h
theorem fn123(h:sh123 v0 H R):Fc TP 123 #[v0] H R:=
 mU UQ (.seq .nil (.seq .nil (.seq .nil (.seq .nil (.seq .nil (.seq .nil (.seq .nil (.seq (.seq .nil (.loop [5] ([26,27]++Ur 30 8++[28,29]) .nil)) .nil)))))))) Tryz.func123 h
theorem fn171(h:sh171 v0 H R):Fc TP 171 #[v0] H R:=
 mU UQ (.seq .nil (.seq .nil (.seq (.seq .nil (.loop [4] ([5,6]++Ur 9 6++[7,8]) .nil)) .nil))) Tryz.func171 h
theorem fn170(h:sh170 v0 v1 v2 v3 H R):Fc TP 170 #[v0,v1,v2,v3] H R:=
 UG4 UQ (.seq .nil (.seq (.seq .nil (.loop [3,9] ([10,11,12]++Ur 15 9++[13,14]) .nil)) .nil)) Tryz.func170 h
theorem fn166(h:sh166 v0 H R):Fc TP 166 #[v0] H R:=
 mU UQ (.seq .nil (.seq .nil (.seq .nil (.seq .nil (.seq .nil (.seq .nil (.seq .nil (.seq (.seq .nil (.loop [6] (Ur 32 5++Ur 39 7++[37,38]) .nil)) .nil)))))))) Tryz.func166 h
theorem fn192(h:sh192 v0 H R):Fc TP 192 #[v0] H R:=
 mU UQ (.seq .nil (.seq .nil (.seq (.seq .nil (.loop [3] (Ur 6 4++Ur 12 10++[2,10,11]) (.seq .nil (.seq (.join [21] (Ur 12 9) .nil .nil) .nil)))) .nil))) Tryz.func192 h
section
variable(v0 v1 v2 v3 v4 v5 v6 v7 v8:Value)(H:Hp)(R:Value->Hp->Prop)
def sh28:Prop:=kT 23 v0 H fun h Z=>kT 26 v1 Z fun u aa=>Uz 81 aa fun i v=>UL 3 h v fun ab=>Uf 29 #[ab] v fun w ac=>Ux w 0 fun ad=>Ux w 1 fun ae=>Uz 62 ac fun f af=>Us 9 f ad af fun j=>Ub .neq ae (Uv 0) fun ag=>hU ag (Pu (zo TP 81 []) fun ah=>Us 2 i ah j fun x=>UL 2 i x fun ai=>R ai x) (Uj (n:=1) (fun a p=>UA 0 h fun aj=>Ul aj p fun ak=>UA 8 f fun al=>Ul al p fun am=>Ub .sub ak am fun q=>Uf 10 #[v2,(Uv 1000003)] p fun g an=>Ub .rem g q fun ao=>UI a.1 fun ap=>UA 12 ap fun aq=>Us 1 aq ao an fun ar=>Ub .quo g (Uv 7) fun au=>Ub .rem au q fun av=>Ub .add (Uv 1) av fun aw=>UI a.1 fun ax=>UA 11 ax fun ay=>Us 1 ay aw ar fun az=>Uo (n:=0) () az (fun aA cY y=>UI a.1 fun aB=>UA 11 aB fun aC=>Ul aC y fun aD=>Uf 76 #[aD,q] y fun aE r=>Ub .neq aE (Uv 1) fun aF=>hU aF (UI a.1 fun aG=>UA 11 aG fun aI=>Ul aI r fun aJ=>Ub .add aJ (Uv 1) fun aK=>UI a.1 fun aL=>UA 11 aL fun aM=>Us 1 aM aK r fun aN=>aA (()) aN) (Uo (n:=1) ((Uv 0),()) r (fun aO s k=>Uj (n:=1) (fun aP d=>hU aP.1 (UA 0 u fun aQ=>Ul aQ d fun aS=>Ui 7 aS s.1 fun aT=>UL 7 aT d fun aV=>Uf 77 #[a.1,aV] d fun cZ aW=>Ub .add s.1 (Uv 1) fun aX=>aO (aX,()) aW) (UI a.1 fun aY=>UA 13 aY fun aZ=>Ul aZ d fun a0=>hU a0 (Pu (zo TP 81 []) fun a1=>Us 2 i a1 d fun z=>UL 2 i z fun a2=>R a2 z) (Uj (n:=0) (fun c0 a3=>Uo (n:=1) ((Uv 0),()) a3 (fun t b c=>UA 0 h fun a4=>Ul a4 c fun a5=>Ub .lss b.1 a5 fun a6=>hU a6 (Uj (n:=1) (fun a7 e=>hU a7.1 (UI a.1 fun a8=>UA 9 a8 fun a9=>Ul a9 e fun ba=>UA 6 f fun bb=>Ul bb e fun bc=>Ub .quo b.1 (Uv 8192) fun bd=>Ub .add bc bd fun be=>UI a.1 fun bf=>UA 9 bf fun bg=>Ul bg e fun bh=>UA 6 f fun bi=>Ul bi e fun bj=>Ub .quo b.1 (Uv 8192) fun bk=>Ub .add bj bk fun bl=>Ui 1024 bh bl fun bm=>UL 1024 bm e fun bn=>Ub .rem b.1 (Uv 8192) fun bo=>∃ A,QC true TP 79 #[bn,bo,U1] e A/\( Ui 1024 ba be fun bp=>Uw e fun bq=>Us 1024 bp A bq fun br=>Uw br fun bs=>Ub .add b.1 (Uv 1) fun bt=>t (bt,()) bs)) (Uj (n:=1) (fun bu l=>hU bu.1 (UI a.1 fun bv=>UA 9 bv fun bw=>Ul bw l fun bx=>∃ B,QC true TP 80 #[b.1,g] l B/\( Ui 1024 bx b.1 fun bz=>Uw l fun bA=>Us 1024 bz B bA fun bB=>Uw bB fun bC=>Ub .add b.1 (Uv 1) fun bD=>t (bD,()) bC)) (Ub .add b.1 (Uv 1) fun bE=>t (bE,()) l)) (fun C=>Ub .rem g (Uv 2) fun bF=>Ub .eql bF (Uv 1) fun bG=>hU bG (Ub .rem b.1 (Uv 3) fun bI=>Ub .eql bI (Uv 0) fun bJ=>C (bJ,()) e) (C (U0,()) e)))) (fun D=>UA 8 f fun bK=>Ul bK c fun bL=>Ub .lss b.1 bL fun bM=>hU bM (D (U1,()) c) (UI a.1 fun bN=>UA 10 bN fun bO=>Ul bO c fun bP=>Ui 1 bP b.1 fun bQ=>Ul bQ c fun bS=>D (bS,()) c))) (Uj (n:=0) (fun c1 E=>UI a.1 fun bT=>UA 9 bT fun bV=>Ul bV E fun bW=>Uf 81 #[bW] E fun bX bY=>Us 2 i bX bY fun F=>UL 2 i F fun bZ=>R bZ F) (fun G=>Ub .rem g (Uv 2) fun b0=>Ub .eql b0 (Uv 1) fun b1=>hU b1 (UI a.1 fun b2=>UA 9 b2 fun b3=>Ul b3 c fun b4=>UA 3 f fun b5=>Ul b5 c fun b6=>Ub .add b6 (Uv 1) fun b7=>UA 1 h fun b8=>Ul b8 c fun b9=>Ub .sub b9 (Uv 1) fun ca=>Ub .rem g ca fun cb=>Ub .add b7 cb fun cc=>∃ I,QC true TP 80 #[(Uv 1),g] c I/\( Ui 1024 b4 cc fun cd=>Uw c fun ce=>Us 1024 cd I ce fun cf=>Uw cf fun cg=>G (()) cg)) (G (()) c))))) (fun J=>UI a.1 fun ch=>UA 9 ch fun K=>UL 9 f d fun L=>And (Ul K d fun ci=>Uw d fun cj=>Uf 78 #[L] cj fun M ck=>Ux M 0 fun cl=>Ux M 1 fun c2=>Ui 1024 ci (Uv 0) fun cm=>Uw ck fun cn=>Us 1024 cm cl cn fun co=>Uw co fun cp=>J (()) cp) (And (Uw d fun cq=>Uf 78 #[L] cq fun N O=>Ul K O fun cr=>Ux N 0 fun cs=>Ux N 1 fun c3=>Ui 1024 cr (Uv 0) fun ct=>Uw O fun cu=>Us 1024 ct cs cu fun cv=>Uw cv fun cw=>J (()) cw) (True)))))) (fun P=>UA 0 u fun cx=>Ul cx k fun cy=>Ug 24 cy fun cz=>Ub .lss s.1 cz fun cA=>hU cA (UI a.1 fun cB=>UA 13 cB fun cC=>Ul cC k fun cD=>Uu cD fun cE=>P (cE,()) k) (P (U0,()) k)))))) (fun Q=>UL 9 f j fun T=>UA 0 h fun cF=>Ul cF j fun m=>UA 0 h fun cG=>Ul cG j fun o=>And (Uw j fun cI=>Pu (oQ (zQ TP 43) m m cI) fun V=>lC true V.2 fun cJ=>Pu (oQ (zQ TP 136) o o cJ) fun W=>Pu (zo TP 138 [(0,T),(1,V.1),(2,W.1)]) fun cK=>lC true W.2 fun cL=>kT 138 cK cL fun cM cN=>Uw cN fun cO=>Q (cM,()) cO) (And (Uw j fun cP=>Pu (oQ (zQ TP 136) o o cP) fun X=>lC true X.2 fun cQ=>Pu (oQ (zQ TP 43) m m cQ) fun Y=>Pu (zo TP 138 [(0,T),(1,Y.1),(2,X.1)]) fun cS=>lC true Y.2 fun cT=>kT 138 cS cT fun cV cW=>Uw cW fun cX=>Q (cV,()) cX) (True))))
end
variable{v0 v1 v2 v3 v4 v5 v6 v7 v8:Value}{H:Hp}{R:Value->Hp->Prop}
theorem fn28(h:sh28 v0 v1 v2 H R):Fc TP 28 #[v0,v1,v2] H R:=
 ZM (fun f=>[79,80].contains f) [(4,(.fork [0,1,2,4,5] (.cons 3 (.line (Ur 6 4)) (.cons 6 (.line [3,7,8,9]) .nil)))),(17,(.fork [0,1,2,4] (.cons 3 (.line (Ur 5 6)) (.cons 5 (.line ([3]++Ur 6 5)) .nil))))] (.seq .nil (.seq .nil (.seq .nil (.join [9] (Ur 21 9) .nil (.seq .nil (.seq .nil (.seq .nil (.seq .nil (.seq (.loop [] (Ur 51 14) .nil) (.seq (.seq .nil (.loop [11] (Ur 65 12++Ur 79 7++[77,78]) (.seq (.join [76] (Ur 65 11) .nil .nil) .nil))) (.seq .nil (.join [] (Ur 92 6++[91,98,99,100]) .nil (.seq (.seq .nil (.loop [12] (Ur 101 4++Ur 107 54++[105,106]) (.seq .nil (.seq (.join [119] (Ur 107 12) .nil (.cond .nil (.join [151] (Ur 144 7) .nil .nil))) .nil)))) (.join [] (Ur 161 19) .nil .nil)))))))))))))) Tryz.func28 (args:=[v0,v1,v2]) (UE (by kernel_rfl) h)
section
variable(v0 v1 v2 v3 v4 v5 v6 v7 v8:Value)(H:Hp)(R:Value->Hp->Prop)
def sh147:Prop:=kT 81 v0 H fun b e=>Uj (n:=1) (fun k i=>hU k.1 (R (Uv 2) i) (Uz 65 i fun l m=>Uo (n:=2) ((Uv (-1)),(Uv 0),()) m (fun o f c=>UA 1 b fun p=>Ul p c fun q=>Ug 79 q fun r=>Ub .lss f.2.1 r fun s=>hU s (UA 1 b fun t=>Ul t c fun u=>Ui 1025 u f.2.1 fun v=>UL 1025 v c fun w=>Uz 149 c fun d x=>Us 1025 d w x fun a=>Uj (n:=1) (fun y g=>hU y.1 (R (Uv 2) g) (UA 0 d fun z=>Ul z g fun A=>Ub .add f.2.1 (Uv 1) fun B=>o (A,B,()) g)) (fun h=>UA 0 d fun C=>Ul C a fun D=>Ub .leq D f.1 fun E=>hU E (h (U1,()) a) (UA 0 d fun F=>Ul F a fun G=>UA 0 b fun I=>Ul I a fun J=>Ub .geq G J fun K=>hU K (h (U1,()) a) (UA 1 d fun L=>UL 1024 L a fun M=>UL 1024 l a fun N=>Pu (ya TP 65 false .eql M N a) fun O=>h (O,()) a)))) (R (Uv 0) c)))) (fun j=>UA 0 b fun P=>Ul P e fun Q=>Ub .lss Q (Uv 1) fun T=>hU T (j (U1,()) e) (UA 0 b fun V=>Ul V e fun W=>Ub .gtr W (Uv 1048576) fun X=>j (X,()) e))
def sh150:Prop:=kT 81 v0 H fun d g=>Uz 65 g fun b h=>Uo (n:=1) ((Uv 0),()) h (fun i c a=>UA 1 d fun j=>Ul j a fun k=>Ug 79 k fun l=>Ub .lss c.1 l fun m=>hU m (UA 1 d fun o=>Ul o a fun p=>Ui 1025 p c.1 fun q=>UA 0 q fun r=>Ul r a fun s=>Ub .eql s v1 fun t=>hU t (UA 1 d fun u=>Ul u a fun v=>Ui 1025 v c.1 fun w=>UA 1 w fun x=>UL 1024 x a fun y=>Us 1024 b y a fun e=>UL 1024 b e fun z=>R z e) (Ub .add c.1 (Uv 1) fun A=>i (A,()) a)) (Pu (zo TP 65 []) fun B=>Us 1024 b B a fun f=>UL 1024 b f fun C=>R C f))
def sh149:Prop:=kT 65 v0 H fun k s=>Uz 62 s fun e t=>Uz 252 t fun b u=>Uo (n:=1) ((Uv 0),()) u (fun v c d=>Ub .lss c.1 (Uv 3) fun w=>hU w (Uo (n:=1) ((Uv 3),()) d (fun x h f=>Ub .geq h.1 (Uv 0) fun y=>hU y (Uk 3 1 b c.1 fun z=>Ul z f fun A=>Ub .mul (Uv 256) A fun B=>Ub .mul (Uv 4) c.1 fun C=>Ub .add (Uv 8) C fun D=>Ub .add D h.1 fun E=>Uk 1024 1 k E fun F=>Ul F f fun G=>Pu (Ze (some (.int .u8)) (some (.int .i64)) G) fun I=>Ub .add B I fun J=>Uk 3 1 b c.1 fun K=>Us 1 K J f fun L=>Ub .sub h.1 (Uv 1) fun M=>x (M,()) L) (Ub .add c.1 (Uv 1) fun N=>v (N,()) f))) (Uk 3 1 b (Uv 0) fun O=>Ul O d fun P=>Uk 3 1 b (Uv 1) fun Q=>Ul Q d fun T=>Uk 3 1 b (Uv 2) fun V=>Ul V d fun W=>Pu (zo TP 23 [(0,P),(1,T),(2,W)]) fun X=>Uf 29 #[X] d fun l Y=>Ux l 0 fun Z=>Ux l 1 fun aa=>Uz 62 Y fun i ab=>Us 9 i Z ab fun m=>UL 9 i m fun ac=>Uf 78 #[ac] m fun o ad=>Ux o 0 fun ae=>Ux o 1 fun af=>Uz 65 ad fun p ag=>Us 1024 p ae ag fun a=>Uj (n:=1) (fun ah j=>hU ah.1 (Pu (zo TP 62 []) fun ai=>Us 9 e ai j fun q=>UL 9 e q fun aj=>R (.tuple #[aj,(Uv 4)]) q) (UL 9 i j fun ak=>Us 9 e ak j fun r=>UL 9 e r fun al=>R (.tuple #[al,(Uv 0)]) r)) (fun g=>Ub .neq aa (Uv 0) fun am=>hU am (g (U1,()) a) (Ub .neq af (Uv 0) fun an=>hU an (g (U1,()) a) (UL 1024 p a fun ao=>UL 1024 k a fun ap=>Pu (ya TP 65 false .neq ao ap a) fun aq=>hU aq (g (U1,()) a) (Uk 3 1 b (Uv 0) fun ar=>Ul ar a fun au=>Ub .gtr au v1 fun av=>g (av,()) a))))))
def sh198:Prop:=Ub .geq v0 (Uv 0) fun a=>hU a (Ub .lss v0 (Uv 1024) fun b=>R b H) (R U0 H)
def sh193:Prop:=kT 65 v0 H fun f g=>Uj (n:=1) (fun h c=>hU h.1 (R (.int .u32 0) c) (Ub .sub v2 (Uv 1) fun i=>Uo (n:=2) ((.int .u32 0),i,()) c (fun j a b=>Ub .geq a.2.1 (Uv 0) fun k=>hU k (Pu (z8 (some (.int .u32)) .mul a.1 (.int .u32 256)) fun l=>Ub .add v1 a.2.1 fun m=>Uk 1024 1 f m fun o=>Ul o b fun p=>Pu (Ze (some (.int .u8)) (some (.int .u32)) p) fun q=>Pu (z8 (some (.int .u32)) .add l q) fun r=>Ub .sub a.2.1 (Uv 1) fun s=>j (r,s,()) b) (R a.1 b)))) (fun d=>Uf 198 #[v1] g fun t e=>Uu t fun u=>hU u (d (U1,()) e) (Ub .add v1 v2 fun v=>Ub .sub v (Uv 1) fun w=>Uf 198 #[w] e fun x y=>Uu x fun z=>d (z,()) y))
def sh172:Prop:=kT 65 v0 H fun b a=>UL 1024 b a fun c=>Uf 193 #[c,v1,(Uv 4)] a fun d e=>R d e
def sh173:Prop:=kT 62 v0 H fun f k=>kT 151 v1 k fun c d=>UA 0 c fun l=>Ul l d fun m=>Ug 29 m fun o=>UA 0 f fun p=>UA 1 p fun q=>Ul q d fun r=>Ub .sub r (Uv 1) fun s=>Ub .gtr o s fun t=>hU t (R U0 d) (Uo (n:=1) ((Uv 0),()) d (fun u e a=>UA 0 c fun v=>Ul v a fun w=>Ug 29 w fun x=>Ub .lss e.1 x fun y=>hU y (UA 0 c fun z=>Ul z a fun A=>Ui 1 A e.1 fun B=>Ul B a fun g=>Uj (n:=1) (fun C i=>hU C.1 (R U0 i) (Uo (n:=1) ((Uv 0),()) i (fun D h b=>Ub .lss h.1 e.1 fun E=>hU E (UA 0 c fun F=>Ul F b fun G=>Ui 1 G h.1 fun I=>Ul I b fun J=>Ub .eql J g fun K=>hU K (R U0 b) (Ub .add h.1 (Uv 1) fun L=>D (L,()) b)) (Ub .add e.1 (Uv 1) fun M=>u (M,()) b)))) (fun j=>UA 0 f fun N=>UA 1 N fun O=>Ul O a fun P=>Ub .add (Uv 1) P fun Q=>Ub .lss g Q fun T=>hU T (j (U1,()) a) (UA 0 f fun V=>UA 0 V fun W=>Ul W a fun X=>Ub .geq g X fun Y=>j (Y,()) a))) (R U1 a)))
def sh133:Prop:=kT 62 v0 H fun e x=>kT 65 v1 x fun i y=>Uz 151 y fun a j=>UL 9 e j fun z=>Uf 124 #[z] j fun A f=>Uu A fun B=>hU B (Pu (zo TP 151 []) fun C=>Us 1 a C f fun k=>UL 1 a k fun D=>R (.tuple #[D,(Uv 2)]) k) (UL 1024 i f fun E=>Uf 172 #[E,(Uv 0)] f fun F g=>Pu (Ze (some (.int .u32)) (some (.int .i64)) F) fun l=>UA 0 e fun G=>UA 1 G fun I=>Ul I g fun J=>Ub .sub J (Uv 1) fun K=>Ub .gtr l K fun L=>hU L (Pu (zo TP 151 []) fun M=>Us 1 a M g fun m=>UL 1 a m fun N=>R (.tuple #[N,(Uv 4)]) m) (Uz 151 g fun c O=>Uo (n:=1) ((Uv 0),()) O (fun o d b=>Ub .lss d.1 l fun P=>hU P (UA 0 c fun p=>UL 1024 i b fun q=>Ub .add d.1 (Uv 1) fun Q=>Ub .mul (Uv 4) Q fun r=>And (Ul p b fun T=>Uw b fun V=>Uf 172 #[q,r] V fun W X=>Pu (Ze (some (.int .u32)) (some (.int .i64)) W) fun Y=>Uw X fun Z=>Pu (zQ TP 29) fun s=>Pu (zT (some s) 1 [(0,Y)]) fun aa=>nK s.type 1 aa Z fun ab ac=>Uw ac fun ad=>mD (zQ TP 29) T ab ad fun ae af=>UA 0 c fun ag=>Uw af fun ah=>Us 1 ag ae ah fun ai=>Uw ai fun aj=>Ub .add d.1 (Uv 1) fun ak=>o (ak,()) aj) (And (Uw b fun al=>Uf 172 #[q,r] al fun am t=>Ul p t fun an=>Pu (Ze (some (.int .u32)) (some (.int .i64)) am) fun ao=>Uw t fun ap=>Pu (zQ TP 29) fun u=>Pu (zT (some u) 1 [(0,ao)]) fun aq=>nK u.type 1 aq ap fun ar au=>Uw au fun av=>mD (zQ TP 29) an ar av fun aw ax=>UA 0 c fun ay=>Uw ax fun az=>Us 1 ay aw az fun aA=>Uw aA fun aB=>Ub .add d.1 (Uv 1) fun aC=>o (aC,()) aB) (True))) (UL 9 e b fun aD=>UL 1 c b fun aE=>Uf 173 #[aD,aE] b fun aF h=>Uu aF fun aG=>hU aG (Pu (zo TP 151 []) fun aI=>Us 1 a aI h fun v=>UL 1 a v fun aJ=>R (.tuple #[aJ,(Uv 4)]) v) (UL 1 c h fun aK=>Us 1 a aK h fun w=>UL 1 a w fun aL=>R (.tuple #[aL,(Uv 0)]) w)))))
def sh177:Prop:=kT 104 v0 H fun c d=>Ub .sub v2 (Uv 1) fun e=>Uo (n:=2) ((.int .u32 0),e,()) d (fun f a b=>Ub .geq a.2.1 (Uv 0) fun g=>hU g (Pu (z8 (some (.int .u32)) .mul (.int .u32 256) a.1) fun h=>Ub .add v1 a.2.1 fun i=>Uk 64 1 c i fun j=>Ul j b fun k=>Pu (Ze (some (.int .u8)) (some (.int .u32)) k) fun l=>Pu (z8 (some (.int .u32)) .add h l) fun m=>Ub .sub a.2.1 (Uv 1) fun o=>f (m,o,()) b) (R a.1 b))
def sh191:Prop:=kT 237 v0 H fun a q=>Uz 241 q fun f g=>Uk 16 1 a (Uv 0) fun r=>Ul r g fun s=>Pu (Ze (some (.int .u8)) (some (.int .u16)) s) fun t=>Uk 16 1 a (Uv 1) fun u=>Ul u g fun v=>Pu (Ze (some (.int .u8)) (some (.int .u16)) v) fun w=>Pu (z8 (some (.int .u16)) .mul (.int .u16 256) w) fun x=>Pu (z8 (some (.int .u16)) .add t x) fun y=>Pu (zo TP 241 [(0,y)]) fun z=>Uz 241 g fun b A=>Us 2 b z A fun B=>Uo (n:=1) ((Uv 2),()) B (fun C c h=>Uj (n:=1) (fun D d=>hU D.1 (UA 1 b fun E=>Ul E d fun F=>Ub .add c.1 (Uv 1) fun G=>Pu (yF TP 237 a (some c.1) (some G) none) fun I=>Pu (pG I d) fun J=>Pu (z8 (some .string) .add F J) fun K=>UA 1 b fun L=>Us 1 L K d fun M=>Ub .add c.1 (Uv 1) fun N=>C (N,()) M) (UL 2 b d fun O=>Uf 166 #[O] d fun j P=>Ux j 0 fun Q=>Ux j 1 fun T=>Uz 237 P fun k V=>Us 16 k Q V fun e=>Uj (n:=1) (fun W i=>hU W.1 (Pu (zo TP 241 []) fun X=>Us 2 f X i fun l=>UL 2 f l fun Y=>R (.tuple #[Y,(Uv 4)]) l) (UL 2 b i fun Z=>Us 2 f Z i fun m=>UL 2 f m fun aa=>R (.tuple #[aa,(Uv 0)]) m)) (fun o=>Ub .neq T (Uv 0) fun ab=>hU ab (o (U1,()) e) (UL 16 k e fun ac=>UL 16 a e fun ad=>Pu (ya TP 237 false .neq ac ad e) fun ae=>o (ae,()) e)))) (fun p=>Ub .lss c.1 (Uv 16) fun af=>hU af (Uk 16 1 a c.1 fun ag=>Ul ag h fun ah=>Pu (z8 (some (.int .u8)) .neq ah (.int .u8 0)) fun ai=>p (ai,()) h) (p (U0,()) h)))
def sh163:Prop:=Uz 65 H fun b f=>Uo (n:=1) ((Uv 0),()) f (fun g c a=>UI v0 fun h=>UA 11 h fun i=>UA 0 i fun j=>Ul j a fun k=>Ug 29 k fun l=>Ub .lss c.1 l fun m=>hU m (UI v0 fun o=>UA 11 o fun p=>UA 0 p fun q=>Ul q a fun r=>Ui 1 r c.1 fun s=>Ul s a fun t=>Ub .eql t v1 fun u=>hU u (UI v0 fun v=>UA 0 v fun w=>UL 2 w a fun x=>UI v0 fun y=>UA 2 y fun z=>UA 3 z fun A=>Ul A a fun B=>Ub .add B (Uv 1) fun C=>Ub .add C c.1 fun D=>Uf 150 #[x,D] a fun E F=>Us 1024 b E F fun d=>UL 1024 b d fun G=>R G d) (Ub .add c.1 (Uv 1) fun I=>g (I,()) a)) (UI v0 fun J=>UA 0 J fun K=>UL 2 K a fun L=>Uf 150 #[L,v1] a fun M N=>Us 1024 b M N fun e=>UL 1024 b e fun O=>R O e))
def sh178:Prop:=Uz 104 H fun c d=>UI v0 fun h=>UA 2 h fun i=>UA 4 i fun j=>Ul j d fun k=>Ub .quo v1 (Uv 16) fun l=>Ub .add k l fun m=>Uf 163 #[v0,m] d fun o p=>Uz 65 p fun e q=>Us 1024 e o q fun r=>Uz 104 r fun f s=>Uo (n:=1) ((Uv 0),()) s (fun t a b=>Ub .lss a.1 (Uv 64) fun u=>hU u (Ub .rem v1 (Uv 16) fun v=>Ub .mul (Uv 64) v fun w=>Ub .add w a.1 fun x=>Uk 1024 1 e x fun y=>Ul y b fun z=>Uk 64 1 f a.1 fun A=>Us 1 A z b fun B=>Ub .add a.1 (Uv 1) fun C=>t (C,()) B) (UL 64 f b fun D=>Us 64 c D b fun g=>UL 64 c g fun E=>R E g))
def sh160:Prop:=Uz 54 H fun a c=>Uf 178 #[v0,v1] c fun d e=>Uf 146 #[d] e fun f g=>Us 16 a f g fun b=>UL 16 a b fun h=>R h b
def sh189:Prop:=kT 65 v0 H fun c d=>Uo (n:=2) ((Uv 0),(Uv 3),()) d (fun e a b=>Ub .geq a.2.1 (Uv 0) fun f=>hU f (Ub .mul (Uv 256) a.1 fun g=>Ub .mul (Uv 4) v1 fun h=>Ub .add h a.2.1 fun i=>Uk 1024 1 c i fun j=>Ul j b fun k=>Pu (Ze (some (.int .u8)) (some (.int .i64)) k) fun l=>Ub .add g l fun m=>Ub .sub a.2.1 (Uv 1) fun o=>e (m,o,()) b) (R a.1 b))
def sh181:Prop:=UI v0 fun a=>UA 2 a fun b=>UA 8 b fun c=>Ul c H fun d=>Ub .geq v1 d fun e=>hU e (UI v0 fun f=>UA 2 f fun g=>UA 0 g fun h=>UA 0 h fun i=>Ul i H fun j=>Ub .lss v1 j fun k=>R k H) (R U0 H)
def sh188:Prop:=Uf 163 #[v0,v1] H fun g h=>Uz 65 h fun c i=>Us 1024 c g i fun j=>Uo (n:=2) ((.slice none 0 0),(Uv 0),()) j (fun d a b=>Ub .lss a.2.1 (Uv 256) fun k=>hU k (UL 1024 c b fun l=>Uf 189 #[l,a.2.1] b fun e f=>Ub .neq e (Uv 0) fun m=>hU m (Ub .add v2 a.2.1 fun o=>Pu (zo TP 233 [(0,o),(1,e)]) fun p=>Uq 190 p a.1 f fun q r=>Ub .add a.2.1 (Uv 1) fun s=>d (q,s,()) r) (Ub .add a.2.1 (Uv 1) fun t=>d (a.1,t,()) f)) (R a.1 b))
def sh161:Prop:=kT 54 v1 H fun d z=>Uo (n:=2) ((.slice none 0 0),(Uv 0),()) z (fun j a c=>Ub .lss a.2.1 (Uv 10) fun A=>hU A (UA 4 d fun B=>Uk 10 1 B a.2.1 fun C=>Ul C c fun D=>Pu (z8 (some (.int .u32)) .neq D (.int .u32 0)) fun E=>hU E (UA 4 d fun F=>Uk 10 1 F a.2.1 fun G=>Ul G c fun I=>Pu (Ze (some (.int .u32)) (some (.int .i64)) I) fun J=>Pu (zo TP 233 [(0,a.2.1),(1,J)]) fun K=>Uq 190 K a.1 c fun L M=>Ub .add a.2.1 (Uv 1) fun N=>j (L,N,()) M) (Ub .add a.2.1 (Uv 1) fun O=>j (a.1,O,()) c)) (UA 14 d fun P=>Ul P c fun Q=>Pu (Ze (some (.int .u32)) (some (.int .i64)) Q) fun e=>Uj (n:=1) (fun k T=>Uf 181 #[v0,e] T fun V l=>Uj (n:=1) (fun m h=>UA 15 d fun W=>Ul W h fun X=>Pu (Ze (some (.int .u32)) (some (.int .i64)) X) fun f=>Uj (n:=1) (fun o Y=>Uf 181 #[v0,f] Y fun Z p=>Uu Z fun aa=>hU aa (R o.1 p) (Uf 163 #[v0,f] p fun ab ac=>Uz 65 ac fun q ad=>Us 1024 q ab ad fun ae=>Uo (n:=2) (o.1,(Uv 0),()) ae (fun r b i=>Ub .lss b.2.1 (Uv 256) fun af=>hU af (UL 1024 q i fun ag=>Uf 189 #[ag,b.2.1] i fun g s=>Uj (n:=1) (fun t ah=>Uf 181 #[v0,g] ah fun ai u=>hU ai (Ub .mul (Uv 256) b.2.1 fun aj=>Ub .add (Uv 266) aj fun ak=>Uf 188 #[v0,g,ak] u fun al am=>mD (zQ TP 190) t.1 al am fun an ao=>Ub .add b.2.1 (Uv 1) fun ap=>r (an,ap,()) ao) (Ub .add b.2.1 (Uv 1) fun aq=>r (t.1,aq,()) u)) (fun v=>Ub .neq g (Uv 0) fun ar=>hU ar (Pu (zo TP 233 [(0,(Uv (-1))),(1,g)]) fun au=>Uq 190 au b.1 s fun av aw=>v (av,()) aw) (v (b.1,()) s))) (R b.1 i)))) (fun w=>Ub .neq f (Uv 0) fun ax=>hU ax (Pu (zo TP 233 [(0,(Uv (-1))),(1,f)]) fun ay=>Uq 190 ay m.1 h fun az aA=>w (az,()) aA) (w (m.1,()) h))) (fun x=>hU V (Uf 188 #[v0,e,(Uv 10)] l fun aB aC=>mD (zQ TP 190) k.1 aB aC fun aD aE=>x (aD,()) aE) (x (k.1,()) l))) (fun y=>Ub .neq e (Uv 0) fun aF=>hU aF (Pu (zo TP 233 [(0,(Uv (-1))),(1,e)]) fun aG=>Uq 190 aG a.1 c fun aI aJ=>y (aI,()) aJ) (y (a.1,()) c))))
def sh190:Prop:=Uo (n:=1) ((Uv 0),()) H (fun c b a=>Ug 190 v0 fun d=>Ub .lss b.1 d fun e=>hU e (Ui 2 v0 b.1 fun f=>UA 0 f fun g=>Ul g a fun h=>Ub .eql h v1 fun i=>hU i (Ui 2 v0 b.1 fun j=>UA 1 j fun k=>Ul k a fun l=>R l a) (Ub .add b.1 (Uv 1) fun m=>c (m,()) a)) (R (Uv 0) a))
def sh195:Prop:=Ub .add v0 (Uv 1024) fun a=>Ub .sub a (Uv 1) fun b=>Ub .quo b (Uv 1024) fun c=>R c H
def sh180:Prop:=Uo (n:=3) ((.slice none 0 0),U0,(Uv 0),()) H (fun i a b=>UI v0 fun j=>UA 1 j fun k=>Ul k b fun l=>Ug 131 l fun m=>Ub .lss a.2.2.1 m fun o=>hU o (UI v0 fun p=>UA 1 p fun q=>Ul q b fun r=>Ui 2 r a.2.2.1 fun s=>UA 1 s fun t=>Ul t b fun u=>Ub .eql u v1 fun v=>hU v (R (.tuple #[]) b) (Uj (n:=2) (fun e c=>UI v0 fun w=>UA 1 w fun x=>Ul x c fun y=>Ui 2 y a.2.2.1 fun z=>UL 2 z c fun A=>Uq 131 A e.1 c fun B C=>Ub .add a.2.2.1 (Uv 1) fun D=>i (B,e.2.1,D,()) C) (fun f=>Uj (n:=1) (fun E d=>hU E.1 (UI v0 fun F=>UA 0 F fun G=>Ul G d fun I=>Pu (zo TP 251 [(0,I),(1,v1)]) fun J=>Uq 131 J a.1 d fun K L=>f (K,U1,()) L) (f (a.1,a.2.1,()) d)) (fun g=>Uu a.2.1 fun M=>hU M (UI v0 fun N=>UA 1 N fun O=>Ul O b fun P=>Ui 2 P a.2.2.1 fun Q=>UA 1 Q fun T=>Ul T b fun V=>Ub .gtr V v1 fun W=>g (W,()) b) (g (U0,()) b))))) (Uj (n:=1) (fun X Y=>UI v0 fun Z=>UA 1 Z fun aa=>Us 1 aa X.1 Y fun ab=>R (.tuple #[]) ab) (fun h=>Uu a.2.1 fun ac=>hU ac (UI v0 fun ad=>UA 0 ad fun ae=>Ul ae b fun af=>Pu (zo TP 251 [(0,af),(1,v1)]) fun ag=>Uq 131 ag a.1 b fun ah ai=>h (ah,()) ai) (h (a.1,()) b))))
def sh179:Prop:=kT 104 v0 H fun f g=>kT 54 v1 g fun c h=>Uo (n:=1) ((Uv 60),()) h (fun i d b=>Ub .lss d.1 (Uv 64) fun j=>hU j (Uk 64 1 f d.1 fun k=>Ul k b fun l=>Pu (z8 (some (.int .u8)) .neq l (.int .u8 0)) fun m=>hU m (R U1 b) (Ub .add d.1 (Uv 1) fun o=>i (o,()) b)) (Uj (n:=1) (fun p a=>hU p.1 (R U1 a) (UA 0 c fun q=>Ul q a fun r=>Pu (z8 (some (.int .u16)) .eql r (.int .u16 2)) fun s=>hU s (UA 2 c fun t=>Ul t a fun u=>Pu (z8 (some (.int .u32)) .rem u (.int .u32 16)) fun v=>Pu (z8 (some (.int .u32)) .neq v (.int .u32 0)) fun w=>hU w (R U1 a) (UA 1 c fun x=>Ul x a fun y=>Pu (z8 (some (.int .u16)) .neq y (.int .u16 0)) fun z=>hU z (UA 2 c fun A=>Ul A a fun B=>Pu (z8 (some (.int .u32)) .lss B (.int .u32 32)) fun C=>hU C (R U1 a) (UA 1 c fun D=>Ul D a fun E=>Pu (z8 (some (.int .u16)) .eql E (.int .u16 1)) fun F=>R F a)) (R U0 a))) (R U0 a))) (fun e=>UA 0 c fun G=>Ul G b fun I=>Pu (z8 (some (.int .u16)) .gtr I (.int .u16 2)) fun J=>hU J (e (U1,()) b) (UA 2 c fun K=>Ul K b fun L=>Pu (z8 (some (.int .u32)) .gtr L (.int .u32 67381248)) fun M=>hU M (e (U1,()) b) (UA 1 c fun N=>Ul N b fun O=>Pu (z8 (some (.int .u16)) .gtr O (.int .u16 1000)) fun P=>e (P,()) b)))))
def sh151:Prop:=Pu (zo TP 255 [(0,(.int .u8 4))]) fun y=>kT 255 y H fun j p=>UI v0 fun z=>UA 2 z fun A=>UA 0 A fun B=>UA 2 B fun C=>Ul C p fun k=>Uo (n:=1) ((Uv 0),()) p (fun q b r=>Ub .leq b.1 k fun D=>hU D (Uf 178 #[v0,b.1] r fun E F=>Uz 104 F fun l G=>Us 64 l E G fun I=>Uf 160 #[v0,b.1] I fun J K=>Uz 54 K fun c L=>Us 16 c J L fun d=>UL 64 l d fun M=>Pu (zo TP 104 []) fun N=>Pu (ya TP 104 false .eql M N d) fun m=>Uj (n:=1) (fun O a=>Uj (n:=1) (fun P s=>hU P.1 (Uf 180 #[j,b.1] s fun a5 Q=>Ub .add b.1 (Uv 1) fun T=>q (T,()) Q) (Ub .add b.1 (Uv 1) fun V=>q (V,()) s)) (fun e=>hU O.1 (e (U1,()) a) (Ub .eql b.1 (Uv 0) fun W=>hU W (Uu m fun X=>hU X (e (U1,()) a) (Ub .eql b.1 (Uv 1) fun Y=>hU Y (UA 0 c fun Z=>Ul Z a fun aa=>Pu (z8 (some (.int .u16)) .neq aa (.int .u16 2)) fun ab=>hU ab (e (U1,()) a) (UA 1 c fun ac=>Ul ac a fun ad=>Pu (z8 (some (.int .u16)) .eql ad (.int .u16 0)) fun ae=>e (ae,()) a)) (e (U0,()) a))) (Ub .eql b.1 (Uv 1) fun af=>hU af (UA 0 c fun ag=>Ul ag a fun ah=>Pu (z8 (some (.int .u16)) .neq ah (.int .u16 2)) fun ai=>hU ai (e (U1,()) a) (UA 1 c fun aj=>Ul aj a fun ak=>Pu (z8 (some (.int .u16)) .eql ak (.int .u16 0)) fun al=>e (al,()) a)) (e (U0,()) a))))) (fun g=>UA 0 c fun am=>Ul am d fun an=>Pu (z8 (some (.int .u16)) .neq an (.int .u16 0)) fun ao=>hU ao (UL 64 l d fun ap=>UL 16 c d fun aq=>Uf 179 #[ap,aq] d fun ar i=>hU ar (g (U1,()) i) (UA 0 c fun au=>Ul au i fun av=>Pu (z8 (some (.int .u16)) .eql av (.int .u16 0)) fun aw=>hU aw (Uu m fun ax=>g (ax,()) i) (g (U0,()) i))) (UA 0 c fun ay=>Ul ay d fun az=>Pu (z8 (some (.int .u16)) .eql az (.int .u16 0)) fun aA=>hU aA (Uu m fun aB=>g (aB,()) d) (g (U0,()) d)))) (Uz 104 r fun t aC=>Ub .add k (Uv 1) fun aD=>Uo (n:=1) (aD,()) aC (fun u h f=>UI v0 fun aE=>UA 2 aE fun aF=>UA 5 aF fun aG=>Ul aG f fun aI=>Ub .mul (Uv 16) aI fun aJ=>Ub .lss h.1 aJ fun aK=>hU aK (Uj (n:=1) (fun aL v=>hU aL.1 (Ub .add k (Uv 1) fun aM=>Uf 180 #[j,aM] v fun a6 aN=>Ub .add h.1 (Uv 1) fun aO=>u (aO,()) aN) (Ub .add h.1 (Uv 1) fun aP=>u (aP,()) v)) (fun w=>And (Uw f fun aQ=>Uf 178 #[v0,h.1] aQ fun aS o=>UL 64 t o fun aT=>Pu (ya TP 104 false .neq aS aT o) fun aV=>Uw o fun aW=>w (aV,()) aW) (And (UL 64 t f fun aX=>Uw f fun aY=>Uf 178 #[v0,h.1] aY fun aZ x=>Pu (ya TP 104 false .neq aZ aX x) fun a0=>Uw x fun a1=>w (a0,()) a1) (True)))) (UI j fun a2=>UA 1 a2 fun a3=>Ul a3 f fun a4=>R a4 f))))
def sh118:Prop:=Uo (n:=2) ((.slice none 0 0),(Uv 1),()) H (fun d a e=>UI v0 fun j=>UA 2 j fun k=>UA 0 k fun l=>UA 2 l fun m=>Ul m e fun o=>Ub .leq a.2.1 o fun p=>hU p (Uf 160 #[v0,a.2.1] e fun q r=>Uz 54 r fun c s=>Us 16 c q s fun b=>UA 0 c fun t=>Ul t b fun u=>Pu (z8 (some (.int .u16)) .neq u (.int .u16 0)) fun v=>hU v (UL 16 c b fun f=>And (UL 16 c b fun w=>Uw b fun x=>Uf 161 #[v0,f] x fun y z=>Pu (zo TP 192 [(0,a.2.1),(1,w),(2,y)]) fun A=>Uw z fun B=>Pu (zQ TP 185) fun g=>Pu (zT (some g) 1 [(0,A)]) fun C=>nK g.type 1 C B fun D E=>Uw E fun F=>mD (zQ TP 185) a.1 D F fun G I=>Uw I fun J=>Ub .add a.2.1 (Uv 1) fun K=>d (G,K,()) J) (And (Uw b fun L=>Uf 161 #[v0,f] L fun M h=>UL 16 c h fun N=>Pu (zo TP 192 [(0,a.2.1),(1,N),(2,M)]) fun O=>Uw h fun P=>Pu (zQ TP 185) fun i=>Pu (zT (some i) 1 [(0,O)]) fun Q=>nK i.type 1 Q P fun T V=>Uw V fun W=>mD (zQ TP 185) a.1 T W fun X Y=>Uw Y fun Z=>Ub .add a.2.1 (Uv 1) fun aa=>d (X,aa,()) Z) (True))) (Ub .add a.2.1 (Uv 1) fun ab=>d (a.1,ab,()) b)) (R a.1 e))
def sh152:Prop:=Pu (zo TP 255 [(0,(.int .u8 5))]) fun h=>kT 255 h H fun f i=>Uo (n:=1) ((Uv 0),()) i (fun j a d=>Ug 185 v1 fun k=>Ub .lss a.1 k fun l=>hU l (Uo (n:=1) ((Uv 0),()) d (fun g c b=>Ui 18 v1 a.1 fun m=>UA 17 m fun o=>Ul o b fun p=>Ug 190 p fun q=>Ub .lss c.1 q fun r=>hU r (Ui 18 v1 a.1 fun s=>UA 17 s fun t=>Ul t b fun u=>Ui 2 u c.1 fun v=>UA 1 v fun w=>Ul w b fun x=>Uf 181 #[v0,x] b fun y e=>Uu y fun z=>hU z (Ui 18 v1 a.1 fun A=>UA 0 A fun B=>Ul B e fun C=>Uf 180 #[f,C] e fun L D=>Ub .add c.1 (Uv 1) fun E=>g (E,()) D) (Ub .add c.1 (Uv 1) fun F=>g (F,()) e)) (Ub .add a.1 (Uv 1) fun G=>j (G,()) b))) (UI f fun I=>UA 1 I fun J=>Ul J d fun K=>R K d))
def sh182:Prop:=UI v0 fun h=>UA 2 h fun i=>UA 0 i fun j=>UA 0 j fun k=>Ul k H fun e=>Pu (oQ (zQ TP 29) e e H) fun b=>zF (n:=1) ((Uv 0),()) b.2 (fun l c f=>Any fun _=>Ug 185 v1 fun m=>Ub .lss c.1 m fun o=>hU o (Uo (n:=1) ((Uv 0),()) f (fun p d a=>Ui 18 v1 c.1 fun q=>UA 17 q fun r=>Ul r a fun s=>Ug 190 s fun t=>Ub .lss d.1 t fun u=>hU u (Ui 18 v1 c.1 fun v=>UA 17 v fun w=>Ul w a fun x=>Ui 2 x d.1 fun y=>UA 1 y fun z=>Ul z a fun g=>Ui 1 b.1 g fun A=>Ul A a fun B=>Ub .add B (Uv 1) fun C=>Ui 1 b.1 g fun D=>Us 1 D C a fun E=>Ub .add d.1 (Uv 1) fun F=>p (F,()) E) (Ub .add c.1 (Uv 1) fun G=>l (G,()) a))) (R b.1 f))
def sh153:Prop:=Pu (zo TP 255 [(0,(.int .u8 6))]) fun f=>kT 255 f H fun c g=>Uf 182 #[v0,v1] g fun d h=>Uo (n:=1) ((Uv 0),()) h (fun e b a=>Ug 29 d fun i=>Ub .lss b.1 i fun j=>hU j (Ui 1 d b.1 fun k=>Ul k a fun l=>Ub .gtr l (Uv 1) fun m=>hU m (UI c fun o=>UA 1 o fun p=>Ul p a fun q=>Pu (zo TP 251 [(0,(.int .u8 6)),(1,b.1)]) fun r=>Uq 131 r q a fun s t=>UI c fun u=>UA 1 u fun v=>Us 1 v s t fun w=>Ub .add b.1 (Uv 1) fun x=>e (x,()) w) (Ub .add b.1 (Uv 1) fun y=>e (y,()) a)) (UI c fun z=>UA 1 z fun A=>Ul A a fun B=>R B a))
def sh196:Prop:=Uf 163 #[v0,v1] H fun b a=>Pu (zo TP 65 []) fun c=>Pu (ya TP 65 false .eql b c a) fun d=>R d a
def sh154:Prop:=Pu (zo TP 255 [(0,v2)]) fun f=>kT 255 f H fun d g=>Uo (n:=1) ((Uv 0),()) g (fun e a b=>Ug 185 v1 fun h=>Ub .lss a.1 h fun i=>hU i (Ui 18 v1 a.1 fun j=>UL 18 j b fun k=>Uf 183 #[v0,k,v2] b fun l c=>hU l (Ui 18 v1 a.1 fun m=>UA 0 m fun o=>Ul o c fun p=>Uf 180 #[d,p] c fun w q=>Ub .add a.1 (Uv 1) fun r=>e (r,()) q) (Ub .add a.1 (Uv 1) fun s=>e (s,()) c)) (UI d fun t=>UA 1 t fun u=>Ul u b fun v=>R v b))
def sh183:Prop:=kT 192 v1 H fun b o=>UA 1 b fun y=>UA 2 y fun z=>Ul z o fun A=>Pu (Ze (some (.int .u32)) (some (.int .i64)) A) fun B=>Uf 195 #[B] o fun p c=>Pu (z8 (some (.int .u8)) .eql v2 (.int .u8 10)) fun C=>hU C (UA 1 b fun D=>UA 3 D fun E=>Ul E c fun F=>Pu (Ze (some (.int .u32)) (some (.int .i64)) F) fun G=>UA 17 b fun I=>Ul I c fun J=>Ug 190 J fun K=>Ub .neq G K fun L=>R L c) (Pu (z8 (some (.int .u8)) .eql v2 (.int .u8 12)) fun M=>hU M (Uo (n:=1) ((Uv 0),()) c (fun N h i=>Uj (n:=1) (fun O j=>hU O.1 (UA 17 b fun P=>Ul P j fun Q=>Uf 190 #[Q,h.1] j fun T q=>Ub .eql T (Uv 0) fun V=>hU V (R U1 q) (Ub .add h.1 (Uv 1) fun W=>N (W,()) q)) (R U0 j)) (fun r=>Ub .lss h.1 p fun X=>hU X (UA 1 b fun Y=>UA 0 Y fun Z=>Ul Z i fun aa=>Pu (z8 (some (.int .u16)) .eql aa (.int .u16 2)) fun ab=>r (ab,()) i) (r (U0,()) i)))) (Pu (z8 (some (.int .u8)) .eql v2 (.int .u8 9)) fun ac=>hU ac (UA 17 b fun ad=>Ul ad c fun ae=>UA 1 b fun af=>UA 2 af fun ag=>Ul ag c fun ah=>Pu (Ze (some (.int .u32)) (some (.int .i64)) ah) fun ai=>Ub .quo ai (Uv 1024) fun aj=>Uf 190 #[ae,aj] c fun s k=>Uj (n:=1) (fun ak t=>hU ak.1 (R U0 t) (Uf 163 #[v0,s] t fun al am=>Uz 65 am fun u an=>Us 1024 u al an fun v=>UA 1 b fun ao=>UA 2 ao fun ap=>Ul ap v fun aq=>Pu (Ze (some (.int .u32)) (some (.int .i64)) aq) fun ar=>Ub .rem ar (Uv 1024) fun au=>Uo (n:=1) (au,()) v (fun av l g=>Ub .lss l.1 (Uv 1024) fun aw=>hU aw (Uk 1024 1 u l.1 fun ax=>Ul ax g fun ay=>Pu (z8 (some (.int .u8)) .neq ay (.int .u8 0)) fun az=>hU az (R U1 g) (Ub .add l.1 (Uv 1) fun aA=>av (aA,()) g)) (R U0 g)))) (fun w=>Ub .eql s (Uv 0) fun aB=>hU aB (w (U1,()) k) (UA 1 b fun aC=>UA 2 aC fun aD=>Ul aD k fun aE=>Pu (z8 (some (.int .u32)) .rem aE (.int .u32 1024)) fun aF=>Pu (z8 (some (.int .u32)) .eql aF (.int .u32 0)) fun aG=>w (aG,()) k))) (Uo (n:=1) ((Uv 0),()) c (fun aI m f=>UA 17 b fun aJ=>Ul aJ f fun aK=>Ug 190 aK fun aL=>Ub .lss m.1 aL fun aM=>hU aM (UA 17 b fun aN=>Ul aN f fun aO=>Ui 2 aO m.1 fun aP=>UL 2 aP f fun aQ=>Uz 233 f fun e aS=>Us 2 e aQ aS fun a=>Uj (n:=1) (fun aT x=>hU aT.1 (R U1 x) (Ub .add m.1 (Uv 1) fun aV=>aI (aV,()) x)) (fun d=>Pu (z8 (some (.int .u8)) .eql v2 (.int .u8 8)) fun aW=>hU aW (UA 0 e fun aX=>Ul aX a fun aY=>Ub .geq aY p fun aZ=>hU aZ (d (U1,()) a) (Pu (z8 (some (.int .u8)) .eql v2 (.int .u8 7)) fun a0=>hU a0 (UA 0 e fun a1=>Ul a1 a fun a2=>Ub .lss a2 (Uv 0) fun a3=>hU a3 (UA 1 e fun a4=>Ul a4 a fun a5=>Uf 196 #[v0,a5] a fun a6 a7=>d (a6,()) a7) (d (U0,()) a)) (d (U0,()) a))) (Pu (z8 (some (.int .u8)) .eql v2 (.int .u8 7)) fun a8=>hU a8 (UA 0 e fun a9=>Ul a9 a fun ba=>Ub .lss ba (Uv 0) fun bb=>hU bb (UA 1 e fun bc=>Ul bc a fun bd=>Uf 196 #[v0,bd] a fun be bf=>d (be,()) bf) (d (U0,()) a)) (d (U0,()) a)))) (R U0 f)))))
def sh155:Prop:=Uf 182 #[v0,v1] H fun g l=>Uo (n:=2) ((.slice none 0 0),(Uv 0),()) l (fun m b d=>UI v0 fun o=>UA 2 o fun p=>UA 7 p fun q=>Ul q d fun r=>Ub .lss b.2.1 r fun s=>hU s (UI v0 fun t=>UA 2 t fun u=>UA 6 u fun v=>Ul v d fun w=>Ub .add w b.2.1 fun x=>Uf 163 #[v0,x] d fun y z=>Uz 65 z fun h A=>Us 1024 h y A fun B=>Uo (n:=2) (b.1,(Uv 0),()) B (fun i a c=>Ub .lss a.2.1 (Uv 8192) fun C=>hU C (Ub .mul (Uv 8192) b.2.1 fun D=>Ub .add D a.2.1 fun e=>Uj (n:=1) (fun E j=>UL 1024 h j fun F=>Uf 126 #[F,a.2.1] j fun G k=>Pu (z8 (some .bool) .neq G E.1) fun I=>hU I (Pu (zo TP 251 [(0,(.int .u8 11)),(1,e)]) fun J=>Uq 131 J a.1 k fun K L=>Ub .add a.2.1 (Uv 1) fun M=>i (K,M,()) L) (Ub .add a.2.1 (Uv 1) fun N=>i (a.1,N,()) k)) (fun f=>UI v0 fun O=>UA 2 O fun P=>UA 8 P fun Q=>Ul Q c fun T=>Ub .lss e T fun V=>hU V (f (U1,()) c) (Ug 29 g fun W=>Ub .lss e W fun X=>hU X (Ui 1 g e fun Y=>Ul Y c fun Z=>Ub .gtr Z (Uv 0) fun aa=>f (aa,()) c) (f (U0,()) c)))) (Ub .add b.2.1 (Uv 1) fun ab=>m (a.1,ab,()) c))) (R b.1 d))
def sh162:Prop:=kT 192 v1 H fun e m=>Uo (n:=3) (U1,(.slice none 0 0),(Uv 0),()) m (fun o a b=>UA 1 e fun p=>UA 2 p fun q=>Ul q b fun r=>Pu (Ze (some (.int .u32)) (some (.int .i64)) r) fun s=>Ub .quo s (Uv 16) fun t=>Ub .lss a.2.2.1 t fun u=>hU u (UA 17 e fun v=>Ul v b fun w=>Ub .mul a.2.2.1 (Uv 16) fun x=>Ub .quo x (Uv 1024) fun y=>Uf 190 #[w,y] b fun z A=>Uf 163 #[v0,z] A fun B C=>Uz 65 C fun f D=>Us 1024 f B D fun E=>Uz 237 E fun g F=>Uo (n:=1) ((Uv 0),()) F (fun G c d=>Ub .lss c.1 (Uv 16) fun I=>hU I (Ub .mul a.2.2.1 (Uv 16) fun J=>Ub .rem J (Uv 1024) fun K=>Ub .add K c.1 fun L=>Uk 1024 1 f L fun M=>Ul M d fun N=>Uk 16 1 g c.1 fun O=>Us 1 O N d fun P=>Ub .add c.1 (Uv 1) fun Q=>G (Q,()) P) (UL 16 g d fun T=>Uf 191 #[T] d fun h V=>Ux h 0 fun W=>Ux h 1 fun X=>Uz 241 V fun i Y=>Us 2 i W Y fun j=>Uj (n:=1) (fun Z k=>UL 2 i k fun aa=>Uq 140 aa a.2.1 k fun ab ac=>Ub .add a.2.2.1 (Uv 1) fun ad=>o (Z.1,ab,ad,()) ac) (fun l=>hU a.1 (Ub .eql X (Uv 0) fun ae=>l (ae,()) j) (l (U0,()) j))))) (R (.tuple #[a.2.1,a.1]) b))
def sh197:Prop:=Uo (n:=1) ((Uv 0),()) H (fun c b a=>Ug 185 v0 fun d=>Ub .lss b.1 d fun e=>hU e (Ui 18 v0 b.1 fun f=>UA 0 f fun g=>Ul g a fun h=>Ub .eql h v1 fun i=>hU i (R U1 a) (Ub .add b.1 (Uv 1) fun j=>c (j,()) a)) (R U0 a))
def sh184:Prop:=kT 192 v2 H fun h j=>UL 18 h j fun q=>Uf 162 #[v0,q] j fun k b=>Ux k 0 fun c=>Ux k 1 fun r=>Uu r fun s=>hU s (R U1 b) (UA 1 h fun t=>UA 1 t fun u=>Ul u b fun v=>Pu (z8 (some (.int .u16)) .eql v (.int .u16 0)) fun w=>hU w (R U0 b) (Uj (n:=1) (fun x l=>hU x.1 (R U1 l) (Uo (n:=1) ((Uv 0),()) l (fun m a e=>Ug 140 c fun y=>Ub .lss a.1 y fun z=>hU z (Ui 2 c a.1 fun A=>UA 0 A fun B=>Ul B e fun C=>Pu (z8 (some (.int .u16)) .eql C (.int .u16 0)) fun D=>hU D (Ub .add a.1 (Uv 1) fun E=>m (E,()) e) (Ui 2 c a.1 fun F=>UA 0 F fun G=>Ul G e fun I=>Pu (Ze (some (.int .u16)) (some (.int .i64)) I) fun J=>Uf 197 #[v1,J] e fun K d=>Uj (n:=1) (fun L o=>hU L.1 (R U1 o) (Uo (n:=1) ((Uv 0),()) o (fun M i f=>Ub .lss i.1 a.1 fun N=>hU N (Ui 2 c i.1 fun O=>UA 1 O fun P=>Ul P f fun Q=>Ui 2 c a.1 fun T=>UA 1 T fun V=>Ul V f fun W=>Pu (z8 (some .string) .eql Q W) fun X=>hU X (R U1 f) (Ub .add i.1 (Uv 1) fun Y=>M (Y,()) f)) (Ub .add a.1 (Uv 1) fun Z=>m (Z,()) f)))) (fun g=>Uu K fun aa=>hU aa (g (U1,()) d) (Ub .gtr a.1 (Uv 1) fun ab=>hU ab (Ui 2 c a.1 fun ac=>UA 1 ac fun ad=>Ul ad d fun ae=>Pu (z8 (some .string) .eql ae (.string ⟨#[46]⟩)) fun af=>hU af (g (U1,()) d) (Ui 2 c a.1 fun ag=>UA 1 ag fun ah=>Ul ah d fun ai=>Pu (z8 (some .string) .eql ai (.string ⟨#[46,46]⟩)) fun aj=>g (aj,()) d)) (g (U0,()) d))))) (R U0 e)))) (fun p=>Ui 2 c (Uv 0) fun ak=>UL 2 ak b fun al=>UA 0 h fun am=>Ul am b fun an=>Pu (Ze (some (.int .i64)) (some (.int .u16)) an) fun ao=>Pu (zo TP 241 [(0,ao),(1,(.string ⟨#[46]⟩))]) fun ap=>Pu (ya TP 241 false .neq al ap b) fun aq=>hU aq (p (U1,()) b) (Ui 2 c (Uv 1) fun ar=>UA 1 ar fun au=>Ul au b fun av=>Pu (z8 (some .string) .neq av (.string ⟨#[46,46]⟩)) fun aw=>p (aw,()) b))))
def sh156:Prop:=Pu (zo TP 255 [(0,(.int .u8 13))]) fun f=>kT 255 f H fun e g=>Uo (n:=1) ((Uv 0),()) g (fun c a b=>Ug 185 v1 fun h=>Ub .lss a.1 h fun i=>hU i (Ui 18 v1 a.1 fun j=>UA 1 j fun k=>UA 0 k fun l=>Ul l b fun m=>Pu (z8 (some (.int .u16)) .eql m (.int .u16 2)) fun o=>hU o (Ui 18 v1 a.1 fun p=>UL 18 p b fun q=>Uf 184 #[v0,v1,q] b fun r d=>hU r (Ui 18 v1 a.1 fun s=>UA 0 s fun t=>Ul t d fun u=>Uf 180 #[e,u] d fun C v=>Ub .add a.1 (Uv 1) fun w=>c (w,()) v) (Ub .add a.1 (Uv 1) fun x=>c (x,()) d)) (Ub .add a.1 (Uv 1) fun y=>c (y,()) b)) (UI e fun z=>UA 1 z fun A=>Ul A b fun B=>R B b))
def sh157:Prop:=Uo (n:=2) ((.slice none 0 0),(Uv 0),()) H (fun g a d=>Ug 185 v1 fun k=>Ub .lss a.2.1 k fun l=>hU l (Uj (n:=1) (fun m e=>hU m.1 (Ub .add a.2.1 (Uv 1) fun o=>g (a.1,o,()) e) (Ui 18 v1 a.2.1 fun p=>UL 18 p e fun q=>Uf 162 #[v0,q] e fun h r=>Ux h 0 fun f=>Ux h 1 fun Z=>Uo (n:=2) (a.1,(Uv 2),()) r (fun i b c=>Ug 140 f fun s=>Ub .lss b.2.1 s fun t=>hU t (Ui 2 f b.2.1 fun u=>UA 0 u fun v=>Ul v c fun w=>Pu (z8 (some (.int .u16)) .neq w (.int .u16 0)) fun x=>hU x (Ui 18 v1 a.2.1 fun y=>UA 0 y fun z=>Ul z c fun A=>Ui 2 f b.2.1 fun B=>UA 0 B fun C=>Ul C c fun D=>Pu (Ze (some (.int .u16)) (some (.int .i64)) D) fun E=>Pu (zo TP 262 [(0,A),(1,E)]) fun F=>Uq 225 F b.1 c fun G I=>Ub .add b.2.1 (Uv 1) fun J=>i (G,J,()) I) (Ub .add b.2.1 (Uv 1) fun K=>i (b.1,K,()) c)) (Ub .add a.2.1 (Uv 1) fun L=>g (b.1,L,()) c)))) (fun j=>Ui 18 v1 a.2.1 fun M=>UA 1 M fun N=>UA 0 N fun O=>Ul O d fun P=>Pu (z8 (some (.int .u16)) .neq P (.int .u16 2)) fun Q=>hU Q (j (U1,()) d) (Ui 18 v1 a.2.1 fun T=>UA 1 T fun V=>UA 1 V fun W=>Ul W d fun X=>Pu (z8 (some (.int .u16)) .eql X (.int .u16 0)) fun Y=>j (Y,()) d))) (R a.1 d))
def sh186:Prop:=Uo (n:=3) ((Uv 0),(Uv 0),(Uv 0),()) H (fun c a b=>Ug 225 v0 fun d=>Ub .lss a.2.2.1 d fun e=>hU e (Ui 2 v0 a.2.2.1 fun f=>UA 1 f fun g=>Ul g b fun h=>Ub .eql h v1 fun i=>hU i (Ui 2 v0 a.2.2.1 fun j=>UA 0 j fun k=>Ul k b fun l=>Ub .add a.2.1 (Uv 1) fun m=>Ub .add a.2.2.1 (Uv 1) fun o=>c (l,m,o,()) b) (Ub .add a.2.2.1 (Uv 1) fun p=>c (a.1,a.2.1,p,()) b)) (R (.tuple #[a.1,a.2.1]) b))
def sh185:Prop:=UI v0 fun i=>UA 2 i fun j=>UA 0 j fun k=>UA 2 k fun l=>Ul l H fun m=>Ub .add m (Uv 1) fun e=>Pu (oQ (zQ TP 136) e e H) fun c=>Ui 1 c.1 (Uv 1) fun o=>Pu (zY (some 1) o U1 c.2) fun p=>Uo (n:=1) (U1,()) p (fun q r f=>hU r.1 (Uo (n:=2) (U0,(Uv 0),()) f (fun g a b=>Ug 225 v1 fun s=>Ub .lss a.2.1 s fun t=>hU t (Uj (n:=1) (fun u d=>hU u.1 (Ui 2 v1 a.2.1 fun v=>UA 1 v fun w=>Ul w d fun x=>Ui 1 c.1 x fun y=>Us 1 y U1 d fun z=>Ub .add a.2.1 (Uv 1) fun A=>g (U1,A,()) z) (Ub .add a.2.1 (Uv 1) fun B=>g (a.1,B,()) d)) (fun h=>Ui 2 v1 a.2.1 fun C=>UA 0 C fun D=>Ul D b fun E=>Ui 1 c.1 E fun F=>Ul F b fun G=>hU G (Ui 2 v1 a.2.1 fun I=>UA 1 I fun J=>Ul J b fun K=>Ui 1 c.1 K fun L=>Ul L b fun M=>Uu M fun N=>h (N,()) b) (h (U0,()) b))) (q (a.1,()) b))) (R c.1 f))
def sh158:Prop:=Pu (zo TP 255 [(0,(.int .u8 14))]) fun t=>kT 255 t H fun g u=>Uf 185 #[v0,v2] u fun v w=>Uo (n:=1) ((Uv 0),()) w (fun d c e=>Ug 185 v1 fun x=>Ub .lss c.1 x fun y=>hU y (Ui 18 v1 c.1 fun z=>UL 18 z e fun A=>Uz 192 e fun b B=>Us 18 b A B fun f=>Uj (n:=1) (fun C h=>hU C.1 (Ub .add c.1 (Uv 1) fun D=>d (D,()) h) (UL 18 b h fun E=>Uf 162 #[v0,E] h fun k l=>Ux k 0 fun m=>Ux k 1 fun aC=>UA 0 b fun F=>Ul F l fun G=>Uf 186 #[v2,G] l fun o a=>Ux o 0 fun I=>Ux o 1 fun p=>UA 0 b fun J=>Ul J a fun K=>Ub .eql K (Uv 1) fun L=>hU L (Uj (n:=1) (fun M q=>hU M.1 (Uf 180 #[g,(Uv 1)] q fun aD N=>Ub .add c.1 (Uv 1) fun O=>d (O,()) N) (Ub .add c.1 (Uv 1) fun P=>d (P,()) q)) (fun r=>Ub .neq p (Uv 0) fun Q=>hU Q (r (U1,()) a) (Ui 2 m (Uv 1) fun T=>UA 0 T fun V=>Ul V a fun W=>Pu (z8 (some (.int .u16)) .neq W (.int .u16 1)) fun X=>r (X,()) a))) (Uj (n:=1) (fun Y i=>hU Y.1 (UA 0 b fun Z=>Ul Z i fun aa=>Uf 180 #[g,aa] i fun aE ab=>Ub .add c.1 (Uv 1) fun ac=>d (ac,()) ab) (Ub .add c.1 (Uv 1) fun ad=>d (ad,()) i)) (fun j=>Ub .neq p (Uv 1) fun ae=>hU ae (j (U1,()) a) (Ui 2 m (Uv 1) fun af=>UA 0 af fun ag=>Ul ag a fun ah=>Pu (Ze (some (.int .u16)) (some (.int .i64)) ah) fun ai=>Ub .neq ai I fun aj=>hU aj (j (U1,()) a) (UA 0 b fun ak=>Ul ak a fun al=>Ui 1 v al fun am=>Ul am a fun an=>Uu an fun ao=>j (ao,()) a)))))) (fun s=>UA 1 b fun ap=>UA 0 ap fun aq=>Ul aq f fun ar=>Pu (z8 (some (.int .u16)) .neq ar (.int .u16 2)) fun au=>hU au (s (U1,()) f) (UA 1 b fun av=>UA 1 av fun aw=>Ul aw f fun ax=>Pu (z8 (some (.int .u16)) .eql ax (.int .u16 0)) fun ay=>s (ay,()) f))) (UI g fun az=>UA 1 az fun aA=>Ul aA e fun aB=>R aB e))
def sh159(v0 v1 v2:Value)(H:Hp)(R:Value->Hp->Prop):Prop:=Pu (zo TP 255 [(0,(.int .u8 15))]) fun s=>kT 255 s H fun h t=>Uo (n:=1) ((Uv 0),()) t (fun i d e=>Ug 185 v1 fun u=>Ub .lss d.1 u fun v=>hU v (Ui 18 v1 d.1 fun w=>UL 18 w e fun x=>Uz 192 e fun b y=>Us 18 b x y fun j=>UA 0 b fun z=>Ul z j fun A=>Uf 186 #[v2,A] j fun k f=>Ux k 0 fun ax=>Ux k 1 fun B=>Uj (n:=1) (fun C g=>UA 1 b fun D=>UA 1 D fun E=>Ul E g fun F=>Pu (Ze (some (.int .u16)) (some (.int .i64)) F) fun G=>Ub .neq G C.1 fun I=>hU I (UA 0 b fun J=>Ul J g fun K=>Uf 180 #[h,K] g fun ay L=>Ub .add d.1 (Uv 1) fun M=>i (M,()) L) (Ub .add d.1 (Uv 1) fun N=>i (N,()) g)) (fun l=>Uj (n:=1) (fun O m=>hU O.1 (Uo (n:=2) ((Uv 2),(Uv 0),()) m (fun o a c=>Ug 225 v2 fun P=>Ub .lss a.2.1 P fun Q=>hU Q (Uj (n:=1) (fun T p=>hU T.1 (Ub .add a.1 (Uv 1) fun V=>Ub .add a.2.1 (Uv 1) fun W=>o (V,W,()) p) (Ub .add a.2.1 (Uv 1) fun X=>o (a.1,X,()) p)) (fun q=>Ui 2 v2 a.2.1 fun Y=>UA 0 Y fun Z=>Ul Z c fun aa=>UA 0 b fun ab=>Ul ab c fun ac=>Ub .eql aa ac fun ad=>hU ad (Ui 2 v2 a.2.1 fun ae=>UA 1 ae fun af=>Ul af c fun ag=>Uf 187 #[v1,ag] c fun ah ai=>Pu (z8 (some (.int .u16)) .eql ah (.int .u16 2)) fun aj=>q (aj,()) ai) (q (U0,()) c))) (l (a.1,()) c))) (l (B,()) m)) (fun r=>UA 1 b fun ak=>UA 0 ak fun al=>Ul al f fun am=>Pu (z8 (some (.int .u16)) .eql am (.int .u16 2)) fun an=>hU an (UA 1 b fun ao=>UA 1 ao fun ap=>Ul ap f fun aq=>Pu (z8 (some (.int .u16)) .neq aq (.int .u16 0)) fun ar=>r (ar,()) f) (r (U0,()) f)))) (UI h fun au=>UA 1 au fun av=>Ul av e fun aw=>R aw e))
def sh187:Prop:=Uo (n:=1) ((Uv 0),()) H (fun c b a=>Ug 185 v0 fun d=>Ub .lss b.1 d fun e=>hU e (Ui 18 v0 b.1 fun f=>UA 0 f fun g=>Ul g a fun h=>Ub .eql h v1 fun i=>hU i (Ui 18 v0 b.1 fun j=>UA 1 j fun k=>UA 0 k fun l=>Ul l a fun m=>R m a) (Ub .add b.1 (Uv 1) fun o=>c (o,()) a)) (R (.int .u16 0) a))
def sh119:Prop:=kT 192 v1 H fun b p=>Uz 142 p fun f d=>UA 0 b fun q=>Ul q d fun r=>UA 1 b fun s=>UA 0 s fun t=>Ul t d fun u=>UA 1 b fun v=>UA 1 v fun w=>Ul w d fun x=>Pu (Ze (some (.int .u16)) (some (.int .i64)) x) fun y=>UA 1 b fun z=>UA 2 z fun A=>Ul A d fun B=>Pu (Ze (some (.int .u32)) (some (.int .i64)) B) fun C=>UA 1 b fun D=>UA 3 D fun E=>Ul E d fun F=>Pu (Ze (some (.int .u32)) (some (.int .i64)) F) fun G=>Pu (zo TP 142 [(0,r),(1,u),(2,y),(3,C),(4,G)]) fun I=>Uz 142 d fun c J=>Us 7 c I J fun g=>UA 1 c fun K=>Ul K g fun L=>Pu (z8 (some (.int .u16)) .eql L (.int .u16 2)) fun M=>hU M (UL 18 b g fun N=>Uf 162 #[v0,N] g fun h O=>Ux h 0 fun P=>Ux h 1 fun aL=>UA 6 c fun Q=>Us 1 Q P O fun i=>UL 7 c i fun T=>Us 7 f T i fun j=>UL 7 f j fun V=>R V j) (Uo (n:=1) ((Uv 0),()) g (fun k e a=>UA 17 b fun W=>Ul W a fun X=>Ug 190 X fun Y=>Ub .lss e.1 Y fun Z=>hU Z (UA 17 b fun aa=>Ul aa a fun ab=>Ui 2 ab e.1 fun ac=>UA 0 ac fun ad=>Ul ad a fun ae=>Ub .geq ae (Uv 0) fun af=>hU af (UA 5 c fun ag=>Ul ag a fun ah=>UA 17 b fun ai=>Ul ai a fun aj=>Ui 2 aj e.1 fun ak=>UA 0 ak fun al=>Ul al a fun am=>UA 17 b fun an=>Ul an a fun ao=>Ui 2 ao e.1 fun ap=>UA 1 ap fun aq=>Ul aq a fun ar=>∃ l,QC true TP 163 #[v0,ar] a l/\( Pu (zo TP 149 [(0,am),(1,l)]) fun au=>Uw a fun av=>Pu (zQ TP 79) fun m=>Pu (zT (some m) 1 [(0,au)]) fun aw=>nK m.type 1 aw av fun ax ay=>Uw ay fun az=>mD (zQ TP 79) ah ax az fun aA aB=>UA 5 c fun aC=>Uw aB fun aD=>Us 1 aC aA aD fun aE=>Uw aE fun aF=>Ub .add e.1 (Uv 1) fun aG=>k (aG,()) aF)) (Ub .add e.1 (Uv 1) fun aI=>k (aI,()) a)) (UL 7 c a fun aJ=>Us 7 f aJ a fun o=>UL 7 f o fun aK=>R aK o)))
def sh117:Prop:=Uf 151 #[v0] H fun d e=>Ug 131 d fun x=>Ub .gtr x (Uv 0) fun y=>hU y (R d e) (Uf 118 #[v0] e fun a z=>Uf 152 #[v0,a] z fun f g=>Ug 131 f fun A=>Ub .gtr A (Uv 0) fun B=>hU B (R f g) (Uf 153 #[v0,a] g fun h i=>Ug 131 h fun C=>Ub .gtr C (Uv 0) fun D=>hU D (R h i) (Pu (zQ TP 223) fun j=>Pu (zT (some j) 4 [(0,(.int .u8 7)),(1,(.int .u8 8)),(2,(.int .u8 9)),(3,(.int .u8 10))]) fun E=>nK j.type 4 E i fun k F=>Uo (n:=1) ((Uv 0),()) F (fun G b c=>Ug 223 k fun I=>Ub .lss b.1 I fun J=>hU J (Ui 1 k b.1 fun K=>Ul K c fun L=>Uf 154 #[v0,a,L] c fun l m=>Ug 131 l fun M=>Ub .gtr M (Uv 0) fun N=>hU N (R l m) (Ub .add b.1 (Uv 1) fun O=>G (O,()) m)) (Uf 155 #[v0,a] c fun o p=>Ug 131 o fun P=>Ub .gtr P (Uv 0) fun Q=>hU Q (R o p) (Uf 154 #[v0,a,(.int .u8 12)] p fun q r=>Ug 131 q fun T=>Ub .gtr T (Uv 0) fun V=>hU V (R q r) (Uf 156 #[v0,a] r fun s t=>Ug 131 s fun W=>Ub .gtr W (Uv 0) fun X=>hU X (R s t) (Uf 157 #[v0,a] t fun u Y=>Uf 158 #[v0,a,u] Y fun v w=>Ug 131 v fun Z=>Ub .gtr Z (Uv 0) fun aa=>hU aa (R v w) (Uf 159 #[v0,a,u] w fun ab ac=>R ab ac)))))))))
def sh74:Prop:=kT 81 v0 H fun x y=>Uz 26 y fun c j=>UL 2 x j fun z=>Uf 116 #[z] j fun k h=>Ux k 0 fun a=>Ux k 1 fun A=>Pu (ya TP 181 true .eql a (.pointer none) h) fun B=>hU B (Pu (zo TP 26 []) fun C=>Us 3 c C h fun l=>UL 3 c l fun D=>R (.tuple #[D,A]) l) (Uf 117 #[a] h fun m o=>Ug 131 m fun E=>Ub .gtr E (Uv 0) fun F=>hU F (Pu (zo TP 26 []) fun G=>Us 3 c G o fun p=>UL 3 c p fun I=>R (.tuple #[I,m]) p) (Uf 118 #[a] o fun e f=>UI a fun J=>UA 2 J fun K=>UA 0 K fun L=>UA 0 L fun M=>Ul M f fun N=>UI a fun O=>UA 2 O fun P=>UA 8 P fun Q=>Ul Q f fun T=>Ub .sub N T fun V=>UI a fun W=>UA 2 W fun X=>UA 0 X fun Y=>UA 2 Y fun Z=>Ul Z f fun aa=>Ug 185 e fun ab=>Ub .sub aa ab fun ac=>Pu (zo TP 26 [(1,V),(2,ac)]) fun ad=>Uw f fun ae=>Uz 26 ae fun b af=>Uw af fun ag=>Us 3 b ad ag fun ah=>Uw ah fun ai=>Uo (n:=1) ((Uv 0),()) ai (fun aj g d=>Ug 185 e fun ak=>Ub .lss g.1 ak fun al=>hU al (Uj (n:=0) (fun a7 i=>UA 1 b fun am=>Ul am i fun an=>Ui 18 e g.1 fun ao=>UA 17 ao fun ap=>Ul ap i fun aq=>Ug 190 aq fun ar=>Ub .sub an ar fun au=>UA 1 b fun av=>Us 1 av au i fun aw=>Ub .add g.1 (Uv 1) fun ax=>aj (ax,()) aw) (fun q=>UA 0 b fun r=>Ui 18 e g.1 fun ay=>UL 18 ay d fun s=>And (Ul r d fun az=>Uw d fun aA=>Uf 119 #[a,s] aA fun aB aC=>Uw aC fun aD=>Pu (zQ TP 24) fun t=>Pu (zT (some t) 1 [(0,aB)]) fun aE=>nK t.type 1 aE aD fun aF aG=>Uw aG fun aI=>mD (zQ TP 24) az aF aI fun aJ aK=>UA 0 b fun aL=>Uw aK fun aM=>Us 1 aL aJ aM fun aN=>Uw aN fun aO=>q (()) aO) (And (Uw d fun aP=>Uf 119 #[a,s] aP fun aQ u=>Ul r u fun aS=>Uw u fun aT=>Pu (zQ TP 24) fun v=>Pu (zT (some v) 1 [(0,aQ)]) fun aV=>nK v.type 1 aV aT fun aW aX=>Uw aX fun aY=>mD (zQ TP 24) aS aW aY fun aZ a0=>UA 0 b fun a1=>Uw a0 fun a2=>Us 1 a1 aZ a2 fun a3=>Uw a3 fun a4=>q (()) a4) (True)))) (UL 3 b d fun a5=>Us 3 c a5 d fun w=>UL 3 c w fun a6=>R (.tuple #[a6,(.slice none 0 0)]) w))))
def sh164:Prop:=Ug 79 v0 fun c=>Ug 79 v1 fun d=>Ub .neq c d fun e=>hU e (R U0 H) (Uo (n:=1) ((Uv 0),()) H (fun f b a=>Ug 79 v0 fun g=>Ub .lss b.1 g fun h=>hU h (Ui 1025 v0 b.1 fun i=>UL 1025 i a fun j=>Ui 1025 v1 b.1 fun k=>UL 1025 k a fun l=>Pu (ya TP 149 false .neq j l a) fun m=>hU m (R U0 a) (Ub .add b.1 (Uv 1) fun o=>f (o,()) a)) (R U1 a)))
def sh165:Prop:=Ug 140 v0 fun c=>Ug 140 v1 fun d=>Ub .neq c d fun e=>hU e (R U0 H) (Uo (n:=1) ((Uv 0),()) H (fun f b a=>Ug 140 v0 fun g=>Ub .lss b.1 g fun h=>hU h (Ui 2 v0 b.1 fun i=>UL 2 i a fun j=>Ui 2 v1 b.1 fun k=>UL 2 k a fun l=>Pu (ya TP 241 false .neq j l a) fun m=>hU m (R U0 a) (Ub .add b.1 (Uv 1) fun o=>f (o,()) a)) (R U1 a)))
def sh120:Prop:=kT 142 v0 H fun b e=>kT 142 v1 e fun c a=>UA 0 b fun f=>Ul f a fun g=>UA 0 c fun h=>Ul h a fun i=>Ub .eql g i fun j=>hU j (UA 1 b fun k=>Ul k a fun l=>UA 1 c fun m=>Ul m a fun n=>Pu (z8 (some (.int .u16)) .eql l n) fun o=>hU o (UA 2 b fun p=>Ul p a fun q=>UA 2 c fun r=>Ul r a fun s=>Ub .eql q s fun t=>hU t (UA 3 b fun u=>Ul u a fun v=>UA 3 c fun w=>Ul w a fun x=>Ub .eql v x fun y=>hU y (UA 4 b fun z=>Ul z a fun A=>UA 4 c fun B=>Ul B a fun C=>Ub .eql A C fun D=>hU D (UA 5 b fun E=>Ul E a fun F=>UA 5 c fun G=>Ul G a fun I=>Uf 164 #[F,I] a fun J d=>hU J (UA 6 b fun K=>Ul K d fun L=>UA 6 c fun M=>Ul M d fun N=>Uf 165 #[L,N] d fun O P=>R O P) (R U0 d)) (R U0 a)) (R U0 a)) (R U0 a)) (R U0 a)) (R U0 a)
def sh75:Prop:=kT 26 v0 H fun c i=>kT 26 v1 i fun d a=>Uj (n:=1) (fun j g=>hU j.1 (R U0 g) (Uo (n:=1) ((Uv 0),()) g (fun k e b=>UA 0 c fun l=>Ul l b fun m=>Ug 24 m fun o=>Ub .lss e.1 o fun p=>hU p (UA 0 c fun q=>Ul q b fun r=>Ui 7 r e.1 fun s=>UL 7 s b fun t=>UA 0 d fun u=>Ul u b fun v=>Ui 7 v e.1 fun w=>UL 7 w b fun x=>Uf 120 #[t,x] b fun y h=>Uu y fun z=>hU z (R U0 h) (Ub .add e.1 (Uv 1) fun A=>k (A,()) h)) (R U1 b)))) (fun f=>UA 1 c fun B=>Ul B a fun C=>UA 1 d fun D=>Ul D a fun E=>Ub .neq C E fun F=>hU F (f (U1,()) a) (UA 2 c fun G=>Ul G a fun I=>UA 2 d fun J=>Ul J a fun K=>Ub .neq I K fun L=>hU L (f (U1,()) a) (UA 0 c fun M=>Ul M a fun N=>Ug 24 N fun O=>UA 0 d fun P=>Ul P a fun Q=>Ug 24 Q fun T=>Ub .neq O T fun V=>f (V,()) a)))
def sh27:Prop:=kT 23 v0 H fun e i=>kT 26 v1 i fun f a=>UA 0 e fun j=>Ul j a fun k=>Ub .gtr k (Uv 4096) fun l=>hU l (R U0 a) (UL 3 e a fun m=>UL 3 f a fun n=>Uf 28 #[m,n,(Uv 0)] a fun o p=>Uz 81 p fun d q=>Us 2 d o q fun b=>UA 0 d fun r=>Ul r b fun s=>Ub .eql s (Uv 0) fun t=>hU t (R U0 b) (UL 2 d b fun u=>Uf 74 #[u] b fun g v=>Ux g 0 fun w=>Ux g 1 fun x=>Uz 26 v fun h y=>Us 3 h w y fun c=>Ug 131 x fun z=>Ub .eql z (Uv 0) fun A=>hU A (UL 3 h c fun B=>UL 3 f c fun C=>Uf 75 #[B,C] c fun D E=>R D E) (R U0 c)))
end
variable{v0 v1 v2 v3 v4 v5 v6 v7 v8:Value}{H:Hp}{R:Value->Hp->Prop}
theorem fn147(h:sh147 v0 H R):Fc TP 147 #[v0] H R:=
 mU (fun f=>[163].contains f) (.seq .nil (.seq (.join [14] (Ur 7 7) .nil .nil) (.seq .nil (.seq .nil (.seq (.seq .nil (.loop [4,5] (Ur 15 5++Ur 22 5++[6]++Ur 27 17++[2,44,45,20,21]) (.seq .nil (.seq (.seq .nil (.seq (.join [43] (Ur 27 16) .nil .nil) .nil)) .nil)))) .nil))))) Tryz.func147 h
theorem fn150(h:sh150 v0 v1 H R):Fc TP 150 #[v0,v1] H R:=
 mr (fun f=>[163].contains f) (.seq .nil (.seq (.seq .nil (.loop [5] (Ur 6 5++Ur 13 14++[11,12]) .nil)) .nil)) Tryz.func150 h
theorem fn149(h:sh149 v0 v1 H R):Fc TP 149 #[v0,v1] H R:=
 mr (fun f=>[163].contains f) (.seq .nil (.seq .nil (.seq (.seq .nil (.loop [7] ([13,14,8,17,18]++Ur 21 15++[19,20,15,16]) (.seq .nil (.seq (.seq .nil (.loop [8] ([17,18]++Ur 21 15++[19,20]) .nil)) .nil)))) (.seq .nil (.seq .nil (.seq (.join [68] (Ur 52 16) .nil .nil) .nil)))))) Tryz.func149 h
theorem fn198(h:sh198 v0 H R):Fc TP 198 #[v0] H R:=
 mU (fun f=>[163].contains f) .nil Tryz.func198 h
theorem fn193(h:sh193 v0 v1 v2 H R):Fc TP 193 #[v0,v1,v2] H R:=
 xe (fun f=>[163].contains f) (.seq .nil (.seq (.join [19] (Ur 9 10) .nil .nil) (.seq .nil (.seq (.seq .nil (.loop [7,8] ([22,23]++Ur 26 9++[24,25]) .nil)) .nil)))) Tryz.func193 h
theorem fn172(h:sh172 v0 v1 H R):Fc TP 172 #[v0,v1] H R:=
 mr (fun f=>[163].contains f) .nil Tryz.func172 h
theorem fn173(h:sh173 v0 v1 H R):Fc TP 173 #[v0,v1] H R:=
 mr (fun f=>[163].contains f) (.seq .nil (.seq .nil (.seq (.seq .nil (.loop [5] (Ur 16 5++Ur 23 5++[6]++Ur 28 13++[4,7,41,42,43]++Ur 46 7++[44,45,21,22]) (.seq .nil (.seq (.seq .nil (.seq (.join [40] (Ur 28 12) .nil .nil) (.seq .nil (.loop [7] ([41,42,43]++Ur 46 7++[4,44,45]) .nil)))) .nil)))) .nil))) Tryz.func173 h
theorem fn133(h:sh133 v0 v1 H R):Fc TP 133 #[v0,v1] H R:=
 ZM (fun f=>[163].contains f) [(10,(.fork [0,2,3,4,5] (.cons 1 (.line (Ur 6 6)) (.cons 6 (.line ([1]++Ur 7 5)) .nil))))] (.seq .nil (.seq .nil (.seq .nil (.seq .nil (.seq .nil (.seq (.seq .nil (.loop [8] ([23,24,25]++Ur 28 11++[26,27]) .nil)) .nil)))))) Tryz.func133 (args:=[v0,v1]) (UE (by kernel_rfl) h)
theorem fn177(h:sh177 v0 v1 v2 H R):Fc TP 177 #[v0,v1,v2] H R:=
 xe (fun f=>[163].contains f) (.seq .nil (.seq .nil (.seq (.seq .nil (.loop [7,8] ([11,12]++Ur 15 9++[13,14]) .nil)) .nil))) Tryz.func177 h
theorem fn191(h:sh191 v0 H R):Fc TP 191 #[v0] H R:=
 mU (fun f=>[163].contains f) (.seq .nil (.seq .nil (.seq (.seq .nil (.loop [5] (Ur 17 8++Ur 27 9++[25,26]) (.seq (.join [24] (Ur 17 7) .nil .nil) .nil))) (.seq .nil (.seq (.join [47] (Ur 41 6) .nil .nil) .nil))))) Tryz.func191 h
theorem fn163(h:sh163 v0 v1 H R):Fc TP 163 #[v0,v1] H R:=
 mr (fun f=>[163].contains f) (.seq .nil (.seq (.seq .nil (.loop [5] (Ur 6 8++Ur 16 23++[14,15]) .nil)) .nil)) Tryz.func163 h
theorem fn178(h:sh178 v0 v1 H R):Fc TP 178 #[v0,v1] H R:=
 mr (fun f=>[163].contains f) (.seq .nil (.seq .nil (.seq .nil (.seq (.seq .nil (.loop [7] ([18,19]++Ur 22 9++[20,21]) .nil)) .nil)))) Tryz.func178 h
theorem fn160(h:sh160 v0 v1 H R):Fc TP 160 #[v0,v1] H R:=
 mr (fun f=>[163].contains f) .nil Tryz.func160 h
theorem fn189(h:sh189 v0 v1 H R):Fc TP 189 #[v0,v1] H R:=
 mr (fun f=>[163].contains f) (.seq .nil (.seq .nil (.seq (.seq .nil (.loop [5,6] ([7,8]++Ur 11 10++[9,10]) .nil)) .nil))) Tryz.func189 h
theorem fn181(h:sh181 v0 v1 H R):Fc TP 181 #[v0,v1] H R:=
 mr (fun f=>[163].contains f) .nil Tryz.func181 h
theorem fn188(h:sh188 v0 v1 v2 H R):Fc TP 188 #[v0,v1,v2] H R:=
 xe (fun f=>[163].contains f) (.seq .nil (.seq .nil (.seq .nil (.seq (.seq .nil (.loop [7,9] ([14,15,18,19,20,10]++Ur 21 10++[16,17]) .nil)) .nil)))) Tryz.func188 h
theorem fn161(h:sh161 v0 v1 H R):Fc TP 161 #[v0,v1] H R:=
 mr (fun f=>[163].contains f) (.seq .nil (.seq .nil (.seq (.seq .nil (.loop [5,6] ([13,14]++Ur 17 15++[15,16]) .nil)) (.seq .nil (.join [5] (Ur 35 7) .nil (.seq .nil (.join [5] (Ur 45 6) .nil (.seq .nil (.join [5] (Ur 54 7) .nil (.seq .nil (.seq .nil (.seq .nil (.seq (.seq .nil (.loop [5,11] ([70,71,74,75,76,12]++Ur 77 10++[8]++Ur 87 9++[72,73]) (.seq .nil (.seq (.seq .nil (.join [5] (Ur 77 7) .nil .nil)) .nil)))) .nil))))))))))))) Tryz.func161 h
theorem fn190(h:sh190 v0 v1 H R):Fc TP 190 #[v0,v1] H R:=
 mr (fun f=>[163].contains f) (.seq .nil (.seq (.seq .nil (.loop [5] (Ur 6 4++Ur 12 12++[4,10,11]) .nil)) .nil)) Tryz.func190 h
theorem fn195(h:sh195 v0 H R):Fc TP 195 #[v0] H R:=
 mU (fun f=>[163].contains f) .nil Tryz.func195 h
theorem fn180(h:sh180 v0 v1 H R):Fc TP 180 #[v0,v1] H R:=
 mr (fun f=>[163].contains f) (.seq .nil (.seq .nil (.seq (.seq .nil (.loop [4,5,6] (Ur 7 7++Ur 16 43++[14,15]) (.seq .nil (.seq (.seq .nil (.join [4,5] (Ur 26 23) (.join [39] (Ur 26 13) .nil .nil) .nil)) .nil)))) (.join [4] (Ur 59 11) .nil .nil)))) Tryz.func180 h
theorem fn179(h:sh179 v0 v1 H R):Fc TP 179 #[v0,v1] H R:=
 mr (fun f=>[163].contains f) (.seq .nil (.seq (.seq .nil (.loop [5] [6,7,10,11,12,13,4,8,9] .nil)) (.seq (.join [26] (Ur 14 12) .nil .nil) .nil))) Tryz.func179 h
theorem fn151(h:sh151 v0 H R):Fc TP 151 #[v0] H R:=
 ZM (fun f=>[163].contains f) [(16,(.fork [0,1] (.cons 2 (.line [3,4]) (.cons 3 (.line [2,4]) .nil))))] (.seq .nil (.seq .nil (.seq .nil (.seq (.seq .nil (.loop [5] ([20,21,22,25,26,27,6,28,29,30,7,31,32,33,8]++Ur 34 17++[9]++Ur 51 26++[23,24]) (.seq .nil (.seq (.seq .nil (.seq .nil (.seq .nil (.join [9] (Ur 34 17) .nil (.join [73] (Ur 51 22) .nil .nil))))) .nil)))) (.seq .nil (.seq (.seq .nil (.loop [11] (Ur 79 8++Ur 89 9++[87,88]) (.seq .nil (.seq (.join [93] (Ur 89 4) .nil .nil) .nil)))) .nil)))))) Tryz.func151 (args:=[v0]) (UE (by kernel_rfl) h)
theorem fn118(h:sh118 v0 H R):Fc TP 118 #[v0] H R:=
 ZM (fun f=>[163].contains f) [(7,(.fork [0,1,3,4] (.cons 2 (.line (Ur 5 5)) (.cons 5 (.line [2,6,7,8,9]) .nil))))] (.seq .nil (.seq .nil (.seq (.seq .nil (.loop [3,4] (Ur 6 8++[16,17,18,5]++Ur 19 12++[14,15]) .nil)) .nil))) Tryz.func118 (args:=[v0]) (UE (by kernel_rfl) h)
theorem fn152(h:sh152 v0 v1 H R):Fc TP 152 #[v0,v1] H R:=
 mr (fun f=>[163].contains f) (.seq .nil (.seq .nil (.seq (.seq .nil (.loop [6] (Ur 11 4++[7]++Ur 17 8++Ur 27 11++[8]++Ur 38 9++[25,26,15,16]) (.seq .nil (.seq (.seq .nil (.loop [7] (Ur 17 8++Ur 27 11++[8]++Ur 38 9++[25,26]) .nil)) .nil)))) .nil))) Tryz.func152 h
theorem fn182(h:sh182 v0 v1 H R):Fc TP 182 #[v0,v1] H R:=
 mr (fun f=>[163].contains f) (.seq .nil (.seq .nil (.seq (.seq .nil (.loop [6] (Ur 15 4++[7]++Ur 21 8++Ur 31 14++[29,30,19,20]) (.seq .nil (.seq (.seq .nil (.loop [7] (Ur 21 8++Ur 31 14++[29,30]) .nil)) .nil)))) .nil))) Tryz.func182 h
theorem fn153(h:sh153 v0 v1 H R):Fc TP 153 #[v0,v1] H R:=
 mr (fun f=>[163].contains f) (.seq .nil (.seq .nil (.seq .nil (.seq (.seq .nil (.loop [7] (Ur 13 4++Ur 19 16++[17,18]) .nil)) .nil)))) Tryz.func153 h
theorem fn196(h:sh196 v0 v1 H R):Fc TP 196 #[v0,v1] H R:=
 mr (fun f=>[163].contains f) .nil Tryz.func196 h
theorem fn154(h:sh154 v0 v1 v2 H R):Fc TP 154 #[v0,v1,v2] H R:=
 xe (fun f=>[163].contains f) (.seq .nil (.seq .nil (.seq (.seq .nil (.loop [8] (Ur 13 4++Ur 19 7++[9]++Ur 26 8++[17,18]) .nil)) .nil))) Tryz.func154 h
theorem fn183(h:sh183 v0 v1 v2 H R):Fc TP 183 #[v0,v1,v2] H R:=
 xe (fun f=>[163].contains f) (.seq .nil (.seq .nil (.seq (.seq .nil (.seq .nil (.cond .nil (.seq .nil (.cond (.seq .nil (.loop [8] (Ur 67 9++Ur 78 5++[6,76,77]) (.seq (.join [75] (Ur 67 8) .nil .nil) .nil))) (.seq .nil (.cond (.seq .nil (.seq (.join [101] (Ur 93 8) .nil .nil) (.seq .nil (.seq .nil (.loop [11] ([110,111]++Ur 114 4++[6,112,113]) .nil))))) (.seq .nil (.loop [12] (Ur 20 5++Ur 27 5++[13]++Ur 32 23++[6,25,26]) (.seq .nil (.seq (.seq .nil (.join [54] (Ur 32 22) .nil .nil)) .nil))))))))))) .nil))) Tryz.func183 h
theorem fn155(h:sh155 v0 v1 H R):Fc TP 155 #[v0,v1] H R:=
 mr (fun f=>[163].contains f) (.seq .nil (.seq .nil (.seq .nil (.seq (.seq .nil (.loop [5,7] (Ur 15 7++Ur 24 9++[8,9,33,34]++Ur 37 4++[10]++Ur 41 20++[11]++Ur 61 10++[35,36,22,23]) (.seq .nil (.seq (.seq .nil (.seq .nil (.loop [5,9] ([33,34]++Ur 37 4++[10]++Ur 41 20++[11]++Ur 61 10++[35,36]) (.seq .nil (.seq (.seq .nil (.join [11] (Ur 41 20) .nil .nil)) .nil))))) .nil)))) .nil)))) Tryz.func155 h
theorem fn162(h:sh162 v0 v1 H R):Fc TP 162 #[v0,v1] H R:=
 mr (fun f=>[163].contains f) (.seq .nil (.seq .nil (.seq .nil (.seq (.seq .nil (.loop [7,6,8] (Ur 14 7++Ur 23 8++[9,10,11,31,32]++Ur 35 9++[33,34,45,46,44,47,48,12,13]++Ur 49 9++[21,22]) (.seq .nil (.seq (.seq .nil (.seq .nil (.seq (.seq .nil (.loop [11] ([31,32]++Ur 35 9++[33,34]) .nil)) (.seq .nil (.join [7] (Ur 49 5) .nil .nil))))) .nil)))) .nil)))) Tryz.func162 h
theorem fn197(h:sh197 v0 v1 H R):Fc TP 197 #[v0,v1] H R:=
 mr (fun f=>[163].contains f) (.seq .nil (.seq (.seq .nil (.loop [5] (Ur 6 4++Ur 12 7++[4,10,11]) .nil)) .nil)) Tryz.func197 h
theorem fn184(h:sh184 v0 v1 v2 H R):Fc TP 184 #[v0,v1,v2] H R:=
 xe (fun f=>[163].contains f) (.seq .nil (.seq .nil (.seq .nil (.seq .nil (.seq (.join [38] (Ur 24 14) .nil .nil) (.seq (.seq .nil (.loop [9] (Ur 39 4++Ur 45 14++[10]++Ur 59 22++[6,11,81,82,83]++Ur 86 11++[84,85,43,44]) (.seq .nil (.seq (.seq .nil (.seq .nil (.seq (.join [80] (Ur 59 21) .nil .nil) (.seq .nil (.loop [11] ([81,82,83]++Ur 86 11++[6,84,85]) .nil))))) .nil)))) .nil)))))) Tryz.func184 h
theorem fn156(h:sh156 v0 v1 H R):Fc TP 156 #[v0,v1] H R:=
 mr (fun f=>[163].contains f) (.seq .nil (.seq .nil (.seq (.seq .nil (.loop [6] (Ur 10 4++Ur 16 14++[7]++Ur 30 8++[14,15]) .nil)) .nil))) Tryz.func156 h
theorem fn157(h:sh157 v0 v1 H R):Fc TP 157 #[v0,v1] H R:=
 mr (fun f=>[163].contains f) (.seq .nil (.seq .nil (.seq (.seq .nil (.loop [5,6] (Ur 10 4++Ur 16 16++Ur 33 6++[32,39,40,7,8,9]++Ur 41 4++Ur 47 21++[45,46,14,15]) (.seq .nil (.seq (.seq (.join [31] (Ur 16 15) .nil .nil) (.seq .nil (.seq .nil (.loop [5,9] (Ur 41 4++Ur 47 21++[45,46]) .nil)))) .nil)))) .nil))) Tryz.func157 h
theorem fn186(h:sh186 v0 v1 H R):Fc TP 186 #[v0,v1] H R:=
 mr (fun f=>[163].contains f) (.seq .nil (.seq .nil (.seq .nil (.seq (.seq .nil (.loop [6,7,8] (Ur 9 4++Ur 15 14++[13,14]) .nil)) .nil)))) Tryz.func186 h
theorem fn185(h:sh185 v0 v1 H R):Fc TP 185 #[v0,v1] H R:=
 mr (fun f=>[163].contains f) (.seq .nil (.seq .nil (.seq .nil (.seq .nil (.seq (.loop [6] ([18,7]++Ur 19 4++Ur 25 26++[23,24]) (.seq .nil (.seq .nil (.seq .nil (.loop [6,7] (Ur 19 4++Ur 25 26++[23,24]) (.seq .nil (.seq (.join [43] (Ur 25 18) .nil .nil) .nil))))))) .nil))))) Tryz.func185 h
theorem fn158(h:sh158 v0 v1 v2 H R):Fc TP 158 #[v0,v1,v2] H R:=
 xe (fun f=>[163].contains f) (.seq .nil (.seq .nil (.seq .nil (.seq (.seq .nil (.loop [9] (Ur 20 4++Ur 26 4++[10]++Ur 30 10++[41,42,43,40,44,45,11,12]++Ur 47 4++[46,51,52,13,14]++Ur 53 37++[24,25]) (.seq .nil (.seq (.seq .nil (.seq (.join [39] (Ur 30 9) .nil .nil) (.seq .nil (.seq .nil (.seq (.seq .nil (.cond (.seq (.join [64] (Ur 56 8) .nil .nil) .nil) .nil)) (.join [85] (Ur 67 18) .nil .nil)))))) .nil)))) .nil)))) Tryz.func158 h
theorem fn159(h:sh159 v0 v1 v2 H R):Fc TP 159 #[v0,v1,v2] H R:=
 xe (fun f=>[163].contains f) (.seq .nil (.seq .nil (.seq (.seq .nil (.loop [8] (Ur 15 4++Ur 21 4++[9]++Ur 26 4++[25,30,31,10,11]++Ur 32 10++[12]++Ur 42 4++Ur 48 20++[46,47]++Ur 68 10++[19,20]) (.seq .nil (.seq (.seq .nil (.seq .nil (.join [11] (Ur 32 10++[12]++Ur 42 4++Ur 48 20++[46,47]) (.join [41] (Ur 32 9) .nil (.cond (.seq .nil (.seq .nil (.loop [11,12] (Ur 42 4++Ur 48 20++[46,47]) (.seq .nil (.seq (.join [65] (Ur 48 17) .nil .nil) .nil))))) .nil)) .nil))) .nil)))) .nil))) Tryz.func159 h
theorem fn187(h:sh187 v0 v1 H R):Fc TP 187 #[v0,v1] H R:=
 mr (fun f=>[163].contains f) (.seq .nil (.seq (.seq .nil (.loop [5] (Ur 6 4++Ur 12 13++[4,10,11]) .nil)) .nil)) Tryz.func187 h
theorem fn119(h:sh119 v0 v1 H R):Fc TP 119 #[v0,v1] H R:=
 mr (fun f=>[163].contains f) (.seq .nil (.seq .nil (.seq .nil (.seq (.seq .nil (.loop [6] (Ur 36 5++Ur 43 27++[41,42]) .nil)) .nil)))) Tryz.func119 h
theorem fn117(h:sh117 v0 H R):Fc TP 117 #[v0] H R:=
 mU (fun f=>[163].contains f) (.seq .nil (.seq .nil (.seq .nil (.seq .nil (.seq .nil (.seq .nil (.seq .nil (.seq .nil (.seq .nil (.seq (.seq .nil (.loop [6] (Ur 31 4++Ur 37 7++[3]++Ur 44 4++[2,35,36]) .nil)) .nil)))))))))) Tryz.func117 h
theorem fn74(h:sh74 v0 H R):Fc TP 74 #[v0] H R:=
 ZM (fun f=>[163].contains f) [(12,(.fork [0,2,3,4,5,6] (.cons 1 (.line (Ur 7 5)) (.cons 7 (.line [1,8,9,10,11]) .nil))))] (.seq .nil (.seq .nil (.seq .nil (.seq .nil (.seq .nil (.seq .nil (.seq .nil (.seq (.seq .nil (.loop [8] (Ur 49 4++Ur 55 21++[53,54]) (.seq .nil (.seq (.join [] (Ur 55 11) .nil .nil) .nil)))) .nil)))))))) Tryz.func74 (args:=[v0]) (UE (by kernel_rfl) h)
theorem fn164(h:sh164 v0 v1 H R):Fc TP 164 #[v0,v1] H R:=
 mr (fun f=>[163].contains f) (.seq .nil (.seq .nil (.seq (.seq .nil (.loop [5] (Ur 11 4++Ur 17 9++[4,15,16]) .nil)) .nil))) Tryz.func164 h
theorem fn165(h:sh165 v0 v1 H R):Fc TP 165 #[v0,v1] H R:=
 mr (fun f=>[163].contains f) (.seq .nil (.seq .nil (.seq (.seq .nil (.loop [5] (Ur 11 4++Ur 17 9++[4,15,16]) .nil)) .nil))) Tryz.func165 h
theorem fn120(h:sh120 v0 v1 H R):Fc TP 120 #[v0,v1] H R:=
 mr (fun f=>[163].contains f) .nil Tryz.func120 h
theorem fn75(h:sh75 v0 v1 H R):Fc TP 75 #[v0,v1] H R:=
 mr (fun f=>[163].contains f) (.seq .nil (.seq (.join [26] (Ur 6 20) .nil .nil) (.seq (.seq .nil (.loop [5] (Ur 27 5++Ur 34 12++[4,32,33]) .nil)) .nil))) Tryz.func75 h
theorem fn27(h:sh27 v0 v1 H R):Fc TP 27 #[v0,v1] H R:=
 mr (fun f=>[163].contains f) .nil Tryz.func27 h
section
variable(v0 v1 v2 v3 v4 v5 v6 v7 v8:Value)(H:Hp)(R:Value->Hp->Prop)
def sh146:Prop:=kT 104 v0 H fun b o=>Uz 54 o fun f a=>UL 64 b a fun p=>∃ g,QC true TP 177 #[p,(Uv 0),(Uv 2)] a g/\( Pu (Ze (some (.int .u32)) (some (.int .u16)) g) fun q=>UL 64 b a fun r=>∃ h,QC true TP 177 #[r,(Uv 2),(Uv 2)] a h/\( Pu (Ze (some (.int .u32)) (some (.int .u16)) h) fun s=>UL 64 b a fun t=>∃ i,QC true TP 177 #[t,(Uv 4),(Uv 4)] a i/\( UL 64 b a fun u=>∃ j,QC true TP 177 #[u,(Uv 8),(Uv 4)] a j/\( Pu (zo TP 54 [(0,q),(1,s),(2,i),(3,j)]) fun v=>Uw a fun w=>Uz 54 w fun c x=>Uw x fun y=>Us 16 c v y fun z=>Uw z fun A=>Uo (n:=1) ((Uv 0),()) A (fun B d e=>Ub .lss d.1 (Uv 10) fun C=>hU C (UL 64 b e fun D=>Ub .mul (Uv 4) d.1 fun E=>Ub .add (Uv 12) E fun F=>Uf 177 #[D,F,(Uv 4)] e fun G I=>UA 4 c fun J=>Uk 10 1 J d.1 fun K=>Us 1 K G I fun L=>Ub .add d.1 (Uv 1) fun M=>B (M,()) L) (UL 64 b e fun N=>Uf 177 #[N,(Uv 52),(Uv 4)] e fun O P=>UA 14 c fun Q=>Us 1 Q O P fun k=>UL 64 b k fun T=>Uf 177 #[T,(Uv 56),(Uv 4)] k fun V W=>UA 15 c fun X=>Us 1 X V W fun l=>UL 16 c l fun Y=>Us 16 f Y l fun m=>UL 16 f m fun Z=>R Z m))))))
def sh116:Prop:=kT 81 v0 H fun a n=>UL 2 a n fun B=>Uf 147 #[B] n fun C d=>Ub .neq C (Uv 0) fun D=>hU D (Uf 148 #[(.int .u8 1)] d fun E F=>R (.tuple #[(.pointer none),E]) F) (UL 2 a d fun G=>∃ k,QC true TP 150 #[G,(Uv 0)] d k/\( UA 0 a fun I=>Ul I d fun o=>And (Uw d fun J=>Uf 149 #[k,o] J fun p K=>Ux p 0 fun L=>Ux p 1 fun M=>Uw K fun N=>Uz 62 N fun e O=>Uw O fun P=>Us 9 e L P fun Q=>Uw Q fun b=>Ub .neq M (Uv 0) fun T=>hU T (Uf 148 #[(.int .u8 2)] b fun V W=>R (.tuple #[(.pointer none),V]) W) (UL 9 e b fun q=>UL 2 a b fun X=>UA 3 e fun Y=>Ul Y b fun Z=>∃ l,QC true TP 150 #[X,Z] b l/\( And (Uw b fun aa=>Uf 133 #[q,l] aa fun r ab=>Ux r 0 fun ac=>Ux r 1 fun ad=>Uw ab fun ae=>Uz 151 ae fun s af=>Uw af fun ag=>Us 1 s ac ag fun ah=>Uw ah fun f=>Ub .neq ad (Uv 0) fun ai=>hU ai (Uf 148 #[(.int .u8 3)] f fun aj ak=>R (.tuple #[(.pointer none),aj]) ak) (UL 2 a f fun al=>UL 9 e f fun am=>UL 1 s f fun an=>Pu (zo TP 188 [(0,al),(1,am),(2,an)]) fun ao=>kT 188 ao f fun ap aq=>R (.tuple #[ap,(.slice none 0 0)]) aq)) (And (Uw b fun ar=>Uz 151 ar fun t au=>Uw au fun av=>Uf 133 #[q,l] av fun u aw=>Ux u 0 fun ax=>Ux u 1 fun ay=>Uw aw fun az=>Us 1 t ax az fun aA=>Uw aA fun g=>Ub .neq ay (Uv 0) fun aB=>hU aB (Uf 148 #[(.int .u8 3)] g fun aC aD=>R (.tuple #[(.pointer none),aC]) aD) (UL 2 a g fun aE=>UL 9 e g fun aF=>UL 1 t g fun aG=>Pu (zo TP 188 [(0,aE),(1,aF),(2,aG)]) fun aI=>kT 188 aI g fun aJ aK=>R (.tuple #[aJ,(.slice none 0 0)]) aK)) (True))))) (And (Uw d fun aL=>Uz 62 aL fun h aM=>Uw aM fun aN=>Uf 149 #[k,o] aN fun v aO=>Ux v 0 fun aP=>Ux v 1 fun aQ=>Uw aO fun aS=>Us 9 h aP aS fun aT=>Uw aT fun c=>Ub .neq aQ (Uv 0) fun aV=>hU aV (Uf 148 #[(.int .u8 2)] c fun aW aX=>R (.tuple #[(.pointer none),aW]) aX) (UL 9 h c fun w=>UL 2 a c fun aY=>UA 3 h fun aZ=>Ul aZ c fun a0=>∃ m,QC true TP 150 #[aY,a0] c m/\( And (Uw c fun a1=>Uf 133 #[w,m] a1 fun x a2=>Ux x 0 fun a3=>Ux x 1 fun a4=>Uw a2 fun a5=>Uz 151 a5 fun y a6=>Uw a6 fun a7=>Us 1 y a3 a7 fun a8=>Uw a8 fun i=>Ub .neq a4 (Uv 0) fun a9=>hU a9 (Uf 148 #[(.int .u8 3)] i fun ba bb=>R (.tuple #[(.pointer none),ba]) bb) (UL 2 a i fun bc=>UL 9 h i fun bd=>UL 1 y i fun be=>Pu (zo TP 188 [(0,bc),(1,bd),(2,be)]) fun bf=>kT 188 bf i fun bg bh=>R (.tuple #[bg,(.slice none 0 0)]) bh)) (And (Uw c fun bi=>Uz 151 bi fun z bj=>Uw bj fun bk=>Uf 133 #[w,m] bk fun A bl=>Ux A 0 fun bm=>Ux A 1 fun bn=>Uw bl fun bo=>Us 1 z bm bo fun bp=>Uw bp fun j=>Ub .neq bn (Uv 0) fun bq=>hU bq (Uf 148 #[(.int .u8 3)] j fun br bs=>R (.tuple #[(.pointer none),br]) bs) (UL 2 a j fun bt=>UL 9 h j fun bu=>UL 1 z j fun bv=>Pu (zo TP 188 [(0,bt),(1,bu),(2,bv)]) fun bw=>kT 188 bw j fun bx bz=>R (.tuple #[bx,(.slice none 0 0)]) bz)) (True))))) (True))))
end
variable{v0 v1 v2 v3 v4 v5 v6 v7 v8:Value}{H:Hp}{R:Value->Hp->Prop}
theorem fn146(h:sh146 v0 H R):Fc TP 146 #[v0] H R:=
 mU (fun f=>[150,177].contains f) (.seq .nil (.seq .nil (.seq (.seq .nil (.loop [4] ([16,17]++Ur 20 8++[18,19]) .nil)) .nil))) Tryz.func146 h
theorem fn116(h:sh116 v0 H R):Fc TP 116 #[v0] H R:=
 ZM (fun f=>[150,177].contains f) [(3,(.fork (Ur 0 4) (.cons 4 (.line (Ur 5 6)) (.cons 8 (.line [4,5,6,7,9,10]) .nil)))),(6,(.fork (Ur 0 5) (.cons 5 (.line (Ur 6 6)) (.cons 9 (.line [5,6,7,8,10,11]) .nil))))] .nil Tryz.func116 (args:=[v0]) (UE (by kernel_rfl) h)
section
variable(v0 v1 v2 v3 v4 v5 v6 v7 v8:Value)(H:Hp)(R:Value->Hp->Prop)
def sh131:Prop:=kT 65 v0 H fun c d=>Uo (n:=1) ((Uv 0),()) d (fun e b a=>Ub .lss b.1 (Uv 1024) fun f=>hU f (Uk 1024 1 c b.1 fun g=>Ul g a fun h=>Pu (z8 (some (.int .u8)) .neq h (.int .u8 0)) fun i=>hU i (R U0 a) (Ub .add b.1 (Uv 1) fun j=>e (j,()) a)) (R U1 a))
def sh86:Prop:=kT 81 v0 H fun b e=>Uj (n:=1) (fun j g=>hU j.1 (R U0 g) (Uo (n:=1) ((Uv 0),()) g (fun k c a=>UA 1 b fun l=>Ul l a fun m=>Ug 79 m fun o=>Ub .lss c.1 o fun p=>hU p (UA 1 b fun q=>Ul q a fun r=>Ui 1025 r c.1 fun s=>UA 0 s fun t=>Ul t a fun f=>Uj (n:=1) (fun u h=>hU u.1 (R U0 h) (Ub .add c.1 (Uv 1) fun v=>k (v,()) h)) (fun d=>Ub .lss f (Uv 0) fun w=>hU w (d (U1,()) a) (UA 0 b fun x=>Ul x a fun y=>Ub .geq f y fun z=>hU z (d (U1,()) a) (Ub .gtr c.1 (Uv 0) fun A=>hU A (UA 1 b fun B=>Ul B a fun C=>Ub .sub c.1 (Uv 1) fun D=>Ui 1025 C D fun E=>UA 0 E fun F=>Ul F a fun G=>Ub .geq G f fun I=>hU I (d (U1,()) a) (UA 1 b fun J=>Ul J a fun K=>Ui 1025 K c.1 fun L=>UA 1 L fun M=>UL 1024 M a fun N=>Uf 131 #[N] a fun O P=>d (O,()) P)) (UA 1 b fun Q=>Ul Q a fun T=>Ui 1025 T c.1 fun V=>UA 1 V fun W=>UL 1024 W a fun X=>Uf 131 #[X] a fun Y Z=>d (Y,()) Z))))) (R U1 a)))) (fun i=>UA 0 b fun aa=>Ul aa e fun ab=>Ub .lss ab (Uv 1) fun ac=>hU ac (i (U1,()) e) (UA 0 b fun ad=>Ul ad e fun ae=>Ub .gtr ae (Uv 1048576) fun af=>i (af,()) e))
def sh87:Prop:=Uo (n:=2) ((.slice none 0 0),(Uv 0),()) H (fun c a b=>Ug 79 v0 fun d=>Ub .lss a.2.1 d fun e=>hU e (Ui 1025 v0 a.2.1 fun f=>UL 1025 f b fun g=>Uq 79 g a.1 b fun h i=>Ub .add a.2.1 (Uv 1) fun j=>c (h,j,()) i) (R a.1 b))
def sh32:Prop:=kT 81 v0 H fun b c=>UL 2 b c fun g=>Uf 86 #[g] c fun h a=>Uu h fun i=>hU i (R (.tuple #[(.pointer none),(Uv 4)]) a) (UA 0 b fun d=>UA 1 b fun j=>Ul j a fun e=>And (Ul d a fun k=>Uw a fun l=>Uf 87 #[e] l fun m n=>Pu (zo TP 130 [(0,k),(1,m)]) fun o=>Uw n fun p=>kT 130 o p fun q r=>Uw r fun s=>R (.tuple #[q,(Uv 0)]) s) (And (Uw a fun t=>Uf 87 #[e] t fun u f=>Ul d f fun v=>Pu (zo TP 130 [(0,v),(1,u)]) fun w=>Uw f fun x=>kT 130 w x fun y z=>Uw z fun A=>R (.tuple #[y,(Uv 0)]) A) (True)))
def sh73:Prop:=Pu (ya TP 39 true .eql v0 (.pointer none) H) fun a=>hU a (R (Uv 0) H) (UI v0 fun b=>UA 0 b fun c=>Ul c H fun d=>R d H)
def sh91:Prop:=Uz 65 H fun a c=>Pu (ya TP 39 true .eql v0 (.pointer none) c) fun m=>hU m (Pu (zo TP 65 []) fun o=>Us 1024 a o c fun f=>UL 1024 a f fun p=>R (.tuple #[p,(Uv 1)]) f) (UI v0 fun q=>UA 5 q fun r=>Ul r c fun s=>hU s (Pu (zo TP 65 []) fun t=>Us 1024 a t c fun g=>UL 1024 a g fun u=>R (.tuple #[u,(Uv 3)]) g) (Uj (n:=1) (fun v e=>hU v.1 (Pu (zo TP 65 []) fun w=>Us 1024 a w e fun h=>UL 1024 a h fun x=>R (.tuple #[x,(Uv 2)]) h) (UI v0 fun y=>UA 8 y fun z=>Ul z e fun A=>Ub .add A (Uv 1) fun B=>UI v0 fun C=>UA 8 C fun D=>Us 1 D B e fun i=>UI v0 fun E=>UA 2 E fun F=>Ul F i fun G=>Ug 79 G fun I=>Ub .sub I (Uv 1) fun J=>Uo (n:=1) (J,()) i (fun K d b=>Ub .geq d.1 (Uv 0) fun L=>hU L (UI v0 fun M=>UA 2 M fun N=>Ul N b fun O=>Ui 1025 O d.1 fun P=>UA 0 P fun Q=>Ul Q b fun T=>Ub .eql T v1 fun V=>hU V (UI v0 fun W=>UA 2 W fun X=>Ul X b fun Y=>Ui 1025 Y d.1 fun Z=>UA 1 Z fun aa=>UL 1024 aa b fun ab=>Us 1024 a ab b fun j=>UL 1024 a j fun ac=>R (.tuple #[ac,(Uv 0)]) j) (Ub .sub d.1 (Uv 1) fun ad=>K (ad,()) b)) (UI v0 fun ae=>UA 1 ae fun af=>Ul af b fun ag=>Uf 137 #[ag,v1] b fun ah ai=>Us 1024 a ah ai fun k=>UL 1024 a k fun aj=>R (.tuple #[aj,(Uv 0)]) k)))) (fun l=>Ub .lss v1 (Uv 0) fun ak=>hU ak (l (U1,()) c) (UI v0 fun al=>UA 0 al fun am=>Ul am c fun an=>Ub .geq v1 an fun ao=>l (ao,()) c))))
def sh137:Prop:=Uz 65 H fun b f=>Uo (n:=1) ((Uv 0),()) f (fun g c a=>Ug 79 v0 fun h=>Ub .lss c.1 h fun i=>hU i (Ui 1025 v0 c.1 fun j=>UA 0 j fun k=>Ul k a fun l=>Ub .eql l v1 fun m=>hU m (Ui 1025 v0 c.1 fun o=>UA 1 o fun p=>UL 1024 p a fun q=>Us 1024 b q a fun d=>UL 1024 b d fun r=>R r d) (Ub .add c.1 (Uv 1) fun s=>g (s,()) a)) (Pu (zo TP 65 []) fun t=>Us 1024 b t a fun e=>UL 1024 b e fun u=>R u e))
def sh89:Prop:=Uj (n:=1) (fun e a=>hU e.1 (R (Uv 0) a) (UI v0 fun f=>UA 9 f fun g=>Ul g a fun h=>Ub .add h (Uv 1) fun i=>UI v0 fun j=>UA 9 j fun k=>Us 1 k i a fun b=>UI v0 fun l=>UA 9 l fun m=>Ul m b fun o=>UI v0 fun p=>UA 10 p fun q=>Us 1 q o b fun c=>UI v0 fun r=>UA 9 r fun s=>Ul s c fun t=>R t c)) (fun d=>Pu (ya TP 39 true .eql v0 (.pointer none) H) fun u=>hU u (d (U1,()) H) (UI v0 fun v=>UA 5 v fun w=>Ul w H fun x=>d (x,()) H))
def sh115:Prop:=Pu (ya TP 39 true .neq v0 (.pointer none) H) fun a=>hU a (UI v0 fun b=>UA 5 b fun c=>Ul c H fun d=>Uu d fun e=>hU e (Ub .gtr v1 (Uv 0) fun f=>hU f (UI v0 fun g=>UA 10 g fun h=>Ul h H fun i=>Ub .eql v1 i fun j=>R j H) (R U0 H)) (R U0 H)) (R U0 H)
def sh132:Prop:=kT 62 v1 H fun b c=>UL 9 b c fun f=>Uf 124 #[f] c fun g a=>hU g (UA 0 b fun h=>UA 0 h fun d=>And (Ul d a fun i=>Uw a fun j=>Uf 73 #[v0] j fun k l=>Ub .leq i k fun m=>Uw l fun n=>R m n) (And (Uw a fun o=>Uf 73 #[v0] o fun p e=>Ul d e fun q=>Ub .leq q p fun r=>Uw e fun s=>R r s) (True))) (And (Uw a fun t=>R U0 t) (And (Uw a fun u=>R U0 u) (True)))
def sh88:Prop:=kT 62 v1 H fun d p=>Uz 151 p fun a b=>Pu (ya TP 39 true .eql v0 (.pointer none) b) fun q=>hU q (Pu (zo TP 151 []) fun r=>Us 1 a r b fun g=>UL 1 a g fun s=>R (.tuple #[s,(Uv 1)]) g) (UL 9 d b fun t=>Uf 132 #[v0,t] b fun u e=>Uu u fun v=>hU v (Pu (zo TP 151 []) fun w=>Us 1 a w e fun h=>UL 1 a h fun x=>R (.tuple #[x,(Uv 2)]) h) (UA 3 d fun y=>Ul y e fun z=>Uf 91 #[v0,z] e fun i A=>Ux i 0 fun B=>Ux i 1 fun C=>Uz 65 A fun j D=>Us 1024 j B D fun c=>Ub .neq C (Uv 0) fun E=>hU E (Pu (zo TP 151 []) fun F=>Us 1 a F c fun k=>UL 1 a k fun G=>R (.tuple #[G,(Uv 3)]) k) (UL 9 d c fun I=>UL 1024 j c fun J=>Uf 133 #[I,J] c fun l K=>Ux l 0 fun L=>Ux l 1 fun M=>Uz 151 K fun m N=>Us 1 m L N fun f=>Ub .neq M (Uv 0) fun O=>hU O (Pu (zo TP 151 []) fun P=>Us 1 a P f fun n=>UL 1 a n fun Q=>R (.tuple #[Q,(Uv 4)]) n) (UL 1 m f fun T=>Us 1 a T f fun o=>UL 1 a o fun V=>R (.tuple #[V,(Uv 0)]) o))))
def sh33:Prop:=kT 62 v1 H fun b c=>UL 9 b c fun h=>Uf 88 #[v0,h] c fun d i=>Ux d 0 fun j=>Ux d 1 fun e=>Uz 151 i fun f k=>Us 1 f j k fun a=>Ub .neq e (Uv 0) fun l=>hU l (R (.tuple #[(.pointer none),e]) a) (UA 0 f fun m=>Ul m a fun n=>Ug 29 n fun o=>Ub .gtr o (Uv 0) fun p=>hU p (R (.tuple #[(.pointer none),(Uv 4)]) a) (And (UL 9 b a fun q=>Uw a fun r=>Uf 89 #[v0] r fun s t=>Pu (zo TP 128 [(0,v0),(1,q),(2,s),(3,U1)]) fun u=>Uw t fun v=>kT 128 u v fun w x=>Uw x fun y=>R (.tuple #[w,(Uv 0)]) y) (And (Uw a fun z=>Uf 89 #[v0] z fun A g=>UL 9 b g fun B=>Pu (zo TP 128 [(0,v0),(1,B),(2,A),(3,U1)]) fun C=>Uw g fun D=>kT 128 C D fun E F=>Uw F fun G=>R (.tuple #[E,(Uv 0)]) G) (True))))
def sh67:Prop:=Uj (n:=1) (fun d a=>hU d.1 (R (Uv 1) a) (UI v0 fun e=>UA 0 e fun f=>Ul f a fun g=>UI v0 fun h=>UA 10 h fun i=>Ul i a fun j=>Uf 115 #[g,j] a fun k b=>Uu k fun l=>hU l (R (Uv 3) b) (R (Uv 0) b))) (fun c=>Pu (ya TP 40 true .eql v0 (.pointer none) H) fun m=>hU m (c (U1,()) H) (UI v0 fun o=>UA 11 o fun p=>Ul p H fun q=>Uu q fun r=>c (r,()) H))
def sh35:Prop:=Uz 65 H fun b p=>Uf 67 #[v0] p fun e c=>Ub .neq e (Uv 0) fun q=>hU q (Pu (zo TP 65 []) fun r=>Us 1024 b r c fun f=>UL 1024 b f fun s=>R (.tuple #[s,e]) f) (Uj (n:=1) (fun t g=>hU t.1 (Pu (zo TP 65 []) fun u=>Us 1024 b u g fun h=>UL 1024 b h fun v=>R (.tuple #[v,(Uv 2)]) h) (Uo (n:=1) ((Uv 0),()) g (fun w d a=>UI v0 fun x=>UA 12 x fun y=>Ul y a fun z=>Ug 126 z fun A=>Ub .lss d.1 A fun B=>hU B (UI v0 fun C=>UA 12 C fun D=>Ul D a fun E=>Ui 1025 E d.1 fun F=>UA 0 F fun G=>Ul G a fun I=>Ub .eql I v1 fun J=>hU J (UI v0 fun K=>UA 12 K fun L=>Ul L a fun M=>Ui 1025 M d.1 fun N=>UA 1 N fun O=>UL 1024 O a fun P=>Us 1024 b P a fun i=>UL 1024 b i fun Q=>R (.tuple #[Q,(Uv 0)]) i) (Ub .add d.1 (Uv 1) fun T=>w (T,()) a)) (UI v0 fun V=>UA 0 V fun W=>Ul W a fun X=>Uf 91 #[X,v1] a fun j Y=>Ux j 0 fun Z=>Ux j 1 fun ak=>Uz 65 Y fun k aa=>Us 1024 k Z aa fun l=>UL 1024 k l fun ab=>Us 1024 b ab l fun m=>UL 1024 b m fun ac=>R (.tuple #[ac,(Uv 0)]) m)))) (fun o=>Ub .lss v1 (Uv 0) fun ad=>hU ad (o (U1,()) c) (UI v0 fun ae=>UA 1 ae fun af=>UA 0 af fun ag=>UA 0 ag fun ah=>Ul ah c fun ai=>Ub .geq v1 ai fun aj=>o (aj,()) c)))
def sh6:Prop:=kT 28 v0 H fun a c=>UA 0 a fun z=>UL 3 z c fun A=>UA 3 a fun B=>UL 3 B c fun C=>Uf 27 #[A,C] c fun D b=>Uu D fun E=>hU E (R (.tuple #[(.pointer none),U0,U0]) b) (UA 0 a fun F=>UL 3 F b fun G=>UA 3 a fun I=>UL 3 I b fun J=>UA 6 a fun K=>Ul K b fun L=>Uf 28 #[G,J,L] b fun M N=>Uz 81 N fun d O=>Us 2 d M O fun k=>UA 0 a fun P=>UL 3 P k fun Q=>Uf 29 #[Q] k fun l T=>Ux l 0 fun V=>Ux l 1 fun an=>Uz 62 T fun e W=>Us 9 e V W fun m=>UL 2 d m fun X=>Uf 30 #[X] m fun o f=>Ux o 0 fun g=>Ux o 1 fun Y=>Uj (n:=1) (fun Z h=>hU Z.1 (R (.tuple #[(.pointer none),U1,U0]) h) (UL 9 e h fun aa=>Uf 31 #[g,aa] h fun p i=>Ux p 0 fun q=>Ux p 1 fun ab=>Uj (n:=1) (fun ac j=>hU ac.1 (R (.tuple #[(.pointer none),U1,U0]) j) (UL 2 d j fun ad=>Uf 32 #[ad] j fun r s=>Ux r 0 fun t=>Ux r 1 fun ao=>UL 9 e s fun ae=>Uf 33 #[t,ae] s fun u af=>Ux u 0 fun v=>Ux u 1 fun ap=>Pu (zo TP 42 [(0,g),(1,q),(2,t),(3,v)]) fun ag=>kT 42 ag af fun ah w=>Pu (ya TP 40 true .neq v (.pointer none) w) fun ai=>R (.tuple #[ah,U1,ai]) w)) (fun x=>Pu (ya TP 38 true .eql q (.pointer none) i) fun aj=>hU aj (x (U1,()) i) (Ub .neq ab (Uv 0) fun ak=>x (ak,()) i)))) (fun y=>Pu (ya TP 37 true .eql g (.pointer none) f) fun al=>hU al (y (U1,()) f) (Ub .neq Y (Uv 0) fun am=>y (am,()) f)))
end
variable{v0 v1 v2 v3 v4 v5 v6 v7 v8:Value}{H:Hp}{R:Value->Hp->Prop}
theorem fn131(h:sh131 v0 H R):Fc TP 131 #[v0] H R:=
 mU UQ (.seq .nil (.seq (.seq .nil (.loop [3] [4,5,8,9,10,11,2,6,7] .nil)) .nil)) Tryz.func131 h
theorem fn86(h:sh86 v0 H R):Fc TP 86 #[v0] H R:=
 mU UQ (.seq .nil (.seq (.join [12] (Ur 5 7) .nil .nil) (.seq (.seq .nil (.loop [3] (Ur 13 5++Ur 20 6++[4]++Ur 26 32++[2,18,19]) (.seq .nil (.seq (.seq .nil (.join [57] (Ur 26 31) .nil .nil)) .nil)))) .nil))) Tryz.func86 h
theorem fn87(h:sh87 v0 H R):Fc TP 87 #[v0] H R:=
 mU UQ (.seq .nil (.seq .nil (.seq (.seq .nil (.loop [3,4] (Ur 5 4++Ur 11 7++[9,10]) .nil)) .nil))) Tryz.func87 h
theorem fn32(h:sh32 v0 H R):Fc TP 32 #[v0] H R:=
 ZM UQ [(3,(.fork [0,2,3] (.cons 1 (.line (Ur 4 5)) (.cons 4 (.line [1,5,6,7,8]) .nil))))] .nil Tryz.func32 (args:=[v0]) (UE (by kernel_rfl) h)
theorem fn73(h:sh73 v0 H R):Fc TP 73 #[v0] H R:=
 mU UQ .nil Tryz.func73 h
theorem fn91(h:sh91 v0 v1 H R):Fc TP 91 #[v0,v1] H R:=
 mr UQ (.seq .nil (.seq .nil (.seq .nil (.seq (.join [24] (Ur 15 9) .nil .nil) (.seq .nil (.seq (.seq .nil (.loop [6] ([40,41]++Ur 44 18++[5,42,43]) .nil)) .nil)))))) Tryz.func91 h
theorem fn137(h:sh137 v0 v1 H R):Fc TP 137 #[v0,v1] H R:=
 mr UQ (.seq .nil (.seq (.seq .nil (.loop [5] (Ur 6 4++Ur 12 12++[10,11]) .nil)) .nil)) Tryz.func137 h
theorem fn89(h:sh89 v0 H R):Fc TP 89 #[v0] H R:=
 mU UQ (.seq .nil (.seq (.join [10] (Ur 3 7) .nil .nil) .nil)) Tryz.func89 h
theorem fn115(h:sh115 v0 v1 H R):Fc TP 115 #[v0,v1] H R:=
 mr UQ .nil Tryz.func115 h
theorem fn132(h:sh132 v0 v1 H R):Fc TP 132 #[v0,v1] H R:=
 ZM UQ [(2,(.fork [0,1,2,3,5] (.cons 4 (.line (Ur 6 4)) (.cons 6 (.line [4,7,8,9]) .nil))))] .nil Tryz.func132 (args:=[v0,v1]) (UE (by kernel_rfl) h)
theorem fn88(h:sh88 v0 v1 H R):Fc TP 88 #[v0,v1] H R:=
 mr UQ .nil Tryz.func88 h
theorem fn33(h:sh33 v0 v1 H R):Fc TP 33 #[v0,v1] H R:=
 ZM UQ [(6,(.fork [0,2] (.cons 1 (.line (Ur 3 5)) (.cons 3 (.line [1,4,5,6,7]) .nil))))] .nil Tryz.func33 (args:=[v0,v1]) (UE (by kernel_rfl) h)
theorem fn67(h:sh67 v0 H R):Fc TP 67 #[v0] H R:=
 mU UQ (.seq .nil (.seq (.join [12] (Ur 4 8) .nil .nil) .nil)) Tryz.func67 h
theorem fn35(h:sh35 v0 v1 H R):Fc TP 35 #[v0,v1] H R:=
 mr UQ (.seq .nil (.seq .nil (.seq .nil (.seq (.join [27] (Ur 16 11) .nil .nil) (.seq (.seq .nil (.loop [7] (Ur 29 7++Ur 38 18++[5,36,37]) .nil)) .nil))))) Tryz.func35 h
theorem fn6(h:sh6 v0 H R):Fc TP 6 #[v0] H R:=
 mU UQ (.seq .nil (.seq .nil (.seq .nil (.seq .nil (.seq .nil (.seq .nil (.seq (.join [45] (Ur 40 5) .nil .nil) (.seq .nil (.seq (.join [57] (Ur 52 5) .nil .nil) .nil))))))))) Tryz.func6 h
end Go.Proofs
namespace Go.Vc
open Go.Proofs
def DS.pB(s:DS):DS:={ s with jS:=s.jS+1,kB:=s.jS+1 }
section
variable{H:Hp}{R:Value->Hp->Prop}{p:Nat}{s:DS}{O:Nat->Prop}
theorem Lj(h:jQ H p s O)(kH:s.jt=false)(hc:0<=s.jS/\s.jS<4611686018427387904)(k:∀ H',kS O O H H'->jQ H' p s.pB O->R (.int .i64 (s.jS+1)) H'):Fc TP 85 #[zD p] H R:=by
 refine fn85 ?_;simp only[sh85,Ul,UA,Us,Ub,UI,Uf,Uv];refine YC h ?_;obtain⟨⟨mh,ml,ps,hs,fh,fl,nh,nl,kK,lJ,hd,o1,o2,o3,o4,o5⟩,hl⟩:=h;simp only[kH,jl,jD,zn,za,show decide ((0:Int)≠0)=false from rfl,zh,zl,zc,aR,zi hd.top,Zn,ze];rw[zd (by omega) (by omega)];refine ZQ (i:=9) (v:=.int .i64 (s.jS+1)) hd.top (by simp[wO]) rfl rfl fun H2 k2 s2 g2=>?_;have AW:DI H2 p { s with jS:=s.jS+1 } mh ml ps hs fh fl nh nl kK lJ:=hd.turn k2 g2 rfl rfl rfl rfl rfl;simp only[zi AW.top,Zn,za];refine ZQ (i:=10) (v:=.int .i64 (s.jS+1)) AW.top (by simp[wO]) rfl rfl fun H3 k3 s3 g3=>?_;have qN:DI H3 p s.pB mh ml ps hs fh fl nh nl kK lJ:=AW.turn k3 g3 rfl rfl rfl rfl rfl;simp only[zi qN.top,Zn,za];have k13:=k2.trans k3;refine k H3 (k13.oF fun b hb e=>by subst e;exact o1) ⟨⟨mh,ml,ps,hs,fh,fl,nh,nl,kK,lJ,qN,o1,o2,o3,o4,o5⟩,fun b ho=>jj (hl b ho) k13.le⟩
theorem wQ(h:jQ H p s O){n:Int}(k:R (.bool (!s.jt && decide (0<n/\s.kB=n))) H):Fc TP 92 #[zD p,.int .i64 n] H R:=by
 refine fn92 ?_;simp only[sh92,Ul,UA,Ub,UI,Uf,Uv,U0];refine YC h ?_;obtain⟨⟨mh,ml,ps,hs,fh,fl,nh,nl,kK,lJ,hd,o1,o2,o3,o4,o5⟩,hl⟩:=h;cases kH:s.jt with
 | true=>
  simp only[kH,jO,zp,za,show decide ((3:Int)=0)=false from rfl,zh,iW,Bool.false_and]at k ⊢;exact k
 | false=>
  simp only[kH,jl,jD,zp,za,decide_true,zA,zJ,zb,zl,zc,aR,zi hd.top,Zn,jN,Bool.true_and]at k ⊢;refine⟨fun h0=>?_,fun h0=>?_⟩
  ·have e:decide (0<n/\s.kB=n)=decide (s.kB=n):=by rw[kr];exact⟨fun h=>h.2,fun h=>⟨h0,h⟩⟩
   rw[e]at k;exact k
  ·have e:decide (0<n/\s.kB=n)=false:=by rw[jq];exact fun h=>h0 h.1
   rw[e]at k;exact k
theorem V2(h:jQ H p s O)(hn:0<s.n)(k:R (.bool true) H):Fc TP 127 #[zD p] H R:=by
 refine fn127 ?_;simp only[sh127,Ub,Uf,Uv];refine tk h ?_;simp only[zJ,za,gU hn];exact k
theorem Oo(h:jQ H p s O){B L I:Int}(hB : -9223372036854775808<=B/\B<=9223372036854775807)(hg:Zy B L I)(hn:B<=s.n)(kH:s.jt=false)(hr:s.reads<4611686018427387904/\0<=s.reads)(hz:s.now 1=zB)
   (k:∀ H',kS O O H H'->jQ H' p { s with reads:=s.reads+1 } O->R (.tuple #[.agg Dx,.int .i64 0]) H'):Fc TP 83 #[zD p,.agg (zf B L I).cells] H R:=by
 have hB1:1<=B:=hg.2.2.2.2.1
 have hD:(zf B L I).kb<B:=hg.2.2.2.2.2.2
 have hI:=hg.2.2.1
 have hL:=hg.1
 have h1B:1<B:=by simp only[zf]at hD;omega
 have oq:s.read 1=({ s with reads:=s.reads+1 },zB,0):=by
   unfold DS.read
   rw[kH,aH (by decide),aH (by omega),hz]
 refine fn83 ?_
 simp only[sh83,Ul,UL,UA,Us,Ub,Uz,Ux,Uf,Uw,Uu,Uj,Uv,U1,oN,yq,ZI,Xm,za]
 refine Z9 fun b1 H1 SA e1 s1 g1=>?_
 refine Z9 fun b2 H2 qO e2 s2 g2=>?_
 simp only[zI]at g1 g2
 have h2:=(h.ext e1).ext e2
 refine V2 h2 (by omega) ?_
 simp only[zx,iW,za,zh,zc,aR]
 rw[Za (e2.at g1) (show 0+3<=(zf B L I).cells.size from by rw[kh.size];decide),za]
 rw[show((zf B L I).cells.extract 0 (0+3))=#[zg B,zg L,zg I] from by simp[kh.cells,zf]]
 refine Hv hB (fun H3 e3 _=>?_) (fun H3 e3 kG=>absurd hg kG)
 simp only[zq,fR,dU,gH,za]
 refine Z9 fun b4 H4 hb4 e4 s4 g4=>?_
 simp only[zI]at g4
 refine Zc g4 rfl rfl (kh.ok _) fun H5 k5 s5 g5=>?_
 have l3:=e3.le
 have I9:Ext H2 H5:=(e3.trans e4).Kz k5 (by omega)
 have D9:=(e2.trans I9).at g1
 refine Zg.mk (fun t H'=>Ext H5 H'/\t.1=.bool false) ?_ ?_
 · rintro⟨t,u⟩ H6 ⟨e6,ht⟩
   simp only at ht
   subst ht
   simp only[zm,zh,zc,aR,za,zi (e6.at D9)]
   rw[show(zf B L I).cells[3]?=some (zg 1) from rfl,za]
   refine Ac ((h2.ext I9).ext e6) hr fun H7 NK d7=>?_
   rw[oq]at d7 ⊢
   simp only[fR,dU,gH,za]
   have no:∀ j,H.size<=j->¬ O j:=fun j hj ho=>by have:=h.lt j ho;omega
   have le1:=e1.le
   have le2:=e2.le
   have g17:=NK.kp.at (e6.at D9) (no b1 (by omega))
   have g27:=NK.kp.at ((I9.trans e6).at g2) (no b2 (by omega))
   refine Z9 fun b8 H8 hb8 e8 s8 g8=>?_
   simp only[zI]at g8
   refine Zc g8 zw zw z6.ok fun H9 k9 s9 g9=>?_
   have e79:Ext H7 H9:=e8.Kz k9 (by omega)
   simp only[zn,za,show decide ((0:Int)≠0)=false from rfl,zh]
   rw[zV (e79.at g17) (kh.size _),za,zV g9 zw,za]
   refine Jf hB hg fun mX sA=>?_
   simp only[fR,dU,gH,za]
   have S6:=e79.trans sA
   refine Zc (S6.at g27) rfl rfl (by rw[<- iV];rfl) fun mN PJ Dy SJ=>?_
   rw[zV SJ (show Dx.size=1 from rfl),za]
   have st:kS O O H H7:=((e1.trans (e2.trans (I9.trans e6))).oF O).trans NK
   have le7:=NK.kp.le
   have le6:=(I9.trans e6).le
   have st':kS O O H mN:=⟨⟨kg st.kp.le (kg S6.le PJ.le),fun j hj hn=>by rw[PJ.same j (by have:=st.kp.le;have:=S6.le;omega) (by omega),S6.same j (by have:=st.kp.le;omega)];exact st.kp.same j hj hn⟩,fun j hj=>.inl hj⟩
   exact k mN st' ((d7.ext S6).kp PJ fun j ho e=>no j (by omega) ho)
 · simp only[zn,za,show decide ((0:Int)≠0)=false from rfl,zh]
   rw[zV g5 (kh.size _),za,zV D9 (kh.size _),za,Yy,vA]
   simp only[iR,za,iW,zh,zc,aR,zi D9]
   rw[show(zf B L I).cells[0]?=some (zg B) from rfl]
   simp only[za,zj]
   have nb:decide (s.n<B)=false:=by rw[jq];omega
   refine⟨fun H6 e6=>?_,?_,trivial⟩
   · refine tk ((h2.ext I9).ext e6) ?_
     simp only[zJ,za,nb]
     exact fun H8 e8=>⟨e6.trans e8,trivial⟩
   · intro H6 e6
     refine tk ((h2.ext I9).ext e6) ?_
     rw[zi (e6.at D9),show(zf B L I).cells[0]?=some (zg B) from rfl]
     simp only[zJ,za,nb]
     exact fun H8 e8=>⟨e6.trans e8,trivial⟩
end
def yN(os:Value)(mb p cb:Nat)(x:kh)(mine:Int)(op:Bool)(room:Int)(wr:Value)(jA steps:Int):Array Value:=
 #[os,.map (some mb),zD p,zD cb,zg x.B,zg x.L,zg x.I,zg x.logAt,zg x.nodeAt,zg x.kO,zg x.lM,zg x.lF,zg x.kb,zg mine,.bool op,zg room,wr,zg jA,zg steps]
theorem qW(m:Nat):zo TP 97 [(1,.map (some m))]=some (.agg #[.slice none 0 0,.map (some m)]):=by kernel_rfl
theorem Pa(m p cb:Nat)(a b c d e f g h i mine:Int):zo TP 100 [(1,zD p),(2,zD cb),(3,.agg (kh.cells ⟨a,b,c,d,e,f,g,h,i⟩)),(4,zg mine),(0,.agg #[.slice none 0 0,.map (some m)])]=some (.agg (yN (.slice none 0 0) m p cb ⟨a,b,c,d,e,f,g,h,i⟩ mine false 0 (.map none) 0 0)):=by kernel_rfl
structure Mk(H0:Hp)(p:Nat)(s:DS)(O:Nat->Prop)(cb:Nat)(sz:Int)(b1:Nat)(x:kh)(Oc:Nat->Prop)(m:Option Nat)(H:Hp):Prop where
 oF:kS O O H0 H
 dk:jQ H p s O
 ca:kJ H cb p sz [] Oc
 oc:∀ b,Oc b->H0.size<=b
 lay:H[b1]?=some (.cells x.cells 62)
 b1:H0.size<=b1
 mp:∀ b,m=some b->kq H b (fun _=>none) 0/\H0.size<=b/\¬ Oc b
section
variable{H0 H H':Hp}{R:Value->Hp->Prop}{p:Nat}{s:DS}{O Oc:Nat->Prop}{cb b1:Nat}{sz:Int}{x:kh}{m:Option Nat}
theorem Mk.ext(h:Mk H0 p s O cb sz b1 x Oc m H)(e:Ext H H'):Mk H0 p s O cb sz b1 x Oc m H':=
 ⟨h.oF.trans (e.oF O),h.dk.ext e,h.ca.ext e,h.oc,e.at h.lay,h.b1,fun b hb=>⟨(h.mp b hb).1.ext e,(h.mp b hb).2⟩⟩
theorem Mk.map(h:Mk H0 p s O cb sz b1 x Oc m H)(e:Ext H H')(g:H'[H.size]?=some (.map #[] 0)):Mk H0 p s O cb sz b1 x Oc (some H.size) H':=by
 have h':=h.ext e;refine⟨h'.oF,h'.dk,h'.ca,h'.oc,h'.lay,h'.b1,fun b hb=>?_⟩;injection hb with hb;subst hb;exact⟨kq.new g,h.oF.kp.le,fun ho=>uD _ (h.ca.lt _ ho)⟩
theorem Mk.kB(h:Mk H0 p s O cb sz b1 x Oc m H)(hO:∀ b,O b->b<H0.size)(st:kS O O H H')(d:jQ H' p s.pB O):Mk H0 p s.pB O cb sz b1 x Oc m H':=
 have no:∀ j,H0.size<=j->¬ O j:=fun j hj ho=>by have:=hO j ho;omega
 ⟨h.oF.trans st,d,h.ca.kp st.kp fun b hb=>no b (h.oc b hb),h.oc,st.kp.at h.lay (no _ h.b1),h.b1,fun b hb=>⟨(h.mp b hb).1.kp st.kp (no _ (h.mp b hb).2.1),(h.mp b hb).2⟩⟩
theorem UW{H:Hp}(h:jQ H p s O){B L I:Int}(hB : -9223372036854775808<=B/\B<=9223372036854775807)(hg:Zy B L I)(hn:B<=s.n)(kH:s.jt=false)(hr:s.reads<4611686018427387904/\0<=s.reads)(hz:s.now 1=zB)(hc:0<=s.jS/\s.jS<4611686018427387904)
   (k:∀ H' lb mb cb Oc,kS O O H H'->jQ H' p ({ s with reads:=s.reads+1 }:DS).pB O->kJ H' cb p (L+32) [] Oc->kq H' mb (fun _=>none) 0->(∀ b,Oc b->H.size<=b)->H.size<=mb->H.size<=lb->¬ Oc mb->¬ Oc lb->lb≠mb ->
     H'[lb]?=some (.cells (yN (.slice none 0 0) mb p cb (zf B L I) (s.jS+1) false 0 (.map none) 0 0) 100)->R (.tuple #[zD lb,.int .i64 0]) H'):Fc TP 31 #[zD p,.agg (zf B L I).cells] H R:=by
 have hL:=hg.1
 have hL2:=hg.2.1
 have hO:=h.lt
 refine fn31 ?_
 simp only[sh31,Ul,UL,UA,Us,Ub,Uz,Ux,Uf,Uw,Ug,Uv,oN,za]
 refine Z9 fun b1 H1 SA e1 s1 g1=>?_
 simp only[zI]at g1
 rw[zV g1 (kh.size _),za]
 refine Oo (h.ext e1) hB hg hn kH hr hz fun H2 Hr d2=>?_
 simp only[zq,fR,dU,gH,za]
 have no:∀ j,H.size<=j->¬ O j:=fun j hj ho=>by have:=hO j ho;omega
 have KR:=Hr.kp.at g1 (no _ (by omega))
 refine Z9 fun b3 H3 hb3 e3 s3 g3=>?_
 refine Zc g3 rfl rfl (by rw[<- iV];rfl) fun H4 k4 s4 g4=>?_
 have e24:Ext H2 H4:=e3.Kz k4 (by omega)
 have hl:j9 TP 29 (.slice none 0 0)=some (.int .i64 0):=by kernel_rfl
 simp only[zn,za,show decide ((0:Int)≠0)=false from rfl,zh,zc,aR,zi g4,Dx,fR,dU,hl,zJ,show decide ((0:Int) > 0)=false from rfl,zi (e24.at KR)]
 rw[show(zf B L I).cells[1]?=some (zg L) from rfl,za,ze,za,zd (by omega) (by omega)]
 refine O0 (d2.ext e24) (by omega) (by omega) fun H5 cb e5 ca=>?_
 simp only[fR,dU,gH,za,zn,show decide ((0:Int)≠0)=false from rfl,zh]
 have Hq:kS O O H H5:=((e1.oF O).trans Hr).trans ((e24.trans e5).oF O)
 have m5:Mk H p { s with reads:=s.reads+1 } O cb (L+32) b1 (zf B L I) (fun b=>H4.size<=b/\b<H5.size) none H5:=
   ⟨Hq,d2.ext (e24.trans e5),ca,fun b hb=>by have:=e1.le;have:=Hr.kp.le;have:=e24.le;omega,(e24.trans e5).at KR,by omega,fun b hb=>by cases hb⟩
 have bl:∀ mb,zo TP 100 [(1,zD p),(2,zD cb),(3,.agg (zf B L I).cells),(4,zg (s.jS+1)),(0,.agg #[.slice none 0 0,.map (some mb)])]=some (.agg (yN (.slice none 0 0) mb p cb (zf B L I) (s.jS+1) false 0 (.map none) 0 0)):=fun mb=>Pa mb p cb ..
 have fin:∀ Hx mb,Mk H p ({ s with reads:=s.reads+1 }:DS).pB O cb (L+32) b1 (zf B L I) (fun b=>H4.size<=b/\b<H5.size) (some mb) Hx ->
     ∀ Hy,Ext Hx Hy->kT 100 (.agg (yN (.slice none 0 0) mb p cb (zf B L I) (s.jS+1) false 0 (.map none) 0 0)) Hy fun y Hz=>lC true Hz fun Hw=>R (.tuple #[y,.int .i64 0]) Hw:=fun Hx mb mx Hy ey=>by
   have my:=mx.ext ey
   refine Z9 fun lb Hz Wp ez sz gz=>?_
   simp only[zI]at gz
   rw[zj]
   intro Hw ew
   have mw:=(my.ext ez).ext ew
   have lty:=my.oF.kp.le
   obtain⟨q1,q2,q3⟩:=my.mp mb rfl
   exact k Hw lb mb cb _ mw.oF mw.dk mw.ca (mw.mp mb rfl).1 mw.oc q2 (by omega) q3 (fun ho=>by have:=my.ca.lt _ ho;omega) (fun e=>by have:=q1.lt;omega) (ew.at gz)
 have cl:∀ (m:Option Nat) (Hx:Hp) (Rx:Value->Hp->Prop),Mk H p { s with reads:=s.reads+1 } O cb (L+32) b1 (zf B L I) (fun b=>H4.size<=b/\b<H5.size) m Hx ->
     (∀ Hy,Mk H p ({ s with reads:=s.reads+1 }:DS).pB O cb (L+32) b1 (zf B L I) (fun b=>H4.size<=b/\b<H5.size) m Hy->Rx (zg (s.jS+1)) Hy)->Fc TP 85 #[zD p] Hx Rx:=fun m Hx Rx mx hk=>
   Lj mx.dk kH hc fun Hy sty dy=>hk Hy (mx.kB hO sty dy)
 have ll:∀ {s':DS} {m:Option Nat} {Hx:Hp},Mk H p s' O cb (L+32) b1 (zf B L I) (fun b=>H4.size<=b/\b<H5.size) m Hx->zX (some (some 9)) (zD b1) Hx=some (.agg (zf B L I).cells):=fun mx=>zV mx.lay (kh.size _)
 refine⟨?_,?_,?_,trivial⟩
 · simp only[ll m5,za]
   refine⟨?_,?_,trivial⟩
   · rw[zj]
     intro H6 e6
     refine yL fun mb H7 hm e7 s7 g7=>?_
     subst hm
     have m7:=(m5.ext e6).map e7 g7
     simp only[qW,za]
     rw[zj]
     intro H8 e8
     refine cl _ _ _ (m7.ext e8) fun H9 m9=>?_
     simp only[bl,za,zj]
     simp only[zj]at fin
     exact fin H9 _ m9
   · rw[zj]
     intro H6 e6
     refine cl _ _ _ (m5.ext e6) fun H9 m9=>?_
     rw[zj]
     intro mX sA
     refine yL fun mb H7 hm e7 s7 g7=>?_
     subst hm
     have m7:=(m9.ext sA).map e7 g7
     simp only[qW,bl,za,zj]
     simp only[zj]at fin
     exact fin H7 _ m7
 · rw[zj]
   intro H6 e6
   refine yL fun mb H7 hm e7 s7 g7=>?_
   subst hm
   have m7:=(m5.ext e6).map e7 g7
   simp only[qW,za]
   refine⟨?_,?_,trivial⟩
   · rw[ll m7,za,zj]
     intro H8 e8
     refine cl _ _ _ (m7.ext e8) fun H9 m9=>?_
     simp only[bl,za,zj]
     simp only[zj]at fin
     exact fin H9 _ m9
   · rw[zj]
     intro H8 e8
     refine cl _ _ _ (m7.ext e8) fun H9 m9=>?_
     simp only[ll m9,bl,za,zj]
     simp only[zj]at fin
     exact fin H9 _ m9
 · rw[zj]
   intro H6 e6
   refine cl _ _ _ (m5.ext e6) fun H9 m9=>?_
   rw[ll m9,za,zj]
   intro mX sA
   refine yL fun mb H7 hm e7 s7 g7=>?_
   subst hm
   have m7:=(m9.ext sA).map e7 g7
   simp only[qW,bl,za,zj]
   simp only[zj]at fin
   exact fin H7 _ m7
end
structure NA(H:Hp)(lb p cb mb:Nat)(s:DS)(cs:List Pl)(x:kh)(mine:Int)(O Oc:Nat->Prop):Prop where
 dk:jQ H p s O
 ca:kJ H cb p (x.L+32) cs Oc
 mp:kq H mb (fun _=>none) 0
 top:H[lb]?=some (.cells (yN (.slice none 0 0) mb p cb x mine false 0 (.map none) 0 0) 100)
 dis:∀ b,O b->¬ Oc b
 lo:¬ O lb/\¬ Oc lb/\¬ O mb/\¬ Oc mb/\lb≠mb
 mine:0<mine/\s.kB=mine
theorem wu{os:Value}{mb p cb:Nat}{x:kh}{mine:Int}{op:Bool}{room:Int}{wr:Value}{co st:Int} :
 (yN os mb p cb x mine op room wr co st)[2]?=some (zD p)/\(yN os mb p cb x mine op room wr co st)[3]?=some (zD cb)/\(yN os mb p cb x mine op room wr co st)[4]?=some (zg x.B)/\(yN os mb p cb x mine op room wr co st)[5]?=some (zg x.L)/\(yN os mb p cb x mine op room wr co st)[7]?=some (zg x.logAt)/\(yN os mb p cb x mine op room wr co st)[13]?=some (zg mine):=⟨rfl,rfl,rfl,rfl,rfl,rfl⟩
theorem XJ:TP.underlying 38=some (.pointer 100):=by kernel_rfl
section
variable{H:Hp}{R:Value->Hp->Prop}{lb p cb mb:Nat}{s:DS}{cs:List Pl}{x:kh}{mine:Int}{O Oc:Nat->Prop}
theorem kJ.isB{size:Int}(h:kJ H cb p size cs Oc){y:Pl}(hy:y∈cs):jR y.data:=by
 obtain⟨⟨row,mp,hC,rfl,_⟩,_⟩:=h;obtain⟨z,hz,rfl⟩:=iT.1 hy;obtain⟨c,_,kx⟩:=hC.ring.MI z hz;exact kx.isB
theorem HF{size:Int}(hd:jQ H p s O)(hc:kJ H cb p size cs Oc)(a:Int):jR (Zk size s cs a).2.2.1/\(Zk size s cs a).1.kB=s.kB:=by
 have rcl:(s.read a).1.kB=s.kB:=by unfold DS.read;split;rfl;split<;>rfl
 unfold Zk;split
 ·exact⟨z6,rfl⟩
 ·split
  ·rename_i z hz;exact⟨hc.isB (sK hz),rfl⟩
  ·split
   ·exact⟨z6,rfl⟩
   ·exact⟨hd.Kh a,rcl⟩
end
end Go.Vc
namespace Go.Proofs
open Go.Vc
section
variable(v0 v1 v2 v3 v4 v5 v6 v7 v8:Value)(H:Hp)(R:Value->Hp->Prop)
def sh174:Prop:=Uj (n:=1) (fun d b=>hU d.1 (R (.tuple #[(Uv 0),(Uv 0)]) b) (Pu (xB v0 (Uv 0)) fun a=>Ub .lss v0 (Uv 0) fun e=>hU e (Ub .add v0 v1 fun f=>Pu (VU (Uv 1024) f) fun g=>Pu (xB a g) fun h=>R (.tuple #[a,h]) b) (Ub .sub (Uv 1024) v0 fun i=>Ub .lss v1 i fun j=>hU j (Ub .add v0 v1 fun k=>Pu (xB a k) fun l=>R (.tuple #[a,l]) b) (Pu (xB a (Uv 1024)) fun m=>R (.tuple #[a,m]) b)))) (fun c=>Ub .lss v1 (Uv 1) fun o=>hU o (c (U1,()) H) (Ub .geq v0 (Uv 1024) fun p=>hU p (c (U1,()) H) (Ub .lss v0 (Uv 0) fun q=>hU q (Ub .add v0 (Uv 1) fun r=>Pu (unE .neg r) fun s=>Ub .leq v1 s fun t=>c (t,()) H) (c (U0,()) H))))
def sh134:Prop:=kT 65 v0 H fun c g=>Uz 65 g fun d h=>Ug 107 v2 fun i=>Uf 174 #[v1,i] h fun e j=>Ux e 0 fun k=>Ux e 1 fun l=>Uo (n:=1) (k,()) j (fun m a b=>Ub .lss a.1 l fun o=>hU o (Ub .sub a.1 v1 fun p=>Ui 1 v2 p fun q=>Ul q b fun r=>Uk 1024 1 c a.1 fun s=>Us 1 s r b fun t=>Ub .add a.1 (Uv 1) fun u=>m (u,()) t) (UL 1024 c b fun v=>Us 1024 d v b fun f=>UL 1024 d f fun w=>R w f))
def sh90:Prop:=kT 105 v0 H fun o p=>Uz 54 p fun f q=>Pu (zo TP 65 []) fun r=>Pu (yF TP 105 o none none none) fun s=>Uf 134 #[r,(Uv 0),s] q fun t u=>Uz 65 u fun b v=>Us 1024 b t v fun a=>UL 1024 b a fun w=>∃ g,QC true TP 135 #[w,(Uv 0)] a g/\( UL 1024 b a fun x=>∃ h,QC true TP 135 #[x,(Uv 2)] a h/\( UL 1024 b a fun y=>∃ i,QC true TP 136 #[y,(Uv 4)] a i/\( UL 1024 b a fun z=>∃ j,QC true TP 136 #[z,(Uv 8)] a j/\( UL 1024 b a fun A=>∃ k,QC true TP 136 #[A,(Uv 52)] a k/\( UL 1024 b a fun B=>∃ l,QC true TP 136 #[B,(Uv 56)] a l/\( Pu (zo TP 54 [(0,g),(1,h),(2,i),(3,j),(5,k),(6,l)]) fun C=>Uw a fun D=>Uz 54 D fun e E=>Uw E fun F=>Us 16 e C F fun G=>Uw G fun I=>Uo (n:=1) ((Uv 0),()) I (fun J c d=>Ub .lss c.1 (Uv 10) fun K=>hU K (UL 1024 b d fun L=>Ub .mul (Uv 4) c.1 fun M=>Ub .add (Uv 12) M fun N=>Uf 136 #[L,N] d fun O P=>UA 4 e fun Q=>Uk 10 1 Q c.1 fun T=>Us 1 T O P fun V=>Ub .add c.1 (Uv 1) fun W=>J (W,()) V) (UL 16 e d fun X=>Us 16 f X d fun m=>UL 16 f m fun Y=>R Y m))))))))
def sh39:Prop:=Uf 17 #[v0] H fun e f=>Uz 62 f fun b g=>Us 9 b e g fun a=>UA 4 b fun h=>Ul h a fun i=>Ub .quo v1 (Uv 16) fun j=>Ub .add i j fun c=>Ub .rem v1 (Uv 16) fun k=>Ub .mul k (Uv 64) fun d=>Ub .geq v1 (Uv 1) fun l=>hU l (UA 0 b fun m=>UA 2 m fun n=>Ul n a fun o=>Ub .leq v1 o fun p=>R (.tuple #[c,d,p]) a) (R (.tuple #[c,d,U0]) a)
def sh34:Prop:=Uz 54 H fun a o=>Uf 36 #[v0] o fun d e=>Ub .neq d (Uv 0) fun p=>hU p (Pu (zo TP 54 []) fun q=>Us 16 a q e fun f=>UL 16 a f fun r=>R (.tuple #[r,d]) f) (Uf 39 #[v0,v1] e fun b g=>Ux b 0 fun s=>Ux b 1 fun h=>Ux b 2 fun t=>Uu t fun u=>hU u (Pu (zo TP 54 []) fun v=>Us 16 a v g fun i=>UL 16 a i fun w=>R (.tuple #[w,(Uv 2)]) i) (Uf 18 #[v0,s] g fun j x=>Ux j 0 fun y=>Ux j 1 fun k=>Uz 65 x fun l z=>Us 1024 l y z fun c=>Ub .neq k (Uv 0) fun A=>hU A (Pu (zo TP 54 []) fun B=>Us 16 a B c fun m=>UL 16 a m fun C=>R (.tuple #[C,k]) m) (Ub .add h (Uv 64) fun D=>Pu (yF TP 65 l (some h) (some D) none) fun E=>Pu (GL (some 64) E) fun F=>UL 64 F c fun G=>Uf 90 #[G] c fun I J=>Us 16 a I J fun n=>UL 16 a n fun K=>R (.tuple #[K,(Uv 0)]) n)))
def sh42:Prop:=Uf 17 #[v0] H fun q r=>Uz 62 r fun b s=>Us 9 b q s fun h=>UA 5 b fun t=>Ul t h fun u=>Uo (n:=1) ((Uv 0),()) h (fun v c e=>Ub .lss c.1 u fun w=>hU w (UA 4 b fun x=>Ul x e fun y=>Ub .add y c.1 fun z=>om TP v1 #[z] e fun i A=>Ux i 0 fun B=>Ux i 1 fun j=>Uz 65 A fun k C=>Us 1024 k B C fun l=>Ub .neq j (Uv 0) fun D=>hU D (R j l) (Uo (n:=1) ((Uv 0),()) l (fun m a d=>Ub .lss a.1 (Uv 16) fun E=>hU E (Ub .mul c.1 (Uv 16) fun F=>Ub .add F a.1 fun f=>Uj (n:=1) (fun G g=>hU G.1 (Ub .add a.1 (Uv 1) fun I=>m (I,()) g) (Ub .mul a.1 (Uv 64) fun J=>Ub .add a.1 (Uv 1) fun K=>Ub .mul K (Uv 64) fun L=>Pu (yF TP 65 k (some J) (some L) none) fun M=>Pu (GL (some 64) M) fun N=>UL 64 N g fun O=>Uf 90 #[O] g fun P Q=>om TP v2 #[f,P] Q fun T o=>Uu T fun V=>hU V (R (Uv 0) o) (Ub .add a.1 (Uv 1) fun W=>m (W,()) o))) (fun p=>Ub .lss f (Uv 1) fun X=>hU X (p (U1,()) d) (UA 0 b fun Y=>UA 2 Y fun Z=>Ul Z d fun aa=>Ub .gtr f aa fun ab=>p (ab,()) d))) (Ub .add c.1 (Uv 1) fun ac=>v (ac,()) d)))) (R (Uv 0) e))
def sh17:Prop:=Uz 62 H fun a e=>Uf 36 #[v0] e fun f b=>Ub .neq f (Uv 0) fun g=>hU g (Pu (zo TP 62 []) fun h=>Us 9 a h b fun c=>UL 9 a c fun i=>R i c) (UI v0 fun j=>UA 4 j fun k=>UL 9 k b fun l=>Us 9 a l b fun d=>UL 9 a d fun m=>R m d)
def sh7:Prop:=UI v0 fun d=>UA 1 d fun e=>Ul e H fun f=>Uf 34 #[f,(Uv 1)] H fun b g=>Ux b 0 fun h=>Ux b 1 fun i=>Uz 54 g fun c j=>Us 16 c h j fun a=>Ub .eql i (Uv 0) fun k=>hU k (UA 0 c fun l=>Ul l a fun m=>Pu (z8 (some (.int .u16)) .eql m (.int .u16 2)) fun n=>R n a) (R U0 a)
end
variable{v0 v1 v2 v3 v4 v5 v6 v7 v8:Value}{H:Hp}{R:Value->Hp->Prop}
theorem fn174(h:sh174 v0 v1 H R):Fc TP 174 #[v0,v1] H R:=
 mr (fun f=>[135,136,141].contains f) (.seq .nil (.seq (.join [24] (Ur 8 16) .nil .nil) .nil)) Tryz.func174 h
theorem fn134(h:sh134 v0 v1 v2 H R):Fc TP 134 #[v0,v1,v2] H R:=
 xe (fun f=>[135,136,141].contains f) (.seq .nil (.seq .nil (.seq (.seq .nil (.loop [9] ([18,19,20]++Ur 23 8++[21,22]) .nil)) .nil))) Tryz.func134 h
theorem fn90(h:sh90 v0 H R):Fc TP 90 #[v0] H R:=
 mU (fun f=>[135,136,141].contains f) (.seq .nil (.seq .nil (.seq .nil (.seq (.seq .nil (.loop [22] ([23,24,5]++Ur 25 9) .nil)) .nil)))) Tryz.func90 h
theorem fn39(h:sh39 v0 v1 H R):Fc TP 39 #[v0,v1] H R:=
 mr (fun f=>[135,136,141].contains f) .nil Tryz.func39 h
theorem fn34(h:sh34 v0 v1 H R):Fc TP 34 #[v0,v1] H R:=
 mr (fun f=>[135,136,141].contains f) .nil Tryz.func34 h
theorem fn42(h:sh42 v0 v1 v2 H R):Fc TP 42 #[v0,v1,v2] H R:=
 xe (fun f=>[135,136,141].contains f) (.seq .nil (.seq .nil (.seq (.seq .nil (.loop [17] ([18,19,8]++Ur 21 6++[20,27,28,9,10,29,30,31,6,32,33,34,11]++Ur 35 4++[12]++Ur 39 24) (.seq .nil (.seq .nil (.seq (.seq .nil (.seq .nil (.seq .nil (.seq .nil (.loop [32] ([33,34,11]++Ur 35 4++[12]++Ur 39 22++[6,61]) (.seq .nil (.seq .nil (.seq (.seq .nil (.seq .nil (.seq (.join [47] (Ur 39 8) .nil .nil) .nil))) .nil)))))))) .nil))))) .nil))) Tryz.func42 h
theorem fn17(h:sh17 v0 H R):Fc TP 17 #[v0] H R:=
 mU (fun f=>[135,136,141].contains f) .nil Tryz.func17 h
theorem fn7(h:sh7 v0 H R):Fc TP 7 #[v0] H R:=
 mU (fun f=>[135,136,141].contains f) .nil Tryz.func7 h
end Go.Proofs
namespace Go.Vc
theorem qi{cs:List Pl}{a:Int}{x:Pl}(h:Zl cs a=some x):∃ l1 l2,cs=l1++x :: l2/\x.at_=a/\(∀ y∈l1,y.at_≠a)/\u0 cs a=l1++l2:=by
 unfold Zl at h;rw[List.find?_eq_some_iff_append]at h;obtain⟨h1,l1,l2,rfl,h3⟩:=h;have ha:x.at_=a:=by simpa using h1
 refine⟨l1,l2,rfl,ha,fun y hy=>by simpa using h3 y hy,?_⟩;unfold u0;exact vy (fun y hy=>by have:=h3 y hy;simpa using this) h1
theorem Yz{cs:List Pl}{a:Int}:Zl cs a=none↔∀ y∈cs,y.at_≠a:=by
 unfold Zl;rw[j0];simp
theorem qj(l1 l2:List Pl):ZJ (l1++l2)=ZJ l1+ZJ l2:=by
 unfold ZJ;rw[LM,cR];omega
theorem YA(x:Pl)(l:List Pl):ZJ (x :: l)=(if x.j7 then 1 else 0)+ZJ l:=by
 unfold ZJ;rw[List.filter_cons];split<;>simp<;>omega
theorem uc:ZJ []=0:=rfl
section
variable{fil:Int->jn}{size:Nat}{s:DS}{cs:List Pl}{book out:Int->Int}{j7:Int->Bool}{held Z7:Int}
theorem BV{size:Int}{cs PQ:List Pl}(h:oH size cs=some PQ):ZJ cs<size/\((cs.length:Int)<size/\PQ=cs\/∃ l1 x l2,cs=l1++x :: l2/\PQ=l1++l2/\x.j7=false/\size<=cs.length):=by
 unfold oH at h;split at h
 ·cases h
 ·rename_i hf;refine⟨by omega,?_⟩;split at h
  ·rename_i hl;injection h with h;exact .inl ⟨hl,h.symm⟩
  ·rename_i hl;injection h with h;refine .inr ?_;have hex:∃ x∈cs,x.j7=false:=by
    apply Classical.byContradiction;intro hn;have mc:∀ x∈cs,x.j7=true:=fun x hx=>by
     cases XY:x.j7 with
     | true=>rfl
     | false=>exact absurd ⟨x,hx,XY⟩ hn
    have:ZJ cs=cs.length:=by unfold ZJ;rw[List.filter_eq_self.2 mc]
    omega
   obtain⟨x,hx,XY⟩:=hex;obtain⟨y,l1,l2,hy1,T3,hy3,hy4⟩:=List.exists_of_eraseP hx (p:=fun x=>!x.j7) (by rw[XY];rfl);exact⟨l1,y,l2,hy3,by rw[<- h,hy4],by simpa using T3,by omega⟩
theorem Cf{l1 l2:List Pl}{x:Pl}(h:((l1++x :: l2).map (·.at_)).Nodup):((l1++l2).map (·.at_)).Nodup/\∀ y∈l1++l2,y.at_≠x.at_:=by
 rw[cU,jb,jJ,jo]at h;obtain⟨h1,⟨h2,h3⟩,h4⟩:=h;refine⟨by rw[cU,jJ];exact⟨h1,h3,fun a ha b hb=>h4 a ha b (dH _ hb)⟩,fun y hy e=>?_⟩;rcases fH.1 hy with h5 | h5
 ·exact h4 y.at_ (iT.2 ⟨y,h5,rfl⟩) x.at_ eH e
 ·exact h2 (e ▸ iT.2 ⟨y,h5,rfl⟩)
theorem u2{l:List Pl}{x:Pl}(h:(l.map (·.at_)).Nodup)(hx:∀ y∈l,y.at_≠x.at_):((l++[x]).map (·.at_)).Nodup:=by
 rw[cU,jJ];refine⟨h,by simp,fun a ha b hb e=>?_⟩;simp only[jb,sF,eU]at hb;obtain⟨y,hy,rfl⟩:=iT.1 ha;exact hx y hy (by rw[e,hb])
theorem pU{l1 l2:List Pl}{x y:Pl}:y∈l1++x :: l2↔y=x\/y∈l1++l2:=by
 simp only[fH,jg];constructor
 ·rintro(h | h | h)
  ·exact .inr (.inl h)
  ·exact .inl h
  ·exact .inr (.inr h)
 ·rintro(h | h | h)
  ·exact .inr (.inl h)
  ·exact .inl h
  ·exact .inr (.inr h)
end
structure JA(s s':DS):Prop where
 n:s'.n=s.n
 now:s'.now=s.now
 held:s'.held=s.held
 jC:s'.jC=s.jC
 jt:s'.jt=s.jt
 made:s'.made=s.made
 jS:s'.jS=s.jS
 kB:s'.kB=s.kB
 pl:s'.pl=s.pl
 hl:s'.hl=s.hl
 reads:s.reads<=s'.reads/\s'.reads<=s.reads+1
theorem JA.refl(s:DS):JA s s:=⟨rfl,rfl,rfl,rfl,rfl,rfl,rfl,rfl,rfl,rfl,by omega⟩
theorem DS.NO(s:DS)(a:Int):JA s (s.read a).1:=by
 unfold DS.read;split
 ·exact JA.refl s
 ·split
  ·exact JA.refl s
  ·exact⟨rfl,rfl,rfl,rfl,rfl,rfl,rfl,rfl,rfl,rfl,by show s.reads<=s.reads+1/\s.reads+1<=s.reads+1;omega⟩
end Go.Vc
namespace Go.Proofs
open Go.Vc
section
variable(v0 v1 v2 v3 v4 v5 v6 v7 v8:Value)(H:Hp)(R:Value->Hp->Prop)
def sh11:Prop:=Uf 36 #[v0] H fun c a=>Ub .neq c (Uv 0) fun h=>hU h (R c a) (UI v0 fun i=>UA 14 i fun j=>Ul j a fun k=>hU k (R (Uv 180) a) (Uj (n:=1) (fun l b=>hU l.1 (R (Uv 2) b) (Uj (n:=0) (fun Z m=>oY m fun o p=>UI v0 fun q=>UA 14 q fun r=>Us 1 r U1 p fun s=>UI v0 fun t=>UA 15 t fun u=>Us 1 u v1 s fun v=>UI v0 fun w=>UA 16 w fun x=>Us 1 x o v fun y=>R (Uv 0) y) (fun d=>UI v0 fun z=>UA 0 z fun A=>UA 0 A fun B=>Ul B b fun C=>Ug 29 C fun D=>Ub .add D v1 fun E=>UI v0 fun F=>UA 4 F fun G=>UA 0 G fun I=>UA 1 I fun J=>Ul J b fun K=>Ub .sub K (Uv 1) fun L=>Ub .gtr E L fun M=>hU M (Uf 37 #[v0] b fun e f=>Ub .neq e (Uv 0) fun N=>hU N (R e f) (d (()) f)) (d (()) b)))) (fun g=>Ub .lss v1 (Uv 1) fun O=>hU O (g (U1,()) a) (UI v0 fun P=>UA 4 P fun Q=>UA 0 Q fun T=>UA 1 T fun V=>Ul V a fun W=>Ub .sub W (Uv 1) fun X=>Ub .gtr v1 X fun Y=>g (Y,()) a))))
def sh13:Prop:=Uf 36 #[v0] H fun b a=>Ub .neq b (Uv 0) fun d=>hU d (R b a) (UI v0 fun e=>UA 14 e fun f=>Ul f a fun g=>Uu g fun h=>hU h (R (Uv 180) a) (UI v0 fun i=>UA 14 i fun j=>Us 1 j U0 a fun c=>UI v0 fun k=>UA 18 k fun l=>Ul l c fun m=>Ub .add m (Uv 1) fun n=>UI v0 fun o=>UA 18 o fun p=>Us 1 p n c fun q=>R (Uv 0) q))
def sh41:Prop:=kT 65 v2 H fun k l=>Uf 36 #[v0] l fun g a=>Ub .neq g (Uv 0) fun m=>hU m (R g a) (UI v0 fun o=>UA 14 o fun p=>Ul p a fun q=>Uu q fun r=>hU r (R (Uv 180) a) (Uj (n:=1) (fun s c=>hU s.1 (R (Uv 2) c) (UI v0 fun t=>UA 16 t fun u=>Ul u c fun v=>Pu (yf TP (some (3,.int .i64,165)) true v v1 c) fun h=>Ux h 0 fun w=>Ux h 1 fun x=>Uz 165 c fun y z=>Us 0 y w z fun b=>Uj (n:=1) (fun A d=>hU A.1 (R (Uv 181) d) (UI v0 fun B=>UA 3 B fun C=>Ul C d fun D=>UL 1024 k d fun E=>Uf 100 #[D,v1,E] d fun i e=>Ub .neq i (Uv 0) fun F=>hU F (R i e) (UI v0 fun G=>UA 16 G fun I=>Ul I e fun J=>Pu (zo TP 165 []) fun K=>Pu (yM (some (3,.int .i64,165)) J v1 K e) fun L=>UI v0 fun M=>UA 0 M fun N=>Uf 101 #[N,v1] L fun ak O=>R (Uv 0) O))) (fun j=>Uu x fun P=>hU P (UI v0 fun Q=>UA 16 Q fun T=>Ul T b fun V=>Pu (YI V b) fun W=>UI v0 fun X=>UA 15 X fun Y=>Ul Y b fun Z=>Ub .geq W Z fun aa=>j (aa,()) b) (j (U0,()) b)))) (fun f=>Ub .lss v1 (Uv 1) fun ab=>hU ab (f (U1,()) a) (UI v0 fun ac=>UA 4 ac fun ad=>UA 0 ad fun ae=>UA 0 ae fun af=>Ul af a fun ag=>Ub .geq v1 ag fun ah=>hU ah (f (U1,()) a) (Uf 45 #[v0,v1] a fun ai aj=>f (ai,()) aj)))))
def sh38:Prop:=Uf 36 #[v0] H fun b a=>Ub .eql b (Uv 0) fun c=>hU c (UI v0 fun d=>UA 14 d fun e=>Ul e a fun f=>R f a) (R U0 a)
def sh23:Prop:=Uf 36 #[v0] H fun b a=>Ub .neq b (Uv 0) fun c=>hU c (R (Uv 0) a) (UI v0 fun d=>UA 0 d fun e=>UA 0 e fun f=>Ul f a fun g=>Ug 29 g fun h=>R h a)
def sh101:Prop:=UI v0 fun d=>UA 1 d fun e=>Ul e H fun f=>Pu (yf TP (some (3,.int .i64,165)) true f v1 H) fun b=>Ux b 0 fun g=>Ux b 1 fun h=>Uz 165 H fun i j=>Us 0 i g j fun a=>Uu h fun k=>hU k (UI v0 fun l=>UA 0 l fun m=>Ul m a fun n=>Uq 29 v1 n a fun o p=>UI v0 fun q=>UA 0 q fun r=>Us 1 r o p fun c=>UI v0 fun s=>UA 1 s fun t=>Ul t c fun u=>Pu (zo TP 165 []) fun v=>Pu (yM (some (3,.int .i64,165)) u v1 v c) fun w=>R (.tuple #[]) w) (R (.tuple #[]) a)
def sh98:Prop:=kT 65 v0 H fun a g=>Uz 65 g fun b h=>Uj (n:=0) (fun u c=>UL 1024 a c fun i=>Us 1024 b i c fun d=>UL 1024 b d fun j=>R j d) (fun e=>Uf 141 #[v1,(Uv 2)] h fun k f=>hU k (Ub .add v1 (Uv 1) fun l=>Pu (Ze (some (.int .u16)) (some (.int .u8)) v2) fun m=>Pu (z8 (some (.int .u16)) .shr v2 (.int .u64 8)) fun o=>Pu (Ze (some (.int .u16)) (some (.int .u8)) o) fun p=>Uk 1024 1 a v1 fun q=>Us 1 q m f fun r=>Uk 1024 1 a l fun s=>Us 1 s p r fun t=>e (()) t) (e (()) f))
def sh99:Prop:=kT 65 v0 H fun b i=>Uz 65 i fun c j=>Uj (n:=0) (fun x d=>UL 1024 b d fun k=>Us 1024 c k d fun e=>UL 1024 c e fun l=>R l e) (fun f=>Uf 141 #[v1,(Uv 4)] j fun m g=>hU m (Uo (n:=1) ((Uv 0),()) g (fun o a h=>Ub .lss a.1 (Uv 4) fun p=>hU p (Ub .add v1 a.1 fun q=>Ub .mul (Uv 8) a.1 fun r=>Pu (z8 (some (.int .u32)) .shr v2 r) fun s=>Pu (Ze (some (.int .u32)) (some (.int .u8)) s) fun t=>Uk 1024 1 b q fun u=>Us 1 u t h fun v=>Ub .add a.1 (Uv 1) fun w=>o (w,()) v) (f (()) h))) (f (()) g))
def sh40:Prop:=kT 54 v0 H fun b o=>Uz 105 o fun i j=>Pu (zo TP 65 []) fun p=>UA 0 b fun q=>Ul q j fun r=>Uf 98 #[p,(Uv 0),r] j fun s t=>Uz 65 t fun a u=>Us 1024 a s u fun e=>UL 1024 a e fun v=>UA 1 b fun w=>Ul w e fun x=>Uf 98 #[v,(Uv 2),x] e fun y z=>Us 1024 a y z fun f=>UL 1024 a f fun A=>UA 2 b fun B=>Ul B f fun C=>Uf 99 #[A,(Uv 4),C] f fun D E=>Us 1024 a D E fun g=>UL 1024 a g fun F=>UA 3 b fun G=>Ul G g fun I=>Uf 99 #[F,(Uv 8),I] g fun J K=>Us 1024 a J K fun k=>UA 4 b fun L=>UL 10 L k fun M=>Uo (n:=1) ((Uv 0),()) k (fun N d c=>Ub .lss d.1 (Uv 10) fun O=>hU O (Pu (xK TP 52 M d.1) fun P=>UL 1024 a c fun Q=>Ub .mul (Uv 4) d.1 fun T=>Ub .add (Uv 12) T fun V=>Uf 99 #[Q,V,P] c fun W X=>Us 1024 a W X fun Y=>Ub .add d.1 (Uv 1) fun Z=>N (Z,()) Y) (UL 1024 a c fun aa=>UA 14 b fun ab=>Ul ab c fun ac=>Uf 99 #[aa,(Uv 52),ac] c fun ad ae=>Us 1024 a ad ae fun h=>UL 1024 a h fun af=>UA 15 b fun ag=>Ul ag h fun ah=>Uf 99 #[af,(Uv 56),ah] h fun ai aj=>Us 1024 a ai aj fun l=>Pu (yF TP 65 a none (some (Uv 64)) none) fun ak=>Pu (GL (some 64) ak) fun al=>UL 64 al l fun am=>Us 64 i am l fun m=>UL 64 i m fun an=>R an m))
def sh12:Prop:=kT 54 v2 H fun m n=>Uf 36 #[v0] n fun d e=>Ub .neq d (Uv 0) fun o=>hU o (R d e) (Uf 38 #[v0] e fun p f=>Uu p fun q=>hU q (R (Uv 180) f) (Uf 39 #[v0,v1] f fun a g=>Ux a 0 fun h=>Ux a 1 fun r=>Ux a 2 fun s=>Uu s fun t=>hU t (R (Uv 2) g) (Uf 18 #[v0,h] g fun i u=>Ux i 0 fun v=>Ux i 1 fun j=>Uz 65 u fun b w=>Us 1024 b v w fun c=>Ub .neq j (Uv 0) fun x=>hU x (R j c) (UL 16 m c fun y=>Uf 40 #[y] c fun z A=>Uz 105 A fun k B=>Us 64 k z B fun C=>Pu (yF TP 65 b (some r) none none) fun D=>Pu (yF TP 105 k none none none) fun E=>Pu (Fe (zQ TP 107) D E C) fun l=>Pu (zX (some (some 1024)) b l.2) fun F=>Uf 41 #[v0,h,F] l.2 fun G I=>R G I))))
def sh20:Prop:=kT 54 v1 H fun e j=>Uf 36 #[v0] j fun f g=>Ub .neq f (Uv 0) fun k=>hU k (R (.tuple #[(Uv 0),f]) g) (Uf 38 #[v0] g fun l c=>Uu l fun m=>hU m (R (.tuple #[(Uv 0),(Uv 180)]) c) (UA 0 e fun n=>Ul n c fun o=>Pu (z8 (some (.int .u16)) .eql o (.int .u16 0)) fun p=>hU p (R (.tuple #[(Uv 0),(Uv 2)]) c) (Uz 3 c fun b q=>Us 1 b (Uv 0) q fun r=>Uf 42 #[v0,(.func (.func 18) #[v0] #[]),(.func (.func 48) #[] #[b])] r fun h a=>Ub .neq h (Uv 0) fun s=>hU s (R (.tuple #[(Uv 0),h]) a) (Ul b a fun t=>Ub .eql t (Uv 0) fun u=>hU u (R (.tuple #[(Uv 0),(Uv 16)]) a) (Ul b a fun v=>UL 16 e a fun w=>Uf 12 #[v0,v,w] a fun i d=>Ub .neq i (Uv 0) fun x=>hU x (R (.tuple #[(Uv 0),i]) d) (Ul b d fun y=>R (.tuple #[y,(Uv 0)]) d))))))
def sh48:Prop:=kT 54 v1 H fun d a=>Uj (n:=0) (fun k b=>Ul v2 b fun e=>Ub .eql e (Uv 0) fun f=>R f b) (fun c=>UA 0 d fun g=>Ul g a fun h=>Pu (z8 (some (.int .u16)) .eql h (.int .u16 0)) fun i=>hU i (Us 1 v2 v0 a fun j=>c (()) j) (c (()) a))
def sh14:Prop:=Uf 36 #[v0] H fun c d=>Ub .neq c (Uv 0) fun f=>hU f (R (.tuple #[(Uv 0),c]) d) (Uz 3 d fun a g=>Us 1 a (Uv 0) g fun h=>Uf 42 #[v0,(.func (.func 18) #[v0] #[]),(.func (.func 43) #[] #[a])] h fun e b=>Ub .neq e (Uv 0) fun i=>hU i (R (.tuple #[(Uv 0),e]) b) (Ul a b fun j=>R (.tuple #[j,(Uv 0)]) b))
def sh43(v0 v1 v2:Value)(H:Hp)(R:Value->Hp->Prop):Prop:=kT 54 v1 H fun b a=>UA 0 b fun c=>Ul c a fun d=>Pu (z8 (some (.int .u16)) .eql d (.int .u16 0)) fun e=>hU e (Ul v2 a fun f=>Ub .add f (Uv 1) fun g=>Us 1 v2 g a fun h=>R U1 h) (R U1 a)
def sh15:Prop:=Uf 36 #[v0] H fun b c=>Ub .neq b (Uv 0) fun f=>hU f (R (.tuple #[(.slice none 0 0),b]) c) (Uz 29 c fun d g=>Uf 42 #[v0,(.func (.func 18) #[v0] #[]),(.func (.func 44) #[] #[d])] g fun e a=>Ub .neq e (Uv 0) fun h=>hU h (R (.tuple #[(.slice none 0 0),e]) a) (Ul d a fun i=>R (.tuple #[i,(Uv 0)]) a))
def sh44:Prop:=kT 54 v1 H fun c a=>Uj (n:=1) (fun e b=>hU e.1 (Ul v2 b fun f=>Uq 29 v0 f b fun g h=>Us 1 v2 g h fun i=>R U1 i) (R U1 b)) (fun d=>UA 0 c fun j=>Ul j a fun k=>Pu (z8 (some (.int .u16)) .neq k (.int .u16 0)) fun l=>hU l (UA 1 c fun m=>Ul m a fun o=>Pu (z8 (some (.int .u16)) .eql o (.int .u16 0)) fun p=>d (p,()) a) (d (U0,()) a))
end
variable{v0 v1 v2 v3 v4 v5 v6 v7 v8:Value}{H:Hp}{R:Value->Hp->Prop}
theorem fn11(h:sh11 v0 v1 H R):Fc TP 11 #[v0,v1] H R:=
 mr (fun f=>[141].contains f) (.seq .nil (.seq (.seq .nil (.seq .nil (.cond .nil (.seq .nil (.cond .nil (.join [18] (Ur 19 13) .nil .nil)))))) (.join [] (Ur 32 18++[6,50,51,52,4]) .nil .nil))) Tryz.func11 h
theorem fn13(h:sh13 v0 H R):Fc TP 13 #[v0] H R:=
 mU (fun f=>[141].contains f) .nil Tryz.func13 h
theorem fn41(h:sh41 v0 v1 v2 H R):Fc TP 41 #[v0,v1,v2] H R:=
 xe (fun f=>[141].contains f) (.seq .nil (.seq (.seq .nil (.seq .nil (.cond .nil (.seq .nil (.cond .nil (.join [23] (Ur 24 17) .nil .nil)))))) (.seq (.seq .nil (.join [63] (Ur 50 13) .nil .nil)) .nil))) Tryz.func41 h
theorem fn38(h:sh38 v0 H R):Fc TP 38 #[v0] H R:=
 mU (fun f=>[141].contains f) .nil Tryz.func38 h
theorem fn23(h:sh23 v0 H R):Fc TP 23 #[v0] H R:=
 mU (fun f=>[141].contains f) .nil Tryz.func23 h
theorem fn101(h:sh101 v0 v1 H R):Fc TP 101 #[v0,v1] H R:=
 mr (fun f=>[141].contains f) .nil Tryz.func101 h
theorem fn98(h:sh98 v0 v1 v2 H R):Fc TP 98 #[v0,v1,v2] H R:=
 xe (fun f=>[141].contains f) (.seq .nil (.join [] (Ur 7 12) .nil .nil)) Tryz.func98 h
theorem fn99(h:sh99 v0 v1 v2 H R):Fc TP 99 #[v0,v1,v2] H R:=
 xe (fun f=>[141].contains f) (.seq .nil (.join [] (Ur 8 5++[7]++Ur 13 10) (.seq .nil (.cond (.seq .nil (.loop [10] ([11,12,7]++Ur 13 10) .nil)) .nil)) .nil)) Tryz.func99 h
theorem fn40(h:sh40 v0 H R):Fc TP 40 #[v0] H R:=
 mU (fun f=>[141].contains f) (.seq .nil (.seq .nil (.seq .nil (.seq .nil (.seq .nil (.seq (.seq .nil (.loop [24] ([25,26,27,4,5]++Ur 28 7) .nil)) .nil)))))) Tryz.func40 h
theorem fn12(h:sh12 v0 v1 v2 H R):Fc TP 12 #[v0,v1,v2] H R:=
 xe (fun f=>[141].contains f) .nil Tryz.func12 h
theorem fn20(h:sh20 v0 v1 H R):Fc TP 20 #[v0,v1] H R:=
 mr (fun f=>[141].contains f) .nil Tryz.func20 h
theorem fn48(h:sh48 v0 v1 v2 H R):Fc TP 48 #[v0,v1,v2] H R:=
 xe (fun f=>[141].contains f) (.seq .nil (.join [] (Ur 6 4) .nil .nil)) Tryz.func48 h
theorem fn14(h:sh14 v0 H R):Fc TP 14 #[v0] H R:=
 mU (fun f=>[141].contains f) .nil Tryz.func14 h
theorem fn43(h:sh43 v0 v1 v2 H R):Fc TP 43 #[v0,v1,v2] H R:=
 xe (fun f=>[141].contains f) .nil Tryz.func43 h
theorem fn15(h:sh15 v0 H R):Fc TP 15 #[v0] H R:=
 mU (fun f=>[141].contains f) .nil Tryz.func15 h
theorem fn44(h:sh44 v0 v1 v2 H R):Fc TP 44 #[v0,v1,v2] H R:=
 xe (fun f=>[141].contains f) (.seq .nil (.seq (.join [13] (Ur 6 7) .nil .nil) .nil)) Tryz.func44 h
section
variable(v0 v1 v2 v3 v4 v5 v6 v7 v8:Value)(H:Hp)(R:Value->Hp->Prop)
def sh21:Prop:=Uf 49 #[v0] H fun b a=>Uu b fun c=>hU c (R (Uv 0) a) (UI v0 fun d=>UA 7 d fun e=>Ul e a fun f=>R f a)
def sh19:Prop:=Ug 29 v0 fun c=>Ug 29 v1 fun d=>Ub .neq c d fun e=>hU e (R U0 H) (Uo (n:=1) ((Uv 0),()) H (fun f b a=>Ug 29 v0 fun g=>Ub .lss b.1 g fun h=>hU h (Ui 1 v0 b.1 fun i=>Ul i a fun j=>Ui 1 v1 b.1 fun k=>Ul k a fun l=>Ub .neq j l fun m=>hU m (R U0 a) (Ub .add b.1 (Uv 1) fun o=>f (o,()) a)) (R U1 a)))
end
variable{v0 v1 v2 v3 v4 v5 v6 v7 v8:Value}{H:Hp}{R:Value->Hp->Prop}
theorem fn21(h:sh21 v0 H R):Fc TP 21 #[v0] H R:=
 mU UQ .nil Tryz.func21 h
theorem fn19(h:sh19 v0 v1 H R):Fc TP 19 #[v0,v1] H R:=
 mr UQ (.seq .nil (.seq .nil (.seq (.seq .nil (.loop [5] (Ur 11 4++Ur 17 9++[4,15,16]) .nil)) .nil))) Tryz.func19 h
section
variable(v0 v1 v2 v3 v4 v5 v6 v7 v8:Value)(H:Hp)(R:Value->Hp->Prop)
def sh95:Prop:=kT 62 v0 H fun h p=>kT 151 v1 p fun f q=>Uz 65 q fun a i=>UL 9 h i fun r=>Uf 139 #[r] i fun s c=>Uu s fun t=>hU t (Pu (zo TP 65 []) fun u=>Us 1024 a u c fun j=>UL 1024 a j fun v=>R (.tuple #[v,(Uv 2)]) j) (UL 9 h c fun w=>UA 0 f fun x=>Ul x c fun y=>Uf 140 #[w,y] c fun z g=>Uu z fun A=>hU A (Pu (zo TP 65 []) fun B=>Us 1024 a B g fun k=>UL 1024 a k fun C=>R (.tuple #[C,(Uv 4)]) k) (Pu (zo TP 65 []) fun D=>UA 0 f fun E=>Ul E g fun F=>Ug 29 F fun G=>Pu (Ze (some (.int .i64)) (some (.int .u32)) G) fun I=>Uf 99 #[D,(Uv 0),I] g fun J K=>Uz 65 K fun d L=>Us 1024 d J L fun l=>UA 0 f fun M=>Ul M l fun m=>Ug 29 m fun N=>Uo (n:=1) ((Uv 0),()) l (fun O e b=>Ub .lss e.1 N fun P=>hU P (Ui 1 m e.1 fun Q=>Ul Q b fun T=>UL 1024 d b fun V=>Ub .add e.1 (Uv 1) fun W=>Ub .mul (Uv 4) W fun X=>Pu (Ze (some (.int .i64)) (some (.int .u32)) T) fun Y=>Uf 99 #[V,X,Y] b fun Z aa=>Us 1024 d Z aa fun ab=>Ub .add e.1 (Uv 1) fun ac=>O (ac,()) ab) (UL 1024 d b fun ad=>Us 1024 a ad b fun o=>UL 1024 a o fun ae=>R (.tuple #[ae,(Uv 0)]) o))))
end
variable{v0 v1 v2 v3 v4 v5 v6 v7 v8:Value}{H:Hp}{R:Value->Hp->Prop}
theorem fn95(h:sh95 v0 v1 H R):Fc TP 95 #[v0,v1] H R:=
 mr UQ (.seq .nil (.seq .nil (.seq .nil (.seq .nil (.seq (.seq .nil (.loop [28] (Ur 29 4++[7,8]++Ur 33 8) .nil)) .nil))))) Tryz.func95 h
section
variable(v0 v1 v2 v3 v4 v5 v6 v7 v8:Value)(H:Hp)(R:Value->Hp->Prop)
def sh37:Prop:=kT 38 v0 H fun b N=>Uz 46 N fun a m=>Ul b m fun O=>UI O fun P=>UA 0 P fun Q=>UA 0 Q fun T=>Ul T m fun r=>Ug 29 r fun V=>Uo (n:=1) ((Uv 0),()) m (fun W i c=>Ub .lss i.1 V fun X=>hU X (Ui 1 r i.1 fun Y=>Ul Y c fun Z=>Ul b c fun aa=>UI aa fun ab=>UA 3 ab fun ac=>Ul ac c fun ad=>Uf 47 #[ad,Z] c fun s ae=>Ux s 0 fun af=>Ux s 1 fun ag=>Uz 65 ae fun t ah=>Us 1024 t af ah fun d=>Ub .neq ag (Uv 0) fun ai=>hU ai (Us 1 a (Uv 3) d fun aj=>G0 TP 93 #[a,b] aj fun u=>Ul a u fun ak=>R ak u) (Ul b d fun al=>UI al fun am=>UA 2 am fun an=>Ul an d fun ao=>Ul b d fun ap=>UI ap fun aq=>UA 4 aq fun ar=>UA 3 ar fun au=>Ul au d fun av=>Ub .add av (Uv 1) fun aw=>Ub .add aw i.1 fun ax=>UL 1024 t d fun ay=>Uf 94 #[ao,ax,ay] d fun az v=>Ub .neq az (Uv 0) fun aA=>hU aA (Us 1 a (Uv 3) v fun aB=>G0 TP 93 #[a,b] aB fun w=>Ul a w fun aC=>R aC w) (Ub .add i.1 (Uv 1) fun aD=>W (aD,()) v))) (Uj (n:=1) (fun aE g=>Ul a g fun aF=>Ub .neq aF (Uv 0) fun aG=>hU aG (Ul a g fun aI=>Us 1 a aI g fun aJ=>G0 TP 93 #[a,b] aJ fun x=>Ul a x fun aK=>R aK x) (Uj (n:=1) (fun aL j=>hU aL.1 (Us 1 a (Uv 3) j fun aM=>G0 TP 93 #[a,b] aM fun y=>Ul a y fun aN=>R aN y) (Ul b j fun aO=>UI aO fun aP=>UA 0 aP fun aQ=>UA 0 aQ fun aS=>Ul aS j fun z=>Ug 29 z fun aT=>Uo (n:=1) ((Uv 0),()) j (fun aV o e=>Ub .lss o.1 aT fun aW=>hU aW (Ui 1 z o.1 fun aX=>Ul aX e fun aY=>Ul b e fun aZ=>UI aZ fun a0=>UA 3 a0 fun a1=>Ul a1 e fun a2=>Uf 97 #[a2,aY] e fun a3 A=>Ub .neq a3 (Uv 0) fun a4=>hU a4 (Us 1 a (Uv 3) A fun a5=>G0 TP 93 #[a,b] a5 fun B=>Ul a B fun a6=>R a6 B) (Ub .add o.1 (Uv 1) fun a7=>aV (a7,()) A)) (Uj (n:=1) (fun a8 C=>hU a8.1 (Us 1 a (Uv 3) C fun a9=>G0 TP 93 #[a,b] a9 fun D=>Ul a D fun ba=>R ba D) (Us 1 a (Uv 0) C fun bb=>G0 TP 93 #[a,b] bb fun E=>Ul a E fun bc=>R bc E)) (fun p=>Ul b e fun bd=>UI bd fun be=>UA 2 be fun bf=>Ul bf e fun bg=>Uf 96 #[bg] e fun bh h=>Ub .neq bh (Uv 0) fun bi=>hU bi (p (U1,()) h) (Ul b h fun bj=>UI bj fun bk=>UA 2 bk fun bl=>Ul bl h fun bm=>Ul b h fun bn=>UI bn fun bo=>UA 4 bo fun bp=>UA 3 bp fun bq=>Ul bq h fun br=>Pu (zo TP 65 []) fun bs=>Uf 94 #[bm,br,bs] h fun bt k=>Ub .neq bt (Uv 0) fun bu=>hU bu (p (U1,()) k) (Ul b k fun bv=>UI bv fun bw=>UA 2 bw fun bx=>Ul bx k fun bz=>Uf 96 #[bz] k fun bA bB=>Ub .neq bA (Uv 0) fun bC=>p (bC,()) bB))))))) (fun q=>Ul b g fun bD=>UI bD fun bE=>UA 2 bE fun bF=>Ul bF g fun bG=>Uf 96 #[bG] g fun bI f=>Ub .neq bI (Uv 0) fun bJ=>hU bJ (q (U1,()) f) (Ul b f fun bK=>UI bK fun bL=>UA 2 bL fun bM=>Ul bM f fun bN=>Ul b f fun bO=>UI bO fun bP=>UA 4 bP fun bQ=>UA 3 bQ fun bS=>Ul bS f fun bT=>UL 1024 aE.1 f fun bV=>Uf 94 #[bN,bT,bV] f fun bW l=>Ub .neq bW (Uv 0) fun bX=>hU bX (q (U1,()) l) (Ul b l fun bY=>UI bY fun bZ=>UA 2 bZ fun b0=>Ul b0 l fun b1=>Uf 96 #[b1] l fun b2 b3=>Ub .neq b2 (Uv 0) fun b4=>q (b4,()) b3))))) (fun F=>Ul b c fun b5=>UI b5 fun b6=>UA 4 b6 fun b7=>UL 9 b7 c fun G=>Ul b c fun b8=>UI b8 fun b9=>UA 0 b9 fun ca=>UA 0 ca fun cb=>Ul cb c fun cc=>Pu (zo TP 151 [(0,cc)]) fun I=>And (Uw c fun cd=>Uf 95 #[G,I] cd fun J ce=>Ux J 0 fun cf=>Ux J 1 fun cg=>Uw ce fun ch=>Uz 65 ch fun K ci=>Uw ci fun cj=>Us 1024 K cf cj fun ck=>Uw ck fun cl=>Us 1 a cg cl fun cm=>Uw cm fun cn=>F (K,()) cn) (And (Uw c fun co=>Uz 65 co fun L cp=>Uw cp fun cq=>Uf 95 #[G,I] cq fun M cr=>Ux M 0 fun cs=>Ux M 1 fun ct=>Uw cr fun cu=>Us 1024 L cs cu fun cv=>Uw cv fun cw=>Us 1 a ct cw fun cx=>Uw cx fun cy=>F (L,()) cy) (True)))))
end
variable{v0 v1 v2 v3 v4 v5 v6 v7 v8:Value}{H:Hp}{R:Value->Hp->Prop}
theorem fn37(h:sh37 v0 H R):Fc TP 37 #[v0] H R:=
 Oy UQ [(11,(.fork (Ur 0 10) (.cons 10 (.line (Ur 11 6)) (.cons 14 (.line (Ur 10 4++[15,16])) .nil))))] (.seq (.seq .nil (.loop [17] (Ur 18 4++[3,4]++Ur 23 6++[22,29,30,5,6]++Ur 31 18) .nil)) (.join [7] (Ur 50 11++[49,61,62]) .nil (.seq .nil (.seq (.join [93] (Ur 66 27) .nil .nil) (.seq (.seq .nil (.loop [100] ([101,102,103,9]++Ur 104 8) .nil)) (.seq (.join [139] (Ur 112 27) .nil .nil) .nil)))))) Tryz.func37 (args:=[v0]) (Eq.mp (by kernel_rfl:sh37 v0 H R=TU TP UQ [(11,(.fork (Ur 0 10) (.cons 10 (.line (Ur 11 6)) (.cons 14 (.line (Ur 10 4++[15,16])) .nil))))] Tryz.f37 (.seq (.seq .nil (.loop [17] (Ur 18 4++[3,4]++Ur 23 6++[22,29,30,5,6]++Ur 31 18) .nil)) (.join [7] (Ur 50 11++[49,61,62]) .nil (.seq .nil (.seq (.join [93] (Ur 66 27) .nil .nil) (.seq (.seq .nil (.loop [100] ([101,102,103,9]++Ur 104 8) .nil)) (.seq (.join [139] (Ur 112 27) .nil .nil) .nil)))))) [v0] H R) h)
section
variable(v0 v1 v2 v3 v4 v5 v6 v7 v8:Value)(H:Hp)(R:Value->Hp->Prop)
def sh93:Prop:=Ul v0 H fun c=>Ub .eql c (Uv 0) fun d=>hU d (Ul v1 H fun e=>oY H fun g i=>Pu (zo TP 97 [(1,g)]) fun j=>UI e fun k=>UA 0 k fun l=>Us 2 l j i fun a=>Ul v1 a fun b=>UI b fun m=>UA 17 m fun n=>Ul n a fun o=>Ub .add o (Uv 1) fun p=>UI b fun q=>UA 17 q fun r=>Us 1 r p a fun s=>R (.tuple #[]) s) (R (.tuple #[]) H) theorem fd93 {v0 v1:Value} {H:Hp} {R:Value->Hp->Prop} (h:sh93 v0 v1 H R):G0 TP 93 #[v0,v1] H fun H'=>∃ v,R v H':=OD (fun f=>[].contains f) .nil Tryz.func93 (by kernel_rfl) (args:=[v0,v1]) (Eq.mp (by kernel_rfl:sh93 v0 v1 H R=_) h)
end
variable{v0 v1 v2 v3 v4 v5 v6 v7 v8:Value}{H:Hp}{R:Value->Hp->Prop}
section
variable(v0 v1 v2 v3 v4 v5 v6 v7 v8:Value)(H:Hp)(R:Value->Hp->Prop)
def sh58:Prop:=Uf 36 #[v0] H fun b a=>Ub .neq b (Uv 0) fun c=>hU c (R b a) (UI v0 fun d=>UA 14 d fun e=>Ul e a fun f=>hU f (R (Uv 180) a) (UI v0 fun g=>UA 0 g fun h=>UA 0 h fun i=>Ul i a fun j=>Ug 29 j fun k=>Ub .eql k (Uv 0) fun l=>hU l (R (Uv 0) a) (Uf 37 #[v0] a fun m n=>R m n)))
end
variable{v0 v1 v2 v3 v4 v5 v6 v7 v8:Value}{H:Hp}{R:Value->Hp->Prop}
theorem fn58(h:sh58 v0 H R):Fc TP 58 #[v0] H R:=
 mU UQ .nil Tryz.func58 h
end Go.Proofs
namespace Go.Vc
open Go.Proofs
def DS.mG(s:DS)(n:Int):DS:=if s.jt then s else { s with jC:=max n (-1) }
def DS.mI(s:DS):DS:={ s with now:=s.held,jt:=false,jC := -1,kB:=0,pl:=0,hl:=0 }
theorem DS.N4{s:DS}{k:Nat}(h:s.fit k){n:Int}(hn:n<=9223372036854775807):(s.mG n).fit k:=by
 obtain⟨h1,h2,h3,h4,h5⟩:=h;unfold DS.mG;split
 ·exact⟨h1,h2,h3,h4,h5⟩
 ·exact⟨h1,h2,by simp only;omega,h4,h5⟩
theorem DS.OV{s:DS}{k:Nat}(h:s.fit k):s.mI.fit k:=by
 obtain⟨h1,h2,h3,h4,h5⟩:=h;exact⟨h1,h2,⟨by show(-1:Int) <= -1;omega,by show(-1:Int)<=_;omega⟩,mT _,mT _⟩
section
variable{H:Hp}{p:Nat}{s:DS}{O:Nat->Prop}{R:Value->Hp->Prop}
theorem OQ(h:jQ H p s O){n:Int}(k:∀ H',Kp O H H'->jQ H' p (s.mG n) O->R (.tuple #[]) H'):Fc TP 63 #[zD p,.int .i64 n] H R:=by
 have h0:=h;refine fn63 ?_;simp only[sh63,UA,Us,Ub,UI,Uf,Uv];refine YC h ?_;obtain⟨⟨mh,ml,ps,hs,fh,fl,nh,nl,kK,lJ,hd,o1,o2,o3,o4,o5⟩,kc⟩:=h;cases kH:s.jt with
 | true=>
  simp only[jO,zp,show decide ((3:Int)=0)=false from rfl,za,zh];have:=k H (Kp.refl _ _);rw[show s.mG n=s by simp[DS.mG,kH]]at this;exact this h0
 | false=>
  simp only[jl,jD,zp,decide_true,za,zA,MF,zl,zc,aR];refine ZQ hd.top (by simp[Zn]) rfl rfl fun H3 k3 s3 g3=>?_;have hl:s.mG n={ s with jC:=max n (-1) }:=by simp[DS.mG,kH]
  refine k H3 (k3.mono fun j _ e=>e ▸ o1) ⟨⟨mh,ml,ps,hs,fh,fl,nh,nl,kK,lJ,?_,o1,o2,o3,o4,o5⟩,fun j hj=>by rw[s3];exact kc j hj⟩;rw[hl];exact hd.turn k3 g3 rfl rfl rfl rfl rfl
theorem Qe:TP.underlying 136=some (.slice 4):=by kernel_rfl
theorem Li(h:jQ H p s O)(nX:s.pl<100000000000)(k:∀ H',Kp O H H'->jQ H' p s.mI O->R (.int .i64 0) H'):Fc TP 65 #[zD p,.slice none 0 0] H R:=by
 refine fn65 ?_;simp only[sh65,Ul,UL,UA,Us,Ub,Uz,UI,Uf,Ui,Ug,Uu,Uj,Uo,Uv,U0,zm];refine wP h ?_;obtain⟨⟨mh,ml,ps,hs,fh,fl,nh,nl,kK,lJ,hd,o1,o2,o3,o4,o5⟩,kc⟩:=h;have apx:=hd.pl;obtain⟨d1,d2,d3⟩:=hd.df;simp only[zx,za,iW,zh,zl,zc,aR,zi hd.top,Zn];rw[hd.LA.j9 Gx,za,bR];refine zF.mk (fun t H'=>∃ i:Nat,t.1=.int .i64 i/\i<=kK.length/\Ext H H') (fun t _=>match t.1 with | .int _ i=>((kK.length:Int) - i).toNat | _=>0) ⟨0,rfl,by omega,Ext.refl _⟩ ?_
 rintro⟨t,u⟩ H2 ⟨i,ht,hi,e2⟩;simp only at ht;subst ht;simp only[zk,za,zb];refine⟨fun hl=>?_,fun hg=>?_⟩
 ·have hx:=bU (l:=kK) (i:=i) (by omega);generalize kK[i]=x at hx;have hxB:jR x.2:=hd.bp x (jV hx);obtain⟨bs,os,SD,kE⟩:=(hd.LA.ext e2).row (i:=i) (v:=zy x) (by rw[dR,hx];rfl);simp only[SD,za,kE,sL];refine Z9 fun b5 H5 hb5 e5 s5 g5=>?_;simp only[zI]at g5;refine Zc g5 Zh (zZ hxB) (Z8 hxB) fun H6 k6 s6 g6=>?_;have e26:Ext H2 H6:=e5.Kz k6 (by omega);refine Zg.mk (fun t H'=>t.1=.bool false/\H'=H6) ?_ ?_
  ·rintro⟨t,u⟩ H7 ⟨ht,rfl⟩;simp only at ht;subst ht;simp only[zh];rw[ze,zd (by omega) (by omega),za];exact⟨⟨i+1,rfl,by omega,e2.trans e26⟩,by show((kK.length:Int) - (i+1)).toNat<((kK.length:Int) - i).toNat;omega⟩
  ·rw[tU Qe];simp only[za,zk,zb];exact⟨fun h=>absurd h (by omega),fun _=>⟨trivial,trivial⟩⟩
 ·have hdx:DI H2 p s mh ml ps hs fh fl nh nl kK lJ:=hd.ext e2;refine ZQ (v:=.slice none 0 0) hdx.top (by simp[Zn]) rfl rfl fun H3 k3 s3 g3=>?_;have g3:H3[p]?=some (.cells (wO s mh ml (.slice none 0 0) hs) 115):=g3;refine ZQ (v:=.slice none 0 0) g3 (by simp[Zn]) rfl rfl fun H4 k4 s4 g4=>?_;have g4:H4[p]?=some (.cells (wO s mh ml (.slice none 0 0) (.slice none 0 0)) 115):=g4;simp only[zi g4,Zn,za];have ml4:=(hdx.LC.kp k3 fun e=>d2 e.symm).kp k4 fun e=>d2 e.symm;have mh4:=(hdx.LD.kp k3 fun e=>d1 e.symm).kp k4 fun e=>d1 e.symm;refine Ia ml4 fun H5 k5 s5 ml5=>?_;have g5:=k5.at g4 fun e=>d2 e;have mh5:=mh4.kp k5 d3;refine ZQ (v:=.bool false) g5 (by simp[Zn]) rfl rfl fun H6 k6 s6 g6=>?_;have g6:H6[p]?=some (.cells (wO { s with jt:=false } mh ml (.slice none 0 0) (.slice none 0 0)) 115):=g6;refine ZQ (v:=.int .i64 (-1)) g6 (by simp[Zn]) rfl rfl fun H7 k7 s7 g7=>?_;have g7:H7[p]?=some (.cells (wO { s with jt:=false,jC := -1 } mh ml (.slice none 0 0) (.slice none 0 0)) 115):=g7;refine ZQ (v:=.int .i64 0) g7 (by simp[Zn]) rfl rfl fun H8 k8 s8 g8=>?_;have g8:H8[p]?=some (.cells (wO s.mI mh ml (.slice none 0 0) (.slice none 0 0)) 115):=g8;have kp:Kp O H H8:=(e2.kp O).trans ((k3.mono fun j _ e=>e ▸ o1).trans ((k4.mono fun j _ e=>e ▸ o1).trans ((k5.mono fun j _ e=>e ▸ o3).trans ((k6.mono fun j _ e=>e ▸ o1).trans ((k7.mono fun j _ e=>e ▸ o1).trans (k8.mono fun j _ e=>e ▸ o1))))));refine k H8 kp ⟨⟨mh,ml,.slice none 0 0,.slice none 0 0,fh,fun _=>none,nh,0,[],[],?_,o1,o2,o3,fun j e=>(by cases e),fun j e=>(by cases e)⟩,fun j hj=>jj (kc j hj) kp.le⟩;exact {
   top:=g8
   LD:=((mh5.kp k6 fun e=>d1 e.symm).kp k7 fun e=>d1 e.symm).kp k8 fun e=>d1 e.symm
   LC:=((ml5.kp k6 fun e=>d2 e.symm).kp k7 fun e=>d2 e.symm).kp k8 fun e=>d2 e.symm
   LA:=Sv.nil _ _ _
   Pw:=Sv.nil _ _ _
   df:=⟨d1,d2,d3⟩
   S9:=fun j e=>(by cases e)
   GY:=fun j e=>(by cases e)
   bh:=hd.bh
   bl:=fun j c e=>(by cases e)
   bp:=fun x hx=>(by cases hx)
   now:=fun k=>hd.held k
   held:=fun k=>hd.held k
   wait:=rfl
   pl:=rfl
   hl:=rfl
   pos:=hd.pos }
end
end Go.Vc
namespace Go.Proofs
open Go.Vc
section
variable(v0 v1 v2 v3 v4 v5 v6 v7 v8:Value)(H:Hp)(R:Value->Hp->Prop)
def sh175:Prop:=Uj (n:=1) (fun e a=>hU e.1 (UI v0 fun f=>UA 5 f fun g=>Us 1 g U1 a fun h=>R U0 h) (Uj (n:=0) (fun I b=>UI v0 fun i=>UA 7 i fun j=>Ul j b fun k=>Ub .add k (Uv 1) fun l=>UI v0 fun m=>UA 7 m fun o=>Us 1 o l b fun p=>R U1 p) (fun c=>UI v0 fun q=>UA 3 q fun r=>Ul r a fun s=>hU s (UI v0 fun t=>UA 4 t fun u=>Ul u a fun v=>Ub .sub v (Uv 1) fun w=>UI v0 fun x=>UA 4 x fun y=>Us 1 y w a fun z=>c (()) z) (c (()) a)))) (fun d=>UI v0 fun A=>UA 3 A fun B=>Ul B H fun C=>hU C (UI v0 fun D=>UA 4 D fun E=>Ul E H fun F=>Ub .eql F (Uv 0) fun G=>d (G,()) H) (d (U0,()) H))
def sh143:Prop:=kT 65 v2 H fun d a=>Pu (ya TP 39 true .eql v0 (.pointer none) a) fun i=>hU i (R (Uv 1) a) (UI v0 fun j=>UA 5 j fun k=>Ul k a fun l=>hU l (R (Uv 3) a) (Uj (n:=1) (fun m e=>hU m.1 (R (Uv 2) e) (Uf 175 #[v0] e fun o b=>Uu o fun p=>hU p (R (Uv 3) b) (UI v0 fun q=>UA 2 q fun r=>Ul r b fun s=>UL 1024 d b fun t=>Pu (zo TP 149 [(0,v1),(1,t)]) fun u=>Uw b fun v=>Pu (zQ TP 79) fun f=>Pu (zT (some f) 1 [(0,u)]) fun w=>nK f.type 1 w v fun x y=>Uw y fun z=>mD (zQ TP 79) s x z fun A B=>UI v0 fun C=>UA 2 C fun D=>Uw B fun E=>Us 1 D A E fun F=>Uw F fun c=>UI v0 fun G=>UA 6 G fun I=>Ul I c fun J=>UL 1024 d c fun K=>Pu (zo TP 211 [(0,(.int .u8 1)),(1,v1),(2,K)]) fun L=>Uw c fun M=>Pu (zQ TP 113) fun g=>Pu (zT (some g) 1 [(0,L)]) fun N=>nK g.type 1 N M fun O P=>Uw P fun Q=>mD (zQ TP 113) J O Q fun T V=>UI v0 fun W=>UA 6 W fun X=>Uw V fun Y=>Us 1 X T Y fun Z=>Uw Z fun aa=>R (Uv 0) aa))) (fun h=>Ub .lss v1 (Uv 0) fun ab=>hU ab (h (U1,()) a) (UI v0 fun ac=>UA 0 ac fun ad=>Ul ad a fun ae=>Ub .geq v1 ae fun af=>h (af,()) a))))
def sh114:Prop:=kT 65 v2 H fun e g=>UL 1024 e g fun k=>Uf 131 #[k] g fun l m=>Uo (n:=3) ((.slice none 0 0),l,(Uv 0),()) m (fun h a b=>Ug 79 v0 fun o=>Ub .lss a.2.2.1 o fun p=>hU p (Uj (n:=2) (fun c d=>Ui 1025 v0 a.2.2.1 fun q=>UA 0 q fun r=>Ul r d fun s=>Ub .neq s v1 fun t=>hU t (Ui 1025 v0 a.2.2.1 fun u=>UL 1025 u d fun v=>Uq 79 v c.1 d fun w x=>Ub .add a.2.2.1 (Uv 1) fun y=>h (w,c.2.1,y,()) x) (Ub .add a.2.2.1 (Uv 1) fun z=>h (c.1,c.2.1,z,()) d)) (fun i=>Uj (n:=1) (fun A f=>hU A.1 (UL 1024 e f fun B=>Pu (zo TP 149 [(0,v1),(1,B)]) fun C=>Uq 79 C a.1 f fun D E=>i (D,U1,()) E) (i (a.1,a.2.1,()) f)) (fun j=>Uu a.2.1 fun F=>hU F (Ui 1025 v0 a.2.2.1 fun G=>UA 0 G fun I=>Ul I b fun J=>Ub .geq J v1 fun K=>j (K,()) b) (j (U0,()) b)))) (Uu a.2.1 fun L=>hU L (UL 1024 e b fun M=>Pu (zo TP 149 [(0,v1),(1,M)]) fun N=>Uq 79 N a.1 b fun O P=>R O P) (R a.1 b)))
def sh145:Prop:=Pu (ya TP 39 true .eql v0 (.pointer none) H) fun f=>hU f (R (Uv 1) H) (Uj (n:=1) (fun g c=>hU g.1 (R (Uv 3) c) (Uo (n:=1) ((Uv 0),()) c (fun h b a=>UI v0 fun i=>UA 2 i fun j=>Ul j a fun k=>Ug 79 k fun l=>Ub .lss b.1 l fun m=>hU m (UI v0 fun o=>UA 1 o fun p=>Ul p a fun q=>UI v0 fun r=>UA 2 r fun s=>Ul s a fun t=>Ui 1025 t b.1 fun u=>UA 0 u fun v=>Ul v a fun w=>UI v0 fun x=>UA 2 x fun y=>Ul y a fun z=>Ui 1025 z b.1 fun A=>UA 1 A fun B=>UL 1024 B a fun C=>Uf 114 #[q,w,C] a fun D E=>UI v0 fun F=>UA 1 F fun G=>Us 1 G D E fun I=>Ub .add b.1 (Uv 1) fun J=>h (J,()) I) (UI v0 fun K=>UA 2 K fun L=>Us 1 L (.slice none 0 0) a fun d=>UI v0 fun M=>UA 6 M fun N=>Ul N d fun O=>Pu (zo TP 211 [(0,(.int .u8 2))]) fun P=>Uq 113 P O d fun Q T=>UI v0 fun V=>UA 6 V fun W=>Us 1 W Q T fun X=>R (Uv 0) X)))) (fun e=>UI v0 fun Y=>UA 5 Y fun Z=>Ul Z H fun aa=>hU aa (e (U1,()) H) (Uf 175 #[v0] H fun ab ac=>Uu ab fun ad=>e (ad,()) ac)))
def sh64:Prop:=Uj (n:=1) (fun c a=>hU c.1 (R (.tuple #[]) a) (Ub .geq v1 (Uv 0) fun d=>UI v0 fun e=>UA 3 e fun f=>Us 1 f d a fun g=>UI v0 fun h=>UA 4 h fun i=>Us 1 i v1 g fun j=>R (.tuple #[]) j)) (fun b=>Pu (ya TP 39 true .eql v0 (.pointer none) H) fun k=>hU k (b (U1,()) H) (UI v0 fun l=>UA 5 l fun m=>Ul m H fun o=>b (o,()) H))
def sh66:Prop:=Pu (ya TP 39 true .eql v0 (.pointer none) H) fun f=>hU f (R (Uv 1) H) (Uo (n:=1) ((Uv 0),()) H (fun d b c=>Uj (n:=1) (fun g a=>hU g.1 (Ui 1 v1 b.1 fun h=>Ul h a fun i=>hU i (UI v0 fun j=>UA 1 j fun k=>Ul k a fun l=>UI v0 fun m=>UA 2 m fun o=>Ul o a fun p=>Ui 1025 p b.1 fun q=>UA 0 q fun r=>Ul r a fun s=>UI v0 fun t=>UA 2 t fun u=>Ul u a fun v=>Ui 1025 v b.1 fun w=>UA 1 w fun x=>UL 1024 x a fun y=>Uf 114 #[l,s,y] a fun z A=>UI v0 fun B=>UA 1 B fun C=>Us 1 C z A fun D=>Ub .add b.1 (Uv 1) fun E=>d (E,()) D) (Ub .add b.1 (Uv 1) fun F=>d (F,()) a)) (UI v0 fun G=>UA 2 G fun I=>Us 1 I (.slice none 0 0) a fun J=>UI v0 fun K=>UA 6 K fun L=>Us 1 L (.slice none 0 0) J fun M=>UI v0 fun N=>UA 5 N fun O=>Us 1 O U0 M fun P=>UI v0 fun Q=>UA 3 Q fun T=>Us 1 T U0 P fun V=>UI v0 fun W=>UA 10 W fun X=>Us 1 X (Uv 0) V fun Y=>R (Uv 0) Y)) (fun e=>UI v0 fun Z=>UA 2 Z fun aa=>Ul aa c fun ab=>Ug 79 ab fun ac=>Ub .lss b.1 ac fun ad=>hU ad (Ug 136 v1 fun ae=>Ub .lss b.1 ae fun af=>e (af,()) c) (e (U0,()) c))))
def sh194:Prop:=kT 65 v0 H fun c j=>Uz 65 j fun b k=>Uj (n:=1) (fun l d=>hU l.1 (UL 1024 c d fun m=>Us 1024 b m d fun f=>UL 1024 b f fun o=>R o f) (Uo (n:=2) (v3,(Uv 0),()) d (fun p a e=>Ub .lss a.2.1 v2 fun q=>hU q (Ub .add v1 a.2.1 fun r=>Pu (z8 (some (.int .u32)) .rem a.1 (.int .u32 256)) fun s=>Pu (Ze (some (.int .u32)) (some (.int .u8)) s) fun t=>Uk 1024 1 c r fun u=>Us 1 u t e fun v=>Pu (z8 (some (.int .u32)) .quo a.1 (.int .u32 256)) fun w=>Ub .add a.2.1 (Uv 1) fun x=>p (w,x,()) v) (UL 1024 c e fun y=>Us 1024 b y e fun g=>UL 1024 b g fun z=>R z g)))) (fun h=>Uf 198 #[v1] k fun A i=>Uu A fun B=>hU B (h (U1,()) i) (Ub .add v1 v2 fun C=>Ub .sub C (Uv 1) fun D=>Uf 198 #[D] i fun E F=>Uu E fun G=>h (G,()) F))
def sh176:Prop:=kT 65 v0 H fun d e=>Uz 65 e fun a b=>UL 1024 d b fun f=>Uf 194 #[f,v1,(Uv 4),v2] b fun g h=>Us 1024 a g h fun c=>UL 1024 a c fun i=>R i c
def sh144:Prop:=kT 62 v0 H fun h m=>kT 151 v1 m fun c o=>Uz 65 o fun b i=>UL 9 h i fun p=>Uf 124 #[p] i fun q d=>Uu q fun r=>hU r (Pu (zo TP 65 []) fun s=>Us 1024 b s d fun j=>UL 1024 b j fun t=>R (.tuple #[t,(Uv 2)]) j) (UL 9 h d fun u=>UL 1 c d fun v=>Uf 173 #[u,v] d fun w g=>Uu w fun x=>hU x (Pu (zo TP 65 []) fun y=>Us 1024 b y g fun k=>UL 1024 b k fun z=>R (.tuple #[z,(Uv 4)]) k) (Pu (zo TP 65 []) fun A=>UA 0 c fun B=>Ul B g fun C=>Ug 29 C fun D=>Pu (Ze (some (.int .i64)) (some (.int .u32)) D) fun E=>Uf 176 #[A,(Uv 0),E] g fun F G=>Uz 65 G fun e I=>Us 1024 e F I fun J=>Uo (n:=1) ((Uv 0),()) J (fun K f a=>UA 0 c fun L=>Ul L a fun M=>Ug 29 M fun N=>Ub .lss f.1 N fun O=>hU O (UL 1024 e a fun P=>Ub .add f.1 (Uv 1) fun Q=>Ub .mul (Uv 4) Q fun T=>UA 0 c fun V=>Ul V a fun W=>Ui 1 W f.1 fun X=>Ul X a fun Y=>Pu (Ze (some (.int .i64)) (some (.int .u32)) Y) fun Z=>Uf 176 #[P,T,Z] a fun aa ab=>Us 1024 e aa ab fun ac=>Ub .add f.1 (Uv 1) fun ad=>K (ad,()) ac) (UL 1024 e a fun ae=>Us 1024 b ae a fun l=>UL 1024 b l fun af=>R (.tuple #[af,(Uv 0)]) l))))
def sh107:Prop:=UI v0 fun B=>UA 12 B fun C=>Ul C H fun D=>Ug 126 D fun m=>Uz 151 H fun h E=>Uo (n:=1) ((Uv 0),()) E (fun F c a=>Ub .lss c.1 m fun G=>hU G (UI v0 fun I=>UA 0 I fun J=>Ul J a fun K=>UI v0 fun L=>UA 1 L fun M=>UA 3 M fun N=>Ul N a fun O=>Ub .add O (Uv 1) fun P=>Ub .add P c.1 fun Q=>UI v0 fun T=>UA 12 T fun V=>Ul V a fun W=>Ui 1025 W c.1 fun X=>UA 1 X fun Y=>UL 1024 Y a fun Z=>Uf 143 #[K,Q,Z] a fun aa d=>Ub .neq aa (Uv 0) fun ab=>hU ab (R (Uv 3) d) (UA 0 h fun ac=>Ul ac d fun ad=>UI v0 fun ae=>UA 12 ae fun af=>Ul af d fun ag=>Ui 1025 ag c.1 fun ah=>UA 0 ah fun ai=>Ul ai d fun aj=>Uw d fun ak=>Pu (zQ TP 29) fun o=>Pu (zT (some o) 1 [(0,aj)]) fun al=>nK o.type 1 al ak fun am an=>Uw an fun ao=>mD (zQ TP 29) ad am ao fun ap aq=>UA 0 h fun ar=>Uw aq fun au=>Us 1 ar ap au fun av=>Uw av fun aw=>Ub .add c.1 (Uv 1) fun ax=>F (ax,()) aw)) (Uj (n:=1) (fun ay p=>Uj (n:=1) (fun az q=>hU az.1 (R (Uv 3) q) (Uo (n:=1) ((Uv 0),()) q (fun aA f b=>Ub .lss f.1 m fun aB=>hU aB (UI v0 fun aC=>UA 0 aC fun aD=>Ul aD b fun aE=>UI v0 fun aF=>UA 12 aF fun aG=>Ul aG b fun aI=>Ui 1025 aI f.1 fun aJ=>UA 0 aJ fun aK=>Ul aK b fun aL=>UI v0 fun aM=>UA 12 aM fun aN=>Ul aN b fun aO=>Ui 1025 aO f.1 fun aP=>UA 1 aP fun aQ=>UL 1024 aQ b fun aS=>Uf 143 #[aE,aL,aS] b fun aT r=>Ub .neq aT (Uv 0) fun aV=>hU aV (R (Uv 3) r) (Ub .add f.1 (Uv 1) fun aW=>aA (aW,()) r)) (Uj (n:=1) (fun aX s=>hU aX.1 (R (Uv 3) s) (UI v0 fun aY=>UA 12 aY fun aZ=>Us 1 aZ (.slice none 0 0) s fun t=>UI v0 fun a0=>UA 16 a0 fun a1=>Ul a1 t fun a2=>Ub .add a2 (Uv 1) fun a3=>UI v0 fun a4=>UA 16 a4 fun a5=>Us 1 a5 a3 t fun a6=>R (Uv 0) a6)) (fun i=>UI v0 fun a7=>UA 0 a7 fun a8=>Ul a8 b fun a9=>Uf 145 #[a9] b fun ba g=>Ub .neq ba (Uv 0) fun bb=>hU bb (i (U1,()) g) (UI v0 fun bc=>UA 0 bc fun bd=>Ul bd g fun be=>UI v0 fun bf=>UA 1 bf fun bg=>UA 3 bg fun bh=>Ul bh g fun bi=>Pu (zo TP 65 []) fun bj=>Uf 143 #[be,bi,bj] g fun bk j=>Ub .neq bk (Uv 0) fun bl=>hU bl (i (U1,()) j) (UI v0 fun bm=>UA 0 bm fun bn=>Ul bn j fun bo=>Uf 145 #[bo] j fun bp bq=>Ub .neq bp (Uv 0) fun br=>i (br,()) bq))))))) (fun k=>UI v0 fun bs=>UA 0 bs fun bt=>Ul bt p fun bu=>Uf 145 #[bu] p fun bv e=>Ub .neq bv (Uv 0) fun bw=>hU bw (k (U1,()) e) (UI v0 fun bx=>UA 0 bx fun bz=>Ul bz e fun bA=>UI v0 fun bB=>UA 1 bB fun bC=>UA 3 bC fun bD=>Ul bD e fun bE=>UL 1024 ay.1 e fun bF=>Uf 143 #[bA,bE,bF] e fun bG l=>Ub .neq bG (Uv 0) fun bI=>hU bI (k (U1,()) l) (UI v0 fun bJ=>UA 0 bJ fun bK=>Ul bK l fun bL=>Uf 145 #[bL] l fun bM bN=>Ub .neq bM (Uv 0) fun bO=>k (bO,()) bN)))) (fun u=>UI v0 fun bP=>UA 1 bP fun bQ=>UL 9 bQ a fun v=>UL 1 h a fun w=>And (Uw a fun bS=>Uf 144 #[v,w] bS fun x bT=>Ux x 0 fun bV=>Ux x 1 fun b9=>Uw bT fun bW=>Uz 65 bW fun y bX=>Uw bX fun bY=>Us 1024 y bV bY fun bZ=>Uw bZ fun b0=>u (y,()) b0) (And (Uw a fun b1=>Uz 65 b1 fun z b2=>Uw b2 fun b3=>Uf 144 #[v,w] b3 fun A b4=>Ux A 0 fun b5=>Ux A 1 fun ca=>Uw b4 fun b6=>Us 1024 z b5 b6 fun b7=>Uw b7 fun b8=>u (z,()) b8) (True)))))
def sh50:Prop:=Uf 67 #[v0] H fun c a=>Ub .neq c (Uv 0) fun h=>hU h (R c a) (UI v0 fun i=>UA 13 i fun j=>Ul j a fun k=>hU k (R (Uv 180) a) (Uj (n:=1) (fun l b=>hU l.1 (R (Uv 2) b) (Uj (n:=0) (fun W m=>UI v0 fun o=>UA 13 o fun p=>Us 1 p U1 m fun q=>UI v0 fun r=>UA 14 r fun s=>Us 1 s v1 q fun t=>UI v0 fun u=>UA 15 u fun v=>Us 1 v (.slice none 0 0) t fun w=>R (Uv 0) w) (fun d=>UI v0 fun x=>UA 12 x fun y=>Ul y b fun z=>Ug 126 z fun A=>Ub .add A v1 fun B=>UI v0 fun C=>UA 1 C fun D=>UA 0 D fun E=>UA 1 E fun F=>Ul F b fun G=>Ub .sub G (Uv 1) fun I=>Ub .gtr B I fun J=>hU J (Uf 107 #[v0] b fun e f=>Ub .neq e (Uv 0) fun K=>hU K (R e f) (d (()) f)) (d (()) b)))) (fun g=>Ub .lss v1 (Uv 1) fun L=>hU L (g (U1,()) a) (UI v0 fun M=>UA 1 M fun N=>UA 0 N fun O=>UA 1 O fun P=>Ul P a fun Q=>Ub .sub Q (Uv 1) fun T=>Ub .gtr v1 T fun V=>g (V,()) a))))
def sh51:Prop:=Uf 67 #[v0] H fun b a=>Ub .neq b (Uv 0) fun d=>hU d (R b a) (UI v0 fun e=>UA 13 e fun f=>Ul f a fun g=>Uu g fun h=>hU h (R (Uv 180) a) (UI v0 fun i=>UA 13 i fun j=>Us 1 j U0 a fun c=>UI v0 fun k=>UA 17 k fun l=>Ul l c fun m=>Ub .add m (Uv 1) fun n=>UI v0 fun o=>UA 17 o fun p=>Us 1 p n c fun q=>R (Uv 0) q))
def sh112:Prop:=Uo (n:=1) ((Uv 0),()) H (fun c b a=>UI v0 fun d=>UA 15 d fun e=>Ul e a fun f=>Ug 29 f fun g=>Ub .lss b.1 g fun h=>hU h (UI v0 fun i=>UA 15 i fun j=>Ul j a fun k=>Ui 1 k b.1 fun l=>Ul l a fun m=>Ub .eql m v1 fun o=>hU o (R U1 a) (Ub .add b.1 (Uv 1) fun p=>c (p,()) a)) (R U0 a))
def sh62:Prop:=kT 65 v2 H fun g o=>Uf 67 #[v0] o fun h a=>Ub .neq h (Uv 0) fun p=>hU p (R h a) (UI v0 fun q=>UA 13 q fun r=>Ul r a fun s=>Uu s fun t=>hU t (R (Uv 180) a) (Uj (n:=1) (fun u i=>hU u.1 (R (Uv 2) i) (Uf 112 #[v0,v1] i fun j c=>Uj (n:=1) (fun v d=>hU v.1 (R (Uv 181) d) (Uj (n:=0) (fun a7 w=>Uo (n:=1) ((Uv 0),()) w (fun x e b=>UI v0 fun y=>UA 12 y fun z=>Ul z b fun A=>Ug 126 A fun B=>Ub .lss e.1 B fun C=>hU C (UI v0 fun D=>UA 12 D fun E=>Ul E b fun F=>Ui 1025 F e.1 fun G=>UA 0 G fun I=>Ul I b fun J=>Ub .eql J v1 fun K=>hU K (UI v0 fun L=>UA 12 L fun M=>Ul M b fun N=>UL 1024 g b fun O=>Ui 1025 N e.1 fun P=>UA 1 P fun Q=>Us 1024 Q O b fun T=>R (Uv 0) T) (Ub .add e.1 (Uv 1) fun V=>x (V,()) b)) (UI v0 fun W=>UA 12 W fun X=>Ul X b fun Y=>UL 1024 g b fun Z=>Pu (zo TP 161 [(0,v1),(1,Z)]) fun aa=>Uw b fun ab=>Pu (zQ TP 126) fun k=>Pu (zT (some k) 1 [(0,aa)]) fun ac=>nK k.type 1 ac ab fun ad ae=>Uw ae fun af=>mD (zQ TP 126) Y ad af fun ag ah=>UI v0 fun ai=>UA 12 ai fun aj=>Uw ah fun ak=>Us 1 aj ag ak fun al=>Uw al fun am=>R (Uv 0) am))) (fun l=>Uu j fun an=>hU an (UI v0 fun ao=>UA 15 ao fun ap=>Ul ap d fun aq=>Uq 29 v1 aq d fun ar au=>UI v0 fun av=>UA 15 av fun aw=>Us 1 aw ar au fun ax=>l (()) ax) (l (()) d)))) (fun m=>Uu j fun ay=>hU ay (UI v0 fun az=>UA 15 az fun aA=>Ul aA c fun aB=>Ug 29 aB fun aC=>UI v0 fun aD=>UA 14 aD fun aE=>Ul aE c fun aF=>Ub .geq aC aF fun aG=>m (aG,()) c) (m (U0,()) c)))) (fun f=>Ub .leq v1 (Uv 0) fun aI=>hU aI (f (U1,()) a) (UI v0 fun aJ=>UA 1 aJ fun aK=>UA 0 aK fun aL=>UA 0 aL fun aM=>Ul aM a fun aN=>Ub .geq v1 aN fun aO=>hU aO (f (U1,()) a) (UI v0 fun aP=>UA 1 aP fun aQ=>UA 3 aQ fun aS=>Ul aS a fun aT=>Ub .geq v1 aT fun aV=>hU aV (UI v0 fun aW=>UA 1 aW fun aX=>UA 3 aX fun aY=>Ul aY a fun aZ=>UI v0 fun a0=>UA 1 a0 fun a1=>UA 0 a1 fun a2=>UA 1 a2 fun a3=>Ul a3 a fun a4=>Ub .add aZ a4 fun a5=>Ub .lss v1 a5 fun a6=>f (a6,()) a) (f (U0,()) a))))))
def sh59:Prop:=Uf 67 #[v0] H fun b a=>Ub .neq b (Uv 0) fun c=>hU c (R b a) (UI v0 fun d=>UA 13 d fun e=>Ul e a fun f=>hU f (R (Uv 180) a) (UI v0 fun g=>UA 12 g fun h=>Ul h a fun i=>Ug 126 i fun j=>Ub .eql j (Uv 0) fun k=>hU k (R (Uv 0) a) (Uf 107 #[v0] a fun l m=>R l m)))
end
variable{v0 v1 v2 v3 v4 v5 v6 v7 v8:Value}{H:Hp}{R:Value->Hp->Prop}
theorem fn175(h:sh175 v0 H R):Fc TP 175 #[v0] H R:=
 mU UQ (.seq .nil (.seq (.join [13] (Ur 3 10) .nil .nil) (.join [] (Ur 17 12) .nil .nil))) Tryz.func175 h
theorem fn143(h:sh143 v0 v1 v2 H R):Fc TP 143 #[v0,v1,v2] H R:=
 xe UQ (.seq .nil (.seq .nil (.seq .nil (.seq (.join [22] (Ur 13 9) .nil .nil) .nil)))) Tryz.func143 h
theorem fn114(h:sh114 v0 v1 v2 H R):Fc TP 114 #[v0,v1,v2] H R:=
 xe UQ (.seq .nil (.seq .nil (.seq .nil (.seq .nil (.seq (.seq .nil (.loop [8,9,10] (Ur 14 4++Ur 20 31++[18,19]) (.seq .nil (.seq (.join [8,9] (Ur 20 17) (.join [30] (Ur 20 10) .nil .nil) .nil) .nil)))) .nil))))) Tryz.func114 h
theorem fn145(h:sh145 v0 H R):Fc TP 145 #[v0] H R:=
 mU UQ (.seq .nil (.seq .nil (.seq (.join [14] (Ur 6 8) .nil .nil) (.seq (.seq .nil (.loop [3] (Ur 15 7++Ur 24 24++[22,23]) .nil)) .nil)))) Tryz.func145 h
theorem fn64(h:sh64 v0 v1 H R):Fc TP 64 #[v0,v1] H R:=
 mr UQ (.seq (.join [11] (Ur 4 7) .nil .nil) .nil) Tryz.func64 h
theorem fn66(h:sh66 v0 v1 H R):Fc TP 66 #[v0,v1] H R:=
 mr UQ (.seq .nil (.seq .nil (.seq (.seq .nil (.loop [5] (Ur 8 13++Ur 23 28++[21,22]) (.seq (.join [20] (Ur 8 12) .nil .nil) .nil))) .nil))) Tryz.func66 h
theorem fn194(h:sh194 v0 v1 v2 v3 H R):Fc TP 194 #[v0,v1,v2,v3] H R:=
 UG4 UQ (.seq .nil (.seq (.join [20] (Ur 10 10) .nil .nil) (.seq (.seq .nil (.loop [3,9] ([22,23,24]++Ur 27 9++[25,26]) .nil)) .nil))) Tryz.func194 h
theorem fn176(h:sh176 v0 v1 v2 H R):Fc TP 176 #[v0,v1,v2] H R:=
 xe UQ .nil Tryz.func176 h
theorem fn144(h:sh144 v0 v1 H R):Fc TP 144 #[v0,v1] H R:=
 mr UQ (.seq .nil (.seq .nil (.seq .nil (.seq .nil (.seq (.seq .nil (.loop [7] (Ur 23 5++Ur 30 11++[28,29]) .nil)) .nil))))) Tryz.func144 h
theorem fn107(h:sh107 v0 H R):Fc TP 107 #[v0] H R:=
 ZM UQ [(9,(.fork (Ur 0 5) (.cons 5 (.line (Ur 6 6)) (.cons 9 (.line [5,6,7,8,10,11]) .nil))))] (.seq .nil (.seq .nil (.seq .nil (.seq (.seq .nil (.loop [5] ([14,15,16]++Ur 19 22++[2]++Ur 41 13++[17,18]) .nil)) (.join [6] (Ur 55 6++[54,61,62,7]) .nil (.seq (.join [90] (Ur 63 27) .nil .nil) (.seq (.seq .nil (.loop [8] ([91,92,93]++Ur 96 22++[2,94,95]) .nil)) (.seq (.join [145] (Ur 118 27) .nil .nil) .nil)))))))) Tryz.func107 (args:=[v0]) (UE (by kernel_rfl) h)
theorem fn50(h:sh50 v0 v1 H R):Fc TP 50 #[v0,v1] H R:=
 mr UQ (.seq .nil (.seq .nil (.seq .nil (.seq .nil (.seq (.join [27] (Ur 15 12) .nil .nil) (.join [] (Ur 28 17++[5,45,46,47,4]) .nil .nil)))))) Tryz.func50 h
theorem fn51(h:sh51 v0 H R):Fc TP 51 #[v0] H R:=
 mU UQ .nil Tryz.func51 h
theorem fn112(h:sh112 v0 v1 H R):Fc TP 112 #[v0,v1] H R:=
 mr UQ (.seq .nil (.seq (.seq .nil (.loop [5] (Ur 6 7++Ur 15 9++[4,13,14]) .nil)) .nil)) Tryz.func112 h
theorem fn62(h:sh62 v0 v1 v2 H R):Fc TP 62 #[v0,v1,v2] H R:=
 xe UQ (.seq .nil (.seq .nil (.seq .nil (.seq .nil (.seq (.join [56] (Ur 20 36) .nil .nil) (.seq .nil (.seq (.join [73] (Ur 60 13) .nil .nil) (.join [] (Ur 74 12) .nil (.seq (.seq .nil (.loop [9] (Ur 86 7++Ur 95 18++[6,93,94]) .nil)) .nil))))))))) Tryz.func62 h
theorem fn59(h:sh59 v0 H R):Fc TP 59 #[v0] H R:=
 mU UQ .nil Tryz.func59 h
section
variable(v0 v1 v2 v3 v4 v5 v6 v7 v8:Value)(H:Hp)(R:Value->Hp->Prop)
def sh68:Prop:=Uf 67 #[v0] H fun b a=>Ub .eql b (Uv 0) fun c=>hU c (UI v0 fun d=>UA 13 d fun e=>Ul e a fun f=>R f a) (R U0 a)
def sh60:Prop:=Uz 62 H fun a e=>Uf 67 #[v0] e fun f b=>Ub .neq f (Uv 0) fun g=>hU g (Pu (zo TP 62 []) fun h=>Us 9 a h b fun c=>UL 9 a c fun i=>R i c) (UI v0 fun j=>UA 1 j fun k=>UL 9 k b fun l=>Us 9 a l b fun d=>UL 9 a d fun m=>R m d)
def sh108:Prop:=Ub .geq v1 (Uv 1) fun a=>hU a (Uf 60 #[v0] H fun b c=>Pu (Ys TP 62 b 0) fun d=>Pu (Ys TP 23 d 2) fun e=>Ub .leq v1 e fun f=>R f c) (R U0 H)
def sh109:Prop:=kT 65 v0 H fun f g=>Uz 54 g fun c h=>Uz 104 h fun d i=>Uo (n:=1) ((Uv 0),()) i (fun j a b=>Ub .lss a.1 (Uv 64) fun k=>hU k (Ub .rem v1 (Uv 16) fun l=>Ub .mul (Uv 64) l fun m=>Ub .add m a.1 fun o=>Uk 1024 1 f o fun p=>Ul p b fun q=>Uk 64 1 d a.1 fun r=>Us 1 r q b fun s=>Ub .add a.1 (Uv 1) fun t=>j (t,()) s) (UL 64 d b fun u=>Uf 146 #[u] b fun v w=>Us 16 c v w fun e=>UL 16 c e fun x=>R x e))
def sh110:Prop:=kT 65 v0 H fun c h=>kT 54 v2 h fun i j=>Uz 65 j fun d e=>UL 16 i e fun k=>Uf 123 #[k] e fun l m=>Uz 104 m fun f o=>Us 64 f l o fun p=>Uo (n:=1) ((Uv 0),()) p (fun q a b=>Ub .lss a.1 (Uv 64) fun r=>hU r (Ub .rem v1 (Uv 16) fun s=>Ub .mul (Uv 64) s fun t=>Ub .add t a.1 fun u=>Uk 64 1 f a.1 fun v=>Ul v b fun w=>Uk 1024 1 c u fun x=>Us 1 x w b fun y=>Ub .add a.1 (Uv 1) fun z=>q (z,()) y) (UL 1024 c b fun A=>Us 1024 d A b fun g=>UL 1024 d g fun B=>R B g))
def sh52:Prop:=Uz 54 H fun a m=>Uf 67 #[v0] m fun c d=>Ub .neq c (Uv 0) fun n=>hU n (Pu (zo TP 54 []) fun o=>Us 16 a o d fun e=>UL 16 a e fun p=>R (.tuple #[p,c]) e) (Uf 108 #[v0,v1] d fun q f=>Uu q fun r=>hU r (Pu (zo TP 54 []) fun s=>Us 16 a s f fun g=>UL 16 a g fun t=>R (.tuple #[t,(Uv 2)]) g) (Uf 60 #[v0] f fun u v=>Pu (Ys TP 62 u 2) fun w=>Ub .quo v1 (Uv 16) fun x=>Ub .add w x fun y=>Uf 35 #[v0,y] v fun h z=>Ux h 0 fun A=>Ux h 1 fun i=>Uz 65 z fun j B=>Us 1024 j A B fun b=>Ub .neq i (Uv 0) fun C=>hU C (Pu (zo TP 54 []) fun D=>Us 16 a D b fun k=>UL 16 a k fun E=>R (.tuple #[E,i]) k) (UL 1024 j b fun F=>Uf 109 #[F,v1] b fun G I=>Us 16 a G I fun l=>UL 16 a l fun J=>R (.tuple #[J,(Uv 0)]) l)))
def sh53:Prop:=kT 54 v2 H fun j k=>Uf 67 #[v0] k fun b c=>Ub .neq b (Uv 0) fun l=>hU l (R b c) (Uf 68 #[v0] c fun m d=>Uu m fun n=>hU n (R (Uv 180) d) (Uf 108 #[v0,v1] d fun o e=>Uu o fun p=>hU p (R (Uv 2) e) (Uf 60 #[v0] e fun q r=>Pu (Ys TP 62 q 2) fun s=>Ub .quo v1 (Uv 16) fun t=>Ub .add s t fun f=>Uf 35 #[v0,f] r fun g u=>Ux g 0 fun v=>Ux g 1 fun h=>Uz 65 u fun i w=>Us 1024 i v w fun a=>Ub .neq h (Uv 0) fun x=>hU x (R h a) (UL 1024 i a fun y=>UL 16 j a fun z=>Uf 110 #[y,v1,z] a fun A B=>Uf 62 #[v0,f,A] B fun C D=>R C D))))
def sh54:Prop:=kT 54 v1 H fun d m=>Uf 67 #[v0] m fun e f=>Ub .neq e (Uv 0) fun o=>hU o (R (.tuple #[(Uv 0),e]) f) (Uf 68 #[v0] f fun p c=>Uu p fun q=>hU q (R (.tuple #[(Uv 0),(Uv 180)]) c) (UA 0 d fun r=>Ul r c fun s=>Pu (z8 (some (.int .u16)) .eql s (.int .u16 0)) fun t=>hU t (R (.tuple #[(Uv 0),(Uv 2)]) c) (Uo (n:=1) ((Uv 1),()) c (fun u a v=>Uf 60 #[v0] v fun w g=>Pu (Ys TP 62 w 0) fun x=>Pu (Ys TP 23 x 2) fun y=>Ub .leq a.1 y fun z=>hU z (Uf 52 #[v0,a.1] g fun h A=>Ux h 0 fun B=>Ux h 1 fun i=>Uz 54 A fun j C=>Us 16 j B C fun b=>Ub .neq i (Uv 0) fun D=>hU D (R (.tuple #[(Uv 0),i]) b) (UA 0 j fun E=>Ul E b fun F=>Pu (z8 (some (.int .u16)) .eql F (.int .u16 0)) fun G=>hU G (UL 16 d b fun I=>Uf 53 #[v0,a.1,I] b fun k l=>Ub .neq k (Uv 0) fun J=>hU J (R (.tuple #[(Uv 0),k]) l) (R (.tuple #[a.1,(Uv 0)]) l)) (Ub .add a.1 (Uv 1) fun K=>u (K,()) b))) (R (.tuple #[(Uv 0),(Uv 16)]) g)))))
def sh55:Prop:=Uf 67 #[v0] H fun c d=>Ub .neq c (Uv 0) fun j=>hU j (R (.tuple #[(Uv 0),c]) d) (Uo (n:=2) ((Uv 0),(Uv 1),()) d (fun e a k=>Uf 60 #[v0] k fun l f=>Pu (Ys TP 62 l 0) fun m=>Pu (Ys TP 23 m 2) fun o=>Ub .leq a.2.1 o fun p=>hU p (Uf 52 #[v0,a.2.1] f fun g q=>Ux g 0 fun r=>Ux g 1 fun h=>Uz 54 q fun i s=>Us 16 i r s fun b=>Ub .neq h (Uv 0) fun t=>hU t (R (.tuple #[(Uv 0),h]) b) (UA 0 i fun u=>Ul u b fun v=>Pu (z8 (some (.int .u16)) .eql v (.int .u16 0)) fun w=>hU w (Ub .add a.1 (Uv 1) fun x=>Ub .add a.2.1 (Uv 1) fun y=>e (x,y,()) b) (Ub .add a.2.1 (Uv 1) fun z=>e (a.1,z,()) b))) (R (.tuple #[a.1,(Uv 0)]) f)))
def sh56:Prop:=Uf 67 #[v0] H fun d e=>Ub .neq d (Uv 0) fun l=>hU l (R (.tuple #[(.slice none 0 0),d]) e) (Uo (n:=2) ((.slice none 0 0),(Uv 1),()) e (fun f a m=>Uf 60 #[v0] m fun o g=>Pu (Ys TP 62 o 0) fun p=>Pu (Ys TP 23 p 2) fun q=>Ub .leq a.2.1 q fun r=>hU r (Uf 52 #[v0,a.2.1] g fun h s=>Ux h 0 fun t=>Ux h 1 fun i=>Uz 54 s fun c u=>Us 16 c t u fun b=>Ub .neq i (Uv 0) fun v=>hU v (R (.tuple #[(.slice none 0 0),i]) b) (Uj (n:=1) (fun w j=>hU w.1 (Uq 29 a.2.1 a.1 j fun x y=>Ub .add a.2.1 (Uv 1) fun z=>f (x,z,()) y) (Ub .add a.2.1 (Uv 1) fun A=>f (a.1,A,()) j)) (fun k=>UA 0 c fun B=>Ul B b fun C=>Pu (z8 (some (.int .u16)) .neq C (.int .u16 0)) fun D=>hU D (UA 1 c fun E=>Ul E b fun F=>Pu (z8 (some (.int .u16)) .eql F (.int .u16 0)) fun G=>k (G,()) b) (k (U0,()) b)))) (R (.tuple #[a.1,(Uv 0)]) g)))
end
variable{v0 v1 v2 v3 v4 v5 v6 v7 v8:Value}{H:Hp}{R:Value->Hp->Prop}
theorem fn68(h:sh68 v0 H R):Fc TP 68 #[v0] H R:=
 mU UQ .nil Tryz.func68 h
theorem fn60(h:sh60 v0 H R):Fc TP 60 #[v0] H R:=
 mU UQ .nil Tryz.func60 h
theorem fn108(h:sh108 v0 v1 H R):Fc TP 108 #[v0,v1] H R:=
 mr UQ .nil Tryz.func108 h
theorem fn109(h:sh109 v0 v1 H R):Fc TP 109 #[v0,v1] H R:=
 mr UQ (.seq .nil (.seq .nil (.seq (.seq .nil (.loop [6] ([7,8]++Ur 11 9++[9,10]) .nil)) .nil))) Tryz.func109 h
theorem fn110(h:sh110 v0 v1 v2 H R):Fc TP 110 #[v0,v1,v2] H R:=
 xe UQ (.seq .nil (.seq .nil (.seq (.seq .nil (.loop [8] ([11,12]++Ur 15 9++[13,14]) .nil)) .nil))) Tryz.func110 h
theorem fn52(h:sh52 v0 v1 H R):Fc TP 52 #[v0,v1] H R:=
 mr UQ .nil Tryz.func52 h
theorem fn53(h:sh53 v0 v1 v2 H R):Fc TP 53 #[v0,v1,v2] H R:=
 xe UQ .nil Tryz.func53 h
theorem fn54(h:sh54 v0 v1 H R):Fc TP 54 #[v0,v1] H R:=
 mr UQ (.seq .nil (.seq .nil (.seq .nil (.seq .nil (.seq .nil (.seq .nil (.seq (.seq .nil (.loop [8] (Ur 23 6++[32,33,34,31,35,36,9,10,37,38,39,4,5]++Ur 40 11++[29,30]) .nil)) .nil))))))) Tryz.func54 h
theorem fn55(h:sh55 v0 H R):Fc TP 55 #[v0] H R:=
 mU UQ (.seq .nil (.seq .nil (.seq .nil (.seq .nil (.seq (.seq .nil (.loop [5,6] (Ur 14 6++[23,24,25,22,26,27,7,8,28,29,30,2,3]++Ur 31 5++[20,21]) .nil)) .nil))))) Tryz.func55 h
theorem fn56(h:sh56 v0 H R):Fc TP 56 #[v0] H R:=
 mU UQ (.seq .nil (.seq .nil (.seq .nil (.seq .nil (.seq (.seq .nil (.loop [5,6] (Ur 14 6++[23,24,25,22,26,27,7,8,28,29,30,2,3]++Ur 31 12++[20,21]) (.seq .nil (.seq (.seq .nil (.seq .nil (.join [38] (Ur 31 7) .nil .nil))) .nil)))) .nil))))) Tryz.func56 h
section
variable(v0 v1 v2 v3 v4 v5 v6 v7 v8:Value)(H:Hp)(R:Value->Hp->Prop)
def sh69:Prop:=Uf 36 #[v0] H fun b a=>Ub .neq b (Uv 0) fun c=>hU c (R (Uv 0) a) (UI v0 fun d=>UA 17 d fun e=>Ul e a fun f=>R f a)
def sh71:Prop:=Uf 36 #[v0] H fun b a=>Ub .neq b (Uv 0) fun c=>hU c (R (Uv 0) a) (UI v0 fun d=>UA 18 d fun e=>Ul e a fun f=>R f a)
def sh24:Prop:=Uf 67 #[v0] H fun b a=>Ub .neq b (Uv 0) fun c=>hU c (R (Uv 0) a) (UI v0 fun d=>UA 12 d fun e=>Ul e a fun f=>Ug 126 f fun g=>R g a)
def sh70:Prop:=Uf 67 #[v0] H fun b a=>Ub .neq b (Uv 0) fun c=>hU c (R (Uv 0) a) (UI v0 fun d=>UA 16 d fun e=>Ul e a fun f=>R f a)
def sh72:Prop:=Uf 67 #[v0] H fun b a=>Ub .neq b (Uv 0) fun c=>hU c (R (Uv 0) a) (UI v0 fun d=>UA 17 d fun e=>Ul e a fun f=>R f a)
def sh25:Prop:=Pu (ya TP 39 true .eql v0 (.pointer none) H) fun a=>hU a (R (Uv 0) H) (UI v0 fun b=>UA 7 b fun c=>Ul c H fun d=>R d H)
def sh111:Prop:=Ub .mul (Uv (-1000)) v0 fun a=>Ub .sub a v1 fun b=>Ub .sub b (Uv 7) fun c=>R c H
end
variable{v0 v1 v2 v3 v4 v5 v6 v7 v8:Value}{H:Hp}{R:Value->Hp->Prop}
theorem fn69(h:sh69 v0 H R):Fc TP 69 #[v0] H R:=
 mU UQ .nil Tryz.func69 h
theorem fn71(h:sh71 v0 H R):Fc TP 71 #[v0] H R:=
 mU UQ .nil Tryz.func71 h
theorem fn24(h:sh24 v0 H R):Fc TP 24 #[v0] H R:=
 mU UQ .nil Tryz.func24 h
theorem fn70(h:sh70 v0 H R):Fc TP 70 #[v0] H R:=
 mU UQ .nil Tryz.func70 h
theorem fn72(h:sh72 v0 H R):Fc TP 72 #[v0] H R:=
 mU UQ .nil Tryz.func72 h
theorem fn25(h:sh25 v0 H R):Fc TP 25 #[v0] H R:=
 mU UQ .nil Tryz.func25 h
theorem fn111(h:sh111 v0 v1 H R):Fc TP 111 #[v0,v1] H R:=
 mr UQ .nil Tryz.func111 h
section
variable(v0 v1 v2 v3 v4 v5 v6 v7 v8:Value)(H:Hp)(R:Value->Hp->Prop)
def sh26:Prop:=Uj (n:=1) (fun D f=>hU D.1 (R U0 f) (Uo (n:=1) ((Uv 0),()) f (fun g a h=>UI v0 fun E=>UA 2 E fun F=>Ul F h fun G=>Uf 73 #[G] h fun I b=>Ub .lss a.1 I fun J=>hU J (Uj (n:=1) (fun K e=>hU K.1 (Ub .add a.1 (Uv 1) fun L=>g (L,()) e) (UI v0 fun M=>UA 1 M fun N=>Ul N e fun O=>Uf 18 #[O,a.1] e fun i P=>Ux i 0 fun Q=>Ux i 1 fun T=>Uz 65 P fun j V=>Us 1024 j Q V fun k=>UI v0 fun W=>UA 3 W fun X=>Ul X k fun Y=>Uf 35 #[Y,a.1] k fun l Z=>Ux l 0 fun aa=>Ux l 1 fun ab=>Uz 65 Z fun m ac=>Us 1024 m aa ac fun d=>Uj (n:=1) (fun ad o=>hU ad.1 (R U0 o) (Ub .add a.1 (Uv 1) fun ae=>g (ae,()) o)) (fun p=>UL 1024 j d fun af=>UL 1024 m d fun ag=>Pu (ya TP 65 false .neq af ag d) fun ah=>hU ah (p (U1,()) d) (Ub .neq T ab fun ai=>p (ai,()) d)))) (fun q=>UI v0 fun aj=>UA 3 aj fun ak=>Ul ak b fun al=>UI al fun am=>UA 1 am fun an=>UA 3 an fun ao=>Ul ao b fun ap=>Ub .geq a.1 ap fun aq=>hU aq (UI v0 fun ar=>UA 3 ar fun au=>Ul au b fun av=>UI av fun aw=>UA 1 aw fun ax=>UA 4 ax fun ay=>Ul ay b fun az=>Ub .lss a.1 az fun aA=>q (aA,()) b) (q (U0,()) b))) (R U1 b)))) (fun c=>UI v0 fun aB=>UA 1 aB fun aC=>Ul aC H fun aD=>∃ r,QC true TP 36 #[aD] H r/\( UI v0 fun aE=>UA 3 aE fun aF=>Ul aF H fun aG=>∃ s,QC true TP 67 #[aG] H s/\( Ub .neq r s fun aI=>hU aI (Uw H fun aJ=>c (U1,()) aJ) (UI v0 fun aK=>UA 1 aK fun aL=>Ul aL H fun aM=>∃ t,QC true TP 23 #[aM] H t/\( UI v0 fun aN=>UA 3 aN fun aO=>Ul aO H fun aP=>∃ u,QC true TP 24 #[aP] H u/\( Ub .neq t u fun aQ=>hU aQ (Uw H fun aS=>c (U1,()) aS) (UI v0 fun aT=>UA 1 aT fun aV=>Ul aV H fun aW=>∃ v,QC true TP 38 #[aW] H v/\( UI v0 fun aX=>UA 3 aX fun aY=>Ul aY H fun aZ=>∃ w,QC true TP 68 #[aZ] H w/\( Pu (z8 (some .bool) .neq v w) fun a0=>hU a0 (Uw H fun a1=>c (U1,()) a1) (UI v0 fun a2=>UA 1 a2 fun a3=>Ul a3 H fun a4=>∃ x,QC true TP 69 #[a4] H x/\( UI v0 fun a5=>UA 3 a5 fun a6=>Ul a6 H fun a7=>∃ y,QC true TP 70 #[a7] H y/\( Ub .neq x y fun a8=>hU a8 (Uw H fun a9=>c (U1,()) a9) (UI v0 fun ba=>UA 1 ba fun bb=>Ul bb H fun bc=>∃ z,QC true TP 71 #[bc] H z/\( UI v0 fun bd=>UA 3 bd fun be=>Ul be H fun bf=>∃ A,QC true TP 72 #[bf] H A/\( Ub .neq z A fun bg=>hU bg (Uw H fun bh=>c (U1,()) bh) (UI v0 fun bi=>UA 0 bi fun bj=>Ul bj H fun bk=>∃ B,QC true TP 21 #[bk] H B/\( UI v0 fun bl=>UA 2 bl fun bm=>Ul bm H fun bn=>∃ C,QC true TP 25 #[bn] H C/\( Ub .neq B C fun bo=>Uw H fun bp=>c (bo,()) bp))))))))))))))))))
end
variable{v0 v1 v2 v3 v4 v5 v6 v7 v8:Value}{H:Hp}{R:Value->Hp->Prop}
theorem fn26(h:sh26 v0 H R):Fc TP 26 #[v0] H R:=
 mU (fun f=>([21,23,24,25,36,38]++Ur 67 7).contains f) (.seq .nil (.seq (.join [83] (Ur 8 75) .nil .nil) (.seq (.seq .nil (.loop [3] (Ur 84 7++Ur 93 22++Ur 116 6++[115,122,123,4,5]++Ur 125 6++[124,131,132,6,7]++Ur 133 8++[2,91,92]) (.seq .nil (.seq (.seq (.join [114] (Ur 93 21) .nil .nil) (.seq .nil (.seq .nil (.join [140] (Ur 133 7) .nil .nil)))) .nil)))) .nil))) Tryz.func26 h
section
variable(v0 v1 v2 v3 v4 v5 v6 v7 v8:Value)(H:Hp)(R:Value->Hp->Prop)
def sh61:Prop:=kT 65 v0 H fun c k=>kT 76 v1 k fun d l=>Uz 65 l fun e m=>Uo (n:=1) ((Uv 0),()) m (fun f b a=>Ub .lss b.1 (Uv 40) fun o=>hU o (UA 18 d fun p=>Ul p a fun q=>Ub .add q b.1 fun g=>UA 19 d fun h=>And (Uw a fun r=>Uf 10 #[g,(Uv 1024)] r fun s i=>Ul h i fun t=>Uk 1024 1 c s fun u=>Uw i fun v=>Us 1 u t v fun w=>Uw w fun x=>Ub .add b.1 (Uv 1) fun y=>f (y,()) x) (And (Ul h a fun z=>Uw a fun A=>Uf 10 #[g,(Uv 1024)] A fun B C=>Uk 1024 1 c B fun D=>Uw C fun E=>Us 1 D z E fun F=>Uw F fun G=>Ub .add b.1 (Uv 1) fun I=>f (I,()) G) (True))) (UL 1024 c a fun J=>Us 1024 e J a fun j=>UL 1024 e j fun K=>R K j))
def sh22:Prop:=kT 76 v1 H fun e a=>UA 0 e fun bd=>Ul bd a fun f=>Ub .eql f (Uv 0) fun be=>hU be (UI v0 fun bf=>UA 1 bf fun bg=>Ul bg a fun m=>UA 1 e fun bh=>Ul bh a fun o=>UI v0 fun bi=>UA 3 bi fun w=>UA 1 e fun x=>And (Ul w a fun M=>And (Uw a fun bj=>Uf 11 #[m,o] bj fun bk N=>Ul x N fun bl=>Uw N fun bm=>Uf 50 #[M,bl] bm fun bn bo=>Ub .eql bk bn fun bp=>Uw bo fun bq=>R bp bq) (And (Ul x a fun br=>Uw a fun bs=>Uf 11 #[m,o] bs fun bt bu=>Uw bu fun bv=>Uf 50 #[M,br] bv fun bw bx=>Ub .eql bt bw fun bz=>Uw bx fun bA=>R bz bA) (True))) (And (Uw a fun bB=>Uf 11 #[m,o] bB fun bC B=>Ul w B fun bD=>Ul x B fun bE=>Uw B fun bF=>Uf 50 #[bD,bE] bF fun bG bI=>Ub .eql bC bG fun bJ=>Uw bI fun bK=>R bJ bK) (And (Ul x a fun O=>And (Ul w a fun bL=>Uw a fun bM=>Uf 11 #[m,o] bM fun bN bO=>Uw bO fun bP=>Uf 50 #[bL,O] bP fun bQ bS=>Ub .eql bN bQ fun bT=>Uw bS fun bV=>R bT bV) (And (Uw a fun bW=>Uf 11 #[m,o] bW fun bX P=>Ul w P fun bY=>Uw P fun bZ=>Uf 50 #[bY,O] bZ fun b0 b1=>Ub .eql bX b0 fun b2=>Uw b1 fun b3=>R b2 b3) (True))) (True)))) (Ub .eql f (Uv 1) fun b4=>hU b4 (UI v0 fun b5=>UA 1 b5 fun b6=>Ul b6 a fun Q=>UI v0 fun b7=>UA 3 b7 fun T=>And (Uw a fun b8=>Uf 13 #[Q] b8 fun b9 V=>Ul T V fun ca=>Uw V fun cb=>Uf 51 #[ca] cb fun cc cd=>Ub .eql b9 cc fun ce=>Uw cd fun cf=>R ce cf) (And (Ul T a fun cg=>Uw a fun ch=>Uf 13 #[Q] ch fun ci cj=>Uw cj fun ck=>Uf 51 #[cg] ck fun cl cm=>Ub .eql ci cl fun cn=>Uw cm fun co=>R cn co) (True))) (Ub .eql f (Uv 2) fun cp=>hU cp (Uj (n:=2) (fun W y=>Uj (n:=2) (fun X p=>UL 16 W.1 p fun cq=>UL 16 X.1 p fun cr=>Pu (ya TP 54 false .eql cq cr p) fun cs=>hU cs (Ub .eql W.2.1 X.2.1 fun ct=>R ct p) (R U0 p)) (fun Y=>UI v0 fun cu=>UA 3 cu fun cv=>Ul cv y fun Z=>UA 1 e fun cw=>Ul cw y fun aa=>And (Uw y fun cx=>Uf 52 #[Z,aa] cx fun ab cy=>Ux ab 0 fun cz=>Ux ab 1 fun cA=>Uw cy fun cB=>Uz 54 cB fun ac cC=>Uw cC fun cD=>Us 16 ac cz cD fun cE=>Uw cE fun cF=>Y (ac,cA,()) cF) (And (Uw y fun cG=>Uz 54 cG fun ad cI=>Uw cI fun cJ=>Uf 52 #[Z,aa] cJ fun ae cK=>Ux ae 0 fun cL=>Ux ae 1 fun cM=>Uw cK fun cN=>Us 16 ad cL cN fun cO=>Uw cO fun cP=>Y (ad,cM,()) cP) (True)))) (fun af=>UI v0 fun cQ=>UA 1 cQ fun cS=>Ul cS a fun ag=>UA 1 e fun cT=>Ul cT a fun ah=>And (Uw a fun cV=>Uf 34 #[ag,ah] cV fun ai cW=>Ux ai 0 fun cX=>Ux ai 1 fun cY=>Uw cW fun cZ=>Uz 54 cZ fun aj c0=>Uw c0 fun c1=>Us 16 aj cX c1 fun c2=>Uw c2 fun c3=>af (aj,cY,()) c3) (And (Uw a fun c4=>Uz 54 c4 fun ak c5=>Uw c5 fun c6=>Uf 34 #[ag,ah] c6 fun al c7=>Ux al 0 fun c8=>Ux al 1 fun c9=>Uw c7 fun da=>Us 16 ak c8 da fun db=>Uw db fun dc=>af (ak,c9,()) dc) (True)))) (Ub .eql f (Uv 3) fun dd=>hU dd (UI v0 fun de=>UA 1 de fun df=>Ul df a fun b=>UA 1 e fun dg=>Ul dg a fun c=>UA 2 e fun dh=>UL 16 dh a fun d=>UI v0 fun di=>UA 3 di fun i=>UA 1 e fun j=>UA 2 e fun k=>And (Ul i a fun q=>And (Ul j a fun am=>And (Uw a fun dj=>Uf 12 #[b,c,d] dj fun dk an=>UL 16 k an fun dl=>Uw an fun dm=>Uf 53 #[q,am,dl] dm fun dn dp=>Ub .eql dk dn fun dq=>Uw dp fun dr=>R dq dr) (And (UL 16 k a fun ds=>Uw a fun dt=>Uf 12 #[b,c,d] dt fun du dv=>Uw dv fun dw=>Uf 53 #[q,am,ds] dw fun dx dy=>Ub .eql du dx fun dz=>Uw dy fun dA=>R dz dA) (True))) (And (Uw a fun dB=>Uf 12 #[b,c,d] dB fun dC C=>Ul j C fun dD=>UL 16 k C fun dE=>Uw C fun dF=>Uf 53 #[q,dD,dE] dF fun dG dI=>Ub .eql dC dG fun dJ=>Uw dI fun dK=>R dJ dK) (And (UL 16 k a fun ao=>And (Ul j a fun dL=>Uw a fun dM=>Uf 12 #[b,c,d] dM fun dN dO=>Uw dO fun dP=>Uf 53 #[q,dL,ao] dP fun dQ dS=>Ub .eql dN dQ fun dT=>Uw dS fun dV=>R dT dV) (And (Uw a fun dW=>Uf 12 #[b,c,d] dW fun dX ap=>Ul j ap fun dY=>Uw ap fun dZ=>Uf 53 #[q,dY,ao] dZ fun d0 d1=>Ub .eql dX d0 fun d2=>Uw d1 fun d3=>R d2 d3) (True))) (True)))) (And (Ul j a fun r=>And (Ul i a fun aq=>And (Uw a fun d4=>Uf 12 #[b,c,d] d4 fun d5 ar=>UL 16 k ar fun d6=>Uw ar fun d7=>Uf 53 #[aq,r,d6] d7 fun d8 d9=>Ub .eql d5 d8 fun ea=>Uw d9 fun eb=>R ea eb) (And (UL 16 k a fun ec=>Uw a fun ed=>Uf 12 #[b,c,d] ed fun ee ef=>Uw ef fun eg=>Uf 53 #[aq,r,ec] eg fun eh ei=>Ub .eql ee eh fun ej=>Uw ei fun ek=>R ej ek) (True))) (And (Uw a fun el=>Uf 12 #[b,c,d] el fun em D=>Ul i D fun en=>UL 16 k D fun eo=>Uw D fun ep=>Uf 53 #[en,r,eo] ep fun eq er=>Ub .eql em eq fun es=>Uw er fun et=>R es et) (And (UL 16 k a fun au=>And (Ul i a fun eu=>Uw a fun ev=>Uf 12 #[b,c,d] ev fun ew ex=>Uw ex fun ey=>Uf 53 #[eu,r,au] ey fun ez eA=>Ub .eql ew ez fun eB=>Uw eA fun eC=>R eB eC) (And (Uw a fun eD=>Uf 12 #[b,c,d] eD fun eE av=>Ul i av fun eF=>Uw av fun eG=>Uf 53 #[eF,r,au] eG fun eI eJ=>Ub .eql eE eI fun eK=>Uw eJ fun eL=>R eK eL) (True))) (True)))) (And (Uw a fun eM=>Uf 12 #[b,c,d] eM fun eN z=>Ul i z fun eO=>Ul j z fun eP=>UL 16 k z fun eQ=>Uw z fun eS=>Uf 53 #[eO,eP,eQ] eS fun eT eV=>Ub .eql eN eT fun eW=>Uw eV fun eX=>R eW eX) (And (UL 16 k a fun s=>And (Ul i a fun aw=>And (Ul j a fun eY=>Uw a fun eZ=>Uf 12 #[b,c,d] eZ fun e0 e1=>Uw e1 fun e2=>Uf 53 #[aw,eY,s] e2 fun e3 e4=>Ub .eql e0 e3 fun e5=>Uw e4 fun e6=>R e5 e6) (And (Uw a fun e7=>Uf 12 #[b,c,d] e7 fun e8 ax=>Ul j ax fun e9=>Uw ax fun fa=>Uf 53 #[aw,e9,s] fa fun fb fc=>Ub .eql e8 fb fun fd=>Uw fc fun fe=>R fd fe) (True))) (And (Ul j a fun ay=>And (Ul i a fun ff=>Uw a fun fg=>Uf 12 #[b,c,d] fg fun fh fi=>Uw fi fun fj=>Uf 53 #[ff,ay,s] fj fun fk fl=>Ub .eql fh fk fun fm=>Uw fl fun fn=>R fm fn) (And (Uw a fun fo=>Uf 12 #[b,c,d] fo fun fp az=>Ul i az fun fq=>Uw az fun fr=>Uf 53 #[fq,ay,s] fr fun fs ft=>Ub .eql fp fs fun fu=>Uw ft fun fv=>R fu fv) (True))) (And (Uw a fun fw=>Uf 12 #[b,c,d] fw fun fx E=>Ul i E fun fy=>Ul j E fun fz=>Uw E fun fA=>Uf 53 #[fy,fz,s] fA fun fB fC=>Ub .eql fx fB fun fD=>Uw fC fun fE=>R fD fE) (True)))) (True))))) (Ub .eql f (Uv 4) fun fF=>hU fF (UI v0 fun fG=>UA 1 fG fun fI=>Ul fI a fun fJ=>UA 2 e fun fK=>UL 16 fK a fun fL=>Uf 20 #[fJ,fL] a fun aA F=>Ux aA 0 fun fM=>Ux aA 1 fun fN=>UI v0 fun fO=>UA 3 fO fun fP=>Ul fP F fun fQ=>UA 2 e fun fS=>UL 16 fS F fun fT=>Uf 54 #[fQ,fT] F fun aB aC=>Ux aB 0 fun fV=>Ux aB 1 fun fW=>Ub .eql fM fV fun fX=>hU fX (Ub .eql fN fW fun fY=>R fY aC) (R U0 aC)) (Ub .eql f (Uv 5) fun fZ=>hU fZ (UI v0 fun f0=>UA 1 f0 fun f1=>Ul f1 a fun f2=>Uf 14 #[f2] a fun aD aE=>Ux aD 0 fun f3=>Ux aD 1 fun f4=>UI v0 fun f5=>UA 3 f5 fun f6=>Ul f6 aE fun f7=>Uf 55 #[f7] aE fun aF aG=>Ux aF 0 fun f8=>Ux aF 1 fun f9=>Ub .eql f3 f8 fun ga=>hU ga (Ub .eql f4 f9 fun gb=>R gb aG) (R U0 aG)) (Ub .eql f (Uv 6) fun gc=>hU gc (UI v0 fun gd=>UA 1 gd fun ge=>Ul ge a fun gf=>Uf 15 #[gf] a fun aI aJ=>Ux aI 0 fun aK=>Ux aI 1 fun gg=>UI v0 fun gh=>UA 1 gh fun gi=>Ul gi aJ fun gj=>Uf 15 #[gj] aJ fun aL aM=>Ux aL 0 fun aN=>Ux aL 1 fun gk=>UI v0 fun gl=>UA 3 gl fun gm=>Ul gm aM fun gn=>Uf 56 #[gn] aM fun aO G=>Ux aO 0 fun aP=>Ux aO 1 fun aQ=>Ub .eql gg aQ fun go=>hU go (Ub .eql gk aQ fun gp=>hU gp (Uf 19 #[aK,aP] G fun gq aS=>hU gq (Uf 19 #[aN,aP] aS fun gr aT=>hU gr (Pu (zQ TP 122) fun aV=>Pu (zT (some aV) 2 [(0,aK),(1,aN)]) fun gs=>nK aV.type 2 gs aT fun gt gu=>Uf 57 #[gt] gu fun gv gw=>R gv gw) (R U0 aT)) (R U0 aS)) (R U0 G)) (R U0 G)) (Ub .eql f (Uv 7) fun gx=>hU gx (UI v0 fun gy=>UA 1 gy fun gz=>Ul gz a fun aW=>UI v0 fun gA=>UA 3 gA fun aX=>And (Uw a fun gB=>Uf 58 #[aW] gB fun gC aY=>Ul aX aY fun gD=>Uw aY fun gE=>Uf 59 #[gD] gE fun gF gG=>Ub .eql gC gF fun gI=>Uw gG fun gJ=>R gI gJ) (And (Ul aX a fun gK=>Uw a fun gL=>Uf 58 #[aW] gL fun gM gN=>Uw gN fun gO=>Uf 59 #[gK] gO fun gP gQ=>Ub .eql gM gP fun gS=>Uw gQ fun gT=>R gS gT) (True))) (Ub .eql f (Uv 8) fun gV=>hU gV (UI v0 fun gW=>UA 3 gW fun gX=>Ul gX a fun gY=>Uf 60 #[gY] a fun gZ g0=>Uz 62 g0 fun I g1=>Us 9 I gZ g1 fun t=>Uj (n:=1) (fun g aZ=>UI v0 fun g2=>UA 3 g2 fun g3=>Ul g3 aZ fun g4=>Uf 35 #[g4,g.1] aZ fun a0 g5=>Ux a0 0 fun g6=>Ux a0 1 fun iN=>Uz 65 g5 fun l g7=>Us 1024 l g6 g7 fun J=>UL 1024 l J fun g8=>UL 20 e J fun g9=>Uf 61 #[g8,g9] J fun ha hb=>Us 1024 l ha hb fun h=>UI v0 fun hc=>UA 1 hc fun hd=>Ul hd h fun u=>UL 1024 l h fun v=>UI v0 fun he=>UA 3 he fun A=>And (Uw h fun hf=>Uf 41 #[u,g.1,v] hf fun hg K=>Ul A K fun hh=>UL 1024 l K fun hi=>Uw K fun hj=>Uf 62 #[hh,g.1,hi] hj fun hk hl=>Ub .eql hg hk fun hm=>Uw hl fun hn=>R hm hn) (And (Ul A h fun a1=>And (Uw h fun ho=>Uf 41 #[u,g.1,v] ho fun hp a2=>UL 1024 l a2 fun hq=>Uw a2 fun hr=>Uf 62 #[a1,g.1,hq] hr fun hs ht=>Ub .eql hp hs fun hu=>Uw ht fun hv=>R hu hv) (And (UL 1024 l h fun hw=>Uw h fun hx=>Uf 41 #[u,g.1,v] hx fun hy hz=>Uw hz fun hA=>Uf 62 #[a1,g.1,hw] hA fun hB hC=>Ub .eql hy hB fun hD=>Uw hC fun hE=>R hD hE) (True))) (And (UL 1024 l h fun a3=>And (Uw h fun hF=>Uf 41 #[u,g.1,v] hF fun hG a4=>Ul A a4 fun hI=>Uw a4 fun hJ=>Uf 62 #[hI,g.1,a3] hJ fun hK hL=>Ub .eql hG hK fun hM=>Uw hL fun hN=>R hM hN) (And (Ul A h fun hO=>Uw h fun hP=>Uf 41 #[u,g.1,v] hP fun hQ hS=>Uw hS fun hT=>Uf 62 #[hO,g.1,a3] hT fun hV hW=>Ub .eql hQ hV fun hX=>Uw hW fun hY=>R hX hY) (True))) (True)))) (fun a5=>UA 4 I fun a6=>UA 1 e fun hZ=>Ul hZ t fun a7=>UA 5 I fun h0=>Ul h0 t fun h1=>Pu (xB (Uv 1) h1) fun a8=>And (Ul a6 t fun h2=>Uw t fun h3=>Uf 10 #[a7,a8] h3 fun h4 h5=>Ub .add h2 h4 fun h6=>Uw h5 fun h7=>a5 (h6,()) h7) (And (Uw t fun h8=>Uf 10 #[a7,a8] h8 fun h9 a9=>Ul a6 a9 fun ia=>Ub .add ia h9 fun ib=>Uw a9 fun ic=>a5 (ib,()) ic) (True)))) (Ub .eql f (Uv 9) fun id=>hU id (UI v0 fun ie=>UA 0 ie fun ig=>Ul ig a fun ih=>UA 1 e fun ii=>Ul ii a fun ij=>Uf 63 #[ih,ij] a fun iO L=>UI v0 fun ik=>UA 2 ik fun il=>Ul il L fun im=>UA 1 e fun io=>Ul io L fun ip=>Uf 64 #[im,ip] L fun iP iq=>R U1 iq) (Ub .eql f (Uv 10) fun ir=>hU ir (UI v0 fun is=>UA 0 is fun it=>Ul it a fun ba=>UI v0 fun iu=>UA 2 iu fun bb=>And (Uw a fun iv=>Uf 65 #[ba,(.slice none 0 0)] iv fun iw bc=>Ul bb bc fun ix=>Uw bc fun iy=>Uf 66 #[ix,(.slice none 0 0)] iy fun iz iA=>Ub .eql iw iz fun iB=>Uw iA fun iC=>R iB iC) (And (Ul bb a fun iD=>Uw a fun iE=>Uf 65 #[ba,(.slice none 0 0)] iE fun iF iG=>Uw iG fun iI=>Uf 66 #[iD,(.slice none 0 0)] iI fun iJ iK=>Ub .eql iF iJ fun iL=>Uw iK fun iM=>R iL iM) (True))) (R U1 a)))))))))))
def sh5:Prop:=kT 28 v0 H fun s h=>UL 7 s h fun t=>Uf 6 #[t] h fun c i=>Ux c 0 fun b=>Ux c 1 fun u=>Ux c 2 fun v=>Uj (n:=1) (fun w d=>hU w.1 (R U1 d) (Uj (n:=1) (fun x j=>hU x.1 (R U0 j) (Uo (n:=1) ((Uv 0),()) j (fun y e f=>Ug 73 v1 fun z=>Ub .lss e.1 z fun A=>hU A (Ui 20 v1 e.1 fun B=>UL 20 B f fun C=>Uf 22 #[b,C] f fun D a=>Uj (n:=1) (fun E k=>hU E.1 (R U0 k) (Ub .add e.1 (Uv 1) fun F=>y (F,()) k)) (fun g=>Uu D fun G=>hU G (Uw a fun I=>g (U1,()) I) (UI b fun J=>UA 1 J fun K=>Ul K a fun L=>∃ l,QC true TP 23 #[L] a l/\( UI b fun M=>UA 3 M fun N=>Ul N a fun O=>∃ m,QC true TP 24 #[O] a m/\( Ub .neq l m fun P=>hU P (Uw a fun Q=>g (U1,()) Q) (UI b fun T=>UA 0 T fun V=>Ul V a fun W=>∃ o,QC true TP 21 #[W] a o/\( UI b fun X=>UA 2 X fun Y=>Ul Y a fun Z=>∃ p,QC true TP 25 #[Z] a p/\( Ub .neq o p fun aa=>Uw a fun ab=>g (aa,()) ab)))))))) (Uf 26 #[b] f fun ac ad=>R ac ad)))) (fun q=>Uu v fun ae=>hU ae (q (U1,()) d) (Uf 7 #[b] d fun af ag=>Uu af fun ah=>q (ah,()) ag)))) (fun r=>Uu u fun ai=>hU ai (r (U1,()) i) (Ug 73 v1 fun aj=>Ub .gtr aj (Uv 120) fun ak=>r (ak,()) i))
end
variable{v0 v1 v2 v3 v4 v5 v6 v7 v8:Value}{H:Hp}{R:Value->Hp->Prop}
theorem fn61(h:sh61 v0 v1 H R):Fc TP 61 #[v0,v1] H R:=
 ZM (fun f=>([21,23,24,25,36,38]++Ur 67 7).contains f) [(4,(.fork [0,1,2,3,5] (.cons 4 (.line [6,7,8]) (.cons 6 (.line [4,7,8]) .nil))))] (.seq .nil (.seq (.seq .nil (.loop [5] ([6,7]++Ur 10 8++[8,9]) .nil)) .nil)) Tryz.func61 (args:=[v0,v1]) (UE (by kernel_rfl) h)
theorem fn22(h:sh22 v0 v1 H R):Fc TP 22 #[v0,v1] H R:=
 ZM (fun f=>([21,23,24,25,36,38]++Ur 67 7).contains f) [(3,(.fork (Ur 0 6++[7,8,9,11]) (.cons 10 (.fork [] (.cons 6 (.line (Ur 12 4)) (.cons 12 (.line [6,13,14,15]) .nil))) (.cons 6 (.line ([10]++Ur 12 4)) (.cons 12 (.fork [] (.cons 10 (.line [6,13,14,15]) (.cons 6 (.line [10,13,14,15]) .nil))) .nil))))),(5,(.fork [0,1,2,3,5,6,7] (.cons 4 (.line (Ur 8 4)) (.cons 8 (.line [4,9,10,11]) .nil)))),(7,(.fork (Ur 0 6) (.cons 6 (.line (Ur 7 6)) (.cons 10 (.line [6,7,8,9,11,12]) .nil)))),(8,(.fork (Ur 0 6) (.cons 6 (.line (Ur 7 6)) (.cons 10 (.line [6,7,8,9,11,12]) .nil)))),(11,(.fork (Ur 0 8++[9,10,11,13,15]) (.cons 12 (.fork [] (.cons 14 (.fork [] (.cons 8 (.line (Ur 16 4)) (.cons 16 (.line [8,17,18,19]) .nil))) (.cons 8 (.line ([14]++Ur 16 4)) (.cons 16 (.fork [] (.cons 14 (.line [8,17,18,19]) (.cons 8 (.line [14,17,18,19]) .nil))) .nil)))) (.cons 14 (.fork [] (.cons 12 (.fork [] (.cons 8 (.line (Ur 16 4)) (.cons 16 (.line [8,17,18,19]) .nil))) (.cons 8 (.line ([12]++Ur 16 4)) (.cons 16 (.fork [] (.cons 12 (.line [8,17,18,19]) (.cons 8 (.line [12,17,18,19]) .nil))) .nil)))) (.cons 8 (.line ([12,14]++Ur 16 4)) (.cons 16 (.fork [] (.cons 12 (.fork [] (.cons 14 (.line [8,17,18,19]) (.cons 8 (.line [14,17,18,19]) .nil))) (.cons 14 (.fork [] (.cons 12 (.line [8,17,18,19]) (.cons 8 (.line [12,17,18,19]) .nil))) (.cons 8 (.line [12,14,17,18,19]) .nil)))) .nil)))))),(26,(.fork [0,1,2,3,5,6,7] (.cons 4 (.line (Ur 8 4)) (.cons 8 (.line [4,9,10,11]) .nil)))),(29,(.fork [0,2,3,4,5,6] (.cons 1 (.line [7,8,9]) (.cons 7 (.line [1,8,9]) .nil)))),(32,(.fork (Ur 0 6++[7,8,9,11]) (.cons 6 (.line ([10]++Ur 12 4)) (.cons 10 (.fork [] (.cons 6 (.line (Ur 12 4)) (.cons 12 (.line [6,13,14,15]) .nil))) (.cons 12 (.fork [] (.cons 6 (.line [10,13,14,15]) (.cons 10 (.line [6,13,14,15]) .nil))) .nil))))),(37,(.fork [0,1,2,3,5,6,7] (.cons 4 (.line (Ur 8 4)) (.cons 8 (.line [4,9,10,11]) .nil))))] (.seq .nil (.seq (.seq .nil (.seq .nil (.cond .nil (.seq .nil (.cond .nil (.seq .nil (.cond (.join [5,6] (Ur 62 7++[61,69,70]) .nil (.join [7,8] (Ur 72 7++[71,79,80]) .nil .nil)) (.seq .nil (.cond .nil (.seq .nil (.cond .nil (.seq .nil (.cond .nil (.seq .nil (.cond .nil (.seq .nil (.cond .nil (.seq .nil (.cond (.seq .nil (.join [24] (Ur 236 9) .nil .nil)) .nil))))))))))))))))))) .nil)) Tryz.func22 (args:=[v0,v1]) (UE (by kernel_rfl) h)
theorem fn5(h:sh5 v0 v1 H R):Fc TP 5 #[v0,v1] H R:=
 mr (fun f=>([21,23,24,25,36,38]++Ur 67 7).contains f) (.seq .nil (.seq .nil (.seq (.join [22] (Ur 16 6) .nil .nil) (.seq (.join [29] (Ur 23 6) .nil .nil) (.seq (.seq .nil (.loop [8] (Ur 30 4++Ur 36 6++[9]++Ur 42 28++[4,34,35]) (.seq .nil (.seq (.seq .nil (.join [69] (Ur 42 27) .nil .nil)) .nil)))) .nil))))) Tryz.func5 h
section
variable(v0 v1 v2 v3 v4 v5 v6 v7 v8:Value)(H:Hp)(R:Value->Hp->Prop)
def sh57:Prop:=Uo (n:=1) ((Uv 0),()) H (fun r e l=>Ug 122 v0 fun s=>Ub .lss e.1 s fun t=>hU t (Uo (n:=1) ((Uv 0),()) l (fun u h f=>Ui 1 v0 e.1 fun v=>Ul v f fun w=>Ug 29 w fun x=>Ub .lss h.1 x fun y=>hU y (Ui 1 v0 e.1 fun z=>Ul z f fun A=>Ub .add e.1 (Uv 10) fun B=>∃ m,QC true TP 111 #[B,h.1] f m/\( Ui 1 A h.1 fun C=>Uw f fun D=>Us 1 C m D fun E=>Uw E fun F=>Ub .add h.1 (Uv 1) fun G=>u (G,()) F)) (Ub .add e.1 (Uv 1) fun I=>r (I,()) f))) (Uo (n:=2) ((.slice none 0 0),(Uv 0),()) l (fun J b i=>Ug 122 v0 fun K=>Ub .lss b.2.1 K fun L=>hU L (Ui 1 v0 b.2.1 fun M=>Ul M i fun N=>Uo (n:=2) (N,(Uv 0),()) i (fun O g j=>Ub .lss g.2.1 (Uv 6) fun P=>hU P (Ub .add b.2.1 (Uv 10) fun Q=>Ui 1 v0 b.2.1 fun T=>Ul T j fun V=>Ug 29 V fun W=>Ub .add W g.2.1 fun X=>Uf 111 #[Q,X] j fun Y Z=>Uq 29 Y g.1 Z fun aa ab=>Ub .add g.2.1 (Uv 1) fun ac=>O (aa,ac,()) ab) (Uq 122 g.1 b.1 j fun ad ae=>Ub .add b.2.1 (Uv 1) fun af=>J (ad,af,()) ae))) (Uo (n:=1) ((Uv 0),()) i (fun ag c o=>Ug 122 v0 fun ah=>Ub .lss c.1 ah fun ai=>hU ai (Uo (n:=1) ((Uv 0),()) o (fun aj d a=>Ui 1 b.1 c.1 fun ak=>Ul ak a fun al=>Ug 29 al fun am=>Ub .lss d.1 am fun an=>hU an (Uj (n:=1) (fun ao p=>hU ao.1 (R U0 p) (Ub .add d.1 (Uv 1) fun ap=>aj (ap,()) p)) (fun k=>Ui 1 b.1 c.1 fun aq=>Ul aq a fun ar=>Ui 1 ar d.1 fun au=>Ul au a fun av=>Ub .add c.1 (Uv 10) fun aw=>∃ q,QC true TP 111 #[aw,d.1] a q/\( Ub .neq av q fun ax=>hU ax (Uw a fun ay=>k (U1,()) ay) (Ui 1 v0 c.1 fun az=>Ul az a fun aA=>Ug 29 aA fun aB=>Ub .lss d.1 aB fun aC=>hU aC (Ui 1 v0 c.1 fun aD=>Ul aD a fun aE=>Ui 1 aE d.1 fun aF=>Ul aF a fun aG=>Ui 1 b.1 c.1 fun aI=>Ul aI a fun aJ=>Ui 1 aJ d.1 fun aK=>Ul aK a fun aL=>Ub .neq aG aL fun aM=>Uw a fun aN=>k (aM,()) aN) (Uw a fun aO=>k (U0,()) aO))))) (Ub .add c.1 (Uv 1) fun aP=>ag (aP,()) a))) (R U1 o))))))
end
variable{v0 v1 v2 v3 v4 v5 v6 v7 v8:Value}{H:Hp}{R:Value->Hp->Prop}
theorem fn57(h:sh57 v0 H R):Fc TP 57 #[v0] H R:=
 mU (fun f=>[111].contains f) (.seq .nil (.seq (.seq .nil (.loop [3] (Ur 11 4++[4]++Ur 17 7++Ur 26 10++[24,25,15,16]) (.seq .nil (.seq (.seq .nil (.loop [4] (Ur 17 7++Ur 26 10++[24,25]) .nil)) .nil)))) (.seq .nil (.seq (.seq .nil (.loop [5,6] (Ur 36 4++Ur 42 4++[7,8,46,47]++Ur 50 13++[48,49]++Ur 63 4++[40,41]) (.seq .nil (.seq (.seq .nil (.seq (.seq .nil (.loop [7,8] ([46,47]++Ur 50 13++[48,49]) .nil)) .nil)) .nil)))) (.seq (.seq .nil (.loop [9] (Ur 67 4++[10]++Ur 73 7++Ur 82 38++[2,80,81,71,72]) (.seq .nil (.seq (.seq .nil (.loop [10] (Ur 73 7++Ur 82 38++[2,80,81]) (.seq .nil (.seq (.join [119] (Ur 82 37) .nil .nil) .nil)))) .nil)))) .nil))))) Tryz.func57 h
end Go.Proofs
namespace Go.Vc
open Go.Proofs
def Tm(H:Hp)(b i:Nat)(f:Int->Nat):Nat:=match zX (some none) (.pointer (some ⟨b,i,none⟩)) H with | some (.int _ x)=>f x | _=>0
theorem ug{H:Hp}{b i:Nat}{c:Array Value}{T:TypeId}{k:IntKind}{x:Int}{f:Int->Nat}(h:H[b]?=some (.cells c T))(hx:c[i]?=some (.int k x)):Tm H b i f=f x:=by
 unfold Tm;rw[zi h,hx]
section
variable{H:Hp}{R:Value->Hp->Prop}
theorem of3{B L I:Int}(hB : -9223372036854775808<=B/\B<=9223372036854775807)(k:∀ H',Ext H H'->Zy B L I->R (.tuple #[.agg (zf B L I).cells,.int .i64 0]) H')(k2:∀ H',Ext H H'->¬ Zy B L I->R (.tuple #[.agg vQ,.int .i64 2]) H') :
   Fc TP 29 #[.agg #[zg B,zg L,zg I]] H R:=by
 refine fn29 ?_
 simp only[sh29,Ul,UL,UA,Us,Ub,Uz,Uj,Uo,Uv,U1,yq,za,zm]
 refine(Lo.start _ H:Lx H H []).box fun b1 H1 _ l1=>?_
 refine l1.box fun b2 H2 _ l2=>?_
 have g1:=l2.at (i:=0) rfl
 simp only[zI]at g1
 have bad:∀ {H':Hp} {l':List Ob} {c:Array Value},Lx H H' (.box b1 c 23 :: .box b2 vQ 62 :: l')->¬ Zy B L I->Pu (zo TP 62 []) fun x6=>Pu (zY (some 9) (.pointer (some ⟨b2,0,none⟩)) x6 H') fun H4=>Pu (zX (some (some 9)) (.pointer (some ⟨b2,0,none⟩)) H4) fun x7=>R (.tuple #[x7,.int .i64 2]) H4:=fun l kG=>by
   simp only[tC,za]
   refine l.jE (i:=1) rfl rfl rfl (LF ..) fun H4 l4=>?_
   simp only[zV (n:=9) (l4.at (i:=1) rfl) rfl,za]
   exact k2 H4 l4.iZ kG
 refine Zg.mk (fun x H'=>H'=H2/\x.1=.bool (decide (¬ (32<=L/\L<=256/\1<=I/\I<=65535/\1<=B/\B<=1048576)))) ?_ ?_
 · rintro⟨x,u⟩ H3 ⟨rfl,hx⟩
   simp only at hx
   subst hx
   simp only[zb]
   refine⟨fun kG=>bad l2 fun h=>kG ⟨h.1,h.2.1,h.2.2.1,h.2.2.2.1,h.2.2.2.2.1,h.2.2.2.2.2.1⟩,fun pf=>?_⟩
   obtain⟨y1,y2,y3,y4,y5,y6⟩:=jh.1 pf
   simp only[zc,aR,za,zV g1 (show(#[zg B,zg L,zg I]:Array Value).size=3 from rfl),zi g1,fR,dU,gH,ze]
   rw[zd (x:=1+L) (by omega) (by omega),Fk,za]
   refine l2.box fun b5 H5 _ l5=>?_
   refine l5.jE (i:=2) rfl rfl rfl (LF ..) fun H6 l6=>?_
   refine zF.mk (fun _ H'=>∃ m:Int,0<=m/\16*(m - 1)<I+1/\Lx H H' [.box b1 #[zg B,zg L,zg I] 23,.box b2 vQ 62,.box b5 #[zg B,zg L,zg I,zg 1,zg (1+L),zg m,zg 0,zg 0,zg 0] 62])
     (fun _ H'=>Tm H' b5 5 fun m=>(I+1 - 16*m).toNat) ⟨0,by omega,by omega,l6⟩ ?_
   rintro _ H7 ⟨m,h0,hm,l7⟩
   have g7:=l7.at (i:=2) rfl
   have g17:=l7.at (i:=0) rfl
   simp only[zc,aR,za,zi g7,zi g17,fR,dU,gH,ze,zW]
   rw[zd (x:=16*m) (by omega) (by omega),zd (x:=I+1) (by omega) (by omega),zk,za,zb]
   refine⟨fun kc=>?_,fun lA=>?_⟩
   · rw[zd (x:=m+1) (by omega) (by omega)]
     refine l7.st (i:=2) (j:=5) (v:=zg (m+1)) rfl (by simp) rfl rfl fun H8 l8=>?_
     have g8:=l8.at (i:=2) rfl
     simp only[lr,na,mZ]at l8 g8
     refine⟨⟨m+1,by omega,by omega,l8⟩,?_⟩
     rw[ug g8 (x:=m+1) rfl,ug g7 (x:=m) rfl]
     omega
   · have em:m=(I+16) / 16:=by omega
     rw[zd (x:=1+L+m) (by omega) (by omega)]
     refine l7.st (i:=2) (j:=6) (v:=zg (1+L+m)) rfl (by simp) rfl rfl fun H9 l9=>?_
     simp only[lr,na,mZ]at l9
     refine zF.mk (fun _ H'=>∃ q:Int,0<=q/\8192*(q - 1)<B/\Lx H H' [.box b1 #[zg B,zg L,zg I] 23,.box b2 vQ 62,.box b5 #[zg B,zg L,zg I,zg 1,zg (1+L),zg m,zg (1+L+m),zg q,zg 0] 62])
       (fun _ H'=>Tm H' b5 7 fun q=>(B - 8192*q).toNat) ⟨0,by omega,by omega,l9⟩ ?_
     rintro _ mX ⟨q,q0,hq,mn⟩
     have SK:=mn.at (i:=2) rfl
     have adq:=mn.at (i:=0) rfl
     simp only[zc,aR,za,zi SK,zi adq,fR,dU,gH,ze,zW]
     rw[zd (x:=8192*q) (by omega) (by omega),zk,za,zb]
     refine⟨fun kc=>?_,fun lA=>?_⟩
     · rw[zd (x:=q+1) (by omega) (by omega)]
       refine mn.st (i:=2) (j:=7) (v:=zg (q+1)) rfl (by simp) rfl rfl fun mN lO=>?_
       have SJ:=lO.at (i:=2) rfl
       simp only[lr,na,mZ]at lO SJ
       refine⟨⟨q+1,by omega,by omega,lO⟩,?_⟩
       rw[ug SJ (x:=q+1) rfl,ug SK (x:=q) rfl]
       omega
     · have eq:q=(B+8191) / 8192:=by omega
       rw[zd (x:=1+L+m+q) (by omega) (by omega)]
       refine mn.st (i:=2) (j:=8) (v:=zg (1+L+m+q)) rfl (by simp) rfl rfl fun tF oC=>?_
       have KR:=oC.at (i:=2) rfl
       have alE:=oC.at (i:=0) rfl
       simp only[lr,na,mZ]at KR
       simp only[zc,aR,za,zi KR,zi alE,fR,dU,gH,zN,zb]
       have er:(#[zg B,zg L,zg I,zg 1,zg (1+L),zg m,zg (1+L+m),zg q,zg (1+L+m+q)]:Array Value)=(zf B L I).cells:=by rw[em,eq];rfl
       refine⟨fun lA=>bad oC fun h=>by have:=h.2.2.2.2.2.2;simp only[zf]at this;omega,fun kc=>?_⟩
       rw[zV KR (show _=9 from rfl),za,er]
       refine oC.jE (i:=1) rfl rfl rfl (kh.ok _) fun sD oM=>?_
       simp only[zV (oM.at (i:=1) rfl) (kh.size _),za]
       exact k sD oM.iZ ⟨y1,y2,y3,y4,y5,y6,by simp only[zf];omega⟩
 · simp only[zc,aR,za,zi g1,fR,dU,gH,zk,zJ,zb]
   refine⟨fun h=>⟨trivial,?_⟩,fun h1=>⟨fun h=>⟨trivial,?_⟩,fun h2=>⟨fun h=>⟨trivial,?_⟩,fun h3=>⟨fun h=>⟨trivial,?_⟩,fun h4=>⟨fun h=>⟨trivial,?_⟩,fun h5=>⟨trivial,?_⟩⟩⟩⟩⟩⟩
   all_goals (congr 1;simp only[kr,eq_iff_iff,true_iff,iS,Bool.true_eq,eq_comm (a:=true)];omega)
end
def mi(x:Value)(f:Int->Nat):Nat:=match x with | .int _ i=>f i | _=>0
theorem zu{k:IntKind}{i:Int}{f:Int->Nat}:mi (.int k i) f=f i:=rfl
theorem zC{n s b o j:Nat}{k:IntKind}(h:j<n):zG (some (some n,s)) (.pointer (some ⟨b,o,none⟩)) (.int k (j:Int))=some (.pointer (some ⟨b,o+j*s,none⟩)):=by
 rw[wE (by omega) (by omega),jK]
theorem L1(v:Nat):IntKind.u8.wrap ((v:Int).tmod 256)=((v % 256:Nat):Int):=by
 rw[Zb (by omega),xf (by omega) (by omega)];omega
theorem FV(v:Nat):(v:Int).tdiv 256=((v / 256:Nat):Int):=by
 rw[Zx (by omega)];omega
theorem zr{v:Nat}(h:v<9223372036854775808):IntKind.i64.wrap (v:Int)=v:=zd (by omega) (by omega)
theorem ox{v:Nat}(h:v<4294967296):IntKind.u32.wrap (v:Int)=v:=ZB (by omega) (by omega)
theorem Px(a b:Nat):(a:Int)+(b:Int)=((a+b:Nat):Int):=by omega
theorem zE(a:Nat):(a:Int)+1=((a+1:Nat):Int):=by omega
theorem yU(n:Nat):(Array.replicate n (Value.int .u8 0)).size=n:=by simp
section
variable{S:Nat->Prop}{H0 H:Hp}{l:List Ob}
theorem Lo.ret{K:Value->Hp->Prop}(h:Lo S H0 H l){i b n:Nat}{c vs:Array Value}{T:TypeId}(hi:l[i]?=some (.box b c T))(hj:c.size=n)(hn:vs.size=n)(hv:zv vs)
   (k:∀ H',Lo S H0 H' (l.set i (.box b vs T))->K (.agg vs) H'):Pu (zY (some n) (.pointer (some ⟨b,0,none⟩)) (.agg vs) H) fun H'=>Pu (zX (some (some n)) (.pointer (some ⟨b,0,none⟩)) H') fun x=>K x H':=by
 have kI:i<l.length:=by
   rcases jx i l.length with h1 | h1
   · exact h1
   · rw[eR h1]at hi;cases hi
 refine h.jE hi hj hn hv fun H' l'=>?_
 have DD:(l.set i (Ob.box b vs T))[i]?=some (.box b vs T):=by rw[jX kI]
 rw[zV (l'.at DD) hn,za]
 exact k H' l'
theorem Lo.jc{T:TypeId}{c:Array Value}{K:Value->Hp->Prop}(h:Lo S H0 H l)(k:∀ b H',Ext H H'->Lo S H0 H' (l++[.box b c T])->K (.pointer (some ⟨b,0,none⟩)) H'):kT T (.agg c) H K:=h.box k
theorem Lo.ld{i b j:Nat}{c:Array Value}{T:TypeId}(h:Lo S H0 H l)(hi:l[i]?=some (.box b c T)):zX (some none) (.pointer (some ⟨b,j,none⟩)) H=c[j]?:=zi (h.at hi)
theorem Lo.je{i b n:Nat}{c:Array Value}{T:TypeId}(h:Lo S H0 H l)(hi:l[i]?=some (.box b c T))(hn:c.size=n):zX (some (some n)) (.pointer (some ⟨b,0,none⟩)) H=some (.agg c):=zV (h.at hi) hn
end
section
variable{H:Hp}{R:Value->Hp->Prop}
theorem Lh{a b:Nat}(ha:a<9223372036854775808)(hb:b<9223372036854775808)(h:R (zg (Nat.gcd b a:Nat)) H):Fc TP 76 #[zg a,zg b] H R:=by
 refine fn76 ?_;simp only[sh76,Ub,Uo,Uv,zm];refine zF.mk (fun s H'=>H'=H/\∃ x y:Nat,s=(zg x,zg y,())/\x<9223372036854775808/\y<9223372036854775808/\Nat.gcd y x=Nat.gcd b a) (fun s _=>mi s.2.1 Int.toNat) ⟨rfl,a,b,rfl,ha,hb,rfl⟩ ?_;rintro _ H1 ⟨rfl,x,y,rfl,hx,hy,hg⟩;simp only[zJ,za,zb];refine⟨fun hp=>?_,fun hp=>?_⟩
 ·rw[z7 (by omega),za,Zb (by omega)];refine⟨⟨trivial,y,x % y,by rw[XD];rfl,hy,Nat.lt_trans (kV _ (by omega)) hy,?_⟩,?_⟩
  ·rw[<- hg,Nat.gcd_rec y x]
  ·simp only[zu];have:x % y<y:=kV _ (by omega);omega
 ·have:y=0:=by omega
  subst this;rw[Nat.gcd_zero_left]at hg;rw[hg];exact h
theorem sW{a n:Int}(ha : -9223372036854775808<=a/\a<=9223372036854775807)(hn:0<n)(hn2:n<=9223372036854775807)(h:R (zg (a % n)) H):Fc TP 10 #[zg a,zg n] H R:=by
 refine fn10 ?_;simp only[sh10,Ub,Uv];rw[z7 (by omega),za,zk,za,zb];have h1:a % n=if a.tmod n<0 then a.tmod n+n else a.tmod n:=by
  rw[Int.tmod_eq_emod];have:=Int.emod_nonneg a (show n≠0 by omega);have:=Int.emod_lt_of_pos a hn;by_cases hc:0<=a\/n ∣ a
  ·rw[aU hc];split<;>omega
  ·rw[aH hc];rw[Int.natAbs_of_nonneg (by omega)];split<;>omega
 have h2:a.tmod n<n /\ -n<a.tmod n:=⟨Int.tmod_lt_of_pos a hn,by have:=Int.lt_tmod_of_pos a hn;omega⟩;refine⟨fun hl=>?_,fun hl=>?_⟩
 ·rw[ze,za,zd (by omega) (by omega)];rw[h1,aU hl]at h;exact h
 ·rw[h1,aH hl]at h;exact h
def Av(k i:Int):jn:=((zB.setIfInBounds 0 (.int .u8 (IntKind.u8.wrap (IntKind.i64.wrap (k+1))))).setIfInBounds 1 (.int .u8 (IntKind.u8.wrap (IntKind.i64.wrap (i+1))))).setIfInBounds 2 (.int .u8 77)
theorem adR(x y z:Int):zo TP 65 [(0,.int .u8 x),(1,.int .u8 y),(2,.int .u8 z)]=some (.agg (((zB.setIfInBounds 0 (.int .u8 x)).setIfInBounds 1 (.int .u8 y)).setIfInBounds 2 (.int .u8 z))):=by kernel_rfl
theorem El(x:Int):∃ m:Nat,m<256/\IntKind.u8.wrap x=m:=⟨(x % 256).toNat,by omega,by simp[IntKind.wrap,IntKind.bits,IntKind.signed];omega⟩
theorem pV(k i:Int):jR (Av k i):=by
 obtain⟨m,hm,e⟩:=El (IntKind.i64.wrap (k+1));obtain⟨m',vN,e'⟩:=El (IntKind.i64.wrap (i+1));unfold Av;rw[e,e'];exact((z6.set 0 hm).set 1 vN).set 2 (m:=77) (by omega)
theorem Js(k i:Int)(h:∀ H',Ext H H'->R (.agg (Av k i)) H'):Fc TP 80 #[zg k,zg i] H R:=by
 refine fn80 ?_;simp only[sh80,UL,Us,Ub,Uz,Uv,ZI,za,ze,zz,adR];refine(Lo.start _ H:Lx H H []).box fun b1 H1 _ l1=>?_;exact l1.ret (i:=0) rfl zw (pV k i).size (pV k i).ok fun H' l'=>h H' l'.iZ
def Lu(c:jn)(i:Nat):Bool:=kv c (i / 8) / 2 ^ (i % 8) % 2 == 1
theorem SB{c:jn}(hc:jR c){i:Nat}(hi:i<8192)(h:∀ H',Ext H H'->R (.bool (Lu c i)) H'):Fc TP 126 #[.agg c,zg i] H R:=by
 refine fn126 ?_;simp only[sh126,Ul,Ub,Uk,Uj,Uo,Uv,U1,U0,zm];refine(Lo.start _ H:Lx H H []).box fun b1 H1 _ l1=>?_;refine Zg.mk (fun s H'=>H'=H1/\s.1=.bool false) ?_ ?_
 ·rintro⟨x,u⟩ H3 ⟨rfl,hx⟩;simp only at hx;subst hx;simp only[zh];rw[Zp (by decide),za,Zx (by omega),zd (by omega) (by omega),show(i:Int) / 8=((i / 8:Nat):Int) by omega,zC (by omega),za,l1.ld (i:=0) rfl,zI,aR,iX,hc.get (by omega),za,zz,za];have hb:=hc.lt (i / 8);rw[zr (by omega)];refine zF.mk (fun s H'=>H'=H3/\∃ k v:Nat,k<=i % 8/\v<256/\v=kv c (i / 8) / 2 ^ k/\s=(zg v,zg k,())) (fun s _=>mi s.2.1 fun k=>(8 - k).toNat) ⟨rfl,0,kv c (i / 8),by omega,hb,by rw[ad6,Nat.div_one],rfl⟩ ?_;rintro _ H4 ⟨rfl,k,v,hk,hv,ev,rfl⟩;simp only;rw[z7 (by decide),za,Zb (by omega),zk,za,zb];refine⟨fun kc=>?_,fun lA=>?_⟩
  ·rw[Zp (by decide),za,Zx (by omega),zd (by omega) (by omega),ze,za,zd (by omega) (by omega)];refine⟨⟨by trivial,k+1,v / 2,by omega,by omega,by rw[ev,o0,sE],?_⟩,by simp only[zu];omega⟩;rw[zE,show(v:Int) / 2=((v / 2:Nat):Int) by omega];rfl
  ·have ek:k=i % 8:=by omega
   rw[z7 (by decide),za,Zb (by omega),zp,za];have e:decide ((v:Int) % 2=1)=Lu c i:=by
    unfold Lu;rw[ev,ek,jL,iS,beq_iff_eq];omega
   rw[e];exact h _ l1.iZ
 ·simp only[zk,zN,za,zb];refine⟨fun hh=>by omega,fun _=>⟨by trivial,?_⟩⟩;rw[cH (by omega)]
def FT(c:jn)(i:Nat):jn:=if Lu c i then c else c.setIfInBounds (i / 8) (.int .u8 ((kv c (i / 8)+2 ^ (i % 8):Nat) % 256:Nat))
theorem vX{c:jn}(hc:jR c)(i:Nat):jR (FT c i):=by
 unfold FT;split
 ·exact hc
 ·exact hc.set _ (kV _ (by omega))
theorem abn{c:jn}(hc:jR c){i:Nat}(hi:i<8192)(h:∀ H',Ext H H'->R (.agg (FT c i)) H'):Fc TP 79 #[.agg c,zg i,.bool true] H R:=by
 refine fn79 ?_;simp only[sh79,Ul,UL,Us,Ub,Uz,Uf,Uk,Uj,Uo,Uv,U1,ZI,za,zm];refine(Lo.start _ H:Lx H H []).box fun b1 H1 _ l1=>?_;refine l1.box fun b2 H2 _ l2=>?_;simp only[zI]at l2;refine Zg.mk (fun s H'=>Lx H H' [.box b1 c 65,.box b2 zB 65]/\s.1=.bool (Lu c i)) ?_ ?_
 ·rintro⟨x,u⟩ H3 ⟨l3,hx⟩;simp only at hx;subst hx;simp only[Zj];refine⟨fun hb=>?_,fun hb=>?_⟩
  ·rw[l3.je (i:=0) rfl hc.size,za];refine l3.ret (i:=1) rfl zw hc.size hc.ok fun H' l'=>?_;have:=h H' l'.iZ;rw[FT,aU hb]at this;exact this
  ·refine zF.mk (fun s H'=>H'=H3/\∃ k v:Nat,k<=i % 8/\v=2 ^ k/\s=(.int .u8 v,zg k,())) (fun s _=>mi s.2.1 fun k=>(8 - k).toNat) ⟨rfl,0,1,by omega,rfl,rfl⟩ ?_;rintro _ H4 ⟨rfl,k,v,hk,ev,rfl⟩;have hp:v<=2 ^ 7:=by rw[ev];exact lq (by omega) (by omega)
   simp only;rw[z7 (by decide),za,Zb (by omega),zk,za,zb];refine⟨fun kc=>?_,fun lA=>?_⟩
   ·have hp2:v<=2 ^ 6:=by rw[ev];exact lq (by omega) (by omega)
    rw[zW,za,ze,za,zd (by omega) (by omega)];refine⟨⟨by trivial,k+1,v*2,by omega,by rw[ev,sE],?_⟩,by simp only[zu];omega⟩;rw[xf (by omega) (by omega),zE,show(2:Int)*(v:Int)=((v*2:Nat):Int) by omega];rfl
   ·have ek:k=i % 8:=by omega
    refine Zg.mk (fun _ H'=>Lx H H' [.box b1 (FT c i) 65,.box b2 zB 65]) ?_ ?_
    ·intro s H5 l5;rw[l5.je (i:=0) rfl (vX hc i).size,za];exact l5.ret (i:=1) rfl zw (vX hc i).size (vX hc i).ok fun H' l'=>h H' l'.iZ
    ·refine⟨fun _=>?_,fun hh=>by cases hh⟩;rw[Zp (by decide),za,za,Zx (by omega),zd (by omega) (by omega),show(i:Int) / 8=((i / 8:Nat):Int) by omega,zC (by omega),za,l3.ld (i:=0) rfl,aR,iX,hc.get (by omega),za,ze,za,za];refine l3.st (i:=0) (j:=i / 8) (v:=.int .u8 (IntKind.u8.wrap ((kv c (i / 8):Int)+(v:Int)))) rfl (by rw[hc.size];omega) rfl rfl fun H5 l5=>?_;have e2:IntKind.u8.wrap ((kv c (i / 8):Int)+(v:Int))=(((kv c (i / 8)+2 ^ (i % 8):Nat) % 256:Nat):Int):=by
      rw[<- ek,<- ev];simp[IntKind.wrap,IntKind.bits,IntKind.signed]
     rw[e2]at l5;have e3:FT c i=c.setIfInBounds (i / 8) (.int .u8 ((kv c (i / 8)+2 ^ (i % 8):Nat) % 256:Nat)):=by rw[FT,aH (by rw[hb];decide)]
     rw[e3];exact l5
 ·simp only[zk,zN,za,zb];refine⟨fun hh=>by omega,fun _=>⟨fun hh=>by omega,fun _=>?_⟩⟩;rw[l2.je (i:=0) rfl hc.size,za];refine SB hc hi fun H' e=>?_;rw[TJ,za];refine⟨l2.ext e,?_⟩;simp
end
abbrev zR(n:Nat):Array Value:=Array.replicate n (.int .u8 0)
theorem rh:ZZ TP 104=some (.agg (zR 64)):=by kernel_rfl
theorem lE.lt{f:kM}(h:lE f){j:Nat}(hj:j<16):f j<4294967296:=by
 have:=h j hj;unfold fw at this;split at this<;>omega
theorem Zq(f:kM):∀ j,2<=j->j<16->(zS f)[j]?=some (.int .u32 (f j))
 | 0,h,_ | 1,h,_=>by omega
 | 2,_,_ | 3,_,_ | 4,_,_ | 5,_,_ | 6,_,_ | 7,_,_ | 8,_,_ | 9,_,_ | 10,_,_ | 11,_,_ | 12,_,_ | 13,_,_ | 14,_,_ | 15,_,_=>rfl
 | n+16,_,h=>by omega
def wg(f:kM)(i:Nat):Array Value:=((List.range 12).map fun j=>Value.int .u32 (if j<i then f (4+j) else 0:Nat)).toArray
theorem ye(f:kM)(i:Nat):(wg f i).size=12:=by simp[wg]
theorem Cd(f:kM)(i:Nat){j:Nat}(hj:j<12):(wg f i)[j]?=some (.int .u32 (if j<i then f (4+j) else 0:Nat)):=by
 simp only[wg,fR,dR,kN hj,iR]
theorem Cc(f:kM){i:Nat}(hi:i<12):(wg f i).setIfInBounds i (.int .u32 (f (4+i)))=wg f (i+1):=by
 apply jm;intro j;rw[iY];by_cases hj:j<12
 ·rw[Cd _ _ hj,Cd _ _ hj];by_cases h1:i=j
  ·subst h1;simp[ye,hi]
  ·rw[aH h1];by_cases h2:j<i
   ·rw[aU h2,aU (by omega)]
   ·rw[aH h2,aH (by omega)]
 ·rw[aH (by omega),iQ (by rw[ye];omega),iQ (by rw[ye];omega)]
theorem Mw(f:kM)(i:Nat):zv (wg f i):=by unfold zv;rw[<- iV,kl];intro x hx;simp only[wg,iT]at hx;obtain⟨j,_,rfl⟩:=hx;rfl
theorem PZ(f:kM):ZZ TP 244=some (.agg (wg f 0)):=by kernel_rfl
section
variable{H:Hp}{R:Value->Hp->Prop}
theorem HG{c:Array Value}(hc:mu 64 c){a n v:Nat}(ha:a+n<=64)(hv:v<4294967296)(k:∀ H',Ext H H'->R (.agg (nW c a n v)) H'):Fc TP 170 #[.agg c,zg a,zg n,.int .u32 v] H R:=by
 refine fn170 ?_;simp only[sh170,UL,Us,Ub,Uz,Uk,Uo,Uv,rh,za,zm];refine(Lo.start _ H:Lx H H []).jc fun b1 H1 _ l1=>?_;refine l1.jc fun b2 H2 _ l2=>?_;refine zF.mk (fun s H'=>∃ (i:Nat) (ci:Array Value) (vi:Nat),i<=n/\vi<4294967296/\mu 64 ci/\nW ci (a+i) (n - i) vi=nW c a n v/\s=(.int .u32 vi,zg i,())/\Lx H H' [.box b1 ci 104,.box b2 (zR 64) 104])
  (fun s _=>mi s.2.1 fun i=>(n - i).toNat) ⟨0,c,v,by omega,hv,hc,rfl,rfl,l2⟩ ?_
 rintro _ H3 ⟨i,ci,vi,hi,hvi,hci,he,rfl,l3⟩;simp only[zk,za,zb];refine⟨fun kc=>?_,fun lA=>?_⟩
 ·rw[ze,za,Px,zr (by omega),z7 (by decide),za,zz,za,L1,zC (by omega),za,aR,iX];refine l3.st (i:=0) (j:=a+i) (v:=.int .u8 (vi % 256:Nat)) rfl (by rw[hci.size];omega) rfl rfl fun H4 l4=>?_;rw[Zp (by decide),za,FV,ox (by omega),ze,za,zE,zr (by omega)];refine⟨⟨i+1,_,vi / 256,by omega,by omega,hci.set _ (kV _ (by omega)),?_,rfl,l4⟩,by simp only[zu];omega⟩;rw[<- he,show n - i=(n - (i+1))+1 by omega];rfl
 ·have e:i=n:=by omega
  subst e;rw[nM]at he;have he:ci=nW c a i v:=he;rw[<- he]at k;rw[l3.je (i:=0) rfl hci.size,za];exact l3.ret (i:=1) rfl (yU 64) hci.size hci.ok fun H' l'=>k H' l'.iZ
theorem NX(f:kM)(k:∀ H',Ext H H'->R (.agg (wg f 12)) H'):Fc TP 171 #[.agg (zS f)] H R:=by
 refine fn171 ?_;simp only[sh171,Ul,UL,UA,Us,Ub,Uz,Uk,Uo,Uv,PZ f,za,zm];refine(Lo.start _ H:Lx H H []).jc fun b1 H1 _ l1=>?_;refine l1.jc fun b2 H2 _ l2=>?_;refine l2.jc fun b3 H3 _ l3=>?_;refine zF.mk (fun s H'=>∃ i:Nat,i<=10/\s=(zg i,())/\Lx H H' [.box b1 (zS f) 54,.box b2 (wg f 0) 244,.box b3 (wg f i) 244])
  (fun s _=>mi s.1 fun i=>(10 - i).toNat) ⟨0,by omega,rfl,l3⟩ ?_
 rintro _ H4 ⟨i,hi,rfl,l4⟩;simp only[zk,za,zb];refine⟨fun kc=>?_,fun lA=>?_⟩
 ·rw[zc,za,zC (by omega),za,l4.ld (i:=0) rfl,aR,iX,Zq f (4+i) (by omega) (by omega),za,zC (by omega),za,aR,iX];refine l4.st (i:=2) (j:=i) (v:=.int .u32 (f (4+i))) rfl (by rw[ye];omega) rfl rfl fun H5 l5=>?_;rw[Cc f (by omega)]at l5;rw[ze,za,zE,zr (by omega)];exact⟨⟨i+1,by omega,rfl,l5⟩,by simp only[zu];omega⟩
 ·have e:i=10:=by omega
  subst e;rw[zc,za,l4.ld (i:=0) rfl,Zq f (0+14) (by omega) (by omega),za,show(10:Int)=((10:Nat):Int) from rfl,zC (by omega),za];refine l4.st (i:=2) (j:=10) (v:=.int .u32 (f (4+10))) rfl (by rw[ye];omega) rfl rfl fun H5 l5=>?_;rw[Cc f (by omega)]at l5;rw[zc,za,l5.ld (i:=0) rfl,Zq f (0+15) (by omega) (by omega),za,show(11:Int)=((11:Nat):Int) from rfl,zC (by omega),za];refine l5.st (i:=2) (j:=11) (v:=.int .u32 (f (4+11))) rfl (by rw[ye];omega) rfl rfl fun H6 l6=>?_;rw[Cc f (by omega)]at l6;rw[l6.je (i:=2) rfl (ye _ _),za];exact l6.ret (i:=1) rfl (ye _ _) (ye _ _) (Mw _ _) fun H' l'=>k H' l'.iZ
theorem aar{f:kM}(hf:lE f)(k:∀ H',Ext H H'->R (.agg (mP f)) H'):Fc TP 123 #[.agg (zS f)] H R:=by
 have hz:mu 64 (zR 64):=yz 64;have hl:=fun n=>Y1 (f:=f) hz 0 n;have h0:=hf 0 (by omega);have h1:=hf 1 (by omega);have h2:=hf.lt (j:=2) (by omega);have h3:=hf.lt (j:=3) (by omega);simp only[fw,Nat.reduceLT,jO,Nat.reducePow]at h0 h1;refine fn123 ?_;simp only[sh123,Ul,UL,UA,Us,Ub,Uz,Uf,Uk,Uo,Uv,rh,PZ f,za,zm];refine(Lo.start _ H:Lx H H []).jc fun b1 H1 _ l1=>?_;refine l1.jc fun b2 H2 _ l2=>?_;refine l2.jc fun b3 H3 _ l3=>?_;rw[l3.je (i:=2) (n:=64) rfl (yU 64),za,zc,za,l3.ld (i:=0) rfl,show(zS f)[0+0]?=some (.int .u16 (f 0)) from rfl,za,zz,za,ox (by omega)];refine HG (a:=0) (n:=2) hz (by omega) (by omega) fun H4 e4=>?_;refine(l3.ext e4).jE (i:=2) (vs:=mH (zR 64) 0 f 1) rfl (yU 64) (hl 1).size (hl 1).ok fun H5 l5=>?_;rw[l5.je (i:=2) (n:=64) rfl (hl 1).size,za,zc,za,l5.ld (i:=0) rfl,show(zS f)[0+1]?=some (.int .u16 (f 1)) from rfl,za,zz,za,ox (by omega)];refine HG (a:=2) (n:=2) (hl 1) (by omega) (by omega) fun H6 e6=>?_;refine(l5.ext e6).jE (i:=2) (vs:=mH (zR 64) 0 f 2) rfl (hl 1).size (hl 2).size (hl 2).ok fun H7 l7=>?_;rw[l7.je (i:=2) (n:=64) rfl (hl 2).size,za,zc,za,l7.ld (i:=0) rfl,Zq f (0+2) (by omega) (by omega),za];refine HG (a:=4) (n:=4) (hl 2) (by omega) h2 fun H8 e8=>?_;refine(l7.ext e8).jE (i:=2) (vs:=mH (zR 64) 0 f 3) rfl (hl 2).size (hl 3).size (hl 3).ok fun H9 l9=>?_;rw[l9.je (i:=2) (n:=64) rfl (hl 3).size,za,zc,za,l9.ld (i:=0) rfl,Zq f (0+3) (by omega) (by omega),za];refine HG (a:=8) (n:=4) (hl 3) (by omega) h3 fun mX sA=>?_;refine(l9.ext sA).jE (i:=2) (vs:=mH (zR 64) 0 f 4) rfl (hl 3).size (hl 4).size (hl 4).ok fun mN lO=>?_;rw[lO.je (i:=0) (n:=16) rfl (zt f),za];refine NX f fun tF GX=>?_;refine(lO.ext GX).jc fun b4 sD _ oM=>?_;refine oM.jE (i:=3) (vs:=wg f 12) rfl (ye _ _) (ye _ _) (Mw _ _) fun By vh=>?_;refine zF.mk (fun s H'=>∃ i:Nat,i<=12/\s=(zg i,())/\Lx H H' [.box b1 (zS f) 54,.box b2 (zR 64) 104,.box b3 (mH (zR 64) 0 f (4+i)) 104,.box b4 (wg f 12) 244])
  (fun s _=>mi s.1 fun i=>(12 - i).toNat) ⟨0,by omega,rfl,vh⟩ ?_
 rintro _ DH ⟨i,hi,rfl,pO⟩;simp only[zk,za,zb];refine⟨fun kc=>?_,fun lA=>?_⟩
 ·rw[pO.je (i:=2) (n:=64) rfl (hl _).size,za,zW,za,zd (by omega) (by omega),ze,za,zd (by omega) (by omega),zC (by omega),za,pO.ld (i:=3) rfl,aR,iX,Cd f 12 (by omega),aU (by omega),za,show(12:Int)+4*(i:Int)=((12+4*i:Nat):Int) by omega];refine HG (a:=12+4*i) (n:=4) (hl _) (by omega) (hf.lt (by omega)) fun NC e16=>?_;have es:nW (mH (zR 64) 0 f (4+i)) (12+4*i) 4 (f (4+i))=mH (zR 64) 0 f (4+(i+1)):=by
   show _=nW (mH (zR 64) 0 f (4+i)) (0+fo (4+i)) (fw (4+i)) (f (4+i));rw[show 0+fo (4+i)=12+4*i by unfold fo;rw[aH (by omega)];omega,show fw (4+i)=4 by unfold fw;rw[aH (by omega)]]
  rw[es];refine(pO.ext e16).jE (i:=2) rfl (hl _).size (hl _).size (hl _).ok fun XB XV=>?_;rw[ze,za,zE,zr (by omega)];exact⟨⟨i+1,by omega,rfl,XV⟩,by simp only[zu];omega⟩
 ·have e:i=12:=by omega
  subst e;rw[pO.je (i:=2) (n:=64) rfl (hl _).size,za];exact pO.ret (i:=1) rfl (yU 64) (hl 16).size (hl 16).ok fun H' l'=>k H' l'.iZ
end
end Go.Vc
namespace Go.Vc
open Go.Proofs Classical
def Ob.all(l:List Ob):Ob:=.of (fun H O=>∃ kP,Wd kP H l/\∀ b,kP b≠0->O b) fun {H H' O O'} h hb hs ho=>by
 obtain⟨kP,w,hc⟩:=h;exact⟨kP,⟨fun i x hx=>x.frame (w.Rm i x hx) (fun b hh=>hb b (hc b (by have hh:kP b=i+1:=hh;omega))) hs (fun _ hh=>hh) fun b hh=>jj (x.own (w.Rm i x hx) b hh) hs,fun b hh=>w.out b (kg hs hh)⟩,fun b hh=>ho b (hc b hh)⟩
section
variable{S O:Nat->Prop}{H0 H H':Hp}{l r:List Ob}
theorem Lo.open(h:(Ob.all l).at_ H O):Lo O H H l:=by
 obtain⟨⟨kP,w,hc⟩,_⟩:=h;exact⟨Kp.refl _ _,kP,w,fun b _ hn=>hc b hn⟩
theorem Lo.close(h:Lo O H H' (l++r)):∃ O',kS O O' H H'/\(Ob.all l).at_ H' O':=by
 obtain⟨k,kP,w,hc⟩:=h.take;refine⟨fun b=>kP b≠0,⟨k,fun b hb=>?_⟩,⟨kP,w,fun _ hb=>hb⟩,fun b hb=>?_⟩
 ·rcases jx b H.size with h1 | h1
  ·exact .inl (hc b h1 hb)
  ·exact .inr h1
 ·rcases jx b H'.size with h1 | h1
  ·exact h1
  ·exact absurd (w.out b h1) hb
theorem Lo.nth(h:Lo S H0 H l){i:Nat}{x y:Ob}(hx:l[i]?=some x)(hy:∀ O,x.at_ H O->y.at_ H O):Lo S H0 H (l.set i y):=by
 obtain⟨O,ho,st⟩:=h.step hx;exact st H y O (Kp.refl _ _) (hy O ho) fun b hb=>.inl hb
end
theorem J0{cs v:Array Value}{o n j:Nat}{u:Value}(h:o+n<=cs.size)(hv:cs.extract o (o+n)=v)(hj:j<n):zL cs o (v.setIfInBounds j u)=cs.setIfInBounds (o+j) u:=by
 have hs:v.size=n:=by rw[<- hv,vL];omega
 apply jm;intro i;rw[zH (by simp[hs];omega),iY,iY];simp only[lL,hs];by_cases h1:i<o
 ·rw[aU h1,aH (by omega)]
 ·rw[aH h1];by_cases h2:i<o+n
  ·rw[aU h2];by_cases h3:j=i - o
   ·rw[aU h3,aU (by omega),aU (by omega),aU (by omega)]
   ·rw[aH h3,aH (by omega),<- hv,ji,aU (by omega)];congr 1;omega
  ·rw[aH h2,aH (by omega)]
section
variable{T n:Nat}{H:Hp}{s:Value}{vs:List (Array Value)}{K:Hp->Prop}
theorem Sv.VB(h:Sv T n H s vs){i j:Nat}{v:Array Value}{u:Value}(hi:vs[i]?=some v)(hj:j<n)(hv:zv v)(hu:u.oneCell'=true)(hc:u.cells=#[u]) :
   ∃ b o,ZH s=some b/\(∀ k,zG (some (none,n)) s (.int k i)=some (.pointer (some ⟨b,o,none⟩))) /\
   ((∀ H',Kp (·=b) H H'->H'.size=H.size->Sv T n H' s (vs.set i (v.setIfInBounds j u))->K H')->Pu (zY (some 1) (.pointer (some ⟨b,o+j,none⟩)) u H) K):=by
 obtain⟨b,o,cs,hb,hg,lH,hx,ha⟩:=h.elem hi
 have kI:i<vs.length:=by
   rcases jx i vs.length with h1 | h1
   · exact h1
   · rw[eR h1]at hi;cases hi
 have Wl:=h.size hi
 have kD:zv (v.setIfInBounds j u):=by
   unfold zv at hv ⊢
   rw[Array.all_eq_true]at hv ⊢
   intro x hx
   rw[Array.getElem_setIfInBounds (by simpa using hx)]
   split
   · exact hu
   · exact hv x (by simpa using hx)
 obtain⟨b',o',WE,mq,hp⟩:=h.put (K:=fun H'=>Kp (·=b) H H'/\H'.size=H.size/\Sv T n H' s (vs.set i (v.setIfInBounds j u))) kI (v:=v.setIfInBounds j u) (by simpa using Wl) kD
 have e:=(ha .i64).symm.trans (mq .i64)
 injection e with e;injection e with e;injection e with e;injection e with e1 e2
 subst e1 e2
 have hp:=hp fun H' k1 k2 k3=>⟨k1,k2,k3⟩
 rw[tI hg lH (by simpa using Wl) kD,za,J0 lH hx hj]at hp
 refine⟨b,o,hb,ha,fun hK=>?_⟩
 rw[BK hg (by omega) hu hc,za]
 exact hK _ hp.1 hp.2.1 hp.2.2
end
section
variable{S:Nat->Prop}{H0 H:Hp}{l:List Ob}{K:Hp->Prop}
theorem Lo.BU{T n:Nat}(h:Lo S H0 H l){i j x:Nat}{s:Value}{v:Array Value}{u:Value}{vs:List (Array Value)}(hi:l[i]?=some (.sl T n s vs))(hj:vs[j]?=some v)(hx:x<n)(hv:zv v)(hu:u.oneCell'=true)(hc:u.cells=#[u])(k:∀ H',Lo S H0 H' (l.set i (.sl T n s (vs.set j (v.setIfInBounds x u))))->K H') :
   ∃ b o,(∀ k,zG (some (none,n)) s (.int k j)=some (.pointer (some ⟨b,o,none⟩)))/\Pu (zY (some 1) (.pointer (some ⟨b,o+x,none⟩)) u H) K:=by
 obtain⟨O,ho,st⟩:=h.step hi
 obtain⟨b,o,h1,h2,h3⟩:=Sv.VB (K:=K) ho.1.1 hj hx hv hu hc
 refine⟨b,o,h2,h3 fun H' k' hs sv=>k H' (st H' _ O (k'.mono fun x _ e=>e ▸ ho.1.2 b h1) ⟨⟨sv,ho.1.2⟩,fun x hx=>by rw[hs];exact ho.2 x hx⟩ fun x hx=>.inl hx)⟩
end
structure Pm where
 x:kh
 B:Nat
 da:Nat
 n:Nat
 st:Nat
 tn:Nat
structure qo(m:Pm):Prop where
 B:m.x.B=m.B
 da:m.x.kb=m.da
 n:m.B=m.da+m.n
 pos:0<m.n
 da1:1<=m.da
 Ih:m.B<=1048576
 st:m.st<m.n
 tn:m.tn<=1048577
 co:Nat.gcd m.tn m.n=1
def Pm.kC(m:Pm)(k:Nat):Nat:=m.da+sg m.n m.st m.tn k
structure Pg where
 L:List jn
 c:Nat
 full:Bool
def B4(x:kh)(sl su:Value)(tn nx:Nat)(fl:Bool):Array Value:=#[zg x.B,zg x.L,zg x.I,zg x.logAt,zg x.nodeAt,zg x.kO,zg x.lM,zg x.lF,zg x.kb,sl,su,zg tn,zg nx,.bool fl]
section
variable{x:kh}{sl su:Value}{tn nx:Nat}{fl:Bool}
theorem NU:(B4 x sl su tn nx fl)[2]?=some (zg x.I):=rfl
theorem NT:(B4 x sl su tn nx fl)[4]?=some (zg x.nodeAt):=rfl
theorem Q9:(B4 x sl su tn nx fl)[8]?=some (zg x.kb):=rfl
theorem uZ:(B4 x sl su tn nx fl)[9]?=some sl:=rfl
theorem B3:(B4 x sl su tn nx fl)[10]?=some su:=rfl
theorem we:(B4 x sl su tn nx fl)[11]?=some (zg tn):=rfl
theorem HJ:(B4 x sl su tn nx fl)[12]?=some (zg nx):=rfl
theorem pq:(B4 x sl su tn nx fl)[13]?=some (.bool fl):=rfl
end
noncomputable def NF(m:Pm)(c:Nat):List (Array Value):=(List.range m.B).map fun i=>#[.bool (decide (∃ k,k<c/\i=m.kC k))]
structure nJ(m:Pm)(q:Pg):Prop where
 len:q.L.length=m.B
 is:∀ c∈q.L,jR c
 c:q.c<=m.n
noncomputable def Zo(m:Pm)(p:Nat)(q:Pg):Ob:=
 ⟨fun H O=>nJ m q/\∃ sl su,(Ob.all [.box p (B4 m.x sl su m.tn (sg m.n m.st m.tn q.c) q.full) 138,.sl 65 1024 sl q.L,.sl 4 1 su (NF m q.c)]).at_ H O,
  fun⟨_,_,_,h⟩=>Ob.own _ h,fun⟨hq,sl,su,h⟩ hb hs ho hl=>⟨hq,sl,su,Ob.frame _ h hb hs ho hl⟩⟩
def Pg.take(m:Pm)(q:Pg):Pg × Nat:=if q.c<m.n then(⟨q.L,q.c+1,q.full⟩,m.kC q.c) else(⟨q.L,q.c,true⟩,0)
def Pg.put(q:Pg)(at_ i v:Nat):Pg:=⟨q.L.set at_ (nW (q.L.getD at_ zB) (4*i) 4 v),q.c,q.full⟩
def Pg.CO(q:Pg)(at_ i:Nat):Nat:=nQ (q.L.getD at_ zB) (4*i) 4
section
variable{m:Pm}{q:Pg}
theorem Pm.nD(hm:qo m)(k:Nat):m.da<=m.kC k/\m.kC k<m.B:=by
 have:=QE (st:=m.st) (tn:=m.tn) (k:=k) hm.pos;have:=hm.n;unfold Pm.kC;omega
theorem Pm.w8(hm:qo m){i k:Nat}(hi:i<m.n)(hk:k<m.n)(h:m.kC i=m.kC k):i=k:=QF (st:=m.st) hm.co hi hk (by unfold Pm.kC at h;omega)
theorem A5(m:Pm)(c:Nat):(NF m c).length=m.B:=by simp[NF]
theorem vS{i:Nat}(hi:i<m.B)(c:Nat):(NF m c)[i]?=some #[.bool (decide (∃ k,k<c/\i=m.kC k))]:=by
 simp only[NF,dR,kN hi,iR]
theorem UY(hm:qo m){c:Nat}:(NF m c).set (m.kC c) #[.bool true]=NF m (c+1):=by
 apply ku;intro i;rw[lU];by_cases hi:i<m.B
 ·rw[vS hi,vS hi];by_cases h1:m.kC c=i
  ·rw[aU h1,A5,aU (by omega)];congr;symm;rw[iS];exact⟨c,by omega,h1.symm⟩
  ·rw[aH h1];congr 4;rw[kr];constructor
   ·rintro⟨k,hk,e⟩;exact⟨k,by omega,e⟩
   ·rintro⟨k,hk,e⟩;rcases jx k c with h2 | h2
    ·exact⟨k,h2,e⟩
    ·have:k=c:=by omega
     subst this;exact absurd e.symm h1
 ·have:=(m.nD hm c).2;rw[aH (by omega),eR (by rw[A5];omega),eR (by rw[A5];omega)]
theorem ph(h:nJ m q):nJ m (q.take m).1:=by
 have:=h.c;unfold Pg.take;split
 ·exact⟨h.len,h.is,by simp only;omega⟩
 ·exact⟨h.len,h.is,h.c⟩
theorem rL(h:nJ m q)(i:Nat):jR (q.L.getD i zB):=by
 rw[jr];cases hi:q.L[i]? with
 | none=>exact z6
 | some c=>exact h.is c (jV hi)
theorem FX(h:nJ m q)(a i v:Nat):nJ m (q.put a i v):=by
 refine⟨by simp[Pg.put,h.len],fun c hc=>?_,h.c⟩;rcases lD hc with h1 | h1
 ·exact h.is c h1
 ·rw[h1];exact(Y9 _ _ _ (rL h a).n).b
end
theorem LY:TP.underlying 43=some (.slice 65):=by kernel_rfl
theorem B2(x:kh)(sl su:Value)(tn nx:Nat)(fl:Bool):(B4 x sl su tn nx fl).size=14:=rfl
section
variable{H:Hp}{R:Value->Hp->Prop}{m:Pm}{p:Nat}{q:Pg}{O:Nat->Prop}
theorem tP(hm:qo m)(h:(Zo m p q).at_ H O)(k:∀ H' O',kS O O' H H'->(Zo m p (q.take m).1).at_ H' O'->R (zg (q.take m).2) H'):Fc TP 167 #[zD p] H R:=by
 obtain⟨hq,sl,su,ha⟩:=h;have l0:=Lo.open ha;have g0:=l0.at (i:=0) rfl;have hn:=hm.n;have nu:=hm.Ih;have htn:=hm.tn;have hqc:=hq.c;refine fn167 ?_;simp only[sh167,Ul,UA,Us,Ub,UI,Ui,Ug,Uu,Uo,Uv,U1,zl,zc,aR,Nat.reduceAdd,za,zm,zi g0,NU,NT,Q9,uZ,B3,we,HJ,pq,(l0.sv (i:=1) rfl).j9 LY,zP];rw[hq.len,hm.da,zd (by omega) (by omega),show(m.B:Int) - (m.da:Int)=(m.n:Int) by omega];refine zF.mk (fun s H'=>∃ i:Nat,i<=m.n/\(i=0\/q.c=m.n)/\s=(zg i,())/\Lo O H H' [.box p (B4 m.x sl su m.tn (sg m.n m.st m.tn (q.c+i)) q.full) 138,.sl 65 1024 sl q.L,.sl 4 1 su (NF m q.c)])
  (fun s _=>mi s.1 fun i=>(m.n - i).toNat) ⟨0,by omega,.inl rfl,rfl,l0⟩ ?_
 rintro _ H1 ⟨i,hi,hc,rfl,l1⟩;have g1:=l1.at (i:=0) rfl;have uy:=QE (st:=m.st) (tn:=m.tn) (k:=q.c+i) hm.pos;simp only[zk,za,zb];refine⟨fun kc=>?_,fun lA=>?_⟩
 ·simp only[zl,zc,aR,Nat.reduceAdd,za,zi g1,NU,NT,Q9,uZ,B3,we,HJ,pq,ze];rw[hm.da,Px,zr (by omega),Px,zr (by omega),z7 (by have:=hm.pos;omega),za,Zb (by omega),<- XD,Vk];refine l1.st (i:=0) (j:=12) (v:=zg (sg m.n m.st m.tn (q.c+i+1):Nat)) rfl (by rw[B2];omega) rfl rfl fun H2 l2=>?_;have l2:Lo O H H2 [.box p (B4 m.x sl su m.tn (sg m.n m.st m.tn (q.c+i+1)) q.full) 138,.sl 65 1024 sl q.L,.sl 4 1 su (NF m q.c)]:=l2;have g2:=l2.at (i:=0) rfl;simp only[zi g2,NU,NT,Q9,uZ,B3,we,HJ,pq,za];have hus:=vS (m:=m) (i:=m.da+sg m.n m.st m.tn (q.c+i)) (by omega) q.c;obtain⟨b,o,wH,Oi⟩:=(l2.sv (i:=2) rfl).cell hus (j:=0) (by omega);rw[wH,za,show(⟨b,o,none⟩:Addr)=⟨b,o+0,none⟩ from rfl,Oi,fR,dU,za,zx,za,Zm];refine⟨fun hu=>?_,fun hu=>?_⟩
  ·have Su:i=0:=by
    rcases hc with h1 | h1
    ·exact h1
    ·exfalso;obtain⟨j,hj,ej⟩:=QG (st:=m.st) hm.pos hm.co uy;rw[jq]at hu;exact hu ⟨j,by omega,by unfold Pm.kC;omega⟩
   subst Su;have CJ:q.c<m.n:=by
    rcases jx q.c m.n with h1 | h1
    ·exact h1
    ·exfalso;obtain⟨j,hj,ej⟩:=QG (st:=m.st) hm.pos hm.co uy;rw[jq]at hu;exact hu ⟨j,by omega,by unfold Pm.kC;omega⟩
   obtain⟨b',o',uM,hp2⟩:=l2.BU (i:=2) (j:=m.da+sg m.n m.st m.tn (q.c+0)) (x:=0) (u:=.bool true) (K:=fun H3=>R (zg (m.da+sg m.n m.st m.tn (q.c+0):Nat)) H3) rfl hus (by omega) (by unfold zv;rw[<- iV];rfl) rfl rfl (fun H3 l3=>by
    obtain⟨O',st,mq⟩:=Lo.close (l:=[_,_,_]) (r:=[]) l3;have et:q.take m=(⟨q.L,q.c+1,q.full⟩,m.kC q.c):=by unfold Pg.take;rw[aU CJ]
    have k:=k H3 O' st;rw[et]at k;refine k ⟨⟨hq.len,hq.is,CJ⟩,sl,su,?_⟩;have es:=UY hm (c:=q.c);rw[<- es];exact mq)
   have e:=(uM .i64).symm.trans (wH .i64);rw[za];injection e with e;injection e with e;injection e with e;injection e with e1 e2;subst e1 e2;exact hp2
  ·rw[zE,zr (by omega)];refine⟨⟨i+1,by omega,.inr ?_,rfl,l2⟩,by simp only[zu];omega⟩;rcases hc with h1 | h1
   ·subst h1;rw[iS]at hu;obtain⟨j,hj,ej⟩:=hu;rcases jx q.c m.n with h2 | h2
    ·have:j=q.c:=m.w8 hm (by omega) h2 (by rw[<- ej];rfl);omega
    ·omega
   ·exact h1
 ·have Su:q.c=m.n:=by
   rcases hc with h1 | h1
   ·have:=hm.pos;omega
   ·exact h1
  have ei:i=m.n:=by omega
  refine l1.st (i:=0) (j:=13) (v:=.bool true) rfl (by rw[B2];omega) rfl rfl fun H2 l2=>?_;obtain⟨O',st,mq⟩:=Lo.close (l:=[_,_,_]) (r:=[]) l2;have et:q.take m=(⟨q.L,q.c,true⟩,0):=by unfold Pg.take;rw[aH (by omega)]
  have k:=k H2 O' st;rw[et]at k;have es:sg m.n m.st m.tn (q.c+i)=sg m.n m.st m.tn q.c:=by
   unfold sg;rw[ei,kn,<- Nat.add_assoc,Nat.add_mul_mod_self_left]
  refine k ⟨⟨hq.len,hq.is,hq.c⟩,sl,su,?_⟩;rw[es]at mq;exact mq
theorem Ra(hm:qo m)(h:(Zo m p q).at_ H O){a i:Nat}(ha:a<m.B)(hi:i<256)(k:R (zg (q.CO a i)) H):Fc TP 168 #[zD p,zg a,zg i] H R:=by
 obtain⟨hq,sl,su,h0⟩:=h;have l0:=Lo.open h0;have g0:=l0.at (i:=0) rfl;have nu:=hm.Ih;have hg:q.L[a]?=some (q.L.getD a zB):=by rw[jr,bU (by rw[hq.len];exact ha)];rfl
 have hb:=rL hq a;generalize q.L.getD a zB=c at hg hb;have ek:q.CO a i=nQ c (4*i) 4:=by unfold Pg.CO;rw[jr,hg];rfl
 rw[ek]at k;refine fn168 ?_;simp only[sh168,Ul,UA,Ub,UI,Ui,Uk,Uo,Uv,zm];refine zF.mk (fun s H'=>H'=H/\∃ j:Nat,j<=4/\s=(zg (nQ c (4*i+(4 - j)) j:Nat),zg (3 - (j:Int)),())) (fun s _=>mi s.2.1 fun x=>(x+1).toNat) ⟨rfl,0,by omega,rfl⟩ ?_;rintro _ H1 ⟨rfl,j,hj,rfl⟩;have hv:=xF (c:=c) hb.lt j (4*i+(4 - j));have R1:256 ^ j<=256 ^ 4:=lq (by omega) hj;generalize DW:nQ c (4*i+(4 - j)) j=v at hv;simp only[zN,za,zb];refine⟨fun lA=>?_,fun kc=>?_⟩
 ·have hv4:256 ^ j<=256 ^ 3:=lq (by omega) (by omega);obtain⟨b,o,wH,Oi⟩:=(l0.sv (i:=1) rfl).cell hg (j:=4*i+(3 - j)) (by omega);simp only[zW,za,zl,zc,aR,Nat.reduceAdd,zi g0,NU,NT,Q9,uZ,B3,we,HJ,pq];rw[zd (x:=4*(i:Int)) (by omega) (by omega),ze,za,zd (by omega) (by omega),wH,za,show(4*(i:Int)+(3 - (j:Int)))=((4*i+(3 - j):Nat):Int) by omega,zC (by omega),za,iX,Oi,hb.get (by omega),za,zz,za];have sa:=hb.lt (4*i+(3 - j));rw[zd (x:=256*(v:Int)) (by omega) (by omega),zr (by omega),ze,za,zd (by omega) (by omega),zP,za,zd (by omega) (by omega)];refine⟨⟨by trivial,j+1,by omega,?_⟩,by simp only[zu];omega⟩;have e1:nQ c (4*i+(4 - (j+1))) (j+1)=kv c (4*i+(3 - j))+256*v:=by
   show kv c (4*i+(4 - (j+1)))+256*nQ c (4*i+(4 - (j+1))+1) j=_;rw[show 4*i+(4 - (j+1))+1=4*i+(4 - j) by omega,DW,show 4*i+(4 - (j+1))=4*i+(3 - j) by omega]
  rw[e1,show(256*(v:Int)+(kv c (4*i+(3 - j)):Int))=((kv c (4*i+(3 - j))+256*v:Nat):Int) by omega,show(3 - (j:Int) - 1)=3 - ((j+1:Nat):Int) by omega];rfl
 ·have ej:j=4:=by omega
  subst ej;rw[<- DW];exact k
theorem HL(hm:qo m)(h:(Zo m p q).at_ H O){a i v:Nat}(ha:a<m.B)(hi:i<256)(hv:v<9223372036854775808)(k:∀ H' O',kS O O' H H'->(Zo m p (q.put a i v)).at_ H' O'->R (.tuple #[]) H'):Fc TP 169 #[zD p,zg a,zg i,zg v] H R:=by
 obtain⟨hq,sl,su,h0⟩:=h;have l0:=Lo.open h0;have nu:=hm.Ih;have hg:q.L[a]?=some (q.L.getD a zB):=by rw[jr,bU (by rw[hq.len];exact ha)];rfl
 have hb:=rL hq a;have GS:=FX hq a i v;have epu:q.put a i v=⟨q.L.set a (nW (q.L.getD a zB) (4*i) 4 v),q.c,q.full⟩:=rfl;rw[epu]at k GS;generalize q.L.getD a zB=c at hg hb k GS;refine fn169 ?_;simp only[sh169,Ul,UA,Us,Ub,UI,Ui,Uk,Uo,Uv,zm];refine zF.mk (fun s H'=>∃ (j:Nat) (cj:jn) (vj:Nat),j<=4/\vj<9223372036854775808/\jR cj/\nW cj (4*i+j) (4 - j) vj=nW c (4*i) 4 v/\s=(zg vj,zg j,())/\Lo O H H' [.box p (B4 m.x sl su m.tn (sg m.n m.st m.tn q.c) q.full) 138,.sl 65 1024 sl (q.L.set a cj),.sl 4 1 su (NF m q.c)])
  (fun s _=>mi s.2.1 fun x=>(4 - x).toNat) ⟨0,c,v,by omega,hv,hb,rfl,rfl,?_⟩ ?_
 ·have e:q.L.set a c=q.L:=by
   apply ku;intro j;rw[lU];split
   ·rename_i h1;subst h1;rw[hg,aU (by rw[hq.len];exact ha)]
   ·rfl
  rw[e];exact l0
 rintro _ H1 ⟨j,cj,vj,hj,hvj,hbj,he,rfl,l1⟩;simp only[zk,za,zb];refine⟨fun kc=>?_,fun lA=>?_⟩
 ·have g1:=l1.at (i:=0) rfl;have hgj:(q.L.set a cj)[a]?=some cj:=by rw[jX (by rw[hq.len];exact ha)]
  simp only[zl,zc,aR,Nat.reduceAdd,za,zi g1,NU,NT,Q9,uZ,B3,we,HJ,pq,zW];rw[zd (x:=4*(i:Int)) (by omega) (by omega),ze,za,zd (by omega) (by omega),z7 (by decide),za,zz,za,L1,show(4*(i:Int)+(j:Int))=((4*i+j:Nat):Int) by omega];obtain⟨b,o,wH,hp1⟩:=l1.BU (i:=1) (j:=a) (x:=4*i+j) (u:=.int .u8 (vj % 256:Nat)) (K:=fun H2=>Pu (z8 (some (.int .i64)) .quo (zg vj) (.int .i64 256)) fun x13=>Pu (z8 (some (.int .i64)) .add (zg j) (.int .i64 1)) fun TY=>(∃ (j:Nat) (cj:jn) (vj:Nat),j<=4/\vj<9223372036854775808/\jR cj/\nW cj (4*i+j) (4 - j) vj=nW c (4*i) 4 v/\(x13,TY,())=(zg vj,zg j,())/\Lo O H H2 [.box p (B4 m.x sl su m.tn (sg m.n m.st m.tn q.c) q.full) 138,.sl 65 1024 sl (q.L.set a cj),.sl 4 1 su (NF m q.c)])/\mi TY (fun x=>(4 - x).toNat)<mi (zg j) (fun x=>(4 - x).toNat)) rfl hgj (by omega) hbj.ok rfl rfl (fun H2 l2=>by
   rw[Zp (by decide),za,FV,zr (by omega),ze,za,zE,zr (by omega)];refine⟨⟨j+1,_,vj / 256,by omega,by omega,hbj.set (4*i+j) (m:=vj % 256) (kV _ (by omega)),?_,rfl,?_⟩,by simp only[zu];omega⟩
   ·rw[<- he,show 4 - j=(4 - (j+1))+1 by omega];rfl
   ·have e2:(q.L.set a cj).set a (cj.setIfInBounds (4*i+j) (.int .u8 (vj % 256:Nat)))=q.L.set a (cj.setIfInBounds (4*i+j) (.int .u8 (vj % 256:Nat))):=List.set_set ..;rw[<- e2];exact l2)
  rw[wH,za,zC (by omega),za,iX];exact hp1
 ·have ej:j=4:=by omega
  subst ej;have he:cj=nW c (4*i) 4 v:=he;obtain⟨O',st,mq⟩:=Lo.close (l:=[_,_,_]) (r:=[]) l1;rw[he]at mq;exact k H1 O' st ⟨GS,sl,su,mq⟩
end
end Go.Vc
namespace Go.Vc
open Go.Proofs
def uU(f:kM)(j v:Nat):kM:=fun k=>if k=j then v else f k
def tB(f:kM):kM:=uU f 3 ((f 3+1) % 4294967296)
def Pg.ny(q:Pg)(a:Nat)(b:jn):Pg:=⟨q.L.set a b,q.c,q.full⟩
def Pg.fin(m:Pm)(q:Pg)(f:kM)(top pl:Nat)(b:jn):Pg × kM:=
 if (q.take m).1.full then((q.take m).1,f) else(((q.take m).1.put top pl (q.take m).2).ny (q.take m).2 b,tB f)
def Pg.top(m:Pm)(q:Pg)(f:kM)(j:Nat):Pg × kM × Nat:=if f j=0 then((q.take m).1,tB f,(q.take m).2) else(q,f,f j)
def Pg.Tg(m:Pm)(q:Pg)(f:kM)(top pl r:Nat)(b:jn):Pg × kM:=
 if q.CO top pl=0 then
  if (q.take m).1.full then((q.take m).1,f) else Pg.fin m ((q.take m).1.put top pl (q.take m).2) (tB f) (q.take m).2 r b
 else Pg.fin m q f (q.CO top pl) r b
def Pg.file(m:Pm)(q:Pg)(f:kM)(idx:Int)(b:jn):Pg × kM:=
 if idx<0\/65802<=idx then(⟨q.L,q.c,true⟩,f)
 else if q.full then(q,f)
 else if idx<10 then
  if (q.take m).1.full then((q.take m).1,f) else((q.take m).1.ny (q.take m).2 b,tB (uU f (4+idx.toNat) (q.take m).2))
 else if idx<266 then
  if (Pg.top m q f 14).1.full then((Pg.top m q f 14).1,(Pg.top m q f 14).2.1) else Pg.fin m (Pg.top m q f 14).1 (uU (Pg.top m q f 14).2.1 14 (Pg.top m q f 14).2.2) (Pg.top m q f 14).2.2 (idx.toNat - 10) b
 else
  if (Pg.top m q f 15).1.full then((Pg.top m q f 15).1,(Pg.top m q f 15).2.1) else Pg.Tg m (Pg.top m q f 15).1 (uU (Pg.top m q f 15).2.1 15 (Pg.top m q f 15).2.2) (Pg.top m q f 15).2.2 ((idx.toNat - 266) / 256) ((idx.toNat - 266) % 256) b
abbrev Dw:=Nat->Option Nat
def mz(a:Dw)(t k:Nat):Dw:=fun i=>if i=t then some k else a i
def Pm.bk(m:Pm):Option Nat->Nat
 | none=>0
 | some k=>m.kC k
def yI:Nat->Nat->Nat
 | 0,r=>268+r
 | 1,r=>2+r
 | P+2,r=>524+256*P+r
theorem Qy{P P' r r':Nat}(hP:P<258)(hP':P'<258)(hr:r<256)(hr':r'<256)(h:yI P r=yI P' r'):P=P'/\r=r':=by
 match P,P' with
 | 0,0 | 1,1=>simp only[yI]at h;omega
 | 0,1 | 1,0 | 0,_+2 | _+2,0 | 1,_+2 | _+2,1=>simp only[yI]at h;omega
 | _+2,_+2=>simp only[yI]at h;omega
theorem Mb{P r:Nat}(hr:r<256):yI P r≠0/\yI P r≠1/\∀ i,i<10->yI P r≠258+i:=by
 match P with
 | 0 | 1 | _+2=>simp only[yI];refine⟨by omega,by omega,fun i hi=>by omega⟩
structure FR(m:Pm)(q:Pg)(f:kM)(a:Dw):Prop where
 fd:∀ i,i<10->f (4+i)=m.bk (a (258+i))
 f14:f 14=m.bk (a 0)
 f15:f 15=m.bk (a 1)
 no:∀ P,P<258->a P=none->∀ r,r<256->a (yI P r)=none
 ix:∀ P k,P<258->a P=some k->∀ r,r<256->q.CO (m.kC k) r=m.bk (a (yI P r))
 lt:∀ i k,a i=some k->k<q.c
 inj:∀ i j k,a i=some k->a j=some k->i=j
 z:∀ k,q.c<=k->k<m.n->q.L[m.kC k]?=some zB
section
variable{m:Pm}{q:Pg}{f:kM}{a:Dw}
theorem Bv(hm:qo m)(k:Nat):m.kC k≠0:=by have:=(m.nD hm k).1;have:=hm.da1;omega
theorem Xp(hm:qo m){o:Option Nat}(h:m.bk o=0):o=none:=by
 cases o with
 | none=>rfl
 | some k=>exact absurd h (Bv hm k)
theorem IK{q:Pg}{b i:Nat}(h:q.L[b]?=some zB):q.CO b i=0:=by
 unfold Pg.CO;rw[jr,h];exact Il (fun j=>Tu 1024 j) _ _
theorem WJ{q:Pg}(hq:nJ m q){b i v b' i':Nat}(hb:b<m.B)(hi:i<256)(DD:i'<256)(hv:v<4294967296):(q.put b i v).CO b' i'=if b=b'/\i=i' then v else q.CO b' i':=by
 unfold Pg.put Pg.CO;simp only;rw[jr,lU];by_cases h1:b=b'
 ·subst h1;rw[aU rfl,aU (by rw[hq.len];exact hb),Option.getD_some];have hB:=(rL hq b).n;by_cases h2:i=i'
  ·subst h2;rw[aU ⟨rfl,rfl⟩,Ga hB (by omega),mf (by omega)]
  ·rw[aH (fun h=>h2 h.2),qE hB (by omega) _ (by omega)]
 ·rw[aH h1,aH (fun h=>h1 h.1),jr]
theorem CN{q:Pg}{b b' i:Nat}{c:jn}(h:b≠b'):(q.ny b c).CO b' i=q.CO b' i:=by
 unfold Pg.ny Pg.CO;simp only;rw[jr,lU,aH h,jr]
theorem vW(hq:nJ m q)(b:Nat){c:jn}(hc:jR c):nJ m (q.ny b c):=by
 refine⟨by simp[Pg.ny,hq.len],fun x hx=>?_,hq.c⟩;rcases lD hx with h1 | h1
 ·exact hq.is x h1
 ·rw[h1];exact hc
theorem ZF(hc:q.c<m.n):q.take m=(⟨q.L,q.c+1,q.full⟩,m.kC q.c):=by unfold Pg.take;rw[aU hc]
theorem qu(hc:¬ q.c<m.n):q.take m=(⟨q.L,q.c,true⟩,0):=by unfold Pg.take;rw[aH hc]
theorem FR.grow(hm:qo m)(h:FR m q f a)(hc:q.c<m.n){t:Nat}{q':Pg}{f':kM}(DZ:t<258->a t=none/\∀ r,r<256->q'.CO (m.kC q.c) r=0)
   (hold:∀ P k r,P<258->r<256->a P=some k->yI P r≠t->q'.CO (m.kC k) r=q.CO (m.kC k) r)
   (acI:∀ P r,P<258->r<256->yI P r=t->∃ k,a P=some k/\q'.CO (m.kC k) r=m.kC q.c)
   (hz:∀ k,q.c<k->k<m.n->q'.L[m.kC k]?=some zB) (Ot:q'.c=q.c+1)
   (fd:∀ i,i<10->f' (4+i)=m.bk (mz a t q.c (258+i))) (f14:f' 14=m.bk (mz a t q.c 0)) (f15:f' 15=m.bk (mz a t q.c 1)):FR m q' f' (mz a t q.c):=by
 refine⟨fd,f14,f15,fun P hP hn r hr=>?_,fun P k hP hk r hr=>?_,fun i k hi=>?_,fun i j k hi hj=>?_,fun k h1 h2=>hz k (by omega) h2⟩
 · unfold mz at hn ⊢
   split at hn
   · cases hn
   · have h1:=h.no P hP hn r hr
     rw[aH fun e=>?_]
     · exact h1
     · obtain⟨k,hk,_⟩:=acI P r hP hr e
       rw[hk]at hn;cases hn
 · unfold mz at hk
   split at hk
   · rename_i e
     subst e
     injection hk with hk;subst hk
     obtain⟨h1,h2⟩:=DZ hP
     rw[h2 r hr]
     have h3:=h.no P hP h1 r hr
     unfold mz
     rw[aH fun e=>?_,h3]
     · rfl
     · obtain⟨k,hk,_⟩:=acI P r hP hr e
       rw[hk]at h1;cases h1
   · by_cases e:yI P r=t
     · obtain⟨k',Oj,hg⟩:=acI P r hP hr e
       rw[Oj]at hk;injection hk with hk;subst hk
       rw[hg];unfold mz;rw[aU e];rfl
     · rw[hold P k r hP hr hk e,h.ix P k hP hk r hr]
       unfold mz;rw[aH e]
 · unfold mz at hi
   split at hi
   · injection hi with hi;omega
   · have:=h.lt i k hi;omega
 · unfold mz at hi hj
   split at hi<;>split at hj
   · omega
   · injection hi with hi;have:=h.lt j k hj;omega
   · injection hj with hj;have:=h.lt i k hi;omega
   · exact h.inj i j k hi hj
theorem qs{t k i:Nat}(h:i≠t):mz a t k i=a i:=aH h
theorem tG{t k:Nat}:mz a t k t=some k:=aU rfl
theorem sP{j v k:Nat}(h:k≠j):uU f j v k=f k:=aH h
theorem Qa{j v:Nat}:uU f j v j=v:=aU rfl
theorem yr{k:Nat}(h:k≠3):tB f k=f k:=aH h
theorem FR.child(hm:qo m)(hq:nJ m q)(h:FR m q f a)(hc:q.c<m.n){P k r:Nat}(hP:P<258)(hr:r<256)(hk:a P=some k){b:jn}(hb:jR b)(DZ:yI P r<258->a (yI P r)=none/\b=zB) :
   FR m (((q.take m).1.put (m.kC k) r (m.kC q.c)).ny (m.kC q.c) b) (tB f) (mz a (yI P r) q.c):=by
 have nu:=hm.Ih
 have sa:=fun k=>m.nD hm k
 have hkc:=h.lt P k hk
 have ne:∀ {i j:Nat},i<m.n->j<m.n->i≠j->m.kC i≠m.kC j:=fun hi hj jZ e=>jZ (m.w8 hm hi hj e)
 have X2:nJ m (q.take m).1:=ph hq
 rw[ZF hc]at X2 ⊢
 simp only at X2 ⊢
 have gp:∀ b' i',i'<256->((⟨q.L,q.c+1,q.full⟩:Pg).put (m.kC k) r (m.kC q.c)).CO b' i'=if m.kC k=b'/\r=i' then m.kC q.c else q.CO b' i':=fun b' i' DD=>by
   have:=WJ X2 (b:=m.kC k) (i:=r) (v:=m.kC q.c) (b':=b') (i':=i') (sa k).2 hr DD (by have:=(sa q.c).2;omega)
   exact this
 have hn:=Mb (P:=P) hr
 refine h.grow hm hc (fun ht=>⟨(DZ ht).1,fun r' hr'=>?_⟩) (fun P' k' r' hP' hr' Oj jZ=>?_) (fun P' r' hP' hr' e=>?_) (fun k' h1 h2=>?_) rfl (fun i hi=>?_) ?_ ?_
 · refine IK ?_
   have hb:=(DZ ht).2
   subst hb
   show((_:List jn).set (m.kC q.c) zB)[m.kC q.c]?=_
   rw[jX]
   have:=X2.len
   simp only[Pg.put,lV]
   have:=(sa q.c).2
   have:=hq.len
   omega
 · have apT:=h.lt P' k' Oj
   rw[CN (ne hc (by omega) (by omega)),gp _ _ hr',aH]
   rintro⟨e1,e2⟩
   have e3:=m.w8 hm (by omega) (by omega) e1
   subst e3 e2
   have:=h.inj P P' k hk Oj
   subst this
   exact jZ rfl
 · obtain⟨e1,e2⟩:=Qy hP' hP hr' hr e
   subst e1 e2
   exact⟨k,hk,by rw[CN (ne hc (by omega) (by omega)),gp _ _ hr,aU ⟨rfl,rfl⟩]⟩
 · show(((_:List jn).set (m.kC k) _).set (m.kC q.c) b)[m.kC k']?=_
   rw[jy (ne hc h2 (by omega)),jy (ne (by omega) h2 (by omega))]
   exact h.z k' (by omega) h2
 · rw[yr (by omega),qs (fun e=>hn.2.2 i hi e.symm)];exact h.fd i hi
 · rw[yr (by omega),qs (fun e=>hn.1 e.symm)];exact h.f14
 · rw[yr (by omega),qs (fun e=>hn.2.1 e.symm)];exact h.f15
theorem xl{b:Nat}{c:jn}(h:q.L[b]?=some c):q.ny b c=q:=by
 unfold Pg.ny;have:q.L.set b c=q.L:=by
  apply ku;intro j;rw[lU];split
  ·rename_i h1;subst h1;split
   ·exact h.symm
   ·rename_i h2;rw[eR (by omega)]at h;cases h
  ·rfl
 rw[this]
theorem FR.root(hm:qo m)(hq:nJ m q)(h:FR m q f a)(hc:q.c<m.n){t:Nat}{b:jn}{f':kM}(ht:t=0\/t=1\/∃ i,i<10/\t=258+i)(DZ:t<258->a t=none/\b=zB)
   (fd:∀ i,i<10->f' (4+i)=m.bk (mz a t q.c (258+i))) (f14:f' 14=m.bk (mz a t q.c 0)) (f15:f' 15=m.bk (mz a t q.c 1)) :
   FR m ((q.take m).1.ny (m.kC q.c) b) f' (mz a t q.c):=by
 have sa:=fun k=>m.nD hm k
 have ne:∀ {i j:Nat},i<m.n->j<m.n->i≠j->m.kC i≠m.kC j:=fun hi hj jZ e=>jZ (m.w8 hm hi hj e)
 rw[ZF hc]
 have hns:∀ P r,P<258->r<256->yI P r≠t:=fun P r hP hr e=>by
   have hn:=Mb (P:=P) hr
   rcases ht with h1 | h1 | ⟨i,hi,h1⟩
   · exact hn.1 (e.trans h1)
   · exact hn.2.1 (e.trans h1)
   · exact hn.2.2 i hi (e.trans h1)
 refine h.grow hm hc (fun h1=>⟨(DZ h1).1,fun r hr=>?_⟩) (fun P k r hP hr hk jZ=>?_) (fun P r hP hr e=>absurd e (hns P r hP hr)) (fun k h1 h2=>?_) rfl fd f14 f15
 · have hb:=(DZ h1).2
   subst hb
   refine IK ?_
   show(q.L.set (m.kC q.c) zB)[m.kC q.c]?=_
   rw[jX (by rw[hq.len];exact(sa q.c).2)]
 · have:=h.lt P k hk
   exact CN (ne hc (by omega) (by omega))
 · show(q.L.set (m.kC q.c) b)[m.kC k]?=_
   rw[jy (ne hc h2 (by omega))]
   exact h.z k (by omega) h2
end
theorem A6{f:kM}(h:lE f){j v:Nat}(hj:2<=j)(hv:v<4294967296):lE (uU f j v):=fun i hi=>by
 unfold uU;split
 ·rename_i e;subst e;unfold fw;rw[aH (by omega)];exact hv
 ·exact h i hi
theorem qL{f:kM}(h:lE f):lE (tB f):=A6 h (by omega) (kV _ (by omega))
structure um(m:Pm)(q:Pg)(f:kM)(r:Pg × kM)(need:Nat)(a':Dw):Prop where
 ok:nJ m r.1
 kept:∀ j,j<3->r.2 j=f j
 ino:lE f->lE r.2
 yes:q.c+need<=m.n->r.1.full=false/\r.1.c=q.c+need/\FR m r.1 r.2 a'
 no:¬ q.c+need<=m.n->r.1.full=true
section
variable{m:Pm}{q:Pg}{f:kM}{a:Dw}
theorem Bo(hm:qo m)(hq:nJ m q)(h:FR m q f a)(uz:q.full=false){P k r:Nat}(hP:P<258)(hr:r<256)(hk:a P=some k)(hs:258<=yI P r){b:jn}(hb:jR b) :
   um m q f (Pg.fin m q f (m.kC k) r b) 1 (mz a (yI P r) q.c):=by
 unfold Pg.fin
 by_cases hc:q.c<m.n
 · have e1:(q.take m).1.full=false:=by rw[ZF hc];exact uz
   have e2:(q.take m).2=m.kC q.c:=by rw[ZF hc]
   rw[aH (by rw[e1];decide),e2]
   refine⟨vW (FX (ph hq) _ _ _) _ hb,fun j hj=>yr (by omega),qL,fun _=>⟨e1,?_,h.child hm hq hc hP hr hk hb fun kc=>by omega⟩,fun hn=>by omega⟩
   rw[ZF hc];rfl
 · rw[qu hc,aU rfl]
   exact⟨⟨hq.len,hq.is,hq.c⟩,fun _ _=>rfl,id,fun hn=>by omega,fun _=>rfl⟩
theorem FG(hm:qo m)(hq:nJ m q)(h:FR m q f a){j t:Nat}(hj:j=14/\t=0\/j=15/\t=1)(hz:a t=none)(hc:q.c<m.n) :
   FR m (q.take m).1 (uU (tB f) j (m.kC q.c)) (mz a t q.c):=by
 have hb:=m.nD hm q.c
 have e:(q.take m).1.ny (m.kC q.c) zB=(q.take m).1:=xl (by rw[ZF hc];exact h.z q.c (iU _) hc)
 have:=h.root (t:=t) (b:=zB) (f':=uU (tB f) j (m.kC q.c)) hm hq hc (by omega) (fun _=>⟨hz,rfl⟩) (fun i hi=>?_) ?_ ?_
 · rw[e]at this;exact this
 · rw[sP (by omega),yr (by omega),qs (by omega)];exact h.fd i hi
 · rcases hj with ⟨rfl,rfl⟩ | ⟨rfl,rfl⟩
   · rw[Qa,tG];rfl
   · rw[sP (by omega),yr (by omega),qs (by omega)];exact h.f14
 · rcases hj with ⟨rfl,rfl⟩ | ⟨rfl,rfl⟩
   · rw[sP (by omega),yr (by omega),qs (by omega)];exact h.f15
   · rw[Qa,tG];rfl
theorem BH{j:Nat}:uU f j (f j)=f:=by
 funext k;unfold uU;split
 ·rename_i h;rw[h]
 ·rfl
def need(a:Dw)(i:Nat):Nat:=
 if i<10 then 1 else if i<266 then(if a 0=none then 2 else 1) else if a 1=none then 3 else if a (2+(i - 266) / 256)=none then 2 else 1
def grow(a:Dw)(c i:Nat):Dw:=
 if i<10 then mz a (258+i) c
 else if i<266 then(if a 0=none then mz (mz a 0 c) (258+i) (c+1) else mz a (258+i) c)
 else if a 1=none then mz (mz (mz a 1 c) (2+(i - 266) / 256) (c+1)) (258+i) (c+2)
 else if a (2+(i - 266) / 256)=none then mz (mz a (2+(i - 266) / 256) c) (258+i) (c+1) else mz a (258+i) c
theorem um.after{q1:Pg}{f1:kM}{r:Pg × kM}{n1 n2:Nat}{a':Dw}(h:um m q1 f1 r n2 a')(hc:q1.c=q.c+n1)(hk:∀ j,j<3->f1 j=f j)(hi:lE f->lE f1):um m q f r (n1+n2) a':=
 ⟨h.ok,fun j hj=>(h.kept j hj).trans (hk j hj),fun x=>h.ino (hi x),fun hn=>by obtain⟨y1,y2,y3⟩:=h.yes (by omega);exact⟨y1,by omega,y3⟩,fun hn=>h.no (by omega)⟩
theorem No(hm:qo m)(hq:nJ m q)(h:FR m q f a)(uz:q.full=false){k pl r:Nat}(hk:a 1=some k)(nX:pl<256)(hr:r<256){b:jn}(hb:jR b) :
   um m q f (Pg.Tg m q f (m.kC k) pl r b) (if a (2+pl)=none then 2 else 1) (if a (2+pl)=none then mz (mz a (2+pl) q.c) (yI (2+pl) r) (q.c+1) else mz a (yI (2+pl) r) q.c):=by
 have hg:q.CO (m.kC k) pl=m.bk (a (2+pl)):=h.ix 1 k (by omega) hk pl nX
 have uy:258<=yI (2+pl) r:=by rw[ad7];simp only[yI];omega
 unfold Pg.Tg
 rw[hg]
 by_cases hn:a (2+pl)=none
 · rw[aU hn,aU hn,hn,aU (show m.bk none=0 from rfl)]
   by_cases hc:q.c<m.n
   · have sa:=m.nD hm q.c
     have e1:(q.take m).1.full=false:=by rw[ZF hc];exact uz
     have e2:(q.take m).2=m.kC q.c:=by rw[ZF hc]
     have hq2:=FX (ph hq) (m.kC k) pl (m.kC q.c)
     have ne:m.kC q.c≠m.kC k:=fun e=>by have:=h.lt 1 k hk;have:=m.w8 hm hc (by omega) e;omega
     have h2:=h.child hm hq hc (P:=1) (r:=pl) (b:=zB) (by omega) nX hk z6 (fun _=>⟨hn,rfl⟩)
     rw[xl (by
       show((q.take m).1.L.set (m.kC k) _)[m.kC q.c]?=_
       rw[jy (fun e=>ne e.symm),ZF hc]
       exact h.z q.c (iU _) hc)]at h2
     rw[aH (by rw[e1];decide),e2]
     have agz:((q.take m).1.put (m.kC k) pl (m.kC q.c)).c=q.c+1:=by rw[ZF hc];rfl
     have h3:=Bo hm hq2 h2 e1 (P:=2+pl) (k:=q.c) (r:=r) (by omega) hr (show mz a (yI 1 pl) q.c (2+pl)=some q.c from tG) uy hb
     rw[agz]at h3
     exact h3.after agz (fun j hj=>yr (by omega)) qL
   · rw[qu hc,aU rfl]
     exact⟨⟨hq.len,hq.is,hq.c⟩,fun _ _=>rfl,id,fun hx=>by omega,fun _=>rfl⟩
 · rw[aH hn,aH hn]
   cases hl:a (2+pl) with
   | none=>exact absurd hl hn
   | some k2=>
     rw[aH (show ¬ m.bk (some k2)=0 from Bv hm k2)]
     exact Bo hm hq h uz (by omega) hr hl uy hb
theorem CV(hm:qo m)(hq:nJ m q)(h:FR m q f a)(uz:q.full=false){i:Nat}(hi:i<65802){b:jn}(hb:jR b):um m q f (Pg.file m q f i b) (need a i) (grow a q.c i):=by
 have nu:=hm.Ih;have adS:∀ k,m.kC k<4294967296:=fun k=>by have:=(m.nD hm k).2;omega
 unfold Pg.file need grow;rw[aH (by omega),aH (by rw[uz];decide),jK];by_cases tY:i<10
 ·rw[aU (by omega),aU tY,aU tY];by_cases hc:q.c<m.n
  ·have e1:(q.take m).1.full=false:=by rw[ZF hc];exact uz
   have e2:(q.take m).2=m.kC q.c:=by rw[ZF hc]
   rw[aH (by rw[e1];decide),e2];refine⟨vW (ph hq) _ hb,fun j hj=>(yr (by omega)).trans (sP (by omega)),fun hx=>qL (A6 hx (by omega) (adS _)),fun _=>⟨e1,by rw[ZF hc];rfl,?_⟩,fun hn=>by omega⟩;refine h.root hm hq hc (t:=258+i) (f':=tB (uU f (4+i) (m.kC q.c))) (.inr (.inr ⟨i,tY,rfl⟩)) (fun kc=>by omega) (fun j hj=>?_) ?_ ?_
   ·rw[yr (by omega)];unfold uU mz;by_cases e:4+j=4+i
    ·rw[aU e,aU (by omega)];rfl
    ·rw[aH e,aH (by omega)];exact h.fd j hj
   ·rw[yr (by omega),sP (by omega),qs (by omega)];exact h.f14
   ·rw[yr (by omega),sP (by omega),qs (by omega)];exact h.f15
  ·rw[qu hc,aU rfl];exact⟨⟨hq.len,hq.is,hq.c⟩,fun _ _=>rfl,id,fun hn=>by omega,fun _=>rfl⟩
 ·rw[aH (by omega),aH tY,aH tY];by_cases IJ:i<266
  ·rw[aU (by omega),aU IJ,aU IJ];have es:yI 0 (i - 10)=258+i:=by simp only[yI];omega
   by_cases hz:a 0=none
   ·have f14:f 14=0:=by rw[h.f14,hz];rfl
    have et:Pg.top m q f 14=((q.take m).1,tB f,(q.take m).2):=by unfold Pg.top;rw[aU f14]
    rw[et,aU hz,aU hz];simp only;by_cases hc:q.c<m.n
    ·have e1:(q.take m).1.full=false:=by rw[ZF hc];exact uz
     have e2:(q.take m).2=m.kC q.c:=by rw[ZF hc]
     rw[aH (by rw[e1];decide),e2];have h1:=FG hm hq h (.inl ⟨rfl,rfl⟩) hz hc;have ec:(q.take m).1.c=q.c+1:=by rw[ZF hc]
     have h2:=Bo hm (ph hq) h1 e1 (P:=0) (k:=q.c) (r:=i - 10) (by omega) (by omega) tG (by omega) hb;rw[es,ec]at h2;exact h2.after ec (fun j hj=>by rw[sP (by omega),yr (by omega)]) fun hx=>A6 (qL hx) (by omega) (adS _)
    ·rw[qu hc,aU rfl];exact⟨⟨hq.len,hq.is,hq.c⟩,fun j hj=>yr (by omega),qL,fun hn=>by omega,fun _=>rfl⟩
   ·cases hl:a 0 with
    | none=>exact absurd hl hz
    | some k=>
     have f14:f 14=m.kC k:=by rw[h.f14,hl];rfl
     have et:Pg.top m q f 14=(q,f,f 14):=by unfold Pg.top;rw[aH (by rw[f14];exact Bv hm k)]
     rw[et];simp only;rw[aH (by rw[uz];decide),aH (show ¬ some k=none by simp),aH (show ¬ some k=none by simp),BH,f14,<- es];exact Bo hm hq h uz (by omega) (by omega) hl (by omega) hb
  ·rw[aH (by omega),aH IJ,aH IJ];have nX:(i - 266) / 256<256:=by omega
   have hr:(i - 266) % 256<256:=kV _ (by omega);have es:yI (2+(i - 266) / 256) ((i - 266) % 256)=258+i:=by rw[ad7 2];simp only[yI];omega
   by_cases hz:a 1=none
   ·have f15:f 15=0:=by rw[h.f15,hz];rfl
    have et:Pg.top m q f 15=((q.take m).1,tB f,(q.take m).2):=by unfold Pg.top;rw[aU f15]
    rw[et,aU hz,aU hz];simp only;by_cases hc:q.c<m.n
    ·have e1:(q.take m).1.full=false:=by rw[ZF hc];exact uz
     have e2:(q.take m).2=m.kC q.c:=by rw[ZF hc]
     rw[aH (by rw[e1];decide),e2];have h1:=FG hm hq h (.inr ⟨rfl,rfl⟩) hz hc;have ec:(q.take m).1.c=q.c+1:=by rw[ZF hc]
     have h2:=No hm (ph hq) h1 e1 (k:=q.c) (pl:=(i - 266) / 256) (r:=(i - 266) % 256) tG nX hr hb;have hn2:mz a 1 q.c (2+(i - 266) / 256)=none:=by
      rw[qs (by omega)];exact h.no 1 (by omega) hz ((i - 266) / 256) nX
     rw[aU hn2,aU hn2,es,ec]at h2;exact h2.after ec (fun j hj=>by rw[sP (by omega),yr (by omega)]) fun hx=>A6 (qL hx) (by omega) (adS _)
    ·rw[qu hc,aU rfl];exact⟨⟨hq.len,hq.is,hq.c⟩,fun j hj=>yr (by omega),qL,fun hn=>by omega,fun _=>rfl⟩
   ·cases hl:a 1 with
    | none=>exact absurd hl hz
    | some k=>
     have f15:f 15=m.kC k:=by rw[h.f15,hl];rfl
     have et:Pg.top m q f 15=(q,f,f 15):=by unfold Pg.top;rw[aH (by rw[f15];exact Bv hm k)]
     rw[et];simp only;rw[aH (by rw[uz];decide),aH (show ¬ some k=none by simp),aH (show ¬ some k=none by simp),BH,f15];have h2:=No hm hq h uz hl nX hr hb;rw[es]at h2;exact h2
end
end Go.Vc
