/- Parts of a proof, joined in build order: a calculus of contracts, contracts of functions. -/
import Derived.Test.YtgkadmojokfohaaGreatFSE
import Derived.ChangeArms
import Derived.Test.YtgkadmojokfohaaGreatProg
import Derived.Test.YtgkadmojokfohaaGreatFSF
set_option linter.unusedVariables false
set_option linter.unusedSimpArgs false
namespace Go.Vc
theorem rowH_load {H:Hp} {b o n:Nat} {c:Array Value} (h:rowH H ⟨b,o,none⟩ n=some c):zb (some (some n)) (.pointer (some ⟨b,o,none⟩)) H=some (.agg c):=by
 simp only [zb,h,Option.map_some]
theorem rowH_cell {H:Hp} {b o n:Nat} {c:Array Value} (h:rowH H ⟨b,o,none⟩ n=some c) {j:Nat} (hj:j<n):zb (some none) (.pointer (some ⟨b,o+j,none⟩)) H=c[j]?:=by
 have:=(cellH_row h).2 j hj
 rw [Addr.add_mk] at this
 exact this
structure Sr (n:Nat) (H:Hp) (s:Value) (vs:List (Array Value)):Prop where
 is:∃ (base:Option Addr) (cap:Nat),s=.slice base vs.length cap∧vs.length≤cap∧(vs≠[]→∃ b o,base=some ⟨b,o,none⟩∧∀ i v,vs[i]?=some v→rowH H ⟨b,o+i*n,none⟩ n=some v)
section
variable {T n:Nat} {H H':Hp} {s:Value} {vs:List (Array Value)}
theorem Sr.nil (n:Nat) (H:Hp):Sr n H (.slice none 0 0) []:=⟨none,0,rfl,Nat.le_refl _,fun h=>absurd rfl h⟩
theorem Sr.ext (h:Sr n H s vs) (hx:Ext H H'):Sr n H' s vs:=by
 obtain ⟨base,cap,rfl,hle,h⟩:=h
 refine ⟨base,cap,rfl,hle,fun hne=>?_⟩
 obtain ⟨b,o,rfl,h2⟩:=h hne
 exact ⟨b,o,rfl,fun i v hi=>rowH_ext hx (h2 i v hi)⟩
theorem Sr.len (h:Sr n H s vs):∃ b c,s=.slice b vs.length c:=by
 obtain ⟨base,cap,rfl,_⟩:=h; exact ⟨base,cap,rfl⟩
theorem Sr.lenE {P:Program} {S:TypeId} {e:TypeId} (h:Sr n H s vs) (hu:P.underlying S=some (.slice e)):lenE P S s=some (.int .i64 vs.length):=by
 obtain ⟨b,c,rfl⟩:=h.len; exact len_slice hu
theorem Sr.elem (h:Sr n H s vs) {i:Nat} {v:Array Value} (hi:vs[i]?=some v):∃ b o,rowH H ⟨b,o,none⟩ n=some v∧∀ k,zh (some (none,n)) s (.int k i)=some (.pointer (some ⟨b,o,none⟩)):=by
 obtain ⟨base,cap,rfl,hle,h⟩:=h
 have hlt:i<vs.length:=by
   rcases Nat.lt_or_ge i vs.length with h1 | h1
   · exact h1
   · rw [List.getElem?_eq_none h1] at hi; cases hi
 obtain ⟨b,o,rfl,h2⟩:=h fun e=>by subst e; simp at hlt
 refine ⟨b,o+i*n,h2 i v hi,fun k=>?_⟩
 have:=@idx_slc vs.length cap n b o k i (by omega) (by omega)
 simpa using this
theorem Sr.cell (h:Sr n H s vs) {i j:Nat} {v:Array Value} (hi:vs[i]?=some v) (hj:j<n):∃ b o,(∀ k,zh (some (none,n)) s (.int k i)=some (.pointer (some ⟨b,o,none⟩)))∧zb (some none) (.pointer (some ⟨b,o+j,none⟩)) H=v[j]?:=by
 obtain ⟨b,o,hr,ha⟩:=h.elem hi
 exact ⟨b,o,ha,rowH_cell hr hj⟩
theorem Sr.row (h:Sr n H s vs) {i:Nat} {v:Array Value} (hi:vs[i]?=some v):∃ b o,(∀ k,zh (some (none,n)) s (.int k i)=some (.pointer (some ⟨b,o,none⟩)))∧zb (some (some n)) (.pointer (some ⟨b,o,none⟩)) H=some (.agg v):=by
 obtain ⟨b,o,hr,ha⟩:=h.elem hi
 exact ⟨b,o,ha,rowH_load hr⟩
theorem Sv.sr (h:Sv T n H s vs):Sr n H s vs:=by
 obtain ⟨base,cap,rfl,hle,hn,h⟩:=h
 refine ⟨base,cap,rfl,hle,fun hne=>?_⟩
 have hpos:0<vs.length:=List.length_pos_iff.2 hne
 cases base with
 | none=>simp only at h; omega
 | some a=>
   obtain ⟨hsp,cs,hg,hsz,h⟩:=h
   obtain ⟨blk,off,sp⟩:=a
   simp only at hsp hg hsz h
   subst hsp
   refine ⟨blk,off,rfl,fun i v hi=>?_⟩
   have hlt:i<vs.length:=by
     rcases Nat.lt_or_ge i vs.length with h1 | h1
     · exact h1
     · rw [List.getElem?_eq_none h1] at hi; cases hi
   have hm:(i+1)*n≤cap*n:=Nat.mul_le_mul_right n (by omega)
   rw [Nat.add_mul,Nat.one_mul] at hm
   unfold rowH
   simp only [hg]
   rw [if_pos ⟨trivial,by omega⟩,h i v hi]
end
theorem mapM_cells {H:Hp} {a:Addr}:∀ (l:List Nat) (r:List Value),(l.mapM fun i=>YZ H (a.add i))=some r→r.length=l.length∧∀ k i:Nat,l[k]?=some i→YZ H (a.add i)=r[k]?:=by
 intro l
 induction l with
 | nil=>intro r h; simp only [List.mapM_nil] at h; injection h with h; subst h; exact ⟨rfl,fun k i hk=>by simp at hk⟩
 | cons x l ih=>
   intro r h
   rw [List.mapM_cons] at h
   cases hc:YZ H (a.add x) with
   | none=>rw [hc] at h; cases h
   | some v=>
     rw [hc] at h
     cases hm:(l.mapM fun i=>YZ H (a.add i)) with
     | none=>rw [hm] at h; cases h
     | some r'=>
       rw [hm] at h
       injection h with h
       subst h
       obtain ⟨h1,h2⟩:=ih r' hm
       refine ⟨by simp [h1],fun k i hk=>?_⟩
       cases k with
       | zero=>simp only [List.getElem?_cons_zero,Option.some.injEq] at hk; subst hk; simpa using hc
       | succ k=>simp only [List.getElem?_cons_succ] at hk ⊢; exact h2 k i hk
theorem add_zero (a:Addr):a.add 0=a:=by unfold Addr.add; rw [if_pos rfl]
theorem cells_row {w:World} {a:Addr} {n:Nat} {r:List Value} (hn:0<n) (h:w.cells? 0 a n=some r):a.spot=none∧rowH w.heap a n=some r.toArray:=by
 unfold World.cells? at h
 rw [if_pos (Nat.zero_le _)] at h
 obtain ⟨hl,hg⟩:=mapM_cells (H:=w.heap) (a:=a) (List.range n) r h
 rw [List.length_range] at hl
 have hat:∀ k,k<n→YZ w.heap (a.add k)=r[k]?:=fun k hk=>hg k k (by rw [List.getElem?_range hk])
 have hsome:∀ k,k<n→∃ v,YZ w.heap (a.add k)=some v:=fun k hk=>by
   rw [hat k hk]; exact ⟨r[k]'(by omega),List.getElem?_eq_getElem (by omega)⟩
 have hsp:a.spot=none:=by
   obtain ⟨v,hv⟩:=hsome 0 hn
   rw [add_zero] at hv
   unfold YZ at hv
   split at hv
   · split at hv
     · cases hv
     · rename_i h1; simpa using h1
   · cases hv
 refine ⟨hsp,?_⟩
 obtain ⟨b,o,sp⟩:=a
 simp only at hsp
 subst hsp
 simp only [Addr.add_mk] at hat hsome
 have key:∃ c T z,w.heap[b]?=some (.cells c T z)∧∀ k,k<n→c[o+k]?=r[k]?:=by
   obtain ⟨v,hv⟩:=hsome 0 hn
   unfold YZ at hv
   split at hv
   · rename_i c T z hb
     refine ⟨c,T,z,hb,fun k hk=>?_⟩
     rw [← hat k hk]
     unfold YZ
     simp only [hb]
     simp
   · cases hv
 obtain ⟨c,T,z,hb,hc⟩:=key
 have hsz:o+n≤c.size:=by
   have h1:=hc (n - 1) (by omega)
   rw [List.getElem?_eq_getElem (show n - 1<r.length by omega)] at h1
   rcases Nat.lt_or_ge (o+(n - 1)) c.size with h2 | h2
   · omega
   · rw [Array.getElem?_eq_none h2] at h1; cases h1
 unfold rowH
 simp only [hb]
 rw [if_pos ⟨trivial,hsz⟩]
 congr 1
 refine yv (by simpa using hl) hsz fun j hj=>?_
 rw [hc j hj]; simp
theorem trod_sr {K:Type} {enc:TypeId × Value→K} {P:Program} {w:World} {sp:Nat→Bool} {hd:Bool} {fuel n:Nat} {t e:TypeId} {s:Value} {x:DataW K × List MemPlace} (ht:P.underlying t=some (.slice e)) (hn:P.cellsOf e=n) (hp:0<n)
   (h:DataW.trod enc P w 0 sp hd fuel t [s]=some x) :
   ∃ (vs:List (Array Value)) (m:Nat) (ds:List (DataW K × List MemPlace)),Sr n w.heap s vs∧ds.length=vs.length∧(∀ (i:Nat) (v:Array Value),vs[i]?=some v→DataW.trod enc P w 0 sp hd m e v.toList=ds[i]?)∧vs.length≤maxLen∧(vs=[]∧ds=[]∨∃ r,x.1=.slice (ds.map (·.1)) r):=by
 rcases DataW.trod_slice ht h with ⟨h1,h2⟩ | ⟨a,len,cap,elems,rest,m,hf,hcs,hx,hb,hle,hcap,hel,hat,_⟩
 · injection h1 with h1; subst h1
   exact ⟨[],0,[],Sr.nil n _,rfl,fun i v hi=>by simp at hi,Nat.zero_le _,.inl ⟨rfl,rfl⟩⟩
 · injection hcs with hcs; subst hcs
   rw [hn] at hat
   have hsome:∀ i,i<len→∃ r,w.cells? 0 (a.add (i*n)) n=some r∧DataW.trod enc P w 0 sp hd m e r=elems[i]?:=fun i hi=>by
     have h1:=hat i hi
     rw [List.getElem?_eq_getElem (show i<elems.length by omega)] at h1 ⊢
     cases hc:w.cells? 0 (a.add (i*n)) n with
     | none=>rw [hc] at h1; cases h1
     | some r=>rw [hc] at h1; exact ⟨r,rfl,h1⟩
   refine ⟨(List.range len).map fun i=>((w.cells? 0 (a.add (i*n)) n).getD []).toArray,m,elems,⟨some a,cap,by simp,by simpa using hle,fun hne=>?_⟩,by simpa using hel,fun i v hi=>?_,by simp; omega,.inr ⟨_,by rw [hx]⟩⟩
   · have hpos:0<len:=by
       rcases Nat.eq_zero_or_pos len with h0 | h0
       · subst h0; exact absurd rfl hne
       · exact h0
     obtain ⟨r0,hr0,_⟩:=hsome 0 hpos
     rw [Nat.zero_mul,add_zero] at hr0
     have hsp:=(cells_row hp hr0).1
     obtain ⟨b,o,s2⟩:=a
     simp only at hsp
     subst hsp
     refine ⟨b,o,rfl,fun i v hi=>?_⟩
     rw [List.getElem?_map] at hi
     cases hri:(List.range len)[i]? with
     | none=>rw [hri] at hi; cases hi
     | some j=>
       rw [hri] at hi
       have hil:i<len:=by
         rcases Nat.lt_or_ge i len with h1 | h1
         · exact h1
         · rw [List.getElem?_eq_none (by simpa using h1)] at hri; cases hri
       rw [List.getElem?_range hil] at hri
       injection hri with hri; subst hri
       obtain ⟨r,hr,_⟩:=hsome i hil
       simp only [Option.map_some,hr,Option.getD_some] at hi
       injection hi with hi; subst hi
       have:=(cells_row hp hr).2
       rw [Addr.add_mk] at this
       exact this
   · rw [List.getElem?_map] at hi
     cases hri:(List.range len)[i]? with
     | none=>rw [hri] at hi; cases hi
     | some j=>
       rw [hri] at hi
       have hil:i<len:=by
         rcases Nat.lt_or_ge i len with h1 | h1
         · exact h1
         · rw [List.getElem?_eq_none (by simpa using h1)] at hri; cases hri
       rw [List.getElem?_range hil] at hri
       injection hri with hri; subst hri
       obtain ⟨r,hr,ht2⟩:=hsome i hil
       simp only [Option.map_some,hr,Option.getD_some] at hi
       injection hi with hi; subst hi
       simpa using ht2
end Go.Vc
namespace Go.Vc
open Classical
structure Ob where
 at_:Hp→(Nat→Prop)→Prop
 own:∀ {H:Hp} {O:Nat→Prop},at_ H O→∀ b,O b→b<H.size
 frame:∀ {H H':Hp} {O O':Nat→Prop},at_ H O→(∀ b,O b→H'[b]?=H[b]?)→H.size≤H'.size→(∀ b,O b→O' b)→(∀ b,O' b→b<H'.size)→at_ H' O'
structure Wd (col:Nat→Nat) (H:Hp) (l:List Ob):Prop where
 obs:∀ (i:Nat) (x:Ob),l[i]?=some x→x.at_ H fun b=>col b=i+1
 out:∀ b,H.size≤b→col b=0
def Cg (H:Hp) (col col':Nat→Nat):Prop:=∀ b,b<H.size→col' b=col b
section
variable {col:Nat→Nat} {H H':Hp} {l:List Ob}
theorem Wd.nil (H:Hp):Wd (fun _=>0) H []:=⟨fun i x h=>by simp at h,fun _ _=>rfl⟩
theorem Wd.kp (h:Wd col H l) {S:Nat→Prop} (k:Kp S H H') (hS:∀ b,b<H.size→S b→col b=0):Wd col H' l:=
 ⟨fun i x hx=>by
   have ho:=h.obs i x hx
   exact x.frame ho (fun b hb=>k.same b (x.own ho b hb) fun hs=>by have:=hS b (x.own ho b hb) hs; have hb:col b=i+1:=hb; omega) k.le (fun b hb=>hb) fun b hb=>Nat.lt_of_lt_of_le (x.own ho b hb) k.le,
  fun b hb=>h.out b (Nat.le_trans k.le hb)⟩
theorem Wd.ext (h:Wd col H l) (e:Ext H H'):Wd col H' l:=h.kp (e.kp fun _=>False) fun b _ hb=>hb.elim
theorem Wd.get (h:Wd col H l) {i:Nat} {x:Ob} (hx:l[i]?=some x):x.at_ H fun b=>col b=i+1:=h.obs i x hx
theorem Wd.step (h:Wd col H l) {i:Nat} {x x':Ob} (hx:l[i]?=some x) (k:Kp (fun b=>col b=i+1) H H') {O':Nat→Prop} (hx':x'.at_ H' O') (hO:∀ b,O' b→col b=i+1∨H.size≤b) :
   ∃ col',Wd col' H' (l.set i x')∧Cg H col col':=by
 have hil:i<l.length:=by
   rcases Nat.lt_or_ge i l.length with h1 | h1
   · exact h1
   · rw [List.getElem?_eq_none h1] at hx; cases hx
 refine ⟨fun b=>if b<H.size then col b else if O' b then i+1 else 0,⟨fun j y hy=>?_,fun b hb=>?_⟩,fun b hb=>if_pos hb⟩
 · by_cases hij:i=j
   · subst hij
     rw [List.getElem?_set_self hil] at hy
     injection hy with hy; subst hy
     refine x'.frame hx' (fun _ _=>rfl) (Nat.le_refl _) (fun b hb=>?_) fun b hb=>?_
     · show (if b<H.size then col b else if O' b then i+1 else 0)=i+1
       split
       · rename_i hlt
         exact (hO b hb).resolve_right (by omega)
       · first | rfl | rw [if_pos hb]
     · have hb:(if b<H.size then col b else if O' b then i+1 else 0)=i+1:=hb
       split at hb
       · have:=k.le; omega
       · split at hb
         · rename_i h2; exact x'.own hx' b h2
         · omega
   · rw [List.getElem?_set_ne hij] at hy
     have ho:=h.obs j y hy
     refine y.frame ho (fun b hb=>k.same b (y.own ho b hb) fun e=>?_) k.le (fun b hb=>?_) fun b hb=>?_
     · have hb:col b=j+1:=hb
       have e:col b=i+1:=e
       omega
     · show (if b<H.size then col b else if O' b then i+1 else 0)=j+1
       rw [if_pos (y.own ho b hb)]; exact hb
     · have hb:(if b<H.size then col b else if O' b then i+1 else 0)=j+1:=hb
       split at hb
       · have:=k.le; omega
       · split at hb <;> omega
 · have:=k.le
   rw [if_neg (by omega)]
   split
   · rename_i h2
     have:=x'.own hx' b h2; omega
   · rfl
theorem Wd.add (h:Wd col H l) (e:Ext H H') {x:Ob} {O':Nat→Prop} (hx:x.at_ H' O') (hO:∀ b,O' b→H.size≤b):∃ col',Wd col' H' (l++[x])∧Cg H col col':=by
 refine ⟨fun b=>if b<H.size then col b else if O' b then l.length+1 else 0,⟨fun n z hz=>?_,fun b hb=>?_⟩,fun b hb=>if_pos hb⟩
 · by_cases hn:n<l.length
   · rw [List.getElem?_append_left hn] at hz
     have ho:=h.obs n z hz
     refine z.frame ho (fun b hb=>e.same b (z.own ho b hb)) e.le (fun b hb=>?_) fun b hb=>?_
     · show (if b<H.size then col b else if O' b then l.length+1 else 0)=n+1
       rw [if_pos (z.own ho b hb)]; exact hb
     · have hb:(if b<H.size then col b else if O' b then l.length+1 else 0)=n+1:=hb
       split at hb
       · have:=e.le; omega
       · split at hb <;> omega
   · rw [List.getElem?_append_right (by omega)] at hz
     cases hk:n - l.length with
     | succ q=>rw [hk] at hz; simp at hz
     | zero=>
       rw [hk] at hz
       simp only [List.getElem?_cons_zero,Option.some.injEq] at hz
       subst hz
       obtain rfl:n=l.length:=by omega
       refine x.frame hx (fun _ _=>rfl) (Nat.le_refl _) (fun b hb=>?_) fun b hb=>?_
       · show (if b<H.size then col b else if O' b then l.length+1 else 0)=l.length+1
         rw [if_neg (by have:=hO b hb; omega),if_pos hb]
       · have hb:(if b<H.size then col b else if O' b then l.length+1 else 0)=l.length+1:=hb
         split at hb
         · rename_i hlt
           have:=e.le; omega
         · split at hb
           · rename_i h2; exact x.own hx b h2
           · omega
 · have:=e.le
   rw [if_neg (by omega)]
   split
   · rename_i h2
     have:=x.own hx b h2; omega
   · rfl
end
def Ob.of (F:Hp→(Nat→Prop)→Prop) (hf:∀ {H H':Hp} {O O':Nat→Prop},F H O→(∀ b,O b→H'[b]?=H[b]?)→H.size≤H'.size→(∀ b,O b→O' b)→F H' O'):Ob:=
 ⟨fun H O=>F H O∧∀ b,O b→b<H.size,fun h=>h.2,fun h hb hs ho hl=>⟨hf h.1 hb hs ho,hl⟩⟩
def Ob.box (b:Nat) (c:Array Value) (T:TypeId):Ob:=.of (fun H O=>H[b]?=some (.cells c T)∧O b) fun h hb _ ho=>⟨by rw [hb _ h.2]; exact h.1,ho _ h.2⟩
def Ob.sl (T n:Nat) (s:Value) (vs:List (Array Value)):Ob:=.of (fun H O=>Sv T n H s vs∧∀ b,ZS s=some b→O b) fun h hb _ ho=>⟨h.1.of fun b hh=>hb b (h.2 b hh),fun b hh=>ho b (h.2 b hh)⟩
def Ob.no:Ob:=.of (fun _ _=>True) fun _ _ _ _=>trivial
def New (H H':Hp) (x:Ob):Prop:=∃ O,x.at_ H' O∧∀ b,O b→H.size≤b
theorem New.old {H0 H H':Hp} {x:Ob} (h:New H H' x) (e:H0.size≤H.size):New H0 H' x:=by
 obtain ⟨O,ho,hn⟩:=h
 exact ⟨O,ho,fun b hb=>Nat.le_trans e (hn b hb)⟩
theorem New.nilS (H:Hp) (T n:Nat):New H H (.sl T n (.slice none 0 0) []):=⟨fun _=>False,⟨⟨Sv.nil T n H,fun b hb=>by cases hb⟩,fun b hb=>hb.elim⟩,fun b hb=>hb.elim⟩
theorem New.sv {H H':Hp} {T n:Nat} {s:Value} {vs:List (Array Value)} (h:New H H' (.sl T n s vs)):Sv T n H' s vs:=by
 obtain ⟨O,ho,_⟩:=h; exact ho.1.1
structure Lo (S:Nat→Prop) (H0 H:Hp) (l:List Ob):Prop where
 kp:Kp S H0 H
 wd:∃ col,Wd col H l∧∀ b,b<H0.size→col b≠0→S b
abbrev Lx:=Lo fun _=>False
section
variable {S:Nat→Prop} {H0 H H':Hp} {l:List Ob}
theorem Lo.start (S:Nat→Prop) (H:Hp):Lo S H H []:=⟨Kp.refl _ _,_,Wd.nil H,fun b _ h=>absurd rfl h⟩
theorem Lo.own {x:Ob} {O:Nat→Prop} (h:x.at_ H O):Lo O H H [x]:=by
 refine ⟨Kp.refl _ _,fun b=>if O b then 1 else 0,⟨fun i y hy=>?_,fun b hb=>if_neg fun ho=>?_⟩,fun b _ hb=>?_⟩
 · cases i with
   | zero=>
     simp only [List.getElem?_cons_zero,Option.some.injEq] at hy
     subst hy
     refine x.frame h (fun _ _=>rfl) (Nat.le_refl _) (fun b hb=>if_pos hb) fun b hb=>?_
     have hb:(if O b then 1 else 0)=0+1:=hb
     split at hb
     · rename_i ho; exact x.own h b ho
     · omega
   | succ i=>simp at hy
 · have:=x.own h b ho; omega
 · by_cases ho:O b
   · exact ho
   · exact absurd (if_neg ho) hb
theorem Lo.ext (h:Lo S H0 H l) (e:Ext H H'):Lo S H0 H' l:=by
 obtain ⟨k,col,w,hc⟩:=h
 exact ⟨k.trans (e.kp _),col,w.ext e,hc⟩
theorem Lo.ext0 {l:List Ob} (h:Lx H0 H l):Ext H0 H:=h.kp.ext fun _ _=>id
theorem Lo.add (h:Lo S H0 H l) (e:Ext H H') {x:Ob} {O:Nat→Prop} (hx:x.at_ H' O) (hO:∀ b,O b→H.size≤b):Lo S H0 H' (l++[x]):=by
 obtain ⟨k,col,w,hc⟩:=h
 obtain ⟨col',w',hg⟩:=w.add e hx hO
 exact ⟨k.trans (e.kp _),col',w',fun b hb hn=>hc b hb (by rw [← hg b (Nat.lt_of_lt_of_le hb k.le)]; exact hn)⟩
theorem Lo.new (h:Lo S H0 H l) (e:Ext H H') {x:Ob} (hx:New H H' x):Lo S H0 H' (l++[x]):=by
 obtain ⟨O,h1,h2⟩:=hx; exact h.add e h1 h2
theorem Lo.get (h:Lo S H0 H l) {i:Nat} {x:Ob} (hx:l[i]?=some x):∃ O,x.at_ H O:=by
 obtain ⟨k,col,w,hc⟩:=h; exact ⟨_,w.get hx⟩
theorem Lo.out (h:Lo S H0 H l) {i:Nat} {x:Ob} (hx:l[i]?=some x):∃ O,x.at_ H O∧∀ b,O b→S b∨H0.size≤b:=by
 obtain ⟨k,col,w,hc⟩:=h
 refine ⟨_,w.get hx,fun b hb=>?_⟩
 have hb:col b=i+1:=hb
 rcases Nat.lt_or_ge b H0.size with h1 | h1
 · exact .inl (hc b h1 (by omega))
 · exact .inr h1
theorem Lo.outN (h:Lx H0 H l) {i:Nat} {x:Ob} (hx:l[i]?=some x):New H0 H x:=by
 obtain ⟨O,h1,h2⟩:=h.out hx
 exact ⟨O,h1,fun b hb=>(h2 b hb).resolve_left id⟩
theorem Lo.step (h:Lo S H0 H l) {i:Nat} {x:Ob} (hx:l[i]?=some x):∃ O,x.at_ H O∧∀ (H':Hp) (x':Ob) (O':Nat→Prop),Kp O H H'→x'.at_ H' O'→(∀ b,O' b→O b∨H.size≤b)→Lo S H0 H' (l.set i x'):=by
 obtain ⟨k,col,w,hc⟩:=h
 refine ⟨_,w.get hx,fun H' x' O' k' hx' hO=>?_⟩
 obtain ⟨col',w',hg⟩:=w.step hx k' hx' hO
 refine ⟨k.tr k' (fun _ _ hb=>hb) fun b hb hb2=>?_,col',w',fun b hb hn=>hc b hb (by rw [← hg b (Nat.lt_of_lt_of_le hb k.le)]; exact hn)⟩
 have hb2:col b=i+1:=hb2
 exact hc b hb (by omega)
theorem Lo.take {m:List Ob} (h:Lo S H0 H (l++m)):Lo S H0 H l:=by
 obtain ⟨k,col,w,hc⟩:=h
 refine ⟨k,fun b=>if col b≤l.length then col b else 0,⟨fun i x hx=>?_,fun b hb=>by simp [w.out b hb]⟩,fun b hb hn=>hc b hb fun e=>hn (by simp [e])⟩
 have hil:i<l.length:=by
   rcases Nat.lt_or_ge i l.length with h1 | h1
   · exact h1
   · rw [List.getElem?_eq_none h1] at hx; cases hx
 have hx':(l++m)[i]?=some x:=by rw [List.getElem?_append_left hil]; exact hx
 have ho:=w.get hx'
 refine x.frame ho (fun _ _=>rfl) (Nat.le_refl _) (fun b hb=>?_) fun b hb=>?_
 · have hb:col b=i+1:=hb
   show (if col b≤l.length then col b else 0)=i+1
   rw [if_pos (by omega)]; exact hb
 · have hb:(if col b≤l.length then col b else 0)=i+1:=hb
   split at hb
   · exact x.own ho b hb
   · omega
theorem Lo.takeN (h:Lo S H0 H l) (n:Nat):Lo S H0 H (l.take n):=by
 rw [← List.take_append_drop n l] at h; exact h.take
theorem Lo.box {T:TypeId} {v:Value} {K:Value→Hp→Prop} (h:Lo S H0 H l) (k:∀ b H',Ext H H'→Lo S H0 H' (l++[.box b v.cells T])→K (.pointer (some ⟨b,0,none⟩)) H'):Box T v H K:=
 yc fun b H' hb e hs g=>k b H' e (h.add (O:=(·=b)) e ⟨⟨g,rfl⟩,fun c hc=>by omega⟩ fun c hc=>by omega)
theorem Lo.at (h:Lo S H0 H l) {i b:Nat} {c:Array Value} {T:TypeId} (hi:l[i]?=some (.box b c T)):H[b]?=some (.cells c T):=by
 obtain ⟨O,ho⟩:=h.get hi; exact ho.1.1
theorem Lo.put (h:Lo S H0 H l) {i b:Nat} {c c':Array Value} {T:TypeId} (hi:l[i]?=some (.box b c T)) (k:Kp (·=b) H H') (hs:H'.size=H.size) (hg:H'[b]?=some (.cells c' T)):Lo S H0 H' (l.set i (.box b c' T)):=by
 obtain ⟨O,ho,st⟩:=h.step hi
 exact st H' _ O (k.mono fun x _ e=>e ▸ ho.1.2) ⟨⟨hg,ho.1.2⟩,fun x hx=>by rw [hs]; exact ho.2 x hx⟩ fun x hx=>.inl hx
theorem Lo.st {K:Hp→Prop} (h:Lo S H0 H l) {i b j:Nat} {c:Array Value} {T:TypeId} {v:Value} (hi:l[i]?=some (.box b c T)) (hj:j<c.size) (hv:v.oneCell'=true) (hc:v.cells=#[v])
   (k:∀ H',Lo S H0 H' (l.set i (.box b (c.setIfInBounds j v) T))→K H'):Pu (zj (some 1) (.pointer (some ⟨b,j,none⟩)) v H) K:=
 YP (h.at hi) hj hv hc fun H' k' hs g=>k H' (h.put hi k' hs g)
theorem Lo.stRow {K:Hp→Prop} (h:Lo S H0 H l) {i b j n:Nat} {c vs:Array Value} {T:TypeId} (hi:l[i]?=some (.box b c T)) (hj:j+n≤c.size) (hn:vs.size=n) (hv:zF vs)
   (k:∀ H',Lo S H0 H' (l.set i (.box b (zZ c j vs) T))→K H'):Pu (zj (some n) (.pointer (some ⟨b,j,none⟩)) (.agg vs) H) K:=
 storeRow_i (h.at hi) hj hn hv fun H' k' hs g=>k H' (h.put hi k' hs g)
theorem Lo.stAll {K:Hp→Prop} (h:Lo S H0 H l) {i b n:Nat} {c vs:Array Value} {T:TypeId} (hi:l[i]?=some (.box b c T)) (hj:c.size=n) (hn:vs.size=n) (hv:zF vs)
   (k:∀ H',Lo S H0 H' (l.set i (.box b vs T))→K H'):Pu (zj (some n) (.pointer (some ⟨b,0,none⟩)) (.agg vs) H) K:=
 Zb (h.at hi) hj hn hv fun H' k' hs g=>k H' (h.put hi k' hs g)
theorem Lo.sv (h:Lo S H0 H l) {i T n:Nat} {s:Value} {vs:List (Array Value)} (hi:l[i]?=some (.sl T n s vs)):Sv T n H s vs:=by
 obtain ⟨O,ho⟩:=h.get hi; exact ho.1.1
theorem Lo.nilS (h:Lo S H0 H l) (T n:Nat):Lo S H0 H (l++[.sl T n (.slice none 0 0) []]):=h.new (Ext.refl H) (New.nilS H T n)
theorem Lo.app {e:ZT} {T T' n:Nat} {K:Value→Hp→Prop} (h:Lo S H0 H l) {i:Nat} {s x:Value} {vs us:List (Array Value)} (hi:l[i]?=some (.sl T n s vs)) (hT:e.type=T) (hs:e.size=n) (hz:e.zero.size=n) (hby:0<e.bytes) (hx:Sv T' n H x us) (hok:∀ u∈us,zF u)
   (hlim:(vs.length+us.length)*e.bytes≤2 ^ 47) (k:∀ s' H',Lo S H0 H' (l.set i (.sl T n s' (vs++us)))→K s' H'):Y2 (some e) s x H K:=by
 obtain ⟨O,ho,st⟩:=h.step hi
 refine app_many hT hs hz hby ho.1.1 hx hok hlim fun s' H' sv k' hb=>k s' H' (st H' _ (fun b=>O b∨H.size≤b∧b<H'.size) (k'.mono fun b _ e=>ho.1.2 b e) ⟨⟨sv,fun b hh=>?_⟩,fun b hh=>?_⟩ fun b hh=>?_)
 · rcases hb b hh with h1 | h1
   · exact .inl (ho.1.2 b h1)
   · exact .inr ⟨h1,sv.lt hh⟩
 · rcases hh with h1 | h1
   · exact Nat.lt_of_lt_of_le (ho.2 b h1) k'.le
   · exact h1.2
 · rcases hh with h1 | h1
   · exact .inl h1
   · exact .inr h1.1
theorem Lo.app1 {e:ZT} {T n:Nat} {K:Value→Hp→Prop} (h:Lo S H0 H l) {i:Nat} {s:Value} {c:Array Value} {vs:List (Array Value)} (hi:l[i]?=some (.sl T n s vs)) (hT:e.type=T) (hs:e.size=n) (hz:e.zero.size=n) (hby:0<e.bytes) (hc:c.size=n) (hok:zF c)
   (hlim:(vs.length+1)*e.bytes≤2 ^ 47) (k:∀ s' H',Lo S H0 H' (l.set i (.sl T n s' (vs++[c])))→K s' H'):NewS e.type 1 c H fun x H2=>Y2 (some e) s x H2 K:=
 newS_i fun b H2 hb e2 hs2 g=>(h.ext e2).app hi hT hs hz hby (Sv.single g hc) (by simpa using hok) (by simpa using hlim) k
theorem Lo.slPut {T n:Nat} {K:Hp→Prop} (h:Lo S H0 H l) {i j:Nat} {s:Value} {c:Array Value} {vs:List (Array Value)} (hi:l[i]?=some (.sl T n s vs)) (hj:j<vs.length) (hc:c.size=n) (hok:zF c) (k:∀ H',Lo S H0 H' (l.set i (.sl T n s (vs.set j c)))→K H') :
   ∃ b o,(∀ k,zh (some (none,n)) s (.int k j)=some (.pointer (some ⟨b,o,none⟩)))∧Pu (zj (some n) (.pointer (some ⟨b,o,none⟩)) (.agg c) H) K:=by
 obtain ⟨O,ho,st⟩:=h.step hi
 obtain ⟨b,o,h1,h2,h3⟩:=Sv.put (K:=K) ho.1.1 hj hc hok
 refine ⟨b,o,h2,h3 fun H' k' hs sv=>k H' (st H' _ O (k'.mono fun x _ e=>e ▸ ho.1.2 b h1) ⟨⟨sv,ho.1.2⟩,fun x hx=>by rw [hs]; exact ho.2 x hx⟩ fun x hx=>.inl hx)⟩
end
structure IsN (n:Nat) (c:Array Value):Prop where
 size:c.size=n
 cell:∀ i,i<n→∃ m:Nat,m<256∧c[i]?=some (.int .u8 m)
theorem IsB.n {c:Array Value} (h:IsB c):IsN 1024 c:=⟨h.size,h.cell⟩
theorem IsN.b {c:Array Value} (h:IsN 1024 c):IsB c:=⟨h.size,h.cell⟩
section
variable {n:Nat} {c a:Array Value}
theorem IsN.get (h:IsN n c) {i:Nat} (hi:i<n):c[i]?=some (.int .u8 (byt c i)):=by
 obtain ⟨m,_,hm⟩:=h.cell i hi
 simp [byt,hm]
theorem IsN.lt (h:IsN n c) (i:Nat):byt c i<256:=by
 by_cases hi:i<n
 · obtain ⟨m,h1,hm⟩:=h.cell i hi
   simpa [byt,hm] using h1
 · have:c[i]?=none:=Array.getElem?_eq_none (by rw [h.size]; omega)
   simp [byt,this]
theorem IsN.set (h:IsN n c) (k:Nat) {m:Nat} (hm:m<256):IsN n (c.setIfInBounds k (.int .u8 m)):=by
 refine ⟨by simp [h.size],fun i hi=>?_⟩
 rw [Array.getElem?_setIfInBounds]
 by_cases hk:k=i
 · subst hk; exact ⟨m,hm,by simp [h.size,hi]⟩
 · rw [if_neg hk]; exact h.cell i hi
theorem IsN.byt_set (h:IsN n c) {k:Nat} (hk:k<n) (m i:Nat):byt (c.setIfInBounds k (.int .u8 m)) i=if k=i then m else byt c i:=by
 unfold byt
 rw [Array.getElem?_setIfInBounds]
 by_cases hki:k=i
 · subst hki; simp [h.size,hk]
 · simp [hki]
theorem IsN.ext (ha:IsN n a) (hc:IsN n c) (h:∀ i,i<n→byt a i=byt c i):a=c:=by
 apply Array.ext_getElem?
 intro i
 by_cases hi:i<n
 · rw [ha.get hi,hc.get hi,h i hi]
 · rw [Array.getElem?_eq_none (by rw [ha.size]; omega),Array.getElem?_eq_none (by rw [hc.size]; omega)]
theorem IsN.ok (h:IsN n c):zF c:=by
 unfold zF
 rw [Array.all_eq_true]
 intro i hi
 have h1:=h.get (i:=i) (by rw [← h.size]; exact hi)
 rw [Array.getElem?_eq_getElem hi] at h1
 injection h1 with h1
 rw [h1]; rfl
theorem yi (n:Nat):IsN n (Array.replicate n (.int .u8 0)):=⟨by simp,fun i hi=>⟨0,by omega,by simp [Array.getElem?_replicate,hi]⟩⟩
theorem byt_zero (n i:Nat):byt (Array.replicate n (.int .u8 0)) i=0:=by
 unfold byt
 rw [Array.getElem?_replicate]
 split <;> rename_i h <;> split at h <;> simp_all
end
def leB (c:Array Value):Nat→Nat→Nat
 | _,0=>0
 | o,n+1=>byt c o+256*leB c (o+1) n
def seB:Array Value→Nat→Nat→Nat→Array Value
 | c,_,0,_=>c
 | c,o,n+1,v=>seB (c.setIfInBounds o (.int .u8 (v % 256:Nat))) (o+1) n (v / 256)
section
variable {m:Nat} {c a:Array Value}
theorem leB_lt (h:∀ i,byt c i<256):∀ (n o:Nat),leB c o n<256 ^ n
 | 0,o=>by simp [leB]
 | n+1,o=>by
   have h1:=h o
   have h2:=leB_lt h n (o+1)
   unfold leB
   rw [Nat.pow_succ]; omega
theorem Yy:∀ (n o o':Nat),(∀ i,i<n→byt a (o+i)=byt c (o'+i))→leB a o n=leB c o' n
 | 0,_,_,_=>rfl
 | n+1,o,o',h=>by
   unfold leB
   have h0:=h 0 (by omega)
   rw [Nat.add_zero,Nat.add_zero] at h0
   rw [h0,Yy n (o+1) (o'+1) fun i hi=>by have:=h (i+1) (by omega); rw [show o+1+i=o+(i+1) by omega,show o'+1+i=o'+(i+1) by omega]; exact this]
theorem seB_is:∀ (n o v:Nat) {c:Array Value},IsN m c→IsN m (seB c o n v)
 | 0,_,_,_,h=>h
 | n+1,o,v,_,h=>seB_is n (o+1) (v / 256) (h.set o (Nat.mod_lt _ (by omega)))
theorem byt_seB:∀ (n o v:Nat) {c:Array Value},IsN m c→o+n≤m→∀ j,byt (seB c o n v) j=if o≤j∧j<o+n then v / 256 ^ (j - o) % 256 else byt c j
 | 0,o,v,c,h,ho,j=>by rw [if_neg (by omega)]; rfl
 | n+1,o,v,c,h,ho,j=>by
   unfold seB
   rw [byt_seB n (o+1) (v / 256) (h.set o (Nat.mod_lt _ (by omega))) (by omega) j,h.byt_set (by omega)]
   by_cases h1:o=j
   · subst h1
     rw [if_neg (by omega),if_pos rfl,if_pos (by omega),Nat.sub_self,Nat.pow_zero,Nat.div_one]
   · rw [if_neg h1]
     by_cases h2:o+1≤j∧j<o+1+n
     · rw [if_pos h2,if_pos (by omega),Nat.div_div_eq_div_mul,show j - o=(j - (o+1))+1 by omega,Nat.pow_succ,Nat.mul_comm 256]
     · rw [if_neg h2,if_neg (by omega)]
theorem leB_digits:∀ (n o v:Nat),(∀ i,i<n→byt c (o+i)=v / 256 ^ i % 256)→leB c o n=v % 256 ^ n
 | 0,_,v,_=>by simp [leB,Nat.mod_one]
 | n+1,o,v,h=>by
   unfold leB
   have h0:=h 0 (by omega)
   rw [Nat.pow_zero,Nat.div_one,Nat.add_zero] at h0
   rw [h0,leB_digits n (o+1) (v / 256) fun i hi=>by
     have:=h (i+1) (by omega)
     rw [show o+1+i=o+(i+1) by omega,this,Nat.div_div_eq_div_mul,Nat.pow_succ,Nat.mul_comm 256]]
   rw [Nat.pow_succ,Nat.mul_comm (256 ^ n) 256,Nat.mod_mul]
theorem leB_seB (h:IsN m c) {n o:Nat} (ho:o+n≤m) (v:Nat):leB (seB c o n v) o n=v % 256 ^ n:=
 leB_digits n o v fun i hi=>by rw [byt_seB n o v h ho,if_pos (by omega),Nat.add_sub_cancel_left]
theorem YV (h:IsN m c) {n o:Nat} (ho:o+n≤m) (v:Nat) {n' o':Nat} (hd:o'+n'≤o∨o+n≤o'):leB (seB c o n v) o' n'=leB c o' n':=
 Yy n' o' o' fun i hi=>by rw [byt_seB n o v h ho,if_neg (by omega)]
theorem leB_zero (h:∀ i,byt c i=0):∀ (n o:Nat),leB c o n=0
 | 0,_=>rfl
 | n+1,o=>by unfold leB; rw [h,leB_zero h n]
end
abbrev Ino:=Nat→Nat
def fo (j:Nat):Nat:=if j<2 then 2*j else 4*(j - 1)
def fw (j:Nat):Nat:=if j<2 then 2 else 4
def Zs (f:Ino):Array Value:=#[.int .u16 (f 0),.int .u16 (f 1),.int .u32 (f 2),.int .u32 (f 3),.int .u32 (f 4),.int .u32 (f 5),.int .u32 (f 6),.int .u32 (f 7),.int .u32 (f 8),.int .u32 (f 9),.int .u32 (f 10),.int .u32 (f 11),.int .u32 (f 12),.int .u32 (f 13),.int .u32 (f 14),.int .u32 (f 15)]
def InoOk (f:Ino):Prop:=∀ j,j<16→f j<256 ^ fw j
def Zu (c:Array Value) (o:Nat):Ino:=fun j=>leB c (o+fo j) (fw j)
def layN (c:Array Value) (o:Nat) (f:Ino):Nat→Array Value
 | 0=>c
 | j+1=>seB (layN c o f j) (o+fo j) (fw j) (f j)
def encN (f:Ino):Array Value:=layN (Array.replicate 64 (.int .u8 0)) 0 f 16
theorem fo_le {j:Nat} (h:j<16):fo j+fw j≤60:=by unfold fo fw; split <;> omega
theorem fo_dis {i j:Nat} (h:i≠j):fo i+fw i≤fo j∨fo j+fw j≤fo i:=by
 unfold fo fw
 split <;> split <;> omega
section
variable {m:Nat} {c a:Array Value} {f:Ino}
theorem layN_is (h:IsN m c) (o:Nat):∀ n,IsN m (layN c o f n)
 | 0=>h
 | n+1=>seB_is _ _ _ (layN_is h o n)
theorem layN_out (h:IsN m c) {o:Nat} (ho:o+60≤m):∀ n,n≤16→∀ j,(j<o∨o+60≤j)→byt (layN c o f n) j=byt c j
 | 0,_,_,_=>rfl
 | n+1,hn,j,hj=>by
   have:=fo_le (j:=n) (by omega)
   unfold layN
   rw [byt_seB _ _ _ (layN_is h o n) (by omega),if_neg (by omega),layN_out h ho n (by omega) j hj]
theorem layN_num (h:IsN m c) {o:Nat} (ho:o+60≤m):∀ n,n≤16→∀ j,j<n→leB (layN c o f n) (o+fo j) (fw j)=f j % 256 ^ fw j
 | 0,_,_,hj=>by omega
 | n+1,hn,j,hj=>by
   have h1:=fo_le (j:=n) (by omega)
   unfold layN
   by_cases hjn:j=n
   · subst hjn
     exact leB_seB (layN_is h o j) (by omega) _
   · have:=fo_dis (i:=j) (j:=n) hjn
     rw [YV (layN_is h o n) (by omega) _ (by omega)]
     exact layN_num h ho n (by omega) j (by omega)
theorem encN_is (f:Ino):IsN 64 (encN f):=layN_is (yi 64) 0 16
theorem encN_num (hf:InoOk f) {j:Nat} (hj:j<16):leB (encN f) (fo j) (fw j)=f j:=by
 have:=layN_num (f:=f) (yi 64) (o:=0) (by omega) 16 (by omega) j hj
 rw [Nat.zero_add] at this
 unfold encN
 rw [this,Nat.mod_eq_of_lt (hf j hj)]
theorem byt_splice (h:IsN m c) {o k:Nat} (ha:IsN k a) (ho:o+k≤m) (j:Nat):byt (zZ c o a) j=if o≤j∧j<o+k then byt a (j - o) else byt c j:=by
 unfold byt
 rw [zU (by rw [ha.size,h.size]; exact ho),ha.size]
 by_cases h1:j<o
 · rw [if_pos h1,if_neg (by omega)]
 · rw [if_neg h1]
   by_cases h2:j<o+k
   · rw [if_pos h2,if_pos (by omega)]
   · rw [if_neg h2,if_neg (by omega)]
theorem yg (h:IsN m c) {o k:Nat} (ha:IsN k a) (ho:o+k≤m):IsN m (zZ c o a):=by
 refine ⟨by rw [z7 (by rw [ha.size,h.size]; exact ho),h.size],fun i hi=>?_⟩
 rw [zU (by rw [ha.size,h.size]; exact ho),ha.size]
 split
 · exact h.cell i hi
 · split
   · exact ha.cell _ (by omega)
   · exact h.cell i hi
theorem inoOf_splice (h:IsN m c) {o:Nat} (ho:o+64≤m) (hf:InoOk f) {j:Nat} (hj:j<16):Zu (zZ c o (encN f)) o j=f j:=by
 have h1:=fo_le hj
 rw [← encN_num hf hj]
 unfold Zu
 refine Yy _ _ _ fun i hi=>?_
 rw [byt_splice h (encN_is f) ho,if_pos (by omega)]
 congr 1; omega
theorem inoOf_other (h:IsN m c) {o o':Nat} (ha:IsN 64 a) (ho:o+64≤m) (hd:o'+64≤o∨o+64≤o') {j:Nat} (hj:j<16):Zu (zZ c o a) o' j=Zu c o' j:=by
 have h1:=fo_le hj
 unfold Zu
 refine Yy _ _ _ fun i hi=>?_
 rw [byt_splice h ha ho,if_neg (by omega)]
theorem inoOf_ok (h:∀ i,byt c i<256) (o:Nat):InoOk (Zu c o):=fun j hj=>leB_lt h _ _
theorem zz (f:Ino):(Zs f).size=16:=rfl
theorem Z0 (f:Ino):zF (Zs f):=by unfold zF; rw [← Array.all_toList]; rfl
theorem yT {f g:Ino} (h:∀ j,j<16→f j=g j):Zs f=Zs g:=by
 unfold Zs
 rw [h 0 (by omega),h 1 (by omega),h 2 (by omega),h 3 (by omega),h 4 (by omega),h 5 (by omega),h 6 (by omega),h 7 (by omega),h 8 (by omega),h 9 (by omega),h 10 (by omega),h 11 (by omega),h 12 (by omega),h 13 (by omega),h 14 (by omega),h 15 (by omega)]
end
def sg (n st tn k:Nat):Nat:=(st+k*tn) % n
theorem sg_lt {n st tn k:Nat} (h:0<n):sg n st tn k<n:=Nat.mod_lt _ h
theorem sg_next {n st tn k:Nat}:(sg n st tn k+tn) % n=sg n st tn (k+1):=by
 unfold sg
 rw [Nat.mod_add_mod,Nat.add_mul,Nat.one_mul,Nat.add_assoc]
theorem sg_inj {n st tn i k:Nat} (hc:Nat.gcd tn n=1) (hi:i<n) (hk:k<n) (h:sg n st tn i=sg n st tn k):i=k:=by
 have key:∀ a b:Nat,a≤b→b<n→sg n st tn a=sg n st tn b→a=b:=by
   intro a b hab hb he
   unfold sg at he
   have h1:n ∣ (st+b*tn) - (st+a*tn):=by
     have:=Nat.mod_add_div (st+a*tn) n
     have h2:=Nat.mod_add_div (st+b*tn) n
     refine ⟨(st+b*tn) / n - (st+a*tn) / n,?_⟩
     rw [Nat.mul_sub]
     have:=Nat.mul_le_mul_right tn hab
     omega
   have h2:(st+b*tn) - (st+a*tn)=(b - a)*tn:=by rw [Nat.sub_mul]; have:=Nat.mul_le_mul_right tn hab; omega
   rw [h2] at h1
   have h3:n ∣ b - a:=Nat.Coprime.dvd_of_dvd_mul_right (show Nat.Coprime n tn by rw [Nat.Coprime,Nat.gcd_comm]; exact hc) h1
   rcases Nat.eq_zero_or_pos (b - a) with h4 | h4
   · omega
   · have:=Nat.le_of_dvd h4 h3; omega
 rcases Nat.le_total i k with h1 | h1
 · exact key i k h1 hk h
 · exact (key k i h1 hi h.symm).symm
theorem sg_all {n st tn:Nat} (hn:0<n) (hc:Nat.gcd tn n=1) {p:Nat} (hp:p<n):∃ k,k<n∧sg n st tn k=p:=by
 have hnd:((List.range n).map (sg n st tn)).Nodup:=
   List.pairwise_map.2 (List.Pairwise.imp_of_mem (fun ha hb hne h=>hne (sg_inj hc (List.mem_range.1 ha) (List.mem_range.1 hb) h)) (List.nodup_range (n:=n)))
 by_cases hm:p∈(List.range n).map (sg n st tn)
 · obtain ⟨k,hk,h⟩:=List.mem_map.1 hm
   exact ⟨k,List.mem_range.1 hk,h⟩
 · have h1:(p :: (List.range n).map (sg n st tn)).Nodup:=List.nodup_cons.2 ⟨hm,hnd⟩
   have:=h1.length_le_of_subset (l₂:=List.range n) fun x hx=>by
     rcases List.mem_cons.1 hx with rfl | hx
     · exact List.mem_range.2 hp
     · obtain ⟨k,_,rfl⟩:=List.mem_map.1 hx
       exact List.mem_range.2 (sg_lt hn)
   simp at this
   omega
end Go.Vc
namespace Go.Proofs
open Go.Vc
variable {H:Hp} {R:Value→Hp→Prop} {v0 v1 v2 v3 v4 v5 v6 v7 v8:Value}
set_option maxRecDepth 100000
def sh83 (v0 v1 v2:Value) (H:Hp) (R:Value→Hp→Prop):Prop:=
 Box 88 v1 H fun x1 H1=>
 Pu (zD Tryz.prog 88) fun x2=>Box 88 x2 H1 fun x3 H2=>
 Pu (zD Tryz.prog 94) fun x4=>Box 94 x4 H2 fun x5 H3=>
 zx (n:=1) ((.int .i64 0),()) H3 (fun K6 s5 H4=>Any fun _=>
 zS (n:=1) (fun s7 H5=>Any fun _=>
 Ite s7.1
 (Pu (zh (some (none,2)) v2 s5.1) fun x10=>
 Pu (zb (some (some 2)) x10 H5) fun x11=>
 Fc Tryz.prog 13 #[x11] H5 fun x12 H6=>
 Pu (ze x12 0) fun x13=>
 Pu (ze x12 1) fun x14=>
 Pu (zD Tryz.prog 57) fun x15=>Box 57 x15 H6 fun x16 H7=>
 Pu (zj (some 16) x16 x13 H7) fun H8=>
 zx (n:=1) ((.int .i64 0),()) H8 (fun K17 s16 H9=>Any fun _=>
 Pu (zo (some (.int .i64)) .lss s16.1 (.int .i64 16)) fun x19=>
 Ite x19
 (Pu (zo (some (.int .i64)) .mul s5.1 (.int .i64 16)) fun x20=>
 Pu (zo (some (.int .i64)) .rem x20 (.int .i64 1024)) fun x21=>
 Pu (zo (some (.int .i64)) .add x21 s16.1) fun x22=>
 Pu (zh (some (some 16,1)) x16 s16.1) fun x23=>
 Pu (zb (some none) x23 H9) fun x24=>
 Pu (zh (some (some 1024,1)) x5 x22) fun x25=>
 Pu (zj (some 1) x25 x24 H9) fun H10=>
 Pu (zo (some (.int .i64)) .add s16.1 (.int .i64 1)) fun x26=>
 K17 (x26,()) H10)
 (zS (n:=1) (fun s26 H11=>Any fun _=>
 Ite s26.1
 (Pu (zb (some (some 16)) x1 H11) fun x29=>
 Pu (zo (some (.int .i64)) .mul s5.1 (.int .i64 16)) fun x30=>
 Pu (zo (some (.int .i64)) .quo x30 (.int .i64 1024)) fun x31=>
 Pu (zb (some (some 1024)) x5 H11) fun x32=>
 Fc Tryz.prog 84 #[v0,x29,x31,x32] H11 fun x33 H12=>
 Pu (zj (some 16) x1 x33 H12) fun H13=>
 Pu (zu Tryz.prog 94 []) fun x34=>
 Pu (zj (some 1024) x5 x34 H13) fun H14=>
 Pu (zo (some (.int .i64)) .add s5.1 (.int .i64 1)) fun x35=>
 K6 (x35,()) H14)
 (Pu (zo (some (.int .i64)) .add s5.1 (.int .i64 1)) fun x36=>
 K6 (x36,()) H11))
 (fun K36=>Pu (zo (some (.int .i64)) .mul s5.1 (.int .i64 16)) fun x38=>
 Pu (zo (some (.int .i64)) .rem x38 (.int .i64 1024)) fun x39=>
 Pu (zo (some (.int .i64)) .eql x39 (.int .i64 1008)) fun x40=>
 Ite x40
 (K36 ((.bool true),()) H9)
 (Pu (lenE Tryz.prog 38 v2) fun x41=>
 Pu (zo (some (.int .i64)) .sub x41 (.int .i64 1)) fun x42=>
 Pu (zo (some (.int .i64)) .eql s5.1 x42) fun x43=>
 K36 (x43,()) H9)))))
 (Pu (zb (some (some 16)) x1 H5) fun x44=>
 Pu (zj (some 16) x3 x44 H5) fun H15=>
 Pu (zb (some (some 16)) x3 H15) fun x45=>
 R x45 H15))
 (fun K45=>Pu (lenE Tryz.prog 38 v2) fun x47=>
 Pu (zo (some (.int .i64)) .lss s5.1 x47) fun x48=>
 Ite x48
 (Pu (zc v0) fun x49=>
 Pu (zd (some 13) x49) fun x50=>
 Pu (zb (some none) x50 H4) fun x51=>
 Pu (unE .not x51) fun x52=>
 K45 (x52,()) H4)
 (K45 ((.bool false),()) H4)))
theorem fn83 (h:sh83 v0 v1 v2 H R):Fc Tryz.prog 83 #[v0,v1,v2] H R:=
 zs (fun f=>[].contains f) (.seq .nil (.seq .nil (.seq (.seq .nil (.loop [8] [12,13,14,15,16,17,18,19,20,21,22,26,27,28,29,30,25,31,32,9,10,11,33,34,37,38,39,40,41,42,43,44,45,35,36,46,47,48,49,50,51,52,53,54,55,56,57,58,59,60,61,62,63,64,23,24] (.seq (.join [22] [12,13,14,15,16,17,18,19,20,21] .nil .nil) (.seq (.seq .nil (.seq (.seq .nil (.loop [11] [33,34,37,38,39,40,41,42,43,44,45,35,36] .nil)) (.join [56] [46,47,48,49,50,51,52,53,54,55] .nil .nil))) .nil)))) .nil))) Tryz.func83 (args:=[v0,v1,v2]) (Eq.mp (by kernel_rfl:sh83 v0 v1 v2 H R=_) h)
def sh84 (v0 v1 v2 v3:Value) (H:Hp) (R:Value→Hp→Prop):Prop:=
 Box 88 v1 H fun x1 H1=>
 Box 94 v3 H1 fun x2 H2=>
 Pu (zD Tryz.prog 88) fun x3=>Box 88 x3 H2 fun x4 H3=>
 zS (n:=0) (fun s4 H4=>Any fun _=>
 Pu (zc v0) fun x6=>
 Pu (zd (some 13) x6) fun x7=>
 Pu (zb (some none) x7 H4) fun x8=>
 Ite x8
 (Pu (zb (some (some 16)) x1 H4) fun x9=>
 Pu (zj (some 16) x4 x9 H4) fun H5=>
 Pu (zb (some (some 16)) x4 H5) fun x10=>
 R x10 H5)
 (Pu (zo (some (.int .i64)) .lss v2 (.int .i64 10)) fun x11=>
 Ite x11
 (Fc Tryz.prog 130 #[v0] H4 fun x12 H6=>
 Pu (zc v0) fun x13=>
 Pu (zd (some 13) x13) fun x14=>
 Pu (zb (some none) x14 H6) fun x15=>
 Ite x15
 (Pu (zb (some (some 16)) x1 H6) fun x16=>
 Pu (zj (some 16) x4 x16 H6) fun H7=>
 Pu (zb (some (some 16)) x4 H7) fun x17=>
 R x17 H7)
 (Pu (z9 (some (.int .i64)) (some (.int .u32)) x12) fun x18=>
 Pu (zd (some 4) x1) fun x19=>
 Pu (zh (some (some 10,1)) x19 v2) fun x20=>
 Pu (zj (some 1) x20 x18 H6) fun H8=>
 Pu (zd (some 3) x1) fun x21=>
 Pu (zb (some none) x21 H8) fun x22=>
 Pu (zo (some (.int .u32)) .add x22 (.int .u32 1)) fun x23=>
 Pu (zd (some 3) x1) fun x24=>
 Pu (zj (some 1) x24 x23 H8) fun H9=>
 Pu (zc v0) fun x25=>
 Pu (zd (some 9) x25) fun x26=>
 Pu (zb (some none) x26 H9) fun x27=>
 Pu (zb (some (some 1024)) x2 H9) fun x28=>
 Pu (zh (some (none,1024)) x27 x12) fun x29=>
 Pu (zj (some 1024) x29 x28 H9) fun H10=>
 Pu (zb (some (some 16)) x1 H10) fun x30=>
 Pu (zj (some 16) x4 x30 H10) fun H11=>
 Pu (zb (some (some 16)) x4 H11) fun x31=>
 R x31 H11))
 (Pu (zd (some 14) x1) fun x32=>
 Pu (zb (some none) x32 H4) fun x33=>
 Pu (z9 (some (.int .u32)) (some (.int .i64)) x33) fun x34=>
 Pu (zo (some (.int .i64)) .sub v2 (.int .i64 10)) fun x35=>
 zS (n:=2) (fun s35 H12=>Any fun _=>
 zS (n:=1) (fun s38 H13=>Any fun _=>
 Pu (zc v0) fun x41=>
 Pu (zd (some 13) x41) fun x42=>
 Pu (zb (some none) x42 H13) fun x43=>
 Ite x43
 (Pu (zb (some (some 16)) x1 H13) fun x44=>
 Pu (zj (some 16) x4 x44 H13) fun H14=>
 Pu (zb (some (some 16)) x4 H14) fun x45=>
 R x45 H14)
 (zS (n:=2) (fun s45 H15=>Any fun _=>
 Fc Tryz.prog 130 #[v0] H15 fun x49 H16=>
 Pu (zc v0) fun x50=>
 Pu (zd (some 13) x50) fun x51=>
 Pu (zb (some none) x51 H16) fun x52=>
 Ite x52
 (Pu (zb (some (some 16)) x1 H16) fun x53=>
 Pu (zj (some 16) x4 x53 H16) fun H17=>
 Pu (zb (some (some 16)) x4 H17) fun x54=>
 R x54 H17)
 (Pu (zd (some 3) x1) fun x55=>
 Pu (zb (some none) x55 H16) fun x56=>
 Pu (zo (some (.int .u32)) .add x56 (.int .u32 1)) fun x57=>
 Pu (zd (some 3) x1) fun x58=>
 Pu (zj (some 1) x58 x57 H16) fun H18=>
 Fc Tryz.prog 132 #[v0,s45.1,s45.2.1,x49] H18 fun x59 H19=>
 Pu (zc v0) fun x60=>
 Pu (zd (some 9) x60) fun x61=>
 Pu (zb (some none) x61 H19) fun x62=>
 Pu (zb (some (some 1024)) x2 H19) fun x63=>
 Pu (zh (some (none,1024)) x62 x49) fun x64=>
 Pu (zj (some 1024) x64 x63 H19) fun H20=>
 Pu (zb (some (some 16)) x1 H20) fun x65=>
 Pu (zj (some 16) x4 x65 H20) fun H21=>
 Pu (zb (some (some 16)) x4 H21) fun x66=>
 R x66 H21))
 (fun K66=>Pu (zo (some (.int .i64)) .lss v2 (.int .i64 266)) fun x68=>
 Ite x68
 (Pu (z9 (some (.int .i64)) (some (.int .u32)) s38.1) fun x69=>
 Pu (zd (some 14) x1) fun x70=>
 Pu (zj (some 1) x70 x69 H13) fun H22=>
 K66 (s38.1,s35.2.1,()) H22)
 (Pu (z9 (some (.int .i64)) (some (.int .u32)) s38.1) fun x71=>
 Pu (zd (some 15) x1) fun x72=>
 Pu (zj (some 1) x72 x71 H13) fun H23=>
 Fc Tryz.prog 131 #[v0,s38.1,s35.2.1] H23 fun x73 H24=>
 zS (n:=1) (fun s73 H25=>Any fun _=>
 Pu (zo (some (.int .i64)) .sub v2 (.int .i64 10)) fun x76=>
 Pu (zo (some (.int .i64)) .sub x76 (.int .i64 256)) fun x77=>
 Pu (zo (some (.int .i64)) .rem x77 (.int .i64 256)) fun x78=>
 K66 (s73.1,x78,()) H25)
 (fun K78=>Pu (zo (some (.int .i64)) .eql x73 (.int .i64 0)) fun x80=>
 Ite x80
 (Fc Tryz.prog 130 #[v0] H24 fun x81 H26=>
 Pu (zc v0) fun x82=>
 Pu (zd (some 13) x82) fun x83=>
 Pu (zb (some none) x83 H26) fun x84=>
 Ite x84
 (Pu (zb (some (some 16)) x1 H26) fun x85=>
 Pu (zj (some 16) x4 x85 H26) fun H27=>
 Pu (zb (some (some 16)) x4 H27) fun x86=>
 R x86 H27)
 (Pu (zd (some 3) x1) fun x87=>
 Pu (zb (some none) x87 H26) fun x88=>
 Pu (zo (some (.int .u32)) .add x88 (.int .u32 1)) fun x89=>
 Pu (zd (some 3) x1) fun x90=>
 Pu (zj (some 1) x90 x89 H26) fun H28=>
 Fc Tryz.prog 132 #[v0,s38.1,s35.2.1,x81] H28 fun x91 H29=>
 K78 (x81,()) H29))
 (K78 (x73,()) H24))))))
 (fun K91=>Pu (zo (some (.int .i64)) .eql s35.1 (.int .i64 0)) fun x93=>
 Ite x93
 (Fc Tryz.prog 130 #[v0] H12 fun x94 H30=>
 Pu (zd (some 3) x1) fun x95=>
 Pu (zb (some none) x95 H30) fun x96=>
 Pu (zo (some (.int .u32)) .add x96 (.int .u32 1)) fun x97=>
 Pu (zd (some 3) x1) fun x98=>
 Pu (zj (some 1) x98 x97 H30) fun H31=>
 K91 (x94,()) H31)
 (K91 (s35.1,()) H12)))
 (fun K98=>Pu (zo (some (.int .i64)) .geq v2 (.int .i64 266)) fun x100=>
 Ite x100
 (Pu (zd (some 15) x1) fun x101=>
 Pu (zb (some none) x101 H4) fun x102=>
 Pu (z9 (some (.int .u32)) (some (.int .i64)) x102) fun x103=>
 Pu (zo (some (.int .i64)) .sub v2 (.int .i64 10)) fun x104=>
 Pu (zo (some (.int .i64)) .sub x104 (.int .i64 256)) fun x105=>
 Pu (zo (some (.int .i64)) .quo x105 (.int .i64 256)) fun x106=>
 K98 (x103,x106,()) H4)
 (K98 (x34,x35,()) H4)))))
 (fun K106=>zS (n:=1) (fun s107 H32=>Any fun _=>
 Ite s107.1
 (Pu (zc v0) fun x110=>
 Pu (zd (some 13) x110) fun x111=>
 Pu (zj (some 1) x111 (.bool true) H32) fun H33=>
 K106 (()) H33)
 (K106 (()) H32))
 (fun K111=>Pu (zo (some (.int .i64)) .lss v2 (.int .i64 0)) fun x113=>
 Ite x113
 (K111 ((.bool true),()) H3)
 (Pu (zo (some (.int .i64)) .geq v2 (.int .i64 65802)) fun x114=>
 K111 (x114,()) H3)))
theorem fn84 (h:sh84 v0 v1 v2 v3 H R):Fc Tryz.prog 84 #[v0,v1,v2,v3] H R:=
 zs (fun f=>[].contains f) (.seq .nil (.join [] [14,15,16,17,18,19,20,21,22] (.join [19] [14,15,16,17,18] .nil .nil) (.seq .nil (.seq .nil (.seq .nil (.seq .nil (.join [10,11] [59,60,61,62,63,64,65,66,67] .nil (.join [10] [68,69,70,71,72,73,74,75] .nil (.seq .nil (.join [10,11] [81,82,83,84,85,86,87,88,89,90,91,92,12,93,94,95,96,97,98,99,100,101,102,103,104,105,106,107,108,109,110,111,112,113,114,115] (.seq .nil (.cond .nil (.seq .nil (.seq .nil (.join [12] [93,94,95,96,97,98,99,100,101,102,103,104,105,106,107,108,109,110] .nil .nil))))) .nil)))))))))) Tryz.func84 (args:=[v0,v1,v2,v3]) (Eq.mp (by kernel_rfl:sh84 v0 v1 v2 v3 H R=_) h)
def sh131 (v0 v1 v2:Value) (H:Hp) (R:Value→Hp→Prop):Prop:=
 zx (n:=2) ((.int .i64 0),(.int .i64 3),()) H (fun K1 s0 H1=>Any fun _=>
 Pu (zo (some (.int .i64)) .geq s0.2.1 (.int .i64 0)) fun x3=>
 Ite x3
 (Pu (zo (some (.int .i64)) .mul (.int .i64 256) s0.1) fun x4=>
 Pu (zc v0) fun x5=>
 Pu (zd (some 9) x5) fun x6=>
 Pu (zb (some none) x6 H1) fun x7=>
 Pu (zo (some (.int .i64)) .mul (.int .i64 4) v2) fun x8=>
 Pu (zo (some (.int .i64)) .add x8 s0.2.1) fun x9=>
 Pu (zh (some (none,1024)) x7 v1) fun x10=>
 Pu (zh (some (some 1024,1)) x10 x9) fun x11=>
 Pu (zb (some none) x11 H1) fun x12=>
 Pu (z9 (some (.int .u8)) (some (.int .i64)) x12) fun x13=>
 Pu (zo (some (.int .i64)) .add x4 x13) fun x14=>
 Pu (zo (some (.int .i64)) .sub s0.2.1 (.int .i64 1)) fun x15=>
 K1 (x14,x15,()) H1)
 (R s0.1 H1))
theorem fn131 (h:sh131 v0 v1 v2 H R):Fc Tryz.prog 131 #[v0,v1,v2] H R:=
 zs (fun f=>[].contains f) (.seq .nil (.seq .nil (.seq (.seq .nil (.loop [7,8] [9,10,13,14,15,16,17,18,19,20,21,22,23,24,25,26,27,28,11,12] .nil)) .nil))) Tryz.func131 (args:=[v0,v1,v2]) (Eq.mp (by kernel_rfl:sh131 v0 v1 v2 H R=_) h)
def sh49 (v0 v1:Value) (H:Hp) (R:Value→Hp→Prop):Prop:=
 Box 40 v1 H fun x1 H1=>
 zS (n:=1) (fun s1 H2=>Any fun _=>
 Ite s1.1
 (Pu (zc v0) fun x4=>
 Pu (zd (some 13) x4) fun x5=>
 Pu (zj (some 1) x5 (.bool true) H2) fun H3=>
 R (.tuple #[]) H3)
 (Pu (zd (some 1) x1) fun x6=>
 Pu (zb (some none) x6 H2) fun x7=>
 Pu (zd (some 2) x1) fun x8=>
 Pu (zb (some none) x8 H2) fun x9=>
 Pu (z9 (some (.int .i64)) (some (.int .u16)) x9) fun x10=>
 Pu (zd (some 3) x1) fun x11=>
 Pu (zb (some none) x11 H2) fun x12=>
 Pu (z9 (some (.int .i64)) (some (.int .u32)) x12) fun x13=>
 Pu (zu Tryz.prog 88 [(0,x7),(1,x10),(2,x13)]) fun x14=>
 Pu (zD Tryz.prog 88) fun x15=>Box 88 x15 H2 fun x16 H4=>
 Pu (zj (some 16) x16 x14 H4) fun H5=>
 zS (n:=0) (fun s16 H6=>Any fun _=>
 zx (n:=1) ((.int .i64 0),()) H6 (fun K18 s17 H7=>Any fun _=>
 zS (n:=1) (fun s19 H8=>Any fun _=>
 Ite s19.1
 (Pu (zb (some (some 16)) x16 H8) fun x22=>
 Pu (zd (some 5) x1) fun x23=>
 Pu (zb (some none) x23 H8) fun x24=>
 Pu (zh (some (none,1025)) x24 s17.1) fun x25=>
 Pu (zd (some 0) x25) fun x26=>
 Pu (zb (some none) x26 H8) fun x27=>
 Pu (zd (some 5) x1) fun x28=>
 Pu (zb (some none) x28 H8) fun x29=>
 Pu (zh (some (none,1025)) x29 s17.1) fun x30=>
 Pu (zd (some 1) x30) fun x31=>
 Pu (zb (some (some 1024)) x31 H8) fun x32=>
 Fc Tryz.prog 84 #[v0,x22,x27,x32] H8 fun x33 H9=>
 Pu (zj (some 16) x16 x33 H9) fun H10=>
 Pu (zo (some (.int .i64)) .add s17.1 (.int .i64 1)) fun x34=>
 K18 (x34,()) H10)
 (Pu (zb (some (some 16)) x16 H8) fun x35=>
 Fc Tryz.prog 85 #[x35] H8 fun x36 H11=>
 Pu (zD Tryz.prog 148) fun x37=>Box 148 x37 H11 fun x38 H12=>
 Pu (zj (some 64) x38 x36 H12) fun H13=>
 zx (n:=1) ((.int .i64 0),()) H13 (fun K39 s38 H14=>Any fun _=>
 Pu (zo (some (.int .i64)) .lss s38.1 (.int .i64 64)) fun x41=>
 Ite x41
 (Pu (zc v0) fun x42=>
 Pu (zd (some 9) x42) fun x43=>
 Pu (zb (some none) x43 H14) fun x44=>
 Pu (zc v0) fun x45=>
 Pu (zd (some 0) x45) fun x46=>
 Pu (zd (some 4) x46) fun x47=>
 Pu (zb (some none) x47 H14) fun x48=>
 Pu (zd (some 0) x1) fun x49=>
 Pu (zb (some none) x49 H14) fun x50=>
 Pu (zo (some (.int .i64)) .quo x50 (.int .i64 16)) fun x51=>
 Pu (zo (some (.int .i64)) .add x48 x51) fun x52=>
 Pu (zd (some 0) x1) fun x53=>
 Pu (zb (some none) x53 H14) fun x54=>
 Pu (zo (some (.int .i64)) .rem x54 (.int .i64 16)) fun x55=>
 Pu (zo (some (.int .i64)) .mul (.int .i64 64) x55) fun x56=>
 Pu (zo (some (.int .i64)) .add x56 s38.1) fun x57=>
 Pu (zh (some (some 64,1)) x38 s38.1) fun x58=>
 Pu (zb (some none) x58 H14) fun x59=>
 Pu (zh (some (none,1024)) x44 x52) fun x60=>
 Pu (zh (some (some 1024,1)) x60 x57) fun x61=>
 Pu (zj (some 1) x61 x59 H14) fun H15=>
 Pu (zo (some (.int .i64)) .add s38.1 (.int .i64 1)) fun x62=>
 K39 (x62,()) H15)
 (R (.tuple #[]) H14))))
 (fun K62=>Pu (zd (some 5) x1) fun x64=>
 Pu (zb (some none) x64 H7) fun x65=>
 Pu (lenE Tryz.prog 37 x65) fun x66=>
 Pu (zo (some (.int .i64)) .lss s17.1 x66) fun x67=>
 Ite x67
 (Pu (zd (some 1) x1) fun x68=>
 Pu (zb (some none) x68 H7) fun x69=>
 Pu (zo (some (.int .u16)) .eql x69 (.int .u16 1)) fun x70=>
 Ite x70
 (Pu (zc v0) fun x71=>
 Pu (zd (some 13) x71) fun x72=>
 Pu (zb (some none) x72 H7) fun x73=>
 Pu (unE .not x73) fun x74=>
 K62 (x74,()) H7)
 (K62 ((.bool false),()) H7))
 (K62 ((.bool false),()) H7))))
 (fun K74=>Pu (zd (some 1) x1) fun x76=>
 Pu (zb (some none) x76 H5) fun x77=>
 Pu (zo (some (.int .u16)) .eql x77 (.int .u16 2)) fun x78=>
 Ite x78
 (Pu (zb (some (some 16)) x16 H5) fun x79=>
 Pu (zd (some 6) x1) fun x80=>
 Pu (zb (some none) x80 H5) fun x81=>
 Fc Tryz.prog 83 #[v0,x79,x81] H5 fun x82 H16=>
 Pu (zj (some 16) x16 x82 H16) fun H17=>
 K74 (()) H17)
 (K74 (()) H5))))
 (fun K82=>Pu (zd (some 0) x1) fun x84=>
 Pu (zb (some none) x84 H1) fun x85=>
 Pu (zo (some (.int .i64)) .lss x85 (.int .i64 1)) fun x86=>
 Ite x86
 (K82 ((.bool true),()) H1)
 (Pu (zd (some 0) x1) fun x87=>
 Pu (zb (some none) x87 H1) fun x88=>
 Pu (zc v0) fun x89=>
 Pu (zd (some 0) x89) fun x90=>
 Pu (zd (some 0) x90) fun x91=>
 Pu (zd (some 2) x91) fun x92=>
 Pu (zb (some none) x92 H1) fun x93=>
 Pu (zo (some (.int .i64)) .gtr x88 x93) fun x94=>
 K82 (x94,()) H1))
theorem fn49 (h:sh49 v0 v1 H R):Fc Tryz.prog 49 #[v0,v1] H R:=
 zs (fun f=>[].contains f) (.seq .nil (.seq (.join [21] [8,9,10,11,12,13,14,15,16,17,18,19,20] .nil .nil) (.seq .nil (.join [] [34,35,36,37,38,39,40,41] .nil (.seq (.seq .nil (.loop [5] [42,43,44,45,46,47,48,49,50,51,52,53,54,55,56,57,58,61,62,63,64,65,66,67,68,69,70,71,72,73,74,75,59,60] (.seq (.join [58] [42,43,44,45,46,47,48,49,50,51,52,53,54,55,56,57] .nil .nil) .nil))) (.seq .nil (.seq .nil (.loop [7] [78,79,82,83,84,85,86,87,88,89,90,91,92,93,94,95,96,97,98,99,100,101,102,103,104,105,80,81] .nil)))))))) Tryz.func49 (args:=[v0,v1]) (Eq.mp (by kernel_rfl:sh49 v0 v1 H R=_) h)
def sh132 (v0 v1 v2 v3:Value) (H:Hp) (R:Value→Hp→Prop):Prop:=
 zx (n:=2) (v3,(.int .i64 0),()) H (fun K1 s0 H1=>Any fun _=>
 Pu (zo (some (.int .i64)) .lss s0.2.1 (.int .i64 4)) fun x3=>
 Ite x3
 (Pu (zc v0) fun x4=>
 Pu (zd (some 9) x4) fun x5=>
 Pu (zb (some none) x5 H1) fun x6=>
 Pu (zo (some (.int .i64)) .mul (.int .i64 4) v2) fun x7=>
 Pu (zo (some (.int .i64)) .add x7 s0.2.1) fun x8=>
 Pu (zo (some (.int .i64)) .rem s0.1 (.int .i64 256)) fun x9=>
 Pu (z9 (some (.int .i64)) (some (.int .u8)) x9) fun x10=>
 Pu (zh (some (none,1024)) x6 v1) fun x11=>
 Pu (zh (some (some 1024,1)) x11 x8) fun x12=>
 Pu (zj (some 1) x12 x10 H1) fun H2=>
 Pu (zo (some (.int .i64)) .quo s0.1 (.int .i64 256)) fun x13=>
 Pu (zo (some (.int .i64)) .add s0.2.1 (.int .i64 1)) fun x14=>
 K1 (x13,x14,()) H2)
 (R (.tuple #[]) H1))
theorem fn132 (h:sh132 v0 v1 v2 v3 H R):Fc Tryz.prog 132 #[v0,v1,v2,v3] H R:=
 zs (fun f=>[].contains f) (.seq .nil (.loop [3,8] [9,10,13,14,15,16,17,18,19,20,21,22,23,24,25,26,27,28,11,12] .nil)) Tryz.func132 (args:=[v0,v1,v2,v3]) (Eq.mp (by kernel_rfl:sh132 v0 v1 v2 v3 H R=_) h)
def sh130 (v0:Value) (H:Hp) (R:Value→Hp→Prop):Prop:=
 Pu (zc v0) fun x1=>
 Pu (zd (some 9) x1) fun x2=>
 Pu (zb (some none) x2 H) fun x3=>
 Pu (lenE Tryz.prog 118 x3) fun x4=>
 Pu (zc v0) fun x5=>
 Pu (zd (some 0) x5) fun x6=>
 Pu (zd (some 8) x6) fun x7=>
 Pu (zb (some none) x7 H) fun x8=>
 Pu (zo (some (.int .i64)) .sub x4 x8) fun x9=>
 zx (n:=1) ((.int .i64 0),()) H (fun K10 s9 H1=>Any fun _=>
 Pu (zo (some (.int .i64)) .lss s9.1 x9) fun x12=>
 Ite x12
 (Pu (zc v0) fun x13=>
 Pu (zd (some 0) x13) fun x14=>
 Pu (zd (some 8) x14) fun x15=>
 Pu (zb (some none) x15 H1) fun x16=>
 Pu (zc v0) fun x17=>
 Pu (zd (some 12) x17) fun x18=>
 Pu (zb (some none) x18 H1) fun x19=>
 Pu (zo (some (.int .i64)) .add x16 x19) fun x20=>
 Pu (zc v0) fun x21=>
 Pu (zd (some 12) x21) fun x22=>
 Pu (zb (some none) x22 H1) fun x23=>
 Pu (zc v0) fun x24=>
 Pu (zd (some 11) x24) fun x25=>
 Pu (zb (some none) x25 H1) fun x26=>
 Pu (zo (some (.int .i64)) .add x23 x26) fun x27=>
 Pu (zo (some (.int .i64)) .rem x27 x9) fun x28=>
 Pu (zc v0) fun x29=>
 Pu (zd (some 12) x29) fun x30=>
 Pu (zj (some 1) x30 x28 H1) fun H2=>
 Pu (zc v0) fun x31=>
 Pu (zd (some 10) x31) fun x32=>
 Pu (zb (some none) x32 H2) fun x33=>
 Pu (zh (some (none,1)) x33 x20) fun x34=>
 Pu (zb (some none) x34 H2) fun x35=>
 Pu (unE .not x35) fun x36=>
 Ite x36
 (Pu (zc v0) fun x37=>
 Pu (zd (some 10) x37) fun x38=>
 Pu (zb (some none) x38 H2) fun x39=>
 Pu (zh (some (none,1)) x39 x20) fun x40=>
 Pu (zj (some 1) x40 (.bool true) H2) fun H3=>
 R x20 H3)
 (Pu (zo (some (.int .i64)) .add s9.1 (.int .i64 1)) fun x41=>
 K10 (x41,()) H2))
 (Pu (zc v0) fun x42=>
 Pu (zd (some 13) x42) fun x43=>
 Pu (zj (some 1) x43 (.bool true) H1) fun H4=>
 R (.int .i64 0) H4))
theorem fn130 (h:sh130 v0 H R):Fc Tryz.prog 130 #[v0] H R:=
 zs (fun f=>[].contains f) (.seq .nil (.seq .nil (.seq (.seq .nil (.loop [4] [17,18,19,22,23,24,25,26,27,28,29,30,31,5,32,33,34,35,36,37,38,39,40,41,42,43,44,45,46,47,48,49,50,51,52,53,54,55,56,57,58,59,60,2,20,21] .nil)) .nil))) Tryz.func130 (args:=[v0]) (Eq.mp (by kernel_rfl:sh130 v0 H R=_) h)
def sh11 (v0 v1:Value) (H:Hp) (R:Value→Hp→Prop):Prop:=
 Pu (zo (some (.int .i64)) .rem v0 v1) fun x1=>
 Pu (zo (some (.int .i64)) .lss x1 (.int .i64 0)) fun x2=>
 Ite x2
 (Pu (zo (some (.int .i64)) .add x1 v1) fun x3=>
 R x3 H)
 (R x1 H)
theorem fn11 (h:sh11 v0 v1 H R):Fc Tryz.prog 11 #[v0,v1] H R:=
 zs (fun f=>[].contains f) .nil Tryz.func11 (args:=[v0,v1]) (Eq.mp (by kernel_rfl:sh11 v0 v1 H R=_) h)
def sh52 (v0 v1:Value) (H:Hp) (R:Value→Hp→Prop):Prop:=
 Pu (zD Tryz.prog 94) fun x1=>Box 94 x1 H fun x2 H1=>
 Pu (zo (some (.int .i64)) .add v0 (.int .i64 1)) fun x3=>
 Pu (z9 (some (.int .i64)) (some (.int .u8)) x3) fun x4=>
 Pu (zo (some (.int .i64)) .add v1 (.int .i64 1)) fun x5=>
 Pu (z9 (some (.int .i64)) (some (.int .u8)) x5) fun x6=>
 Pu (zu Tryz.prog 94 [(0,x4),(1,x6),(2,(.int .u8 77))]) fun x7=>
 Pu (zj (some 1024) x2 x7 H1) fun H2=>
 Pu (zb (some (some 1024)) x2 H2) fun x8=>
 R x8 H2
theorem fn52 (h:sh52 v0 v1 H R):Fc Tryz.prog 52 #[v0,v1] H R:=
 zs (fun f=>[].contains f) .nil Tryz.func52 (args:=[v0,v1]) (Eq.mp (by kernel_rfl:sh52 v0 v1 H R=_) h)
def sh48 (v0 v1:Value) (H:Hp) (R:Value→Hp→Prop):Prop:=
 zx (n:=2) (v0,v1,()) H (fun K1 s0 H1=>Any fun _=>
 Pu (zo (some (.int .i64)) .gtr s0.2.1 (.int .i64 0)) fun x3=>
 Ite x3
 (Pu (zo (some (.int .i64)) .rem s0.1 s0.2.1) fun x4=>
 K1 (s0.2.1,x4,()) H1)
 (R s0.1 H1))
theorem fn48 (h:sh48 v0 v1 H R):Fc Tryz.prog 48 #[v0,v1] H R:=
 zs (fun f=>[].contains f) (.seq .nil (.seq (.loop [0,1] [5,6,7,8,9,10] .nil) .nil)) Tryz.func48 (args:=[v0,v1]) (Eq.mp (by kernel_rfl:sh48 v0 v1 H R=_) h)
def sh53 (v0:Value) (H:Hp) (R:Value→Hp→Prop):Prop:=
 Pu (zD Tryz.prog 71) fun x1=>Box 71 x1 H fun x2 H1=>
 Pu (lenE Tryz.prog 118 v0) fun x3=>
 Pu (zu Tryz.prog 71 [(0,x3)]) fun x4=>
 Pu (zD Tryz.prog 71) fun x5=>Box 71 x5 H1 fun x6 H2=>
 Pu (zj (some 2) x6 x4 H2) fun H3=>
 zx (n:=1) ((.int .i64 0),()) H3 (fun K7 s6 H4=>Any fun _=>
 Pu (lenE Tryz.prog 118 v0) fun x9=>
 Pu (zo (some (.int .i64)) .lss s6.1 x9) fun x10=>
 Ite x10
 (Pu (zh (some (none,1024)) v0 s6.1) fun x11=>
 Pu (zb (some (some 1024)) x11 H4) fun x12=>
 Pu (zu Tryz.prog 94 []) fun x13=>
 Pu (yH Tryz.prog 94 false .neq x12 x13 H4) fun x14=>
 Ite x14
 (Pu (zd (some 1) x6) fun x15=>
 Pu (zb (some none) x15 H4) fun x16=>
 Pu (zh (some (none,1024)) v0 s6.1) fun x17=>
 Pu (zb (some (some 1024)) x17 H4) fun x18=>
 Pu (zu Tryz.prog 98 [(0,s6.1),(1,x18)]) fun x19=>
 ForX true H4 fun H5=>
 Pu (zI Tryz.prog 37) fun x20=>Pu (zH (some x20) 1 [(0,x19)]) fun x21=>NewS x20.type 1 x21 H5 fun x22 H6=>
 ForX true H6 fun H7=>
 Y2 (zI Tryz.prog 37) x16 x22 H7 fun x23 H8=>
 Pu (zd (some 1) x6) fun x24=>
 ForX true H8 fun H9=>
 Pu (zj (some 1) x24 x23 H9) fun H10=>
 ForX true H10 fun H11=>
 Pu (zo (some (.int .i64)) .add s6.1 (.int .i64 1)) fun x25=>
 K7 (x25,()) H11)
 (Pu (zo (some (.int .i64)) .add s6.1 (.int .i64 1)) fun x26=>
 K7 (x26,()) H4))
 (Pu (zb (some (some 2)) x6 H4) fun x27=>
 Pu (zj (some 2) x2 x27 H4) fun H12=>
 Pu (zb (some (some 2)) x2 H12) fun x28=>
 R x28 H12))
theorem fn53 (h:sh53 v0 H R):Fc Tryz.prog 53 #[v0] H R:=
 zs (fun f=>[].contains f) (.seq .nil (.seq .nil (.seq (.seq .nil (.loop [4] [8,9,10,11,14,15,16,17,18,19,20,21,22,23,24,25,26,27,28,29,30,12,13] .nil)) .nil))) Tryz.func53 (args:=[v0]) (Eq.mp (by kernel_rfl:sh53 v0 H R=_) h)
def sh88 (v0 v1:Value) (H:Hp) (R:Value→Hp→Prop):Prop:=
 Box 94 v0 H fun x1 H1=>
 zS (n:=1) (fun s1 H2=>Any fun _=>
 Ite s1.1
 (R (.bool false) H2)
 (Pu (zo (some (.int .i64)) .quo v1 (.int .i64 8)) fun x4=>
 Pu (zh (some (some 1024,1)) x1 x4) fun x5=>
 Pu (zb (some none) x5 H2) fun x6=>
 Pu (z9 (some (.int .u8)) (some (.int .i64)) x6) fun x7=>
 zx (n:=2) (x7,(.int .i64 0),()) H2 (fun K8 s7 H3=>Any fun _=>
 Pu (zo (some (.int .i64)) .rem v1 (.int .i64 8)) fun x10=>
 Pu (zo (some (.int .i64)) .lss s7.2.1 x10) fun x11=>
 Ite x11
 (Pu (zo (some (.int .i64)) .quo s7.1 (.int .i64 2)) fun x12=>
 Pu (zo (some (.int .i64)) .add s7.2.1 (.int .i64 1)) fun x13=>
 K8 (x12,x13,()) H3)
 (Pu (zo (some (.int .i64)) .rem s7.1 (.int .i64 2)) fun x14=>
 Pu (zo (some (.int .i64)) .eql x14 (.int .i64 1)) fun x15=>
 R x15 H3))))
 (fun K15=>Pu (zo (some (.int .i64)) .lss v1 (.int .i64 0)) fun x17=>
 Ite x17
 (K15 ((.bool true),()) H1)
 (Pu (zo (some (.int .i64)) .geq v1 (.int .i64 8192)) fun x18=>
 K15 (x18,()) H1))
theorem fn88 (h:sh88 v0 v1 H R):Fc Tryz.prog 88 #[v0,v1] H R:=
 zs (fun f=>[].contains f) (.seq .nil (.seq (.join [12] [7,8,9,10,11] .nil .nil) (.seq .nil (.seq (.seq .nil (.loop [5,6] [18,19,20,21,24,25,22,23] .nil)) .nil)))) Tryz.func88 (args:=[v0,v1]) (Eq.mp (by kernel_rfl:sh88 v0 v1 H R=_) h)
def sh51 (v0 v1 v2:Value) (H:Hp) (R:Value→Hp→Prop):Prop:=
 Box 94 v0 H fun x1 H1=>
 Pu (zD Tryz.prog 94) fun x2=>Box 94 x2 H1 fun x3 H2=>
 zS (n:=1) (fun s3 H3=>Any fun _=>
 Ite s3.1
 (Pu (zb (some (some 1024)) x1 H3) fun x6=>
 Pu (zj (some 1024) x3 x6 H3) fun H4=>
 Pu (zb (some (some 1024)) x3 H4) fun x7=>
 R x7 H4)
 (zx (n:=2) ((.int .u8 1),(.int .i64 0),()) H3 (fun K8 s7 H5=>Any fun _=>
 Pu (zo (some (.int .i64)) .rem v1 (.int .i64 8)) fun x10=>
 Pu (zo (some (.int .i64)) .lss s7.2.1 x10) fun x11=>
 Ite x11
 (Pu (zo (some (.int .u8)) .mul (.int .u8 2) s7.1) fun x12=>
 Pu (zo (some (.int .i64)) .add s7.2.1 (.int .i64 1)) fun x13=>
 K8 (x12,x13,()) H5)
 (zS (n:=0) (fun s13 H6=>Any fun _=>
 Pu (zb (some (some 1024)) x1 H6) fun x15=>
 Pu (zj (some 1024) x3 x15 H6) fun H7=>
 Pu (zb (some (some 1024)) x3 H7) fun x16=>
 R x16 H7)
 (fun K16=>Ite v2
 (Pu (zo (some (.int .i64)) .quo v1 (.int .i64 8)) fun x18=>
 Pu (zo (some (.int .i64)) .quo v1 (.int .i64 8)) fun x19=>
 Pu (zh (some (some 1024,1)) x1 x19) fun x20=>
 Pu (zb (some none) x20 H5) fun x21=>
 Pu (zo (some (.int .u8)) .add x21 s7.1) fun x22=>
 Pu (zh (some (some 1024,1)) x1 x18) fun x23=>
 Pu (zj (some 1) x23 x22 H5) fun H8=>
 K16 (()) H8)
 (Pu (zo (some (.int .i64)) .quo v1 (.int .i64 8)) fun x24=>
 Pu (zo (some (.int .i64)) .quo v1 (.int .i64 8)) fun x25=>
 Pu (zh (some (some 1024,1)) x1 x25) fun x26=>
 Pu (zb (some none) x26 H5) fun x27=>
 Pu (zo (some (.int .u8)) .sub x27 s7.1) fun x28=>
 Pu (zh (some (some 1024,1)) x1 x24) fun x29=>
 Pu (zj (some 1) x29 x28 H5) fun H9=>
 K16 (()) H9))))))
 (fun K29=>Pu (zo (some (.int .i64)) .lss v1 (.int .i64 0)) fun x31=>
 Ite x31
 (K29 ((.bool true),()) H2)
 (Pu (zo (some (.int .i64)) .geq v1 (.int .i64 8192)) fun x32=>
 Ite x32
 (K29 ((.bool true),()) H2)
 (Pu (zb (some (some 1024)) x1 H2) fun x33=>
 Fc Tryz.prog 88 #[x33,v1] H2 fun x34 H10=>
 Pu (zo (some .bool) .eql x34 v2) fun x35=>
 K29 (x35,()) H10)))
theorem fn51 (h:sh51 v0 v1 v2 H R):Fc Tryz.prog 51 #[v0,v1,v2] H R:=
 zs (fun f=>[].contains f) (.seq .nil (.seq (.join [21] [9,10,11,12,13,14,15,16,17,18,19,20] .nil .nil) (.seq .nil (.seq (.seq .nil (.loop [7,8] [23,24,25,26,29,30,27,28] .nil)) (.join [] [31,32,33,34,35,36,37,38,39,40,41,42,43,44,45,46,47,48,49] .nil .nil))))) Tryz.func51 (args:=[v0,v1,v2]) (Eq.mp (by kernel_rfl:sh51 v0 v1 v2 H R=_) h)
def sh50 (v0:Value) (H:Hp) (R:Value→Hp→Prop):Prop:=
 Box 74 v0 H fun x1 H1=>
 Pu (zD Tryz.prog 94) fun x2=>Box 94 x2 H1 fun x3 H2=>
 Pu (zb (some (some 9)) x1 H2) fun x4=>
 Fc Tryz.prog 86 #[x4] H2 fun x5 H3=>
 Pu (unE .not x5) fun x6=>
 Ite x6
 (Pu (zu Tryz.prog 94 []) fun x7=>
 Pu (zj (some 1024) x3 x7 H3) fun H4=>
 Pu (zb (some (some 1024)) x3 H4) fun x8=>
 R (.tuple #[x8,(.int .i64 2)]) H4)
 (Pu (zD Tryz.prog 94) fun x9=>Box 94 x9 H3 fun x10 H5=>
 zx (n:=1) ((.int .i64 0),()) H5 (fun K11 s10 H6=>Any fun _=>
 Pu (lenE Tryz.prog 9 (.string ⟨#[99,114,111,102,116,102,115,49]⟩)) fun x13=>
 Pu (zo (some (.int .i64)) .lss s10.1 x13) fun x14=>
 Ite x14
 (Pu (idxE Tryz.prog 9 (.string ⟨#[99,114,111,102,116,102,115,49]⟩) s10.1) fun x15=>
 Pu (zh (some (some 1024,1)) x10 s10.1) fun x16=>
 Pu (zj (some 1) x16 x15 H6) fun H7=>
 Pu (zo (some (.int .i64)) .add s10.1 (.int .i64 1)) fun x17=>
 K11 (x17,()) H7)
 (Pu (zb (some (some 9)) x1 H6) fun x18=>
 Fc Tryz.prog 87 #[x18] H6 fun x19 H8=>
 Pu (zD Tryz.prog 183) fun x20=>Box 183 x20 H8 fun x21 H9=>
 Pu (zj (some 9) x21 x19 H9) fun H10=>
 zx (n:=1) ((.int .i64 0),()) H10 (fun K22 s21 H11=>Any fun _=>
 Pu (zo (some (.int .i64)) .lss s21.1 (.int .i64 9)) fun x24=>
 Ite x24
 (Pu (zh (some (some 9,1)) x21 s21.1) fun x25=>
 Pu (zb (some none) x25 H11) fun x26=>
 zx (n:=2) (x26,(.int .i64 0),()) H11 (fun K27 s26 H12=>Any fun _=>
 Pu (zo (some (.int .i64)) .lss s26.2.1 (.int .i64 4)) fun x29=>
 Ite x29
 (Pu (zo (some (.int .i64)) .mul (.int .i64 4) s21.1) fun x30=>
 Pu (zo (some (.int .i64)) .add (.int .i64 8) x30) fun x31=>
 Pu (zo (some (.int .i64)) .add x31 s26.2.1) fun x32=>
 Pu (zo (some (.int .i64)) .rem s26.1 (.int .i64 256)) fun x33=>
 Pu (z9 (some (.int .i64)) (some (.int .u8)) x33) fun x34=>
 Pu (zh (some (some 1024,1)) x10 x32) fun x35=>
 Pu (zj (some 1) x35 x34 H12) fun H13=>
 Pu (zo (some (.int .i64)) .quo s26.1 (.int .i64 256)) fun x36=>
 Pu (zo (some (.int .i64)) .add s26.2.1 (.int .i64 1)) fun x37=>
 K27 (x36,x37,()) H13)
 (Pu (zo (some (.int .i64)) .add s21.1 (.int .i64 1)) fun x38=>
 K22 (x38,()) H12)))
 (Pu (zb (some (some 1024)) x10 H11) fun x39=>
 Pu (zj (some 1024) x3 x39 H11) fun H14=>
 Pu (zb (some (some 1024)) x3 H14) fun x40=>
 R (.tuple #[x40,(.int .i64 0)]) H14)))))
theorem fn50 (h:sh50 v0 H R):Fc Tryz.prog 50 #[v0] H R:=
 zs (fun f=>[].contains f) (.seq .nil (.seq .nil (.seq .nil (.seq .nil (.seq .nil (.seq (.seq .nil (.loop [7] [17,18,19,20,23,24,25,26,27,21,22] .nil)) (.seq .nil (.seq (.seq .nil (.loop [9] [30,31,34,35,36,10,11,37,38,41,42,43,44,45,46,47,48,49,50,51,39,40,32,33] (.seq .nil (.seq (.seq .nil (.seq .nil (.loop [10,11] [37,38,41,42,43,44,45,46,47,48,49,50,51,39,40] .nil))) .nil)))) .nil)))))))) Tryz.func50 (args:=[v0]) (Eq.mp (by kernel_rfl:sh50 v0 H R=_) h)
def sh86 (v0:Value) (H:Hp) (R:Value→Hp→Prop):Prop:=
 Box 74 v0 H fun x1 H1=>
 Pu (zd (some 0) x1) fun x2=>
 Pu (zb (some (some 3)) x2 H1) fun x3=>
 Fc Tryz.prog 20 #[x3] H1 fun x4 H2=>
 Pu (ze x4 0) fun x5=>
 Pu (ze x4 1) fun x6=>
 Pu (zD Tryz.prog 74) fun x7=>Box 74 x7 H2 fun x8 H3=>
 Pu (zj (some 9) x8 x5 H3) fun H4=>
 Pu (zo (some (.int .i64)) .eql x6 (.int .i64 0)) fun x9=>
 Ite x9
 (Pu (zb (some (some 9)) x8 H4) fun x10=>
 Pu (zb (some (some 9)) x1 H4) fun x11=>
 Pu (yH Tryz.prog 74 false .eql x10 x11 H4) fun x12=>
 R x12 H4)
 (R (.bool false) H4)
theorem fn86 (h:sh86 v0 H R):Fc Tryz.prog 86 #[v0] H R:=
 zs (fun f=>[].contains f) .nil Tryz.func86 (args:=[v0]) (Eq.mp (by kernel_rfl:sh86 v0 H R=_) h)
def sh20 (v0:Value) (H:Hp) (R:Value→Hp→Prop):Prop:=
 Box 23 v0 H fun x1 H1=>
 Pu (zD Tryz.prog 74) fun x2=>Box 74 x2 H1 fun x3 H2=>
 zS (n:=1) (fun s3 H3=>Any fun _=>
 Ite s3.1
 (Pu (zu Tryz.prog 74 []) fun x6=>
 Pu (zj (some 9) x3 x6 H3) fun H4=>
 Pu (zb (some (some 9)) x3 H4) fun x7=>
 R (.tuple #[x7,(.int .i64 2)]) H4)
 (Pu (zb (some (some 3)) x1 H3) fun x8=>
 Pu (zd (some 1) x1) fun x9=>
 Pu (zb (some none) x9 H3) fun x10=>
 Pu (zo (some (.int .i64)) .add (.int .i64 1) x10) fun x11=>
 Pu (zu Tryz.prog 74 [(0,x8),(1,(.int .i64 1)),(2,x11)]) fun x12=>
 Pu (zD Tryz.prog 74) fun x13=>Box 74 x13 H3 fun x14 H5=>
 Pu (zj (some 9) x14 x12 H5) fun H6=>
 zx (n:=0) () H6 (fun K15 s14 H7=>Any fun _=>
 Pu (zd (some 5) x14) fun x17=>
 Pu (zb (some none) x17 H7) fun x18=>
 Pu (zo (some (.int .i64)) .mul (.int .i64 16) x18) fun x19=>
 Pu (zd (some 2) x1) fun x20=>
 Pu (zb (some none) x20 H7) fun x21=>
 Pu (zo (some (.int .i64)) .add x21 (.int .i64 1)) fun x22=>
 Pu (zo (some (.int .i64)) .lss x19 x22) fun x23=>
 Ite x23
 (Pu (zd (some 5) x14) fun x24=>
 Pu (zb (some none) x24 H7) fun x25=>
 Pu (zo (some (.int .i64)) .add x25 (.int .i64 1)) fun x26=>
 Pu (zd (some 5) x14) fun x27=>
 Pu (zj (some 1) x27 x26 H7) fun H8=>
 K15 (()) H8)
 (Pu (zd (some 4) x14) fun x28=>
 Pu (zb (some none) x28 H7) fun x29=>
 Pu (zd (some 5) x14) fun x30=>
 Pu (zb (some none) x30 H7) fun x31=>
 Pu (zo (some (.int .i64)) .add x29 x31) fun x32=>
 Pu (zd (some 6) x14) fun x33=>
 Pu (zj (some 1) x33 x32 H7) fun H9=>
 zx (n:=0) () H9 (fun K34 s33 H10=>Any fun _=>
 Pu (zd (some 7) x14) fun x36=>
 Pu (zb (some none) x36 H10) fun x37=>
 Pu (zo (some (.int .i64)) .mul (.int .i64 8192) x37) fun x38=>
 Pu (zd (some 0) x1) fun x39=>
 Pu (zb (some none) x39 H10) fun x40=>
 Pu (zo (some (.int .i64)) .lss x38 x40) fun x41=>
 Ite x41
 (Pu (zd (some 7) x14) fun x42=>
 Pu (zb (some none) x42 H10) fun x43=>
 Pu (zo (some (.int .i64)) .add x43 (.int .i64 1)) fun x44=>
 Pu (zd (some 7) x14) fun x45=>
 Pu (zj (some 1) x45 x44 H10) fun H11=>
 K34 (()) H11)
 (Pu (zd (some 6) x14) fun x46=>
 Pu (zb (some none) x46 H10) fun x47=>
 Pu (zd (some 7) x14) fun x48=>
 Pu (zb (some none) x48 H10) fun x49=>
 Pu (zo (some (.int .i64)) .add x47 x49) fun x50=>
 Pu (zd (some 8) x14) fun x51=>
 Pu (zj (some 1) x51 x50 H10) fun H12=>
 Pu (zd (some 8) x14) fun x52=>
 Pu (zb (some none) x52 H12) fun x53=>
 Pu (zd (some 0) x1) fun x54=>
 Pu (zb (some none) x54 H12) fun x55=>
 Pu (zo (some (.int .i64)) .geq x53 x55) fun x56=>
 Ite x56
 (Pu (zu Tryz.prog 74 []) fun x57=>
 Pu (zj (some 9) x3 x57 H12) fun H13=>
 Pu (zb (some (some 9)) x3 H13) fun x58=>
 R (.tuple #[x58,(.int .i64 2)]) H13)
 (Pu (zb (some (some 9)) x14 H12) fun x59=>
 Pu (zj (some 9) x3 x59 H12) fun H14=>
 Pu (zb (some (some 9)) x3 H14) fun x60=>
 R (.tuple #[x60,(.int .i64 0)]) H14)))))))
 (fun K60=>Pu (zd (some 1) x1) fun x62=>
 Pu (zb (some none) x62 H2) fun x63=>
 Pu (zo (some (.int .i64)) .lss x63 (.int .i64 32)) fun x64=>
 Ite x64
 (K60 ((.bool true),()) H2)
 (Pu (zd (some 1) x1) fun x65=>
 Pu (zb (some none) x65 H2) fun x66=>
 Pu (zo (some (.int .i64)) .gtr x66 (.int .i64 256)) fun x67=>
 Ite x67
 (K60 ((.bool true),()) H2)
 (Pu (zd (some 2) x1) fun x68=>
 Pu (zb (some none) x68 H2) fun x69=>
 Pu (zo (some (.int .i64)) .lss x69 (.int .i64 1)) fun x70=>
 Ite x70
 (K60 ((.bool true),()) H2)
 (Pu (zd (some 2) x1) fun x71=>
 Pu (zb (some none) x71 H2) fun x72=>
 Pu (zo (some (.int .i64)) .gtr x72 (.int .i64 65535)) fun x73=>
 Ite x73
 (K60 ((.bool true),()) H2)
 (Pu (zd (some 0) x1) fun x74=>
 Pu (zb (some none) x74 H2) fun x75=>
 Pu (zo (some (.int .i64)) .gtr x75 (.int .i64 1048576)) fun x76=>
 Ite x76
 (K60 ((.bool true),()) H2)
 (Pu (zd (some 0) x1) fun x77=>
 Pu (zb (some none) x77 H2) fun x78=>
 Pu (zo (some (.int .i64)) .lss x78 (.int .i64 1)) fun x79=>
 K60 (x79,()) H2))))))
theorem fn20 (h:sh20 v0 H R):Fc Tryz.prog 20 #[v0] H R:=
 zs (fun f=>[].contains f) (.seq .nil (.seq (.join [32] [5,6,7,8,9,10,11,12,13,14,15,16,17,18,19,20,21,22,23,24,25,26,27,28,29,30,31] .nil .nil) (.seq .nil (.seq (.loop [] [39,40,41,42,43,44,45,46,47,48,49] .nil) (.seq .nil (.seq (.loop [] [56,57,58,59,60,61,62,63,64,65] .nil) .nil)))))) Tryz.func20 (args:=[v0]) (Eq.mp (by kernel_rfl:sh20 v0 H R=_) h)
def sh87 (v0:Value) (H:Hp) (R:Value→Hp→Prop):Prop:=
 Box 74 v0 H fun x1 H1=>
 Pu (zD Tryz.prog 183) fun x2=>Box 183 x2 H1 fun x3 H2=>
 Pu (zd (some 0) x1) fun x4=>
 Pu (zd (some 0) x4) fun x5=>
 Pu (zb (some none) x5 H2) fun x6=>
 Pu (zd (some 0) x1) fun x7=>
 Pu (zd (some 1) x7) fun x8=>
 Pu (zb (some none) x8 H2) fun x9=>
 Pu (zd (some 0) x1) fun x10=>
 Pu (zd (some 2) x10) fun x11=>
 Pu (zb (some none) x11 H2) fun x12=>
 Pu (zd (some 3) x1) fun x13=>
 Pu (zb (some none) x13 H2) fun x14=>
 Pu (zd (some 4) x1) fun x15=>
 Pu (zb (some none) x15 H2) fun x16=>
 Pu (zd (some 5) x1) fun x17=>
 Pu (zb (some none) x17 H2) fun x18=>
 Pu (zd (some 6) x1) fun x19=>
 Pu (zb (some none) x19 H2) fun x20=>
 Pu (zd (some 7) x1) fun x21=>
 Pu (zb (some none) x21 H2) fun x22=>
 Pu (zd (some 8) x1) fun x23=>
 Pu (zb (some none) x23 H2) fun x24=>
 Pu (zu Tryz.prog 183 [(0,x6),(1,x9),(2,x12),(3,x14),(4,x16),(5,x18),(6,x20),(7,x22),(8,x24)]) fun x25=>
 Pu (zj (some 9) x3 x25 H2) fun H3=>
 Pu (zb (some (some 9)) x3 H3) fun x26=>
 R x26 H3
theorem fn87 (h:sh87 v0 H R):Fc Tryz.prog 87 #[v0] H R:=
 zs (fun f=>[].contains f) .nil Tryz.func87 (args:=[v0]) (Eq.mp (by kernel_rfl:sh87 v0 H R=_) h)
def sh85 (v0:Value) (H:Hp) (R:Value→Hp→Prop):Prop:=
 Box 88 v0 H fun x1 H1=>
 Pu (zD Tryz.prog 148) fun x2=>Box 148 x2 H1 fun x3 H2=>
 Pu (zD Tryz.prog 148) fun x4=>Box 148 x4 H2 fun x5 H3=>
 Pu (zb (some (some 64)) x5 H3) fun x6=>
 Pu (zd (some 0) x1) fun x7=>
 Pu (zb (some none) x7 H3) fun x8=>
 Pu (z9 (some (.int .u16)) (some (.int .u32)) x8) fun x9=>
 Fc Tryz.prog 133 #[x6,(.int .i64 0),(.int .i64 2),x9] H3 fun x10 H4=>
 Pu (zj (some 64) x5 x10 H4) fun H5=>
 Pu (zb (some (some 64)) x5 H5) fun x11=>
 Pu (zd (some 1) x1) fun x12=>
 Pu (zb (some none) x12 H5) fun x13=>
 Pu (z9 (some (.int .u16)) (some (.int .u32)) x13) fun x14=>
 Fc Tryz.prog 133 #[x11,(.int .i64 2),(.int .i64 2),x14] H5 fun x15 H6=>
 Pu (zj (some 64) x5 x15 H6) fun H7=>
 Pu (zb (some (some 64)) x5 H7) fun x16=>
 Pu (zd (some 2) x1) fun x17=>
 Pu (zb (some none) x17 H7) fun x18=>
 Fc Tryz.prog 133 #[x16,(.int .i64 4),(.int .i64 4),x18] H7 fun x19 H8=>
 Pu (zj (some 64) x5 x19 H8) fun H9=>
 Pu (zb (some (some 64)) x5 H9) fun x20=>
 Pu (zd (some 3) x1) fun x21=>
 Pu (zb (some none) x21 H9) fun x22=>
 Fc Tryz.prog 133 #[x20,(.int .i64 8),(.int .i64 4),x22] H9 fun x23 H10=>
 Pu (zj (some 64) x5 x23 H10) fun H11=>
 Pu (zb (some (some 16)) x1 H11) fun x24=>
 Fc Tryz.prog 134 #[x24] H11 fun x25 H12=>
 Pu (zD Tryz.prog 239) fun x26=>Box 239 x26 H12 fun x27 H13=>
 Pu (zj (some 12) x27 x25 H13) fun H14=>
 zx (n:=1) ((.int .i64 0),()) H14 (fun K28 s27 H15=>Any fun _=>
 Pu (zo (some (.int .i64)) .lss s27.1 (.int .i64 12)) fun x30=>
 Ite x30
 (Pu (zb (some (some 64)) x5 H15) fun x31=>
 Pu (zo (some (.int .i64)) .mul (.int .i64 4) s27.1) fun x32=>
 Pu (zo (some (.int .i64)) .add (.int .i64 12) x32) fun x33=>
 Pu (zh (some (some 12,1)) x27 s27.1) fun x34=>
 Pu (zb (some none) x34 H15) fun x35=>
 Fc Tryz.prog 133 #[x31,x33,(.int .i64 4),x35] H15 fun x36 H16=>
 Pu (zj (some 64) x5 x36 H16) fun H17=>
 Pu (zo (some (.int .i64)) .add s27.1 (.int .i64 1)) fun x37=>
 K28 (x37,()) H17)
 (Pu (zb (some (some 64)) x5 H15) fun x38=>
 Pu (zj (some 64) x3 x38 H15) fun H18=>
 Pu (zb (some (some 64)) x3 H18) fun x39=>
 R x39 H18))
theorem fn85 (h:sh85 v0 H R):Fc Tryz.prog 85 #[v0] H R:=
 zs (fun f=>[].contains f) (.seq .nil (.seq .nil (.seq .nil (.seq .nil (.seq .nil (.seq .nil (.seq .nil (.seq (.seq .nil (.loop [5] [26,27,30,31,32,33,34,35,36,37,28,29] .nil)) .nil)))))))) Tryz.func85 (args:=[v0]) (Eq.mp (by kernel_rfl:sh85 v0 H R=_) h)
def sh134 (v0:Value) (H:Hp) (R:Value→Hp→Prop):Prop:=
 Box 88 v0 H fun x1 H1=>
 Pu (zD Tryz.prog 239) fun x2=>Box 239 x2 H1 fun x3 H2=>
 Pu (zD Tryz.prog 239) fun x4=>Box 239 x4 H2 fun x5 H3=>
 zx (n:=1) ((.int .i64 0),()) H3 (fun K6 s5 H4=>Any fun _=>
 Pu (zo (some (.int .i64)) .lss s5.1 (.int .i64 10)) fun x8=>
 Ite x8
 (Pu (zd (some 4) x1) fun x9=>
 Pu (zh (some (some 10,1)) x9 s5.1) fun x10=>
 Pu (zb (some none) x10 H4) fun x11=>
 Pu (zh (some (some 12,1)) x5 s5.1) fun x12=>
 Pu (zj (some 1) x12 x11 H4) fun H5=>
 Pu (zo (some (.int .i64)) .add s5.1 (.int .i64 1)) fun x13=>
 K6 (x13,()) H5)
 (Pu (zd (some 14) x1) fun x14=>
 Pu (zb (some none) x14 H4) fun x15=>
 Pu (zh (some (some 12,1)) x5 (.int .i64 10)) fun x16=>
 Pu (zj (some 1) x16 x15 H4) fun H6=>
 Pu (zd (some 15) x1) fun x17=>
 Pu (zb (some none) x17 H6) fun x18=>
 Pu (zh (some (some 12,1)) x5 (.int .i64 11)) fun x19=>
 Pu (zj (some 1) x19 x18 H6) fun H7=>
 Pu (zb (some (some 12)) x5 H7) fun x20=>
 Pu (zj (some 12) x3 x20 H7) fun H8=>
 Pu (zb (some (some 12)) x3 H8) fun x21=>
 R x21 H8))
theorem fn134 (h:sh134 v0 H R):Fc Tryz.prog 134 #[v0] H R:=
 zs (fun f=>[].contains f) (.seq .nil (.seq .nil (.seq (.seq .nil (.loop [4] [5,6,9,10,11,12,13,14,7,8] .nil)) .nil))) Tryz.func134 (args:=[v0]) (Eq.mp (by kernel_rfl:sh134 v0 H R=_) h)
def sh133 (v0 v1 v2 v3:Value) (H:Hp) (R:Value→Hp→Prop):Prop:=
 Box 148 v0 H fun x1 H1=>
 Pu (zD Tryz.prog 148) fun x2=>Box 148 x2 H1 fun x3 H2=>
 zx (n:=2) (v3,(.int .i64 0),()) H2 (fun K4 s3 H3=>Any fun _=>
 Pu (zo (some (.int .i64)) .lss s3.2.1 v2) fun x6=>
 Ite x6
 (Pu (zo (some (.int .i64)) .add v1 s3.2.1) fun x7=>
 Pu (zo (some (.int .u32)) .rem s3.1 (.int .u32 256)) fun x8=>
 Pu (z9 (some (.int .u32)) (some (.int .u8)) x8) fun x9=>
 Pu (zh (some (some 64,1)) x1 x7) fun x10=>
 Pu (zj (some 1) x10 x9 H3) fun H4=>
 Pu (zo (some (.int .u32)) .quo s3.1 (.int .u32 256)) fun x11=>
 Pu (zo (some (.int .i64)) .add s3.2.1 (.int .i64 1)) fun x12=>
 K4 (x11,x12,()) H4)
 (Pu (zb (some (some 64)) x1 H3) fun x13=>
 Pu (zj (some 64) x3 x13 H3) fun H5=>
 Pu (zb (some (some 64)) x3 H5) fun x14=>
 R x14 H5))
theorem fn133 (h:sh133 v0 v1 v2 v3 H R):Fc Tryz.prog 133 #[v0,v1,v2,v3] H R:=
 zs (fun f=>[].contains f) (.seq .nil (.seq (.seq .nil (.loop [3,9] [10,11,12,15,16,17,18,19,20,21,22,23,13,14] .nil)) .nil)) Tryz.func133 (args:=[v0,v1,v2,v3]) (Eq.mp (by kernel_rfl:sh133 v0 v1 v2 v3 H R=_) h)
def sh13 (v0:Value) (H:Hp) (R:Value→Hp→Prop):Prop:=
 Box 61 v0 H fun x1 H1=>
 Pu (zD Tryz.prog 57) fun x2=>Box 57 x2 H1 fun x3 H2=>
 Pu (zD Tryz.prog 57) fun x4=>Box 57 x4 H2 fun x5 H3=>
 Pu (zd (some 0) x1) fun x6=>
 Pu (zb (some none) x6 H3) fun x7=>
 Pu (zo (some (.int .u16)) .eql x7 (.int .u16 0)) fun x8=>
 Ite x8
 (Pu (zd (some 1) x1) fun x9=>
 Pu (zb (some none) x9 H3) fun x10=>
 Pu (zo (some .string) .neq x10 (.string ⟨#[]⟩)) fun x11=>
 Ite x11
 (Pu (zb (some (some 16)) x5 H3) fun x12=>
 Pu (zj (some 16) x3 x12 H3) fun H4=>
 Pu (zb (some (some 16)) x3 H4) fun x13=>
 R (.tuple #[x13,(.int .i64 4)]) H4)
 (Pu (zb (some (some 16)) x5 H3) fun x14=>
 Pu (zj (some 16) x3 x14 H3) fun H5=>
 Pu (zb (some (some 16)) x3 H5) fun x15=>
 R (.tuple #[x15,(.int .i64 0)]) H5))
 (Pu (zd (some 1) x1) fun x16=>
 Pu (zb (some none) x16 H3) fun x17=>
 Fc Tryz.prog 28 #[x17] H3 fun x18 H6=>
 Pu (zo (some (.int .i64)) .neq x18 (.int .i64 0)) fun x19=>
 Ite x19
 (Pu (zb (some (some 16)) x5 H6) fun x20=>
 Pu (zj (some 16) x3 x20 H6) fun H7=>
 Pu (zb (some (some 16)) x3 H7) fun x21=>
 R (.tuple #[x21,x18]) H7)
 (Pu (zd (some 0) x1) fun x22=>
 Pu (zb (some none) x22 H6) fun x23=>
 Pu (zo (some (.int .u16)) .rem x23 (.int .u16 256)) fun x24=>
 Pu (z9 (some (.int .u16)) (some (.int .u8)) x24) fun x25=>
 Pu (zh (some (some 16,1)) x5 (.int .i64 0)) fun x26=>
 Pu (zj (some 1) x26 x25 H6) fun H8=>
 Pu (zd (some 0) x1) fun x27=>
 Pu (zb (some none) x27 H8) fun x28=>
 Pu (zo (some (.int .u16)) .quo x28 (.int .u16 256)) fun x29=>
 Pu (z9 (some (.int .u16)) (some (.int .u8)) x29) fun x30=>
 Pu (zh (some (some 16,1)) x5 (.int .i64 1)) fun x31=>
 Pu (zj (some 1) x31 x30 H8) fun H9=>
 zx (n:=1) ((.int .i64 0),()) H9 (fun K32 s31 H10=>Any fun _=>
 Pu (zd (some 1) x1) fun x34=>
 Pu (zb (some none) x34 H10) fun x35=>
 Pu (lenE Tryz.prog 9 x35) fun x36=>
 Pu (zo (some (.int .i64)) .lss s31.1 x36) fun x37=>
 Ite x37
 (Pu (zo (some (.int .i64)) .add (.int .i64 2) s31.1) fun x38=>
 Pu (zd (some 1) x1) fun x39=>
 Pu (zb (some none) x39 H10) fun x40=>
 Pu (idxE Tryz.prog 9 x40 s31.1) fun x41=>
 Pu (zh (some (some 16,1)) x5 x38) fun x42=>
 Pu (zj (some 1) x42 x41 H10) fun H11=>
 Pu (zo (some (.int .i64)) .add s31.1 (.int .i64 1)) fun x43=>
 K32 (x43,()) H11)
 (Pu (zb (some (some 16)) x5 H10) fun x44=>
 Pu (zj (some 16) x3 x44 H10) fun H12=>
 Pu (zb (some (some 16)) x3 H12) fun x45=>
 R (.tuple #[x45,(.int .i64 0)]) H12))))
theorem fn13 (h:sh13 v0 H R):Fc Tryz.prog 13 #[v0] H R:=
 zs (fun f=>[].contains f) (.seq .nil (.seq .nil (.seq .nil (.seq .nil (.seq .nil (.seq .nil (.seq .nil (.seq (.seq .nil (.loop [6] [32,33,34,35,36,39,40,41,42,43,44,45,37,38] .nil)) .nil)))))))) Tryz.func13 (args:=[v0]) (Eq.mp (by kernel_rfl:sh13 v0 H R=_) h)
def sh28 (v0:Value) (H:Hp) (R:Value→Hp→Prop):Prop:=
 Pu (zo (some .string) .eql v0 (.string ⟨#[]⟩)) fun x1=>
 Ite x1
 (R (.int .i64 4) H)
 (zx (n:=1) ((.int .i64 0),()) H (fun K2 s1 H1=>Any fun _=>
 Pu (lenE Tryz.prog 9 v0) fun x4=>
 Pu (zo (some (.int .i64)) .lss s1.1 x4) fun x5=>
 Ite x5
 (zS (n:=1) (fun s5 H2=>Any fun _=>
 Ite s5.1
 (R (.int .i64 4) H2)
 (Pu (zo (some (.int .i64)) .add s1.1 (.int .i64 1)) fun x8=>
 K2 (x8,()) H2))
 (fun K8=>Pu (idxE Tryz.prog 9 v0 s1.1) fun x10=>
 Pu (zo (some (.int .u8)) .eql x10 (.int .u8 0)) fun x11=>
 Ite x11
 (K8 ((.bool true),()) H1)
 (Pu (idxE Tryz.prog 9 v0 s1.1) fun x12=>
 Pu (zo (some (.int .u8)) .eql x12 (.int .u8 47)) fun x13=>
 K8 (x13,()) H1)))
 (Pu (lenE Tryz.prog 9 v0) fun x14=>
 Pu (zo (some (.int .i64)) .gtr x14 (.int .i64 14)) fun x15=>
 Ite x15
 (R (.int .i64 12) H1)
 (R (.int .i64 0) H1))))
theorem fn28 (h:sh28 v0 H R):Fc Tryz.prog 28 #[v0] H R:=
 zs (fun f=>[].contains f) (.seq .nil (.seq .nil (.seq (.seq .nil (.loop [3] [6,7,8,9,12,13,14,15,16,17,18,19,20,21,2,10,11] (.seq .nil (.seq (.join [21] [12,13,14,15,16,17,18,19,20] .nil .nil) .nil)))) .nil))) Tryz.func28 (args:=[v0]) (Eq.mp (by kernel_rfl:sh28 v0 H R=_) h)
variable {H:Hp} {R:Value→Hp→Prop} {v0 v1 v2 v3 v4 v5 v6 v7 v8:Value}
set_option maxRecDepth 100000
def sh19 (v0 v1 v2:Value) (H:Hp) (R:Value→Hp→Prop):Prop:=
 Box 23 v0 H fun x1 H1=>
 Box 26 v1 H1 fun x2 H2=>
 Pu (zD Tryz.prog 71) fun x3=>Box 71 x3 H2 fun x4 H3=>
 Pu (zb (some (some 3)) x1 H3) fun x5=>
 Fc Tryz.prog 20 #[x5] H3 fun x6 H4=>
 Pu (ze x6 0) fun x7=>
 Pu (ze x6 1) fun x8=>
 Pu (zD Tryz.prog 74) fun x9=>Box 74 x9 H4 fun x10 H5=>
 Pu (zj (some 9) x10 x7 H5) fun H6=>
 Pu (zo (some (.int .i64)) .neq x8 (.int .i64 0)) fun x11=>
 Ite x11
 (Pu (zu Tryz.prog 71 []) fun x12=>
 Pu (zj (some 2) x4 x12 H6) fun H7=>
 Pu (zb (some (some 2)) x4 H7) fun x13=>
 R x13 H7)
 (zS (n:=1) (fun s13 H8=>Any fun _=>
 Pu (zd (some 0) x1) fun x16=>
 Pu (zb (some none) x16 H8) fun x17=>
 Pu (zd (some 8) x10) fun x18=>
 Pu (zb (some none) x18 H8) fun x19=>
 Pu (zo (some (.int .i64)) .sub x17 x19) fun x20=>
 Fc Tryz.prog 11 #[v2,(.int .i64 1000003)] H8 fun x21 H9=>
 Pu (zo (some (.int .i64)) .rem x21 x20) fun x22=>
 Pu (zc s13.1) fun x23=>
 Pu (zd (some 12) x23) fun x24=>
 Pu (zj (some 1) x24 x22 H9) fun H10=>
 Pu (zo (some (.int .i64)) .quo x21 (.int .i64 7)) fun x25=>
 Pu (zo (some (.int .i64)) .rem x25 x20) fun x26=>
 Pu (zo (some (.int .i64)) .add (.int .i64 1) x26) fun x27=>
 Pu (zc s13.1) fun x28=>
 Pu (zd (some 11) x28) fun x29=>
 Pu (zj (some 1) x29 x27 H10) fun H11=>
 zx (n:=0) () H11 (fun K30 s29 H12=>Any fun _=>
 Pu (zc s13.1) fun x32=>
 Pu (zd (some 11) x32) fun x33=>
 Pu (zb (some none) x33 H12) fun x34=>
 Fc Tryz.prog 48 #[x34,x20] H12 fun x35 H13=>
 Pu (zo (some (.int .i64)) .neq x35 (.int .i64 1)) fun x36=>
 Ite x36
 (Pu (zc s13.1) fun x37=>
 Pu (zd (some 11) x37) fun x38=>
 Pu (zb (some none) x38 H13) fun x39=>
 Pu (zo (some (.int .i64)) .add x39 (.int .i64 1)) fun x40=>
 Pu (zc s13.1) fun x41=>
 Pu (zd (some 11) x41) fun x42=>
 Pu (zj (some 1) x42 x40 H13) fun H14=>
 K30 (()) H14)
 (zx (n:=1) ((.int .i64 0),()) H13 (fun K43 s42 H15=>Any fun _=>
 zS (n:=1) (fun s44 H16=>Any fun _=>
 Ite s44.1
 (Pu (zd (some 0) x2) fun x47=>
 Pu (zb (some none) x47 H16) fun x48=>
 Pu (zh (some (none,7)) x48 s42.1) fun x49=>
 Pu (zb (some (some 7)) x49 H16) fun x50=>
 Fc Tryz.prog 49 #[s13.1,x50] H16 fun x51 H17=>
 Pu (zo (some (.int .i64)) .add s42.1 (.int .i64 1)) fun x52=>
 K43 (x52,()) H17)
 (Pu (zc s13.1) fun x53=>
 Pu (zd (some 13) x53) fun x54=>
 Pu (zb (some none) x54 H16) fun x55=>
 Ite x55
 (Pu (zu Tryz.prog 71 []) fun x56=>
 Pu (zj (some 2) x4 x56 H16) fun H18=>
 Pu (zb (some (some 2)) x4 H18) fun x57=>
 R x57 H18)
 (zS (n:=0) (fun s57 H19=>Any fun _=>
 zx (n:=1) ((.int .i64 0),()) H19 (fun K59 s58 H20=>Any fun _=>
 Pu (zd (some 0) x1) fun x61=>
 Pu (zb (some none) x61 H20) fun x62=>
 Pu (zo (some (.int .i64)) .lss s58.1 x62) fun x63=>
 Ite x63
 (zS (n:=1) (fun s63 H21=>Any fun _=>
 Ite s63.1
 (Pu (zc s13.1) fun x66=>
 Pu (zd (some 9) x66) fun x67=>
 Pu (zb (some none) x67 H21) fun x68=>
 Pu (zd (some 6) x10) fun x69=>
 Pu (zb (some none) x69 H21) fun x70=>
 Pu (zo (some (.int .i64)) .quo s58.1 (.int .i64 8192)) fun x71=>
 Pu (zo (some (.int .i64)) .add x70 x71) fun x72=>
 Pu (zc s13.1) fun x73=>
 Pu (zd (some 9) x73) fun x74=>
 Pu (zb (some none) x74 H21) fun x75=>
 Pu (zd (some 6) x10) fun x76=>
 Pu (zb (some none) x76 H21) fun x77=>
 Pu (zo (some (.int .i64)) .quo s58.1 (.int .i64 8192)) fun x78=>
 Pu (zo (some (.int .i64)) .add x77 x78) fun x79=>
 Pu (zh (some (none,1024)) x75 x79) fun x80=>
 Pu (zb (some (some 1024)) x80 H21) fun x81=>
 Pu (zo (some (.int .i64)) .rem s58.1 (.int .i64 8192)) fun x82=>
 ∃ x83,QC true Tryz.prog 51 #[x81,x82,(.bool true)] H21 x83∧(
 Pu (zh (some (none,1024)) x68 x72) fun x84=>
 ForX true H21 fun H22=>
 Pu (zj (some 1024) x84 x83 H22) fun H23=>
 ForX true H23 fun H24=>
 Pu (zo (some (.int .i64)) .add s58.1 (.int .i64 1)) fun x85=>
 K59 (x85,()) H24))
 (zS (n:=1) (fun s85 H25=>Any fun _=>
 Ite s85.1
 (Pu (zc s13.1) fun x88=>
 Pu (zd (some 9) x88) fun x89=>
 Pu (zb (some none) x89 H25) fun x90=>
 ∃ x91,QC true Tryz.prog 52 #[s58.1,x21] H25 x91∧(
 Pu (zh (some (none,1024)) x90 s58.1) fun x92=>
 ForX true H25 fun H26=>
 Pu (zj (some 1024) x92 x91 H26) fun H27=>
 ForX true H27 fun H28=>
 Pu (zo (some (.int .i64)) .add s58.1 (.int .i64 1)) fun x93=>
 K59 (x93,()) H28))
 (Pu (zo (some (.int .i64)) .add s58.1 (.int .i64 1)) fun x94=>
 K59 (x94,()) H25))
 (fun K94=>Pu (zo (some (.int .i64)) .rem x21 (.int .i64 2)) fun x96=>
 Pu (zo (some (.int .i64)) .eql x96 (.int .i64 1)) fun x97=>
 Ite x97
 (Pu (zo (some (.int .i64)) .rem s58.1 (.int .i64 3)) fun x98=>
 Pu (zo (some (.int .i64)) .eql x98 (.int .i64 0)) fun x99=>
 K94 (x99,()) H21)
 (K94 ((.bool false),()) H21))))
 (fun K99=>Pu (zd (some 8) x10) fun x101=>
 Pu (zb (some none) x101 H20) fun x102=>
 Pu (zo (some (.int .i64)) .lss s58.1 x102) fun x103=>
 Ite x103
 (K99 ((.bool true),()) H20)
 (Pu (zc s13.1) fun x104=>
 Pu (zd (some 10) x104) fun x105=>
 Pu (zb (some none) x105 H20) fun x106=>
 Pu (zh (some (none,1)) x106 s58.1) fun x107=>
 Pu (zb (some none) x107 H20) fun x108=>
 K99 (x108,()) H20)))
 (zS (n:=0) (fun s108 H29=>Any fun _=>
 Pu (zc s13.1) fun x110=>
 Pu (zd (some 9) x110) fun x111=>
 Pu (zb (some none) x111 H29) fun x112=>
 Fc Tryz.prog 53 #[x112] H29 fun x113 H30=>
 Pu (zj (some 2) x4 x113 H30) fun H31=>
 Pu (zb (some (some 2)) x4 H31) fun x114=>
 R x114 H31)
 (fun K114=>Pu (zo (some (.int .i64)) .rem x21 (.int .i64 2)) fun x116=>
 Pu (zo (some (.int .i64)) .eql x116 (.int .i64 1)) fun x117=>
 Ite x117
 (Pu (zc s13.1) fun x118=>
 Pu (zd (some 9) x118) fun x119=>
 Pu (zb (some none) x119 H20) fun x120=>
 Pu (zd (some 3) x10) fun x121=>
 Pu (zb (some none) x121 H20) fun x122=>
 Pu (zo (some (.int .i64)) .add x122 (.int .i64 1)) fun x123=>
 Pu (zd (some 1) x1) fun x124=>
 Pu (zb (some none) x124 H20) fun x125=>
 Pu (zo (some (.int .i64)) .sub x125 (.int .i64 1)) fun x126=>
 Pu (zo (some (.int .i64)) .rem x21 x126) fun x127=>
 Pu (zo (some (.int .i64)) .add x123 x127) fun x128=>
 ∃ x129,QC true Tryz.prog 52 #[(.int .i64 1),x21] H20 x129∧(
 Pu (zh (some (none,1024)) x120 x128) fun x130=>
 ForX true H20 fun H32=>
 Pu (zj (some 1024) x130 x129 H32) fun H33=>
 ForX true H33 fun H34=>
 K114 (()) H34))
 (K114 (()) H20)))))
 (fun K130=>Pu (zc s13.1) fun x132=>
 Pu (zd (some 9) x132) fun x133=>
 Pu (zb (some (some 9)) x10 H16) fun x134=>
 And
 (Pu (zb (some none) x133 H16) fun x140=>
 ForX true H16 fun H40=>
 Fc Tryz.prog 50 #[x134] H40 fun x141 H41=>
 Pu (ze x141 0) fun x142=>
 Pu (ze x141 1) fun x143=>
 Pu (zh (some (none,1024)) x140 (.int .i64 0)) fun x144=>
 ForX true H41 fun H42=>
 Pu (zj (some 1024) x144 x142 H42) fun H43=>
 ForX true H43 fun H44=>
 K130 (()) H44)
 (And
 (ForX true H16 fun H35=>
 Fc Tryz.prog 50 #[x134] H35 fun x135 H36=>
 Pu (zb (some none) x133 H36) fun x136=>
 Pu (ze x135 0) fun x137=>
 Pu (ze x135 1) fun x138=>
 Pu (zh (some (none,1024)) x136 (.int .i64 0)) fun x139=>
 ForX true H36 fun H37=>
 Pu (zj (some 1024) x139 x137 H37) fun H38=>
 ForX true H38 fun H39=>
 K130 (()) H39)
 (True))))))
 (fun K144=>Pu (zd (some 0) x2) fun x146=>
 Pu (zb (some none) x146 H15) fun x147=>
 Pu (lenE Tryz.prog 24 x147) fun x148=>
 Pu (zo (some (.int .i64)) .lss s42.1 x148) fun x149=>
 Ite x149
 (Pu (zc s13.1) fun x150=>
 Pu (zd (some 13) x150) fun x151=>
 Pu (zb (some none) x151 H15) fun x152=>
 Pu (unE .not x152) fun x153=>
 K144 (x153,()) H15)
 (K144 ((.bool false),()) H15))))))
 (fun K153=>Pu (zb (some (some 9)) x10 H6) fun x155=>
 Pu (zd (some 0) x1) fun x156=>
 Pu (zb (some none) x156 H6) fun x157=>
 Pu (zd (some 0) x1) fun x158=>
 Pu (zb (some none) x158 H6) fun x159=>
 And
 (ForX true H6 fun H50=>
 Pu (YT (zI Tryz.prog 118) x157 x157 H50) fun x164=>
 ForX true x164.2 fun H51=>
 Pu (YT (zI Tryz.prog 119) x159 x159 H51) fun x165=>
 Pu (zu Tryz.prog 121 [(0,x155),(1,x164.1),(2,x165.1)]) fun x166=>
 ForX true x165.2 fun H52=>
 Box 121 x166 H52 fun x167 H53=>
 ForX true H53 fun H54=>
 K153 (x167,()) H54)
 (And
 (ForX true H6 fun H45=>
 Pu (YT (zI Tryz.prog 119) x159 x159 H45) fun x160=>
 ForX true x160.2 fun H46=>
 Pu (YT (zI Tryz.prog 118) x157 x157 H46) fun x161=>
 Pu (zu Tryz.prog 121 [(0,x155),(1,x161.1),(2,x160.1)]) fun x162=>
 ForX true x161.2 fun H47=>
 Box 121 x162 H47 fun x163 H48=>
 ForX true H48 fun H49=>
 K153 (x163,()) H49)
 (True))))
theorem fn19 (h:sh19 v0 v1 v2 H R):Fc Tryz.prog 19 #[v0,v1,v2] H R:=
 ZB (fun f=>[51,52].contains f) [(4,(.fork [0,1,2,4,5] (.cons 3 (.line [6,7,8,9]) (.cons 6 (.line [3,7,8,9]) .nil)))),(17,(.fork [0,1,2,4] (.cons 3 (.line [5,6,7,8,9,10]) (.cons 5 (.line [3,6,7,8,9,10]) .nil))))] (.seq .nil (.seq .nil (.seq .nil (.join [9] [21,22,23,24,25,26,27,28,29] .nil (.seq .nil (.seq .nil (.seq .nil (.seq .nil (.seq (.loop [] [51,52,53,54,55,56,57,58,59,60,61,62,63,64] .nil) (.seq (.seq .nil (.loop [11] [65,66,67,68,69,70,71,72,73,74,75,76,79,80,81,82,83,84,85,77,78] (.seq (.join [76] [65,66,67,68,69,70,71,72,73,74,75] .nil .nil) .nil))) (.seq .nil (.join [] [92,93,94,95,96,97,91,98,99,100] .nil (.seq (.seq .nil (.loop [12] [101,102,103,104,107,108,109,110,111,112,113,114,115,116,117,118,119,120,121,122,123,124,125,126,127,128,129,130,131,132,133,134,135,136,137,138,139,140,141,142,143,144,145,146,147,148,149,150,151,152,153,154,155,156,157,158,159,160,105,106] (.seq .nil (.seq (.join [119] [107,108,109,110,111,112,113,114,115,116,117,118] .nil (.cond .nil (.join [151] [144,145,146,147,148,149,150] .nil .nil))) .nil)))) (.join [] [161,162,163,164,165,166,167,168,169,170,171,172,173,174,175,176,177,178,179] .nil .nil)))))))))))))) Tryz.func19 (args:=[v0,v1,v2]) (Eq.mp (by kernel_rfl:sh19 v0 v1 v2 H R=_) h)
variable {H:Hp} {R:Value→Hp→Prop} {v0 v1 v2 v3 v4 v5 v6 v7 v8:Value}
set_option maxRecDepth 100000
def sh111 (v0:Value) (H:Hp) (R:Value→Hp→Prop):Prop:=
 Box 71 v0 H fun x1 H1=>
 zS (n:=1) (fun s1 H2=>Any fun _=>
 Ite s1.1
 (R (.int .i64 2) H2)
 (Pu (zD Tryz.prog 94) fun x4=>Box 94 x4 H2 fun x5 H3=>
 zx (n:=2) ((.int .i64 (-1)),(.int .i64 0),()) H3 (fun K6 s5 H4=>Any fun _=>
 Pu (zd (some 1) x1) fun x8=>
 Pu (zb (some none) x8 H4) fun x9=>
 Pu (lenE Tryz.prog 37 x9) fun x10=>
 Pu (zo (some (.int .i64)) .lss s5.2.1 x10) fun x11=>
 Ite x11
 (Pu (zd (some 1) x1) fun x12=>
 Pu (zb (some none) x12 H4) fun x13=>
 Pu (zh (some (none,1025)) x13 s5.2.1) fun x14=>
 Pu (zb (some (some 1025)) x14 H4) fun x15=>
 Pu (zD Tryz.prog 98) fun x16=>Box 98 x16 H4 fun x17 H5=>
 Pu (zj (some 1025) x17 x15 H5) fun H6=>
 zS (n:=1) (fun s17 H7=>Any fun _=>
 Ite s17.1
 (R (.int .i64 2) H7)
 (Pu (zd (some 0) x17) fun x20=>
 Pu (zb (some none) x20 H7) fun x21=>
 Pu (zo (some (.int .i64)) .add s5.2.1 (.int .i64 1)) fun x22=>
 K6 (x21,x22,()) H7))
 (fun K22=>Pu (zd (some 0) x17) fun x24=>
 Pu (zb (some none) x24 H6) fun x25=>
 Pu (zo (some (.int .i64)) .leq x25 s5.1) fun x26=>
 Ite x26
 (K22 ((.bool true),()) H6)
 (Pu (zd (some 0) x17) fun x27=>
 Pu (zb (some none) x27 H6) fun x28=>
 Pu (zd (some 0) x1) fun x29=>
 Pu (zb (some none) x29 H6) fun x30=>
 Pu (zo (some (.int .i64)) .geq x28 x30) fun x31=>
 Ite x31
 (K22 ((.bool true),()) H6)
 (Pu (zd (some 1) x17) fun x32=>
 Pu (zb (some (some 1024)) x32 H6) fun x33=>
 Pu (zb (some (some 1024)) x5 H6) fun x34=>
 Pu (yH Tryz.prog 94 false .eql x33 x34 H6) fun x35=>
 K22 (x35,()) H6))))
 (R (.int .i64 0) H4))))
 (fun K35=>Pu (zd (some 0) x1) fun x37=>
 Pu (zb (some none) x37 H1) fun x38=>
 Pu (zo (some (.int .i64)) .lss x38 (.int .i64 1)) fun x39=>
 Ite x39
 (K35 ((.bool true),()) H1)
 (Pu (zd (some 0) x1) fun x40=>
 Pu (zb (some none) x40 H1) fun x41=>
 Pu (zo (some (.int .i64)) .gtr x41 (.int .i64 1048576)) fun x42=>
 K35 (x42,()) H1))
theorem fn111 (h:sh111 v0 H R):Fc Tryz.prog 111 #[v0] H R:=
 zs (fun f=>[127].contains f) (.seq .nil (.seq (.join [14] [7,8,9,10,11,12,13] .nil .nil) (.seq .nil (.seq .nil (.seq (.seq .nil (.loop [4,5] [15,16,17,18,19,22,23,24,25,26,6,27,28,29,30,31,32,33,34,35,36,37,38,39,40,41,42,43,2,44,45,20,21] (.seq .nil (.seq (.seq .nil (.seq (.join [43] [27,28,29,30,31,32,33,34,35,36,37,38,39,40,41,42] .nil .nil) .nil)) .nil)))) .nil))))) Tryz.func111 (args:=[v0]) (Eq.mp (by kernel_rfl:sh111 v0 H R=_) h)
def sh114 (v0 v1:Value) (H:Hp) (R:Value→Hp→Prop):Prop:=
 Box 71 v0 H fun x1 H1=>
 Pu (zD Tryz.prog 94) fun x2=>Box 94 x2 H1 fun x3 H2=>
 zx (n:=1) ((.int .i64 0),()) H2 (fun K4 s3 H3=>Any fun _=>
 Pu (zd (some 1) x1) fun x6=>
 Pu (zb (some none) x6 H3) fun x7=>
 Pu (lenE Tryz.prog 37 x7) fun x8=>
 Pu (zo (some (.int .i64)) .lss s3.1 x8) fun x9=>
 Ite x9
 (Pu (zd (some 1) x1) fun x10=>
 Pu (zb (some none) x10 H3) fun x11=>
 Pu (zh (some (none,1025)) x11 s3.1) fun x12=>
 Pu (zd (some 0) x12) fun x13=>
 Pu (zb (some none) x13 H3) fun x14=>
 Pu (zo (some (.int .i64)) .eql x14 v1) fun x15=>
 Ite x15
 (Pu (zd (some 1) x1) fun x16=>
 Pu (zb (some none) x16 H3) fun x17=>
 Pu (zh (some (none,1025)) x17 s3.1) fun x18=>
 Pu (zd (some 1) x18) fun x19=>
 Pu (zb (some (some 1024)) x19 H3) fun x20=>
 Pu (zj (some 1024) x3 x20 H3) fun H4=>
 Pu (zb (some (some 1024)) x3 H4) fun x21=>
 R x21 H4)
 (Pu (zo (some (.int .i64)) .add s3.1 (.int .i64 1)) fun x22=>
 K4 (x22,()) H3))
 (Pu (zu Tryz.prog 94 []) fun x23=>
 Pu (zj (some 1024) x3 x23 H3) fun H5=>
 Pu (zb (some (some 1024)) x3 H5) fun x24=>
 R x24 H5))
theorem fn114 (h:sh114 v0 v1 H R):Fc Tryz.prog 114 #[v0,v1] H R:=
 zs (fun f=>[127].contains f) (.seq .nil (.seq (.seq .nil (.loop [5] [6,7,8,9,10,13,14,15,16,17,18,19,20,21,22,23,24,25,26,11,12] .nil)) .nil)) Tryz.func114 (args:=[v0,v1]) (Eq.mp (by kernel_rfl:sh114 v0 v1 H R=_) h)
def sh113 (v0 v1:Value) (H:Hp) (R:Value→Hp→Prop):Prop:=
 Box 94 v0 H fun x1 H1=>
 Pu (zD Tryz.prog 74) fun x2=>Box 74 x2 H1 fun x3 H2=>
 Pu (zD Tryz.prog 255) fun x4=>Box 255 x4 H2 fun x5 H3=>
 zx (n:=1) ((.int .i64 0),()) H3 (fun K6 s5 H4=>Any fun _=>
 Pu (zo (some (.int .i64)) .lss s5.1 (.int .i64 3)) fun x8=>
 Ite x8
 (zx (n:=1) ((.int .i64 3),()) H4 (fun K9 s8 H5=>Any fun _=>
 Pu (zo (some (.int .i64)) .geq s8.1 (.int .i64 0)) fun x11=>
 Ite x11
 (Pu (zh (some (some 3,1)) x5 s5.1) fun x12=>
 Pu (zb (some none) x12 H5) fun x13=>
 Pu (zo (some (.int .i64)) .mul (.int .i64 256) x13) fun x14=>
 Pu (zo (some (.int .i64)) .mul (.int .i64 4) s5.1) fun x15=>
 Pu (zo (some (.int .i64)) .add (.int .i64 8) x15) fun x16=>
 Pu (zo (some (.int .i64)) .add x16 s8.1) fun x17=>
 Pu (zh (some (some 1024,1)) x1 x17) fun x18=>
 Pu (zb (some none) x18 H5) fun x19=>
 Pu (z9 (some (.int .u8)) (some (.int .i64)) x19) fun x20=>
 Pu (zo (some (.int .i64)) .add x14 x20) fun x21=>
 Pu (zh (some (some 3,1)) x5 s5.1) fun x22=>
 Pu (zj (some 1) x22 x21 H5) fun H6=>
 Pu (zo (some (.int .i64)) .sub s8.1 (.int .i64 1)) fun x23=>
 K9 (x23,()) H6)
 (Pu (zo (some (.int .i64)) .add s5.1 (.int .i64 1)) fun x24=>
 K6 (x24,()) H5)))
 (Pu (zh (some (some 3,1)) x5 (.int .i64 0)) fun x25=>
 Pu (zb (some none) x25 H4) fun x26=>
 Pu (zh (some (some 3,1)) x5 (.int .i64 1)) fun x27=>
 Pu (zb (some none) x27 H4) fun x28=>
 Pu (zh (some (some 3,1)) x5 (.int .i64 2)) fun x29=>
 Pu (zb (some none) x29 H4) fun x30=>
 Pu (zu Tryz.prog 23 [(0,x26),(1,x28),(2,x30)]) fun x31=>
 Fc Tryz.prog 20 #[x31] H4 fun x32 H7=>
 Pu (ze x32 0) fun x33=>
 Pu (ze x32 1) fun x34=>
 Pu (zD Tryz.prog 74) fun x35=>Box 74 x35 H7 fun x36 H8=>
 Pu (zj (some 9) x36 x33 H8) fun H9=>
 Pu (zb (some (some 9)) x36 H9) fun x37=>
 Fc Tryz.prog 50 #[x37] H9 fun x38 H10=>
 Pu (ze x38 0) fun x39=>
 Pu (ze x38 1) fun x40=>
 Pu (zD Tryz.prog 94) fun x41=>Box 94 x41 H10 fun x42 H11=>
 Pu (zj (some 1024) x42 x39 H11) fun H12=>
 zS (n:=1) (fun s42 H13=>Any fun _=>
 Ite s42.1
 (Pu (zu Tryz.prog 74 []) fun x45=>
 Pu (zj (some 9) x3 x45 H13) fun H14=>
 Pu (zb (some (some 9)) x3 H14) fun x46=>
 R (.tuple #[x46,(.int .i64 4)]) H14)
 (Pu (zb (some (some 9)) x36 H13) fun x47=>
 Pu (zj (some 9) x3 x47 H13) fun H15=>
 Pu (zb (some (some 9)) x3 H15) fun x48=>
 R (.tuple #[x48,(.int .i64 0)]) H15))
 (fun K48=>Pu (zo (some (.int .i64)) .neq x34 (.int .i64 0)) fun x50=>
 Ite x50
 (K48 ((.bool true),()) H12)
 (Pu (zo (some (.int .i64)) .neq x40 (.int .i64 0)) fun x51=>
 Ite x51
 (K48 ((.bool true),()) H12)
 (Pu (zb (some (some 1024)) x42 H12) fun x52=>
 Pu (zb (some (some 1024)) x1 H12) fun x53=>
 Pu (yH Tryz.prog 94 false .neq x52 x53 H12) fun x54=>
 Ite x54
 (K48 ((.bool true),()) H12)
 (Pu (zh (some (some 3,1)) x5 (.int .i64 0)) fun x55=>
 Pu (zb (some none) x55 H12) fun x56=>
 Pu (zo (some (.int .i64)) .gtr x56 v1) fun x57=>
 K48 (x57,()) H12))))))
theorem fn113 (h:sh113 v0 v1 H R):Fc Tryz.prog 113 #[v0,v1] H R:=
 zs (fun f=>[127].contains f) (.seq .nil (.seq .nil (.seq (.seq .nil (.loop [7] [13,14,8,17,18,21,22,23,24,25,26,27,28,29,30,31,32,33,34,35,19,20,15,16] (.seq .nil (.seq (.seq .nil (.loop [8] [17,18,21,22,23,24,25,26,27,28,29,30,31,32,33,34,35,19,20] .nil)) .nil)))) (.seq .nil (.seq .nil (.seq (.join [68] [52,53,54,55,56,57,58,59,60,61,62,63,64,65,66,67] .nil .nil) .nil)))))) Tryz.func113 (args:=[v0,v1]) (Eq.mp (by kernel_rfl:sh113 v0 v1 H R=_) h)
def sh165 (v0:Value) (H:Hp) (R:Value→Hp→Prop):Prop:=
 Pu (zo (some (.int .i64)) .geq v0 (.int .i64 0)) fun x1=>
 Ite x1
 (Pu (zo (some (.int .i64)) .lss v0 (.int .i64 1024)) fun x2=>
 R x2 H)
 (R (.bool false) H)
theorem fn165 (h:sh165 v0 H R):Fc Tryz.prog 165 #[v0] H R:=
 zs (fun f=>[127].contains f) .nil Tryz.func165 (args:=[v0]) (Eq.mp (by kernel_rfl:sh165 v0 H R=_) h)
def sh161 (v0 v1 v2:Value) (H:Hp) (R:Value→Hp→Prop):Prop:=
 Box 94 v0 H fun x1 H1=>
 zS (n:=1) (fun s1 H2=>Any fun _=>
 Ite s1.1
 (R (.int .u32 0) H2)
 (Pu (zo (some (.int .i64)) .sub v2 (.int .i64 1)) fun x4=>
 zx (n:=2) ((.int .u32 0),x4,()) H2 (fun K5 s4 H3=>Any fun _=>
 Pu (zo (some (.int .i64)) .geq s4.2.1 (.int .i64 0)) fun x7=>
 Ite x7
 (Pu (zo (some (.int .u32)) .mul s4.1 (.int .u32 256)) fun x8=>
 Pu (zo (some (.int .i64)) .add v1 s4.2.1) fun x9=>
 Pu (zh (some (some 1024,1)) x1 x9) fun x10=>
 Pu (zb (some none) x10 H3) fun x11=>
 Pu (z9 (some (.int .u8)) (some (.int .u32)) x11) fun x12=>
 Pu (zo (some (.int .u32)) .add x8 x12) fun x13=>
 Pu (zo (some (.int .i64)) .sub s4.2.1 (.int .i64 1)) fun x14=>
 K5 (x13,x14,()) H3)
 (R s4.1 H3))))
 (fun K14=>Fc Tryz.prog 165 #[v1] H1 fun x16 H4=>
 Pu (unE .not x16) fun x17=>
 Ite x17
 (K14 ((.bool true),()) H4)
 (Pu (zo (some (.int .i64)) .add v1 v2) fun x18=>
 Pu (zo (some (.int .i64)) .sub x18 (.int .i64 1)) fun x19=>
 Fc Tryz.prog 165 #[x19] H4 fun x20 H5=>
 Pu (unE .not x20) fun x21=>
 K14 (x21,()) H5))
theorem fn161 (h:sh161 v0 v1 v2 H R):Fc Tryz.prog 161 #[v0,v1,v2] H R:=
 zs (fun f=>[127].contains f) (.seq .nil (.seq (.join [19] [9,10,11,12,13,14,15,16,17,18] .nil .nil) (.seq .nil (.seq (.seq .nil (.loop [7,8] [22,23,26,27,28,29,30,31,32,33,34,24,25] .nil)) .nil)))) Tryz.func161 (args:=[v0,v1,v2]) (Eq.mp (by kernel_rfl:sh161 v0 v1 v2 H R=_) h)
def sh137 (v0 v1:Value) (H:Hp) (R:Value→Hp→Prop):Prop:=
 Box 94 v0 H fun x1 H1=>
 Pu (zb (some (some 1024)) x1 H1) fun x2=>
 Fc Tryz.prog 161 #[x2,v1,(.int .i64 4)] H1 fun x3 H2=>
 R x3 H2
theorem fn137 (h:sh137 v0 v1 H R):Fc Tryz.prog 137 #[v0,v1] H R:=
 zs (fun f=>[127].contains f) .nil Tryz.func137 (args:=[v0,v1]) (Eq.mp (by kernel_rfl:sh137 v0 v1 H R=_) h)
def sh138 (v0 v1:Value) (H:Hp) (R:Value→Hp→Prop):Prop:=
 Box 74 v0 H fun x1 H1=>
 Box 129 v1 H1 fun x2 H2=>
 Pu (zd (some 0) x2) fun x3=>
 Pu (zb (some none) x3 H2) fun x4=>
 Pu (lenE Tryz.prog 106 x4) fun x5=>
 Pu (zd (some 0) x1) fun x6=>
 Pu (zd (some 1) x6) fun x7=>
 Pu (zb (some none) x7 H2) fun x8=>
 Pu (zo (some (.int .i64)) .sub x8 (.int .i64 1)) fun x9=>
 Pu (zo (some (.int .i64)) .gtr x5 x9) fun x10=>
 Ite x10
 (R (.bool false) H2)
 (zx (n:=1) ((.int .i64 0),()) H2 (fun K11 s10 H3=>Any fun _=>
 Pu (zd (some 0) x2) fun x13=>
 Pu (zb (some none) x13 H3) fun x14=>
 Pu (lenE Tryz.prog 106 x14) fun x15=>
 Pu (zo (some (.int .i64)) .lss s10.1 x15) fun x16=>
 Ite x16
 (Pu (zd (some 0) x2) fun x17=>
 Pu (zb (some none) x17 H3) fun x18=>
 Pu (zh (some (none,1)) x18 s10.1) fun x19=>
 Pu (zb (some none) x19 H3) fun x20=>
 zS (n:=1) (fun s20 H4=>Any fun _=>
 Ite s20.1
 (R (.bool false) H4)
 (zx (n:=1) ((.int .i64 0),()) H4 (fun K23 s22 H5=>Any fun _=>
 Pu (zo (some (.int .i64)) .lss s22.1 s10.1) fun x25=>
 Ite x25
 (Pu (zd (some 0) x2) fun x26=>
 Pu (zb (some none) x26 H5) fun x27=>
 Pu (zh (some (none,1)) x27 s22.1) fun x28=>
 Pu (zb (some none) x28 H5) fun x29=>
 Pu (zo (some (.int .i64)) .eql x29 x20) fun x30=>
 Ite x30
 (R (.bool false) H5)
 (Pu (zo (some (.int .i64)) .add s22.1 (.int .i64 1)) fun x31=>
 K23 (x31,()) H5))
 (Pu (zo (some (.int .i64)) .add s10.1 (.int .i64 1)) fun x32=>
 K11 (x32,()) H5))))
 (fun K32=>Pu (zd (some 0) x1) fun x34=>
 Pu (zd (some 1) x34) fun x35=>
 Pu (zb (some none) x35 H3) fun x36=>
 Pu (zo (some (.int .i64)) .add (.int .i64 1) x36) fun x37=>
 Pu (zo (some (.int .i64)) .lss x20 x37) fun x38=>
 Ite x38
 (K32 ((.bool true),()) H3)
 (Pu (zd (some 0) x1) fun x39=>
 Pu (zd (some 0) x39) fun x40=>
 Pu (zb (some none) x40 H3) fun x41=>
 Pu (zo (some (.int .i64)) .geq x20 x41) fun x42=>
 K32 (x42,()) H3)))
 (R (.bool true) H3)))
theorem fn138 (h:sh138 v0 v1 H R):Fc Tryz.prog 138 #[v0,v1] H R:=
 zs (fun f=>[127].contains f) (.seq .nil (.seq .nil (.seq (.seq .nil (.loop [5] [16,17,18,19,20,23,24,25,26,27,6,28,29,30,31,32,33,34,35,36,37,38,39,40,4,7,41,42,43,46,47,48,49,50,51,52,44,45,21,22] (.seq .nil (.seq (.seq .nil (.seq (.join [40] [28,29,30,31,32,33,34,35,36,37,38,39] .nil .nil) (.seq .nil (.loop [7] [41,42,43,46,47,48,49,50,51,52,4,44,45] .nil)))) .nil)))) .nil))) Tryz.func138 (args:=[v0,v1]) (Eq.mp (by kernel_rfl:sh138 v0 v1 H R=_) h)
def sh96 (v0 v1:Value) (H:Hp) (R:Value→Hp→Prop):Prop:=
 Box 74 v0 H fun x1 H1=>
 Box 94 v1 H1 fun x2 H2=>
 Pu (zD Tryz.prog 129) fun x3=>Box 129 x3 H2 fun x4 H3=>
 Pu (zb (some (some 9)) x1 H3) fun x5=>
 Fc Tryz.prog 86 #[x5] H3 fun x6 H4=>
 Pu (unE .not x6) fun x7=>
 Ite x7
 (Pu (zu Tryz.prog 129 []) fun x8=>
 Pu (zj (some 1) x4 x8 H4) fun H5=>
 Pu (zb (some (some 1)) x4 H5) fun x9=>
 R (.tuple #[x9,(.int .i64 2)]) H5)
 (Pu (zb (some (some 1024)) x2 H4) fun x10=>
 Fc Tryz.prog 137 #[x10,(.int .i64 0)] H4 fun x11 H6=>
 Pu (z9 (some (.int .u32)) (some (.int .i64)) x11) fun x12=>
 Pu (zd (some 0) x1) fun x13=>
 Pu (zd (some 1) x13) fun x14=>
 Pu (zb (some none) x14 H6) fun x15=>
 Pu (zo (some (.int .i64)) .sub x15 (.int .i64 1)) fun x16=>
 Pu (zo (some (.int .i64)) .gtr x12 x16) fun x17=>
 Ite x17
 (Pu (zu Tryz.prog 129 []) fun x18=>
 Pu (zj (some 1) x4 x18 H6) fun H7=>
 Pu (zb (some (some 1)) x4 H7) fun x19=>
 R (.tuple #[x19,(.int .i64 4)]) H7)
 (Pu (zD Tryz.prog 129) fun x20=>Box 129 x20 H6 fun x21 H8=>
 zx (n:=1) ((.int .i64 0),()) H8 (fun K22 s21 H9=>Any fun _=>
 Pu (zo (some (.int .i64)) .lss s21.1 x12) fun x24=>
 Ite x24
 (Pu (zd (some 0) x21) fun x25=>
 Pu (zb (some (some 1024)) x2 H9) fun x26=>
 Pu (zo (some (.int .i64)) .add s21.1 (.int .i64 1)) fun x27=>
 Pu (zo (some (.int .i64)) .mul (.int .i64 4) x27) fun x28=>
 And
 (Pu (zb (some none) x25 H9) fun x38=>
 ForX true H9 fun H19=>
 Fc Tryz.prog 137 #[x26,x28] H19 fun x39 H20=>
 Pu (z9 (some (.int .u32)) (some (.int .i64)) x39) fun x40=>
 ForX true H20 fun H21=>
 Pu (zI Tryz.prog 106) fun x41=>Pu (zH (some x41) 1 [(0,x40)]) fun x42=>NewS x41.type 1 x42 H21 fun x43 H22=>
 ForX true H22 fun H23=>
 Y2 (zI Tryz.prog 106) x38 x43 H23 fun x44 H24=>
 Pu (zd (some 0) x21) fun x45=>
 ForX true H24 fun H25=>
 Pu (zj (some 1) x45 x44 H25) fun H26=>
 ForX true H26 fun H27=>
 Pu (zo (some (.int .i64)) .add s21.1 (.int .i64 1)) fun x46=>
 K22 (x46,()) H27)
 (And
 (ForX true H9 fun H10=>
 Fc Tryz.prog 137 #[x26,x28] H10 fun x29 H11=>
 Pu (zb (some none) x25 H11) fun x30=>
 Pu (z9 (some (.int .u32)) (some (.int .i64)) x29) fun x31=>
 ForX true H11 fun H12=>
 Pu (zI Tryz.prog 106) fun x32=>Pu (zH (some x32) 1 [(0,x31)]) fun x33=>NewS x32.type 1 x33 H12 fun x34 H13=>
 ForX true H13 fun H14=>
 Y2 (zI Tryz.prog 106) x30 x34 H14 fun x35 H15=>
 Pu (zd (some 0) x21) fun x36=>
 ForX true H15 fun H16=>
 Pu (zj (some 1) x36 x35 H16) fun H17=>
 ForX true H17 fun H18=>
 Pu (zo (some (.int .i64)) .add s21.1 (.int .i64 1)) fun x37=>
 K22 (x37,()) H18)
 (True)))
 (Pu (zb (some (some 9)) x1 H9) fun x47=>
 Pu (zb (some (some 1)) x21 H9) fun x48=>
 Fc Tryz.prog 138 #[x47,x48] H9 fun x49 H28=>
 Pu (unE .not x49) fun x50=>
 Ite x50
 (Pu (zu Tryz.prog 129 []) fun x51=>
 Pu (zj (some 1) x4 x51 H28) fun H29=>
 Pu (zb (some (some 1)) x4 H29) fun x52=>
 R (.tuple #[x52,(.int .i64 4)]) H29)
 (Pu (zb (some (some 1)) x21 H28) fun x53=>
 Pu (zj (some 1) x4 x53 H28) fun H30=>
 Pu (zb (some (some 1)) x4 H30) fun x54=>
 R (.tuple #[x54,(.int .i64 0)]) H30)))))
theorem fn96 (h:sh96 v0 v1 H R):Fc Tryz.prog 96 #[v0,v1] H R:=
 ZB (fun f=>[127].contains f) [(10,(.fork [0,2,3,4,5] (.cons 1 (.line [6,7,8,9,10,11]) (.cons 6 (.line [1,7,8,9,10,11]) .nil))))] (.seq .nil (.seq .nil (.seq .nil (.seq .nil (.seq .nil (.seq (.seq .nil (.loop [8] [23,24,25,28,29,30,31,32,33,34,35,36,37,38,26,27] .nil)) .nil)))))) Tryz.func96 (args:=[v0,v1]) (Eq.mp (by kernel_rfl:sh96 v0 v1 H R=_) h)
def sh144 (v0 v1 v2:Value) (H:Hp) (R:Value→Hp→Prop):Prop:=
 Box 148 v0 H fun x1 H1=>
 Pu (zo (some (.int .i64)) .sub v2 (.int .i64 1)) fun x2=>
 zx (n:=2) ((.int .u32 0),x2,()) H1 (fun K3 s2 H2=>Any fun _=>
 Pu (zo (some (.int .i64)) .geq s2.2.1 (.int .i64 0)) fun x5=>
 Ite x5
 (Pu (zo (some (.int .u32)) .mul (.int .u32 256) s2.1) fun x6=>
 Pu (zo (some (.int .i64)) .add v1 s2.2.1) fun x7=>
 Pu (zh (some (some 64,1)) x1 x7) fun x8=>
 Pu (zb (some none) x8 H2) fun x9=>
 Pu (z9 (some (.int .u8)) (some (.int .u32)) x9) fun x10=>
 Pu (zo (some (.int .u32)) .add x6 x10) fun x11=>
 Pu (zo (some (.int .i64)) .sub s2.2.1 (.int .i64 1)) fun x12=>
 K3 (x11,x12,()) H2)
 (R s2.1 H2))
theorem fn144 (h:sh144 v0 v1 v2 H R):Fc Tryz.prog 144 #[v0,v1,v2] H R:=
 zs (fun f=>[127].contains f) (.seq .nil (.seq .nil (.seq (.seq .nil (.loop [7,8] [11,12,15,16,17,18,19,20,21,22,23,13,14] .nil)) .nil))) Tryz.func144 (args:=[v0,v1,v2]) (Eq.mp (by kernel_rfl:sh144 v0 v1 v2 H R=_) h)
def sh160 (v0:Value) (H:Hp) (R:Value→Hp→Prop):Prop:=
 Box 57 v0 H fun x1 H1=>
 Pu (zD Tryz.prog 61) fun x2=>Box 61 x2 H1 fun x3 H2=>
 Pu (zh (some (some 16,1)) x1 (.int .i64 0)) fun x4=>
 Pu (zb (some none) x4 H2) fun x5=>
 Pu (z9 (some (.int .u8)) (some (.int .u16)) x5) fun x6=>
 Pu (zh (some (some 16,1)) x1 (.int .i64 1)) fun x7=>
 Pu (zb (some none) x7 H2) fun x8=>
 Pu (z9 (some (.int .u8)) (some (.int .u16)) x8) fun x9=>
 Pu (zo (some (.int .u16)) .mul (.int .u16 256) x9) fun x10=>
 Pu (zo (some (.int .u16)) .add x6 x10) fun x11=>
 Pu (zu Tryz.prog 61 [(0,x11)]) fun x12=>
 Pu (zD Tryz.prog 61) fun x13=>Box 61 x13 H2 fun x14 H3=>
 Pu (zj (some 2) x14 x12 H3) fun H4=>
 zx (n:=1) ((.int .i64 2),()) H4 (fun K15 s14 H5=>Any fun _=>
 zS (n:=1) (fun s16 H6=>Any fun _=>
 Ite s16.1
 (Pu (zd (some 1) x14) fun x19=>
 Pu (zb (some none) x19 H6) fun x20=>
 Pu (zo (some (.int .i64)) .add s14.1 (.int .i64 1)) fun x21=>
 Pu (ZO Tryz.prog 57 x1 (some s14.1) (some x21) none) fun x22=>
 Pu (strOfE x22 H6) fun x23=>
 Pu (zo (some .string) .add x20 x23) fun x24=>
 Pu (zd (some 1) x14) fun x25=>
 Pu (zj (some 1) x25 x24 H6) fun H7=>
 Pu (zo (some (.int .i64)) .add s14.1 (.int .i64 1)) fun x26=>
 K15 (x26,()) H7)
 (Pu (zb (some (some 2)) x14 H6) fun x27=>
 Fc Tryz.prog 13 #[x27] H6 fun x28 H8=>
 Pu (ze x28 0) fun x29=>
 Pu (ze x28 1) fun x30=>
 Pu (zD Tryz.prog 57) fun x31=>Box 57 x31 H8 fun x32 H9=>
 Pu (zj (some 16) x32 x29 H9) fun H10=>
 zS (n:=1) (fun s32 H11=>Any fun _=>
 Ite s32.1
 (Pu (zu Tryz.prog 61 []) fun x35=>
 Pu (zj (some 2) x3 x35 H11) fun H12=>
 Pu (zb (some (some 2)) x3 H12) fun x36=>
 R (.tuple #[x36,(.int .i64 4)]) H12)
 (Pu (zb (some (some 2)) x14 H11) fun x37=>
 Pu (zj (some 2) x3 x37 H11) fun H13=>
 Pu (zb (some (some 2)) x3 H13) fun x38=>
 R (.tuple #[x38,(.int .i64 0)]) H13))
 (fun K38=>Pu (zo (some (.int .i64)) .neq x30 (.int .i64 0)) fun x40=>
 Ite x40
 (K38 ((.bool true),()) H10)
 (Pu (zb (some (some 16)) x32 H10) fun x41=>
 Pu (zb (some (some 16)) x1 H10) fun x42=>
 Pu (yH Tryz.prog 57 false .neq x41 x42 H10) fun x43=>
 K38 (x43,()) H10))))
 (fun K43=>Pu (zo (some (.int .i64)) .lss s14.1 (.int .i64 16)) fun x45=>
 Ite x45
 (Pu (zh (some (some 16,1)) x1 s14.1) fun x46=>
 Pu (zb (some none) x46 H5) fun x47=>
 Pu (zo (some (.int .u8)) .neq x47 (.int .u8 0)) fun x48=>
 K43 (x48,()) H5)
 (K43 ((.bool false),()) H5)))
theorem fn160 (h:sh160 v0 H R):Fc Tryz.prog 160 #[v0] H R:=
 zs (fun f=>[127].contains f) (.seq .nil (.seq .nil (.seq (.seq .nil (.loop [5] [17,18,19,20,21,22,23,24,27,28,29,30,31,32,33,34,35,25,26] (.seq (.join [24] [17,18,19,20,21,22,23] .nil .nil) .nil))) (.seq .nil (.seq (.join [47] [41,42,43,44,45,46] .nil .nil) .nil))))) Tryz.func160 (args:=[v0]) (Eq.mp (by kernel_rfl:sh160 v0 H R=_) h)
def sh127 (v0 v1:Value) (H:Hp) (R:Value→Hp→Prop):Prop:=
 Pu (zD Tryz.prog 94) fun x1=>Box 94 x1 H fun x2 H1=>
 zx (n:=1) ((.int .i64 0),()) H1 (fun K3 s2 H2=>Any fun _=>
 Pu (zc v0) fun x5=>
 Pu (zd (some 11) x5) fun x6=>
 Pu (zd (some 0) x6) fun x7=>
 Pu (zb (some none) x7 H2) fun x8=>
 Pu (lenE Tryz.prog 106 x8) fun x9=>
 Pu (zo (some (.int .i64)) .lss s2.1 x9) fun x10=>
 Ite x10
 (Pu (zc v0) fun x11=>
 Pu (zd (some 11) x11) fun x12=>
 Pu (zd (some 0) x12) fun x13=>
 Pu (zb (some none) x13 H2) fun x14=>
 Pu (zh (some (none,1)) x14 s2.1) fun x15=>
 Pu (zb (some none) x15 H2) fun x16=>
 Pu (zo (some (.int .i64)) .eql x16 v1) fun x17=>
 Ite x17
 (Pu (zc v0) fun x18=>
 Pu (zd (some 0) x18) fun x19=>
 Pu (zb (some (some 2)) x19 H2) fun x20=>
 Pu (zc v0) fun x21=>
 Pu (zd (some 2) x21) fun x22=>
 Pu (zd (some 3) x22) fun x23=>
 Pu (zb (some none) x23 H2) fun x24=>
 Pu (zo (some (.int .i64)) .add x24 (.int .i64 1)) fun x25=>
 Pu (zo (some (.int .i64)) .add x25 s2.1) fun x26=>
 Fc Tryz.prog 114 #[x20,x26] H2 fun x27 H3=>
 Pu (zj (some 1024) x2 x27 H3) fun H4=>
 Pu (zb (some (some 1024)) x2 H4) fun x28=>
 R x28 H4)
 (Pu (zo (some (.int .i64)) .add s2.1 (.int .i64 1)) fun x29=>
 K3 (x29,()) H2))
 (Pu (zc v0) fun x30=>
 Pu (zd (some 0) x30) fun x31=>
 Pu (zb (some (some 2)) x31 H2) fun x32=>
 Fc Tryz.prog 114 #[x32,v1] H2 fun x33 H5=>
 Pu (zj (some 1024) x2 x33 H5) fun H6=>
 Pu (zb (some (some 1024)) x2 H6) fun x34=>
 R x34 H6))
theorem fn127 (h:sh127 v0 v1 H R):Fc Tryz.prog 127 #[v0,v1] H R:=
 zs (fun f=>[127].contains f) (.seq .nil (.seq (.seq .nil (.loop [5] [6,7,8,9,10,11,12,13,16,17,18,19,20,21,22,23,24,25,26,27,28,29,30,31,32,33,34,35,36,37,38,14,15] .nil)) .nil)) Tryz.func127 (args:=[v0,v1]) (Eq.mp (by kernel_rfl:sh127 v0 v1 H R=_) h)
def sh147 (v0 v1:Value) (H:Hp) (R:Value→Hp→Prop):Prop:=
 Pu (zD Tryz.prog 148) fun x1=>Box 148 x1 H fun x2 H1=>
 Pu (zc v0) fun x3=>
 Pu (zd (some 2) x3) fun x4=>
 Pu (zd (some 4) x4) fun x5=>
 Pu (zb (some none) x5 H1) fun x6=>
 Pu (zo (some (.int .i64)) .quo v1 (.int .i64 16)) fun x7=>
 Pu (zo (some (.int .i64)) .add x6 x7) fun x8=>
 Fc Tryz.prog 127 #[v0,x8] H1 fun x9 H2=>
 Pu (zD Tryz.prog 94) fun x10=>Box 94 x10 H2 fun x11 H3=>
 Pu (zj (some 1024) x11 x9 H3) fun H4=>
 Pu (zD Tryz.prog 148) fun x12=>Box 148 x12 H4 fun x13 H5=>
 zx (n:=1) ((.int .i64 0),()) H5 (fun K14 s13 H6=>Any fun _=>
 Pu (zo (some (.int .i64)) .lss s13.1 (.int .i64 64)) fun x16=>
 Ite x16
 (Pu (zo (some (.int .i64)) .rem v1 (.int .i64 16)) fun x17=>
 Pu (zo (some (.int .i64)) .mul (.int .i64 64) x17) fun x18=>
 Pu (zo (some (.int .i64)) .add x18 s13.1) fun x19=>
 Pu (zh (some (some 1024,1)) x11 x19) fun x20=>
 Pu (zb (some none) x20 H6) fun x21=>
 Pu (zh (some (some 64,1)) x13 s13.1) fun x22=>
 Pu (zj (some 1) x22 x21 H6) fun H7=>
 Pu (zo (some (.int .i64)) .add s13.1 (.int .i64 1)) fun x23=>
 K14 (x23,()) H7)
 (Pu (zb (some (some 64)) x13 H6) fun x24=>
 Pu (zj (some 64) x2 x24 H6) fun H8=>
 Pu (zb (some (some 64)) x2 H8) fun x25=>
 R x25 H8))
theorem fn147 (h:sh147 v0 v1 H R):Fc Tryz.prog 147 #[v0,v1] H R:=
 zs (fun f=>[127].contains f) (.seq .nil (.seq .nil (.seq .nil (.seq (.seq .nil (.loop [7] [18,19,22,23,24,25,26,27,28,29,30,20,21] .nil)) .nil)))) Tryz.func147 (args:=[v0,v1]) (Eq.mp (by kernel_rfl:sh147 v0 v1 H R=_) h)
def sh124 (v0 v1:Value) (H:Hp) (R:Value→Hp→Prop):Prop:=
 Pu (zD Tryz.prog 88) fun x1=>Box 88 x1 H fun x2 H1=>
 Fc Tryz.prog 147 #[v0,v1] H1 fun x3 H2=>
 Fc Tryz.prog 107 #[x3] H2 fun x4 H3=>
 Pu (zj (some 16) x2 x4 H3) fun H4=>
 Pu (zb (some (some 16)) x2 H4) fun x5=>
 R x5 H4
theorem fn124 (h:sh124 v0 v1 H R):Fc Tryz.prog 124 #[v0,v1] H R:=
 zs (fun f=>[127].contains f) .nil Tryz.func124 (args:=[v0,v1]) (Eq.mp (by kernel_rfl:sh124 v0 v1 H R=_) h)
def sh158 (v0 v1:Value) (H:Hp) (R:Value→Hp→Prop):Prop:=
 Box 94 v0 H fun x1 H1=>
 zx (n:=2) ((.int .i64 0),(.int .i64 3),()) H1 (fun K2 s1 H2=>Any fun _=>
 Pu (zo (some (.int .i64)) .geq s1.2.1 (.int .i64 0)) fun x4=>
 Ite x4
 (Pu (zo (some (.int .i64)) .mul (.int .i64 256) s1.1) fun x5=>
 Pu (zo (some (.int .i64)) .mul (.int .i64 4) v1) fun x6=>
 Pu (zo (some (.int .i64)) .add x6 s1.2.1) fun x7=>
 Pu (zh (some (some 1024,1)) x1 x7) fun x8=>
 Pu (zb (some none) x8 H2) fun x9=>
 Pu (z9 (some (.int .u8)) (some (.int .i64)) x9) fun x10=>
 Pu (zo (some (.int .i64)) .add x5 x10) fun x11=>
 Pu (zo (some (.int .i64)) .sub s1.2.1 (.int .i64 1)) fun x12=>
 K2 (x11,x12,()) H2)
 (R s1.1 H2))
theorem fn158 (h:sh158 v0 v1 H R):Fc Tryz.prog 158 #[v0,v1] H R:=
 zs (fun f=>[127].contains f) (.seq .nil (.seq .nil (.seq (.seq .nil (.loop [5,6] [7,8,11,12,13,14,15,16,17,18,19,20,9,10] .nil)) .nil))) Tryz.func158 (args:=[v0,v1]) (Eq.mp (by kernel_rfl:sh158 v0 v1 H R=_) h)
def sh150 (v0 v1:Value) (H:Hp) (R:Value→Hp→Prop):Prop:=
 Pu (zc v0) fun x1=>
 Pu (zd (some 2) x1) fun x2=>
 Pu (zd (some 8) x2) fun x3=>
 Pu (zb (some none) x3 H) fun x4=>
 Pu (zo (some (.int .i64)) .geq v1 x4) fun x5=>
 Ite x5
 (Pu (zc v0) fun x6=>
 Pu (zd (some 2) x6) fun x7=>
 Pu (zd (some 0) x7) fun x8=>
 Pu (zd (some 0) x8) fun x9=>
 Pu (zb (some none) x9 H) fun x10=>
 Pu (zo (some (.int .i64)) .lss v1 x10) fun x11=>
 R x11 H)
 (R (.bool false) H)
theorem fn150 (h:sh150 v0 v1 H R):Fc Tryz.prog 150 #[v0,v1] H R:=
 zs (fun f=>[127].contains f) .nil Tryz.func150 (args:=[v0,v1]) (Eq.mp (by kernel_rfl:sh150 v0 v1 H R=_) h)
def sh157 (v0 v1 v2:Value) (H:Hp) (R:Value→Hp→Prop):Prop:=
 Fc Tryz.prog 127 #[v0,v1] H fun x1 H1=>
 Pu (zD Tryz.prog 94) fun x2=>Box 94 x2 H1 fun x3 H2=>
 Pu (zj (some 1024) x3 x1 H2) fun H3=>
 zx (n:=2) ((.slice none 0 0),(.int .i64 0),()) H3 (fun K4 s3 H4=>Any fun _=>
 Pu (zo (some (.int .i64)) .lss s3.2.1 (.int .i64 256)) fun x6=>
 Ite x6
 (Pu (zb (some (some 1024)) x3 H4) fun x7=>
 Fc Tryz.prog 158 #[x7,s3.2.1] H4 fun x8 H5=>
 Pu (zo (some (.int .i64)) .neq x8 (.int .i64 0)) fun x9=>
 Ite x9
 (Pu (zo (some (.int .i64)) .add v2 s3.2.1) fun x10=>
 Pu (zu Tryz.prog 233 [(0,x10),(1,x8)]) fun x11=>
 Pu (zI Tryz.prog 175) fun x12=>Pu (zH (some x12) 1 [(0,x11)]) fun x13=>NewS x12.type 1 x13 H5 fun x14 H6=>
 Y2 (zI Tryz.prog 175) s3.1 x14 H6 fun x15 H7=>
 Pu (zo (some (.int .i64)) .add s3.2.1 (.int .i64 1)) fun x16=>
 K4 (x15,x16,()) H7)
 (Pu (zo (some (.int .i64)) .add s3.2.1 (.int .i64 1)) fun x17=>
 K4 (s3.1,x17,()) H5))
 (R s3.1 H4))
theorem fn157 (h:sh157 v0 v1 v2 H R):Fc Tryz.prog 157 #[v0,v1,v2] H R:=
 zs (fun f=>[127].contains f) (.seq .nil (.seq .nil (.seq .nil (.seq (.seq .nil (.loop [7,9] [14,15,18,19,20,10,21,22,23,24,25,26,27,28,29,30,16,17] .nil)) .nil)))) Tryz.func157 (args:=[v0,v1,v2]) (Eq.mp (by kernel_rfl:sh157 v0 v1 v2 H R=_) h)
def sh125 (v0 v1:Value) (H:Hp) (R:Value→Hp→Prop):Prop:=
 Box 88 v1 H fun x1 H1=>
 zx (n:=2) ((.slice none 0 0),(.int .i64 0),()) H1 (fun K2 s1 H2=>Any fun _=>
 Pu (zo (some (.int .i64)) .lss s1.2.1 (.int .i64 10)) fun x4=>
 Ite x4
 (Pu (zd (some 4) x1) fun x5=>
 Pu (zh (some (some 10,1)) x5 s1.2.1) fun x6=>
 Pu (zb (some none) x6 H2) fun x7=>
 Pu (zo (some (.int .u32)) .neq x7 (.int .u32 0)) fun x8=>
 Ite x8
 (Pu (zd (some 4) x1) fun x9=>
 Pu (zh (some (some 10,1)) x9 s1.2.1) fun x10=>
 Pu (zb (some none) x10 H2) fun x11=>
 Pu (z9 (some (.int .u32)) (some (.int .i64)) x11) fun x12=>
 Pu (zu Tryz.prog 233 [(0,s1.2.1),(1,x12)]) fun x13=>
 Pu (zI Tryz.prog 175) fun x14=>Pu (zH (some x14) 1 [(0,x13)]) fun x15=>NewS x14.type 1 x15 H2 fun x16 H3=>
 Y2 (zI Tryz.prog 175) s1.1 x16 H3 fun x17 H4=>
 Pu (zo (some (.int .i64)) .add s1.2.1 (.int .i64 1)) fun x18=>
 K2 (x17,x18,()) H4)
 (Pu (zo (some (.int .i64)) .add s1.2.1 (.int .i64 1)) fun x19=>
 K2 (s1.1,x19,()) H2))
 (Pu (zd (some 14) x1) fun x20=>
 Pu (zb (some none) x20 H2) fun x21=>
 Pu (z9 (some (.int .u32)) (some (.int .i64)) x21) fun x22=>
 zS (n:=1) (fun s22 H5=>Any fun _=>
 Fc Tryz.prog 150 #[v0,x22] H5 fun x25 H6=>
 zS (n:=1) (fun s25 H7=>Any fun _=>
 Pu (zd (some 15) x1) fun x28=>
 Pu (zb (some none) x28 H7) fun x29=>
 Pu (z9 (some (.int .u32)) (some (.int .i64)) x29) fun x30=>
 zS (n:=1) (fun s30 H8=>Any fun _=>
 Fc Tryz.prog 150 #[v0,x30] H8 fun x33 H9=>
 Pu (unE .not x33) fun x34=>
 Ite x34
 (R s30.1 H9)
 (Fc Tryz.prog 127 #[v0,x30] H9 fun x35 H10=>
 Pu (zD Tryz.prog 94) fun x36=>Box 94 x36 H10 fun x37 H11=>
 Pu (zj (some 1024) x37 x35 H11) fun H12=>
 zx (n:=2) (s30.1,(.int .i64 0),()) H12 (fun K38 s37 H13=>Any fun _=>
 Pu (zo (some (.int .i64)) .lss s37.2.1 (.int .i64 256)) fun x40=>
 Ite x40
 (Pu (zb (some (some 1024)) x37 H13) fun x41=>
 Fc Tryz.prog 158 #[x41,s37.2.1] H13 fun x42 H14=>
 zS (n:=1) (fun s42 H15=>Any fun _=>
 Fc Tryz.prog 150 #[v0,x42] H15 fun x45 H16=>
 Ite x45
 (Pu (zo (some (.int .i64)) .mul (.int .i64 256) s37.2.1) fun x46=>
 Pu (zo (some (.int .i64)) .add (.int .i64 266) x46) fun x47=>
 Fc Tryz.prog 157 #[v0,x42,x47] H16 fun x48 H17=>
 Y2 (zI Tryz.prog 175) s42.1 x48 H17 fun x49 H18=>
 Pu (zo (some (.int .i64)) .add s37.2.1 (.int .i64 1)) fun x50=>
 K38 (x49,x50,()) H18)
 (Pu (zo (some (.int .i64)) .add s37.2.1 (.int .i64 1)) fun x51=>
 K38 (s42.1,x51,()) H16))
 (fun K51=>Pu (zo (some (.int .i64)) .neq x42 (.int .i64 0)) fun x53=>
 Ite x53
 (Pu (zu Tryz.prog 233 [(0,(.int .i64 (-1))),(1,x42)]) fun x54=>
 Pu (zI Tryz.prog 175) fun x55=>Pu (zH (some x55) 1 [(0,x54)]) fun x56=>NewS x55.type 1 x56 H14 fun x57 H19=>
 Y2 (zI Tryz.prog 175) s37.1 x57 H19 fun x58 H20=>
 K51 (x58,()) H20)
 (K51 (s37.1,()) H14)))
 (R s37.1 H13))))
 (fun K58=>Pu (zo (some (.int .i64)) .neq x30 (.int .i64 0)) fun x60=>
 Ite x60
 (Pu (zu Tryz.prog 233 [(0,(.int .i64 (-1))),(1,x30)]) fun x61=>
 Pu (zI Tryz.prog 175) fun x62=>Pu (zH (some x62) 1 [(0,x61)]) fun x63=>NewS x62.type 1 x63 H7 fun x64 H21=>
 Y2 (zI Tryz.prog 175) s25.1 x64 H21 fun x65 H22=>
 K58 (x65,()) H22)
 (K58 (s25.1,()) H7)))
 (fun K65=>Ite x25
 (Fc Tryz.prog 157 #[v0,x22,(.int .i64 10)] H6 fun x67 H23=>
 Y2 (zI Tryz.prog 175) s22.1 x67 H23 fun x68 H24=>
 K65 (x68,()) H24)
 (K65 (s22.1,()) H6)))
 (fun K68=>Pu (zo (some (.int .i64)) .neq x22 (.int .i64 0)) fun x70=>
 Ite x70
 (Pu (zu Tryz.prog 233 [(0,(.int .i64 (-1))),(1,x22)]) fun x71=>
 Pu (zI Tryz.prog 175) fun x72=>Pu (zH (some x72) 1 [(0,x71)]) fun x73=>NewS x72.type 1 x73 H2 fun x74 H25=>
 Y2 (zI Tryz.prog 175) s1.1 x74 H25 fun x75 H26=>
 K68 (x75,()) H26)
 (K68 (s1.1,()) H2))))
theorem fn125 (h:sh125 v0 v1 H R):Fc Tryz.prog 125 #[v0,v1] H R:=
 zs (fun f=>[127].contains f) (.seq .nil (.seq .nil (.seq (.seq .nil (.loop [5,6] [13,14,17,18,19,20,21,22,23,24,25,26,27,28,29,30,31,15,16] .nil)) (.seq .nil (.join [5] [35,36,37,38,39,40,41] .nil (.seq .nil (.join [5] [45,46,47,48,49,50] .nil (.seq .nil (.join [5] [54,55,56,57,58,59,60] .nil (.seq .nil (.seq .nil (.seq .nil (.seq (.seq .nil (.loop [5,11] [70,71,74,75,76,12,77,78,79,80,81,82,83,84,85,86,8,87,88,89,90,91,92,93,94,95,72,73] (.seq .nil (.seq (.seq .nil (.join [5] [77,78,79,80,81,82,83] .nil .nil)) .nil)))) .nil))))))))))))) Tryz.func125 (args:=[v0,v1]) (Eq.mp (by kernel_rfl:sh125 v0 v1 H R=_) h)
def sh159 (v0 v1:Value) (H:Hp) (R:Value→Hp→Prop):Prop:=
 zx (n:=1) ((.int .i64 0),()) H (fun K1 s0 H1=>Any fun _=>
 Pu (lenE Tryz.prog 175 v0) fun x3=>
 Pu (zo (some (.int .i64)) .lss s0.1 x3) fun x4=>
 Ite x4
 (Pu (zh (some (none,2)) v0 s0.1) fun x5=>
 Pu (zd (some 0) x5) fun x6=>
 Pu (zb (some none) x6 H1) fun x7=>
 Pu (zo (some (.int .i64)) .eql x7 v1) fun x8=>
 Ite x8
 (Pu (zh (some (none,2)) v0 s0.1) fun x9=>
 Pu (zd (some 1) x9) fun x10=>
 Pu (zb (some none) x10 H1) fun x11=>
 R x11 H1)
 (Pu (zo (some (.int .i64)) .add s0.1 (.int .i64 1)) fun x12=>
 K1 (x12,()) H1))
 (R (.int .i64 0) H1))
theorem fn159 (h:sh159 v0 v1 H R):Fc Tryz.prog 159 #[v0,v1] H R:=
 zs (fun f=>[127].contains f) (.seq .nil (.seq (.seq .nil (.loop [5] [6,7,8,9,12,13,14,15,16,17,18,19,20,21,22,23,4,10,11] .nil)) .nil)) Tryz.func159 (args:=[v0,v1]) (Eq.mp (by kernel_rfl:sh159 v0 v1 H R=_) h)
def sh162 (v0:Value) (H:Hp) (R:Value→Hp→Prop):Prop:=
 Pu (zo (some (.int .i64)) .add v0 (.int .i64 1024)) fun x1=>
 Pu (zo (some (.int .i64)) .sub x1 (.int .i64 1)) fun x2=>
 Pu (zo (some (.int .i64)) .quo x2 (.int .i64 1024)) fun x3=>
 R x3 H
theorem fn162 (h:sh162 v0 H R):Fc Tryz.prog 162 #[v0] H R:=
 zs (fun f=>[127].contains f) .nil Tryz.func162 (args:=[v0]) (Eq.mp (by kernel_rfl:sh162 v0 H R=_) h)
def sh149 (v0 v1:Value) (H:Hp) (R:Value→Hp→Prop):Prop:=
 zx (n:=3) ((.slice none 0 0),(.bool false),(.int .i64 0),()) H (fun K1 s0 H1=>Any fun _=>
 Pu (zc v0) fun x3=>
 Pu (zd (some 1) x3) fun x4=>
 Pu (zb (some none) x4 H1) fun x5=>
 Pu (lenE Tryz.prog 113 x5) fun x6=>
 Pu (zo (some (.int .i64)) .lss s0.2.2.1 x6) fun x7=>
 Ite x7
 (Pu (zc v0) fun x8=>
 Pu (zd (some 1) x8) fun x9=>
 Pu (zb (some none) x9 H1) fun x10=>
 Pu (zh (some (none,2)) x10 s0.2.2.1) fun x11=>
 Pu (zd (some 1) x11) fun x12=>
 Pu (zb (some none) x12 H1) fun x13=>
 Pu (zo (some (.int .i64)) .eql x13 v1) fun x14=>
 Ite x14
 (R (.tuple #[]) H1)
 (zS (n:=2) (fun s14 H2=>Any fun _=>
 Pu (zc v0) fun x18=>
 Pu (zd (some 1) x18) fun x19=>
 Pu (zb (some none) x19 H2) fun x20=>
 Pu (zh (some (none,2)) x20 s0.2.2.1) fun x21=>
 Pu (zb (some (some 2)) x21 H2) fun x22=>
 Pu (zI Tryz.prog 113) fun x23=>Pu (zH (some x23) 1 [(0,x22)]) fun x24=>NewS x23.type 1 x24 H2 fun x25 H3=>
 Y2 (zI Tryz.prog 113) s14.1 x25 H3 fun x26 H4=>
 Pu (zo (some (.int .i64)) .add s0.2.2.1 (.int .i64 1)) fun x27=>
 K1 (x26,s14.2.1,x27,()) H4)
 (fun K27=>zS (n:=1) (fun s28 H5=>Any fun _=>
 Ite s28.1
 (Pu (zc v0) fun x31=>
 Pu (zd (some 0) x31) fun x32=>
 Pu (zb (some none) x32 H5) fun x33=>
 Pu (zu Tryz.prog 254 [(0,x33),(1,v1)]) fun x34=>
 Pu (zI Tryz.prog 113) fun x35=>Pu (zH (some x35) 1 [(0,x34)]) fun x36=>NewS x35.type 1 x36 H5 fun x37 H6=>
 Y2 (zI Tryz.prog 113) s0.1 x37 H6 fun x38 H7=>
 K27 (x38,(.bool true),()) H7)
 (K27 (s0.1,s0.2.1,()) H5))
 (fun K38=>Pu (unE .not s0.2.1) fun x40=>
 Ite x40
 (Pu (zc v0) fun x41=>
 Pu (zd (some 1) x41) fun x42=>
 Pu (zb (some none) x42 H1) fun x43=>
 Pu (zh (some (none,2)) x43 s0.2.2.1) fun x44=>
 Pu (zd (some 1) x44) fun x45=>
 Pu (zb (some none) x45 H1) fun x46=>
 Pu (zo (some (.int .i64)) .gtr x46 v1) fun x47=>
 K38 (x47,()) H1)
 (K38 ((.bool false),()) H1)))))
 (zS (n:=1) (fun s47 H8=>Any fun _=>
 Pu (zc v0) fun x50=>
 Pu (zd (some 1) x50) fun x51=>
 Pu (zj (some 1) x51 s47.1 H8) fun H9=>
 R (.tuple #[]) H9)
 (fun K51=>Pu (unE .not s0.2.1) fun x53=>
 Ite x53
 (Pu (zc v0) fun x54=>
 Pu (zd (some 0) x54) fun x55=>
 Pu (zb (some none) x55 H1) fun x56=>
 Pu (zu Tryz.prog 254 [(0,x56),(1,v1)]) fun x57=>
 Pu (zI Tryz.prog 113) fun x58=>Pu (zH (some x58) 1 [(0,x57)]) fun x59=>NewS x58.type 1 x59 H1 fun x60 H10=>
 Y2 (zI Tryz.prog 113) s0.1 x60 H10 fun x61 H11=>
 K51 (x61,()) H11)
 (K51 (s0.1,()) H1))))
theorem fn149 (h:sh149 v0 v1 H R):Fc Tryz.prog 149 #[v0,v1] H R:=
 zs (fun f=>[127].contains f) (.seq .nil (.seq .nil (.seq (.seq .nil (.loop [4,5,6] [7,8,9,10,11,12,13,16,17,18,19,20,21,22,23,24,25,26,27,28,29,30,31,32,33,34,35,36,37,38,39,40,41,42,43,44,45,46,47,48,49,50,51,52,53,54,55,56,57,58,14,15] (.seq .nil (.seq (.seq .nil (.join [4,5] [26,27,28,29,30,31,32,33,34,35,36,37,38,39,40,41,42,43,44,45,46,47,48] (.join [39] [26,27,28,29,30,31,32,33,34,35,36,37,38] .nil .nil) .nil)) .nil)))) (.join [4] [59,60,61,62,63,64,65,66,67,68,69] .nil .nil)))) Tryz.func149 (args:=[v0,v1]) (Eq.mp (by kernel_rfl:sh149 v0 v1 H R=_) h)
def sh148 (v0 v1:Value) (H:Hp) (R:Value→Hp→Prop):Prop:=
 Box 148 v0 H fun x1 H1=>
 Box 88 v1 H1 fun x2 H2=>
 zx (n:=1) ((.int .i64 60),()) H2 (fun K3 s2 H3=>Any fun _=>
 Pu (zo (some (.int .i64)) .lss s2.1 (.int .i64 64)) fun x5=>
 Ite x5
 (Pu (zh (some (some 64,1)) x1 s2.1) fun x6=>
 Pu (zb (some none) x6 H3) fun x7=>
 Pu (zo (some (.int .u8)) .neq x7 (.int .u8 0)) fun x8=>
 Ite x8
 (R (.bool true) H3)
 (Pu (zo (some (.int .i64)) .add s2.1 (.int .i64 1)) fun x9=>
 K3 (x9,()) H3))
 (zS (n:=1) (fun s9 H4=>Any fun _=>
 Ite s9.1
 (R (.bool true) H4)
 (Pu (zd (some 0) x2) fun x12=>
 Pu (zb (some none) x12 H4) fun x13=>
 Pu (zo (some (.int .u16)) .eql x13 (.int .u16 2)) fun x14=>
 Ite x14
 (Pu (zd (some 2) x2) fun x15=>
 Pu (zb (some none) x15 H4) fun x16=>
 Pu (zo (some (.int .u32)) .rem x16 (.int .u32 16)) fun x17=>
 Pu (zo (some (.int .u32)) .neq x17 (.int .u32 0)) fun x18=>
 Ite x18
 (R (.bool true) H4)
 (Pu (zd (some 1) x2) fun x19=>
 Pu (zb (some none) x19 H4) fun x20=>
 Pu (zo (some (.int .u16)) .neq x20 (.int .u16 0)) fun x21=>
 Ite x21
 (Pu (zd (some 2) x2) fun x22=>
 Pu (zb (some none) x22 H4) fun x23=>
 Pu (zo (some (.int .u32)) .lss x23 (.int .u32 32)) fun x24=>
 Ite x24
 (R (.bool true) H4)
 (Pu (zd (some 1) x2) fun x25=>
 Pu (zb (some none) x25 H4) fun x26=>
 Pu (zo (some (.int .u16)) .eql x26 (.int .u16 1)) fun x27=>
 R x27 H4))
 (R (.bool false) H4)))
 (R (.bool false) H4)))
 (fun K27=>Pu (zd (some 0) x2) fun x29=>
 Pu (zb (some none) x29 H3) fun x30=>
 Pu (zo (some (.int .u16)) .gtr x30 (.int .u16 2)) fun x31=>
 Ite x31
 (K27 ((.bool true),()) H3)
 (Pu (zd (some 2) x2) fun x32=>
 Pu (zb (some none) x32 H3) fun x33=>
 Pu (zo (some (.int .u32)) .gtr x33 (.int .u32 67381248)) fun x34=>
 Ite x34
 (K27 ((.bool true),()) H3)
 (Pu (zd (some 1) x2) fun x35=>
 Pu (zb (some none) x35 H3) fun x36=>
 Pu (zo (some (.int .u16)) .gtr x36 (.int .u16 1000)) fun x37=>
 K27 (x37,()) H3)))))
theorem fn148 (h:sh148 v0 v1 H R):Fc Tryz.prog 148 #[v0,v1] H R:=
 zs (fun f=>[127].contains f) (.seq .nil (.seq (.seq .nil (.loop [5] [6,7,10,11,12,13,4,8,9] .nil)) (.seq (.join [26] [14,15,16,17,18,19,20,21,22,23,24,25] .nil .nil) .nil))) Tryz.func148 (args:=[v0,v1]) (Eq.mp (by kernel_rfl:sh148 v0 v1 H R=_) h)
def sh115 (v0:Value) (H:Hp) (R:Value→Hp→Prop):Prop:=
 Pu (zu Tryz.prog 258 [(0,(.int .u8 4))]) fun x1=>
 Box 258 x1 H fun x2 H1=>
 Pu (zc v0) fun x3=>
 Pu (zd (some 2) x3) fun x4=>
 Pu (zd (some 0) x4) fun x5=>
 Pu (zd (some 2) x5) fun x6=>
 Pu (zb (some none) x6 H1) fun x7=>
 zx (n:=1) ((.int .i64 0),()) H1 (fun K8 s7 H2=>Any fun _=>
 Pu (zo (some (.int .i64)) .leq s7.1 x7) fun x10=>
 Ite x10
 (Fc Tryz.prog 147 #[v0,s7.1] H2 fun x11 H3=>
 Pu (zD Tryz.prog 148) fun x12=>Box 148 x12 H3 fun x13 H4=>
 Pu (zj (some 64) x13 x11 H4) fun H5=>
 Fc Tryz.prog 124 #[v0,s7.1] H5 fun x14 H6=>
 Pu (zD Tryz.prog 88) fun x15=>Box 88 x15 H6 fun x16 H7=>
 Pu (zj (some 16) x16 x14 H7) fun H8=>
 Pu (zb (some (some 64)) x13 H8) fun x17=>
 Pu (zu Tryz.prog 148 []) fun x18=>
 Pu (yH Tryz.prog 148 false .eql x17 x18 H8) fun x19=>
 zS (n:=1) (fun s19 H9=>Any fun _=>
 zS (n:=1) (fun s21 H10=>Any fun _=>
 Ite s21.1
 (Fc Tryz.prog 149 #[x2,s7.1] H10 fun x24 H11=>
 Pu (zo (some (.int .i64)) .add s7.1 (.int .i64 1)) fun x25=>
 K8 (x25,()) H11)
 (Pu (zo (some (.int .i64)) .add s7.1 (.int .i64 1)) fun x26=>
 K8 (x26,()) H10))
 (fun K26=>Ite s19.1
 (K26 ((.bool true),()) H9)
 (Pu (zo (some (.int .i64)) .eql s7.1 (.int .i64 0)) fun x28=>
 Ite x28
 (Pu (unE .not x19) fun x29=>
 Ite x29
 (K26 ((.bool true),()) H9)
 (Pu (zo (some (.int .i64)) .eql s7.1 (.int .i64 1)) fun x30=>
 Ite x30
 (Pu (zd (some 0) x16) fun x31=>
 Pu (zb (some none) x31 H9) fun x32=>
 Pu (zo (some (.int .u16)) .neq x32 (.int .u16 2)) fun x33=>
 Ite x33
 (K26 ((.bool true),()) H9)
 (Pu (zd (some 1) x16) fun x34=>
 Pu (zb (some none) x34 H9) fun x35=>
 Pu (zo (some (.int .u16)) .eql x35 (.int .u16 0)) fun x36=>
 K26 (x36,()) H9))
 (K26 ((.bool false),()) H9)))
 (Pu (zo (some (.int .i64)) .eql s7.1 (.int .i64 1)) fun x37=>
 Ite x37
 (Pu (zd (some 0) x16) fun x38=>
 Pu (zb (some none) x38 H9) fun x39=>
 Pu (zo (some (.int .u16)) .neq x39 (.int .u16 2)) fun x40=>
 Ite x40
 (K26 ((.bool true),()) H9)
 (Pu (zd (some 1) x16) fun x41=>
 Pu (zb (some none) x41 H9) fun x42=>
 Pu (zo (some (.int .u16)) .eql x42 (.int .u16 0)) fun x43=>
 K26 (x43,()) H9))
 (K26 ((.bool false),()) H9)))))
 (fun K43=>Pu (zd (some 0) x16) fun x45=>
 Pu (zb (some none) x45 H8) fun x46=>
 Pu (zo (some (.int .u16)) .neq x46 (.int .u16 0)) fun x47=>
 Ite x47
 (Pu (zb (some (some 64)) x13 H8) fun x48=>
 Pu (zb (some (some 16)) x16 H8) fun x49=>
 Fc Tryz.prog 148 #[x48,x49] H8 fun x50 H12=>
 Ite x50
 (K43 ((.bool true),()) H12)
 (Pu (zd (some 0) x16) fun x51=>
 Pu (zb (some none) x51 H12) fun x52=>
 Pu (zo (some (.int .u16)) .eql x52 (.int .u16 0)) fun x53=>
 Ite x53
 (Pu (unE .not x19) fun x54=>
 K43 (x54,()) H12)
 (K43 ((.bool false),()) H12)))
 (Pu (zd (some 0) x16) fun x55=>
 Pu (zb (some none) x55 H8) fun x56=>
 Pu (zo (some (.int .u16)) .eql x56 (.int .u16 0)) fun x57=>
 Ite x57
 (Pu (unE .not x19) fun x58=>
 K43 (x58,()) H8)
 (K43 ((.bool false),()) H8))))
 (Pu (zD Tryz.prog 148) fun x59=>Box 148 x59 H2 fun x60 H13=>
 Pu (zo (some (.int .i64)) .add x7 (.int .i64 1)) fun x61=>
 zx (n:=1) (x61,()) H13 (fun K62 s61 H14=>Any fun _=>
 Pu (zc v0) fun x64=>
 Pu (zd (some 2) x64) fun x65=>
 Pu (zd (some 5) x65) fun x66=>
 Pu (zb (some none) x66 H14) fun x67=>
 Pu (zo (some (.int .i64)) .mul (.int .i64 16) x67) fun x68=>
 Pu (zo (some (.int .i64)) .lss s61.1 x68) fun x69=>
 Ite x69
 (zS (n:=1) (fun s69 H15=>Any fun _=>
 Ite s69.1
 (Pu (zo (some (.int .i64)) .add x7 (.int .i64 1)) fun x72=>
 Fc Tryz.prog 149 #[x2,x72] H15 fun x73 H16=>
 Pu (zo (some (.int .i64)) .add s61.1 (.int .i64 1)) fun x74=>
 K62 (x74,()) H16)
 (Pu (zo (some (.int .i64)) .add s61.1 (.int .i64 1)) fun x75=>
 K62 (x75,()) H15))
 (fun K75=>And
 (ForX true H14 fun H20=>
 Fc Tryz.prog 147 #[v0,s61.1] H20 fun x80 H21=>
 Pu (zb (some (some 64)) x60 H21) fun x81=>
 Pu (yH Tryz.prog 148 false .neq x80 x81 H21) fun x82=>
 ForX true H21 fun H22=>
 K75 (x82,()) H22)
 (And
 (Pu (zb (some (some 64)) x60 H14) fun x77=>
 ForX true H14 fun H17=>
 Fc Tryz.prog 147 #[v0,s61.1] H17 fun x78 H18=>
 Pu (yH Tryz.prog 148 false .neq x78 x77 H18) fun x79=>
 ForX true H18 fun H19=>
 K75 (x79,()) H19)
 (True))))
 (Pu (zc x2) fun x83=>
 Pu (zd (some 1) x83) fun x84=>
 Pu (zb (some none) x84 H14) fun x85=>
 R x85 H14))))
theorem fn115 (h:sh115 v0 H R):Fc Tryz.prog 115 #[v0] H R:=
 ZB (fun f=>[127].contains f) [(16,(.fork [0,1] (.cons 2 (.line [3,4]) (.cons 3 (.line [2,4]) .nil))))] (.seq .nil (.seq .nil (.seq .nil (.seq (.seq .nil (.loop [5] [20,21,22,25,26,27,6,28,29,30,7,31,32,33,8,34,35,36,37,38,39,40,41,42,43,44,45,46,47,48,49,50,9,51,52,53,54,55,56,57,58,59,60,61,62,63,64,65,66,67,68,69,70,71,72,73,74,75,76,23,24] (.seq .nil (.seq (.seq .nil (.seq .nil (.seq .nil (.join [9] [34,35,36,37,38,39,40,41,42,43,44,45,46,47,48,49,50] .nil (.join [73] [51,52,53,54,55,56,57,58,59,60,61,62,63,64,65,66,67,68,69,70,71,72] .nil .nil))))) .nil)))) (.seq .nil (.seq (.seq .nil (.loop [11] [79,80,81,82,83,84,85,86,89,90,91,92,93,94,95,96,97,87,88] (.seq .nil (.seq (.join [93] [89,90,91,92] .nil .nil) .nil)))) .nil)))))) Tryz.func115 (args:=[v0]) (Eq.mp (by kernel_rfl:sh115 v0 H R=_) h)
def sh80 (v0:Value) (H:Hp) (R:Value→Hp→Prop):Prop:=
 zx (n:=2) ((.slice none 0 0),(.int .i64 1),()) H (fun K1 s0 H1=>Any fun _=>
 Pu (zc v0) fun x3=>
 Pu (zd (some 2) x3) fun x4=>
 Pu (zd (some 0) x4) fun x5=>
 Pu (zd (some 2) x5) fun x6=>
 Pu (zb (some none) x6 H1) fun x7=>
 Pu (zo (some (.int .i64)) .leq s0.2.1 x7) fun x8=>
 Ite x8
 (Fc Tryz.prog 124 #[v0,s0.2.1] H1 fun x9 H2=>
 Pu (zD Tryz.prog 88) fun x10=>Box 88 x10 H2 fun x11 H3=>
 Pu (zj (some 16) x11 x9 H3) fun H4=>
 Pu (zd (some 0) x11) fun x12=>
 Pu (zb (some none) x12 H4) fun x13=>
 Pu (zo (some (.int .u16)) .neq x13 (.int .u16 0)) fun x14=>
 Ite x14
 (Pu (zb (some (some 16)) x11 H4) fun x15=>
 And
 (Pu (zb (some (some 16)) x11 H4) fun x24=>
 ForX true H4 fun H12=>
 Fc Tryz.prog 125 #[v0,x15] H12 fun x25 H13=>
 Pu (zu Tryz.prog 177 [(0,s0.2.1),(1,x24),(2,x25)]) fun x26=>
 ForX true H13 fun H14=>
 Pu (zI Tryz.prog 170) fun x27=>Pu (zH (some x27) 1 [(0,x26)]) fun x28=>NewS x27.type 1 x28 H14 fun x29 H15=>
 ForX true H15 fun H16=>
 Y2 (zI Tryz.prog 170) s0.1 x29 H16 fun x30 H17=>
 ForX true H17 fun H18=>
 Pu (zo (some (.int .i64)) .add s0.2.1 (.int .i64 1)) fun x31=>
 K1 (x30,x31,()) H18)
 (And
 (ForX true H4 fun H5=>
 Fc Tryz.prog 125 #[v0,x15] H5 fun x16 H6=>
 Pu (zb (some (some 16)) x11 H6) fun x17=>
 Pu (zu Tryz.prog 177 [(0,s0.2.1),(1,x17),(2,x16)]) fun x18=>
 ForX true H6 fun H7=>
 Pu (zI Tryz.prog 170) fun x19=>Pu (zH (some x19) 1 [(0,x18)]) fun x20=>NewS x19.type 1 x20 H7 fun x21 H8=>
 ForX true H8 fun H9=>
 Y2 (zI Tryz.prog 170) s0.1 x21 H9 fun x22 H10=>
 ForX true H10 fun H11=>
 Pu (zo (some (.int .i64)) .add s0.2.1 (.int .i64 1)) fun x23=>
 K1 (x22,x23,()) H11)
 (True)))
 (Pu (zo (some (.int .i64)) .add s0.2.1 (.int .i64 1)) fun x32=>
 K1 (s0.1,x32,()) H4))
 (R s0.1 H1))
theorem fn80 (h:sh80 v0 H R):Fc Tryz.prog 80 #[v0] H R:=
 ZB (fun f=>[127].contains f) [(7,(.fork [0,1,3,4] (.cons 2 (.line [5,6,7,8,9]) (.cons 5 (.line [2,6,7,8,9]) .nil))))] (.seq .nil (.seq .nil (.seq (.seq .nil (.loop [3,4] [6,7,8,9,10,11,12,13,16,17,18,5,19,20,21,22,23,24,25,26,27,28,29,30,14,15] .nil)) .nil))) Tryz.func80 (args:=[v0]) (Eq.mp (by kernel_rfl:sh80 v0 H R=_) h)
def sh116 (v0 v1:Value) (H:Hp) (R:Value→Hp→Prop):Prop:=
 Pu (zu Tryz.prog 258 [(0,(.int .u8 5))]) fun x1=>
 Box 258 x1 H fun x2 H1=>
 zx (n:=1) ((.int .i64 0),()) H1 (fun K3 s2 H2=>Any fun _=>
 Pu (lenE Tryz.prog 170 v1) fun x5=>
 Pu (zo (some (.int .i64)) .lss s2.1 x5) fun x6=>
 Ite x6
 (zx (n:=1) ((.int .i64 0),()) H2 (fun K7 s6 H3=>Any fun _=>
 Pu (zh (some (none,18)) v1 s2.1) fun x9=>
 Pu (zd (some 17) x9) fun x10=>
 Pu (zb (some none) x10 H3) fun x11=>
 Pu (lenE Tryz.prog 175 x11) fun x12=>
 Pu (zo (some (.int .i64)) .lss s6.1 x12) fun x13=>
 Ite x13
 (Pu (zh (some (none,18)) v1 s2.1) fun x14=>
 Pu (zd (some 17) x14) fun x15=>
 Pu (zb (some none) x15 H3) fun x16=>
 Pu (zh (some (none,2)) x16 s6.1) fun x17=>
 Pu (zd (some 1) x17) fun x18=>
 Pu (zb (some none) x18 H3) fun x19=>
 Fc Tryz.prog 150 #[v0,x19] H3 fun x20 H4=>
 Pu (unE .not x20) fun x21=>
 Ite x21
 (Pu (zh (some (none,18)) v1 s2.1) fun x22=>
 Pu (zd (some 0) x22) fun x23=>
 Pu (zb (some none) x23 H4) fun x24=>
 Fc Tryz.prog 149 #[x2,x24] H4 fun x25 H5=>
 Pu (zo (some (.int .i64)) .add s6.1 (.int .i64 1)) fun x26=>
 K7 (x26,()) H5)
 (Pu (zo (some (.int .i64)) .add s6.1 (.int .i64 1)) fun x27=>
 K7 (x27,()) H4))
 (Pu (zo (some (.int .i64)) .add s2.1 (.int .i64 1)) fun x28=>
 K3 (x28,()) H3)))
 (Pu (zc x2) fun x29=>
 Pu (zd (some 1) x29) fun x30=>
 Pu (zb (some none) x30 H2) fun x31=>
 R x31 H2))
theorem fn116 (h:sh116 v0 v1 H R):Fc Tryz.prog 116 #[v0,v1] H R:=
 zs (fun f=>[127].contains f) (.seq .nil (.seq .nil (.seq (.seq .nil (.loop [6] [11,12,13,14,7,17,18,19,20,21,22,23,24,27,28,29,30,31,32,33,34,35,36,37,8,38,39,40,41,42,43,44,45,46,25,26,15,16] (.seq .nil (.seq (.seq .nil (.loop [7] [17,18,19,20,21,22,23,24,27,28,29,30,31,32,33,34,35,36,37,8,38,39,40,41,42,43,44,45,46,25,26] .nil)) .nil)))) .nil))) Tryz.func116 (args:=[v0,v1]) (Eq.mp (by kernel_rfl:sh116 v0 v1 H R=_) h)
def sh151 (v0 v1:Value) (H:Hp) (R:Value→Hp→Prop):Prop:=
 Pu (zc v0) fun x1=>
 Pu (zd (some 2) x1) fun x2=>
 Pu (zd (some 0) x2) fun x3=>
 Pu (zd (some 0) x3) fun x4=>
 Pu (zb (some none) x4 H) fun x5=>
 Pu (YT (zI Tryz.prog 106) x5 x5 H) fun x6=>
 zx (n:=1) ((.int .i64 0),()) x6.2 (fun K7 s6 H1=>Any fun _=>
 Pu (lenE Tryz.prog 170 v1) fun x9=>
 Pu (zo (some (.int .i64)) .lss s6.1 x9) fun x10=>
 Ite x10
 (zx (n:=1) ((.int .i64 0),()) H1 (fun K11 s10 H2=>Any fun _=>
 Pu (zh (some (none,18)) v1 s6.1) fun x13=>
 Pu (zd (some 17) x13) fun x14=>
 Pu (zb (some none) x14 H2) fun x15=>
 Pu (lenE Tryz.prog 175 x15) fun x16=>
 Pu (zo (some (.int .i64)) .lss s10.1 x16) fun x17=>
 Ite x17
 (Pu (zh (some (none,18)) v1 s6.1) fun x18=>
 Pu (zd (some 17) x18) fun x19=>
 Pu (zb (some none) x19 H2) fun x20=>
 Pu (zh (some (none,2)) x20 s10.1) fun x21=>
 Pu (zd (some 1) x21) fun x22=>
 Pu (zb (some none) x22 H2) fun x23=>
 Pu (zh (some (none,1)) x6.1 x23) fun x24=>
 Pu (zb (some none) x24 H2) fun x25=>
 Pu (zo (some (.int .i64)) .add x25 (.int .i64 1)) fun x26=>
 Pu (zh (some (none,1)) x6.1 x23) fun x27=>
 Pu (zj (some 1) x27 x26 H2) fun H3=>
 Pu (zo (some (.int .i64)) .add s10.1 (.int .i64 1)) fun x28=>
 K11 (x28,()) H3)
 (Pu (zo (some (.int .i64)) .add s6.1 (.int .i64 1)) fun x29=>
 K7 (x29,()) H2)))
 (R x6.1 H1))
theorem fn151 (h:sh151 v0 v1 H R):Fc Tryz.prog 151 #[v0,v1] H R:=
 zs (fun f=>[127].contains f) (.seq .nil (.seq .nil (.seq (.seq .nil (.loop [6] [15,16,17,18,7,21,22,23,24,25,26,27,28,31,32,33,34,35,36,37,38,39,40,41,42,43,44,29,30,19,20] (.seq .nil (.seq (.seq .nil (.loop [7] [21,22,23,24,25,26,27,28,31,32,33,34,35,36,37,38,39,40,41,42,43,44,29,30] .nil)) .nil)))) .nil))) Tryz.func151 (args:=[v0,v1]) (Eq.mp (by kernel_rfl:sh151 v0 v1 H R=_) h)
def sh117 (v0 v1:Value) (H:Hp) (R:Value→Hp→Prop):Prop:=
 Pu (zu Tryz.prog 258 [(0,(.int .u8 6))]) fun x1=>
 Box 258 x1 H fun x2 H1=>
 Fc Tryz.prog 151 #[v0,v1] H1 fun x3 H2=>
 zx (n:=1) ((.int .i64 0),()) H2 (fun K4 s3 H3=>Any fun _=>
 Pu (lenE Tryz.prog 106 x3) fun x6=>
 Pu (zo (some (.int .i64)) .lss s3.1 x6) fun x7=>
 Ite x7
 (Pu (zh (some (none,1)) x3 s3.1) fun x8=>
 Pu (zb (some none) x8 H3) fun x9=>
 Pu (zo (some (.int .i64)) .gtr x9 (.int .i64 1)) fun x10=>
 Ite x10
 (Pu (zc x2) fun x11=>
 Pu (zd (some 1) x11) fun x12=>
 Pu (zb (some none) x12 H3) fun x13=>
 Pu (zu Tryz.prog 254 [(0,(.int .u8 6)),(1,s3.1)]) fun x14=>
 Pu (zI Tryz.prog 113) fun x15=>Pu (zH (some x15) 1 [(0,x14)]) fun x16=>NewS x15.type 1 x16 H3 fun x17 H4=>
 Y2 (zI Tryz.prog 113) x13 x17 H4 fun x18 H5=>
 Pu (zc x2) fun x19=>
 Pu (zd (some 1) x19) fun x20=>
 Pu (zj (some 1) x20 x18 H5) fun H6=>
 Pu (zo (some (.int .i64)) .add s3.1 (.int .i64 1)) fun x21=>
 K4 (x21,()) H6)
 (Pu (zo (some (.int .i64)) .add s3.1 (.int .i64 1)) fun x22=>
 K4 (x22,()) H3))
 (Pu (zc x2) fun x23=>
 Pu (zd (some 1) x23) fun x24=>
 Pu (zb (some none) x24 H3) fun x25=>
 R x25 H3))
theorem fn117 (h:sh117 v0 v1 H R):Fc Tryz.prog 117 #[v0,v1] H R:=
 zs (fun f=>[127].contains f) (.seq .nil (.seq .nil (.seq .nil (.seq (.seq .nil (.loop [7] [13,14,15,16,19,20,21,22,23,24,25,26,27,28,29,30,31,32,33,34,17,18] .nil)) .nil)))) Tryz.func117 (args:=[v0,v1]) (Eq.mp (by kernel_rfl:sh117 v0 v1 H R=_) h)
def sh163 (v0 v1:Value) (H:Hp) (R:Value→Hp→Prop):Prop:=
 Fc Tryz.prog 127 #[v0,v1] H fun x1 H1=>
 Pu (zu Tryz.prog 94 []) fun x2=>
 Pu (yH Tryz.prog 94 false .eql x1 x2 H1) fun x3=>
 R x3 H1
theorem fn163 (h:sh163 v0 v1 H R):Fc Tryz.prog 163 #[v0,v1] H R:=
 zs (fun f=>[127].contains f) .nil Tryz.func163 (args:=[v0,v1]) (Eq.mp (by kernel_rfl:sh163 v0 v1 H R=_) h)
def sh118 (v0 v1 v2:Value) (H:Hp) (R:Value→Hp→Prop):Prop:=
 Pu (zu Tryz.prog 258 [(0,v2)]) fun x1=>
 Box 258 x1 H fun x2 H1=>
 zx (n:=1) ((.int .i64 0),()) H1 (fun K3 s2 H2=>Any fun _=>
 Pu (lenE Tryz.prog 170 v1) fun x5=>
 Pu (zo (some (.int .i64)) .lss s2.1 x5) fun x6=>
 Ite x6
 (Pu (zh (some (none,18)) v1 s2.1) fun x7=>
 Pu (zb (some (some 18)) x7 H2) fun x8=>
 Fc Tryz.prog 152 #[v0,x8,v2] H2 fun x9 H3=>
 Ite x9
 (Pu (zh (some (none,18)) v1 s2.1) fun x10=>
 Pu (zd (some 0) x10) fun x11=>
 Pu (zb (some none) x11 H3) fun x12=>
 Fc Tryz.prog 149 #[x2,x12] H3 fun x13 H4=>
 Pu (zo (some (.int .i64)) .add s2.1 (.int .i64 1)) fun x14=>
 K3 (x14,()) H4)
 (Pu (zo (some (.int .i64)) .add s2.1 (.int .i64 1)) fun x15=>
 K3 (x15,()) H3))
 (Pu (zc x2) fun x16=>
 Pu (zd (some 1) x16) fun x17=>
 Pu (zb (some none) x17 H2) fun x18=>
 R x18 H2))
theorem fn118 (h:sh118 v0 v1 v2 H R):Fc Tryz.prog 118 #[v0,v1,v2] H R:=
 zs (fun f=>[127].contains f) (.seq .nil (.seq .nil (.seq (.seq .nil (.loop [8] [13,14,15,16,19,20,21,22,23,24,25,9,26,27,28,29,30,31,32,33,17,18] .nil)) .nil))) Tryz.func118 (args:=[v0,v1,v2]) (Eq.mp (by kernel_rfl:sh118 v0 v1 v2 H R=_) h)
def sh152 (v0 v1 v2:Value) (H:Hp) (R:Value→Hp→Prop):Prop:=
 Box 177 v1 H fun x1 H1=>
 Pu (zd (some 1) x1) fun x2=>
 Pu (zd (some 2) x2) fun x3=>
 Pu (zb (some none) x3 H1) fun x4=>
 Pu (z9 (some (.int .u32)) (some (.int .i64)) x4) fun x5=>
 Fc Tryz.prog 162 #[x5] H1 fun x6 H2=>
 Pu (zo (some (.int .u8)) .eql v2 (.int .u8 10)) fun x7=>
 Ite x7
 (Pu (zd (some 1) x1) fun x8=>
 Pu (zd (some 3) x8) fun x9=>
 Pu (zb (some none) x9 H2) fun x10=>
 Pu (z9 (some (.int .u32)) (some (.int .i64)) x10) fun x11=>
 Pu (zd (some 17) x1) fun x12=>
 Pu (zb (some none) x12 H2) fun x13=>
 Pu (lenE Tryz.prog 175 x13) fun x14=>
 Pu (zo (some (.int .i64)) .neq x11 x14) fun x15=>
 R x15 H2)
 (Pu (zo (some (.int .u8)) .eql v2 (.int .u8 12)) fun x16=>
 Ite x16
 (zx (n:=1) ((.int .i64 0),()) H2 (fun K17 s16 H3=>Any fun _=>
 zS (n:=1) (fun s18 H4=>Any fun _=>
 Ite s18.1
 (Pu (zd (some 17) x1) fun x21=>
 Pu (zb (some none) x21 H4) fun x22=>
 Fc Tryz.prog 159 #[x22,s16.1] H4 fun x23 H5=>
 Pu (zo (some (.int .i64)) .eql x23 (.int .i64 0)) fun x24=>
 Ite x24
 (R (.bool true) H5)
 (Pu (zo (some (.int .i64)) .add s16.1 (.int .i64 1)) fun x25=>
 K17 (x25,()) H5))
 (R (.bool false) H4))
 (fun K25=>Pu (zo (some (.int .i64)) .lss s16.1 x6) fun x27=>
 Ite x27
 (Pu (zd (some 1) x1) fun x28=>
 Pu (zd (some 0) x28) fun x29=>
 Pu (zb (some none) x29 H3) fun x30=>
 Pu (zo (some (.int .u16)) .eql x30 (.int .u16 2)) fun x31=>
 K25 (x31,()) H3)
 (K25 ((.bool false),()) H3))))
 (Pu (zo (some (.int .u8)) .eql v2 (.int .u8 9)) fun x32=>
 Ite x32
 (Pu (zd (some 17) x1) fun x33=>
 Pu (zb (some none) x33 H2) fun x34=>
 Pu (zd (some 1) x1) fun x35=>
 Pu (zd (some 2) x35) fun x36=>
 Pu (zb (some none) x36 H2) fun x37=>
 Pu (z9 (some (.int .u32)) (some (.int .i64)) x37) fun x38=>
 Pu (zo (some (.int .i64)) .quo x38 (.int .i64 1024)) fun x39=>
 Fc Tryz.prog 159 #[x34,x39] H2 fun x40 H6=>
 zS (n:=1) (fun s40 H7=>Any fun _=>
 Ite s40.1
 (R (.bool false) H7)
 (Fc Tryz.prog 127 #[v0,x40] H7 fun x43 H8=>
 Pu (zD Tryz.prog 94) fun x44=>Box 94 x44 H8 fun x45 H9=>
 Pu (zj (some 1024) x45 x43 H9) fun H10=>
 Pu (zd (some 1) x1) fun x46=>
 Pu (zd (some 2) x46) fun x47=>
 Pu (zb (some none) x47 H10) fun x48=>
 Pu (z9 (some (.int .u32)) (some (.int .i64)) x48) fun x49=>
 Pu (zo (some (.int .i64)) .rem x49 (.int .i64 1024)) fun x50=>
 zx (n:=1) (x50,()) H10 (fun K51 s50 H11=>Any fun _=>
 Pu (zo (some (.int .i64)) .lss s50.1 (.int .i64 1024)) fun x53=>
 Ite x53
 (Pu (zh (some (some 1024,1)) x45 s50.1) fun x54=>
 Pu (zb (some none) x54 H11) fun x55=>
 Pu (zo (some (.int .u8)) .neq x55 (.int .u8 0)) fun x56=>
 Ite x56
 (R (.bool true) H11)
 (Pu (zo (some (.int .i64)) .add s50.1 (.int .i64 1)) fun x57=>
 K51 (x57,()) H11))
 (R (.bool false) H11))))
 (fun K57=>Pu (zo (some (.int .i64)) .eql x40 (.int .i64 0)) fun x59=>
 Ite x59
 (K57 ((.bool true),()) H6)
 (Pu (zd (some 1) x1) fun x60=>
 Pu (zd (some 2) x60) fun x61=>
 Pu (zb (some none) x61 H6) fun x62=>
 Pu (zo (some (.int .u32)) .rem x62 (.int .u32 1024)) fun x63=>
 Pu (zo (some (.int .u32)) .eql x63 (.int .u32 0)) fun x64=>
 K57 (x64,()) H6)))
 (zx (n:=1) ((.int .i64 0),()) H2 (fun K65 s64 H12=>Any fun _=>
 Pu (zd (some 17) x1) fun x67=>
 Pu (zb (some none) x67 H12) fun x68=>
 Pu (lenE Tryz.prog 175 x68) fun x69=>
 Pu (zo (some (.int .i64)) .lss s64.1 x69) fun x70=>
 Ite x70
 (Pu (zd (some 17) x1) fun x71=>
 Pu (zb (some none) x71 H12) fun x72=>
 Pu (zh (some (none,2)) x72 s64.1) fun x73=>
 Pu (zb (some (some 2)) x73 H12) fun x74=>
 Pu (zD Tryz.prog 233) fun x75=>Box 233 x75 H12 fun x76 H13=>
 Pu (zj (some 2) x76 x74 H13) fun H14=>
 zS (n:=1) (fun s76 H15=>Any fun _=>
 Ite s76.1
 (R (.bool true) H15)
 (Pu (zo (some (.int .i64)) .add s64.1 (.int .i64 1)) fun x79=>
 K65 (x79,()) H15))
 (fun K79=>Pu (zo (some (.int .u8)) .eql v2 (.int .u8 8)) fun x81=>
 Ite x81
 (Pu (zd (some 0) x76) fun x82=>
 Pu (zb (some none) x82 H14) fun x83=>
 Pu (zo (some (.int .i64)) .geq x83 x6) fun x84=>
 Ite x84
 (K79 ((.bool true),()) H14)
 (Pu (zo (some (.int .u8)) .eql v2 (.int .u8 7)) fun x85=>
 Ite x85
 (Pu (zd (some 0) x76) fun x86=>
 Pu (zb (some none) x86 H14) fun x87=>
 Pu (zo (some (.int .i64)) .lss x87 (.int .i64 0)) fun x88=>
 Ite x88
 (Pu (zd (some 1) x76) fun x89=>
 Pu (zb (some none) x89 H14) fun x90=>
 Fc Tryz.prog 163 #[v0,x90] H14 fun x91 H16=>
 K79 (x91,()) H16)
 (K79 ((.bool false),()) H14))
 (K79 ((.bool false),()) H14)))
 (Pu (zo (some (.int .u8)) .eql v2 (.int .u8 7)) fun x92=>
 Ite x92
 (Pu (zd (some 0) x76) fun x93=>
 Pu (zb (some none) x93 H14) fun x94=>
 Pu (zo (some (.int .i64)) .lss x94 (.int .i64 0)) fun x95=>
 Ite x95
 (Pu (zd (some 1) x76) fun x96=>
 Pu (zb (some none) x96 H14) fun x97=>
 Fc Tryz.prog 163 #[v0,x97] H14 fun x98 H17=>
 K79 (x98,()) H17)
 (K79 ((.bool false),()) H14))
 (K79 ((.bool false),()) H14))))
 (R (.bool false) H12)))))
theorem fn152 (h:sh152 v0 v1 v2 H R):Fc Tryz.prog 152 #[v0,v1,v2] H R:=
 zs (fun f=>[127].contains f) (.seq .nil (.seq .nil (.seq (.seq .nil (.seq .nil (.cond .nil (.seq .nil (.cond (.seq .nil (.loop [8] [67,68,69,70,71,72,73,74,75,78,79,80,81,82,6,76,77] (.seq (.join [75] [67,68,69,70,71,72,73,74] .nil .nil) .nil))) (.seq .nil (.cond (.seq .nil (.seq (.join [101] [93,94,95,96,97,98,99,100] .nil .nil) (.seq .nil (.seq .nil (.loop [11] [110,111,114,115,116,117,6,112,113] .nil))))) (.seq .nil (.loop [12] [20,21,22,23,24,27,28,29,30,31,13,32,33,34,35,36,37,38,39,40,41,42,43,44,45,46,47,48,49,50,51,52,53,54,6,25,26] (.seq .nil (.seq (.seq .nil (.join [54] [32,33,34,35,36,37,38,39,40,41,42,43,44,45,46,47,48,49,50,51,52,53] .nil .nil)) .nil))))))))))) .nil))) Tryz.func152 (args:=[v0,v1,v2]) (Eq.mp (by kernel_rfl:sh152 v0 v1 v2 H R=_) h)
def sh119 (v0 v1:Value) (H:Hp) (R:Value→Hp→Prop):Prop:=
 Fc Tryz.prog 151 #[v0,v1] H fun x1 H1=>
 zx (n:=2) ((.slice none 0 0),(.int .i64 0),()) H1 (fun K2 s1 H2=>Any fun _=>
 Pu (zc v0) fun x4=>
 Pu (zd (some 2) x4) fun x5=>
 Pu (zd (some 7) x5) fun x6=>
 Pu (zb (some none) x6 H2) fun x7=>
 Pu (zo (some (.int .i64)) .lss s1.2.1 x7) fun x8=>
 Ite x8
 (Pu (zc v0) fun x9=>
 Pu (zd (some 2) x9) fun x10=>
 Pu (zd (some 6) x10) fun x11=>
 Pu (zb (some none) x11 H2) fun x12=>
 Pu (zo (some (.int .i64)) .add x12 s1.2.1) fun x13=>
 Fc Tryz.prog 127 #[v0,x13] H2 fun x14 H3=>
 Pu (zD Tryz.prog 94) fun x15=>Box 94 x15 H3 fun x16 H4=>
 Pu (zj (some 1024) x16 x14 H4) fun H5=>
 zx (n:=2) (s1.1,(.int .i64 0),()) H5 (fun K17 s16 H6=>Any fun _=>
 Pu (zo (some (.int .i64)) .lss s16.2.1 (.int .i64 8192)) fun x19=>
 Ite x19
 (Pu (zo (some (.int .i64)) .mul (.int .i64 8192) s1.2.1) fun x20=>
 Pu (zo (some (.int .i64)) .add x20 s16.2.1) fun x21=>
 zS (n:=1) (fun s21 H7=>Any fun _=>
 Pu (zb (some (some 1024)) x16 H7) fun x24=>
 Fc Tryz.prog 88 #[x24,s16.2.1] H7 fun x25 H8=>
 Pu (zo (some .bool) .neq x25 s21.1) fun x26=>
 Ite x26
 (Pu (zu Tryz.prog 254 [(0,(.int .u8 11)),(1,x21)]) fun x27=>
 Pu (zI Tryz.prog 113) fun x28=>Pu (zH (some x28) 1 [(0,x27)]) fun x29=>NewS x28.type 1 x29 H8 fun x30 H9=>
 Y2 (zI Tryz.prog 113) s16.1 x30 H9 fun x31 H10=>
 Pu (zo (some (.int .i64)) .add s16.2.1 (.int .i64 1)) fun x32=>
 K17 (x31,x32,()) H10)
 (Pu (zo (some (.int .i64)) .add s16.2.1 (.int .i64 1)) fun x33=>
 K17 (s16.1,x33,()) H8))
 (fun K33=>Pu (zc v0) fun x35=>
 Pu (zd (some 2) x35) fun x36=>
 Pu (zd (some 8) x36) fun x37=>
 Pu (zb (some none) x37 H6) fun x38=>
 Pu (zo (some (.int .i64)) .lss x21 x38) fun x39=>
 Ite x39
 (K33 ((.bool true),()) H6)
 (Pu (lenE Tryz.prog 106 x1) fun x40=>
 Pu (zo (some (.int .i64)) .lss x21 x40) fun x41=>
 Ite x41
 (Pu (zh (some (none,1)) x1 x21) fun x42=>
 Pu (zb (some none) x42 H6) fun x43=>
 Pu (zo (some (.int .i64)) .gtr x43 (.int .i64 0)) fun x44=>
 K33 (x44,()) H6)
 (K33 ((.bool false),()) H6))))
 (Pu (zo (some (.int .i64)) .add s1.2.1 (.int .i64 1)) fun x45=>
 K2 (s16.1,x45,()) H6)))
 (R s1.1 H2))
theorem fn119 (h:sh119 v0 v1 H R):Fc Tryz.prog 119 #[v0,v1] H R:=
 zs (fun f=>[127].contains f) (.seq .nil (.seq .nil (.seq .nil (.seq (.seq .nil (.loop [5,7] [15,16,17,18,19,20,21,24,25,26,27,28,29,30,31,32,8,9,33,34,37,38,39,40,10,41,42,43,44,45,46,47,48,49,50,51,52,53,54,55,56,57,58,59,60,11,61,62,63,64,65,66,67,68,69,70,35,36,22,23] (.seq .nil (.seq (.seq .nil (.seq .nil (.loop [5,9] [33,34,37,38,39,40,10,41,42,43,44,45,46,47,48,49,50,51,52,53,54,55,56,57,58,59,60,11,61,62,63,64,65,66,67,68,69,70,35,36] (.seq .nil (.seq (.seq .nil (.join [11] [41,42,43,44,45,46,47,48,49,50,51,52,53,54,55,56,57,58,59,60] .nil .nil)) .nil))))) .nil)))) .nil)))) Tryz.func119 (args:=[v0,v1]) (Eq.mp (by kernel_rfl:sh119 v0 v1 H R=_) h)
def sh126 (v0 v1:Value) (H:Hp) (R:Value→Hp→Prop):Prop:=
 Box 177 v1 H fun x1 H1=>
 zx (n:=3) ((.bool true),(.slice none 0 0),(.int .i64 0),()) H1 (fun K2 s1 H2=>Any fun _=>
 Pu (zd (some 1) x1) fun x4=>
 Pu (zd (some 2) x4) fun x5=>
 Pu (zb (some none) x5 H2) fun x6=>
 Pu (z9 (some (.int .u32)) (some (.int .i64)) x6) fun x7=>
 Pu (zo (some (.int .i64)) .quo x7 (.int .i64 16)) fun x8=>
 Pu (zo (some (.int .i64)) .lss s1.2.2.1 x8) fun x9=>
 Ite x9
 (Pu (zd (some 17) x1) fun x10=>
 Pu (zb (some none) x10 H2) fun x11=>
 Pu (zo (some (.int .i64)) .mul s1.2.2.1 (.int .i64 16)) fun x12=>
 Pu (zo (some (.int .i64)) .quo x12 (.int .i64 1024)) fun x13=>
 Fc Tryz.prog 159 #[x11,x13] H2 fun x14 H3=>
 Fc Tryz.prog 127 #[v0,x14] H3 fun x15 H4=>
 Pu (zD Tryz.prog 94) fun x16=>Box 94 x16 H4 fun x17 H5=>
 Pu (zj (some 1024) x17 x15 H5) fun H6=>
 Pu (zD Tryz.prog 57) fun x18=>Box 57 x18 H6 fun x19 H7=>
 zx (n:=1) ((.int .i64 0),()) H7 (fun K20 s19 H8=>Any fun _=>
 Pu (zo (some (.int .i64)) .lss s19.1 (.int .i64 16)) fun x22=>
 Ite x22
 (Pu (zo (some (.int .i64)) .mul s1.2.2.1 (.int .i64 16)) fun x23=>
 Pu (zo (some (.int .i64)) .rem x23 (.int .i64 1024)) fun x24=>
 Pu (zo (some (.int .i64)) .add x24 s19.1) fun x25=>
 Pu (zh (some (some 1024,1)) x17 x25) fun x26=>
 Pu (zb (some none) x26 H8) fun x27=>
 Pu (zh (some (some 16,1)) x19 s19.1) fun x28=>
 Pu (zj (some 1) x28 x27 H8) fun H9=>
 Pu (zo (some (.int .i64)) .add s19.1 (.int .i64 1)) fun x29=>
 K20 (x29,()) H9)
 (Pu (zb (some (some 16)) x19 H8) fun x30=>
 Fc Tryz.prog 160 #[x30] H8 fun x31 H10=>
 Pu (ze x31 0) fun x32=>
 Pu (ze x31 1) fun x33=>
 Pu (zD Tryz.prog 61) fun x34=>Box 61 x34 H10 fun x35 H11=>
 Pu (zj (some 2) x35 x32 H11) fun H12=>
 zS (n:=1) (fun s35 H13=>Any fun _=>
 Pu (zb (some (some 2)) x35 H13) fun x38=>
 Pu (zI Tryz.prog 38) fun x39=>Pu (zH (some x39) 1 [(0,x38)]) fun x40=>NewS x39.type 1 x40 H13 fun x41 H14=>
 Y2 (zI Tryz.prog 38) s1.2.1 x41 H14 fun x42 H15=>
 Pu (zo (some (.int .i64)) .add s1.2.2.1 (.int .i64 1)) fun x43=>
 K2 (s35.1,x42,x43,()) H15)
 (fun K43=>Ite s1.1
 (Pu (zo (some (.int .i64)) .eql x33 (.int .i64 0)) fun x45=>
 K43 (x45,()) H12)
 (K43 ((.bool false),()) H12)))))
 (R (.tuple #[s1.2.1,s1.1]) H2))
theorem fn126 (h:sh126 v0 v1 H R):Fc Tryz.prog 126 #[v0,v1] H R:=
 zs (fun f=>[127].contains f) (.seq .nil (.seq .nil (.seq .nil (.seq (.seq .nil (.loop [7,6,8] [14,15,16,17,18,19,20,23,24,25,26,27,28,29,30,9,10,11,31,32,35,36,37,38,39,40,41,42,43,33,34,45,46,44,47,48,12,13,49,50,51,52,53,54,55,56,57,21,22] (.seq .nil (.seq (.seq .nil (.seq .nil (.seq (.seq .nil (.loop [11] [31,32,35,36,37,38,39,40,41,42,43,33,34] .nil)) (.seq .nil (.join [7] [49,50,51,52,53] .nil .nil))))) .nil)))) .nil)))) Tryz.func126 (args:=[v0,v1]) (Eq.mp (by kernel_rfl:sh126 v0 v1 H R=_) h)
def sh164 (v0 v1:Value) (H:Hp) (R:Value→Hp→Prop):Prop:=
 zx (n:=1) ((.int .i64 0),()) H (fun K1 s0 H1=>Any fun _=>
 Pu (lenE Tryz.prog 170 v0) fun x3=>
 Pu (zo (some (.int .i64)) .lss s0.1 x3) fun x4=>
 Ite x4
 (Pu (zh (some (none,18)) v0 s0.1) fun x5=>
 Pu (zd (some 0) x5) fun x6=>
 Pu (zb (some none) x6 H1) fun x7=>
 Pu (zo (some (.int .i64)) .eql x7 v1) fun x8=>
 Ite x8
 (R (.bool true) H1)
 (Pu (zo (some (.int .i64)) .add s0.1 (.int .i64 1)) fun x9=>
 K1 (x9,()) H1))
 (R (.bool false) H1))
theorem fn164 (h:sh164 v0 v1 H R):Fc Tryz.prog 164 #[v0,v1] H R:=
 zs (fun f=>[127].contains f) (.seq .nil (.seq (.seq .nil (.loop [5] [6,7,8,9,12,13,14,15,16,17,18,4,10,11] .nil)) .nil)) Tryz.func164 (args:=[v0,v1]) (Eq.mp (by kernel_rfl:sh164 v0 v1 H R=_) h)
def sh153 (v0 v1 v2:Value) (H:Hp) (R:Value→Hp→Prop):Prop:=
 Box 177 v2 H fun x1 H1=>
 Pu (zb (some (some 18)) x1 H1) fun x2=>
 Fc Tryz.prog 126 #[v0,x2] H1 fun x3 H2=>
 Pu (ze x3 0) fun x4=>
 Pu (ze x3 1) fun x5=>
 Pu (unE .not x5) fun x6=>
 Ite x6
 (R (.bool true) H2)
 (Pu (zd (some 1) x1) fun x7=>
 Pu (zd (some 1) x7) fun x8=>
 Pu (zb (some none) x8 H2) fun x9=>
 Pu (zo (some (.int .u16)) .eql x9 (.int .u16 0)) fun x10=>
 Ite x10
 (R (.bool false) H2)
 (zS (n:=1) (fun s10 H3=>Any fun _=>
 Ite s10.1
 (R (.bool true) H3)
 (zx (n:=1) ((.int .i64 0),()) H3 (fun K13 s12 H4=>Any fun _=>
 Pu (lenE Tryz.prog 38 x4) fun x15=>
 Pu (zo (some (.int .i64)) .lss s12.1 x15) fun x16=>
 Ite x16
 (Pu (zh (some (none,2)) x4 s12.1) fun x17=>
 Pu (zd (some 0) x17) fun x18=>
 Pu (zb (some none) x18 H4) fun x19=>
 Pu (zo (some (.int .u16)) .eql x19 (.int .u16 0)) fun x20=>
 Ite x20
 (Pu (zo (some (.int .i64)) .add s12.1 (.int .i64 1)) fun x21=>
 K13 (x21,()) H4)
 (Pu (zh (some (none,2)) x4 s12.1) fun x22=>
 Pu (zd (some 0) x22) fun x23=>
 Pu (zb (some none) x23 H4) fun x24=>
 Pu (z9 (some (.int .u16)) (some (.int .i64)) x24) fun x25=>
 Fc Tryz.prog 164 #[v1,x25] H4 fun x26 H5=>
 zS (n:=1) (fun s26 H6=>Any fun _=>
 Ite s26.1
 (R (.bool true) H6)
 (zx (n:=1) ((.int .i64 0),()) H6 (fun K29 s28 H7=>Any fun _=>
 Pu (zo (some (.int .i64)) .lss s28.1 s12.1) fun x31=>
 Ite x31
 (Pu (zh (some (none,2)) x4 s28.1) fun x32=>
 Pu (zd (some 1) x32) fun x33=>
 Pu (zb (some none) x33 H7) fun x34=>
 Pu (zh (some (none,2)) x4 s12.1) fun x35=>
 Pu (zd (some 1) x35) fun x36=>
 Pu (zb (some none) x36 H7) fun x37=>
 Pu (zo (some .string) .eql x34 x37) fun x38=>
 Ite x38
 (R (.bool true) H7)
 (Pu (zo (some (.int .i64)) .add s28.1 (.int .i64 1)) fun x39=>
 K29 (x39,()) H7))
 (Pu (zo (some (.int .i64)) .add s12.1 (.int .i64 1)) fun x40=>
 K13 (x40,()) H7))))
 (fun K40=>Pu (unE .not x26) fun x42=>
 Ite x42
 (K40 ((.bool true),()) H5)
 (Pu (zo (some (.int .i64)) .gtr s12.1 (.int .i64 1)) fun x43=>
 Ite x43
 (Pu (zh (some (none,2)) x4 s12.1) fun x44=>
 Pu (zd (some 1) x44) fun x45=>
 Pu (zb (some none) x45 H5) fun x46=>
 Pu (zo (some .string) .eql x46 (.string ⟨#[46]⟩)) fun x47=>
 Ite x47
 (K40 ((.bool true),()) H5)
 (Pu (zh (some (none,2)) x4 s12.1) fun x48=>
 Pu (zd (some 1) x48) fun x49=>
 Pu (zb (some none) x49 H5) fun x50=>
 Pu (zo (some .string) .eql x50 (.string ⟨#[46,46]⟩)) fun x51=>
 K40 (x51,()) H5))
 (K40 ((.bool false),()) H5)))))
 (R (.bool false) H4))))
 (fun K51=>Pu (zh (some (none,2)) x4 (.int .i64 0)) fun x53=>
 Pu (zb (some (some 2)) x53 H2) fun x54=>
 Pu (zd (some 0) x1) fun x55=>
 Pu (zb (some none) x55 H2) fun x56=>
 Pu (z9 (some (.int .i64)) (some (.int .u16)) x56) fun x57=>
 Pu (zu Tryz.prog 61 [(0,x57),(1,(.string ⟨#[46]⟩))]) fun x58=>
 Pu (yH Tryz.prog 61 false .neq x54 x58 H2) fun x59=>
 Ite x59
 (K51 ((.bool true),()) H2)
 (Pu (zh (some (none,2)) x4 (.int .i64 1)) fun x60=>
 Pu (zd (some 1) x60) fun x61=>
 Pu (zb (some none) x61 H2) fun x62=>
 Pu (zo (some .string) .neq x62 (.string ⟨#[46,46]⟩)) fun x63=>
 K51 (x63,()) H2))))
theorem fn153 (h:sh153 v0 v1 v2 H R):Fc Tryz.prog 153 #[v0,v1,v2] H R:=
 zs (fun f=>[127].contains f) (.seq .nil (.seq .nil (.seq .nil (.seq .nil (.seq (.join [38] [24,25,26,27,28,29,30,31,32,33,34,35,36,37] .nil .nil) (.seq (.seq .nil (.loop [9] [39,40,41,42,45,46,47,48,49,50,51,52,53,54,55,56,57,58,10,59,60,61,62,63,64,65,66,67,68,69,70,71,72,73,74,75,76,77,78,79,80,6,11,81,82,83,86,87,88,89,90,91,92,93,94,95,96,84,85,43,44] (.seq .nil (.seq (.seq .nil (.seq .nil (.seq (.join [80] [59,60,61,62,63,64,65,66,67,68,69,70,71,72,73,74,75,76,77,78,79] .nil .nil) (.seq .nil (.loop [11] [81,82,83,86,87,88,89,90,91,92,93,94,95,96,6,84,85] .nil))))) .nil)))) .nil)))))) Tryz.func153 (args:=[v0,v1,v2]) (Eq.mp (by kernel_rfl:sh153 v0 v1 v2 H R=_) h)
def sh120 (v0 v1:Value) (H:Hp) (R:Value→Hp→Prop):Prop:=
 Pu (zu Tryz.prog 258 [(0,(.int .u8 13))]) fun x1=>
 Box 258 x1 H fun x2 H1=>
 zx (n:=1) ((.int .i64 0),()) H1 (fun K3 s2 H2=>Any fun _=>
 Pu (lenE Tryz.prog 170 v1) fun x5=>
 Pu (zo (some (.int .i64)) .lss s2.1 x5) fun x6=>
 Ite x6
 (Pu (zh (some (none,18)) v1 s2.1) fun x7=>
 Pu (zd (some 1) x7) fun x8=>
 Pu (zd (some 0) x8) fun x9=>
 Pu (zb (some none) x9 H2) fun x10=>
 Pu (zo (some (.int .u16)) .eql x10 (.int .u16 2)) fun x11=>
 Ite x11
 (Pu (zh (some (none,18)) v1 s2.1) fun x12=>
 Pu (zb (some (some 18)) x12 H2) fun x13=>
 Fc Tryz.prog 153 #[v0,v1,x13] H2 fun x14 H3=>
 Ite x14
 (Pu (zh (some (none,18)) v1 s2.1) fun x15=>
 Pu (zd (some 0) x15) fun x16=>
 Pu (zb (some none) x16 H3) fun x17=>
 Fc Tryz.prog 149 #[x2,x17] H3 fun x18 H4=>
 Pu (zo (some (.int .i64)) .add s2.1 (.int .i64 1)) fun x19=>
 K3 (x19,()) H4)
 (Pu (zo (some (.int .i64)) .add s2.1 (.int .i64 1)) fun x20=>
 K3 (x20,()) H3))
 (Pu (zo (some (.int .i64)) .add s2.1 (.int .i64 1)) fun x21=>
 K3 (x21,()) H2))
 (Pu (zc x2) fun x22=>
 Pu (zd (some 1) x22) fun x23=>
 Pu (zb (some none) x23 H2) fun x24=>
 R x24 H2))
theorem fn120 (h:sh120 v0 v1 H R):Fc Tryz.prog 120 #[v0,v1] H R:=
 zs (fun f=>[127].contains f) (.seq .nil (.seq .nil (.seq (.seq .nil (.loop [6] [10,11,12,13,16,17,18,19,20,21,22,23,24,25,26,27,28,29,7,30,31,32,33,34,35,36,37,14,15] .nil)) .nil))) Tryz.func120 (args:=[v0,v1]) (Eq.mp (by kernel_rfl:sh120 v0 v1 H R=_) h)
def sh121 (v0 v1:Value) (H:Hp) (R:Value→Hp→Prop):Prop:=
 zx (n:=2) ((.slice none 0 0),(.int .i64 0),()) H (fun K1 s0 H1=>Any fun _=>
 Pu (lenE Tryz.prog 170 v1) fun x3=>
 Pu (zo (some (.int .i64)) .lss s0.2.1 x3) fun x4=>
 Ite x4
 (zS (n:=1) (fun s4 H2=>Any fun _=>
 Ite s4.1
 (Pu (zo (some (.int .i64)) .add s0.2.1 (.int .i64 1)) fun x7=>
 K1 (s0.1,x7,()) H2)
 (Pu (zh (some (none,18)) v1 s0.2.1) fun x8=>
 Pu (zb (some (some 18)) x8 H2) fun x9=>
 Fc Tryz.prog 126 #[v0,x9] H2 fun x10 H3=>
 Pu (ze x10 0) fun x11=>
 Pu (ze x10 1) fun x12=>
 zx (n:=2) (s0.1,(.int .i64 2),()) H3 (fun K13 s12 H4=>Any fun _=>
 Pu (lenE Tryz.prog 38 x11) fun x15=>
 Pu (zo (some (.int .i64)) .lss s12.2.1 x15) fun x16=>
 Ite x16
 (Pu (zh (some (none,2)) x11 s12.2.1) fun x17=>
 Pu (zd (some 0) x17) fun x18=>
 Pu (zb (some none) x18 H4) fun x19=>
 Pu (zo (some (.int .u16)) .neq x19 (.int .u16 0)) fun x20=>
 Ite x20
 (Pu (zh (some (none,18)) v1 s0.2.1) fun x21=>
 Pu (zd (some 0) x21) fun x22=>
 Pu (zb (some none) x22 H4) fun x23=>
 Pu (zh (some (none,2)) x11 s12.2.1) fun x24=>
 Pu (zd (some 0) x24) fun x25=>
 Pu (zb (some none) x25 H4) fun x26=>
 Pu (z9 (some (.int .u16)) (some (.int .i64)) x26) fun x27=>
 Pu (zu Tryz.prog 266 [(0,x23),(1,x27)]) fun x28=>
 Pu (zI Tryz.prog 225) fun x29=>Pu (zH (some x29) 1 [(0,x28)]) fun x30=>NewS x29.type 1 x30 H4 fun x31 H5=>
 Y2 (zI Tryz.prog 225) s12.1 x31 H5 fun x32 H6=>
 Pu (zo (some (.int .i64)) .add s12.2.1 (.int .i64 1)) fun x33=>
 K13 (x32,x33,()) H6)
 (Pu (zo (some (.int .i64)) .add s12.2.1 (.int .i64 1)) fun x34=>
 K13 (s12.1,x34,()) H4))
 (Pu (zo (some (.int .i64)) .add s0.2.1 (.int .i64 1)) fun x35=>
 K1 (s12.1,x35,()) H4))))
 (fun K35=>Pu (zh (some (none,18)) v1 s0.2.1) fun x37=>
 Pu (zd (some 1) x37) fun x38=>
 Pu (zd (some 0) x38) fun x39=>
 Pu (zb (some none) x39 H1) fun x40=>
 Pu (zo (some (.int .u16)) .neq x40 (.int .u16 2)) fun x41=>
 Ite x41
 (K35 ((.bool true),()) H1)
 (Pu (zh (some (none,18)) v1 s0.2.1) fun x42=>
 Pu (zd (some 1) x42) fun x43=>
 Pu (zd (some 1) x43) fun x44=>
 Pu (zb (some none) x44 H1) fun x45=>
 Pu (zo (some (.int .u16)) .eql x45 (.int .u16 0)) fun x46=>
 K35 (x46,()) H1)))
 (R s0.1 H1))
theorem fn121 (h:sh121 v0 v1 H R):Fc Tryz.prog 121 #[v0,v1] H R:=
 zs (fun f=>[127].contains f) (.seq .nil (.seq .nil (.seq (.seq .nil (.loop [5,6] [10,11,12,13,16,17,18,19,20,21,22,23,24,25,26,27,28,29,30,31,33,34,35,36,37,38,32,39,40,7,8,9,41,42,43,44,47,48,49,50,51,52,53,54,55,56,57,58,59,60,61,62,63,64,65,66,67,45,46,14,15] (.seq .nil (.seq (.seq (.join [31] [16,17,18,19,20,21,22,23,24,25,26,27,28,29,30] .nil .nil) (.seq .nil (.seq .nil (.loop [5,9] [41,42,43,44,47,48,49,50,51,52,53,54,55,56,57,58,59,60,61,62,63,64,65,66,67,45,46] .nil)))) .nil)))) .nil))) Tryz.func121 (args:=[v0,v1]) (Eq.mp (by kernel_rfl:sh121 v0 v1 H R=_) h)
def sh155 (v0 v1:Value) (H:Hp) (R:Value→Hp→Prop):Prop:=
 zx (n:=3) ((.int .i64 0),(.int .i64 0),(.int .i64 0),()) H (fun K1 s0 H1=>Any fun _=>
 Pu (lenE Tryz.prog 225 v0) fun x3=>
 Pu (zo (some (.int .i64)) .lss s0.2.2.1 x3) fun x4=>
 Ite x4
 (Pu (zh (some (none,2)) v0 s0.2.2.1) fun x5=>
 Pu (zd (some 1) x5) fun x6=>
 Pu (zb (some none) x6 H1) fun x7=>
 Pu (zo (some (.int .i64)) .eql x7 v1) fun x8=>
 Ite x8
 (Pu (zh (some (none,2)) v0 s0.2.2.1) fun x9=>
 Pu (zd (some 0) x9) fun x10=>
 Pu (zb (some none) x10 H1) fun x11=>
 Pu (zo (some (.int .i64)) .add s0.2.1 (.int .i64 1)) fun x12=>
 Pu (zo (some (.int .i64)) .add s0.2.2.1 (.int .i64 1)) fun x13=>
 K1 (x11,x12,x13,()) H1)
 (Pu (zo (some (.int .i64)) .add s0.2.2.1 (.int .i64 1)) fun x14=>
 K1 (s0.1,s0.2.1,x14,()) H1))
 (R (.tuple #[s0.1,s0.2.1]) H1))
theorem fn155 (h:sh155 v0 v1 H R):Fc Tryz.prog 155 #[v0,v1] H R:=
 zs (fun f=>[127].contains f) (.seq .nil (.seq .nil (.seq .nil (.seq (.seq .nil (.loop [6,7,8] [9,10,11,12,15,16,17,18,19,20,21,22,23,24,25,26,27,28,13,14] .nil)) .nil)))) Tryz.func155 (args:=[v0,v1]) (Eq.mp (by kernel_rfl:sh155 v0 v1 H R=_) h)
def sh154 (v0 v1:Value) (H:Hp) (R:Value→Hp→Prop):Prop:=
 Pu (zc v0) fun x1=>
 Pu (zd (some 2) x1) fun x2=>
 Pu (zd (some 0) x2) fun x3=>
 Pu (zd (some 2) x3) fun x4=>
 Pu (zb (some none) x4 H) fun x5=>
 Pu (zo (some (.int .i64)) .add x5 (.int .i64 1)) fun x6=>
 Pu (YT (zI Tryz.prog 119) x6 x6 H) fun x7=>
 Pu (zh (some (none,1)) x7.1 (.int .i64 1)) fun x8=>
 Pu (zj (some 1) x8 (.bool true) x7.2) fun H1=>
 zx (n:=1) ((.bool true),()) H1 (fun K9 s8 H2=>Any fun _=>
 Ite s8.1
 (zx (n:=2) ((.bool false),(.int .i64 0),()) H2 (fun K11 s10 H3=>Any fun _=>
 Pu (lenE Tryz.prog 225 v1) fun x13=>
 Pu (zo (some (.int .i64)) .lss s10.2.1 x13) fun x14=>
 Ite x14
 (zS (n:=1) (fun s14 H4=>Any fun _=>
 Ite s14.1
 (Pu (zh (some (none,2)) v1 s10.2.1) fun x17=>
 Pu (zd (some 1) x17) fun x18=>
 Pu (zb (some none) x18 H4) fun x19=>
 Pu (zh (some (none,1)) x7.1 x19) fun x20=>
 Pu (zj (some 1) x20 (.bool true) H4) fun H5=>
 Pu (zo (some (.int .i64)) .add s10.2.1 (.int .i64 1)) fun x21=>
 K11 ((.bool true),x21,()) H5)
 (Pu (zo (some (.int .i64)) .add s10.2.1 (.int .i64 1)) fun x22=>
 K11 (s10.1,x22,()) H4))
 (fun K22=>Pu (zh (some (none,2)) v1 s10.2.1) fun x24=>
 Pu (zd (some 0) x24) fun x25=>
 Pu (zb (some none) x25 H3) fun x26=>
 Pu (zh (some (none,1)) x7.1 x26) fun x27=>
 Pu (zb (some none) x27 H3) fun x28=>
 Ite x28
 (Pu (zh (some (none,2)) v1 s10.2.1) fun x29=>
 Pu (zd (some 1) x29) fun x30=>
 Pu (zb (some none) x30 H3) fun x31=>
 Pu (zh (some (none,1)) x7.1 x31) fun x32=>
 Pu (zb (some none) x32 H3) fun x33=>
 Pu (unE .not x33) fun x34=>
 K22 (x34,()) H3)
 (K22 ((.bool false),()) H3)))
 (K9 (s10.1,()) H3)))
 (R x7.1 H2))
theorem fn154 (h:sh154 v0 v1 H R):Fc Tryz.prog 154 #[v0,v1] H R:=
 zs (fun f=>[127].contains f) (.seq .nil (.seq .nil (.seq .nil (.seq .nil (.seq (.loop [6] [18,7,19,20,21,22,25,26,27,28,29,30,31,32,33,34,35,36,37,38,39,40,41,42,43,44,45,46,47,48,49,50,23,24] (.seq .nil (.seq .nil (.seq .nil (.loop [6,7] [19,20,21,22,25,26,27,28,29,30,31,32,33,34,35,36,37,38,39,40,41,42,43,44,45,46,47,48,49,50,23,24] (.seq .nil (.seq (.join [43] [25,26,27,28,29,30,31,32,33,34,35,36,37,38,39,40,41,42] .nil .nil) .nil))))))) .nil))))) Tryz.func154 (args:=[v0,v1]) (Eq.mp (by kernel_rfl:sh154 v0 v1 H R=_) h)
def sh122 (v0 v1 v2:Value) (H:Hp) (R:Value→Hp→Prop):Prop:=
 Pu (zu Tryz.prog 258 [(0,(.int .u8 14))]) fun x1=>
 Box 258 x1 H fun x2 H1=>
 Fc Tryz.prog 154 #[v0,v2] H1 fun x3 H2=>
 zx (n:=1) ((.int .i64 0),()) H2 (fun K4 s3 H3=>Any fun _=>
 Pu (lenE Tryz.prog 170 v1) fun x6=>
 Pu (zo (some (.int .i64)) .lss s3.1 x6) fun x7=>
 Ite x7
 (Pu (zh (some (none,18)) v1 s3.1) fun x8=>
 Pu (zb (some (some 18)) x8 H3) fun x9=>
 Pu (zD Tryz.prog 177) fun x10=>Box 177 x10 H3 fun x11 H4=>
 Pu (zj (some 18) x11 x9 H4) fun H5=>
 zS (n:=1) (fun s11 H6=>Any fun _=>
 Ite s11.1
 (Pu (zo (some (.int .i64)) .add s3.1 (.int .i64 1)) fun x14=>
 K4 (x14,()) H6)
 (Pu (zb (some (some 18)) x11 H6) fun x15=>
 Fc Tryz.prog 126 #[v0,x15] H6 fun x16 H7=>
 Pu (ze x16 0) fun x17=>
 Pu (ze x16 1) fun x18=>
 Pu (zd (some 0) x11) fun x19=>
 Pu (zb (some none) x19 H7) fun x20=>
 Fc Tryz.prog 155 #[v2,x20] H7 fun x21 H8=>
 Pu (ze x21 0) fun x22=>
 Pu (ze x21 1) fun x23=>
 Pu (zd (some 0) x11) fun x24=>
 Pu (zb (some none) x24 H8) fun x25=>
 Pu (zo (some (.int .i64)) .eql x25 (.int .i64 1)) fun x26=>
 Ite x26
 (zS (n:=1) (fun s26 H9=>Any fun _=>
 Ite s26.1
 (Fc Tryz.prog 149 #[x2,(.int .i64 1)] H9 fun x29 H10=>
 Pu (zo (some (.int .i64)) .add s3.1 (.int .i64 1)) fun x30=>
 K4 (x30,()) H10)
 (Pu (zo (some (.int .i64)) .add s3.1 (.int .i64 1)) fun x31=>
 K4 (x31,()) H9))
 (fun K31=>Pu (zo (some (.int .i64)) .neq x23 (.int .i64 0)) fun x33=>
 Ite x33
 (K31 ((.bool true),()) H8)
 (Pu (zh (some (none,2)) x17 (.int .i64 1)) fun x34=>
 Pu (zd (some 0) x34) fun x35=>
 Pu (zb (some none) x35 H8) fun x36=>
 Pu (zo (some (.int .u16)) .neq x36 (.int .u16 1)) fun x37=>
 K31 (x37,()) H8)))
 (zS (n:=1) (fun s37 H11=>Any fun _=>
 Ite s37.1
 (Pu (zd (some 0) x11) fun x40=>
 Pu (zb (some none) x40 H11) fun x41=>
 Fc Tryz.prog 149 #[x2,x41] H11 fun x42 H12=>
 Pu (zo (some (.int .i64)) .add s3.1 (.int .i64 1)) fun x43=>
 K4 (x43,()) H12)
 (Pu (zo (some (.int .i64)) .add s3.1 (.int .i64 1)) fun x44=>
 K4 (x44,()) H11))
 (fun K44=>Pu (zo (some (.int .i64)) .neq x23 (.int .i64 1)) fun x46=>
 Ite x46
 (K44 ((.bool true),()) H8)
 (Pu (zh (some (none,2)) x17 (.int .i64 1)) fun x47=>
 Pu (zd (some 0) x47) fun x48=>
 Pu (zb (some none) x48 H8) fun x49=>
 Pu (z9 (some (.int .u16)) (some (.int .i64)) x49) fun x50=>
 Pu (zo (some (.int .i64)) .neq x50 x22) fun x51=>
 Ite x51
 (K44 ((.bool true),()) H8)
 (Pu (zd (some 0) x11) fun x52=>
 Pu (zb (some none) x52 H8) fun x53=>
 Pu (zh (some (none,1)) x3 x53) fun x54=>
 Pu (zb (some none) x54 H8) fun x55=>
 Pu (unE .not x55) fun x56=>
 K44 (x56,()) H8))))))
 (fun K56=>Pu (zd (some 1) x11) fun x58=>
 Pu (zd (some 0) x58) fun x59=>
 Pu (zb (some none) x59 H5) fun x60=>
 Pu (zo (some (.int .u16)) .neq x60 (.int .u16 2)) fun x61=>
 Ite x61
 (K56 ((.bool true),()) H5)
 (Pu (zd (some 1) x11) fun x62=>
 Pu (zd (some 1) x62) fun x63=>
 Pu (zb (some none) x63 H5) fun x64=>
 Pu (zo (some (.int .u16)) .eql x64 (.int .u16 0)) fun x65=>
 K56 (x65,()) H5)))
 (Pu (zc x2) fun x66=>
 Pu (zd (some 1) x66) fun x67=>
 Pu (zb (some none) x67 H3) fun x68=>
 R x68 H3))
theorem fn122 (h:sh122 v0 v1 v2 H R):Fc Tryz.prog 122 #[v0,v1,v2] H R:=
 zs (fun f=>[127].contains f) (.seq .nil (.seq .nil (.seq .nil (.seq (.seq .nil (.loop [9] [20,21,22,23,26,27,28,29,10,30,31,32,33,34,35,36,37,38,39,41,42,43,40,44,45,11,12,47,48,49,50,46,51,52,13,14,53,54,55,56,57,58,59,60,61,62,63,64,65,66,67,68,69,70,71,72,73,74,75,76,77,78,79,80,81,82,83,84,85,86,87,88,89,24,25] (.seq .nil (.seq (.seq .nil (.seq (.join [39] [30,31,32,33,34,35,36,37,38] .nil .nil) (.seq .nil (.seq .nil (.seq (.seq .nil (.cond (.seq (.join [64] [56,57,58,59,60,61,62,63] .nil .nil) .nil) .nil)) (.join [85] [67,68,69,70,71,72,73,74,75,76,77,78,79,80,81,82,83,84] .nil .nil)))))) .nil)))) .nil)))) Tryz.func122 (args:=[v0,v1,v2]) (Eq.mp (by kernel_rfl:sh122 v0 v1 v2 H R=_) h)
def sh123 (v0 v1 v2:Value) (H:Hp) (R:Value→Hp→Prop):Prop:=
 Pu (zu Tryz.prog 258 [(0,(.int .u8 15))]) fun x1=>
 Box 258 x1 H fun x2 H1=>
 zx (n:=1) ((.int .i64 0),()) H1 (fun K3 s2 H2=>Any fun _=>
 Pu (lenE Tryz.prog 170 v1) fun x5=>
 Pu (zo (some (.int .i64)) .lss s2.1 x5) fun x6=>
 Ite x6
 (Pu (zh (some (none,18)) v1 s2.1) fun x7=>
 Pu (zb (some (some 18)) x7 H2) fun x8=>
 Pu (zD Tryz.prog 177) fun x9=>Box 177 x9 H2 fun x10 H3=>
 Pu (zj (some 18) x10 x8 H3) fun H4=>
 Pu (zd (some 0) x10) fun x11=>
 Pu (zb (some none) x11 H4) fun x12=>
 Fc Tryz.prog 155 #[v2,x12] H4 fun x13 H5=>
 Pu (ze x13 0) fun x14=>
 Pu (ze x13 1) fun x15=>
 zS (n:=1) (fun s15 H6=>Any fun _=>
 Pu (zd (some 1) x10) fun x18=>
 Pu (zd (some 1) x18) fun x19=>
 Pu (zb (some none) x19 H6) fun x20=>
 Pu (z9 (some (.int .u16)) (some (.int .i64)) x20) fun x21=>
 Pu (zo (some (.int .i64)) .neq x21 s15.1) fun x22=>
 Ite x22
 (Pu (zd (some 0) x10) fun x23=>
 Pu (zb (some none) x23 H6) fun x24=>
 Fc Tryz.prog 149 #[x2,x24] H6 fun x25 H7=>
 Pu (zo (some (.int .i64)) .add s2.1 (.int .i64 1)) fun x26=>
 K3 (x26,()) H7)
 (Pu (zo (some (.int .i64)) .add s2.1 (.int .i64 1)) fun x27=>
 K3 (x27,()) H6))
 (fun K27=>zS (n:=1) (fun s28 H8=>Any fun _=>
 Ite s28.1
 (zx (n:=2) ((.int .i64 2),(.int .i64 0),()) H8 (fun K31 s30 H9=>Any fun _=>
 Pu (lenE Tryz.prog 225 v2) fun x33=>
 Pu (zo (some (.int .i64)) .lss s30.2.1 x33) fun x34=>
 Ite x34
 (zS (n:=1) (fun s34 H10=>Any fun _=>
 Ite s34.1
 (Pu (zo (some (.int .i64)) .add s30.1 (.int .i64 1)) fun x37=>
 Pu (zo (some (.int .i64)) .add s30.2.1 (.int .i64 1)) fun x38=>
 K31 (x37,x38,()) H10)
 (Pu (zo (some (.int .i64)) .add s30.2.1 (.int .i64 1)) fun x39=>
 K31 (s30.1,x39,()) H10))
 (fun K39=>Pu (zh (some (none,2)) v2 s30.2.1) fun x41=>
 Pu (zd (some 0) x41) fun x42=>
 Pu (zb (some none) x42 H9) fun x43=>
 Pu (zd (some 0) x10) fun x44=>
 Pu (zb (some none) x44 H9) fun x45=>
 Pu (zo (some (.int .i64)) .eql x43 x45) fun x46=>
 Ite x46
 (Pu (zh (some (none,2)) v2 s30.2.1) fun x47=>
 Pu (zd (some 1) x47) fun x48=>
 Pu (zb (some none) x48 H9) fun x49=>
 Fc Tryz.prog 156 #[v1,x49] H9 fun x50 H11=>
 Pu (zo (some (.int .u16)) .eql x50 (.int .u16 2)) fun x51=>
 K39 (x51,()) H11)
 (K39 ((.bool false),()) H9)))
 (K27 (s30.1,()) H9)))
 (K27 (x15,()) H8))
 (fun K51=>Pu (zd (some 1) x10) fun x53=>
 Pu (zd (some 0) x53) fun x54=>
 Pu (zb (some none) x54 H5) fun x55=>
 Pu (zo (some (.int .u16)) .eql x55 (.int .u16 2)) fun x56=>
 Ite x56
 (Pu (zd (some 1) x10) fun x57=>
 Pu (zd (some 1) x57) fun x58=>
 Pu (zb (some none) x58 H5) fun x59=>
 Pu (zo (some (.int .u16)) .neq x59 (.int .u16 0)) fun x60=>
 K51 (x60,()) H5)
 (K51 ((.bool false),()) H5))))
 (Pu (zc x2) fun x61=>
 Pu (zd (some 1) x61) fun x62=>
 Pu (zb (some none) x62 H2) fun x63=>
 R x63 H2))
theorem fn123 (h:sh123 v0 v1 v2 H R):Fc Tryz.prog 123 #[v0,v1,v2] H R:=
 zs (fun f=>[127].contains f) (.seq .nil (.seq .nil (.seq (.seq .nil (.loop [8] [15,16,17,18,21,22,23,24,9,26,27,28,29,25,30,31,10,11,32,33,34,35,36,37,38,39,40,41,12,42,43,44,45,48,49,50,51,52,53,54,55,56,57,58,59,60,61,62,63,64,65,66,67,46,47,68,69,70,71,72,73,74,75,76,77,19,20] (.seq .nil (.seq (.seq .nil (.seq .nil (.join [11] [32,33,34,35,36,37,38,39,40,41,12,42,43,44,45,48,49,50,51,52,53,54,55,56,57,58,59,60,61,62,63,64,65,66,67,46,47] (.join [41] [32,33,34,35,36,37,38,39,40] .nil (.cond (.seq .nil (.seq .nil (.loop [11,12] [42,43,44,45,48,49,50,51,52,53,54,55,56,57,58,59,60,61,62,63,64,65,66,67,46,47] (.seq .nil (.seq (.join [65] [48,49,50,51,52,53,54,55,56,57,58,59,60,61,62,63,64] .nil .nil) .nil))))) .nil)) .nil))) .nil)))) .nil))) Tryz.func123 (args:=[v0,v1,v2]) (Eq.mp (by kernel_rfl:sh123 v0 v1 v2 H R=_) h)
def sh156 (v0 v1:Value) (H:Hp) (R:Value→Hp→Prop):Prop:=
 zx (n:=1) ((.int .i64 0),()) H (fun K1 s0 H1=>Any fun _=>
 Pu (lenE Tryz.prog 170 v0) fun x3=>
 Pu (zo (some (.int .i64)) .lss s0.1 x3) fun x4=>
 Ite x4
 (Pu (zh (some (none,18)) v0 s0.1) fun x5=>
 Pu (zd (some 0) x5) fun x6=>
 Pu (zb (some none) x6 H1) fun x7=>
 Pu (zo (some (.int .i64)) .eql x7 v1) fun x8=>
 Ite x8
 (Pu (zh (some (none,18)) v0 s0.1) fun x9=>
 Pu (zd (some 1) x9) fun x10=>
 Pu (zd (some 0) x10) fun x11=>
 Pu (zb (some none) x11 H1) fun x12=>
 R x12 H1)
 (Pu (zo (some (.int .i64)) .add s0.1 (.int .i64 1)) fun x13=>
 K1 (x13,()) H1))
 (R (.int .u16 0) H1))
theorem fn156 (h:sh156 v0 v1 H R):Fc Tryz.prog 156 #[v0,v1] H R:=
 zs (fun f=>[127].contains f) (.seq .nil (.seq (.seq .nil (.loop [5] [6,7,8,9,12,13,14,15,16,17,18,19,20,21,22,23,24,4,10,11] .nil)) .nil)) Tryz.func156 (args:=[v0,v1]) (Eq.mp (by kernel_rfl:sh156 v0 v1 H R=_) h)
def sh81 (v0 v1:Value) (H:Hp) (R:Value→Hp→Prop):Prop:=
 Box 177 v1 H fun x1 H1=>
 Pu (zD Tryz.prog 40) fun x2=>Box 40 x2 H1 fun x3 H2=>
 Pu (zd (some 0) x1) fun x4=>
 Pu (zb (some none) x4 H2) fun x5=>
 Pu (zd (some 1) x1) fun x6=>
 Pu (zd (some 0) x6) fun x7=>
 Pu (zb (some none) x7 H2) fun x8=>
 Pu (zd (some 1) x1) fun x9=>
 Pu (zd (some 1) x9) fun x10=>
 Pu (zb (some none) x10 H2) fun x11=>
 Pu (z9 (some (.int .u16)) (some (.int .i64)) x11) fun x12=>
 Pu (zd (some 1) x1) fun x13=>
 Pu (zd (some 2) x13) fun x14=>
 Pu (zb (some none) x14 H2) fun x15=>
 Pu (z9 (some (.int .u32)) (some (.int .i64)) x15) fun x16=>
 Pu (zd (some 1) x1) fun x17=>
 Pu (zd (some 3) x17) fun x18=>
 Pu (zb (some none) x18 H2) fun x19=>
 Pu (z9 (some (.int .u32)) (some (.int .i64)) x19) fun x20=>
 Pu (zu Tryz.prog 40 [(0,x5),(1,x8),(2,x12),(3,x16),(4,x20)]) fun x21=>
 Pu (zD Tryz.prog 40) fun x22=>Box 40 x22 H2 fun x23 H3=>
 Pu (zj (some 7) x23 x21 H3) fun H4=>
 Pu (zd (some 1) x23) fun x24=>
 Pu (zb (some none) x24 H4) fun x25=>
 Pu (zo (some (.int .u16)) .eql x25 (.int .u16 2)) fun x26=>
 Ite x26
 (Pu (zb (some (some 18)) x1 H4) fun x27=>
 Fc Tryz.prog 126 #[v0,x27] H4 fun x28 H5=>
 Pu (ze x28 0) fun x29=>
 Pu (ze x28 1) fun x30=>
 Pu (zd (some 6) x23) fun x31=>
 Pu (zj (some 1) x31 x29 H5) fun H6=>
 Pu (zb (some (some 7)) x23 H6) fun x32=>
 Pu (zj (some 7) x3 x32 H6) fun H7=>
 Pu (zb (some (some 7)) x3 H7) fun x33=>
 R x33 H7)
 (zx (n:=1) ((.int .i64 0),()) H4 (fun K34 s33 H8=>Any fun _=>
 Pu (zd (some 17) x1) fun x36=>
 Pu (zb (some none) x36 H8) fun x37=>
 Pu (lenE Tryz.prog 175 x37) fun x38=>
 Pu (zo (some (.int .i64)) .lss s33.1 x38) fun x39=>
 Ite x39
 (Pu (zd (some 17) x1) fun x40=>
 Pu (zb (some none) x40 H8) fun x41=>
 Pu (zh (some (none,2)) x41 s33.1) fun x42=>
 Pu (zd (some 0) x42) fun x43=>
 Pu (zb (some none) x43 H8) fun x44=>
 Pu (zo (some (.int .i64)) .geq x44 (.int .i64 0)) fun x45=>
 Ite x45
 (Pu (zd (some 5) x23) fun x46=>
 Pu (zb (some none) x46 H8) fun x47=>
 Pu (zd (some 17) x1) fun x48=>
 Pu (zb (some none) x48 H8) fun x49=>
 Pu (zh (some (none,2)) x49 s33.1) fun x50=>
 Pu (zd (some 0) x50) fun x51=>
 Pu (zb (some none) x51 H8) fun x52=>
 Pu (zd (some 17) x1) fun x53=>
 Pu (zb (some none) x53 H8) fun x54=>
 Pu (zh (some (none,2)) x54 s33.1) fun x55=>
 Pu (zd (some 1) x55) fun x56=>
 Pu (zb (some none) x56 H8) fun x57=>
 ∃ x58,QC true Tryz.prog 127 #[v0,x57] H8 x58∧(
 Pu (zu Tryz.prog 98 [(0,x52),(1,x58)]) fun x59=>
 ForX true H8 fun H9=>
 Pu (zI Tryz.prog 37) fun x60=>Pu (zH (some x60) 1 [(0,x59)]) fun x61=>NewS x60.type 1 x61 H9 fun x62 H10=>
 ForX true H10 fun H11=>
 Y2 (zI Tryz.prog 37) x47 x62 H11 fun x63 H12=>
 Pu (zd (some 5) x23) fun x64=>
 ForX true H12 fun H13=>
 Pu (zj (some 1) x64 x63 H13) fun H14=>
 ForX true H14 fun H15=>
 Pu (zo (some (.int .i64)) .add s33.1 (.int .i64 1)) fun x65=>
 K34 (x65,()) H15))
 (Pu (zo (some (.int .i64)) .add s33.1 (.int .i64 1)) fun x66=>
 K34 (x66,()) H8))
 (Pu (zb (some (some 7)) x23 H8) fun x67=>
 Pu (zj (some 7) x3 x67 H8) fun H16=>
 Pu (zb (some (some 7)) x3 H16) fun x68=>
 R x68 H16)))
theorem fn81 (h:sh81 v0 v1 H R):Fc Tryz.prog 81 #[v0,v1] H R:=
 zs (fun f=>[127].contains f) (.seq .nil (.seq .nil (.seq .nil (.seq (.seq .nil (.loop [6] [36,37,38,39,40,43,44,45,46,47,48,49,50,51,52,53,54,55,56,57,58,59,60,61,62,63,64,65,66,67,68,69,41,42] .nil)) .nil)))) Tryz.func81 (args:=[v0,v1]) (Eq.mp (by kernel_rfl:sh81 v0 v1 H R=_) h)
def sh79 (v0:Value) (H:Hp) (R:Value→Hp→Prop):Prop:=
 Fc Tryz.prog 115 #[v0] H fun x1 H1=>
 Pu (lenE Tryz.prog 113 x1) fun x2=>
 Pu (zo (some (.int .i64)) .gtr x2 (.int .i64 0)) fun x3=>
 Ite x3
 (R x1 H1)
 (Fc Tryz.prog 80 #[v0] H1 fun x4 H2=>
 Fc Tryz.prog 116 #[v0,x4] H2 fun x5 H3=>
 Pu (lenE Tryz.prog 113 x5) fun x6=>
 Pu (zo (some (.int .i64)) .gtr x6 (.int .i64 0)) fun x7=>
 Ite x7
 (R x5 H3)
 (Fc Tryz.prog 117 #[v0,x4] H3 fun x8 H4=>
 Pu (lenE Tryz.prog 113 x8) fun x9=>
 Pu (zo (some (.int .i64)) .gtr x9 (.int .i64 0)) fun x10=>
 Ite x10
 (R x8 H4)
 (Pu (zI Tryz.prog 223) fun x11=>Pu (zH (some x11) 4 [(0,(.int .u8 7)),(1,(.int .u8 8)),(2,(.int .u8 9)),(3,(.int .u8 10))]) fun x12=>NewS x11.type 4 x12 H4 fun x13 H5=>
 zx (n:=1) ((.int .i64 0),()) H5 (fun K14 s13 H6=>Any fun _=>
 Pu (lenE Tryz.prog 223 x13) fun x16=>
 Pu (zo (some (.int .i64)) .lss s13.1 x16) fun x17=>
 Ite x17
 (Pu (zh (some (none,1)) x13 s13.1) fun x18=>
 Pu (zb (some none) x18 H6) fun x19=>
 Fc Tryz.prog 118 #[v0,x4,x19] H6 fun x20 H7=>
 Pu (lenE Tryz.prog 113 x20) fun x21=>
 Pu (zo (some (.int .i64)) .gtr x21 (.int .i64 0)) fun x22=>
 Ite x22
 (R x20 H7)
 (Pu (zo (some (.int .i64)) .add s13.1 (.int .i64 1)) fun x23=>
 K14 (x23,()) H7))
 (Fc Tryz.prog 119 #[v0,x4] H6 fun x24 H8=>
 Pu (lenE Tryz.prog 113 x24) fun x25=>
 Pu (zo (some (.int .i64)) .gtr x25 (.int .i64 0)) fun x26=>
 Ite x26
 (R x24 H8)
 (Fc Tryz.prog 118 #[v0,x4,(.int .u8 12)] H8 fun x27 H9=>
 Pu (lenE Tryz.prog 113 x27) fun x28=>
 Pu (zo (some (.int .i64)) .gtr x28 (.int .i64 0)) fun x29=>
 Ite x29
 (R x27 H9)
 (Fc Tryz.prog 120 #[v0,x4] H9 fun x30 H10=>
 Pu (lenE Tryz.prog 113 x30) fun x31=>
 Pu (zo (some (.int .i64)) .gtr x31 (.int .i64 0)) fun x32=>
 Ite x32
 (R x30 H10)
 (Fc Tryz.prog 121 #[v0,x4] H10 fun x33 H11=>
 Fc Tryz.prog 122 #[v0,x4,x33] H11 fun x34 H12=>
 Pu (lenE Tryz.prog 113 x34) fun x35=>
 Pu (zo (some (.int .i64)) .gtr x35 (.int .i64 0)) fun x36=>
 Ite x36
 (R x34 H12)
 (Fc Tryz.prog 123 #[v0,x4,x33] H12 fun x37 H13=>
 R x37 H13)))))))))
theorem fn79 (h:sh79 v0 H R):Fc Tryz.prog 79 #[v0] H R:=
 zs (fun f=>[127].contains f) (.seq .nil (.seq .nil (.seq .nil (.seq .nil (.seq .nil (.seq .nil (.seq .nil (.seq .nil (.seq .nil (.seq (.seq .nil (.loop [6] [31,32,33,34,37,38,39,40,41,42,43,3,44,45,46,47,2,35,36] .nil)) .nil)))))))))) Tryz.func79 (args:=[v0]) (Eq.mp (by kernel_rfl:sh79 v0 H R=_) h)
def sh46 (v0:Value) (H:Hp) (R:Value→Hp→Prop):Prop:=
 Box 71 v0 H fun x1 H1=>
 Pu (zD Tryz.prog 26) fun x2=>Box 26 x2 H1 fun x3 H2=>
 Pu (zb (some (some 2)) x1 H2) fun x4=>
 Fc Tryz.prog 78 #[x4] H2 fun x5 H3=>
 Pu (ze x5 0) fun x6=>
 Pu (ze x5 1) fun x7=>
 Pu (yH Tryz.prog 166 true .eql x6 (.pointer none) H3) fun x8=>
 Ite x8
 (Pu (zu Tryz.prog 26 []) fun x9=>
 Pu (zj (some 3) x3 x9 H3) fun H4=>
 Pu (zb (some (some 3)) x3 H4) fun x10=>
 R (.tuple #[x10,x7]) H4)
 (Fc Tryz.prog 79 #[x6] H3 fun x11 H5=>
 Pu (lenE Tryz.prog 113 x11) fun x12=>
 Pu (zo (some (.int .i64)) .gtr x12 (.int .i64 0)) fun x13=>
 Ite x13
 (Pu (zu Tryz.prog 26 []) fun x14=>
 Pu (zj (some 3) x3 x14 H5) fun H6=>
 Pu (zb (some (some 3)) x3 H6) fun x15=>
 R (.tuple #[x15,x11]) H6)
 (Fc Tryz.prog 80 #[x6] H5 fun x16 H7=>
 Pu (zc x6) fun x17=>
 Pu (zd (some 2) x17) fun x18=>
 Pu (zd (some 0) x18) fun x19=>
 Pu (zd (some 0) x19) fun x20=>
 Pu (zb (some none) x20 H7) fun x21=>
 Pu (zc x6) fun x22=>
 Pu (zd (some 2) x22) fun x23=>
 Pu (zd (some 8) x23) fun x24=>
 Pu (zb (some none) x24 H7) fun x25=>
 Pu (zo (some (.int .i64)) .sub x21 x25) fun x26=>
 Pu (zc x6) fun x27=>
 Pu (zd (some 2) x27) fun x28=>
 Pu (zd (some 0) x28) fun x29=>
 Pu (zd (some 2) x29) fun x30=>
 Pu (zb (some none) x30 H7) fun x31=>
 Pu (lenE Tryz.prog 170 x16) fun x32=>
 Pu (zo (some (.int .i64)) .sub x31 x32) fun x33=>
 Pu (zu Tryz.prog 26 [(1,x26),(2,x33)]) fun x34=>
 ForX true H7 fun H8=>
 Pu (zD Tryz.prog 26) fun x35=>Box 26 x35 H8 fun x36 H9=>
 ForX true H9 fun H10=>
 Pu (zj (some 3) x36 x34 H10) fun H11=>
 ForX true H11 fun H12=>
 zx (n:=1) ((.int .i64 0),()) H12 (fun K37 s36 H13=>Any fun _=>
 Pu (lenE Tryz.prog 170 x16) fun x39=>
 Pu (zo (some (.int .i64)) .lss s36.1 x39) fun x40=>
 Ite x40
 (zS (n:=0) (fun s40 H14=>Any fun _=>
 Pu (zd (some 1) x36) fun x42=>
 Pu (zb (some none) x42 H14) fun x43=>
 Pu (zh (some (none,18)) x16 s36.1) fun x44=>
 Pu (zd (some 17) x44) fun x45=>
 Pu (zb (some none) x45 H14) fun x46=>
 Pu (lenE Tryz.prog 175 x46) fun x47=>
 Pu (zo (some (.int .i64)) .sub x43 x47) fun x48=>
 Pu (zd (some 1) x36) fun x49=>
 Pu (zj (some 1) x49 x48 H14) fun H15=>
 Pu (zo (some (.int .i64)) .add s36.1 (.int .i64 1)) fun x50=>
 K37 (x50,()) H15)
 (fun K50=>Pu (zd (some 0) x36) fun x52=>
 Pu (zh (some (none,18)) x16 s36.1) fun x53=>
 Pu (zb (some (some 18)) x53 H13) fun x54=>
 And
 (Pu (zb (some none) x52 H13) fun x62=>
 ForX true H13 fun H25=>
 Fc Tryz.prog 81 #[x6,x54] H25 fun x63 H26=>
 ForX true H26 fun H27=>
 Pu (zI Tryz.prog 24) fun x64=>Pu (zH (some x64) 1 [(0,x63)]) fun x65=>NewS x64.type 1 x65 H27 fun x66 H28=>
 ForX true H28 fun H29=>
 Y2 (zI Tryz.prog 24) x62 x66 H29 fun x67 H30=>
 Pu (zd (some 0) x36) fun x68=>
 ForX true H30 fun H31=>
 Pu (zj (some 1) x68 x67 H31) fun H32=>
 ForX true H32 fun H33=>
 K50 (()) H33)
 (And
 (ForX true H13 fun H16=>
 Fc Tryz.prog 81 #[x6,x54] H16 fun x55 H17=>
 Pu (zb (some none) x52 H17) fun x56=>
 ForX true H17 fun H18=>
 Pu (zI Tryz.prog 24) fun x57=>Pu (zH (some x57) 1 [(0,x55)]) fun x58=>NewS x57.type 1 x58 H18 fun x59 H19=>
 ForX true H19 fun H20=>
 Y2 (zI Tryz.prog 24) x56 x59 H20 fun x60 H21=>
 Pu (zd (some 0) x36) fun x61=>
 ForX true H21 fun H22=>
 Pu (zj (some 1) x61 x60 H22) fun H23=>
 ForX true H23 fun H24=>
 K50 (()) H24)
 (True))))
 (Pu (zb (some (some 3)) x36 H13) fun x69=>
 Pu (zj (some 3) x3 x69 H13) fun H34=>
 Pu (zb (some (some 3)) x3 H34) fun x70=>
 R (.tuple #[x70,(.slice none 0 0)]) H34))))
theorem fn46 (h:sh46 v0 H R):Fc Tryz.prog 46 #[v0] H R:=
 ZB (fun f=>[127].contains f) [(12,(.fork [0,2,3,4,5,6] (.cons 1 (.line [7,8,9,10,11]) (.cons 7 (.line [1,8,9,10,11]) .nil))))] (.seq .nil (.seq .nil (.seq .nil (.seq .nil (.seq .nil (.seq .nil (.seq .nil (.seq (.seq .nil (.loop [8] [49,50,51,52,55,56,57,58,59,60,61,62,63,64,65,66,67,68,69,70,71,72,73,74,75,53,54] (.seq .nil (.seq (.join [] [55,56,57,58,59,60,61,62,63,64,65] .nil .nil) .nil)))) .nil)))))))) Tryz.func46 (args:=[v0]) (Eq.mp (by kernel_rfl:sh46 v0 H R=_) h)
def sh128 (v0 v1:Value) (H:Hp) (R:Value→Hp→Prop):Prop:=
 Pu (lenE Tryz.prog 37 v0) fun x1=>
 Pu (lenE Tryz.prog 37 v1) fun x2=>
 Pu (zo (some (.int .i64)) .neq x1 x2) fun x3=>
 Ite x3
 (R (.bool false) H)
 (zx (n:=1) ((.int .i64 0),()) H (fun K4 s3 H1=>Any fun _=>
 Pu (lenE Tryz.prog 37 v0) fun x6=>
 Pu (zo (some (.int .i64)) .lss s3.1 x6) fun x7=>
 Ite x7
 (Pu (zh (some (none,1025)) v0 s3.1) fun x8=>
 Pu (zb (some (some 1025)) x8 H1) fun x9=>
 Pu (zh (some (none,1025)) v1 s3.1) fun x10=>
 Pu (zb (some (some 1025)) x10 H1) fun x11=>
 Pu (yH Tryz.prog 98 false .neq x9 x11 H1) fun x12=>
 Ite x12
 (R (.bool false) H1)
 (Pu (zo (some (.int .i64)) .add s3.1 (.int .i64 1)) fun x13=>
 K4 (x13,()) H1))
 (R (.bool true) H1)))
theorem fn128 (h:sh128 v0 v1 H R):Fc Tryz.prog 128 #[v0,v1] H R:=
 zs (fun f=>[127].contains f) (.seq .nil (.seq .nil (.seq (.seq .nil (.loop [5] [11,12,13,14,17,18,19,20,21,22,23,24,25,4,15,16] .nil)) .nil))) Tryz.func128 (args:=[v0,v1]) (Eq.mp (by kernel_rfl:sh128 v0 v1 H R=_) h)
def sh129 (v0 v1:Value) (H:Hp) (R:Value→Hp→Prop):Prop:=
 Pu (lenE Tryz.prog 38 v0) fun x1=>
 Pu (lenE Tryz.prog 38 v1) fun x2=>
 Pu (zo (some (.int .i64)) .neq x1 x2) fun x3=>
 Ite x3
 (R (.bool false) H)
 (zx (n:=1) ((.int .i64 0),()) H (fun K4 s3 H1=>Any fun _=>
 Pu (lenE Tryz.prog 38 v0) fun x6=>
 Pu (zo (some (.int .i64)) .lss s3.1 x6) fun x7=>
 Ite x7
 (Pu (zh (some (none,2)) v0 s3.1) fun x8=>
 Pu (zb (some (some 2)) x8 H1) fun x9=>
 Pu (zh (some (none,2)) v1 s3.1) fun x10=>
 Pu (zb (some (some 2)) x10 H1) fun x11=>
 Pu (yH Tryz.prog 61 false .neq x9 x11 H1) fun x12=>
 Ite x12
 (R (.bool false) H1)
 (Pu (zo (some (.int .i64)) .add s3.1 (.int .i64 1)) fun x13=>
 K4 (x13,()) H1))
 (R (.bool true) H1)))
theorem fn129 (h:sh129 v0 v1 H R):Fc Tryz.prog 129 #[v0,v1] H R:=
 zs (fun f=>[127].contains f) (.seq .nil (.seq .nil (.seq (.seq .nil (.loop [5] [11,12,13,14,17,18,19,20,21,22,23,24,25,4,15,16] .nil)) .nil))) Tryz.func129 (args:=[v0,v1]) (Eq.mp (by kernel_rfl:sh129 v0 v1 H R=_) h)
def sh82 (v0 v1:Value) (H:Hp) (R:Value→Hp→Prop):Prop:=
 Box 40 v0 H fun x1 H1=>
 Box 40 v1 H1 fun x2 H2=>
 Pu (zd (some 0) x1) fun x3=>
 Pu (zb (some none) x3 H2) fun x4=>
 Pu (zd (some 0) x2) fun x5=>
 Pu (zb (some none) x5 H2) fun x6=>
 Pu (zo (some (.int .i64)) .eql x4 x6) fun x7=>
 Ite x7
 (Pu (zd (some 1) x1) fun x8=>
 Pu (zb (some none) x8 H2) fun x9=>
 Pu (zd (some 1) x2) fun x10=>
 Pu (zb (some none) x10 H2) fun x11=>
 Pu (zo (some (.int .u16)) .eql x9 x11) fun x12=>
 Ite x12
 (Pu (zd (some 2) x1) fun x13=>
 Pu (zb (some none) x13 H2) fun x14=>
 Pu (zd (some 2) x2) fun x15=>
 Pu (zb (some none) x15 H2) fun x16=>
 Pu (zo (some (.int .i64)) .eql x14 x16) fun x17=>
 Ite x17
 (Pu (zd (some 3) x1) fun x18=>
 Pu (zb (some none) x18 H2) fun x19=>
 Pu (zd (some 3) x2) fun x20=>
 Pu (zb (some none) x20 H2) fun x21=>
 Pu (zo (some (.int .i64)) .eql x19 x21) fun x22=>
 Ite x22
 (Pu (zd (some 4) x1) fun x23=>
 Pu (zb (some none) x23 H2) fun x24=>
 Pu (zd (some 4) x2) fun x25=>
 Pu (zb (some none) x25 H2) fun x26=>
 Pu (zo (some (.int .i64)) .eql x24 x26) fun x27=>
 Ite x27
 (Pu (zd (some 5) x1) fun x28=>
 Pu (zb (some none) x28 H2) fun x29=>
 Pu (zd (some 5) x2) fun x30=>
 Pu (zb (some none) x30 H2) fun x31=>
 Fc Tryz.prog 128 #[x29,x31] H2 fun x32 H3=>
 Ite x32
 (Pu (zd (some 6) x1) fun x33=>
 Pu (zb (some none) x33 H3) fun x34=>
 Pu (zd (some 6) x2) fun x35=>
 Pu (zb (some none) x35 H3) fun x36=>
 Fc Tryz.prog 129 #[x34,x36] H3 fun x37 H4=>
 R x37 H4)
 (R (.bool false) H3))
 (R (.bool false) H2))
 (R (.bool false) H2))
 (R (.bool false) H2))
 (R (.bool false) H2))
 (R (.bool false) H2)
theorem fn82 (h:sh82 v0 v1 H R):Fc Tryz.prog 82 #[v0,v1] H R:=
 zs (fun f=>[127].contains f) .nil Tryz.func82 (args:=[v0,v1]) (Eq.mp (by kernel_rfl:sh82 v0 v1 H R=_) h)
def sh47 (v0 v1:Value) (H:Hp) (R:Value→Hp→Prop):Prop:=
 Box 26 v0 H fun x1 H1=>
 Box 26 v1 H1 fun x2 H2=>
 zS (n:=1) (fun s2 H3=>Any fun _=>
 Ite s2.1
 (R (.bool false) H3)
 (zx (n:=1) ((.int .i64 0),()) H3 (fun K5 s4 H4=>Any fun _=>
 Pu (zd (some 0) x1) fun x7=>
 Pu (zb (some none) x7 H4) fun x8=>
 Pu (lenE Tryz.prog 24 x8) fun x9=>
 Pu (zo (some (.int .i64)) .lss s4.1 x9) fun x10=>
 Ite x10
 (Pu (zd (some 0) x1) fun x11=>
 Pu (zb (some none) x11 H4) fun x12=>
 Pu (zh (some (none,7)) x12 s4.1) fun x13=>
 Pu (zb (some (some 7)) x13 H4) fun x14=>
 Pu (zd (some 0) x2) fun x15=>
 Pu (zb (some none) x15 H4) fun x16=>
 Pu (zh (some (none,7)) x16 s4.1) fun x17=>
 Pu (zb (some (some 7)) x17 H4) fun x18=>
 Fc Tryz.prog 82 #[x14,x18] H4 fun x19 H5=>
 Pu (unE .not x19) fun x20=>
 Ite x20
 (R (.bool false) H5)
 (Pu (zo (some (.int .i64)) .add s4.1 (.int .i64 1)) fun x21=>
 K5 (x21,()) H5))
 (R (.bool true) H4))))
 (fun K21=>Pu (zd (some 1) x1) fun x23=>
 Pu (zb (some none) x23 H2) fun x24=>
 Pu (zd (some 1) x2) fun x25=>
 Pu (zb (some none) x25 H2) fun x26=>
 Pu (zo (some (.int .i64)) .neq x24 x26) fun x27=>
 Ite x27
 (K21 ((.bool true),()) H2)
 (Pu (zd (some 2) x1) fun x28=>
 Pu (zb (some none) x28 H2) fun x29=>
 Pu (zd (some 2) x2) fun x30=>
 Pu (zb (some none) x30 H2) fun x31=>
 Pu (zo (some (.int .i64)) .neq x29 x31) fun x32=>
 Ite x32
 (K21 ((.bool true),()) H2)
 (Pu (zd (some 0) x1) fun x33=>
 Pu (zb (some none) x33 H2) fun x34=>
 Pu (lenE Tryz.prog 24 x34) fun x35=>
 Pu (zd (some 0) x2) fun x36=>
 Pu (zb (some none) x36 H2) fun x37=>
 Pu (lenE Tryz.prog 24 x37) fun x38=>
 Pu (zo (some (.int .i64)) .neq x35 x38) fun x39=>
 K21 (x39,()) H2)))
theorem fn47 (h:sh47 v0 v1 H R):Fc Tryz.prog 47 #[v0,v1] H R:=
 zs (fun f=>[127].contains f) (.seq .nil (.seq (.join [26] [6,7,8,9,10,11,12,13,14,15,16,17,18,19,20,21,22,23,24,25] .nil .nil) (.seq (.seq .nil (.loop [5] [27,28,29,30,31,34,35,36,37,38,39,40,41,42,43,44,45,4,32,33] .nil)) .nil))) Tryz.func47 (args:=[v0,v1]) (Eq.mp (by kernel_rfl:sh47 v0 v1 H R=_) h)
def sh18 (v0 v1:Value) (H:Hp) (R:Value→Hp→Prop):Prop:=
 Box 23 v0 H fun x1 H1=>
 Box 26 v1 H1 fun x2 H2=>
 Pu (zd (some 0) x1) fun x3=>
 Pu (zb (some none) x3 H2) fun x4=>
 Pu (zo (some (.int .i64)) .gtr x4 (.int .i64 4096)) fun x5=>
 Ite x5
 (R (.bool false) H2)
 (Pu (zb (some (some 3)) x1 H2) fun x6=>
 Pu (zb (some (some 3)) x2 H2) fun x7=>
 Fc Tryz.prog 19 #[x6,x7,(.int .i64 0)] H2 fun x8 H3=>
 Pu (zD Tryz.prog 71) fun x9=>Box 71 x9 H3 fun x10 H4=>
 Pu (zj (some 2) x10 x8 H4) fun H5=>
 Pu (zd (some 0) x10) fun x11=>
 Pu (zb (some none) x11 H5) fun x12=>
 Pu (zo (some (.int .i64)) .eql x12 (.int .i64 0)) fun x13=>
 Ite x13
 (R (.bool false) H5)
 (Pu (zb (some (some 2)) x10 H5) fun x14=>
 Fc Tryz.prog 46 #[x14] H5 fun x15 H6=>
 Pu (ze x15 0) fun x16=>
 Pu (ze x15 1) fun x17=>
 Pu (zD Tryz.prog 26) fun x18=>Box 26 x18 H6 fun x19 H7=>
 Pu (zj (some 3) x19 x16 H7) fun H8=>
 Pu (lenE Tryz.prog 113 x17) fun x20=>
 Pu (zo (some (.int .i64)) .eql x20 (.int .i64 0)) fun x21=>
 Ite x21
 (Pu (zb (some (some 3)) x19 H8) fun x22=>
 Pu (zb (some (some 3)) x2 H8) fun x23=>
 Fc Tryz.prog 47 #[x22,x23] H8 fun x24 H9=>
 R x24 H9)
 (R (.bool false) H8)))
theorem fn18 (h:sh18 v0 v1 H R):Fc Tryz.prog 18 #[v0,v1] H R:=
 zs (fun f=>[127].contains f) .nil Tryz.func18 (args:=[v0,v1]) (Eq.mp (by kernel_rfl:sh18 v0 v1 H R=_) h)
variable {H:Hp} {R:Value→Hp→Prop} {v0 v1 v2 v3 v4 v5 v6 v7 v8:Value}
set_option maxRecDepth 100000
def sh107 (v0:Value) (H:Hp) (R:Value→Hp→Prop):Prop:=
 Box 148 v0 H fun x1 H1=>
 Pu (zD Tryz.prog 88) fun x2=>Box 88 x2 H1 fun x3 H2=>
 Pu (zb (some (some 64)) x1 H2) fun x4=>
 ∃ x5,QC true Tryz.prog 144 #[x4,(.int .i64 0),(.int .i64 2)] H2 x5∧(
 Pu (z9 (some (.int .u32)) (some (.int .u16)) x5) fun x6=>
 Pu (zb (some (some 64)) x1 H2) fun x7=>
 ∃ x8,QC true Tryz.prog 144 #[x7,(.int .i64 2),(.int .i64 2)] H2 x8∧(
 Pu (z9 (some (.int .u32)) (some (.int .u16)) x8) fun x9=>
 Pu (zb (some (some 64)) x1 H2) fun x10=>
 ∃ x11,QC true Tryz.prog 144 #[x10,(.int .i64 4),(.int .i64 4)] H2 x11∧(
 Pu (zb (some (some 64)) x1 H2) fun x12=>
 ∃ x13,QC true Tryz.prog 144 #[x12,(.int .i64 8),(.int .i64 4)] H2 x13∧(
 Pu (zu Tryz.prog 88 [(0,x6),(1,x9),(2,x11),(3,x13)]) fun x14=>
 ForX true H2 fun H3=>
 Pu (zD Tryz.prog 88) fun x15=>Box 88 x15 H3 fun x16 H4=>
 ForX true H4 fun H5=>
 Pu (zj (some 16) x16 x14 H5) fun H6=>
 ForX true H6 fun H7=>
 zx (n:=1) ((.int .i64 0),()) H7 (fun K17 s16 H8=>Any fun _=>
 Pu (zo (some (.int .i64)) .lss s16.1 (.int .i64 10)) fun x19=>
 Ite x19
 (Pu (zb (some (some 64)) x1 H8) fun x20=>
 Pu (zo (some (.int .i64)) .mul (.int .i64 4) s16.1) fun x21=>
 Pu (zo (some (.int .i64)) .add (.int .i64 12) x21) fun x22=>
 Fc Tryz.prog 144 #[x20,x22,(.int .i64 4)] H8 fun x23 H9=>
 Pu (zd (some 4) x16) fun x24=>
 Pu (zh (some (some 10,1)) x24 s16.1) fun x25=>
 Pu (zj (some 1) x25 x23 H9) fun H10=>
 Pu (zo (some (.int .i64)) .add s16.1 (.int .i64 1)) fun x26=>
 K17 (x26,()) H10)
 (Pu (zb (some (some 64)) x1 H8) fun x27=>
 Fc Tryz.prog 144 #[x27,(.int .i64 52),(.int .i64 4)] H8 fun x28 H11=>
 Pu (zd (some 14) x16) fun x29=>
 Pu (zj (some 1) x29 x28 H11) fun H12=>
 Pu (zb (some (some 64)) x1 H12) fun x30=>
 Fc Tryz.prog 144 #[x30,(.int .i64 56),(.int .i64 4)] H12 fun x31 H13=>
 Pu (zd (some 15) x16) fun x32=>
 Pu (zj (some 1) x32 x31 H13) fun H14=>
 Pu (zb (some (some 16)) x16 H14) fun x33=>
 Pu (zj (some 16) x3 x33 H14) fun H15=>
 Pu (zb (some (some 16)) x3 H15) fun x34=>
 R x34 H15))))))
theorem fn107 (h:sh107 v0 H R):Fc Tryz.prog 107 #[v0] H R:=
 zs (fun f=>[114,144].contains f) (.seq .nil (.seq .nil (.seq (.seq .nil (.loop [4] [16,17,20,21,22,23,24,25,26,27,18,19] .nil)) .nil))) Tryz.func107 (args:=[v0]) (Eq.mp (by kernel_rfl:sh107 v0 H R=_) h)
def sh78 (v0:Value) (H:Hp) (R:Value→Hp→Prop):Prop:=
 Box 71 v0 H fun x1 H1=>
 Pu (zb (some (some 2)) x1 H1) fun x2=>
 Fc Tryz.prog 111 #[x2] H1 fun x3 H2=>
 Pu (zo (some (.int .i64)) .neq x3 (.int .i64 0)) fun x4=>
 Ite x4
 (Fc Tryz.prog 112 #[(.int .u8 1)] H2 fun x5 H3=>
 R (.tuple #[(.pointer none),x5]) H3)
 (Pu (zb (some (some 2)) x1 H2) fun x6=>
 ∃ x7,QC true Tryz.prog 114 #[x6,(.int .i64 0)] H2 x7∧(
 Pu (zd (some 0) x1) fun x8=>
 Pu (zb (some none) x8 H2) fun x9=>
 And
 (ForX true H2 fun H30=>
 Fc Tryz.prog 113 #[x7,x9] H30 fun x46 H31=>
 Pu (ze x46 0) fun x47=>
 Pu (ze x46 1) fun x48=>
 ForX true H31 fun H32=>
 Pu (zD Tryz.prog 74) fun x49=>Box 74 x49 H32 fun x50 H33=>
 ForX true H33 fun H34=>
 Pu (zj (some 9) x50 x47 H34) fun H35=>
 ForX true H35 fun H36=>
 Pu (zo (some (.int .i64)) .neq x48 (.int .i64 0)) fun x51=>
 Ite x51
 (Fc Tryz.prog 112 #[(.int .u8 2)] H36 fun x52 H37=>
 R (.tuple #[(.pointer none),x52]) H37)
 (Pu (zb (some (some 9)) x50 H36) fun x53=>
 Pu (zb (some (some 2)) x1 H36) fun x54=>
 Pu (zd (some 3) x50) fun x55=>
 Pu (zb (some none) x55 H36) fun x56=>
 ∃ x57,QC true Tryz.prog 114 #[x54,x56] H36 x57∧(
 And
 (ForX true H36 fun H47=>
 Fc Tryz.prog 96 #[x53,x57] H47 fun x70 H48=>
 Pu (ze x70 0) fun x71=>
 Pu (ze x70 1) fun x72=>
 ForX true H48 fun H49=>
 Pu (zD Tryz.prog 129) fun x73=>Box 129 x73 H49 fun x74 H50=>
 ForX true H50 fun H51=>
 Pu (zj (some 1) x74 x71 H51) fun H52=>
 ForX true H52 fun H53=>
 Pu (zo (some (.int .i64)) .neq x72 (.int .i64 0)) fun x75=>
 Ite x75
 (Fc Tryz.prog 112 #[(.int .u8 3)] H53 fun x76 H54=>
 R (.tuple #[(.pointer none),x76]) H54)
 (Pu (zb (some (some 2)) x1 H53) fun x77=>
 Pu (zb (some (some 9)) x50 H53) fun x78=>
 Pu (zb (some (some 1)) x74 H53) fun x79=>
 Pu (zu Tryz.prog 173 [(0,x77),(1,x78),(2,x79)]) fun x80=>
 Box 173 x80 H53 fun x81 H55=>
 R (.tuple #[x81,(.slice none 0 0)]) H55))
 (And
 (ForX true H36 fun H38=>
 Pu (zD Tryz.prog 129) fun x58=>Box 129 x58 H38 fun x59 H39=>
 ForX true H39 fun H40=>
 Fc Tryz.prog 96 #[x53,x57] H40 fun x60 H41=>
 Pu (ze x60 0) fun x61=>
 Pu (ze x60 1) fun x62=>
 ForX true H41 fun H42=>
 Pu (zj (some 1) x59 x61 H42) fun H43=>
 ForX true H43 fun H44=>
 Pu (zo (some (.int .i64)) .neq x62 (.int .i64 0)) fun x63=>
 Ite x63
 (Fc Tryz.prog 112 #[(.int .u8 3)] H44 fun x64 H45=>
 R (.tuple #[(.pointer none),x64]) H45)
 (Pu (zb (some (some 2)) x1 H44) fun x65=>
 Pu (zb (some (some 9)) x50 H44) fun x66=>
 Pu (zb (some (some 1)) x59 H44) fun x67=>
 Pu (zu Tryz.prog 173 [(0,x65),(1,x66),(2,x67)]) fun x68=>
 Box 173 x68 H44 fun x69 H46=>
 R (.tuple #[x69,(.slice none 0 0)]) H46))
 (True)))))
 (And
 (ForX true H2 fun H4=>
 Pu (zD Tryz.prog 74) fun x10=>Box 74 x10 H4 fun x11 H5=>
 ForX true H5 fun H6=>
 Fc Tryz.prog 113 #[x7,x9] H6 fun x12 H7=>
 Pu (ze x12 0) fun x13=>
 Pu (ze x12 1) fun x14=>
 ForX true H7 fun H8=>
 Pu (zj (some 9) x11 x13 H8) fun H9=>
 ForX true H9 fun H10=>
 Pu (zo (some (.int .i64)) .neq x14 (.int .i64 0)) fun x15=>
 Ite x15
 (Fc Tryz.prog 112 #[(.int .u8 2)] H10 fun x16 H11=>
 R (.tuple #[(.pointer none),x16]) H11)
 (Pu (zb (some (some 9)) x11 H10) fun x17=>
 Pu (zb (some (some 2)) x1 H10) fun x18=>
 Pu (zd (some 3) x11) fun x19=>
 Pu (zb (some none) x19 H10) fun x20=>
 ∃ x21,QC true Tryz.prog 114 #[x18,x20] H10 x21∧(
 And
 (ForX true H10 fun H21=>
 Fc Tryz.prog 96 #[x17,x21] H21 fun x34 H22=>
 Pu (ze x34 0) fun x35=>
 Pu (ze x34 1) fun x36=>
 ForX true H22 fun H23=>
 Pu (zD Tryz.prog 129) fun x37=>Box 129 x37 H23 fun x38 H24=>
 ForX true H24 fun H25=>
 Pu (zj (some 1) x38 x35 H25) fun H26=>
 ForX true H26 fun H27=>
 Pu (zo (some (.int .i64)) .neq x36 (.int .i64 0)) fun x39=>
 Ite x39
 (Fc Tryz.prog 112 #[(.int .u8 3)] H27 fun x40 H28=>
 R (.tuple #[(.pointer none),x40]) H28)
 (Pu (zb (some (some 2)) x1 H27) fun x41=>
 Pu (zb (some (some 9)) x11 H27) fun x42=>
 Pu (zb (some (some 1)) x38 H27) fun x43=>
 Pu (zu Tryz.prog 173 [(0,x41),(1,x42),(2,x43)]) fun x44=>
 Box 173 x44 H27 fun x45 H29=>
 R (.tuple #[x45,(.slice none 0 0)]) H29))
 (And
 (ForX true H10 fun H12=>
 Pu (zD Tryz.prog 129) fun x22=>Box 129 x22 H12 fun x23 H13=>
 ForX true H13 fun H14=>
 Fc Tryz.prog 96 #[x17,x21] H14 fun x24 H15=>
 Pu (ze x24 0) fun x25=>
 Pu (ze x24 1) fun x26=>
 ForX true H15 fun H16=>
 Pu (zj (some 1) x23 x25 H16) fun H17=>
 ForX true H17 fun H18=>
 Pu (zo (some (.int .i64)) .neq x26 (.int .i64 0)) fun x27=>
 Ite x27
 (Fc Tryz.prog 112 #[(.int .u8 3)] H18 fun x28 H19=>
 R (.tuple #[(.pointer none),x28]) H19)
 (Pu (zb (some (some 2)) x1 H18) fun x29=>
 Pu (zb (some (some 9)) x11 H18) fun x30=>
 Pu (zb (some (some 1)) x23 H18) fun x31=>
 Pu (zu Tryz.prog 173 [(0,x29),(1,x30),(2,x31)]) fun x32=>
 Box 173 x32 H18 fun x33 H20=>
 R (.tuple #[x33,(.slice none 0 0)]) H20))
 (True)))))
 (True))))
theorem fn78 (h:sh78 v0 H R):Fc Tryz.prog 78 #[v0] H R:=
 ZB (fun f=>[114,144].contains f) [(3,(.fork [0,1,2,3] (.cons 4 (.line [5,6,7,8,9,10]) (.cons 8 (.line [4,5,6,7,9,10]) .nil)))),(6,(.fork [0,1,2,3,4] (.cons 5 (.line [6,7,8,9,10,11]) (.cons 9 (.line [5,6,7,8,10,11]) .nil))))] .nil Tryz.func78 (args:=[v0]) (Eq.mp (by kernel_rfl:sh78 v0 H R=_) h)
variable {H:Hp} {R:Value→Hp→Prop} {v0 v1 v2 v3 v4 v5 v6 v7 v8:Value}
set_option maxRecDepth 100000
def sh94 (v0:Value) (H:Hp) (R:Value→Hp→Prop):Prop:=
 Box 94 v0 H fun x1 H1=>
 zx (n:=1) ((.int .i64 0),()) H1 (fun K2 s1 H2=>Any fun _=>
 Pu (zo (some (.int .i64)) .lss s1.1 (.int .i64 1024)) fun x4=>
 Ite x4
 (Pu (zh (some (some 1024,1)) x1 s1.1) fun x5=>
 Pu (zb (some none) x5 H2) fun x6=>
 Pu (zo (some (.int .u8)) .neq x6 (.int .u8 0)) fun x7=>
 Ite x7
 (R (.bool false) H2)
 (Pu (zo (some (.int .i64)) .add s1.1 (.int .i64 1)) fun x8=>
 K2 (x8,()) H2))
 (R (.bool true) H2))
theorem fn94 (h:sh94 v0 H R):Fc Tryz.prog 94 #[v0] H R:=
 zs (fun f=>[].contains f) (.seq .nil (.seq (.seq .nil (.loop [3] [4,5,8,9,10,11,2,6,7] .nil)) .nil)) Tryz.func94 (args:=[v0]) (Eq.mp (by kernel_rfl:sh94 v0 H R=_) h)
def sh58 (v0:Value) (H:Hp) (R:Value→Hp→Prop):Prop:=
 Box 71 v0 H fun x1 H1=>
 zS (n:=1) (fun s1 H2=>Any fun _=>
 Ite s1.1
 (R (.bool false) H2)
 (zx (n:=1) ((.int .i64 0),()) H2 (fun K4 s3 H3=>Any fun _=>
 Pu (zd (some 1) x1) fun x6=>
 Pu (zb (some none) x6 H3) fun x7=>
 Pu (lenE Tryz.prog 37 x7) fun x8=>
 Pu (zo (some (.int .i64)) .lss s3.1 x8) fun x9=>
 Ite x9
 (Pu (zd (some 1) x1) fun x10=>
 Pu (zb (some none) x10 H3) fun x11=>
 Pu (zh (some (none,1025)) x11 s3.1) fun x12=>
 Pu (zd (some 0) x12) fun x13=>
 Pu (zb (some none) x13 H3) fun x14=>
 zS (n:=1) (fun s14 H4=>Any fun _=>
 Ite s14.1
 (R (.bool false) H4)
 (Pu (zo (some (.int .i64)) .add s3.1 (.int .i64 1)) fun x17=>
 K4 (x17,()) H4))
 (fun K17=>Pu (zo (some (.int .i64)) .lss x14 (.int .i64 0)) fun x19=>
 Ite x19
 (K17 ((.bool true),()) H3)
 (Pu (zd (some 0) x1) fun x20=>
 Pu (zb (some none) x20 H3) fun x21=>
 Pu (zo (some (.int .i64)) .geq x14 x21) fun x22=>
 Ite x22
 (K17 ((.bool true),()) H3)
 (Pu (zo (some (.int .i64)) .gtr s3.1 (.int .i64 0)) fun x23=>
 Ite x23
 (Pu (zd (some 1) x1) fun x24=>
 Pu (zb (some none) x24 H3) fun x25=>
 Pu (zo (some (.int .i64)) .sub s3.1 (.int .i64 1)) fun x26=>
 Pu (zh (some (none,1025)) x25 x26) fun x27=>
 Pu (zd (some 0) x27) fun x28=>
 Pu (zb (some none) x28 H3) fun x29=>
 Pu (zo (some (.int .i64)) .geq x29 x14) fun x30=>
 Ite x30
 (K17 ((.bool true),()) H3)
 (Pu (zd (some 1) x1) fun x31=>
 Pu (zb (some none) x31 H3) fun x32=>
 Pu (zh (some (none,1025)) x32 s3.1) fun x33=>
 Pu (zd (some 1) x33) fun x34=>
 Pu (zb (some (some 1024)) x34 H3) fun x35=>
 Fc Tryz.prog 94 #[x35] H3 fun x36 H5=>
 K17 (x36,()) H5))
 (Pu (zd (some 1) x1) fun x37=>
 Pu (zb (some none) x37 H3) fun x38=>
 Pu (zh (some (none,1025)) x38 s3.1) fun x39=>
 Pu (zd (some 1) x39) fun x40=>
 Pu (zb (some (some 1024)) x40 H3) fun x41=>
 Fc Tryz.prog 94 #[x41] H3 fun x42 H6=>
 K17 (x42,()) H6)))))
 (R (.bool true) H3))))
 (fun K42=>Pu (zd (some 0) x1) fun x44=>
 Pu (zb (some none) x44 H1) fun x45=>
 Pu (zo (some (.int .i64)) .lss x45 (.int .i64 1)) fun x46=>
 Ite x46
 (K42 ((.bool true),()) H1)
 (Pu (zd (some 0) x1) fun x47=>
 Pu (zb (some none) x47 H1) fun x48=>
 Pu (zo (some (.int .i64)) .gtr x48 (.int .i64 1048576)) fun x49=>
 K42 (x49,()) H1))
theorem fn58 (h:sh58 v0 H R):Fc Tryz.prog 58 #[v0] H R:=
 zs (fun f=>[].contains f) (.seq .nil (.seq (.join [12] [5,6,7,8,9,10,11] .nil .nil) (.seq (.seq .nil (.loop [3] [13,14,15,16,17,20,21,22,23,24,25,4,26,27,28,29,30,31,32,33,34,35,36,37,38,39,40,41,42,43,44,45,46,47,48,49,50,51,52,53,54,55,56,57,2,18,19] (.seq .nil (.seq (.seq .nil (.join [57] [26,27,28,29,30,31,32,33,34,35,36,37,38,39,40,41,42,43,44,45,46,47,48,49,50,51,52,53,54,55,56] .nil .nil)) .nil)))) .nil))) Tryz.func58 (args:=[v0]) (Eq.mp (by kernel_rfl:sh58 v0 H R=_) h)
def sh59 (v0:Value) (H:Hp) (R:Value→Hp→Prop):Prop:=
 zx (n:=2) ((.slice none 0 0),(.int .i64 0),()) H (fun K1 s0 H1=>Any fun _=>
 Pu (lenE Tryz.prog 37 v0) fun x3=>
 Pu (zo (some (.int .i64)) .lss s0.2.1 x3) fun x4=>
 Ite x4
 (Pu (zh (some (none,1025)) v0 s0.2.1) fun x5=>
 Pu (zb (some (some 1025)) x5 H1) fun x6=>
 Pu (zI Tryz.prog 37) fun x7=>Pu (zH (some x7) 1 [(0,x6)]) fun x8=>NewS x7.type 1 x8 H1 fun x9 H2=>
 Y2 (zI Tryz.prog 37) s0.1 x9 H2 fun x10 H3=>
 Pu (zo (some (.int .i64)) .add s0.2.1 (.int .i64 1)) fun x11=>
 K1 (x10,x11,()) H3)
 (R s0.1 H1))
theorem fn59 (h:sh59 v0 H R):Fc Tryz.prog 59 #[v0] H R:=
 zs (fun f=>[].contains f) (.seq .nil (.seq .nil (.seq (.seq .nil (.loop [3,4] [5,6,7,8,11,12,13,14,15,16,17,9,10] .nil)) .nil))) Tryz.func59 (args:=[v0]) (Eq.mp (by kernel_rfl:sh59 v0 H R=_) h)
def sh23 (v0:Value) (H:Hp) (R:Value→Hp→Prop):Prop:=
 Box 71 v0 H fun x1 H1=>
 Pu (zb (some (some 2)) x1 H1) fun x2=>
 Fc Tryz.prog 58 #[x2] H1 fun x3 H2=>
 Pu (unE .not x3) fun x4=>
 Ite x4
 (R (.tuple #[(.pointer none),(.int .i64 4)]) H2)
 (Pu (zd (some 0) x1) fun x5=>
 Pu (zd (some 1) x1) fun x6=>
 Pu (zb (some none) x6 H2) fun x7=>
 And
 (Pu (zb (some none) x5 H2) fun x12=>
 ForX true H2 fun H8=>
 Fc Tryz.prog 59 #[x7] H8 fun x13 H9=>
 Pu (zu Tryz.prog 143 [(0,x12),(1,x13)]) fun x14=>
 ForX true H9 fun H10=>
 Box 143 x14 H10 fun x15 H11=>
 ForX true H11 fun H12=>
 R (.tuple #[x15,(.int .i64 0)]) H12)
 (And
 (ForX true H2 fun H3=>
 Fc Tryz.prog 59 #[x7] H3 fun x8 H4=>
 Pu (zb (some none) x5 H4) fun x9=>
 Pu (zu Tryz.prog 143 [(0,x9),(1,x8)]) fun x10=>
 ForX true H4 fun H5=>
 Box 143 x10 H5 fun x11 H6=>
 ForX true H6 fun H7=>
 R (.tuple #[x11,(.int .i64 0)]) H7)
 (True)))
theorem fn23 (h:sh23 v0 H R):Fc Tryz.prog 23 #[v0] H R:=
 ZB (fun f=>[].contains f) [(3,(.fork [0,2,3] (.cons 1 (.line [4,5,6,7,8]) (.cons 4 (.line [1,5,6,7,8]) .nil))))] .nil Tryz.func23 (args:=[v0]) (Eq.mp (by kernel_rfl:sh23 v0 H R=_) h)
def sh44 (v0:Value) (H:Hp) (R:Value→Hp→Prop):Prop:=
 Pu (yH Tryz.prog 49 true .eql v0 (.pointer none) H) fun x1=>
 Ite x1
 (R (.int .i64 0) H)
 (Pu (zc v0) fun x2=>
 Pu (zd (some 0) x2) fun x3=>
 Pu (zb (some none) x3 H) fun x4=>
 R x4 H)
theorem fn44 (h:sh44 v0 H R):Fc Tryz.prog 44 #[v0] H R:=
 zs (fun f=>[].contains f) .nil Tryz.func44 (args:=[v0]) (Eq.mp (by kernel_rfl:sh44 v0 H R=_) h)
def sh76 (v0 v1:Value) (H:Hp) (R:Value→Hp→Prop):Prop:=
 Pu (zD Tryz.prog 94) fun x1=>Box 94 x1 H fun x2 H1=>
 Pu (yH Tryz.prog 49 true .eql v0 (.pointer none) H1) fun x3=>
 Ite x3
 (Pu (zu Tryz.prog 94 []) fun x4=>
 Pu (zj (some 1024) x2 x4 H1) fun H2=>
 Pu (zb (some (some 1024)) x2 H2) fun x5=>
 R (.tuple #[x5,(.int .i64 1)]) H2)
 (Pu (zc v0) fun x6=>
 Pu (zd (some 5) x6) fun x7=>
 Pu (zb (some none) x7 H1) fun x8=>
 Ite x8
 (Pu (zu Tryz.prog 94 []) fun x9=>
 Pu (zj (some 1024) x2 x9 H1) fun H3=>
 Pu (zb (some (some 1024)) x2 H3) fun x10=>
 R (.tuple #[x10,(.int .i64 3)]) H3)
 (zS (n:=1) (fun s10 H4=>Any fun _=>
 Ite s10.1
 (Pu (zu Tryz.prog 94 []) fun x13=>
 Pu (zj (some 1024) x2 x13 H4) fun H5=>
 Pu (zb (some (some 1024)) x2 H5) fun x14=>
 R (.tuple #[x14,(.int .i64 2)]) H5)
 (Pu (zc v0) fun x15=>
 Pu (zd (some 8) x15) fun x16=>
 Pu (zb (some none) x16 H4) fun x17=>
 Pu (zo (some (.int .i64)) .add x17 (.int .i64 1)) fun x18=>
 Pu (zc v0) fun x19=>
 Pu (zd (some 8) x19) fun x20=>
 Pu (zj (some 1) x20 x18 H4) fun H6=>
 Pu (zc v0) fun x21=>
 Pu (zd (some 2) x21) fun x22=>
 Pu (zb (some none) x22 H6) fun x23=>
 Pu (lenE Tryz.prog 37 x23) fun x24=>
 Pu (zo (some (.int .i64)) .sub x24 (.int .i64 1)) fun x25=>
 zx (n:=1) (x25,()) H6 (fun K26 s25 H7=>Any fun _=>
 Pu (zo (some (.int .i64)) .geq s25.1 (.int .i64 0)) fun x28=>
 Ite x28
 (Pu (zc v0) fun x29=>
 Pu (zd (some 2) x29) fun x30=>
 Pu (zb (some none) x30 H7) fun x31=>
 Pu (zh (some (none,1025)) x31 s25.1) fun x32=>
 Pu (zd (some 0) x32) fun x33=>
 Pu (zb (some none) x33 H7) fun x34=>
 Pu (zo (some (.int .i64)) .eql x34 v1) fun x35=>
 Ite x35
 (Pu (zc v0) fun x36=>
 Pu (zd (some 2) x36) fun x37=>
 Pu (zb (some none) x37 H7) fun x38=>
 Pu (zh (some (none,1025)) x38 s25.1) fun x39=>
 Pu (zd (some 1) x39) fun x40=>
 Pu (zb (some (some 1024)) x40 H7) fun x41=>
 Pu (zj (some 1024) x2 x41 H7) fun H8=>
 Pu (zb (some (some 1024)) x2 H8) fun x42=>
 R (.tuple #[x42,(.int .i64 0)]) H8)
 (Pu (zo (some (.int .i64)) .sub s25.1 (.int .i64 1)) fun x43=>
 K26 (x43,()) H7))
 (Pu (zc v0) fun x44=>
 Pu (zd (some 1) x44) fun x45=>
 Pu (zb (some none) x45 H7) fun x46=>
 Fc Tryz.prog 110 #[x46,v1] H7 fun x47 H9=>
 Pu (zj (some 1024) x2 x47 H9) fun H10=>
 Pu (zb (some (some 1024)) x2 H10) fun x48=>
 R (.tuple #[x48,(.int .i64 0)]) H10))))
 (fun K48=>Pu (zo (some (.int .i64)) .lss v1 (.int .i64 0)) fun x50=>
 Ite x50
 (K48 ((.bool true),()) H1)
 (Pu (zc v0) fun x51=>
 Pu (zd (some 0) x51) fun x52=>
 Pu (zb (some none) x52 H1) fun x53=>
 Pu (zo (some (.int .i64)) .geq v1 x53) fun x54=>
 K48 (x54,()) H1))))
theorem fn76 (h:sh76 v0 v1 H R):Fc Tryz.prog 76 #[v0,v1] H R:=
 zs (fun f=>[].contains f) (.seq .nil (.seq .nil (.seq .nil (.seq (.join [24] [15,16,17,18,19,20,21,22,23] .nil .nil) (.seq .nil (.seq (.seq .nil (.loop [6] [40,41,44,45,46,47,48,49,50,51,52,53,54,55,56,57,58,59,60,61,5,42,43] .nil)) .nil)))))) Tryz.func76 (args:=[v0,v1]) (Eq.mp (by kernel_rfl:sh76 v0 v1 H R=_) h)
def sh110 (v0 v1:Value) (H:Hp) (R:Value→Hp→Prop):Prop:=
 Pu (zD Tryz.prog 94) fun x1=>Box 94 x1 H fun x2 H1=>
 zx (n:=1) ((.int .i64 0),()) H1 (fun K3 s2 H2=>Any fun _=>
 Pu (lenE Tryz.prog 37 v0) fun x5=>
 Pu (zo (some (.int .i64)) .lss s2.1 x5) fun x6=>
 Ite x6
 (Pu (zh (some (none,1025)) v0 s2.1) fun x7=>
 Pu (zd (some 0) x7) fun x8=>
 Pu (zb (some none) x8 H2) fun x9=>
 Pu (zo (some (.int .i64)) .eql x9 v1) fun x10=>
 Ite x10
 (Pu (zh (some (none,1025)) v0 s2.1) fun x11=>
 Pu (zd (some 1) x11) fun x12=>
 Pu (zb (some (some 1024)) x12 H2) fun x13=>
 Pu (zj (some 1024) x2 x13 H2) fun H3=>
 Pu (zb (some (some 1024)) x2 H3) fun x14=>
 R x14 H3)
 (Pu (zo (some (.int .i64)) .add s2.1 (.int .i64 1)) fun x15=>
 K3 (x15,()) H2))
 (Pu (zu Tryz.prog 94 []) fun x16=>
 Pu (zj (some 1024) x2 x16 H2) fun H4=>
 Pu (zb (some (some 1024)) x2 H4) fun x17=>
 R x17 H4))
theorem fn110 (h:sh110 v0 v1 H R):Fc Tryz.prog 110 #[v0,v1] H R:=
 zs (fun f=>[].contains f) (.seq .nil (.seq (.seq .nil (.loop [5] [6,7,8,9,12,13,14,15,16,17,18,19,20,21,22,23,10,11] .nil)) .nil)) Tryz.func110 (args:=[v0,v1]) (Eq.mp (by kernel_rfl:sh110 v0 v1 H R=_) h)
def sh61 (v0:Value) (H:Hp) (R:Value→Hp→Prop):Prop:=
 zS (n:=1) (fun s0 H1=>Any fun _=>
 Ite s0.1
 (R (.int .i64 0) H1)
 (Pu (zc v0) fun x3=>
 Pu (zd (some 9) x3) fun x4=>
 Pu (zb (some none) x4 H1) fun x5=>
 Pu (zo (some (.int .i64)) .add x5 (.int .i64 1)) fun x6=>
 Pu (zc v0) fun x7=>
 Pu (zd (some 9) x7) fun x8=>
 Pu (zj (some 1) x8 x6 H1) fun H2=>
 Pu (zc v0) fun x9=>
 Pu (zd (some 9) x9) fun x10=>
 Pu (zb (some none) x10 H2) fun x11=>
 Pu (zc v0) fun x12=>
 Pu (zd (some 10) x12) fun x13=>
 Pu (zj (some 1) x13 x11 H2) fun H3=>
 Pu (zc v0) fun x14=>
 Pu (zd (some 9) x14) fun x15=>
 Pu (zb (some none) x15 H3) fun x16=>
 R x16 H3))
 (fun K16=>Pu (yH Tryz.prog 49 true .eql v0 (.pointer none) H) fun x18=>
 Ite x18
 (K16 ((.bool true),()) H)
 (Pu (zc v0) fun x19=>
 Pu (zd (some 5) x19) fun x20=>
 Pu (zb (some none) x20 H) fun x21=>
 K16 (x21,()) H))
theorem fn61 (h:sh61 v0 H R):Fc Tryz.prog 61 #[v0] H R:=
 zs (fun f=>[].contains f) (.seq .nil (.seq (.join [10] [3,4,5,6,7,8,9] .nil .nil) .nil)) Tryz.func61 (args:=[v0]) (Eq.mp (by kernel_rfl:sh61 v0 H R=_) h)
def sh95 (v0 v1:Value) (H:Hp) (R:Value→Hp→Prop):Prop:=
 Box 74 v1 H fun x1 H1=>
 Pu (zb (some (some 9)) x1 H1) fun x2=>
 Fc Tryz.prog 86 #[x2] H1 fun x3 H2=>
 Ite x3
 (Pu (zd (some 0) x1) fun x4=>
 Pu (zd (some 0) x4) fun x5=>
 And
 (Pu (zb (some none) x5 H2) fun x9=>
 ForX true H2 fun H6=>
 Fc Tryz.prog 44 #[v0] H6 fun x10 H7=>
 Pu (zo (some (.int .i64)) .leq x9 x10) fun x11=>
 ForX true H7 fun H8=>
 R x11 H8)
 (And
 (ForX true H2 fun H3=>
 Fc Tryz.prog 44 #[v0] H3 fun x6 H4=>
 Pu (zb (some none) x5 H4) fun x7=>
 Pu (zo (some (.int .i64)) .leq x7 x6) fun x8=>
 ForX true H4 fun H5=>
 R x8 H5)
 (True)))
 (And
 (ForX true H2 fun H10=>
 R (.bool false) H10)
 (And
 (ForX true H2 fun H9=>
 R (.bool false) H9)
 (True)))
theorem fn95 (h:sh95 v0 v1 H R):Fc Tryz.prog 95 #[v0,v1] H R:=
 ZB (fun f=>[].contains f) [(2,(.fork [0,1,2,3,5] (.cons 4 (.line [6,7,8,9]) (.cons 6 (.line [4,7,8,9]) .nil))))] .nil Tryz.func95 (args:=[v0,v1]) (Eq.mp (by kernel_rfl:sh95 v0 v1 H R=_) h)
def sh60 (v0 v1:Value) (H:Hp) (R:Value→Hp→Prop):Prop:=
 Box 74 v1 H fun x1 H1=>
 Pu (zD Tryz.prog 129) fun x2=>Box 129 x2 H1 fun x3 H2=>
 Pu (yH Tryz.prog 49 true .eql v0 (.pointer none) H2) fun x4=>
 Ite x4
 (Pu (zu Tryz.prog 129 []) fun x5=>
 Pu (zj (some 1) x3 x5 H2) fun H3=>
 Pu (zb (some (some 1)) x3 H3) fun x6=>
 R (.tuple #[x6,(.int .i64 1)]) H3)
 (Pu (zb (some (some 9)) x1 H2) fun x7=>
 Fc Tryz.prog 95 #[v0,x7] H2 fun x8 H4=>
 Pu (unE .not x8) fun x9=>
 Ite x9
 (Pu (zu Tryz.prog 129 []) fun x10=>
 Pu (zj (some 1) x3 x10 H4) fun H5=>
 Pu (zb (some (some 1)) x3 H5) fun x11=>
 R (.tuple #[x11,(.int .i64 2)]) H5)
 (Pu (zd (some 3) x1) fun x12=>
 Pu (zb (some none) x12 H4) fun x13=>
 Fc Tryz.prog 76 #[v0,x13] H4 fun x14 H6=>
 Pu (ze x14 0) fun x15=>
 Pu (ze x14 1) fun x16=>
 Pu (zD Tryz.prog 94) fun x17=>Box 94 x17 H6 fun x18 H7=>
 Pu (zj (some 1024) x18 x15 H7) fun H8=>
 Pu (zo (some (.int .i64)) .neq x16 (.int .i64 0)) fun x19=>
 Ite x19
 (Pu (zu Tryz.prog 129 []) fun x20=>
 Pu (zj (some 1) x3 x20 H8) fun H9=>
 Pu (zb (some (some 1)) x3 H9) fun x21=>
 R (.tuple #[x21,(.int .i64 3)]) H9)
 (Pu (zb (some (some 9)) x1 H8) fun x22=>
 Pu (zb (some (some 1024)) x18 H8) fun x23=>
 Fc Tryz.prog 96 #[x22,x23] H8 fun x24 H10=>
 Pu (ze x24 0) fun x25=>
 Pu (ze x24 1) fun x26=>
 Pu (zD Tryz.prog 129) fun x27=>Box 129 x27 H10 fun x28 H11=>
 Pu (zj (some 1) x28 x25 H11) fun H12=>
 Pu (zo (some (.int .i64)) .neq x26 (.int .i64 0)) fun x29=>
 Ite x29
 (Pu (zu Tryz.prog 129 []) fun x30=>
 Pu (zj (some 1) x3 x30 H12) fun H13=>
 Pu (zb (some (some 1)) x3 H13) fun x31=>
 R (.tuple #[x31,(.int .i64 4)]) H13)
 (Pu (zb (some (some 1)) x28 H12) fun x32=>
 Pu (zj (some 1) x3 x32 H12) fun H14=>
 Pu (zb (some (some 1)) x3 H14) fun x33=>
 R (.tuple #[x33,(.int .i64 0)]) H14))))
theorem fn60 (h:sh60 v0 v1 H R):Fc Tryz.prog 60 #[v0,v1] H R:=
 zs (fun f=>[].contains f) .nil Tryz.func60 (args:=[v0,v1]) (Eq.mp (by kernel_rfl:sh60 v0 v1 H R=_) h)
def sh24 (v0 v1:Value) (H:Hp) (R:Value→Hp→Prop):Prop:=
 Box 74 v1 H fun x1 H1=>
 Pu (zb (some (some 9)) x1 H1) fun x2=>
 Fc Tryz.prog 60 #[v0,x2] H1 fun x3 H2=>
 Pu (ze x3 0) fun x4=>
 Pu (ze x3 1) fun x5=>
 Pu (zD Tryz.prog 129) fun x6=>Box 129 x6 H2 fun x7 H3=>
 Pu (zj (some 1) x7 x4 H3) fun H4=>
 Pu (zo (some (.int .i64)) .neq x5 (.int .i64 0)) fun x8=>
 Ite x8
 (R (.tuple #[(.pointer none),x5]) H4)
 (Pu (zd (some 0) x7) fun x9=>
 Pu (zb (some none) x9 H4) fun x10=>
 Pu (lenE Tryz.prog 106 x10) fun x11=>
 Pu (zo (some (.int .i64)) .gtr x11 (.int .i64 0)) fun x12=>
 Ite x12
 (R (.tuple #[(.pointer none),(.int .i64 4)]) H4)
 (And
 (Pu (zb (some (some 9)) x1 H4) fun x17=>
 ForX true H4 fun H10=>
 Fc Tryz.prog 61 #[v0] H10 fun x18 H11=>
 Pu (zu Tryz.prog 108 [(0,v0),(1,x17),(2,x18),(3,(.bool true))]) fun x19=>
 ForX true H11 fun H12=>
 Box 108 x19 H12 fun x20 H13=>
 ForX true H13 fun H14=>
 R (.tuple #[x20,(.int .i64 0)]) H14)
 (And
 (ForX true H4 fun H5=>
 Fc Tryz.prog 61 #[v0] H5 fun x13 H6=>
 Pu (zb (some (some 9)) x1 H6) fun x14=>
 Pu (zu Tryz.prog 108 [(0,v0),(1,x14),(2,x13),(3,(.bool true))]) fun x15=>
 ForX true H6 fun H7=>
 Box 108 x15 H7 fun x16 H8=>
 ForX true H8 fun H9=>
 R (.tuple #[x16,(.int .i64 0)]) H9)
 (True))))
theorem fn24 (h:sh24 v0 v1 H R):Fc Tryz.prog 24 #[v0,v1] H R:=
 ZB (fun f=>[].contains f) [(6,(.fork [0,2] (.cons 1 (.line [3,4,5,6,7]) (.cons 3 (.line [1,4,5,6,7]) .nil))))] .nil Tryz.func24 (args:=[v0,v1]) (Eq.mp (by kernel_rfl:sh24 v0 v1 H R=_) h)
def sh6 (v0:Value) (H:Hp) (R:Value→Hp→Prop):Prop:=
 Box 28 v0 H fun x1 H1=>
 Pu (zd (some 0) x1) fun x2=>
 Pu (zb (some (some 3)) x2 H1) fun x3=>
 Pu (zd (some 3) x1) fun x4=>
 Pu (zb (some (some 3)) x4 H1) fun x5=>
 Fc Tryz.prog 18 #[x3,x5] H1 fun x6 H2=>
 Pu (unE .not x6) fun x7=>
 Ite x7
 (R (.tuple #[(.pointer none),(.bool false),(.bool false)]) H2)
 (Pu (zd (some 0) x1) fun x8=>
 Pu (zb (some (some 3)) x8 H2) fun x9=>
 Pu (zd (some 3) x1) fun x10=>
 Pu (zb (some (some 3)) x10 H2) fun x11=>
 Pu (zd (some 6) x1) fun x12=>
 Pu (zb (some none) x12 H2) fun x13=>
 Fc Tryz.prog 19 #[x9,x11,x13] H2 fun x14 H3=>
 Pu (zD Tryz.prog 71) fun x15=>Box 71 x15 H3 fun x16 H4=>
 Pu (zj (some 2) x16 x14 H4) fun H5=>
 Pu (zd (some 0) x1) fun x17=>
 Pu (zb (some (some 3)) x17 H5) fun x18=>
 Fc Tryz.prog 20 #[x18] H5 fun x19 H6=>
 Pu (ze x19 0) fun x20=>
 Pu (ze x19 1) fun x21=>
 Pu (zD Tryz.prog 74) fun x22=>Box 74 x22 H6 fun x23 H7=>
 Pu (zj (some 9) x23 x20 H7) fun H8=>
 Pu (zb (some (some 2)) x16 H8) fun x24=>
 Fc Tryz.prog 21 #[x24] H8 fun x25 H9=>
 Pu (ze x25 0) fun x26=>
 Pu (ze x25 1) fun x27=>
 zS (n:=1) (fun s27 H10=>Any fun _=>
 Ite s27.1
 (R (.tuple #[(.pointer none),(.bool true),(.bool false)]) H10)
 (Pu (zb (some (some 9)) x23 H10) fun x30=>
 Fc Tryz.prog 22 #[x26,x30] H10 fun x31 H11=>
 Pu (ze x31 0) fun x32=>
 Pu (ze x31 1) fun x33=>
 zS (n:=1) (fun s33 H12=>Any fun _=>
 Ite s33.1
 (R (.tuple #[(.pointer none),(.bool true),(.bool false)]) H12)
 (Pu (zb (some (some 2)) x16 H12) fun x36=>
 Fc Tryz.prog 23 #[x36] H12 fun x37 H13=>
 Pu (ze x37 0) fun x38=>
 Pu (ze x37 1) fun x39=>
 Pu (zb (some (some 9)) x23 H13) fun x40=>
 Fc Tryz.prog 24 #[x38,x40] H13 fun x41 H14=>
 Pu (ze x41 0) fun x42=>
 Pu (ze x41 1) fun x43=>
 Pu (zu Tryz.prog 52 [(0,x26),(1,x32),(2,x38),(3,x42)]) fun x44=>
 Box 52 x44 H14 fun x45 H15=>
 Pu (yH Tryz.prog 50 true .neq x42 (.pointer none) H15) fun x46=>
 R (.tuple #[x45,(.bool true),x46]) H15))
 (fun K46=>Pu (yH Tryz.prog 48 true .eql x32 (.pointer none) H11) fun x48=>
 Ite x48
 (K46 ((.bool true),()) H11)
 (Pu (zo (some (.int .i64)) .neq x33 (.int .i64 0)) fun x49=>
 K46 (x49,()) H11))))
 (fun K49=>Pu (yH Tryz.prog 47 true .eql x26 (.pointer none) H9) fun x51=>
 Ite x51
 (K49 ((.bool true),()) H9)
 (Pu (zo (some (.int .i64)) .neq x27 (.int .i64 0)) fun x52=>
 K49 (x52,()) H9)))
theorem fn6 (h:sh6 v0 H R):Fc Tryz.prog 6 #[v0] H R:=
 zs (fun f=>[].contains f) (.seq .nil (.seq .nil (.seq .nil (.seq .nil (.seq .nil (.seq .nil (.seq (.join [45] [40,41,42,43,44] .nil .nil) (.seq .nil (.seq (.join [57] [52,53,54,55,56] .nil .nil) .nil))))))))) Tryz.func6 (args:=[v0]) (Eq.mp (by kernel_rfl:sh6 v0 H R=_) h)
end Go.Proofs
namespace Go.Vc
open Go.Proofs
def DS.claimed (s:DS):DS:={ s with claims:=s.claims+1,claim:=s.claims+1 }
section
variable {H:Hp} {R:Value→Hp→Prop} {p:Nat} {s:DS} {O:Nat→Prop}
theorem disk_claim (h:DiskAt H p s O) (hst:s.stopped=false) (hc:0≤s.claims∧s.claims<4611686018427387904) (k:∀ H',Stp O O H H'→DiskAt H' p s.claimed O→R (.int .i64 (s.claims+1)) H'):Fc Tryz.prog 57 #[z6 p] H R:=by
 refine fn57 ?_
 simp only [sh57]
 refine disk_check h ?_
 obtain ⟨⟨mh,ml,ps,hs,fh,fl,nh,nl,pend,hist,hd,o1,o2,o3,o4,o5⟩,hl⟩:=h
 simp only [hst,Bool.false_eq_true,if_false,zw,za,show decide ((0:Int)≠0)=false from rfl,zn,zc,zi,Nat.zero_add,zq hd.top,Yn,zk]
 rw [zg (by omega) (by omega)]
 refine YP (i:=9) (v:=.int .i64 (s.claims+1)) hd.top (by simp [dkC]) rfl rfl fun H2 k2 s2 g2=>?_
 have hd2:DkC H2 p { s with claims:=s.claims+1 } mh ml ps hs fh fl nh nl pend hist:=hd.turn k2 g2 rfl rfl rfl rfl rfl
 simp only [zq hd2.top,Yn,za]
 refine YP (i:=10) (v:=.int .i64 (s.claims+1)) hd2.top (by simp [dkC]) rfl rfl fun H3 k3 s3 g3=>?_
 have hd3:DkC H3 p s.claimed mh ml ps hs fh fl nh nl pend hist:=hd2.turn k3 g3 rfl rfl rfl rfl rfl
 simp only [zq hd3.top,Yn,za]
 have k13:=k2.trans k3
 refine k H3 (k13.stp fun b hb e=>by subst e; exact o1) ⟨⟨mh,ml,ps,hs,fh,fl,nh,nl,pend,hist,hd3,o1,o2,o3,o4,o5⟩,fun b ho=>Nat.lt_of_lt_of_le (hl b ho) k13.le⟩
theorem disk_claimed (h:DiskAt H p s O) {n:Int} (k:R (.bool (!s.stopped && decide (0<n∧s.claim=n))) H):Fc Tryz.prog 77 #[z6 p,.int .i64 n] H R:=by
 refine fn77 ?_
 simp only [sh77]
 refine disk_check h ?_
 obtain ⟨⟨mh,ml,ps,hs,fh,fl,nh,nl,pend,hist,hd,o1,o2,o3,o4,o5⟩,hl⟩:=h
 cases hst:s.stopped with
 | true=>
   simp only [hst,if_true,zy,za,show decide ((3:Int)=0)=false from rfl,zn,Bool.not_true,Bool.false_and] at k ⊢
   exact k
 | false=>
   simp only [hst,Bool.false_eq_true,if_false,zy,za,decide_true,Zm,zL,zf,zc,zi,Nat.zero_add,zq hd.top,Yn,Bool.not_false,Bool.true_and] at k ⊢
   refine ⟨fun h0=>?_,fun h0=>?_⟩
   · have e:decide (0<n∧s.claim=n)=decide (s.claim=n):=by rw [decide_eq_decide]; exact ⟨fun h=>h.2,fun h=>⟨h0,h⟩⟩
     rw [e] at k; exact k
   · have e:decide (0<n∧s.claim=n)=false:=by rw [decide_eq_false_iff_not]; exact fun h=>h0 h.1
     rw [e] at k; exact k
theorem made_ok (h:DiskAt H p s O) (hn:0<s.n) (k:R (.bool true) H):Fc Tryz.prog 89 #[z6 p] H R:=by
 refine fn89 ?_
 simp only [sh89]
 refine disk_len h ?_
 simp only [zL,za,decide_eq_true hn]
 exact k
theorem header_ok (h:DiskAt H p s O) {B L I:Int} (hB : -9223372036854775808≤B∧B≤9223372036854775807) (hg:Zd B L I) (hn:B≤s.n) (hst:s.stopped=false) (hr:s.reads<4611686018427387904∧0≤s.reads) (hz:s.now 1=zB)
   (k:∀ H',Stp O O H H'→DiskAt H' p { s with reads:=s.reads+1 } O→R (.tuple #[.agg zHd,.int .i64 0]) H'):Fc Tryz.prog 55 #[z6 p,.agg (zp B L I).cells] H R:=by
 have hB1:1≤B:=hg.2.2.2.2.1
 have hD:(zp B L I).dataAt<B:=hg.2.2.2.2.2.2
 have hI:=hg.2.2.1
 have hL:=hg.1
 have h1B:1<B:=by simp only [zp] at hD; omega
 have hrd:s.read 1=({ s with reads:=s.reads+1 },zB,0):=by
   unfold DS.read
   rw [hst,if_neg (by decide),if_neg (by omega),hz]
 refine fn55 ?_
 simp only [sh55,zeroHd,yp,ya,buildHd,za]
 refine yc fun b1 H1 hb1 e1 s1 g1=>?_
 refine yc fun b2 H2 hb2 e2 s2 g2=>?_
 simp only [zP] at g1 g2
 have h2:=(h.ext e1).ext e2
 refine made_ok h2 (by omega) ?_
 simp only [zT,Bool.not_true,za,zn,zi,Nat.zero_add]
 rw [Zp (e2.at g1) (show 0+3≤(zp B L I).cells.size from by rw [Lay.size]; decide),za]
 rw [show ((zp B L I).cells.extract 0 (0+3))=#[zm B,zm L,zm I] from by simp [Lay.cells,zp]]
 refine shape_of hB (fun H3 e3 _=>?_) (fun H3 e3 hno=>absurd hg hno)
 simp only [ze,List.getElem?_toArray,List.getElem?_cons_zero,List.getElem?_cons_succ,za]
 refine yc fun b4 H4 hb4 e4 s4 g4=>?_
 simp only [zP] at g4
 refine Zb g4 rfl rfl (Lay.ok _) fun H5 k5 s5 g5=>?_
 have l3:=e3.le
 have e25:Ext H2 H5:=(e3.trans e4).kpn k5 (by omega)
 have g15:=(e2.trans e25).at g1
 refine zS.mk (fun t H'=>Ext H5 H'∧t.1=.bool false) ?_ ?_
 · rintro ⟨t,u⟩ H6 ⟨e6,ht⟩
   simp only at ht
   subst ht
   simp only [zt,zn,zi,Nat.zero_add,za,zq (e6.at g15)]
   rw [show (zp B L I).cells[3]?=some (zm 1) from rfl,za]
   refine disk_read ((h2.ext e25).ext e6) hr fun H7 st7 d7=>?_
   rw [hrd] at d7 ⊢
   simp only [List.getElem?_toArray,List.getElem?_cons_zero,List.getElem?_cons_succ,za]
   have no:∀ j,H.size≤j→¬ O j:=fun j hj ho=>by have:=h.lt j ho; omega
   have le1:=e1.le
   have le2:=e2.le
   have g17:=st7.kp.at (e6.at g15) (no b1 (by omega))
   have g27:=st7.kp.at ((e25.trans e6).at g2) (no b2 (by omega))
   refine yc fun b8 H8 hb8 e8 s8 g8=>?_
   simp only [zP] at g8
   refine Zb g8 zJ zJ Zn.ok fun H9 k9 s9 g9=>?_
   have e79:Ext H7 H9:=e8.kpn k9 (by omega)
   simp only [zw,za,show decide ((0:Int)≠0)=false from rfl,zn]
   rw [zV (e79.at g17) (Lay.size _),za,zV g9 zJ,za]
   refine decode_zero hB hg fun H10 e10=>?_
   simp only [List.getElem?_toArray,List.getElem?_cons_zero,List.getElem?_cons_succ,za]
   have e710:=e79.trans e10
   refine Zb (e710.at g27) rfl rfl (by rw [← Array.all_toList]; rfl) fun H11 k11 s11 g11=>?_
   rw [zV g11 (show zHd.size=1 from rfl),za]
   have st:Stp O O H H7:=((e1.trans (e2.trans (e25.trans e6))).stp O).trans st7
   have le7:=st7.kp.le
   have le6:=(e25.trans e6).le
   have st':Stp O O H H11:=⟨⟨Nat.le_trans st.kp.le (Nat.le_trans e710.le k11.le),fun j hj hn=>by rw [k11.same j (by have:=st.kp.le; have:=e710.le; omega) (by omega),e710.same j (by have:=st.kp.le; omega)]; exact st.kp.same j hj hn⟩,fun j hj=>.inl hj⟩
   exact k H11 st' ((d7.ext e710).kp k11 fun j ho e=>no j (by omega) ho)
 · simp only [zw,za,show decide ((0:Int)≠0)=false from rfl,zn]
   rw [zV g5 (Lay.size _),za,zV g15 (Lay.size _),za,Ym,eqLay_same]
   simp only [Option.map_some,za,Bool.not_true,zn,zi,Nat.zero_add,zq g15]
   rw [show (zp B L I).cells[0]?=some (zm B) from rfl]
   simp only [za,zl]
   have nb:decide (s.n<B)=false:=by rw [decide_eq_false_iff_not]; omega
   refine ⟨fun H6 e6=>?_,?_,trivial⟩
   · refine disk_len ((h2.ext e25).ext e6) ?_
     simp only [zL,za,nb]
     exact fun H8 e8=>⟨e6.trans e8,trivial⟩
   · intro H6 e6
     refine disk_len ((h2.ext e25).ext e6) ?_
     rw [zq (e6.at g15),show (zp B L I).cells[0]?=some (zm B) from rfl]
     simp only [zL,za,nb]
     exact fun H8 e8=>⟨e6.trans e8,trivial⟩
end
def logC (os:Value) (mb p cb:Nat) (x:Lay) (mine:Int) (op:Bool) (room:Int) (wr:Value) (commits steps:Int):Array Value:=
 #[os,.map (some mb),z6 p,z6 cb,zm x.B,zm x.L,zm x.I,zm x.logAt,zm x.nodeAt,zm x.nodeBlocks,zm x.bitsAt,zm x.bitsBlocks,zm x.dataAt,zm mine,.bool op,zm room,wr,zm commits,zm steps]
theorem build_grp (m:Nat):zu Tryz.prog 137 [(1,.map (some m))]=some (.agg #[.slice none 0 0,.map (some m)]):=by kernel_rfl
theorem build_log (m p cb:Nat) (a b c d e f g h i mine:Int):zu Tryz.prog 139 [(1,z6 p),(2,z6 cb),(3,.agg (Lay.cells ⟨a,b,c,d,e,f,g,h,i⟩)),(4,zm mine),(0,.agg #[.slice none 0 0,.map (some m)])]=some (.agg (logC (.slice none 0 0) m p cb ⟨a,b,c,d,e,f,g,h,i⟩ mine false 0 (.map none) 0 0)):=by kernel_rfl
structure Mk (H0:Hp) (p:Nat) (s:DS) (O:Nat→Prop) (cb:Nat) (sz:Int) (b1:Nat) (x:Lay) (Oc:Nat→Prop) (m:Option Nat) (H:Hp):Prop where
 stp:Stp O O H0 H
 dk:DiskAt H p s O
 ca:CacheAt H cb p sz [] Oc
 oc:∀ b,Oc b→H0.size≤b
 lay:H[b1]?=some (.cells x.cells 74)
 b1:H0.size≤b1
 mp:∀ b,m=some b→MapAt H b (fun _=>none) 0∧H0.size≤b∧¬ Oc b
section
variable {H0 H H':Hp} {R:Value→Hp→Prop} {p:Nat} {s:DS} {O Oc:Nat→Prop} {cb b1:Nat} {sz:Int} {x:Lay} {m:Option Nat}
theorem Mk.ext (h:Mk H0 p s O cb sz b1 x Oc m H) (e:Ext H H'):Mk H0 p s O cb sz b1 x Oc m H':=
 ⟨h.stp.trans (e.stp O),h.dk.ext e,h.ca.ext e,h.oc,e.at h.lay,h.b1,fun b hb=>⟨(h.mp b hb).1.ext e,(h.mp b hb).2⟩⟩
theorem Mk.map (h:Mk H0 p s O cb sz b1 x Oc m H) (e:Ext H H') (g:H'[H.size]?=some (.map #[] 0)):Mk H0 p s O cb sz b1 x Oc (some H.size) H':=by
 have h':=h.ext e
 refine ⟨h'.stp,h'.dk,h'.ca,h'.oc,h'.lay,h'.b1,fun b hb=>?_⟩
 injection hb with hb
 subst hb
 exact ⟨MapAt.new g,h.stp.kp.le,fun ho=>Nat.lt_irrefl _ (h.ca.lt _ ho)⟩
theorem Mk.claim (h:Mk H0 p s O cb sz b1 x Oc m H) (hO:∀ b,O b→b<H0.size) (st:Stp O O H H') (d:DiskAt H' p s.claimed O):Mk H0 p s.claimed O cb sz b1 x Oc m H':=
 have no:∀ j,H0.size≤j→¬ O j:=fun j hj ho=>by have:=hO j ho; omega
 ⟨h.stp.trans st,d,h.ca.kp st.kp fun b hb=>no b (h.oc b hb),h.oc,st.kp.at h.lay (no _ h.b1),h.b1,fun b hb=>⟨(h.mp b hb).1.kp st.kp (no _ (h.mp b hb).2.1),(h.mp b hb).2⟩⟩
set_option maxHeartbeats 2000000 in
theorem wal_new {H:Hp} (h:DiskAt H p s O) {B L I:Int} (hB : -9223372036854775808≤B∧B≤9223372036854775807) (hg:Zd B L I) (hn:B≤s.n) (hst:s.stopped=false) (hr:s.reads<4611686018427387904∧0≤s.reads) (hz:s.now 1=zB) (hc:0≤s.claims∧s.claims<4611686018427387904)
   (k:∀ H' lb mb cb Oc,Stp O O H H'→DiskAt H' p ({ s with reads:=s.reads+1 }:DS).claimed O→CacheAt H' cb p (L+32) [] Oc→MapAt H' mb (fun _=>none) 0→(∀ b,Oc b→H.size≤b)→H.size≤mb→H.size≤lb→¬ Oc mb→¬ Oc lb→lb≠mb →
     H'[lb]?=some (.cells (logC (.slice none 0 0) mb p cb (zp B L I) (s.claims+1) false 0 (.map none) 0 0) 139)→R (.tuple #[z6 lb,.int .i64 0]) H'):Fc Tryz.prog 22 #[z6 p,.agg (zp B L I).cells] H R:=by
 have hL:=hg.1
 have hL2:=hg.2.1
 have hO:=h.lt
 refine fn22 ?_
 simp only [sh22,zeroHd,za]
 refine yc fun b1 H1 hb1 e1 s1 g1=>?_
 simp only [zP] at g1
 rw [zV g1 (Lay.size _),za]
 refine header_ok (h.ext e1) hB hg hn hst hr hz fun H2 st2 d2=>?_
 simp only [ze,List.getElem?_toArray,List.getElem?_cons_zero,List.getElem?_cons_succ,za]
 have no:∀ j,H.size≤j→¬ O j:=fun j hj ho=>by have:=hO j ho; omega
 have g12:=st2.kp.at g1 (no _ (by omega))
 refine yc fun b3 H3 hb3 e3 s3 g3=>?_
 refine Zb g3 rfl rfl (by rw [← Array.all_toList]; rfl) fun H4 k4 s4 g4=>?_
 have e24:Ext H2 H4:=e3.kpn k4 (by omega)
 have hl:lenE Tryz.prog 106 (.slice none 0 0)=some (.int .i64 0):=by kernel_rfl
 simp only [zw,za,show decide ((0:Int)≠0)=false from rfl,zn,zi,Nat.zero_add,zq g4,zHd,List.getElem?_toArray,List.getElem?_cons_zero,hl,zL,show decide ((0:Int) > 0)=false from rfl,zq (e24.at g12)]
 rw [show (zp B L I).cells[1]?=some (zm L) from rfl,za,zk,za,zg (by omega) (by omega)]
 refine cache_new (d2.ext e24) (by omega) (by omega) fun H5 cb e5 ca=>?_
 simp only [List.getElem?_toArray,List.getElem?_cons_zero,List.getElem?_cons_succ,za,zw,show decide ((0:Int)≠0)=false from rfl,zn]
 have st5:Stp O O H H5:=((e1.stp O).trans st2).trans ((e24.trans e5).stp O)
 have m5:Mk H p { s with reads:=s.reads+1 } O cb (L+32) b1 (zp B L I) (fun b=>H4.size≤b∧b<H5.size) none H5:=
   ⟨st5,d2.ext (e24.trans e5),ca,fun b hb=>by have:=e1.le; have:=st2.kp.le; have:=e24.le; omega,(e24.trans e5).at g12,by omega,fun b hb=>by cases hb⟩
 have bl:∀ mb,zu Tryz.prog 139 [(1,z6 p),(2,z6 cb),(3,.agg (zp B L I).cells),(4,zm (s.claims+1)),(0,.agg #[.slice none 0 0,.map (some mb)])]=some (.agg (logC (.slice none 0 0) mb p cb (zp B L I) (s.claims+1) false 0 (.map none) 0 0)):=fun mb=>build_log mb p cb ..
 have fin:∀ Hx mb,Mk H p ({ s with reads:=s.reads+1 }:DS).claimed O cb (L+32) b1 (zp B L I) (fun b=>H4.size≤b∧b<H5.size) (some mb) Hx →
     ∀ Hy,Ext Hx Hy→Box 139 (.agg (logC (.slice none 0 0) mb p cb (zp B L I) (s.claims+1) false 0 (.map none) 0 0)) Hy fun y Hz=>ForX true Hz fun Hw=>R (.tuple #[y,.int .i64 0]) Hw:=fun Hx mb mx Hy ey=>by
   have my:=mx.ext ey
   refine yc fun lb Hz hlb ez sz gz=>?_
   simp only [zP] at gz
   rw [zl]
   intro Hw ew
   have mw:=(my.ext ez).ext ew
   have lty:=my.stp.kp.le
   obtain ⟨q1,q2,q3⟩:=my.mp mb rfl
   exact k Hw lb mb cb _ mw.stp mw.dk mw.ca (mw.mp mb rfl).1 mw.oc q2 (by omega) q3 (fun ho=>by have:=my.ca.lt _ ho; omega) (fun e=>by have:=q1.lt; omega) (ew.at gz)
 have cl:∀ (m:Option Nat) (Hx:Hp) (Rx:Value→Hp→Prop),Mk H p { s with reads:=s.reads+1 } O cb (L+32) b1 (zp B L I) (fun b=>H4.size≤b∧b<H5.size) m Hx →
     (∀ Hy,Mk H p ({ s with reads:=s.reads+1 }:DS).claimed O cb (L+32) b1 (zp B L I) (fun b=>H4.size≤b∧b<H5.size) m Hy→Rx (zm (s.claims+1)) Hy)→Fc Tryz.prog 57 #[z6 p] Hx Rx:=fun m Hx Rx mx hk=>
   disk_claim mx.dk hst hc fun Hy sty dy=>hk Hy (mx.claim hO sty dy)
 have ll:∀ {s':DS} {m:Option Nat} {Hx:Hp},Mk H p s' O cb (L+32) b1 (zp B L I) (fun b=>H4.size≤b∧b<H5.size) m Hx→zb (some (some 9)) (z6 b1) Hx=some (.agg (zp B L I).cells):=fun mx=>zV mx.lay (Lay.size _)
 refine ⟨?_,?_,?_,trivial⟩
 · simp only [ll m5,za]
   refine ⟨?_,?_,trivial⟩
   · rw [zl]
     intro H6 e6
     refine Yj fun mb H7 hm e7 s7 g7=>?_
     subst hm
     have m7:=(m5.ext e6).map e7 g7
     simp only [build_grp,za]
     rw [zl]
     intro H8 e8
     refine cl _ _ _ (m7.ext e8) fun H9 m9=>?_
     simp only [bl,za,zl]
     simp only [zl] at fin
     exact fin H9 _ m9
   · rw [zl]
     intro H6 e6
     refine cl _ _ _ (m5.ext e6) fun H9 m9=>?_
     rw [zl]
     intro H10 e10
     refine Yj fun mb H7 hm e7 s7 g7=>?_
     subst hm
     have m7:=(m9.ext e10).map e7 g7
     simp only [build_grp,bl,za,zl]
     simp only [zl] at fin
     exact fin H7 _ m7
 · rw [zl]
   intro H6 e6
   refine Yj fun mb H7 hm e7 s7 g7=>?_
   subst hm
   have m7:=(m5.ext e6).map e7 g7
   simp only [build_grp,za]
   refine ⟨?_,?_,trivial⟩
   · rw [ll m7,za,zl]
     intro H8 e8
     refine cl _ _ _ (m7.ext e8) fun H9 m9=>?_
     simp only [bl,za,zl]
     simp only [zl] at fin
     exact fin H9 _ m9
   · rw [zl]
     intro H8 e8
     refine cl _ _ _ (m7.ext e8) fun H9 m9=>?_
     simp only [ll m9,bl,za,zl]
     simp only [zl] at fin
     exact fin H9 _ m9
 · rw [zl]
   intro H6 e6
   refine cl _ _ _ (m5.ext e6) fun H9 m9=>?_
   rw [ll m9,za,zl]
   intro H10 e10
   refine Yj fun mb H7 hm e7 s7 g7=>?_
   subst hm
   have m7:=(m9.ext e10).map e7 g7
   simp only [build_grp,bl,za,zl]
   simp only [zl] at fin
   exact fin H7 _ m7
end
structure LogRd (H:Hp) (lb p cb mb:Nat) (s:DS) (cs:List Pl) (x:Lay) (mine:Int) (O Oc:Nat→Prop):Prop where
 dk:DiskAt H p s O
 ca:CacheAt H cb p (x.L+32) cs Oc
 mp:MapAt H mb (fun _=>none) 0
 top:H[lb]?=some (.cells (logC (.slice none 0 0) mb p cb x mine false 0 (.map none) 0 0) 139)
 dis:∀ b,O b→¬ Oc b
 lo:¬ O lb∧¬ Oc lb∧¬ O mb∧¬ Oc mb∧lb≠mb
 mine:0<mine∧s.claim=mine
theorem log_get {os:Value} {mb p cb:Nat} {x:Lay} {mine:Int} {op:Bool} {room:Int} {wr:Value} {co st:Int} :
   (logC os mb p cb x mine op room wr co st)[2]?=some (z6 p)∧(logC os mb p cb x mine op room wr co st)[3]?=some (z6 cb)∧(logC os mb p cb x mine op room wr co st)[4]?=some (zm x.B)∧(logC os mb p cb x mine op room wr co st)[5]?=some (zm x.L)∧(logC os mb p cb x mine op room wr co st)[7]?=some (zm x.logAt)∧(logC os mb p cb x mine op room wr co st)[13]?=some (zm mine):=⟨rfl,rfl,rfl,rfl,rfl,rfl⟩
theorem undLg:Tryz.prog.underlying 48=some (.pointer 139):=by kernel_rfl
section
variable {H:Hp} {R:Value→Hp→Prop} {lb p cb mb:Nat} {s:DS} {cs:List Pl} {x:Lay} {mine:Int} {O Oc:Nat→Prop}
theorem CacheAt.isB {size:Int} (h:CacheAt H cb p size cs Oc) {y:Pl} (hy:y∈cs):IsB y.data:=by
 obtain ⟨⟨row,mp,hC,rfl,_⟩,_⟩:=h
 obtain ⟨z,hz,rfl⟩:=List.mem_map.1 hy
 obtain ⟨c,_,kx⟩:=hC.ring.lks z hz
 exact kx.isB
theorem readC_is {size:Int} (hd:DiskAt H p s O) (hc:CacheAt H cb p size cs Oc) (a:Int):IsB (readC size s cs a).2.2.1∧(readC size s cs a).1.claim=s.claim:=by
 have rcl:(s.read a).1.claim=s.claim:=by unfold DS.read; split; rfl; split <;> rfl
 unfold readC
 split
 · exact ⟨Zn,rfl⟩
 · split
   · rename_i z hz
     exact ⟨hc.isB (List.mem_of_find?_eq_some hz),rfl⟩
   · split
     · exact ⟨Zn,rfl⟩
     · exact ⟨hd.now_is a,rcl⟩
end
end Go.Vc
namespace Go.Proofs
open Go.Vc
variable {H:Hp} {R:Value→Hp→Prop} {v0 v1 v2 v3 v4 v5 v6 v7 v8:Value}
set_option maxRecDepth 100000
def sh139 (v0 v1:Value) (H:Hp) (R:Value→Hp→Prop):Prop:=
 zS (n:=1) (fun s0 H1=>Any fun _=>
 Ite s0.1
 (R (.tuple #[(.int .i64 0),(.int .i64 0)]) H1)
 (Pu (maxE v0 (.int .i64 0)) fun x3=>
 Pu (zo (some (.int .i64)) .lss v0 (.int .i64 0)) fun x4=>
 Ite x4
 (Pu (zo (some (.int .i64)) .add v0 v1) fun x5=>
 Pu (minE (.int .i64 1024) x5) fun x6=>
 Pu (maxE x3 x6) fun x7=>
 R (.tuple #[x3,x7]) H1)
 (Pu (zo (some (.int .i64)) .sub (.int .i64 1024) v0) fun x8=>
 Pu (zo (some (.int .i64)) .lss v1 x8) fun x9=>
 Ite x9
 (Pu (zo (some (.int .i64)) .add v0 v1) fun x10=>
 Pu (maxE x3 x10) fun x11=>
 R (.tuple #[x3,x11]) H1)
 (Pu (maxE x3 (.int .i64 1024)) fun x12=>
 R (.tuple #[x3,x12]) H1))))
 (fun K12=>Pu (zo (some (.int .i64)) .lss v1 (.int .i64 1)) fun x14=>
 Ite x14
 (K12 ((.bool true),()) H)
 (Pu (zo (some (.int .i64)) .geq v0 (.int .i64 1024)) fun x15=>
 Ite x15
 (K12 ((.bool true),()) H)
 (Pu (zo (some (.int .i64)) .lss v0 (.int .i64 0)) fun x16=>
 Ite x16
 (Pu (zo (some (.int .i64)) .add v0 (.int .i64 1)) fun x17=>
 Pu (unE .neg x17) fun x18=>
 Pu (zo (some (.int .i64)) .leq v1 x18) fun x19=>
 K12 (x19,()) H)
 (K12 ((.bool false),()) H))))
theorem fn139 (h:sh139 v0 v1 H R):Fc Tryz.prog 139 #[v0,v1] H R:=
 zs (fun f=>[99,100,140].contains f) (.seq .nil (.seq (.join [24] [8,9,10,11,12,13,14,15,16,17,18,19,20,21,22,23] .nil .nil) .nil)) Tryz.func139 (args:=[v0,v1]) (Eq.mp (by kernel_rfl:sh139 v0 v1 H R=_) h)
def sh98 (v0 v1 v2:Value) (H:Hp) (R:Value→Hp→Prop):Prop:=
 Box 94 v0 H fun x1 H1=>
 Pu (zD Tryz.prog 94) fun x2=>Box 94 x2 H1 fun x3 H2=>
 Pu (lenE Tryz.prog 43 v2) fun x4=>
 Fc Tryz.prog 139 #[v1,x4] H2 fun x5 H3=>
 Pu (ze x5 0) fun x6=>
 Pu (ze x5 1) fun x7=>
 zx (n:=1) (x6,()) H3 (fun K8 s7 H4=>Any fun _=>
 Pu (zo (some (.int .i64)) .lss s7.1 x7) fun x10=>
 Ite x10
 (Pu (zo (some (.int .i64)) .sub s7.1 v1) fun x11=>
 Pu (zh (some (none,1)) v2 x11) fun x12=>
 Pu (zb (some none) x12 H4) fun x13=>
 Pu (zh (some (some 1024,1)) x1 s7.1) fun x14=>
 Pu (zj (some 1) x14 x13 H4) fun H5=>
 Pu (zo (some (.int .i64)) .add s7.1 (.int .i64 1)) fun x15=>
 K8 (x15,()) H5)
 (Pu (zb (some (some 1024)) x1 H4) fun x16=>
 Pu (zj (some 1024) x3 x16 H4) fun H6=>
 Pu (zb (some (some 1024)) x3 H6) fun x17=>
 R x17 H6))
theorem fn98 (h:sh98 v0 v1 v2 H R):Fc Tryz.prog 98 #[v0,v1,v2] H R:=
 zs (fun f=>[99,100,140].contains f) (.seq .nil (.seq .nil (.seq (.seq .nil (.loop [9] [18,19,20,23,24,25,26,27,28,29,30,21,22] .nil)) .nil))) Tryz.func98 (args:=[v0,v1,v2]) (Eq.mp (by kernel_rfl:sh98 v0 v1 v2 H R=_) h)
def sh63 (v0:Value) (H:Hp) (R:Value→Hp→Prop):Prop:=
 Box 149 v0 H fun x1 H1=>
 Pu (zD Tryz.prog 88) fun x2=>Box 88 x2 H1 fun x3 H2=>
 Pu (zu Tryz.prog 94 []) fun x4=>
 Pu (ZO Tryz.prog 149 x1 none none none) fun x5=>
 Fc Tryz.prog 98 #[x4,(.int .i64 0),x5] H2 fun x6 H3=>
 Pu (zD Tryz.prog 94) fun x7=>Box 94 x7 H3 fun x8 H4=>
 Pu (zj (some 1024) x8 x6 H4) fun H5=>
 Pu (zb (some (some 1024)) x8 H5) fun x9=>
 ∃ x10,QC true Tryz.prog 99 #[x9,(.int .i64 0)] H5 x10∧(
 Pu (zb (some (some 1024)) x8 H5) fun x11=>
 ∃ x12,QC true Tryz.prog 99 #[x11,(.int .i64 2)] H5 x12∧(
 Pu (zb (some (some 1024)) x8 H5) fun x13=>
 ∃ x14,QC true Tryz.prog 100 #[x13,(.int .i64 4)] H5 x14∧(
 Pu (zb (some (some 1024)) x8 H5) fun x15=>
 ∃ x16,QC true Tryz.prog 100 #[x15,(.int .i64 8)] H5 x16∧(
 Pu (zb (some (some 1024)) x8 H5) fun x17=>
 ∃ x18,QC true Tryz.prog 100 #[x17,(.int .i64 52)] H5 x18∧(
 Pu (zb (some (some 1024)) x8 H5) fun x19=>
 ∃ x20,QC true Tryz.prog 100 #[x19,(.int .i64 56)] H5 x20∧(
 Pu (zu Tryz.prog 88 [(0,x10),(1,x12),(2,x14),(3,x16),(5,x18),(6,x20)]) fun x21=>
 ForX true H5 fun H6=>
 Pu (zD Tryz.prog 88) fun x22=>Box 88 x22 H6 fun x23 H7=>
 ForX true H7 fun H8=>
 Pu (zj (some 16) x23 x21 H8) fun H9=>
 ForX true H9 fun H10=>
 zx (n:=1) ((.int .i64 0),()) H10 (fun K24 s23 H11=>Any fun _=>
 Pu (zo (some (.int .i64)) .lss s23.1 (.int .i64 10)) fun x26=>
 Ite x26
 (Pu (zb (some (some 1024)) x8 H11) fun x27=>
 Pu (zo (some (.int .i64)) .mul (.int .i64 4) s23.1) fun x28=>
 Pu (zo (some (.int .i64)) .add (.int .i64 12) x28) fun x29=>
 Fc Tryz.prog 100 #[x27,x29] H11 fun x30 H12=>
 Pu (zd (some 4) x23) fun x31=>
 Pu (zh (some (some 10,1)) x31 s23.1) fun x32=>
 Pu (zj (some 1) x32 x30 H12) fun H13=>
 Pu (zo (some (.int .i64)) .add s23.1 (.int .i64 1)) fun x33=>
 K24 (x33,()) H13)
 (Pu (zb (some (some 16)) x23 H11) fun x34=>
 Pu (zj (some 16) x3 x34 H11) fun H14=>
 Pu (zb (some (some 16)) x3 H14) fun x35=>
 R x35 H14))))))))
theorem fn63 (h:sh63 v0 H R):Fc Tryz.prog 63 #[v0] H R:=
 zs (fun f=>[99,100,140].contains f) (.seq .nil (.seq .nil (.seq .nil (.seq (.seq .nil (.loop [22] [23,24,5,25,26,27,28,29,30,31,32,33] .nil)) .nil)))) Tryz.func63 (args:=[v0]) (Eq.mp (by kernel_rfl:sh63 v0 H R=_) h)
def sh62 (v0 v1:Value) (H:Hp) (R:Value→Hp→Prop):Prop:=
 Fc Tryz.prog 97 #[v0] H fun x1 H1=>
 Pu (zD Tryz.prog 74) fun x2=>Box 74 x2 H1 fun x3 H2=>
 Pu (zj (some 9) x3 x1 H2) fun H3=>
 Pu (zd (some 4) x3) fun x4=>
 Pu (zb (some none) x4 H3) fun x5=>
 Pu (zo (some (.int .i64)) .quo v1 (.int .i64 16)) fun x6=>
 Pu (zo (some (.int .i64)) .add x5 x6) fun x7=>
 Pu (zo (some (.int .i64)) .rem v1 (.int .i64 16)) fun x8=>
 Pu (zo (some (.int .i64)) .mul x8 (.int .i64 64)) fun x9=>
 Pu (zo (some (.int .i64)) .geq v1 (.int .i64 1)) fun x10=>
 Ite x10
 (Pu (zd (some 0) x3) fun x11=>
 Pu (zd (some 2) x11) fun x12=>
 Pu (zb (some none) x12 H3) fun x13=>
 Pu (zo (some (.int .i64)) .leq v1 x13) fun x14=>
 R (.tuple #[x7,x9,x14]) H3)
 (R (.tuple #[x7,x9,(.bool false)]) H3)
theorem fn62 (h:sh62 v0 v1 H R):Fc Tryz.prog 62 #[v0,v1] H R:=
 zs (fun f=>[99,100,140].contains f) .nil Tryz.func62 (args:=[v0,v1]) (Eq.mp (by kernel_rfl:sh62 v0 v1 H R=_) h)
def sh25 (v0 v1:Value) (H:Hp) (R:Value→Hp→Prop):Prop:=
 Pu (zD Tryz.prog 88) fun x1=>Box 88 x1 H fun x2 H1=>
 Fc Tryz.prog 34 #[v0] H1 fun x3 H2=>
 Pu (zo (some (.int .i64)) .neq x3 (.int .i64 0)) fun x4=>
 Ite x4
 (Pu (zu Tryz.prog 88 []) fun x5=>
 Pu (zj (some 16) x2 x5 H2) fun H3=>
 Pu (zb (some (some 16)) x2 H3) fun x6=>
 R (.tuple #[x6,x3]) H3)
 (Fc Tryz.prog 62 #[v0,v1] H2 fun x7 H4=>
 Pu (ze x7 0) fun x8=>
 Pu (ze x7 1) fun x9=>
 Pu (ze x7 2) fun x10=>
 Pu (unE .not x10) fun x11=>
 Ite x11
 (Pu (zu Tryz.prog 88 []) fun x12=>
 Pu (zj (some 16) x2 x12 H4) fun H5=>
 Pu (zb (some (some 16)) x2 H5) fun x13=>
 R (.tuple #[x13,(.int .i64 2)]) H5)
 (Fc Tryz.prog 27 #[v0,x8] H4 fun x14 H6=>
 Pu (ze x14 0) fun x15=>
 Pu (ze x14 1) fun x16=>
 Pu (zD Tryz.prog 94) fun x17=>Box 94 x17 H6 fun x18 H7=>
 Pu (zj (some 1024) x18 x15 H7) fun H8=>
 Pu (zo (some (.int .i64)) .neq x16 (.int .i64 0)) fun x19=>
 Ite x19
 (Pu (zu Tryz.prog 88 []) fun x20=>
 Pu (zj (some 16) x2 x20 H8) fun H9=>
 Pu (zb (some (some 16)) x2 H9) fun x21=>
 R (.tuple #[x21,x16]) H9)
 (Pu (zo (some (.int .i64)) .add x9 (.int .i64 64)) fun x22=>
 Pu (ZO Tryz.prog 94 x18 (some x9) (some x22) none) fun x23=>
 Pu (arrE (some 64) x23) fun x24=>
 Pu (zb (some (some 64)) x24 H8) fun x25=>
 Fc Tryz.prog 63 #[x25] H8 fun x26 H10=>
 Pu (zj (some 16) x2 x26 H10) fun H11=>
 Pu (zb (some (some 16)) x2 H11) fun x27=>
 R (.tuple #[x27,(.int .i64 0)]) H11)))
theorem fn25 (h:sh25 v0 v1 H R):Fc Tryz.prog 25 #[v0,v1] H R:=
 zs (fun f=>[99,100,140].contains f) .nil Tryz.func25 (args:=[v0,v1]) (Eq.mp (by kernel_rfl:sh25 v0 v1 H R=_) h)
def sh97 (v0:Value) (H:Hp) (R:Value→Hp→Prop):Prop:=
 Pu (zD Tryz.prog 74) fun x1=>Box 74 x1 H fun x2 H1=>
 Fc Tryz.prog 34 #[v0] H1 fun x3 H2=>
 Pu (zo (some (.int .i64)) .neq x3 (.int .i64 0)) fun x4=>
 Ite x4
 (Pu (zu Tryz.prog 74 []) fun x5=>
 Pu (zj (some 9) x2 x5 H2) fun H3=>
 Pu (zb (some (some 9)) x2 H3) fun x6=>
 R x6 H3)
 (Pu (zc v0) fun x7=>
 Pu (zd (some 4) x7) fun x8=>
 Pu (zb (some (some 9)) x8 H2) fun x9=>
 Pu (zj (some 9) x2 x9 H2) fun H4=>
 Pu (zb (some (some 9)) x2 H4) fun x10=>
 R x10 H4)
theorem fn97 (h:sh97 v0 H R):Fc Tryz.prog 97 #[v0] H R:=
 zs (fun f=>[99,100,140].contains f) .nil Tryz.func97 (args:=[v0]) (Eq.mp (by kernel_rfl:sh97 v0 H R=_) h)
end Go.Proofs
namespace Go.Vc
theorem findP_some {cs:List Pl} {a:Int} {x:Pl} (h:yj cs a=some x):∃ l1 l2,cs=l1++x :: l2∧x.at_=a∧(∀ y∈l1,y.at_≠a)∧outP cs a=l1++l2:=by
 unfold yj at h
 rw [List.find?_eq_some_iff_append] at h
 obtain ⟨h1,l1,l2,rfl,h3⟩:=h
 have ha:x.at_=a:=by simpa using h1
 refine ⟨l1,l2,rfl,ha,fun y hy=>by simpa using h3 y hy,?_⟩
 unfold outP
 exact eraseP_mid (fun y hy=>by have:=h3 y hy; simpa using this) h1
theorem YD {cs:List Pl} {a:Int}:yj cs a=none↔∀ y∈cs,y.at_≠a:=by
 unfold yj
 rw [List.find?_eq_none]
 simp
theorem fastP_app (l1 l2:List Pl):yk (l1++l2)=yk l1+yk l2:=by
 unfold yk; rw [List.filter_append,List.length_append]; omega
theorem fastP_cons (x:Pl) (l:List Pl):yk (x :: l)=(if x.fast then 1 else 0)+yk l:=by
 unfold yk; rw [List.filter_cons]; split <;> simp <;> omega
theorem fastP_nil:yk []=0:=rfl
section
variable {fil:Int→Blk} {size:Nat} {s:DS} {cs:List Pl} {book out:Int→Int} {fast:Int→Bool} {held ZM:Int}
theorem roomP_some {size:Int} {cs cs1:List Pl} (h:roomP size cs=some cs1):yk cs<size∧((cs.length:Int)<size∧cs1=cs∨∃ l1 x l2,cs=l1++x :: l2∧cs1=l1++l2∧x.fast=false∧size≤cs.length):=by
 unfold roomP at h
 split at h
 · cases h
 · rename_i hf
   refine ⟨by omega,?_⟩
   split at h
   · rename_i hl; injection h with h; exact .inl ⟨hl,h.symm⟩
   · rename_i hl
     injection h with h
     refine .inr ?_
     have hex:∃ x∈cs,x.fast=false:=by
       apply Classical.byContradiction
       intro hn
       have hall:∀ x∈cs,x.fast=true:=fun x hx=>by
         cases hxf:x.fast with
         | true=>rfl
         | false=>exact absurd ⟨x,hx,hxf⟩ hn
       have:yk cs=cs.length:=by unfold yk; rw [List.filter_eq_self.2 hall]
       omega
     obtain ⟨x,hx,hxf⟩:=hex
     obtain ⟨y,l1,l2,hy1,hy2,hy3,hy4⟩:=List.exists_of_eraseP hx (p:=fun x=>!x.fast) (by rw [hxf]; rfl)
     exact ⟨l1,y,l2,hy3,by rw [← h,hy4],by simpa using hy2,by omega⟩
theorem nodup_drop {l1 l2:List Pl} {x:Pl} (h:((l1++x :: l2).map (·.at_)).Nodup):((l1++l2).map (·.at_)).Nodup∧∀ y∈l1++l2,y.at_≠x.at_:=by
 rw [List.map_append,List.map_cons,List.nodup_append,List.nodup_cons] at h
 obtain ⟨h1,⟨h2,h3⟩,h4⟩:=h
 refine ⟨by rw [List.map_append,List.nodup_append]; exact ⟨h1,h3,fun a ha b hb=>h4 a ha b (List.mem_cons_of_mem _ hb)⟩,fun y hy e=>?_⟩
 rcases List.mem_append.1 hy with h5 | h5
 · exact h4 y.at_ (List.mem_map.2 ⟨y,h5,rfl⟩) x.at_ List.mem_cons_self e
 · exact h2 (e ▸ List.mem_map.2 ⟨y,h5,rfl⟩)
theorem nodup_snoc {l:List Pl} {x:Pl} (h:(l.map (·.at_)).Nodup) (hx:∀ y∈l,y.at_≠x.at_):((l++[x]).map (·.at_)).Nodup:=by
 rw [List.map_append,List.nodup_append]
 refine ⟨h,by simp,fun a ha b hb e=>?_⟩
 simp only [List.map_cons,List.map_nil,List.mem_singleton] at hb
 obtain ⟨y,hy,rfl⟩:=List.mem_map.1 ha
 exact hx y hy (by rw [e,hb])
theorem memP_mid {l1 l2:List Pl} {x y:Pl}:y∈l1++x :: l2↔y=x∨y∈l1++l2:=by
 simp only [List.mem_append,List.mem_cons]
 constructor
 · rintro (h | h | h)
   · exact .inr (.inl h)
   · exact .inl h
   · exact .inr (.inr h)
 · rintro (h | h | h)
   · exact .inr (.inl h)
   · exact .inl h
   · exact .inr (.inr h)
end
structure Same (s s':DS):Prop where
 n:s'.n=s.n
 now:s'.now=s.now
 held:s'.held=s.held
 fuse:s'.fuse=s.fuse
 stopped:s'.stopped=s.stopped
 made:s'.made=s.made
 claims:s'.claims=s.claims
 claim:s'.claim=s.claim
 pl:s'.pl=s.pl
 hl:s'.hl=s.hl
 reads:s.reads≤s'.reads∧s'.reads≤s.reads+1
theorem Same.refl (s:DS):Same s s:=⟨rfl,rfl,rfl,rfl,rfl,rfl,rfl,rfl,rfl,rfl,by omega⟩
theorem DS.read_same (s:DS) (a:Int):Same s (s.read a).1:=by
 unfold DS.read
 split
 · exact Same.refl s
 · split
   · exact Same.refl s
   · exact ⟨rfl,rfl,rfl,rfl,rfl,rfl,rfl,rfl,rfl,rfl,by show s.reads≤s.reads+1∧s.reads+1≤s.reads+1; omega⟩
end Go.Vc
namespace Go.Proofs
open Go.Vc
variable {H:Hp} {R:Value→Hp→Prop} {v0 v1 v2 v3 v4 v5 v6 v7 v8:Value}
variable {H:Hp} {R:Value→Hp→Prop} {v0 v1 v2 v3 v4 v5 v6 v7 v8:Value}
variable {H:Hp} {R:Value→Hp→Prop} {v0 v1 v2 v3 v4 v5 v6 v7 v8:Value}
set_option maxRecDepth 100000
def sh141 (v0:Value) (H:Hp) (R:Value→Hp→Prop):Prop:=
 Pu (zD Tryz.prog 249) fun x1=>Box 249 x1 H fun x2 H1=>
 zS (n:=1) (fun s2 H2=>Any fun _=>
 Ite s2.1
 (Pu (zu Tryz.prog 249 []) fun x5=>
 Pu (zj (some 3) x2 x5 H2) fun H3=>
 Pu (zb (some (some 3)) x2 H3) fun x6=>
 R x6 H3)
 (Pu (zo (some (.int .i64)) .lss v0 (.int .i64 10)) fun x7=>
 Ite x7
 (Pu (zu Tryz.prog 249 [(0,(.int .u8 1)),(1,v0)]) fun x8=>
 Pu (zj (some 3) x2 x8 H2) fun H4=>
 Pu (zb (some (some 3)) x2 H4) fun x9=>
 R x9 H4)
 (Pu (zo (some (.int .i64)) .lss v0 (.int .i64 266)) fun x10=>
 Ite x10
 (Pu (zo (some (.int .i64)) .sub v0 (.int .i64 10)) fun x11=>
 Pu (zu Tryz.prog 249 [(0,(.int .u8 2)),(1,x11)]) fun x12=>
 Pu (zj (some 3) x2 x12 H2) fun H5=>
 Pu (zb (some (some 3)) x2 H5) fun x13=>
 R x13 H5)
 (Pu (zo (some (.int .i64)) .sub v0 (.int .i64 10)) fun x14=>
 Pu (zo (some (.int .i64)) .sub x14 (.int .i64 256)) fun x15=>
 Pu (zo (some (.int .i64)) .quo x15 (.int .i64 256)) fun x16=>
 Pu (zo (some (.int .i64)) .rem x15 (.int .i64 256)) fun x17=>
 Pu (zu Tryz.prog 249 [(0,(.int .u8 3)),(1,x16),(2,x17)]) fun x18=>
 Pu (zj (some 3) x2 x18 H2) fun H6=>
 Pu (zb (some (some 3)) x2 H6) fun x19=>
 R x19 H6))))
 (fun K19=>Pu (zo (some (.int .i64)) .lss v0 (.int .i64 0)) fun x21=>
 Ite x21
 (K19 ((.bool true),()) H1)
 (Pu (zo (some (.int .i64)) .geq v0 (.int .i64 65802)) fun x22=>
 K19 (x22,()) H1))
theorem fn141 (h:sh141 v0 H R):Fc Tryz.prog 141 #[v0] H R:=
 zs (fun f=>[100].contains f) (.seq .nil (.seq (.join [4] [5,6,7,8,9,10] .nil .nil) .nil)) Tryz.func141 (args:=[v0]) (Eq.mp (by kernel_rfl:sh141 v0 H R=_) h)
def sh101 (v0 v1:Value) (H:Hp) (R:Value→Hp→Prop):Prop:=
 Fc Tryz.prog 141 #[v1] H fun x1 H1=>
 Pu (zD Tryz.prog 249) fun x2=>Box 249 x2 H1 fun x3 H2=>
 Pu (zj (some 3) x3 x1 H2) fun H3=>
 Pu (zd (some 0) x3) fun x4=>
 Pu (zb (some none) x4 H3) fun x5=>
 Pu (zo (some (.int .u8)) .eql x5 (.int .u8 1)) fun x6=>
 Ite x6
 (Pu (zd (some 1) x3) fun x7=>
 Pu (zb (some none) x7 H3) fun x8=>
 Pu (zc v0) fun x9=>
 Pu (zd (some 2) x9) fun x10=>
 Pu (zd (some 4) x10) fun x11=>
 Pu (zh (some (some 10,1)) x11 x8) fun x12=>
 Pu (zb (some none) x12 H3) fun x13=>
 Pu (z9 (some (.int .u32)) (some (.int .i64)) x13) fun x14=>
 R (.tuple #[x14,(.slice none 0 0)]) H3)
 (Pu (zo (some (.int .u8)) .eql x5 (.int .u8 2)) fun x15=>
 Ite x15
 (Pu (zc v0) fun x16=>
 Pu (zd (some 2) x16) fun x17=>
 Pu (zd (some 14) x17) fun x18=>
 Pu (zb (some none) x18 H3) fun x19=>
 Pu (z9 (some (.int .u32)) (some (.int .i64)) x19) fun x20=>
 Pu (zd (some 1) x3) fun x21=>
 Pu (zb (some none) x21 H3) fun x22=>
 ForX true H3 fun H4=>
 Pu (zI Tryz.prog 106) fun x23=>Pu (zH (some x23) 1 [(0,x22)]) fun x24=>NewS x23.type 1 x24 H4 fun x25 H5=>
 ForX true H5 fun H6=>
 R (.tuple #[x20,x25]) H6)
 (Pu (zc v0) fun x26=>
 Pu (zd (some 2) x26) fun x27=>
 Pu (zd (some 15) x27) fun x28=>
 Pu (zb (some none) x28 H3) fun x29=>
 Pu (z9 (some (.int .u32)) (some (.int .i64)) x29) fun x30=>
 Pu (zd (some 1) x3) fun x31=>
 Pu (zb (some none) x31 H3) fun x32=>
 Pu (zd (some 2) x3) fun x33=>
 Pu (zb (some none) x33 H3) fun x34=>
 ForX true H3 fun H7=>
 Pu (zI Tryz.prog 106) fun x35=>Pu (zH (some x35) 2 [(0,x32),(1,x34)]) fun x36=>NewS x35.type 2 x36 H7 fun x37 H8=>
 ForX true H8 fun H9=>
 R (.tuple #[x30,x37]) H9))
theorem fn101 (h:sh101 v0 v1 H R):Fc Tryz.prog 101 #[v0,v1] H R:=
 zs (fun f=>[100].contains f) .nil Tryz.func101 (args:=[v0,v1]) (Eq.mp (by kernel_rfl:sh101 v0 v1 H R=_) h)
def sh142 (v0 v1:Value) (H:Hp) (R:Value→Hp→Prop):Prop:=
 Pu (zc v0) fun x1=>
 Pu (zd (some 0) x1) fun x2=>
 Pu (zb (some none) x2 H) fun x3=>
 Fc Tryz.prog 97 #[x3] H fun x4 H1=>
 Pu (zD Tryz.prog 74) fun x5=>Box 74 x5 H1 fun x6 H2=>
 Pu (zj (some 9) x6 x4 H2) fun H3=>
 zS (n:=1) (fun s6 H4=>Any fun _=>
 Ite s6.1
 (R (.int .i64 4) H4)
 (R (.int .i64 0) H4))
 (fun K8=>Pu (zo (some (.int .i64)) .neq v1 (.int .i64 0)) fun x10=>
 Ite x10
 (Pu (zd (some 8) x6) fun x11=>
 Pu (zb (some none) x11 H3) fun x12=>
 Pu (zo (some (.int .i64)) .lss v1 x12) fun x13=>
 Ite x13
 (K8 ((.bool true),()) H3)
 (Pu (zd (some 0) x6) fun x14=>
 Pu (zd (some 0) x14) fun x15=>
 Pu (zb (some none) x15 H3) fun x16=>
 Pu (zo (some (.int .i64)) .geq v1 x16) fun x17=>
 K8 (x17,()) H3))
 (K8 ((.bool false),()) H3))
theorem fn142 (h:sh142 v0 v1 H R):Fc Tryz.prog 142 #[v0,v1] H R:=
 zs (fun f=>[100].contains f) (.seq .nil (.seq .nil (.seq (.join [25] [11,12,13,14,15,16,17,18,19,20,21,22,23,24] .nil .nil) .nil))) Tryz.func142 (args:=[v0,v1]) (Eq.mp (by kernel_rfl:sh142 v0 v1 H R=_) h)
def sh102 (v0 v1 v2:Value) (H:Hp) (R:Value→Hp→Prop):Prop:=
 Fc Tryz.prog 142 #[v0,v1] H fun x1 H1=>
 Pu (zo (some (.int .i64)) .neq x1 (.int .i64 0)) fun x2=>
 Ite x2
 (R (.tuple #[(.int .i64 0),(.int .i64 0),x1]) H1)
 (Pu (zo (some (.int .i64)) .eql v1 (.int .i64 0)) fun x3=>
 Ite x3
 (R (.tuple #[(.int .i64 0),(.int .i64 0),(.int .i64 0)]) H1)
 (Pu (lenE Tryz.prog 106 v2) fun x4=>
 Pu (zo (some (.int .i64)) .eql x4 (.int .i64 0)) fun x5=>
 Ite x5
 (R (.tuple #[v1,(.int .i64 1),(.int .i64 0)]) H1)
 (Pu (zc v0) fun x6=>
 Pu (zd (some 0) x6) fun x7=>
 Pu (zb (some none) x7 H1) fun x8=>
 Fc Tryz.prog 27 #[x8,v1] H1 fun x9 H2=>
 Pu (ze x9 0) fun x10=>
 Pu (ze x9 1) fun x11=>
 Pu (zD Tryz.prog 94) fun x12=>Box 94 x12 H2 fun x13 H3=>
 Pu (zj (some 1024) x13 x10 H3) fun H4=>
 Pu (zo (some (.int .i64)) .neq x11 (.int .i64 0)) fun x14=>
 Ite x14
 (R (.tuple #[(.int .i64 0),(.int .i64 0),x11]) H4)
 (Pu (zb (some (some 1024)) x13 H4) fun x15=>
 Pu (zh (some (none,1)) v2 (.int .i64 0)) fun x16=>
 Pu (zb (some none) x16 H4) fun x17=>
 Pu (zo (some (.int .i64)) .mul (.int .i64 4) x17) fun x18=>
 ∃ x19,QC true Tryz.prog 100 #[x15,x18] H4 x19∧(
 Pu (z9 (some (.int .u32)) (some (.int .i64)) x19) fun x20=>
 Pu (ZO Tryz.prog 106 v2 (some (.int .i64 1)) none none) fun x21=>
 ForX true H4 fun H5=>
 Fc Tryz.prog 102 #[v0,x20,x21] H5 fun x22 H6=>
 Pu (ze x22 0) fun x23=>
 Pu (ze x22 1) fun x24=>
 Pu (ze x22 2) fun x25=>
 ForX true H6 fun H7=>
 Pu (zo (some (.int .i64)) .add x24 (.int .i64 1)) fun x26=>
 R (.tuple #[x23,x26,x25]) H7)))))
theorem fn102 (h:sh102 v0 v1 v2 H R):Fc Tryz.prog 102 #[v0,v1,v2] H R:=
 zs (fun f=>[100].contains f) .nil Tryz.func102 (args:=[v0,v1,v2]) (Eq.mp (by kernel_rfl:sh102 v0 v1 v2 H R=_) h)
def sh65 (v0 v1:Value) (H:Hp) (R:Value→Hp→Prop):Prop:=
 Fc Tryz.prog 101 #[v0,v1] H fun x1 H1=>
 Pu (ze x1 0) fun x2=>
 Pu (ze x1 1) fun x3=>
 Fc Tryz.prog 102 #[v0,x2,x3] H1 fun x4 H2=>
 Pu (ze x4 0) fun x5=>
 Pu (ze x4 1) fun x6=>
 Pu (ze x4 2) fun x7=>
 Pu (zo (some (.int .i64)) .neq x7 (.int .i64 0)) fun x8=>
 Ite x8
 (R (.tuple #[(.int .i64 0),(.int .i64 0),x7]) H2)
 (Pu (lenE Tryz.prog 106 x3) fun x9=>
 Pu (zo (some (.int .i64)) .add x9 (.int .i64 1)) fun x10=>
 Pu (zo (some (.int .i64)) .sub x10 x6) fun x11=>
 R (.tuple #[x5,x11,(.int .i64 0)]) H2)
theorem fn65 (h:sh65 v0 v1 H R):Fc Tryz.prog 65 #[v0,v1] H R:=
 zs (fun f=>[100].contains f) .nil Tryz.func65 (args:=[v0,v1]) (Eq.mp (by kernel_rfl:sh65 v0 v1 H R=_) h)
def sh64 (v0 v1 v2:Value) (H:Hp) (R:Value→Hp→Prop):Prop:=
 Fc Tryz.prog 34 #[v0] H fun x1 H1=>
 Pu (zo (some (.int .i64)) .neq x1 (.int .i64 0)) fun x2=>
 Ite x2
 (R (.tuple #[(.pointer none),x1]) H1)
 (zS (n:=1) (fun s2 H2=>Any fun _=>
 Ite s2.1
 (R (.tuple #[(.pointer none),(.int .i64 180)]) H2)
 (Fc Tryz.prog 25 #[v0,v1] H2 fun x5 H3=>
 Pu (ze x5 0) fun x6=>
 Pu (ze x5 1) fun x7=>
 Pu (zD Tryz.prog 88) fun x8=>Box 88 x8 H3 fun x9 H4=>
 Pu (zj (some 16) x9 x6 H4) fun H5=>
 Pu (zo (some (.int .i64)) .neq x7 (.int .i64 0)) fun x10=>
 Ite x10
 (R (.tuple #[(.pointer none),x7]) H5)
 (Pu (zb (some (some 16)) x9 H5) fun x11=>
 Pu (zu Tryz.prog 200 [(0,v0),(1,v1),(2,x11)]) fun x12=>
 Box 200 x12 H5 fun x13 H6=>
 R (.tuple #[x13,(.int .i64 0)]) H6)))
 (fun K13=>Ite v2
 (Fc Tryz.prog 37 #[v0] H1 fun x15 H7=>
 Pu (unE .not x15) fun x16=>
 K13 (x16,()) H7)
 (K13 ((.bool false),()) H1)))
theorem fn64 (h:sh64 v0 v1 v2 H R):Fc Tryz.prog 64 #[v0,v1,v2] H R:=
 zs (fun f=>[100].contains f) (.seq .nil (.seq .nil (.seq (.join [21] [16,17,18,19,20] .nil .nil) .nil))) Tryz.func64 (args:=[v0,v1,v2]) (Eq.mp (by kernel_rfl:sh64 v0 v1 v2 H R=_) h)
def sh26 (v0 v1 v2:Value) (H:Hp) (R:Value→Hp→Prop):Prop:=
 Fc Tryz.prog 64 #[v0,v1,(.bool false)] H fun x1 H1=>
 Pu (ze x1 0) fun x2=>
 Pu (ze x1 1) fun x3=>
 Pu (zo (some (.int .i64)) .neq x3 (.int .i64 0)) fun x4=>
 Ite x4
 (R (.tuple #[(.int .i64 0),x3]) H1)
 (zS (n:=1) (fun s4 H2=>Any fun _=>
 Ite s4.1
 (R (.tuple #[(.int .i64 0),(.int .i64 2)]) H2)
 (Fc Tryz.prog 65 #[x2,v2] H2 fun x7 H3=>
 Pu (ze x7 0) fun x8=>
 Pu (ze x7 1) fun x9=>
 Pu (ze x7 2) fun x10=>
 R (.tuple #[x8,x10]) H3))
 (fun K10=>Pu (zo (some (.int .i64)) .lss v2 (.int .i64 0)) fun x12=>
 Ite x12
 (K10 ((.bool true),()) H1)
 (Pu (zo (some (.int .i64)) .geq v2 (.int .i64 65802)) fun x13=>
 K10 (x13,()) H1)))
theorem fn26 (h:sh26 v0 v1 v2 H R):Fc Tryz.prog 26 #[v0,v1,v2] H R:=
 zs (fun f=>[100].contains f) (.seq .nil (.seq .nil (.seq .nil (.seq (.join [26] [21,22,23,24,25] .nil .nil) .nil)))) Tryz.func26 (args:=[v0,v1,v2]) (Eq.mp (by kernel_rfl:sh26 v0 v1 v2 H R=_) h)
def sh9 (v0 v1 v2 v3:Value) (H:Hp) (R:Value→Hp→Prop):Prop:=
 Fc Tryz.prog 25 #[v0,v1] H fun x1 H1=>
 Pu (ze x1 0) fun x2=>
 Pu (ze x1 1) fun x3=>
 Pu (zD Tryz.prog 88) fun x4=>Box 88 x4 H1 fun x5 H2=>
 Pu (zj (some 16) x5 x2 H2) fun H3=>
 Pu (zo (some (.int .i64)) .neq x3 (.int .i64 0)) fun x6=>
 Ite x6
 (R (.tuple #[(.slice none 0 0),x3]) H3)
 (zS (n:=1) (fun s6 H4=>Any fun _=>
 Ite s6.1
 (R (.tuple #[(.slice none 0 0),(.int .i64 2)]) H4)
 (Pu (zd (some 0) x5) fun x9=>
 Pu (zb (some none) x9 H4) fun x10=>
 Pu (zo (some (.int .u16)) .eql x10 (.int .u16 0)) fun x11=>
 Ite x11
 (R (.tuple #[(.slice none 0 0),(.int .i64 4)]) H4)
 (Pu (zd (some 2) x5) fun x12=>
 Pu (zb (some none) x12 H4) fun x13=>
 Pu (z9 (some (.int .u32)) (some (.int .i64)) x13) fun x14=>
 Pu (zo (some (.int .i64)) .geq v2 x14) fun x15=>
 Ite x15
 (R (.tuple #[(.slice none 0 0),(.int .i64 0)]) H4)
 (Pu (zo (some (.int .i64)) .add v2 v3) fun x16=>
 Pu (zd (some 2) x5) fun x17=>
 Pu (zb (some none) x17 H4) fun x18=>
 Pu (z9 (some (.int .u32)) (some (.int .i64)) x18) fun x19=>
 Pu (minE x16 x19) fun x20=>
 Pu (zo (some (.int .i64)) .sub x20 v2) fun x21=>
 Pu (YT (zI Tryz.prog 43) x21 x21 H4) fun x22=>
 zx (n:=1) (v2,()) x22.2 (fun K23 s22 H5=>Any fun _=>
 Pu (zo (some (.int .i64)) .lss s22.1 x20) fun x25=>
 Ite x25
 (Pu (zo (some (.int .i64)) .quo s22.1 (.int .i64 1024)) fun x26=>
 Pu (zo (some (.int .i64)) .add x26 (.int .i64 1)) fun x27=>
 Pu (zo (some (.int .i64)) .mul x27 (.int .i64 1024)) fun x28=>
 Pu (minE x20 x28) fun x29=>
 Pu (zo (some (.int .i64)) .quo s22.1 (.int .i64 1024)) fun x30=>
 Fc Tryz.prog 26 #[v0,v1,x30] H5 fun x31 H6=>
 Pu (ze x31 0) fun x32=>
 Pu (ze x31 1) fun x33=>
 Pu (zo (some (.int .i64)) .neq x33 (.int .i64 0)) fun x34=>
 Ite x34
 (R (.tuple #[(.slice none 0 0),x33]) H6)
 (Pu (zo (some (.int .i64)) .neq x32 (.int .i64 0)) fun x35=>
 Ite x35
 (Fc Tryz.prog 27 #[v0,x32] H6 fun x36 H7=>
 Pu (ze x36 0) fun x37=>
 Pu (ze x36 1) fun x38=>
 Pu (zD Tryz.prog 94) fun x39=>Box 94 x39 H7 fun x40 H8=>
 Pu (zj (some 1024) x40 x37 H8) fun H9=>
 Pu (zo (some (.int .i64)) .neq x38 (.int .i64 0)) fun x41=>
 Ite x41
 (R (.tuple #[(.slice none 0 0),x38]) H9)
 (Pu (zo (some (.int .i64)) .sub s22.1 v2) fun x42=>
 Pu (zo (some (.int .i64)) .sub x29 v2) fun x43=>
 Pu (zo (some (.int .i64)) .sub x29 v2) fun x44=>
 Pu (ZO Tryz.prog 43 x22.1 (some x42) (some x43) (some x44)) fun x45=>
 Pu (zo (some (.int .i64)) .rem s22.1 (.int .i64 1024)) fun x46=>
 Pu (ZO Tryz.prog 94 x40 (some x46) none none) fun x47=>
 Pu (copyE (zI Tryz.prog 43) x45 x47 H9) fun x48=>
 K23 (x29,()) x48.2))
 (K23 (x29,()) H6)))
 (R (.tuple #[x22.1,(.int .i64 0)]) H5))))))
 (fun K48=>Pu (zo (some (.int .i64)) .lss v2 (.int .i64 0)) fun x50=>
 Ite x50
 (K48 ((.bool true),()) H3)
 (Pu (zo (some (.int .i64)) .lss v3 (.int .i64 0)) fun x51=>
 Ite x51
 (K48 ((.bool true),()) H3)
 (Pu (zo (some (.int .i64)) .gtr v3 (.int .i64 65536)) fun x52=>
 K48 (x52,()) H3))))
theorem fn9 (h:sh9 v0 v1 v2 v3 H R):Fc Tryz.prog 9 #[v0,v1,v2,v3] H R:=
 zs (fun f=>[100].contains f) (.seq .nil (.seq .nil (.seq (.seq .nil (.cond .nil (.join [30] [31,32,33,34,35,36,37,38,39,40] .nil .nil))) (.seq .nil (.seq .nil (.seq .nil (.seq (.seq .nil (.loop [14] [62,63,64,65,66,67,68,69,70,15,72,73,74,75,76,71,77,78,16,17,79,80,81,8,9,82,83,85,86,87,84,88,89,18,19,90,91,92,93,94,95,96,97,98,99,100,101,102,103,104,105,106,107,108] .nil)) .nil))))))) Tryz.func9 (args:=[v0,v1,v2,v3]) (Eq.mp (by kernel_rfl:sh9 v0 v1 v2 v3 H R=_) h)
variable {H:Hp} {R:Value→Hp→Prop} {v0 v1 v2 v3 v4 v5 v6 v7 v8:Value}
set_option maxRecDepth 100000
def sh12 (v0 v1:Value) (H:Hp) (R:Value→Hp→Prop):Prop:=
 Pu (lenE Tryz.prog 43 v0) fun x1=>
 Pu (lenE Tryz.prog 43 v1) fun x2=>
 Pu (zo (some (.int .i64)) .neq x1 x2) fun x3=>
 Ite x3
 (R (.bool false) H)
 (zx (n:=1) ((.int .i64 0),()) H (fun K4 s3 H1=>Any fun _=>
 Pu (lenE Tryz.prog 43 v0) fun x6=>
 Pu (zo (some (.int .i64)) .lss s3.1 x6) fun x7=>
 Ite x7
 (Pu (zh (some (none,1)) v0 s3.1) fun x8=>
 Pu (zb (some none) x8 H1) fun x9=>
 Pu (zh (some (none,1)) v1 s3.1) fun x10=>
 Pu (zb (some none) x10 H1) fun x11=>
 Pu (zo (some (.int .u8)) .neq x9 x11) fun x12=>
 Ite x12
 (R (.bool false) H1)
 (Pu (zo (some (.int .i64)) .add s3.1 (.int .i64 1)) fun x13=>
 K4 (x13,()) H1))
 (R (.bool true) H1)))
theorem fn12 (h:sh12 v0 v1 H R):Fc Tryz.prog 12 #[v0,v1] H R:=
 zs (fun f=>[].contains f) (.seq .nil (.seq .nil (.seq (.seq .nil (.loop [5] [11,12,13,14,17,18,19,20,21,22,23,24,25,4,15,16] .nil)) .nil))) Tryz.func12 (args:=[v0,v1]) (Eq.mp (by kernel_rfl:sh12 v0 v1 H R=_) h)
def sh7 (v0:Value) (H:Hp) (R:Value→Hp→Prop):Prop:=
 Pu (zc v0) fun x1=>
 Pu (zd (some 1) x1) fun x2=>
 Pu (zb (some none) x2 H) fun x3=>
 Fc Tryz.prog 9 #[x3,(.int .i64 1),(.int .i64 0),(.int .i64 4)] H fun x4 H1=>
 Pu (ze x4 0) fun x5=>
 Pu (ze x4 1) fun x6=>
 Pu (zo (some (.int .i64)) .eql x6 (.int .i64 0)) fun x7=>
 Ite x7
 (Pu (zI Tryz.prog 43) fun x8=>Pu (zH (some x8) 4 [(0,(.int .u8 1)),(1,(.int .u8 0)),(2,(.int .u8 46)),(3,(.int .u8 0))]) fun x9=>NewS x8.type 4 x9 H1 fun x10 H2=>
 Fc Tryz.prog 12 #[x5,x10] H2 fun x11 H3=>
 R x11 H3)
 (R (.bool false) H1)
theorem fn7 (h:sh7 v0 H R):Fc Tryz.prog 7 #[v0] H R:=
 zs (fun f=>[].contains f) .nil Tryz.func7 (args:=[v0]) (Eq.mp (by kernel_rfl:sh7 v0 H R=_) h)
def sh4 (v0 v1:Value) (H:Hp) (R:Value→Hp→Prop):Prop:=
 Box 28 v0 H fun x1 H1=>
 Pu (zb (some (some 7)) x1 H1) fun x2=>
 Fc Tryz.prog 6 #[x2] H1 fun x3 H2=>
 Pu (ze x3 0) fun x4=>
 Pu (ze x3 1) fun x5=>
 Pu (ze x3 2) fun x6=>
 Pu (unE .not x5) fun x7=>
 Ite x7
 (R (.bool true) H2)
 (zS (n:=1) (fun s7 H3=>Any fun _=>
 Ite s7.1
 (R (.bool false) H3)
 (zS (n:=1) (fun s9 H4=>Any fun _=>
 Pu (zd (some 1) s9.1) fun x12=>
 Pu (zb (some none) x12 H4) fun x13=>
 Pu (zo (some (.int .u16)) .neq x13 (.int .u16 2)) fun x14=>
 Ite x14
 (R (.bool true) H4)
 (zx (n:=1) ((.int .i64 0),()) H4 (fun K15 s14 H5=>Any fun _=>
 Pu (zd (some 6) s9.1) fun x17=>
 Pu (zb (some none) x17 H5) fun x18=>
 Pu (lenE Tryz.prog 38 x18) fun x19=>
 Pu (zo (some (.int .i64)) .lss s14.1 x19) fun x20=>
 Ite x20
 (Pu (zc x4) fun x21=>
 Pu (zd (some 1) x21) fun x22=>
 Pu (zb (some none) x22 H5) fun x23=>
 Pu (zd (some 0) s9.1) fun x24=>
 Pu (zb (some none) x24 H5) fun x25=>
 Pu (zo (some (.int .i64)) .mul (.int .i64 16) s14.1) fun x26=>
 Fc Tryz.prog 9 #[x23,x25,x26,(.int .i64 16)] H5 fun x27 H6=>
 Pu (ze x27 0) fun x28=>
 Pu (ze x27 1) fun x29=>
 Pu (zd (some 6) s9.1) fun x30=>
 Pu (zb (some none) x30 H6) fun x31=>
 Pu (zh (some (none,2)) x31 s14.1) fun x32=>
 Pu (zb (some (some 2)) x32 H6) fun x33=>
 Fc Tryz.prog 13 #[x33] H6 fun x34 H7=>
 Pu (ze x34 0) fun x35=>
 Pu (ze x34 1) fun x36=>
 Pu (zD Tryz.prog 57) fun x37=>Box 57 x37 H7 fun x38 H8=>
 Pu (zj (some 16) x38 x35 H8) fun H9=>
 zS (n:=1) (fun s38 H10=>Any fun _=>
 Ite s38.1
 (R (.bool false) H10)
 (Pu (zo (some (.int .i64)) .add s14.1 (.int .i64 1)) fun x41=>
 K15 (x41,()) H10))
 (fun K41=>Pu (zo (some (.int .i64)) .neq x29 (.int .i64 0)) fun x43=>
 Ite x43
 (K41 ((.bool true),()) H9)
 (Pu (zo (some (.int .i64)) .neq x36 (.int .i64 0)) fun x44=>
 Ite x44
 (K41 ((.bool true),()) H9)
 (Pu (ZO Tryz.prog 57 x38 none none none) fun x45=>
 Fc Tryz.prog 12 #[x28,x45] H9 fun x46 H11=>
 Pu (unE .not x46) fun x47=>
 K41 (x47,()) H11))))
 (Pu (zc x4) fun x48=>
 Pu (zd (some 1) x48) fun x49=>
 Pu (zb (some none) x49 H5) fun x50=>
 Pu (zd (some 0) s9.1) fun x51=>
 Pu (zb (some none) x51 H5) fun x52=>
 Pu (zd (some 3) s9.1) fun x53=>
 Pu (zb (some none) x53 H5) fun x54=>
 Fc Tryz.prog 9 #[x50,x52,x54,(.int .i64 16)] H5 fun x55 H12=>
 Pu (ze x55 0) fun x56=>
 Pu (ze x55 1) fun x57=>
 Pu (zo (some (.int .i64)) .eql x57 (.int .i64 0)) fun x58=>
 Ite x58
 (Pu (lenE Tryz.prog 43 x56) fun x59=>
 Pu (zo (some (.int .i64)) .eql x59 (.int .i64 0)) fun x60=>
 R x60 H12)
 (R (.bool false) H12)))))
 (fun K60=>Pu (zd (some 3) x1) fun x62=>
 Pu (zd (some 0) x62) fun x63=>
 Pu (zd (some 3) x1) fun x64=>
 Pu (zd (some 0) x64) fun x65=>
 Pu (zb (some none) x65 H3) fun x66=>
 Pu (lenE Tryz.prog 24 x66) fun x67=>
 And
 (Pu (zb (some none) x63 H3) fun x84=>
 And
 (ForX true H3 fun H39=>
 Fc Tryz.prog 11 #[v1,x67] H39 fun x90 H40=>
 Pu (zh (some (none,7)) x84 x90) fun x91=>
 Pu (zb (some (some 7)) x91 H40) fun x92=>
 ForX true H40 fun H41=>
 Pu (zD Tryz.prog 40) fun x93=>Box 40 x93 H41 fun x94 H42=>
 ForX true H42 fun H43=>
 Pu (zj (some 7) x94 x92 H43) fun H44=>
 ForX true H44 fun H45=>
 K60 (x94,()) H45)
 (And
 (ForX true H3 fun H32=>
 Pu (zD Tryz.prog 40) fun x85=>Box 40 x85 H32 fun x86 H33=>
 ForX true H33 fun H34=>
 Fc Tryz.prog 11 #[v1,x67] H34 fun x87 H35=>
 Pu (zh (some (none,7)) x84 x87) fun x88=>
 Pu (zb (some (some 7)) x88 H35) fun x89=>
 ForX true H35 fun H36=>
 Pu (zj (some 7) x86 x89 H36) fun H37=>
 ForX true H37 fun H38=>
 K60 (x86,()) H38)
 (True)))
 (And
 (ForX true H3 fun H25=>
 Fc Tryz.prog 11 #[v1,x67] H25 fun x78 H26=>
 Pu (zb (some none) x63 H26) fun x79=>
 Pu (zh (some (none,7)) x79 x78) fun x80=>
 Pu (zb (some (some 7)) x80 H26) fun x81=>
 ForX true H26 fun H27=>
 Pu (zD Tryz.prog 40) fun x82=>Box 40 x82 H27 fun x83 H28=>
 ForX true H28 fun H29=>
 Pu (zj (some 7) x83 x81 H29) fun H30=>
 ForX true H30 fun H31=>
 K60 (x83,()) H31)
 (And
 (ForX true H3 fun H13=>
 Pu (zD Tryz.prog 40) fun x68=>Box 40 x68 H13 fun x69 H14=>
 And
 (Pu (zb (some none) x63 H14) fun x74=>
 ForX true H14 fun H20=>
 Fc Tryz.prog 11 #[v1,x67] H20 fun x75 H21=>
 Pu (zh (some (none,7)) x74 x75) fun x76=>
 Pu (zb (some (some 7)) x76 H21) fun x77=>
 ForX true H21 fun H22=>
 Pu (zj (some 7) x69 x77 H22) fun H23=>
 ForX true H23 fun H24=>
 K60 (x69,()) H24)
 (And
 (ForX true H14 fun H15=>
 Fc Tryz.prog 11 #[v1,x67] H15 fun x70 H16=>
 Pu (zb (some none) x63 H16) fun x71=>
 Pu (zh (some (none,7)) x71 x70) fun x72=>
 Pu (zb (some (some 7)) x72 H16) fun x73=>
 ForX true H16 fun H17=>
 Pu (zj (some 7) x69 x73 H17) fun H18=>
 ForX true H18 fun H19=>
 K60 (x69,()) H19)
 (True)))
 (True))))))
 (fun K94=>Pu (unE .not x6) fun x96=>
 Ite x96
 (K94 ((.bool true),()) H2)
 (Fc Tryz.prog 7 #[x4] H2 fun x97 H46=>
 Pu (unE .not x97) fun x98=>
 K94 (x98,()) H46)))
theorem fn4 (h:sh4 v0 v1 H R):Fc Tryz.prog 4 #[v0,v1] H R:=
 ZB (fun f=>[].contains f) [(6,(.fork [0,1,3,4,5,6,7] (.cons 2 (.fork [] (.cons 8 (.line [9,10,11,12]) (.cons 11 (.line [8,9,10,12]) .nil))) (.cons 8 (.line [2,9,10,11,12]) (.cons 11 (.fork [] (.cons 2 (.line [8,9,10,12]) (.cons 8 (.line [2,9,10,12]) .nil))) .nil)))))] (.seq .nil (.seq .nil (.seq .nil (.seq (.join [30] [24,25,26,27,28,29] .nil .nil) (.join [8] [31,32,33,34,35,36,37,38,39,40,41] .nil (.seq .nil (.seq (.seq .nil (.loop [9] [45,46,47,48,49,53,54,55,56,57,58,59,60,61,52,62,63,10,11,65,66,67,68,69,70,64,71,72,12,13,73,74,75,76,77,78,79,80,81,82,83,84,4,50,51] (.seq .nil (.seq (.seq .nil (.seq .nil (.join [84] [73,74,75,76,77,78,79,80,81,82,83] .nil .nil))) .nil)))) .nil))))))) Tryz.func4 (args:=[v0,v1]) (Eq.mp (by kernel_rfl:sh4 v0 v1 H R=_) h)
end Go.Proofs
namespace Go.Vc
open Go.Proofs
def cntH (H:Hp) (b i:Nat) (f:Int→Nat):Nat:=match zb (some none) (.pointer (some ⟨b,i,none⟩)) H with | some (.int _ x)=>f x | _=>0
theorem cntH_eq {H:Hp} {b i:Nat} {c:Array Value} {T:TypeId} {k:IntKind} {x:Int} {f:Int→Nat} (h:H[b]?=some (.cells c T)) (hx:c[i]?=some (.int k x)):cntH H b i f=f x:=by
 unfold cntH
 rw [zq h,hx]
section
variable {H:Hp} {R:Value→Hp→Prop}
set_option maxHeartbeats 2000000 in
theorem of3 {B L I:Int} (hB : -9223372036854775808≤B∧B≤9223372036854775807) (k:∀ H',Ext H H'→Zd B L I→R (.tuple #[.agg (zp B L I).cells,.int .i64 0]) H') (k2:∀ H',Ext H H'→¬ Zd B L I→R (.tuple #[.agg zLay,.int .i64 2]) H') :
   Fc Tryz.prog 20 #[.agg #[zm B,zm L,zm I]] H R:=by
 refine fn20 ?_
 simp only [sh20,yp,za,zt]
 refine (Lo.start _ H:Lx H H []).box fun b1 H1 _ l1=>?_
 refine l1.box fun b2 H2 _ l2=>?_
 have g1:=l2.at (i:=0) rfl
 simp only [zP] at g1
 have bad:∀ {H':Hp} {l':List Ob} {c:Array Value},Lx H H' (.box b1 c 23 :: .box b2 zLay 74 :: l')→¬ Zd B L I→Pu (zu Tryz.prog 74 []) fun x6=>Pu (zj (some 9) (.pointer (some ⟨b2,0,none⟩)) x6 H') fun H4=>Pu (zb (some (some 9)) (.pointer (some ⟨b2,0,none⟩)) H4) fun x7=>R (.tuple #[x7,.int .i64 2]) H4:=fun l hno=>by
   simp only [buildLay,za]
   refine l.stAll (i:=1) rfl rfl rfl (all9 ..) fun H4 l4=>?_
   simp only [zV (n:=9) (l4.at (i:=1) rfl) rfl,za]
   exact k2 H4 l4.ext0 hno
 refine zS.mk (fun x H'=>H'=H2∧x.1=.bool (decide (¬ (32≤L∧L≤256∧1≤I∧I≤65535∧1≤B∧B≤1048576)))) ?_ ?_
 · rintro ⟨x,u⟩ H3 ⟨rfl,hx⟩
   simp only at hx
   subst hx
   simp only [zf]
   refine ⟨fun hno=>bad l2 fun h=>hno ⟨h.1,h.2.1,h.2.2.1,h.2.2.2.1,h.2.2.2.2.1,h.2.2.2.2.2.1⟩,fun hyes=>?_⟩
   obtain ⟨y1,y2,y3,y4,y5,y6⟩:=Classical.not_not.1 hyes
   simp only [zi,Nat.zero_add,za,zV g1 (show (#[zm B,zm L,zm I]:Array Value).size=3 from rfl),zq g1,List.getElem?_toArray,List.getElem?_cons_zero,List.getElem?_cons_succ,zk]
   rw [zg (x:=1+L) (by omega) (by omega),buildLay3,za]
   refine l2.box fun b5 H5 _ l5=>?_
   refine l5.stAll (i:=2) rfl rfl rfl (all9 ..) fun H6 l6=>?_
   refine zx.mk (fun _ H'=>∃ m:Int,0≤m∧16*(m - 1)<I+1∧Lx H H' [.box b1 #[zm B,zm L,zm I] 23,.box b2 zLay 74,.box b5 #[zm B,zm L,zm I,zm 1,zm (1+L),zm m,zm 0,zm 0,zm 0] 74])
     (fun _ H'=>cntH H' b5 5 fun m=>(I+1 - 16*m).toNat) ⟨0,by omega,by omega,l6⟩ ?_
   rintro _ H7 ⟨m,h0,hm,l7⟩
   have g7:=l7.at (i:=2) rfl
   have g17:=l7.at (i:=0) rfl
   simp only [zi,Nat.zero_add,za,zq g7,zq g17,List.getElem?_toArray,List.getElem?_cons_zero,List.getElem?_cons_succ,zk,zX]
   rw [zg (x:=16*m) (by omega) (by omega),zg (x:=I+1) (by omega) (by omega),zr,za,zf]
   refine ⟨fun hlt=>?_,fun hge=>?_⟩
   · rw [zg (x:=m+1) (by omega) (by omega)]
     refine l7.st (i:=2) (j:=5) (v:=zm (m+1)) rfl (by simp) rfl rfl fun H8 l8=>?_
     have g8:=l8.at (i:=2) rfl
     simp only [List.setIfInBounds_toArray,List.set_cons_succ,List.set_cons_zero] at l8 g8
     refine ⟨⟨m+1,by omega,by omega,l8⟩,?_⟩
     rw [cntH_eq g8 (x:=m+1) rfl,cntH_eq g7 (x:=m) rfl]
     omega
   · have em:m=(I+16) / 16:=by omega
     rw [zg (x:=1+L+m) (by omega) (by omega)]
     refine l7.st (i:=2) (j:=6) (v:=zm (1+L+m)) rfl (by simp) rfl rfl fun H9 l9=>?_
     simp only [List.setIfInBounds_toArray,List.set_cons_succ,List.set_cons_zero] at l9
     refine zx.mk (fun _ H'=>∃ q:Int,0≤q∧8192*(q - 1)<B∧Lx H H' [.box b1 #[zm B,zm L,zm I] 23,.box b2 zLay 74,.box b5 #[zm B,zm L,zm I,zm 1,zm (1+L),zm m,zm (1+L+m),zm q,zm 0] 74])
       (fun _ H'=>cntH H' b5 7 fun q=>(B - 8192*q).toNat) ⟨0,by omega,by omega,l9⟩ ?_
     rintro _ H10 ⟨q,q0,hq,l10⟩
     have g10:=l10.at (i:=2) rfl
     have g110:=l10.at (i:=0) rfl
     simp only [zi,Nat.zero_add,za,zq g10,zq g110,List.getElem?_toArray,List.getElem?_cons_zero,List.getElem?_cons_succ,zk,zX]
     rw [zg (x:=8192*q) (by omega) (by omega),zr,za,zf]
     refine ⟨fun hlt=>?_,fun hge=>?_⟩
     · rw [zg (x:=q+1) (by omega) (by omega)]
       refine l10.st (i:=2) (j:=7) (v:=zm (q+1)) rfl (by simp) rfl rfl fun H11 l11=>?_
       have g11:=l11.at (i:=2) rfl
       simp only [List.setIfInBounds_toArray,List.set_cons_succ,List.set_cons_zero] at l11 g11
       refine ⟨⟨q+1,by omega,by omega,l11⟩,?_⟩
       rw [cntH_eq g11 (x:=q+1) rfl,cntH_eq g10 (x:=q) rfl]
       omega
     · have eq:q=(B+8191) / 8192:=by omega
       rw [zg (x:=1+L+m+q) (by omega) (by omega)]
       refine l10.st (i:=2) (j:=8) (v:=zm (1+L+m+q)) rfl (by simp) rfl rfl fun H12 l12=>?_
       have g12:=l12.at (i:=2) rfl
       have g112:=l12.at (i:=0) rfl
       simp only [List.setIfInBounds_toArray,List.set_cons_succ,List.set_cons_zero] at g12
       simp only [zi,Nat.zero_add,za,zq g12,zq g112,List.getElem?_toArray,List.getElem?_cons_zero,List.getElem?_cons_succ,zQ,zf]
       have er:(#[zm B,zm L,zm I,zm 1,zm (1+L),zm m,zm (1+L+m),zm q,zm (1+L+m+q)]:Array Value)=(zp B L I).cells:=by rw [em,eq]; rfl
       refine ⟨fun hge=>bad l12 fun h=>by have:=h.2.2.2.2.2.2; simp only [zp] at this; omega,fun hlt=>?_⟩
       rw [zV g12 (show _=9 from rfl),za,er]
       refine l12.stAll (i:=1) rfl rfl rfl (Lay.ok _) fun H13 l13=>?_
       simp only [zV (l13.at (i:=1) rfl) (Lay.size _),za]
       exact k H13 l13.ext0 ⟨y1,y2,y3,y4,y5,y6,by simp only [zp]; omega⟩
 · simp only [zi,Nat.zero_add,za,zq g1,List.getElem?_toArray,List.getElem?_cons_zero,List.getElem?_cons_succ,zr,zL,zf]
   refine ⟨fun h=>⟨trivial,?_⟩,fun h1=>⟨fun h=>⟨trivial,?_⟩,fun h2=>⟨fun h=>⟨trivial,?_⟩,fun h3=>⟨fun h=>⟨trivial,?_⟩,fun h4=>⟨fun h=>⟨trivial,?_⟩,fun h5=>⟨trivial,?_⟩⟩⟩⟩⟩⟩
   all_goals (congr 1; simp only [decide_eq_decide,eq_iff_iff,true_iff,decide_eq_true_eq,Bool.true_eq,eq_comm (a:=true)]; omega)
end
def mi (x:Value) (f:Int→Nat):Nat:=match x with | .int _ i=>f i | _=>0
theorem zC {k:IntKind} {i:Int} {f:Int→Nat}:mi (.int k i) f=f i:=rfl
theorem zG {n s b o j:Nat} {k:IntKind} (h:j<n):zh (some (some n,s)) (.pointer (some ⟨b,o,none⟩)) (.int k (j:Int))=some (.pointer (some ⟨b,o+j*s,none⟩)):=by
 rw [idx_arr (by omega) (by omega),Int.toNat_natCast]
theorem u8mod (v:Nat):IntKind.u8.wrap ((v:Int).tmod 256)=((v % 256:Nat):Int):=by
 rw [Za (by omega),u8wrap_id (by omega) (by omega)]; omega
theorem quo256 (v:Nat):(v:Int).tdiv 256=((v / 256:Nat):Int):=by
 rw [Zl (by omega)]; omega
theorem zv {v:Nat} (h:v<9223372036854775808):IntKind.i64.wrap (v:Int)=v:=zg (by omega) (by omega)
theorem u32nat {v:Nat} (h:v<4294967296):IntKind.u32.wrap (v:Int)=v:=Zk (by omega) (by omega)
theorem addN (a b:Nat):(a:Int)+(b:Int)=((a+b:Nat):Int):=by omega
theorem zK (a:Nat):(a:Int)+1=((a+1:Nat):Int):=by omega
theorem yW (n:Nat):(Array.replicate n (Value.int .u8 0)).size=n:=by simp
section
variable {S:Nat→Prop} {H0 H:Hp} {l:List Ob}
theorem Lo.ret {K:Value→Hp→Prop} (h:Lo S H0 H l) {i b n:Nat} {c vs:Array Value} {T:TypeId} (hi:l[i]?=some (.box b c T)) (hj:c.size=n) (hn:vs.size=n) (hv:zF vs)
   (k:∀ H',Lo S H0 H' (l.set i (.box b vs T))→K (.agg vs) H'):Pu (zj (some n) (.pointer (some ⟨b,0,none⟩)) (.agg vs) H) fun H'=>Pu (zb (some (some n)) (.pointer (some ⟨b,0,none⟩)) H') fun x=>K x H':=by
 have hil:i<l.length:=by
   rcases Nat.lt_or_ge i l.length with h1 | h1
   · exact h1
   · rw [List.getElem?_eq_none h1] at hi; cases hi
 refine h.stAll hi hj hn hv fun H' l'=>?_
 have hi':(l.set i (Ob.box b vs T))[i]?=some (.box b vs T):=by rw [List.getElem?_set_self hil]
 rw [zV (l'.at hi') hn,za]
 exact k H' l'
theorem Lo.boxA {T:TypeId} {c:Array Value} {K:Value→Hp→Prop} (h:Lo S H0 H l) (k:∀ b H',Ext H H'→Lo S H0 H' (l++[.box b c T])→K (.pointer (some ⟨b,0,none⟩)) H'):Box T (.agg c) H K:=h.box k
theorem Lo.ld {i b j:Nat} {c:Array Value} {T:TypeId} (h:Lo S H0 H l) (hi:l[i]?=some (.box b c T)):zb (some none) (.pointer (some ⟨b,j,none⟩)) H=c[j]?:=zq (h.at hi)
theorem Lo.ldAll {i b n:Nat} {c:Array Value} {T:TypeId} (h:Lo S H0 H l) (hi:l[i]?=some (.box b c T)) (hn:c.size=n):zb (some (some n)) (.pointer (some ⟨b,0,none⟩)) H=some (.agg c):=zV (h.at hi) hn
end
section
variable {H:Hp} {R:Value→Hp→Prop}
theorem divisor_ok {a b:Nat} (ha:a<9223372036854775808) (hb:b<9223372036854775808) (h:R (zm (Nat.gcd b a:Nat)) H):Fc Tryz.prog 48 #[zm a,zm b] H R:=by
 refine fn48 ?_
 simp only [sh48,zt]
 refine zx.mk (fun s H'=>H'=H∧∃ x y:Nat,s=(zm x,zm y,())∧x<9223372036854775808∧y<9223372036854775808∧Nat.gcd y x=Nat.gcd b a) (fun s _=>mi s.2.1 Int.toNat) ⟨rfl,a,b,rfl,ha,hb,rfl⟩ ?_
 rintro _ H1 ⟨rfl,x,y,rfl,hx,hy,hg⟩
 simp only [zL,za,zf]
 refine ⟨fun hp=>?_,fun hp=>?_⟩
 · rw [zW (by omega),za,Za (by omega)]
   refine ⟨⟨trivial,y,x % y,by rw [Int.natCast_emod]; rfl,hy,Nat.lt_trans (Nat.mod_lt _ (by omega)) hy,?_⟩,?_⟩
   · rw [← hg,Nat.gcd_rec y x]
   · simp only [zC]
     have:x % y<y:=Nat.mod_lt _ (by omega)
     omega
 · have:y=0:=by omega
   subst this
   rw [Nat.gcd_zero_left] at hg
   rw [hg]; exact h
theorem kpick_ok {a n:Int} (ha : -9223372036854775808≤a∧a≤9223372036854775807) (hn:0<n) (hn2:n≤9223372036854775807) (h:R (zm (a % n)) H):Fc Tryz.prog 11 #[zm a,zm n] H R:=by
 refine fn11 ?_
 simp only [sh11]
 rw [zW (by omega),za,zr,za,zf]
 have h1:a % n=if a.tmod n<0 then a.tmod n+n else a.tmod n:=by
   rw [Int.tmod_eq_emod]
   have:=Int.emod_nonneg a (show n≠0 by omega)
   have:=Int.emod_lt_of_pos a hn
   by_cases hc:0≤a∨n ∣ a
   · rw [if_pos hc]; split <;> omega
   · rw [if_neg hc]; rw [Int.natAbs_of_nonneg (by omega)]; split <;> omega
 have h2:a.tmod n<n ∧ -n<a.tmod n:=⟨Int.tmod_lt_of_pos a hn,by have:=Int.lt_tmod_of_pos a hn; omega⟩
 refine ⟨fun hl=>?_,fun hl=>?_⟩
 · rw [zk,za,zg (by omega) (by omega)]
   rw [h1,if_pos hl] at h; exact h
 · rw [h1,if_neg hl] at h; exact h
def markB (k i:Int):Blk:=((zB.setIfInBounds 0 (.int .u8 (IntKind.u8.wrap (IntKind.i64.wrap (k+1))))).setIfInBounds 1 (.int .u8 (IntKind.u8.wrap (IntKind.i64.wrap (i+1))))).setIfInBounds 2 (.int .u8 77)
theorem build3 (x y z:Int):zu Tryz.prog 94 [(0,.int .u8 x),(1,.int .u8 y),(2,.int .u8 z)]=some (.agg (((zB.setIfInBounds 0 (.int .u8 x)).setIfInBounds 1 (.int .u8 y)).setIfInBounds 2 (.int .u8 z))):=by kernel_rfl
theorem u8wrap_lt (x:Int):∃ m:Nat,m<256∧IntKind.u8.wrap x=m:=⟨(x % 256).toNat,by omega,by simp [IntKind.wrap,IntKind.bits,IntKind.signed]; omega⟩
theorem markB_is (k i:Int):IsB (markB k i):=by
 obtain ⟨m,hm,e⟩:=u8wrap_lt (IntKind.i64.wrap (k+1))
 obtain ⟨m',hm',e'⟩:=u8wrap_lt (IntKind.i64.wrap (i+1))
 unfold markB
 rw [e,e']
 exact ((Zn.set 0 hm).set 1 hm').set 2 (m:=77) (by omega)
theorem bmark_ok (k i:Int) (h:∀ H',Ext H H'→R (.agg (markB k i)) H'):Fc Tryz.prog 52 #[zm k,zm i] H R:=by
 refine fn52 ?_
 simp only [sh52,ya,za,zk,zE,build3]
 refine (Lo.start _ H:Lx H H []).box fun b1 H1 _ l1=>?_
 exact l1.ret (i:=0) rfl zJ (markB_is k i).size (markB_is k i).ok fun H' l'=>h H' l'.ext0
def bitB (c:Blk) (i:Nat):Bool:=byt c (i / 8) / 2 ^ (i % 8) % 2 == 1
theorem has_ok {c:Blk} (hc:IsB c) {i:Nat} (hi:i<8192) (h:∀ H',Ext H H'→R (.bool (bitB c i)) H'):Fc Tryz.prog 88 #[.agg c,zm i] H R:=by
 refine fn88 ?_
 simp only [sh88,zt]
 refine (Lo.start _ H:Lx H H []).box fun b1 H1 _ l1=>?_
 refine zS.mk (fun s H'=>H'=H1∧s.1=.bool false) ?_ ?_
 · rintro ⟨x,u⟩ H3 ⟨rfl,hx⟩
   simp only at hx
   subst hx
   simp only [zn]
   rw [Zh (by decide),za,Zl (by omega),zg (by omega) (by omega),show (i:Int) / 8=((i / 8:Nat):Int) by omega,zG (by omega),za,l1.ld (i:=0) rfl,zP,Nat.zero_add,Nat.mul_one,hc.get (by omega),za,zE,za]
   have hb:=hc.lt (i / 8)
   rw [zv (by omega)]
   refine zx.mk (fun s H'=>H'=H3∧∃ k v:Nat,k≤i % 8∧v<256∧v=byt c (i / 8) / 2 ^ k∧s=(zm v,zm k,())) (fun s _=>mi s.2.1 fun k=>(8 - k).toNat) ⟨rfl,0,byt c (i / 8),by omega,hb,by rw [Nat.pow_zero,Nat.div_one],rfl⟩ ?_
   rintro _ H4 ⟨rfl,k,v,hk,hv,ev,rfl⟩
   simp only
   rw [zW (by decide),za,Za (by omega),zr,za,zf]
   refine ⟨fun hlt=>?_,fun hge=>?_⟩
   · rw [Zh (by decide),za,Zl (by omega),zg (by omega) (by omega),zk,za,zg (by omega) (by omega)]
     refine ⟨⟨by trivial,k+1,v / 2,by omega,by omega,by rw [ev,Nat.div_div_eq_div_mul,Nat.pow_succ],?_⟩,by simp only [zC]; omega⟩
     rw [zK,show (v:Int) / 2=((v / 2:Nat):Int) by omega]; rfl
   · have ek:k=i % 8:=by omega
     rw [zW (by decide),za,Za (by omega),zy,za]
     have e:decide ((v:Int) % 2=1)=bitB c i:=by
       unfold bitB
       rw [ev,ek,Bool.eq_iff_iff,decide_eq_true_eq,beq_iff_eq]; omega
     rw [e]
     exact h _ l1.ext0
 · simp only [zr,zQ,za,zf]
   refine ⟨fun hh=>by omega,fun _=>⟨by trivial,?_⟩⟩
   rw [decide_eq_false (by omega)]
def setB (c:Blk) (i:Nat):Blk:=if bitB c i then c else c.setIfInBounds (i / 8) (.int .u8 ((byt c (i / 8)+2 ^ (i % 8):Nat) % 256:Nat))
theorem setB_is {c:Blk} (hc:IsB c) (i:Nat):IsB (setB c i):=by
 unfold setB
 split
 · exact hc
 · exact hc.set _ (Nat.mod_lt _ (by omega))
theorem set_ok {c:Blk} (hc:IsB c) {i:Nat} (hi:i<8192) (h:∀ H',Ext H H'→R (.agg (setB c i)) H'):Fc Tryz.prog 51 #[.agg c,zm i,.bool true] H R:=by
 refine fn51 ?_
 simp only [sh51,ya,za,zt]
 refine (Lo.start _ H:Lx H H []).box fun b1 H1 _ l1=>?_
 refine l1.box fun b2 H2 _ l2=>?_
 simp only [zP] at l2
 refine zS.mk (fun s H'=>Lx H H' [.box b1 c 94,.box b2 zB 94]∧s.1=.bool (bitB c i)) ?_ ?_
 · rintro ⟨x,u⟩ H3 ⟨l3,hx⟩
   simp only at hx
   subst hx
   simp only [Zz]
   refine ⟨fun hb=>?_,fun hb=>?_⟩
   · rw [l3.ldAll (i:=0) rfl hc.size,za]
     refine l3.ret (i:=1) rfl zJ hc.size hc.ok fun H' l'=>?_
     have:=h H' l'.ext0
     rw [setB,if_pos hb] at this; exact this
   · refine zx.mk (fun s H'=>H'=H3∧∃ k v:Nat,k≤i % 8∧v=2 ^ k∧s=(.int .u8 v,zm k,())) (fun s _=>mi s.2.1 fun k=>(8 - k).toNat) ⟨rfl,0,1,by omega,rfl,rfl⟩ ?_
     rintro _ H4 ⟨rfl,k,v,hk,ev,rfl⟩
     have hp:v≤2 ^ 7:=by rw [ev]; exact Nat.pow_le_pow_right (by omega) (by omega)
     simp only
     rw [zW (by decide),za,Za (by omega),zr,za,zf]
     refine ⟨fun hlt=>?_,fun hge=>?_⟩
     · have hp2:v≤2 ^ 6:=by rw [ev]; exact Nat.pow_le_pow_right (by omega) (by omega)
       rw [zX,za,zk,za,zg (by omega) (by omega)]
       refine ⟨⟨by trivial,k+1,v*2,by omega,by rw [ev,Nat.pow_succ],?_⟩,by simp only [zC]; omega⟩
       rw [u8wrap_id (by omega) (by omega),zK,show (2:Int)*(v:Int)=((v*2:Nat):Int) by omega]; rfl
     · have ek:k=i % 8:=by omega
       refine zS.mk (fun _ H'=>Lx H H' [.box b1 (setB c i) 94,.box b2 zB 94]) ?_ ?_
       · intro s H5 l5
         rw [l5.ldAll (i:=0) rfl (setB_is hc i).size,za]
         exact l5.ret (i:=1) rfl zJ (setB_is hc i).size (setB_is hc i).ok fun H' l'=>h H' l'.ext0
       · refine ⟨fun _=>?_,fun hh=>by cases hh⟩
         rw [Zh (by decide),za,za,Zl (by omega),zg (by omega) (by omega),show (i:Int) / 8=((i / 8:Nat):Int) by omega,zG (by omega),za,l3.ld (i:=0) rfl,Nat.zero_add,Nat.mul_one,hc.get (by omega),za,zk,za,za]
         refine l3.st (i:=0) (j:=i / 8) (v:=.int .u8 (IntKind.u8.wrap ((byt c (i / 8):Int)+(v:Int)))) rfl (by rw [hc.size]; omega) rfl rfl fun H5 l5=>?_
         have e2:IntKind.u8.wrap ((byt c (i / 8):Int)+(v:Int))=(((byt c (i / 8)+2 ^ (i % 8):Nat) % 256:Nat):Int):=by
           rw [← ek,← ev]
           simp [IntKind.wrap,IntKind.bits,IntKind.signed]
         rw [e2] at l5
         have e3:setB c i=c.setIfInBounds (i / 8) (.int .u8 ((byt c (i / 8)+2 ^ (i % 8):Nat) % 256:Nat)):=by rw [setB,if_neg (by rw [hb]; decide)]
         rw [e3]
         exact l5
 · simp only [zr,zQ,za,zf]
   refine ⟨fun hh=>by omega,fun _=>⟨fun hh=>by omega,fun _=>?_⟩⟩
   rw [l2.ldAll (i:=0) rfl hc.size,za]
   refine has_ok hc hi fun H' e=>?_
   rw [binE_eqb,za]
   refine ⟨l2.ext e,?_⟩
   simp
end
abbrev zR (n:Nat):Array Value:=Array.replicate n (.int .u8 0)
theorem zero64:zD Tryz.prog 148=some (.agg (zR 64)):=by kernel_rfl
theorem InoOk.lt {f:Ino} (h:InoOk f) {j:Nat} (hj:j<16):f j<4294967296:=by
 have:=h j hj
 unfold fw at this
 split at this <;> omega
theorem ZI (f:Ino):∀ j,2≤j→j<16→(Zs f)[j]?=some (.int .u32 (f j))
 | 0,h,_ | 1,h,_=>by omega
 | 2,_,_ | 3,_,_ | 4,_,_ | 5,_,_ | 6,_,_ | 7,_,_ | 8,_,_ | 9,_,_ | 10,_,_ | 11,_,_ | 12,_,_ | 13,_,_ | 14,_,_ | 15,_,_=>rfl
 | n+16,_,h=>by omega
def numG (f:Ino) (i:Nat):Array Value:=((List.range 12).map fun j=>Value.int .u32 (if j<i then f (4+j) else 0:Nat)).toArray
theorem ZR (f:Ino) (i:Nat):(numG f i).size=12:=by simp [numG]
theorem numG_get (f:Ino) (i:Nat) {j:Nat} (hj:j<12):(numG f i)[j]?=some (.int .u32 (if j<i then f (4+j) else 0:Nat)):=by
 simp only [numG,List.getElem?_toArray,List.getElem?_map,List.getElem?_range hj,Option.map_some]
theorem numG_set (f:Ino) {i:Nat} (hi:i<12):(numG f i).setIfInBounds i (.int .u32 (f (4+i)))=numG f (i+1):=by
 apply Array.ext_getElem?
 intro j
 rw [Array.getElem?_setIfInBounds]
 by_cases hj:j<12
 · rw [numG_get _ _ hj,numG_get _ _ hj]
   by_cases h1:i=j
   · subst h1; simp [ZR,hi]
   · rw [if_neg h1]
     by_cases h2:j<i
     · rw [if_pos h2,if_pos (by omega)]
     · rw [if_neg h2,if_neg (by omega)]
 · rw [if_neg (by omega),Array.getElem?_eq_none (by rw [ZR]; omega),Array.getElem?_eq_none (by rw [ZR]; omega)]
theorem numG_ok (f:Ino) (i:Nat):zF (numG f i):=by unfold zF; rw [← Array.all_toList,List.all_eq_true]; intro x hx; simp only [numG,List.mem_map] at hx; obtain ⟨j,_,rfl⟩:=hx; rfl
theorem zero12 (f:Ino):zD Tryz.prog 239=some (.agg (numG f 0)):=by kernel_rfl
section
variable {H:Hp} {R:Value→Hp→Prop}
theorem put10 {c:Array Value} (hc:IsN 64 c) {a n v:Nat} (ha:a+n≤64) (hv:v<4294967296) (k:∀ H',Ext H H'→R (.agg (seB c a n v)) H'):Fc Tryz.prog 133 #[.agg c,zm a,zm n,.int .u32 v] H R:=by
 refine fn133 ?_
 simp only [sh133,zero64,za,zt]
 refine (Lo.start _ H:Lx H H []).boxA fun b1 H1 _ l1=>?_
 refine l1.boxA fun b2 H2 _ l2=>?_
 refine zx.mk (fun s H'=>∃ (i:Nat) (ci:Array Value) (vi:Nat),i≤n∧vi<4294967296∧IsN 64 ci∧seB ci (a+i) (n - i) vi=seB c a n v∧s=(.int .u32 vi,zm i,())∧Lx H H' [.box b1 ci 148,.box b2 (zR 64) 148])
   (fun s _=>mi s.2.1 fun i=>(n - i).toNat) ⟨0,c,v,by omega,hv,hc,rfl,rfl,l2⟩ ?_
 rintro _ H3 ⟨i,ci,vi,hi,hvi,hci,he,rfl,l3⟩
 simp only [zr,za,zf]
 refine ⟨fun hlt=>?_,fun hge=>?_⟩
 · rw [zk,za,addN,zv (by omega),zW (by decide),za,zE,za,u8mod,zG (by omega),za,Nat.zero_add,Nat.mul_one]
   refine l3.st (i:=0) (j:=a+i) (v:=.int .u8 (vi % 256:Nat)) rfl (by rw [hci.size]; omega) rfl rfl fun H4 l4=>?_
   rw [Zh (by decide),za,quo256,u32nat (by omega),zk,za,zK,zv (by omega)]
   refine ⟨⟨i+1,_,vi / 256,by omega,by omega,hci.set _ (Nat.mod_lt _ (by omega)),?_,rfl,l4⟩,by simp only [zC]; omega⟩
   rw [← he,show n - i=(n - (i+1))+1 by omega]; rfl
 · have e:i=n:=by omega
   subst e
   rw [Nat.sub_self] at he
   have he:ci=seB c a i v:=he
   rw [← he] at k
   rw [l3.ldAll (i:=0) rfl hci.size,za]
   exact l3.ret (i:=1) rfl (yW 64) hci.size hci.ok fun H' l'=>k H' l'.ext0
theorem numbers10 (f:Ino) (k:∀ H',Ext H H'→R (.agg (numG f 12)) H'):Fc Tryz.prog 134 #[.agg (Zs f)] H R:=by
 refine fn134 ?_
 simp only [sh134,zero12 f,za,zt]
 refine (Lo.start _ H:Lx H H []).boxA fun b1 H1 _ l1=>?_
 refine l1.boxA fun b2 H2 _ l2=>?_
 refine l2.boxA fun b3 H3 _ l3=>?_
 refine zx.mk (fun s H'=>∃ i:Nat,i≤10∧s=(zm i,())∧Lx H H' [.box b1 (Zs f) 88,.box b2 (numG f 0) 239,.box b3 (numG f i) 239])
   (fun s _=>mi s.1 fun i=>(10 - i).toNat) ⟨0,by omega,rfl,l3⟩ ?_
 rintro _ H4 ⟨i,hi,rfl,l4⟩
 simp only [zr,za,zf]
 refine ⟨fun hlt=>?_,fun hge=>?_⟩
 · rw [zi,za,zG (by omega),za,l4.ld (i:=0) rfl,Nat.zero_add,Nat.mul_one,ZI f (4+i) (by omega) (by omega),za,zG (by omega),za,Nat.zero_add,Nat.mul_one]
   refine l4.st (i:=2) (j:=i) (v:=.int .u32 (f (4+i))) rfl (by rw [ZR]; omega) rfl rfl fun H5 l5=>?_
   rw [numG_set f (by omega)] at l5
   rw [zk,za,zK,zv (by omega)]
   exact ⟨⟨i+1,by omega,rfl,l5⟩,by simp only [zC]; omega⟩
 · have e:i=10:=by omega
   subst e
   rw [zi,za,l4.ld (i:=0) rfl,ZI f (0+14) (by omega) (by omega),za,show (10:Int)=((10:Nat):Int) from rfl,zG (by omega),za]
   refine l4.st (i:=2) (j:=10) (v:=.int .u32 (f (4+10))) rfl (by rw [ZR]; omega) rfl rfl fun H5 l5=>?_
   rw [numG_set f (by omega)] at l5
   rw [zi,za,l5.ld (i:=0) rfl,ZI f (0+15) (by omega) (by omega),za,show (11:Int)=((11:Nat):Int) from rfl,zG (by omega),za]
   refine l5.st (i:=2) (j:=11) (v:=.int .u32 (f (4+11))) rfl (by rw [ZR]; omega) rfl rfl fun H6 l6=>?_
   rw [numG_set f (by omega)] at l6
   rw [l6.ldAll (i:=2) rfl (ZR _ _),za]
   exact l6.ret (i:=1) rfl (ZR _ _) (ZR _ _) (numG_ok _ _) fun H' l'=>k H' l'.ext0
theorem enc10 {f:Ino} (hf:InoOk f) (k:∀ H',Ext H H'→R (.agg (encN f)) H'):Fc Tryz.prog 85 #[.agg (Zs f)] H R:=by
 have hz:IsN 64 (zR 64):=yi 64
 have hl:=fun n=>layN_is (f:=f) hz 0 n
 have h0:=hf 0 (by omega)
 have h1:=hf 1 (by omega)
 have h2:=hf.lt (j:=2) (by omega)
 have h3:=hf.lt (j:=3) (by omega)
 simp only [fw,Nat.reduceLT,if_true,Nat.reducePow] at h0 h1
 refine fn85 ?_
 simp only [sh85,zero64,zero12 f,za,zt]
 refine (Lo.start _ H:Lx H H []).boxA fun b1 H1 _ l1=>?_
 refine l1.boxA fun b2 H2 _ l2=>?_
 refine l2.boxA fun b3 H3 _ l3=>?_
 rw [l3.ldAll (i:=2) (n:=64) rfl (yW 64),za,zi,za,l3.ld (i:=0) rfl,show (Zs f)[0+0]?=some (.int .u16 (f 0)) from rfl,za,zE,za,u32nat (by omega)]
 refine put10 (a:=0) (n:=2) hz (by omega) (by omega) fun H4 e4=>?_
 refine (l3.ext e4).stAll (i:=2) (vs:=layN (zR 64) 0 f 1) rfl (yW 64) (hl 1).size (hl 1).ok fun H5 l5=>?_
 rw [l5.ldAll (i:=2) (n:=64) rfl (hl 1).size,za,zi,za,l5.ld (i:=0) rfl,show (Zs f)[0+1]?=some (.int .u16 (f 1)) from rfl,za,zE,za,u32nat (by omega)]
 refine put10 (a:=2) (n:=2) (hl 1) (by omega) (by omega) fun H6 e6=>?_
 refine (l5.ext e6).stAll (i:=2) (vs:=layN (zR 64) 0 f 2) rfl (hl 1).size (hl 2).size (hl 2).ok fun H7 l7=>?_
 rw [l7.ldAll (i:=2) (n:=64) rfl (hl 2).size,za,zi,za,l7.ld (i:=0) rfl,ZI f (0+2) (by omega) (by omega),za]
 refine put10 (a:=4) (n:=4) (hl 2) (by omega) h2 fun H8 e8=>?_
 refine (l7.ext e8).stAll (i:=2) (vs:=layN (zR 64) 0 f 3) rfl (hl 2).size (hl 3).size (hl 3).ok fun H9 l9=>?_
 rw [l9.ldAll (i:=2) (n:=64) rfl (hl 3).size,za,zi,za,l9.ld (i:=0) rfl,ZI f (0+3) (by omega) (by omega),za]
 refine put10 (a:=8) (n:=4) (hl 3) (by omega) h3 fun H10 e10=>?_
 refine (l9.ext e10).stAll (i:=2) (vs:=layN (zR 64) 0 f 4) rfl (hl 3).size (hl 4).size (hl 4).ok fun H11 l11=>?_
 rw [l11.ldAll (i:=0) (n:=16) rfl (zz f),za]
 refine numbers10 f fun H12 e12=>?_
 refine (l11.ext e12).boxA fun b4 H13 _ l13=>?_
 refine l13.stAll (i:=3) (vs:=numG f 12) rfl (ZR _ _) (ZR _ _) (numG_ok _ _) fun H14 l14=>?_
 refine zx.mk (fun s H'=>∃ i:Nat,i≤12∧s=(zm i,())∧Lx H H' [.box b1 (Zs f) 88,.box b2 (zR 64) 148,.box b3 (layN (zR 64) 0 f (4+i)) 148,.box b4 (numG f 12) 239])
   (fun s _=>mi s.1 fun i=>(12 - i).toNat) ⟨0,by omega,rfl,l14⟩ ?_
 rintro _ H15 ⟨i,hi,rfl,l15⟩
 simp only [zr,za,zf]
 refine ⟨fun hlt=>?_,fun hge=>?_⟩
 · rw [l15.ldAll (i:=2) (n:=64) rfl (hl _).size,za,zX,za,zg (by omega) (by omega),zk,za,zg (by omega) (by omega),zG (by omega),za,l15.ld (i:=3) rfl,Nat.zero_add,Nat.mul_one,numG_get f 12 (by omega),if_pos (by omega),za,show (12:Int)+4*(i:Int)=((12+4*i:Nat):Int) by omega]
   refine put10 (a:=12+4*i) (n:=4) (hl _) (by omega) (hf.lt (by omega)) fun H16 e16=>?_
   have es:seB (layN (zR 64) 0 f (4+i)) (12+4*i) 4 (f (4+i))=layN (zR 64) 0 f (4+(i+1)):=by
     show _=seB (layN (zR 64) 0 f (4+i)) (0+fo (4+i)) (fw (4+i)) (f (4+i))
     rw [show 0+fo (4+i)=12+4*i by unfold fo; rw [if_neg (by omega)]; omega,show fw (4+i)=4 by unfold fw; rw [if_neg (by omega)]]
   rw [es]
   refine (l15.ext e16).stAll (i:=2) rfl (hl _).size (hl _).size (hl _).ok fun H17 l17=>?_
   rw [zk,za,zK,zv (by omega)]
   exact ⟨⟨i+1,by omega,rfl,l17⟩,by simp only [zC]; omega⟩
 · have e:i=12:=by omega
   subst e
   rw [l15.ldAll (i:=2) (n:=64) rfl (hl _).size,za]
   exact l15.ret (i:=1) rfl (yW 64) (hl 16).size (hl 16).ok fun H' l'=>k H' l'.ext0
end
end Go.Vc
