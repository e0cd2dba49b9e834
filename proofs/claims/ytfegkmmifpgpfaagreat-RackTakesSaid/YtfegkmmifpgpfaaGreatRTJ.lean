/- Parts of a proof, joined in build order: a calculus of contracts, contracts of functions. -/
import Derived.Test.YtfegkmmifpgpfaaGreatRTI
import Derived.Test.YtfegkmmifpgpfaaGreatRTG
import Derived.Test.YtfegkmmifpgpfaaGreatRTH
set_option linter.unusedVariables false
set_option linter.unusedSimpArgs false
namespace Go.Vc
open Go.Proofs Classical
noncomputable def elM (l : List Int) : Int → Option Value := fun k => if k ∈ l then some (.agg #[]) else none
def cdOb (p cb : Nat) (size : Int) (s : DS) (cs : List Pl) : Ob :=
 ⟨fun H O => (∃ Od Oc, DiskAt H p s Od ∧ CacheAt H cb p size cs Oc ∧ (∀ b, Od b → ¬ Oc b) ∧ (∀ b, Od b → O b) ∧ ∀ b, Oc b → O b) ∧ ∀ b, O b → b < H.size, fun h => h.2,
  fun ⟨⟨Od, Oc, h1, h2, h3, h4, h5⟩, _⟩ hb hs ho hl => ⟨⟨Od, Oc, h1.of (fun b hh => hb b (h4 b hh)) hs, h2.of (fun b hh => hb b (h5 b hh)) hs, h3, fun b hh => ho b (h4 b hh), fun b hh => ho b (h5 b hh)⟩, hl⟩⟩
def mpOb (mb : Nat) (f : Int → Option Value) (n : Nat) : Ob := .of (fun H O => MapAt H mb f n ∧ O mb) fun h hb _ ho => ⟨h.1.of (hb _ h.2), ho _ h.2⟩
noncomputable def wrOb (w : Option (List Int)) (v : Value) : Ob := .of (fun H O => match w with
   | none => v = .map none
   | some l => ∃ wb, v = .map (some wb) ∧ MapAt H wb (elM l) l.length ∧ O wb) fun {H H' O O'} h hb _ ho => by
 cases w with
 | none => exact h
 | some l =>
   obtain ⟨wb, h1, h2, h3⟩ := h
   exact ⟨wb, h1, h2.of (hb _ h3), ho _ h3⟩
structure PSt where
 s : DS
 cs : List Pl
 order : List Int
 open_ : Bool
 room : Int
 wrote : Option (List Int)
 commits : Int
 steps : Int
noncomputable def plAll (lb p cb mb : Nat) (ov wv : Value) (x : Lay) (mine : Int) (P : PSt) : List Ob :=
 [cdOb p cb (x.L + 32) P.s P.cs, mpOb mb (elM P.order) P.order.length, .sl 3 1 ov (P.order.map nI), wrOb P.wrote wv, .box lb (logC ov mb p cb x mine P.open_ P.room wv P.commits P.steps) 100]
noncomputable def ZL (lb p : Nat) (x : Lay) (mine : Int) (P : PSt) : Ob :=
 ⟨fun H O => ∃ cb mb ov wv, (Ob.all (plAll lb p cb mb ov wv x mine P)).at_ H O,
  fun ⟨_, _, _, _, h⟩ => Ob.own _ h, fun ⟨cb, mb, ov, wv, h⟩ hb hs ho hl => ⟨cb, mb, ov, wv, Ob.frame _ h hb hs ho hl⟩⟩
structure POk (x : Lay) (mine : Int) (P : PSt) : Prop where
 alive : P.s.stopped = false
 mine : 0 < mine ∧ P.s.claim = mine
 vw : Vw P.s P.cs
 n : x.B ≤ P.s.n
 reads : P.s.reads < 4611686018427387904 ∧ 0 ≤ P.s.reads
 lay : x.logAt = 1 ∧ 32 ≤ x.L ∧ x.L ≤ 256 ∧ x.B ≤ 1048576
 fast : Zx P.cs ≤ P.order.length
 few : (P.order.length : Int) ≤ x.L - 1
 clen : (P.cs.length : Int) ≤ x.L + 32
 held : ∀ a ∈ P.order, ∃ y, Zz P.cs a = some y ∧ y.fast = true
structure Rd (x : Lay) (P : PSt) (s' : DS) (cs' : List Pl) (m : Int) : Prop where
 n : s'.n = P.s.n
 now : s'.now = P.s.now
 held : s'.held = P.s.held
 fuse : s'.fuse = P.s.fuse
 stopped : s'.stopped = P.s.stopped
 made : s'.made = P.s.made
 claims : s'.claims = P.s.claims
 claim : s'.claim = P.s.claim
 pl : s'.pl = P.s.pl
 hl : s'.hl = P.s.hl
 reads : P.s.reads ≤ s'.reads ∧ s'.reads ≤ P.s.reads + m
 vw : Vw s' cs'
 view : ∀ b, Zg s' cs' b = Zg P.s P.cs b
 fast : Zx cs' = Zx P.cs
 keep : ∀ b y, Zz P.cs b = some y → y.fast = true → Zz cs' b = some y
 clen : (cs'.length : Int) ≤ x.L + 32
theorem Rd.refl {x : Lay} {mine : Int} {P : PSt} (h : POk x mine P) : Rd x P P.s P.cs 0 := ⟨rfl, rfl, rfl, rfl, rfl, rfl, rfl, rfl, rfl, rfl, by omega, h.vw, fun _ => rfl, rfl, fun _ _ h _ => h, h.clen⟩
theorem Rd.mk1 {x : Lay} {P : PSt} {s' : DS} {cs' : List Pl} (hs : Same P.s s') (hv : Vw s' cs') (h1 : ∀ b, Zg s' cs' b = Zg P.s P.cs b) (h2 : Zx cs' = Zx P.cs) (h3 : ∀ b y, Zz P.cs b = some y → y.fast = true → Zz cs' b = some y) (h4 : (cs'.length : Int) ≤ x.L + 32) : Rd x P s' cs' 1 :=
 ⟨hs.n, hs.now, hs.held, hs.fuse, hs.stopped, hs.made, hs.claims, hs.claim, hs.pl, hs.hl, hs.reads, hv, h1, h2, h3, h4⟩
theorem Rd.trans {x : Lay} {P : PSt} {s1 s2 : DS} {c1 c2 : List Pl} {m n k : Int} (h : Rd x P s1 c1 m) (g : Rd x { P with s := s1, cs := c1 } s2 c2 n) (hk : m + n ≤ k) : Rd x P s2 c2 k := by
 have h1 := h.reads
 have h2 := g.reads
 have h2 : s1.reads ≤ s2.reads ∧ s2.reads ≤ s1.reads + n := h2
 exact ⟨g.n.trans h.n, g.now.trans h.now, g.held.trans h.held, g.fuse.trans h.fuse, g.stopped.trans h.stopped, g.made.trans h.made, g.claims.trans h.claims, g.claim.trans h.claim, g.pl.trans h.pl, g.hl.trans h.hl, by omega, g.vw, fun b => (g.view b).trans (h.view b), g.fast.trans h.fast, fun b y h1 h2 => g.keep b y (h.keep b y h1 h2) h2, g.clen⟩
theorem Rd.mono {x : Lay} {P : PSt} {s' : DS} {cs' : List Pl} {m n : Int} (h : Rd x P s' cs' m) (hm : m ≤ n) : Rd x P s' cs' n := { h with reads := ⟨h.reads.1, by have := h.reads.2; omega⟩ }
theorem Rd.ok {x : Lay} {mine : Int} {P : PSt} {s' : DS} {cs' : List Pl} {m : Int} (hs : Rd x P s' cs' m) (h : POk x mine P) (hr : P.s.reads + m < 4611686018427387904) : POk x mine { P with s := s', cs := cs' } := by
 have h1 := hs.reads
 have h2 := h.reads
 exact ⟨by show s'.stopped = false; rw [hs.stopped]; exact h.alive, ⟨h.mine.1, by show s'.claim = mine; rw [hs.claim]; exact h.mine.2⟩, hs.vw, by show x.B ≤ s'.n; rw [hs.n]; exact h.n, ⟨by show s'.reads < _; omega, by show 0 ≤ s'.reads; omega⟩, h.lay, by show Zx cs' ≤ _; rw [hs.fast]; exact h.fast, h.few, hs.clen, fun a ha => by
   obtain ⟨y, q1, q2⟩ := h.held a ha
   exact ⟨y, hs.keep a y q1 q2, q2⟩⟩
section
variable {H : Hp} {R : Value → Hp → Prop} {lb p cb mb : Nat} {s : DS} {cs : List Pl} {x : Lay} {mine : Int} {O : Nat → Prop} {ov wr : Value} {op : Bool} {room co st : Int}
theorem check_top (ht : H[lb]? = some (.cells (logC ov mb p cb x mine op room wr co st) 100)) (hd : DiskAt H p s O) (hm : 0 < mine ∧ s.claim = mine) (k : R (.int .i64 (if s.stopped then 3 else 0)) H) : Fc Tryz.prog 36 #[z7 lb] H R := by
 obtain ⟨q2, q3, q4, q5, q7, q13⟩ := log_get (os := ov) (mb := mb) (p := p) (cb := cb) (x := x) (mine := mine) (op := op) (room := room) (wr := wr) (co := co) (st := st)
 refine fn36 ?_
 simp only [sh36, zu]
 refine zT.mk (fun t H' => H' = H ∧ t.1 = .bool false) ?_ ?_
 · rintro ⟨t, u⟩ H1 ⟨rfl, ht'⟩
   simp only at ht'
   subst ht'
   simp only [zl, zc, za, zh, Nat.zero_add, zo ht, q2, q13]
   refine disk_claimed hd ?_
   have e : decide (0 < mine ∧ s.claim = mine) = true := decide_eq_true hm
   rw [e, Bool.and_true]
   cases hst : s.stopped <;> simp only [hst, if_true, Bool.false_eq_true, if_false, zM, Bool.not_true, Bool.not_false, za, zZ, zl] at k ⊢ <;> exact k
 · simp only [Yc undLg, za, zl, zc, zh, Nat.zero_add, zo ht, q2, Yc undDk]
   exact ⟨trivial, trivial⟩
theorem logs_top (ht : H[lb]? = some (.cells (logC ov mb p cb x mine op room wr co st) 100)) {a : Int} (hx : 0 ≤ x.logAt ∧ x.logAt < 4611686018427387904 ∧ 0 ≤ x.L ∧ x.L < 4611686018427387904) (k : R (.bool (decide (x.logAt ≤ a ∧ a < x.logAt + x.L))) H) : Fc Tryz.prog 45 #[z7 lb, .int .i64 a] H R := by
 obtain ⟨q2, q3, q4, q5, q7, q13⟩ := log_get (os := ov) (mb := mb) (p := p) (cb := cb) (x := x) (mine := mine) (op := op) (room := room) (wr := wr) (co := co) (st := st)
 refine fn45 ?_
 simp only [sh45, zc, za, zh, Nat.zero_add, Nat.reduceAdd, zo ht, q7, q5, zY, zk, zf]
 refine ⟨fun h0 => ?_, fun h0 => ?_⟩
 · rw [zg (by omega) (by omega), zt, za]
   have e : decide (a < x.logAt + x.L) = decide (x.logAt ≤ a ∧ a < x.logAt + x.L) := by rw [decide_eq_decide]; omega
   rw [e]; exact k
 · have e : decide (x.logAt ≤ a ∧ a < x.logAt + x.L) = false := by rw [decide_eq_false_iff_not]; omega
   rw [e] at k; exact k
theorem pl_pcs {S : Nat → Prop} {H0 : Hp} {r : List Ob} {P : PSt} (l : Lo S H0 H (plAll lb p cb mb ov wr x mine P ++ r)) : H[lb]? = some (.cells (logC ov mb p cb x mine P.open_ P.room wr P.commits P.steps) 100) ∧ ∃ Od Oc, DiskAt H p P.s Od ∧ CacheAt H cb p (x.L + 32) P.cs Oc ∧ ∀ b, Od b → ¬ Oc b := by
 refine ⟨l.at (i := 4) rfl, ?_⟩
 obtain ⟨O, ho⟩ := l.get (i := 0) (x := cdOb p cb (x.L + 32) P.s P.cs) rfl
 obtain ⟨⟨Od, Oc, h1, h2, h3, _⟩, _⟩ := ho
 exact ⟨Od, Oc, h1, h2, h3⟩
theorem YT {P : PSt} (h : (ZL lb p x mine P).at_ H O) (hok : POk x mine P) (k : R (.int .i64 0) H) : Fc Tryz.prog 36 #[z7 lb] H R := by
 obtain ⟨cb, mb, ov, wv, ha⟩ := h
 obtain ⟨ht, Od, Oc, hd, _⟩ := pl_pcs (r := []) (Lo.open ha)
 refine check_top ht hd hok.mine ?_
 rw [hok.alive]; exact k
theorem pl_open {P : PSt} (h : (ZL lb p x mine P).at_ H O) (hok : POk x mine P) (k : R (.bool P.open_) H) : Fc Tryz.prog 38 #[z7 lb] H R := by
 refine fn38 ?_
 simp only [sh38]
 refine YT h hok ?_
 rw [zA, za, decide_eq_true rfl, zZ]
 obtain ⟨cb, mb, ov, wv, ha⟩ := h
 obtain ⟨ht, _⟩ := pl_pcs (r := []) (Lo.open ha)
 simp only [zc, zh, Nat.zero_add, Nat.add_zero, za]
 rw [zo ht, show (logC ov mb p cb x mine P.open_ P.room wv P.commits P.steps)[14]? = some (.bool P.open_) from rfl, za]
 exact k
theorem pl_read {P : PSt} (h : (ZL lb p x mine P).at_ H O) (hok : POk x mine P) {a : Int} (h0 : 0 ≤ a) (h1 : a < x.B) (hlog : a < 1 ∨ 1 + x.L ≤ a)
   (k : ∀ H' O' s' cs', Stp O O' H H' → (ZL lb p x mine { P with s := s', cs := cs' }).at_ H' O' → Rd x P s' cs' 1 → IsB (Zg P.s P.cs a) → R (.tuple #[.agg (Zg P.s P.cs a), .int .i64 0]) H') : Fc Tryz.prog 18 #[z7 lb, .int .i64 a] H R := by
 obtain ⟨hx1, hx2, hx3, hx4⟩ := hok.lay
 have hall := h
 obtain ⟨cb, mb, ov, wv, ha⟩ := h
 have hn := hok.n
 have hf := hok.fast
 have hfew := hok.few
 have hw : P.s.wrong a = 0 := by unfold DS.wrong; rw [if_neg (by rw [hok.alive]; decide), if_neg (by omega)]
 obtain ⟨s', cs', e, hsame, hvw, hview, hfp, hkp⟩ := view_read (size := x.L + 32) hok.vw hw (by omega)
 have hlen' := readC_len (size := x.L + 32) (s := P.s) (cs := P.cs) (a := a) hok.clen
 rw [e] at hlen'
 refine fn18 ?_
 simp only [sh18, Z0, za, zu]
 refine (Lo.open ha).boxA fun b1 H1 e1 l1 => ?_
 obtain ⟨ht, Od, Oc, hd, hc, hdis⟩ := pl_pcs (r := [_]) l1
 obtain ⟨q2, q3, q4, q5, q7, q13⟩ := log_get (os := ov) (mb := mb) (p := p) (cb := cb) (x := x) (mine := mine) (op := P.open_) (room := P.room) (wr := wv) (co := P.commits) (st := P.steps)
 refine check_top ht hd hok.mine ?_
 rw [hok.alive]
 simp only [Bool.false_eq_true, if_false]
 rw [zx, za, decide_eq_false (by omega), zl]
 refine zT.mk (fun t H' => H' = H1 ∧ t.1 = .bool false) ?_ ?_
 · rintro ⟨t, u⟩ H2 ⟨rfl, ht'⟩
   simp only at ht'
   subst ht'
   rw [zl]
   refine logs_top ht (by omega) ?_
   rw [decide_eq_false (by omega), zl]
   simp only [zc, zh, Nat.zero_add, Nat.add_zero, za]
   rw [zo ht, q3, za]
   obtain ⟨O1, ⟨⟨Od1, Oc1, d1, d2, d3, d4, d5⟩, dO⟩, st1⟩ := l1.call (i := 0) (x := cdOb p cb (x.L + 32) P.s P.cs) rfl
   refine cache_read d1 d2 d3 hok.reads (by omega) fun H3 Oc' k3 hoc hd3 hc3 => ?_
   have hib := (readC_is (size := x.L + 32) d1 d2 a).1
   rw [e] at hd3 hc3 hib ⊢
   have l3 := st1 H3 (cdOb p cb (x.L + 32) s' cs') (fun b => O1 b ∨ Oc' b) ⟨k3.mono fun b _ hb => by
       rcases hb with hb | hb
       · exact d4 b hb
       · exact d5 b hb, fun b hb => by
       rcases hb with hb | hb
       · exact .inl hb
       · rcases hoc b hb with h2 | h2
         · exact .inl (d5 b h2)
         · exact .inr h2⟩ ⟨⟨Od1, Oc', hd3, hc3, fun b hb hb2 => by
       rcases hoc b hb2 with h2 | h2
       · exact d3 b hb h2
       · have := d1.lt b hb; omega, fun b hb => .inl (d4 b hb), fun b hb => .inr hb⟩, fun b hb => by
       rcases hb with hb | hb
       · exact Nat.lt_of_lt_of_le (dO b hb) k3.le
       · exact hc3.lt b hb⟩
   have l3 : Lo O H H3 (plAll lb p cb mb ov wv x mine { P with s := s', cs := cs' } ++ [.box b1 zB 65]) := l3
   rw [show ze (.tuple #[.agg (Zg P.s P.cs a), .int .i64 0]) 0 = some (.agg (Zg P.s P.cs a)) from rfl, za, show ze (.tuple #[.agg (Zg P.s P.cs a), .int .i64 0]) 1 = some (.int .i64 0) from rfl, za]
   refine l3.ret (i := 5) (K := fun y H4 => R (.tuple #[y, .int .i64 0]) H4) rfl zI hib.size hib.ok fun H' l' => ?_
   obtain ⟨O', stt, ha'⟩ := Lo.close (l := plAll lb p cb mb ov wv x mine { P with s := s', cs := cs' }) (r := [_]) l'
   exact k H' O' s' cs' stt ⟨cb, mb, ov, wv, ha'⟩ (.mk1 hsame hvw hview hfp hkp hlen') hib
 · rw [zt, za, decide_eq_false (by omega), zl]
   simp only [zc, zh, Nat.zero_add, Nat.add_zero, za]
   rw [zo ht, q4, za, zY, za, decide_eq_false (by omega)]
   exact ⟨trivial, rfl⟩
end
end Go.Vc
namespace Go.Vc
open Go.Proofs Classical
theorem elM_nil : elM [] = fun _ => none := by funext k; simp [elM]
section
variable {H : Hp} {R : Value → Hp → Prop} {lb p cb mb : Nat} {s : DS} {cs : List Pl} {x : Lay} {mine : Int} {O : Nat → Prop} {ov wr : Value} {op : Bool} {room co st : Int}
theorem log_pl (h : (logOb lb p s cs x mine).at_ H O) : (ZL lb p x mine ⟨s, cs, [], false, 0, none, 0, 0⟩).at_ H O := by
 obtain ⟨⟨cb, mb, Od, Oc, hl, q1, q2, q3, q4⟩, hO⟩ := h
 have hlb : lb < H.size := (Array.getElem?_eq_some_iff.1 hl.top).1
 refine ⟨cb, mb, .slice none 0 0, .map none, ⟨fun b => if Od b ∨ Oc b then 1 else if b = mb then 2 else if b = lb then 5 else 0, ⟨fun i y hy => ?_, fun b hb => ?_⟩, fun b hb => ?_⟩, hO⟩
 · match i, hy with
   | 0, hy =>
     injection hy with hy; subst hy
     refine ⟨⟨Od, Oc, hl.dk, hl.ca, hl.dis, fun b hb => ?_, fun b hb => ?_⟩, fun b hb => ?_⟩
     · show (if Od b ∨ Oc b then 1 else if b = mb then 2 else if b = lb then 5 else 0) = 0 + 1; rw [if_pos (.inl hb)]
     · show (if Od b ∨ Oc b then 1 else if b = mb then 2 else if b = lb then 5 else 0) = 0 + 1; rw [if_pos (.inr hb)]
     · have hb : (if Od b ∨ Oc b then 1 else if b = mb then 2 else if b = lb then 5 else 0) = 0 + 1 := hb
       by_cases e : Od b ∨ Oc b
       · rcases e with e | e
         · exact hl.dk.lt b e
         · exact hl.ca.lt b e
       · rw [if_neg e] at hb
         split at hb
         · omega
         · split at hb <;> omega
   | 1, hy =>
     injection hy with hy; subst hy
     refine ⟨⟨by show MapAt H mb (elM []) 0; rw [elM_nil]; exact hl.mp, ?_⟩, fun b hb => ?_⟩
     · show (if Od mb ∨ Oc mb then 1 else if mb = mb then 2 else if mb = lb then 5 else 0) = 1 + 1; rw [if_neg (by rintro (e | e); exact hl.lo.2.2.1 e; exact hl.lo.2.2.2.1 e), if_pos rfl]
     · have hb : (if Od b ∨ Oc b then 1 else if b = mb then 2 else if b = lb then 5 else 0) = 1 + 1 := hb
       split at hb
       · omega
       · split at hb
         · rename_i e; rw [e]; exact hl.mp.lt
         · split at hb <;> omega
   | 2, hy =>
     injection hy with hy; subst hy
     refine ⟨⟨Sv.nil _ _ _, fun b hb => by cases hb⟩, fun b hb => ?_⟩
     have hb : (if Od b ∨ Oc b then 1 else if b = mb then 2 else if b = lb then 5 else 0) = 2 + 1 := hb
     split at hb
     · omega
     · split at hb
       · omega
       · split at hb <;> omega
   | 3, hy =>
     injection hy with hy; subst hy
     refine ⟨rfl, fun b hb => ?_⟩
     have hb : (if Od b ∨ Oc b then 1 else if b = mb then 2 else if b = lb then 5 else 0) = 3 + 1 := hb
     split at hb
     · omega
     · split at hb
       · omega
       · split at hb <;> omega
   | 4, hy =>
     injection hy with hy; subst hy
     refine ⟨⟨hl.top, ?_⟩, fun b hb => ?_⟩
     · show (if Od lb ∨ Oc lb then 1 else if lb = mb then 2 else if lb = lb then 5 else 0) = 4 + 1; rw [if_neg (by rintro (e | e); exact hl.lo.1 e; exact hl.lo.2.1 e), if_neg hl.lo.2.2.2.2, if_pos rfl]
     · have hb : (if Od b ∨ Oc b then 1 else if b = mb then 2 else if b = lb then 5 else 0) = 4 + 1 := hb
       split at hb
       · omega
       · split at hb
         · omega
         · split at hb
           · rename_i e; rw [e]; exact hlb
           · omega
   | n + 5, hy => simp [plAll] at hy
 · have h1 : ¬ (Od b ∨ Oc b) := by
     rintro (e | e)
     · have := hl.dk.lt b e; omega
     · have := hl.ca.lt b e; omega
   have h2 : b ≠ mb := fun e => by have := hl.mp.lt; omega
   show (if Od b ∨ Oc b then 1 else if b = mb then 2 else if b = lb then 5 else 0) = 0
   rw [if_neg h1, if_neg h2, if_neg (by omega)]
 · have hb : (if Od b ∨ Oc b then 1 else if b = mb then 2 else if b = lb then 5 else 0) ≠ 0 := hb
   by_cases e : Od b ∨ Oc b
   · rcases e with e | e
     · exact q1 b e
     · exact q2 b e
   · rw [if_neg e] at hb
     by_cases e2 : b = mb
     · rw [e2]; exact q3
     · rw [if_neg e2] at hb
       by_cases e3 : b = lb
       · rw [e3]; exact q4
       · rw [if_neg e3] at hb; exact absurd rfl hb
theorem pl_layout {P : PSt} (h : (ZL lb p x mine P).at_ H O) (hok : POk x mine P) (k : ∀ H', Ext H H' → R (.agg x.cells) H') : Fc Tryz.prog 17 #[z7 lb] H R := by
 refine fn17 ?_
 simp only [sh17, yt, za]
 refine (Lo.start _ H : Lx H H []).boxA fun b1 H1 e1 l1 => ?_
 obtain ⟨O1, h1⟩ := ((Lo.own h).ext e1).get (i := 0) rfl
 refine YT h1 hok ?_
 rw [zx, za, decide_eq_false (by omega), zl]
 obtain ⟨cb, mb, ov, wv, ha⟩ := h1
 obtain ⟨ht, _⟩ := pl_pcs (r := []) (Lo.open ha)
 simp only [zc, zh, Nat.zero_add, Nat.add_zero, za]
 rw [Zj ht (show 4 + 9 ≤ 19 by omega), za, logC_lay]
 exact l1.ret (i := 0) rfl rfl (Lay.size _) (Lay.cok _) fun H' l' => k H' l'.ext0
theorem pl_begin {P : PSt} (h : (ZL lb p x mine P).at_ H O) (hok : POk x mine P) (hop : P.open_ = false) {r : Int} (h1 : 1 ≤ r) (h2 : (P.order.length : Int) + r ≤ x.L - 1)
   (k : ∀ H' O', Stp O O' H H' → (ZL lb p x mine { P with open_ := true, room := r, wrote := some [] }).at_ H' O' → R (.int .i64 0) H') : Fc Tryz.prog 11 #[z7 lb, zm r] H R := by
 obtain ⟨hx1, hx2, hx3, hx4⟩ := hok.lay
 refine fn11 ?_
 simp only [sh11, zu]
 refine YT h hok ?_
 rw [zx, za, decide_eq_false (by omega), zl]
 obtain ⟨cb, mb, ov, wv, ha⟩ := h
 have l0 : Lo O H H [cdOb p cb (x.L + 32) P.s P.cs, mpOb mb (elM P.order) P.order.length, .sl 3 1 ov (P.order.map nI), wrOb P.wrote wv, .box lb (logC ov mb p cb x mine P.open_ P.room wv P.commits P.steps) 100] := Lo.open ha
 have g0 : (logC ov mb p cb x mine P.open_ P.room wv P.commits P.steps)[0]? = some ov := rfl
 have g5 : (logC ov mb p cb x mine P.open_ P.room wv P.commits P.steps)[5]? = some (zm x.L) := rfl
 have g14 : (logC ov mb p cb x mine P.open_ P.room wv P.commits P.steps)[14]? = some (.bool P.open_) := rfl
 simp only [zc, zh, Nat.zero_add, Nat.add_zero, Nat.reduceAdd, za]
 rw [l0.ld (i := 4) rfl, g14, za, hop, zl]
 refine zT.mk (fun t H' => H' = H ∧ t.1 = .bool false) ?_ ?_
 · rintro ⟨t, u⟩ H1 ⟨rfl, ht⟩
   simp only at ht
   subst ht
   rw [zl]
   refine zT.mk (fun _ H' => H' = H1) ?_ ?_
   · rintro t H2 rfl
     refine yP fun wb H3 hb e3 hs3 g3 => ?_
     have n3 : New H2 H3 (wrOb (some []) (.map (some wb))) := ⟨fun b => b = wb, ⟨⟨wb, rfl, by rw [elM_nil]; exact MapAt.new g3, rfl⟩, fun b hb2 => by omega⟩, fun b hb2 => by omega⟩
     have l3 := l0.new e3 n3
     refine l3.st (i := 4) (j := 14) (v := .bool true) rfl (by exact (by decide : 14 < 19)) rfl rfl fun H4 l4 => ?_
     refine l4.st (i := 4) (j := 15) (v := zm r) rfl (by exact (by decide : 15 < 19)) rfl rfl fun H5 l5 => ?_
     refine l5.st (i := 4) (j := 16) (v := .map (some wb)) rfl (by exact (by decide : 16 < 19)) rfl rfl fun H6 l6 => ?_
     have l7 := l6.pick [0, 1, 2, 5, 4] (by decide) (by simp)
     have l7 : Lo O H2 H6 (plAll lb p cb mb ov (.map (some wb)) x mine { P with open_ := true, room := r, wrote := some [] } ++ []) := l7
     obtain ⟨O', st, ha'⟩ := Lo.close l7
     exact k H6 O' st ⟨cb, mb, ov, .map (some wb), ha'⟩
   · have hfew := hok.few
     rw [l0.ld (i := 4) rfl, g0, za, (l0.sv (i := 2) rfl).lenE undIn, za, List.length_map, zk, za, zg (by omega) (by omega), l0.ld (i := 4) rfl, g5, za, zU, za, zg (by omega) (by omega), zN, za, decide_eq_false (by omega), zl]
 · rw [zt, za, decide_eq_false (by omega), zl, l0.ld (i := 4) rfl, g5, za, zU, za, zg (by omega) (by omega), zN, za, decide_eq_false (by omega)]
   exact ⟨rfl, rfl⟩
end
end Go.Vc
namespace Go.Vc
open Go.Proofs Classical
theorem elM_in {l : List Int} {a : Int} (h : a ∈ l) : elM l a = some (.agg #[]) := by unfold elM; rw [if_pos h]
theorem elM_out {l : List Int} {a : Int} (h : a ∉ l) : elM l a = none := by unfold elM; rw [if_neg h]
theorem elM_add (l : List Int) (a : Int) : updM (elM l) a (some (.agg #[])) = elM (l ++ [a]) := by
 funext k
 unfold updM elM
 by_cases e : k = a
 · rw [if_pos e, if_pos (by simp [e])]
 · rw [if_neg e]
   by_cases h : k ∈ l
   · rw [if_pos h, if_pos (by simp [h])]
   · rw [if_neg h, if_neg (by simp [h, e])]
noncomputable def addL (l : List Int) (a : Int) : List Int := if a ∈ l then l else l ++ [a]
theorem zeroUnit : zD Tryz.prog 165 = some (.agg #[]) := by kernel_rfl
theorem buildUnit : zv Tryz.prog 165 [] = some (.agg #[]) := by kernel_rfl
section
variable {H : Hp} {R : Value → Hp → Prop} {lb p cb mb : Nat} {s : DS} {cs : List Pl} {x : Lay} {mine : Int} {O : Nat → Prop}
theorem pl_add {P : PSt} (h : (ZL lb p x mine P).at_ H O) (hlen : P.order.length < 1000000) {a : Int}
   (k : ∀ H' O', Stp O O' H H' → (ZL lb p x mine { P with order := addL P.order a }).at_ H' O' → R (.tuple #[]) H') : Fc Tryz.prog 101 #[z7 lb, zm a] H R := by
 obtain ⟨cb, mb, ov, wv, ha⟩ := h
 have l0 : Lo O H H [cdOb p cb (x.L + 32) P.s P.cs, mpOb mb (elM P.order) P.order.length, .sl 3 1 ov (P.order.map nI), wrOb P.wrote wv, .box lb (logC ov mb p cb x mine P.open_ P.room wv P.commits P.steps) 100] := Lo.open ha
 have g0 : (logC ov mb p cb x mine P.open_ P.room wv P.commits P.steps)[0]? = some ov := rfl
 have g1 : ∀ {ov : Value}, (logC ov mb p cb x mine P.open_ P.room wv P.commits P.steps)[1]? = some (.map (some mb)) := rfl
 refine fn101 ?_
 simp only [sh101, zeroUnit, buildUnit, za]
 simp only [zc, zh, Nat.zero_add, Nat.add_zero, za]
 obtain ⟨Om, hmp⟩ := l0.get (i := 1) (x := mpOb mb (elM P.order) P.order.length) rfl
 rw [l0.ld (i := 4) rfl, g1, za, map_look hmp.1.1 true a, zeroUnit]
 by_cases hin : a ∈ P.order
 · rw [elM_in hin]
   show Pu (some (Value.tuple #[.agg #[], .bool true])) _
   rw [za, show ze (.tuple #[.agg #[], .bool true]) 0 = some (.agg #[]) from rfl, za, show ze (.tuple #[.agg #[], .bool true]) 1 = some (.bool true) from rfl, za]
   refine l0.boxA fun b1 H1 _ l1 => ?_
   refine l1.stAll (i := 5) (n := 0) (vs := #[]) rfl rfl rfl (by unfold zG; rw [← Array.all_toList]; rfl) fun H2 l2 => ?_
   rw [zM, za, Bool.not_true, zl]
   have l2 : Lo O H H2 (plAll lb p cb mb ov wv x mine P ++ [.box b1 #[] 165]) := l2
   obtain ⟨O', st, ha'⟩ := Lo.close l2
   have := k H2 O' st
   unfold addL at this
   rw [if_pos hin] at this
   exact this ⟨cb, mb, ov, wv, ha'⟩
 · rw [elM_out hin]
   show Pu (some (Value.tuple #[.agg #[], .bool false])) _
   rw [za, show ze (.tuple #[.agg #[], .bool false]) 0 = some (.agg #[]) from rfl, za, show ze (.tuple #[.agg #[], .bool false]) 1 = some (.bool false) from rfl, za]
   refine l0.boxA fun b1 H1 _ l1 => ?_
   refine l1.stAll (i := 5) (n := 0) (vs := #[]) rfl rfl rfl (by unfold zG; rw [← Array.all_toList]; rfl) fun H2 l2 => ?_
   have l2 : Lo O H H2 [cdOb p cb (x.L + 32) P.s P.cs, mpOb mb (elM P.order) P.order.length, .sl 3 1 ov (P.order.map nI), wrOb P.wrote wv, .box lb (logC ov mb p cb x mine P.open_ P.room wv P.commits P.steps) 100, .box b1 #[] 165] := l2
   rw [zM, za, Bool.not_false, zZ, l2.ld (i := 4) rfl, g0, za]
   refine l2.appO elIn eIn_f (i := 2) (c := nI a) rfl rfl (by omega) (by omega) rfl (by unfold zG; rw [← Array.all_toList]; rfl) (by rw [List.length_map]; omega) fun ov' H3 l3 => ?_
   have hone := (l3.sv (i := 2) rfl).one
   refine l3.st (i := 4) (j := 0) (v := ov') rfl (by exact (by decide : 0 < 19)) hone.2 hone.1 fun H4 l4 => ?_
   have l4 : Lo O H H4 [cdOb p cb (x.L + 32) P.s P.cs, mpOb mb (elM P.order) P.order.length, .sl 3 1 ov' (P.order.map nI ++ [nI a]), wrOb P.wrote wv, .box lb (logC ov' mb p cb x mine P.open_ P.room wv P.commits P.steps) 100, .box b1 #[] 165] := l4
   rw [l4.ld (i := 4) rfl, g1, za]
   obtain ⟨O4, h4, st4⟩ := l4.call (i := 1) (x := mpOb mb (elM P.order) P.order.length) rfl
   refine mapSet_i h4.1.1 fun H5 k5 s5 m5 => ?_
   rw [elM_out hin, if_pos rfl, elM_add] at m5
   have l5 := st4 H5 (mpOb mb (elM (P.order ++ [a])) (P.order.length + 1)) O4 ⟨k5.mono fun b _ e => e ▸ h4.1.2, fun b hb => .inl hb⟩ ⟨⟨m5, h4.1.2⟩, fun b hb => by rw [s5]; exact h4.2 b hb⟩
   have l5 : Lo O H H5 (plAll lb p cb mb ov' wv x mine { P with order := P.order ++ [a] } ++ [.box b1 #[] 165]) := by
     unfold plAll
     simp only [List.map_append, List.length_append, List.length_cons, List.length_nil]
     exact l5
   obtain ⟨O', st, ha'⟩ := Lo.close l5
   have := k H5 O' st
   unfold addL at this
   rw [if_neg hin] at this
   exact this ⟨cb, mb, ov', wv, ha'⟩
end
end Go.Vc
namespace Go.Vc
open Go.Proofs Classical
structure Wt (x : Lay) (mine : Int) (P P' : PSt) (a : Int) (d : Blk) (m : Int) : Prop where
 ok : POk x mine P'
 n : P'.s.n = P.s.n
 now : P'.s.now = P.s.now
 held : P'.s.held = P.s.held
 fuse : P'.s.fuse = P.s.fuse
 made : P'.s.made = P.s.made
 claims : P'.s.claims = P.s.claims
 pl : P'.s.pl = P.s.pl
 hl : P'.s.hl = P.s.hl
 reads : P.s.reads ≤ P'.s.reads ∧ P'.s.reads ≤ P.s.reads + m
 view : ∀ b, Zg P'.s P'.cs b = if b = a then d else Zg P.s P.cs b
 order : P'.order = addL P.order a
 wrote : ∀ W, P.wrote = some W → P'.wrote = some (addL W a)
 open_ : P'.open_ = P.open_
 room : P'.room = P.room
 commits : P'.commits = P.commits
 steps : P'.steps = P.steps
theorem addL_len (l : List Int) (a : Int) : (addL l a).length = if a ∈ l then l.length else l.length + 1 := by
 unfold addL
 split
 · rfl
 · simp
theorem mem_addL {l : List Int} {a b : Int} : b ∈ addL l a ↔ b ∈ l ∨ b = a := by
 unfold addL
 split
 · rename_i h
   exact ⟨.inl, fun e => e.elim id fun e => e ▸ h⟩
 · simp
theorem Rd.wt {x : Lay} {mine : Int} {P P' : PSt} {s' : DS} {cs' : List Pl} {a : Int} {d : Blk} {m n k : Int} (h : Rd x P s' cs' m) (g : Wt x mine { P with s := s', cs := cs' } P' a d n) (hk : m + n ≤ k) : Wt x mine P P' a d k := by
 have h1 := h.reads
 have h2 : s'.reads ≤ P'.s.reads ∧ P'.s.reads ≤ s'.reads + n := g.reads
 exact ⟨g.ok, g.n.trans h.n, g.now.trans h.now, g.held.trans h.held, g.fuse.trans h.fuse, g.made.trans h.made, g.claims.trans h.claims, g.pl.trans h.pl, g.hl.trans h.hl, by omega, fun b => by
   have e := g.view b
   have e2 := h.view b
   have e : Zg P'.s P'.cs b = if b = a then d else Zg s' cs' b := e
   rw [e, e2], g.order, g.wrote, g.open_, g.room, g.commits, g.steps⟩
section
variable {H : Hp} {R : Value → Hp → Prop} {lb p cb mb : Nat} {x : Lay} {mine : Int} {O : Nat → Prop}
set_option maxHeartbeats 1000000 in
theorem pl_write {P : PSt} (h : (ZL lb p x mine P).at_ H O) (hok : POk x mine P) (hop : P.open_ = true) {W : List Int} (hwr : P.wrote = some W) {a : Int} (h1 : 1 + x.L ≤ a) (h2 : a < x.B) (hroom : a ∈ W ∨ (W.length : Int) < P.room) {d : Blk} (hd : IsB d) (hord : ((addL P.order a).length : Int) ≤ x.L - 1)
   (k : ∀ H' O' P', Stp O O' H H' → (ZL lb p x mine P').at_ H' O' → Wt x mine P P' a d 0 → R (.int .i64 0) H') : Fc Tryz.prog 41 #[z7 lb, zm a, .agg d] H R := by
 obtain ⟨hx1, hx2, hx3, hx4⟩ := hok.lay
 have hn := hok.n
 have hf := hok.fast
 have hfew := hok.few
 have hcl := hok.clen
 have hw : P.s.wrong a = 0 := by unfold DS.wrong; rw [if_neg (by rw [hok.alive]; decide), if_neg (by omega)]
 obtain ⟨cs', e, hvw, hview, hfp, hfp2, hin, hkp⟩ := view_put (size := x.L + 32) (d := d) hok.vw hw (by omega)
 have hlen' := putC_len (size := x.L + 32) (s := P.s) (cs := P.cs) (a := a) (d := d) hok.clen
 rw [e] at hlen'
 obtain ⟨cb, mb, ov, wv, ha⟩ := h
 refine fn41 ?_
 simp only [sh41, zeroUnit, buildUnit, za, zu]
 refine (Lo.open ha).boxA fun b1 H1 e1 l1 => ?_
 have l1 : Lo O H H1 (plAll lb p cb mb ov wv x mine P ++ [.box b1 d 65]) := l1
 obtain ⟨ht, Od, Oc, hdk, hca, hdis⟩ := pl_pcs l1
 refine check_top ht hdk hok.mine ?_
 rw [hok.alive]
 simp only [Bool.false_eq_true, if_false]
 rw [zx, za, decide_eq_false (by omega), zl]
 have g3 : (logC ov mb p cb x mine P.open_ P.room wv P.commits P.steps)[3]? = some (z7 cb) := rfl
 have g4 : (logC ov mb p cb x mine P.open_ P.room wv P.commits P.steps)[4]? = some (zm x.B) := rfl
 have g14 : (logC ov mb p cb x mine P.open_ P.room wv P.commits P.steps)[14]? = some (.bool P.open_) := rfl
 have g15 : (logC ov mb p cb x mine P.open_ P.room wv P.commits P.steps)[15]? = some (zm P.room) := rfl
 have g16 : (logC ov mb p cb x mine P.open_ P.room wv P.commits P.steps)[16]? = some wv := rfl
 simp only [zc, zh, Nat.zero_add, Nat.add_zero, za]
 rw [zo ht, g14, za, hop, zM, za, Bool.not_true, zl]
 refine zT.mk (fun t H' => H' = H1 ∧ t.1 = .bool false) ?_ ?_
 rotate_left
 · rw [zt, za, decide_eq_false (by omega), zl, zo ht, g4, za, zY, za, decide_eq_false (by omega), zl]
   refine logs_top ht (by omega) ?_
   rw [decide_eq_false (by omega)]
   exact ⟨rfl, rfl⟩
 rintro ⟨t, u⟩ H2 ⟨rfl, ht'⟩
 simp only at ht'
 subst ht'
 rw [zl, zo ht, g16, za]
 obtain ⟨Ow, hwm⟩ := l1.get (i := 3) (x := wrOb P.wrote wv) rfl
 have hwm' : ∃ wb, wv = .map (some wb) ∧ MapAt H2 wb (elM W) W.length := by
   have := hwm.1
   rw [hwr] at this
   obtain ⟨wb, q1, q2, _⟩ := this
   exact ⟨wb, q1, q2⟩
 obtain ⟨wb, ewv, hmw⟩ := hwm'
 rw [ewv, map_look hmw true a, zeroUnit]
 have hlk : lookO true (some (.agg #[])) (elM W a) = some (.tuple #[.agg #[], .bool (decide (a ∈ W))]) := by
   by_cases hin : a ∈ W
   · rw [elM_in hin, decide_eq_true hin]; rfl
   · rw [elM_out hin, decide_eq_false hin]; rfl
 rw [hlk, za, show ze (.tuple #[.agg #[], .bool (decide (a ∈ W))]) 0 = some (.agg #[]) from rfl, za, show ze (.tuple #[.agg #[], .bool (decide (a ∈ W))]) 1 = some (.bool (decide (a ∈ W))) from rfl, za]
 refine l1.boxA fun b2 H3 _ l3 => ?_
 refine l3.stAll (i := 6) (n := 0) (vs := #[]) rfl rfl rfl (by unfold zG; rw [← Array.all_toList]; rfl) fun H4 l4 => ?_
 have l4 : Lo O H H4 (plAll lb p cb mb ov wv x mine P ++ [.box b1 d 65, .box b2 #[] 165]) := l4
 obtain ⟨ht4, _⟩ := pl_pcs l4
 refine zT.mk (fun t H' => H' = H4 ∧ t.1 = .bool false) ?_ ?_
 rotate_left
 · rw [zM, za, Z9]
   refine ⟨fun hni => ?_, fun _ => ⟨rfl, rfl⟩⟩
   rw [decide_eq_false_iff_not] at hni
   obtain ⟨Ow4, hw4⟩ := l4.get (i := 3) (x := wrOb P.wrote wv) rfl
   have hm4 : MapAt H4 wb (elM W) W.length := by
     have := hw4.1
     rw [hwr] at this
     obtain ⟨wb', q1, q2, _⟩ := this
     rw [ewv] at q1
     injection q1 with q1
     injection q1 with q1
     rw [q1]; exact q2
   rw [zo ht4, g16, za, ewv, map_len hm4, za, zo ht4, g15, za, zY, za, decide_eq_false (by have := hroom.resolve_left hni; omega)]
   exact ⟨rfl, rfl⟩
 rintro ⟨t, u⟩ H5 ⟨rfl, ht'⟩
 simp only at ht'
 subst ht'
 rw [zl, zo ht4, g3, za, l4.ldAll (i := 5) (n := 1024) rfl hd.size, za]
 obtain ⟨O1, ⟨⟨Od1, Oc1, d1, d2, d3, d4, d5⟩, dO⟩, st1⟩ := l4.call (i := 0) (x := cdOb p cb (x.L + 32) P.s P.cs) rfl
 refine cache_put d1 d2 d3 (by omega) (by omega) hd fun H6 Oc' k6 hoc hd6 hc6 => ?_
 rw [e] at hc6 ⊢
 have l6 := st1 H6 (cdOb p cb (x.L + 32) P.s cs') (fun b => O1 b ∨ Oc' b) ⟨k6.mono fun b _ hb => d5 b hb, fun b hb => by
     rcases hb with hb | hb
     · exact .inl hb
     · rcases hoc b hb with h2 | h2
       · exact .inl (d5 b h2)
       · exact .inr h2⟩ ⟨⟨Od1, Oc', hd6, hc6, fun b hb hb2 => by
     rcases hoc b hb2 with h2 | h2
     · exact d3 b hb h2
     · have := d1.lt b hb; omega, fun b hb => .inl (d4 b hb), fun b hb => .inr hb⟩, fun b hb => by
     rcases hb with hb | hb
     · exact Nat.lt_of_lt_of_le (dO b hb) k6.le
     · exact hc6.lt b hb⟩
 have l6 : Lo O H H6 (plAll lb p cb mb ov wv x mine { P with cs := cs' } ++ [.box b1 d 65, .box b2 #[] 165]) := l6
 obtain ⟨ht6, _⟩ := pl_pcs l6
 simp only [zx, za, show decide ((0 : Int) ≠ 0) = false from rfl, zl]
 rw [zo ht6, g16, za]
 obtain ⟨O6, hw6, st6⟩ := l6.call (i := 3) (x := wrOb P.wrote wv) rfl
 have hm6 : MapAt H6 wb (elM W) W.length ∧ O6 wb := by
   have := hw6.1
   rw [hwr] at this
   obtain ⟨wb', q1, q2, q3⟩ := this
   rw [ewv] at q1
   injection q1 with q1
   injection q1 with q1
   rw [q1]; exact ⟨q2, q3⟩
 rw [ewv]
 refine mapSet_i hm6.1 fun H7 k7 s7 m7 => ?_
 have m8 : MapAt H7 wb (elM (addL W a)) (addL W a).length := by
   unfold addL
   by_cases hin : a ∈ W
   · rw [if_pos hin]
     rw [elM_in hin, if_neg (by simp)] at m7
     have e2 : updM (elM W) a (some (.agg #[])) = elM W := by
       funext z
       unfold updM
       by_cases ez : z = a
       · rw [if_pos ez, ez, elM_in hin]
       · rw [if_neg ez]
     rw [e2] at m7; exact m7
   · rw [if_neg hin]
     rw [elM_out hin, if_pos rfl, elM_add] at m7
     rw [List.length_append]; exact m7
 have l7 := st6 H7 (wrOb (some (addL W a)) wv) O6 ⟨k7.mono fun b _ e => e ▸ hm6.2, fun b hb => .inl hb⟩ ⟨⟨wb, ewv, m8, hm6.2⟩, fun b hb => by rw [s7]; exact hw6.2 b hb⟩
 have l7 : Lo O H H7 (plAll lb p cb mb ov wv x mine { P with cs := cs', wrote := some (addL W a) } ++ [.box b1 d 65, .box b2 #[] 165]) := l7
 have l8 := Lo.pack (l := []) l7.take
 have l9 : Lo O H H7 [ZL lb p x mine { P with cs := cs', wrote := some (addL W a) }] := l8.nth (i := 0) rfl fun O' ho => ⟨cb, mb, ov, wv, ho⟩
 obtain ⟨O9, h9, st9⟩ := l9.call (i := 0) rfl
 refine pl_add h9 (by show P.order.length < 1000000; omega) fun H10 O10 s10 h10 => ?_
 have l10 : Lo O H H10 [ZL lb p x mine { P with cs := cs', wrote := some (addL W a), order := addL P.order a }] := st9 H10 _ O10 s10 h10
 obtain ⟨O', st, h'⟩ := Lo.close1 l10
 refine k H10 O' _ st h' ⟨⟨hok.alive, hok.mine, hvw, hok.n, hok.reads, hok.lay, ?_, hord, hlen', fun b hb => ?_⟩, rfl, rfl, rfl, rfl, rfl, rfl, rfl, rfl, by show P.s.reads ≤ P.s.reads ∧ P.s.reads ≤ P.s.reads + 0; omega, hview, rfl, fun W' hW => ?_, rfl, rfl, rfl, rfl⟩
 · show Zx cs' ≤ ((addL P.order a).length : Int)
   rw [addL_len]
   split
   · rename_i hm
     obtain ⟨y, q1, q2⟩ := hok.held a hm
     rw [hfp2 y q1 q2]; exact hf
   · omega
 · show ∃ y, Zz cs' b = some y ∧ y.fast = true
   by_cases e2 : b = a
   · rw [e2]; exact hin
   · obtain ⟨y, q1, q2⟩ := hok.held b ((mem_addL.1 hb).resolve_right e2)
     exact ⟨y, hkp b y e2 q1 q2, q2⟩
 · rw [hwr] at hW
   injection hW with hW
   rw [hW]
end
end Go.Vc
namespace Go.Vc
open Go.Proofs Classical
section
variable {H : Hp} {R : Value → Hp → Prop} {lb p : Nat} {mine : Int} {O : Nat → Prop} {B L I : Int}
theorem pl_spot {P : PSt} (h : (ZL lb p (zq B L I) mine P).at_ H O) (hok : POk (zq B L I) mine P) (hg : Zn B L I) {i : Nat} (hi : i ≤ 70000) (k : ∀ H', Ext H H' → R (.tuple #[zm (1 + L + ((i / 16 : Nat) : Int)), zm ((64 * (i % 16) : Nat) : Int), .bool (decide (1 ≤ i ∧ (i : Int) ≤ I))]) H') : Fc Tryz.prog 39 #[z7 lb, zm i] H R := by
 obtain ⟨gL1, gL2, gI1, gI2, gB1, gB2, gD⟩ := id hg
 have c4 : (zq B L I).cells[4]? = some (zm (1 + L)) := rfl
 have c2 : (zq B L I).cells[2]? = some (zm I) := rfl
 refine fn39 ?_
 simp only [sh39, yt, za]
 refine pl_layout h hok fun H1 e1 => ?_
 refine ((Lo.start _ H : Lx H H []).ext e1).boxA fun b1 H2 _ l2 => ?_
 refine l2.stAll (i := 0) rfl rfl (Lay.size _) (Lay.cok _) fun H3 l3 => ?_
 simp only [zh, Nat.zero_add, Nat.add_zero, za]
 rw [l3.ld (i := 0) rfl, c4, za, Zm (by decide), za, Zv (by omega), zg (by omega) (by omega), zk, za, zg (by omega) (by omega), z8 (by decide), za, Zd (by omega), zX, za, zg (by omega) (by omega), zY, za, zf, show 1 + L + (i : Int) / 16 = 1 + L + ((i / 16 : Nat) : Int) by omega, show (i : Int) % 16 * 64 = ((64 * (i % 16) : Nat) : Int) by omega]
 refine ⟨fun h1 => ?_, fun h1 => ?_⟩
 · rw [l3.ld (i := 0) rfl, c2, za, yT, za]
   have := k H3 l3.ext0
   rw [show decide (1 ≤ i ∧ (i : Int) ≤ I) = decide ((i : Int) ≤ I) from dec_dec ⟨fun e => e.2, fun e => ⟨by omega, e⟩⟩] at this
   exact this
 · have := k H3 l3.ext0
   rw [show decide (1 ≤ i ∧ (i : Int) ≤ I) = false from decide_eq_false fun e => h1 (by omega)] at this
   exact this
set_option maxHeartbeats 1000000 in
theorem pl_rack {P : PSt} (h : (ZL lb p (zq B L I) mine P).at_ H O) (hok : POk (zq B L I) mine P) (hg : Zn B L I) {i : Nat} (h0 : 1 ≤ i) (h1 : (i : Int) ≤ I)
   (k : ∀ H' O' s' cs', Stp O O' H H' → (ZL lb p (zq B L I) mine { P with s := s', cs := cs' }).at_ H' O' → Rd (zq B L I) P s' cs' 1 → R (.tuple #[.agg (zO (Zq (Zg P.s P.cs (1 + L + ((i / 16 : Nat) : Int))) (64 * (i % 16)))), .int .i64 0]) H') : Fc Tryz.prog 34 #[z7 lb, zm i] H R := by
 obtain ⟨gL1, gL2, gI1, gI2, gB1, gB2, gD⟩ := id hg
 have hDA : (zq B L I).dataAt = 1 + L + (I + 16) / 16 + (B + 8191) / 8192 := rfl
 have hBB : (zq B L I).B = B := rfl
 have hLL : (zq B L I).L = L := rfl
 have x3 : ∀ {a b c : Value}, ze (.tuple #[a, b, c]) 0 = some a := rfl
 have x4 : ∀ {a b c : Value}, ze (.tuple #[a, b, c]) 1 = some b := rfl
 have x5 : ∀ {a b c : Value}, ze (.tuple #[a, b, c]) 2 = some c := rfl
 have y3 : ∀ {a b : Value}, ze (.tuple #[a, b]) 0 = some a := rfl
 have y4 : ∀ {a b : Value}, ze (.tuple #[a, b]) 1 = some b := rfl
 refine fn34 ?_
 simp only [sh34, yh, Z0, za]
 refine (Lo.own h).boxA fun b1 H1 _ l1 => ?_
 have l1 : Lo O H H1 [ZL lb p (zq B L I) mine P, .box b1 (zO fun _ => 0) 54] := l1
 obtain ⟨O1, hl1, _⟩ := l1.call (i := 0) rfl
 refine YT hl1 hok ?_
 rw [zx, za, decide_eq_false (by omega), zl]
 refine pl_spot hl1 hok hg (by omega) fun H2 e2 => ?_
 have l2 := l1.ext e2
 rw [x3, za, x4, za, x5, za, decide_eq_true (by omega), zM, za, Bool.not_true, zl]
 obtain ⟨O2, hl2, st2⟩ := l2.call (i := 0) rfl
 refine pl_read hl2 hok (by omega) (by rw [hBB]; omega) (by rw [hLL]; omega) fun H3 O3 s' cs' s3 hl3 hrd hnow => ?_
 have l3 : Lo O H H3 [ZL lb p (zq B L I) mine { P with s := s', cs := cs' }, .box b1 (zO fun _ => 0) 54] := st2 H3 _ O3 s3 hl3
 rw [y3, za, y4, za]
 generalize Zg P.s P.cs (1 + L + ((i / 16 : Nat) : Int)) = c at hnow k
 refine l3.boxA fun b3 H4 _ l4 => ?_
 refine l4.stAll (i := 2) rfl zI hnow.size hnow.ok fun H5 l5 => ?_
 have l5 : Lo O H H5 [ZL lb p (zq B L I) mine { P with s := s', cs := cs' }, .box b1 (zO fun _ => 0) 54, .box b3 c 65] := l5
 rw [zx, za, decide_eq_false (by omega), zl, zk, za, show ((64 * (i % 16) : Nat) : Int) + 64 = ((64 * (i % 16) + 64 : Nat) : Int) by omega, zw (by omega), sl_arr und1024 inf8_e inf8_s (by omega) (by omega) (by omega), za, show 64 * (i % 16) + 64 - 64 * (i % 16) = 64 by omega, show arrE (some 64) (.slice (some ⟨b3, 64 * (i % 16), none⟩) 64 (1024 - 64 * (i % 16))) = some (.pointer (some ⟨b3, 64 * (i % 16), none⟩)) from rfl, za, Zj (l5.at (i := 2) rfl) (by rw [hnow.size]; omega), za]
 refine node_dec (cutN_is hnow (by omega)) fun H6 e6 => ?_
 have e : zO (Zq (c.extract (64 * (i % 16)) (64 * (i % 16) + 64)) 0) = zO (Zq c (64 * (i % 16))) := ZX fun j hj => inoOf_cutN hnow (by omega) hj
 rw [e]
 refine (l5.ext e6).ret (i := 1) (K := fun x H4 => R (.tuple #[x, .int .i64 0]) H4) rfl (zy _) (zy _) (ZR _) fun H' l' => ?_
 obtain ⟨O', st, ha⟩ := Lo.close1 (x := ZL lb p (zq B L I) mine { P with s := s', cs := cs' }) (r := [_, _]) l'
 exact k H' O' s' cs' st ha hrd
end
end Go.Vc
namespace Go.Vc
open Go.Proofs Classical
theorem u8w (v : Nat) : IntKind.u8.wrap (v : Int) = ((v % 256 : Nat) : Int) := by
 simp [IntKind.wrap, IntKind.bits, IntKind.signed]
theorem fdivN (v n : Nat) : ((v : Int).fdiv ((n : Nat) : Int)) = ((v / n : Nat) : Int) := by
 rw [Int.fdiv_eq_ediv_of_nonneg _ (by omega)]; rfl
section
variable {H : Hp} {R : Value → Hp → Prop}
theorem set_u16 {c : Blk} (hc : IsB c) {a v : Nat} (ha : a + 2 ≤ 1024) (hv : v < 65536) (k : ∀ H', Ext H H' → R (.agg (seB c a 2 v)) H') : Fc Tryz.prog 98 #[.agg c, zm a, .int .u16 v] H R := by
 have hs : IsB (seB c a 2 v) := (seB_is _ _ _ hc.n).b
 refine fn98 ?_
 simp only [sh98, Z0, za, zu]
 refine (Lo.start _ H : Lx H H []).boxA fun b1 H1 _ l1 => ?_
 refine l1.boxA fun b2 H2 _ l2 => ?_
 refine zT.mk (fun _ H' => Lx H H' [.box b1 (seB c a 2 v) 65, .box b2 zB 65]) ?_ ?_
 · rintro t H3 l3
   rw [l3.ldAll (i := 0) (n := 1024) rfl hs.size, za]
   exact l3.ret (i := 1) rfl zI hs.size hs.ok fun H' l' => k H' l'.ext0
 · refine inside_ok (by omega) ?_
   rw [decide_eq_true (by omega), zZ, zk, za, zL, zw (by omega), zE, za, u8w, binE_shr (by omega), za, show (2 : Int) ^ (min (8 : Int).toNat IntKind.u16.bits) = ((256 : Nat) : Int) from rfl, fdivN, zE, za, u8w, zF (by omega), za, Nat.zero_add, Nat.mul_one]
   refine l2.st (i := 0) (j := a) (v := .int .u8 ((v % 256 : Nat) : Int)) rfl (by rw [hc.size]; omega) rfl rfl fun H3 l3 => ?_
   rw [zF (by omega), za, Nat.zero_add, Nat.mul_one]
   exact l3.st (i := 0) (j := a + 1) (v := .int .u8 ((v / 256 % 256 : Nat) : Int)) rfl (by rw [Array.size_setIfInBounds, hc.size]; omega) rfl rfl fun H4 l4 => l4
theorem set_u32 {c : Blk} (hc : IsB c) {a v : Nat} (ha : a + 4 ≤ 1024) (hv : v < 4294967296) (k : ∀ H', Ext H H' → R (.agg (seB c a 4 v)) H') : Fc Tryz.prog 99 #[.agg c, zm a, .int .u32 v] H R := by
 have hs : IsB (seB c a 4 v) := (seB_is _ _ _ hc.n).b
 have hsh : ∀ j, j < 4 → (2 : Int) ^ (min ((8 * j : Nat) : Int).toNat IntKind.u32.bits) = ((256 ^ j : Nat) : Int) := fun j hj => by
   match j, hj with
   | 0, _ => rfl
   | 1, _ => rfl
   | 2, _ => rfl
   | 3, _ => rfl
 refine fn99 ?_
 simp only [sh99, Z0, za, zu]
 refine (Lo.start _ H : Lx H H []).boxA fun b1 H1 _ l1 => ?_
 refine l1.boxA fun b2 H2 _ l2 => ?_
 refine zT.mk (fun _ H' => Lx H H' [.box b1 (seB c a 4 v) 65, .box b2 zB 65]) ?_ ?_
 · rintro t H3 l3
   rw [l3.ldAll (i := 0) (n := 1024) rfl hs.size, za]
   exact l3.ret (i := 1) rfl zI hs.size hs.ok fun H' l' => k H' l'.ext0
 · refine inside_ok (by omega) ?_
   rw [decide_eq_true (by omega), zZ]
   refine zz.mk (fun t H' => ∃ (j : Nat) (cj : Blk), j ≤ 4 ∧ t = (zm j, ()) ∧ IsB cj ∧ seB cj (a + j) (4 - j) (v / 256 ^ j) = seB c a 4 v ∧ Lx H H' [.box b1 cj 65, .box b2 zB 65])
     (fun t _ => mi t.1 fun j => (4 - j).toNat) ⟨0, c, by omega, rfl, hc, by rw [Nat.pow_zero, Nat.div_one]; rfl, l2⟩ ?_
   rintro _ H3 ⟨j, cj, hj, rfl, hcj, he, l3⟩
   rw [zt, za, zf]
   refine ⟨fun hlt => ?_, fun hge => ?_⟩
   · rw [zk, za, addN, zw (by omega), zX, za, show (8 : Int) * (j : Int) = ((8 * j : Nat) : Int) by omega, zw (by omega), binE_shr (by omega), za, hsh j (by omega), fdivN, zE, za, u8w, zF (by omega), za, Nat.zero_add, Nat.mul_one]
     refine l3.st (i := 0) (j := a + j) (v := .int .u8 ((v / 256 ^ j % 256 : Nat) : Int)) rfl (by rw [hcj.size]; omega) rfl rfl fun H4 l4 => ?_
     rw [zk, za, zL, zw (by omega)]
     refine ⟨⟨j + 1, _, by omega, rfl, hcj.set (a + j) (m := v / 256 ^ j % 256) (Nat.mod_lt _ (by omega)), ?_, l4⟩, by simp only [zC]; omega⟩
     rw [← he, show 4 - j = (4 - (j + 1)) + 1 by omega, Nat.pow_succ, ← Nat.div_div_eq_div_mul]
     rfl
   · have ej : j = 4 := by omega
     subst ej
     have he : cj = seB c a 4 v := he
     rw [← he]; exact l3
end
end Go.Vc
namespace Go.Vc
open Go.Proofs Classical
theorem seB_byt {m n : Nat} : ∀ (w : Nat) (a c : Array Value) (o v : Nat), IsN m a → IsN n c → o + w ≤ m → o + w ≤ n → (∀ i, i < 64 → byt a i = byt c i) → ∀ i, i < 64 → byt (seB a o w v) i = byt (seB c o w v) i
 | 0, _, _, _, _, _, _, _, _, h => h
 | w + 1, a, c, o, v, ha, hc, h1, h2, h => by
   have hm : v % 256 < 256 := Nat.mod_lt _ (by omega)
   refine seB_byt w _ _ (o + 1) (v / 256) (ha.set o hm) (hc.set o hm) (by omega) (by omega) fun i hi => ?_
   rw [ha.byt_set (by omega), hc.byt_set (by omega)]
   split
   · rfl
   · exact h i hi
theorem layN_byt (f : Ino) : ∀ n, n ≤ 16 → ∀ i, i < 64 → byt (layN zB 0 f n) i = byt (layN (zR 64) 0 f n) i
 | 0, _, i, hi => by
   show byt zB i = byt (zR 64) i
   have e1 : zB[i]? = some (.int .u8 0) := zB_get (by omega)
   have e2 : (zR 64)[i]? = some (.int .u8 0) := by rw [Array.getElem?_replicate, if_pos hi]
   unfold byt
   rw [e1, e2]
 | n + 1, hn, i, hi => by
   have hle := fo_le (j := n) (by omega)
   exact seB_byt (m := 1024) (n := 64) _ _ _ _ _ (Yp Zo.n 0 n) (Yp (Z6 64) 0 n) (by omega) (by omega) (layN_byt f n (by omega)) i hi
theorem lay_cut (f : Ino) : (layN zB 0 f 16).extract 0 (0 + 64) = encN f := by
 have hb : IsB (layN zB 0 f 16) := (Yp Zo.n 0 16).b
 have hc := cutN_is (o := 0) hb (by omega)
 refine IsN.ext hc (ZT f) fun i hi => ?_
 have h1 := byt_cutN (o := 0) hb (by omega) hi
 rw [Nat.zero_add] at h1
 exact h1.trans (layN_byt f 16 (by omega) i hi)
theorem und10 : Tryz.prog.underlying 52 = some (.array 10 51) := by kernel_rfl
theorem ldK32 : ldK Tryz.prog 51 = some none := by kernel_rfl
noncomputable def inf32 : TypeInfo := (Tryz.prog.info? 51).getD default
theorem inf32_e : Tryz.prog.info? 51 = some inf32 := by kernel_rfl
theorem inf32_s : inf32.size = 1 := by kernel_rfl
theorem idx10 {cs : Array Value} {i : Nat} (hi : i < 10) : idxE Tryz.prog 52 (.agg cs) (zm i) = cs[i]? := by
 unfold idxE
 rw [und10]
 simp only [ldK32, inf32_e, inf32_s, Int.toNat_natCast, Nat.mul_one]
 rw [if_pos (by omega)]
theorem sl_pre {P : Program} {T e n : Nat} {i : TypeInfo} (hu : P.underlying T = some (.array n e)) (hi : P.info? e = some i) (hs : i.size = 1) {b hi' : Nat} (h2 : hi' ≤ n) (h3 : 0 < n) : yb P T (.pointer (some ⟨b, 0, none⟩)) none (some (zm hi')) none = some (.slice (some ⟨b, 0, none⟩) hi' n) := by
 unfold yb
 rw [hu]
 have q1 : (0 : Int) ≤ (hi' : Int) ∧ (hi' : Int) ≤ (n : Int) := by omega
 simp only [ZD, hiE, Option.bind_some, Int.toNat_natCast, hi, Option.map_some]
 rw [if_pos q1]
 simp only [Option.bind_some, Option.map_some]
 rw [if_neg (by omega)]
 simp only [Addr.add_mk, Nat.zero_mul, Nat.zero_add, Nat.sub_zero]
theorem zeroBy : zD Tryz.prog 105 = some (.agg (zR 64)) := by kernel_rfl
section
variable {H : Hp} {R : Value → Hp → Prop}
set_option maxHeartbeats 1000000 in
theorem node_enc {f : Ino} (hf : InoOk f) (k : ∀ H', Ext H H' → R (.agg (encN f)) H') : Fc Tryz.prog 40 #[.agg (zO f)] H R := by
 have hL : ∀ n, IsB (layN zB 0 f n) := fun n => (Yp Zo.n 0 n).b
 have hs : ∀ n, layN zB 0 f (n + 1) = seB (layN zB 0 f n) (0 + fo n) (fw n) (f n) := fun n => rfl
 have b2 : ∀ j, j < 2 → f j < 65536 := fun j hj => by have := hf j (by omega); unfold fw at this; rw [if_pos hj] at this; exact this
 have b4 : ∀ j, 2 ≤ j → j < 16 → f j < 4294967296 := fun j h2 h16 => by have := hf j h16; unfold fw at this; rw [if_neg (by omega)] at this; exact this
 have s0 : layN zB 0 f 1 = seB (layN zB 0 f 0) 0 2 (f 0) := rfl
 have s1 : layN zB 0 f 2 = seB (layN zB 0 f 1) 2 2 (f 1) := rfl
 have s4 : ∀ j, 2 ≤ j → layN zB 0 f (j + 1) = seB (layN zB 0 f j) (4 * (j - 1)) 4 (f j) := fun j hj => by
   rw [hs]; unfold fo fw; rw [if_neg (by omega), if_neg (by omega), Nat.zero_add]
 have i0 : (zO f)[0]? = some (.int .u16 (f 0)) := rfl
 have i1 : (zO f)[1]? = some (.int .u16 (f 1)) := rfl
 refine fn40 ?_
 simp only [sh40, Z0, Yo, zeroBy, za, zu]
 refine (Lo.start _ H : Lx H H []).boxA fun p1 H1 _ l1 => ?_
 refine l1.boxA fun p2 H2 _ l2 => ?_
 simp only [zh, Nat.zero_add, Nat.add_zero, za]
 rw [l2.ld (i := 0) rfl, i0, za]
 refine set_u16 (hL 0) (a := 0) (by omega) (b2 0 (by omega)) fun H3 e3 => ?_
 rw [← s0]
 refine (l2.ext e3).boxA fun p3 H4 _ l4 => ?_
 refine l4.stAll (i := 2) rfl zI (hL 1).size (hL 1).ok fun H5 l5 => ?_
 have l5 : Lx H H5 [.box p1 (zO f) 54, .box p2 (zR 64) 105, .box p3 (layN zB 0 f 1) 65] := l5
 rw [l5.ldAll (i := 2) (n := 1024) rfl (hL 1).size, za, l5.ld (i := 0) rfl, i1, za]
 refine set_u16 (hL 1) (a := 2) (by omega) (b2 1 (by omega)) fun H6 e6 => ?_
 rw [← s1]
 refine (l5.ext e6).stAll (i := 2) rfl (hL 1).size (hL 2).size (hL 2).ok fun H7 l7 => ?_
 have l7 : Lx H H7 [.box p1 (zO f) 54, .box p2 (zR 64) 105, .box p3 (layN zB 0 f 2) 65] := l7
 rw [l7.ldAll (i := 2) (n := 1024) rfl (hL 2).size, za, l7.ld (i := 0) rfl, Zf f 2 (by omega) (by omega), za]
 refine set_u32 (hL 2) (a := 4) (by omega) (b4 2 (by omega) (by omega)) fun H8 e8 => ?_
 rw [← s4 2 (by omega)]
 refine (l7.ext e8).stAll (i := 2) rfl (hL 2).size (hL 3).size (hL 3).ok fun H9 l9 => ?_
 have l9 : Lx H H9 [.box p1 (zO f) 54, .box p2 (zR 64) 105, .box p3 (layN zB 0 f 3) 65] := l9
 rw [l9.ldAll (i := 2) (n := 1024) rfl (hL 3).size, za, l9.ld (i := 0) rfl, Zf f 3 (by omega) (by omega), za]
 refine set_u32 (hL 3) (a := 8) (by omega) (b4 3 (by omega) (by omega)) fun H10 e10 => ?_
 rw [← s4 3 (by omega)]
 refine (l9.ext e10).stAll (i := 2) rfl (hL 3).size (hL 4).size (hL 4).ok fun H11 l11 => ?_
 have l11 : Lx H H11 [.box p1 (zO f) 54, .box p2 (zR 64) 105, .box p3 (layN zB 0 f 4) 65] := l11
 rw [Zj (l11.at (i := 0) rfl) (show 4 + 10 ≤ 16 by omega), za]
 refine zz.mk (fun t H' => ∃ i : Nat, i ≤ 10 ∧ t = (zm i, ()) ∧ Lx H H' [.box p1 (zO f) 54, .box p2 (zR 64) 105, .box p3 (layN zB 0 f (4 + i)) 65])
   (fun t _ => mi t.1 fun i => (10 - i).toNat) ⟨0, by omega, rfl, l11⟩ ?_
 rintro _ H12 ⟨i, hi, rfl, l12⟩
 rw [zt, za, zf]
 refine ⟨fun hlt => ?_, fun hge => ?_⟩
 · rw [idx10 (by omega), Array.getElem?_extract, if_pos (by rw [zy]; omega), Zf f (4 + i) (by omega) (by omega), za, l12.ldAll (i := 2) (n := 1024) rfl (hL _).size, za, zX, za, zg (by omega) (by omega), zk, za, zg (by omega) (by omega), show (12 : Int) + 4 * (i : Int) = ((4 * (4 + i - 1) : Nat) : Int) by omega]
   refine set_u32 (hL (4 + i)) (by omega) (b4 (4 + i) (by omega) (by omega)) fun H13 e13 => ?_
   rw [← s4 (4 + i) (by omega)]
   refine (l12.ext e13).stAll (i := 2) rfl (hL _).size (hL (4 + i + 1)).size (hL _).ok fun H14 l14 => ?_
   rw [zk, za, zL, zw (by omega)]
   exact ⟨⟨i + 1, by omega, rfl, l14⟩, by simp only [zC]; omega⟩
 · have ei : i = 10 := by omega
   subst ei
   rw [l12.ldAll (i := 2) (n := 1024) rfl (hL _).size, za, l12.ld (i := 0) rfl, Zf f 14 (by omega) (by omega), za]
   refine set_u32 (hL 14) (a := 52) (by omega) (b4 14 (by omega) (by omega)) fun H15 e15 => ?_
   rw [← s4 14 (by omega)]
   refine (l12.ext e15).stAll (i := 2) rfl (hL _).size (hL 15).size (hL 15).ok fun H16 l16 => ?_
   have l16 : Lx H H16 [.box p1 (zO f) 54, .box p2 (zR 64) 105, .box p3 (layN zB 0 f 15) 65] := l16
   rw [l16.ldAll (i := 2) (n := 1024) rfl (hL 15).size, za, l16.ld (i := 0) rfl, Zf f 15 (by omega) (by omega), za]
   refine set_u32 (hL 15) (a := 56) (by omega) (b4 15 (by omega) (by omega)) fun H17 e17 => ?_
   rw [← s4 15 (by omega)]
   refine (l16.ext e17).stAll (i := 2) rfl (hL 15).size (hL 16).size (hL 16).ok fun H18 l18 => ?_
   have l18 : Lx H H18 [.box p1 (zO f) 54, .box p2 (zR 64) 105, .box p3 (layN zB 0 f 16) 65] := l18
   rw [show (some (Value.int .i64 64)) = some (zm ((64 : Nat) : Int)) from rfl, sl_pre und1024 inf8_e inf8_s (by omega) (by omega), za, show arrE (some 64) (.slice (some ⟨p3, 0, none⟩) 64 1024) = some (.pointer (some ⟨p3, 0, none⟩)) from rfl, za, Zj (l18.at (i := 2) rfl) (by rw [(hL 16).size]; omega), za, lay_cut]
   exact l18.ret (i := 1) rfl (yu 64) (ZT f).size (ZT f).ok fun H' l' => k H' l'.ext0
end
end Go.Vc
namespace Go.Vc
open Go.Proofs Classical
theorem copy_row {e : ZN} {b o dl c sb c' n : Nat} {cs : Array Value} {H : Hp} {K : Value × Hp → Prop} (he : e.size = 1) (hr : rowH H ⟨sb, 0, none⟩ n = some cs) (hn : n ≤ dl) (hsz : cs.size = n) (h : Pu (zj (some n) (.pointer (some ⟨b, o, none⟩)) (.agg cs) H) fun H' => K (.int .i64 (n : Nat), H')) :
   Pu (copyE (some e) (.slice (some ⟨b, o, none⟩) dl c) (.slice (some ⟨sb, 0, none⟩) n c') H) K := by
 unfold copyE
 simp only [lenX, Option.bind_some, cellsN, he, Nat.mul_one]
 rw [Nat.min_eq_left hn, hr]
 simp only [Option.bind_some]
 unfold zj at h
 simp only [zP, hsz, if_true] at h
 cases hp : putH H ⟨b, o, none⟩ cs with
 | none =>
   rw [hp] at h
   obtain ⟨v, he2, _⟩ := h
   cases he2
 | some H' =>
   rw [hp, za] at h
   rw [Option.map_some, za]
   exact h
theorem elBy : ∃ e, zK Tryz.prog 107 = some e ∧ e.size = 1 := ⟨orE (zK Tryz.prog 107), by kernel_rfl, by kernel_rfl⟩
theorem sl_from {P : Program} {T e n : Nat} {i : TypeInfo} (hu : P.underlying T = some (.array n e)) (hi : P.info? e = some i) (hs : i.size = 1) {b lo : Nat} (h3 : lo < n) : yb P T (.pointer (some ⟨b, 0, none⟩)) (some (zm lo)) none none = some (.slice (some ⟨b, lo, none⟩) (n - lo) (n - lo)) := by
 unfold yb
 rw [hu]
 have q2 : (0 : Int) ≤ (lo : Int) ∧ (lo : Int) ≤ (n : Int) := by omega
 simp only [ZD, hiE, Option.bind_some, Int.toNat_natCast, hi, Option.map_some]
 rw [if_pos q2]
 simp only [Option.bind_some, Option.map_some, hs, Nat.mul_one]
 rw [if_neg (by omega)]
 simp only [Addr.add_mk, Nat.zero_add]
section
variable {H : Hp} {R : Value → Hp → Prop} {lb p : Nat} {mine : Int} {O : Nat → Prop} {B L I : Int}
set_option maxHeartbeats 1000000 in
theorem pl_rwrite {P : PSt} (h : (ZL lb p (zq B L I) mine P).at_ H O) (hok : POk (zq B L I) mine P) (hg : Zn B L I) (hop : P.open_ = true) {W : List Int} (hwr : P.wrote = some W) {i : Nat} (h0 : 1 ≤ i) (h1 : (i : Int) ≤ I) (hroom : (1 + L + ((i / 16 : Nat) : Int)) ∈ W ∨ (W.length : Int) < P.room) {f : Ino} (hf : InoOk f) (hslack : P.s.reads < 4611686018427387903) (hord : ((addL P.order (1 + L + ((i / 16 : Nat) : Int))).length : Int) ≤ L - 1)
   (k : ∀ H' O' P', Stp O O' H H' → (ZL lb p (zq B L I) mine P').at_ H' O' → Wt (zq B L I) mine P P' (1 + L + ((i / 16 : Nat) : Int)) (zV (Zg P.s P.cs (1 + L + ((i / 16 : Nat) : Int))) (64 * (i % 16)) (encN f)) 1 → R (.int .i64 0) H') : Fc Tryz.prog 12 #[z7 lb, zm i, .agg (zO f)] H R := by
 obtain ⟨gL1, gL2, gI1, gI2, gB1, gB2, gD⟩ := id hg
 have hDA : (zq B L I).dataAt = 1 + L + (I + 16) / 16 + (B + 8191) / 8192 := rfl
 have hBB : (zq B L I).B = B := rfl
 have hLL : (zq B L I).L = L := rfl
 have x3 : ∀ {a b c : Value}, ze (.tuple #[a, b, c]) 0 = some a := rfl
 have x4 : ∀ {a b c : Value}, ze (.tuple #[a, b, c]) 1 = some b := rfl
 have x5 : ∀ {a b c : Value}, ze (.tuple #[a, b, c]) 2 = some c := rfl
 have y3 : ∀ {a b : Value}, ze (.tuple #[a, b]) 0 = some a := rfl
 have y4 : ∀ {a b : Value}, ze (.tuple #[a, b]) 1 = some b := rfl
 refine fn12 ?_
 simp only [sh12, zeroBy, Z0, za]
 refine (Lo.own h).boxA fun b1 H1 _ l1 => ?_
 have l1 : Lo O H H1 [ZL lb p (zq B L I) mine P, .box b1 (zO f) 54] := l1
 obtain ⟨O1, hl1, _⟩ := l1.call (i := 0) rfl
 refine YT hl1 hok ?_
 rw [zx, za, decide_eq_false (by omega), zl]
 refine pl_open hl1 hok ?_
 rw [hop, zM, za, Bool.not_true, zl]
 refine pl_spot hl1 hok hg (by omega) fun H2 e2 => ?_
 have l2 := l1.ext e2
 rw [x3, za, x4, za, x5, za, decide_eq_true (by omega), zM, za, Bool.not_true, zl]
 obtain ⟨O2, hl2, st2⟩ := l2.call (i := 0) rfl
 refine pl_read hl2 hok (by omega) (by rw [hBB]; omega) (by rw [hLL]; omega) fun H3 O3 s' cs' s3 hl3 hrd hnow => ?_
 have l3 : Lo O H H3 [ZL lb p (zq B L I) mine { P with s := s', cs := cs' }, .box b1 (zO f) 54] := st2 H3 _ O3 s3 hl3
 rw [y3, za, y4, za]
 have hok' := hrd.ok hok (by omega)
 generalize hc0 : Zg P.s P.cs (1 + L + ((i / 16 : Nat) : Int)) = c at hnow k
 have hsp : IsB (zV c (64 * (i % 16)) (encN f)) := (yk hnow.n (ZT f) (by omega)).b
 refine l3.boxA fun b3 H4 _ l4 => ?_
 refine l4.stAll (i := 2) rfl zI hnow.size hnow.ok fun H5 l5 => ?_
 have l5 : Lo O H H5 [ZL lb p (zq B L I) mine { P with s := s', cs := cs' }, .box b1 (zO f) 54, .box b3 c 65] := l5
 rw [zx, za, decide_eq_false (by omega), zl, l5.ldAll (i := 1) (n := 16) rfl (zy _), za]
 refine node_enc hf fun H6 e6 => ?_
 refine (l5.ext e6).boxA fun b4 H7 _ l7 => ?_
 refine l7.stAll (i := 3) rfl (yu 64) (ZT f).size (ZT f).ok fun H8 l8 => ?_
 have l8 : Lo O H H8 [ZL lb p (zq B L I) mine { P with s := s', cs := cs' }, .box b1 (zO f) 54, .box b3 c 65, .box b4 (encN f) 105] := l8
 obtain ⟨eb, eb1, eb2⟩ := elBy
 rw [sl_from und1024 inf8_e inf8_s (by omega), za, sl_all und64 inf8_e inf8_s (by omega), za, eb1]
 have hrow : rowH H8 ⟨b4, 0, none⟩ 64 = some (encN f) := by
   unfold rowH
   simp only [l8.at (i := 3) rfl]
   rw [if_pos ⟨trivial, by rw [(ZT f).size]; omega⟩, YX (ZT f).size]
 refine copy_row eb2 hrow (by omega) (ZT f).size ?_
 refine l8.stRow (i := 2) (j := 64 * (i % 16)) rfl (by rw [hnow.size]; omega) (ZT f).size (ZT f).ok fun H9 l9 => ?_
 have l9 : Lo O H H9 [ZL lb p (zq B L I) mine { P with s := s', cs := cs' }, .box b1 (zO f) 54, .box b3 (zV c (64 * (i % 16)) (encN f)) 65, .box b4 (encN f) 105] := l9
 simp only []
 rw [l9.ldAll (i := 2) (n := 1024) rfl hsp.size, za]
 obtain ⟨O9, hl9, st9⟩ := l9.call (i := 0) rfl
 refine pl_write hl9 hok' hop hwr (by rw [hLL]; omega) (by rw [hBB]; omega) hroom hsp hord fun H10 O10 P' s10 h10 hw => ?_
 have l10 := st9 H10 _ O10 s10 h10
 obtain ⟨O', st, ha⟩ := Lo.close1 l10
 exact k H10 O' P' st ha (hrd.wt hw (by omega))
end
end Go.Vc
namespace Go.Vc
open Go.Proofs Classical
section
variable {S : Nat → Prop} {H0 H : Hp} {l : List Ob}
theorem Lo.unpack {r : List Ob} (h : Lo S H0 H (l ++ [.all r])) : Lo S H0 H (l ++ r) := by
 obtain ⟨k, col, w, hc⟩ := h
 have hx : (l ++ [Ob.all r])[l.length]? = some (.all r) := by simp
 obtain ⟨⟨cr, wr, hr⟩, hO⟩ := w.get hx
 have hr : ∀ b, cr b ≠ 0 → col b = l.length + 1 := hr
 refine ⟨k, fun b => if cr b ≠ 0 then l.length + cr b else if col b ≤ l.length then col b else 0, ⟨fun i x hx => ?_, fun b hb => ?_⟩, fun b hb hn => hc b hb fun e => hn ?_⟩
 · by_cases hi : i < l.length
   · have hx' : (l ++ [Ob.all r])[i]? = some x := by rw [List.getElem?_append_left hi]; rw [List.getElem?_append_left hi] at hx; exact hx
     have ho := w.get hx'
     refine x.frame ho (fun _ _ => rfl) (Nat.le_refl _) (fun b hb => ?_) fun b hb => ?_
     · have hb : col b = i + 1 := hb
       show (if cr b ≠ 0 then l.length + cr b else if col b ≤ l.length then col b else 0) = i + 1
       rw [if_neg (fun e => by have := hr b e; omega), if_pos (by omega)]; exact hb
     · have hb : (if cr b ≠ 0 then l.length + cr b else if col b ≤ l.length then col b else 0) = i + 1 := hb
       rcases Nat.lt_or_ge b H.size with h1 | h1
       · exact h1
       · rw [wr.out b h1, w.out b h1] at hb; simp at hb
   · rw [List.getElem?_append_right (by omega)] at hx
     have ho := wr.get hx
     refine x.frame ho (fun _ _ => rfl) (Nat.le_refl _) (fun b hb => ?_) fun b hb => ?_
     · have hb : cr b = i - l.length + 1 := hb
       show (if cr b ≠ 0 then l.length + cr b else if col b ≤ l.length then col b else 0) = i + 1
       rw [if_pos (by omega)]; omega
     · have hb : (if cr b ≠ 0 then l.length + cr b else if col b ≤ l.length then col b else 0) = i + 1 := hb
       rcases Nat.lt_or_ge b H.size with h1 | h1
       · exact h1
       · rw [wr.out b h1, w.out b h1] at hb; simp at hb
 · show (if cr b ≠ 0 then l.length + cr b else if col b ≤ l.length then col b else 0) = 0
   rw [wr.out b hb, w.out b hb]; simp
 · have hz : cr b = 0 := by
     by_cases hz : cr b = 0
     · exact hz
     · have := hr b hz; omega
   simp [hz, e]
end
theorem CallV.mono {P : Program} {y : Value} {args : Array Value} {H : Hp} {K K' : Value → Hp → Prop} (h : CallV P y args H K) (hk : ∀ v H', K v H' → K' v H') : CallV P y args H K' := by
 unfold CallV at h ⊢
 split at h
 · exact ⟨h.1, h.2.mono hk⟩
 · unfold Yld at h ⊢
   split at h
   · exact ⟨h.1, h.2.mono hk⟩
   · exact h.elim
 · exact h.elim
noncomputable def ndP (P : PSt) (L : Int) (i : Nat) : Ino := Zq (Zg P.s P.cs (1 + L + ((i / 16 : Nat) : Int))) (64 * (i % 16))
def wk (I : Int) (n : Nat) : Nat := max 1 (min n (I.toNat + 1))
theorem ms_lt {n : Nat} {c : Int} (h : (n : Int) < c) : (c - ((n + 1 : Nat) : Int)).toNat < (c - (n : Int)).toNat := by omega
theorem enterRd : enterB Tryz.prog 18 = true := by kernel_rfl
section
variable {S : Nat → Prop} {H0 H : Hp} {R : Value → Hp → Prop} {lb p : Nat} {mine : Int} {B L I : Int} {r : List Ob}
set_option maxHeartbeats 1000000 in
set_option maxRecDepth 100000 in
theorem walk_ok {X : Nat → Ob} {go : Nat → Bool} {av : Value} {P : PSt} (l : Lo S H0 H ([ZL lb p (zq B L I) mine P, X 1] ++ r)) (hok : POk (zq B L I) mine P) (hg : Zn B L I) (hslack : P.s.reads + 5000 < 4611686018427387904)
   (hask : ∀ (H : Hp) (O : Nat → Prop) (j : Nat), 1 ≤ j → (j : Int) ≤ I → (X j).at_ H O → CallV Tryz.prog av #[zm j, .agg (zO (ndP P L j))] H fun v H' => v = .bool (go j) ∧ ∃ O', Stp O O' H H' ∧ (X (j + 1)).at_ H' O')
   (k : ∀ H' s' cs' m, Lo S H0 H' ([ZL lb p (zq B L I) mine { P with s := s', cs := cs' }, X m] ++ r) → Rd (zq B L I) P s' cs' 4097 → 1 ≤ m → (m : Int) ≤ I + 1 → (∀ j, 1 ≤ j → j + 1 < m → go j = true) → ((m : Int) = I + 1 ∧ (∀ j, 1 ≤ j → j < m → go j = true) ∨ 2 ≤ m ∧ go (m - 1) = false) → R (.int .i64 0) H') :
   Fc Tryz.prog 42 #[z7 lb, .func (.func 18) #[z7 lb] #[], av] H R := by
 obtain ⟨gL1, gL2, gI1, gI2, gB1, gB2, gD⟩ := id hg
 have hDA : (zq B L I).dataAt = 1 + L + (I + 16) / 16 + (B + 8191) / 8192 := rfl
 have hBB : (zq B L I).B = B := rfl
 have hLL : (zq B L I).L = L := rfl
 have c5 : (zq B L I).cells[5]? = some (zm ((I + 16) / 16)) := rfl
 have c4 : (zq B L I).cells[4]? = some (zm (1 + L)) := rfl
 have c2 : (zq B L I).cells[2]? = some (zm I) := rfl
 have y3 : ∀ {a b : Value}, ze (.tuple #[a, b]) 0 = some a := rfl
 have y4 : ∀ {a b : Value}, ze (.tuple #[a, b]) 1 = some b := rfl
 have l := Lo.pack (l := [ZL lb p (zq B L I) mine P, X 1]) l
 refine fn42 ?_
 simp only [sh42, yt, Z0, za, zu]
 obtain ⟨O1, h1, st1⟩ := l.call (i := 0) rfl
 refine pl_layout h1 hok fun H1 e1 => ?_
 refine (l.ext e1).boxA fun b1 H2 _ l2 => ?_
 refine l2.stAll (i := 3) rfl rfl (Lay.size _) (Lay.cok _) fun H3 l3 => ?_
 have l3 : Lo S H0 H3 [ZL lb p (zq B L I) mine P, X 1, .all r, .box b1 (zq B L I).cells 62] := l3
 simp only [zh, Nat.zero_add, Nat.add_zero, za]
 rw [l3.ld (i := 3) rfl, c5, za]
 refine zz.mk (fun t H' => ∃ (n : Nat) (s' : DS) (cs' : List Pl), (n : Int) ≤ (I + 16) / 16 ∧ t = (zm n, ()) ∧ Rd (zq B L I) P s' cs' n ∧ (∀ j, 1 ≤ j → j < wk I (16 * n) → go j = true) ∧ Lo S H0 H' [ZL lb p (zq B L I) mine { P with s := s', cs := cs' }, X (wk I (16 * n)), .all r, .box b1 (zq B L I).cells 62])
   (fun t _ => mi t.1 fun i => (5000 - i).toNat) ⟨0, P.s, P.cs, by omega, rfl, Rd.refl hok, fun j h1 h2 => by unfold wk at h2; omega, l3⟩ ?_
 rintro _ H4 ⟨n, s', cs', hn, rfl, hrd, hgo, l4⟩
 rw [zt, za, zf]
 refine ⟨fun hlt => ?_, fun hge => ?_⟩
 rotate_left
 · have en : wk I (16 * n) = I.toNat + 1 := by unfold wk; omega
   rw [en] at hgo l4
   have l5 := Lo.unpack (l := [ZL lb p (zq B L I) mine { P with s := s', cs := cs' }, X (I.toNat + 1)]) (r := r) (l4.takeN 3)
   exact k H4 s' cs' (I.toNat + 1) l5 (hrd.mono (by omega)) (by omega) (by omega) (fun j h1 h2 => hgo j h1 (by omega)) (.inl ⟨by omega, hgo⟩)
 have hok' := hrd.ok hok (by omega)
 rw [l4.ld (i := 3) rfl, c4, za, zk, za, zg (by omega) (by omega)]
 obtain ⟨O4, h4, st4⟩ := l4.call (i := 0) rfl
 refine ⟨enterRd, ?_⟩
 refine pl_read h4 hok' (by omega) (by rw [hBB]; omega) (by rw [hLL]; omega) fun H5 O5 s2 cs2 s5 h5 hrd2 hib => ?_
 have l5 := st4 H5 _ O5 s5 h5
 have l5 : Lo S H0 H5 [ZL lb p (zq B L I) mine { P with s := s2, cs := cs2 }, X (wk I (16 * n)), .all r, .box b1 (zq B L I).cells 62] := l5
 have hrd3 := hrd.trans hrd2 (k := ((n + 1 : Nat) : Int)) (by omega)
 have ev : Zg s' cs' (1 + L + (n : Int)) = Zg P.s P.cs (1 + L + (n : Int)) := hrd.view _
 rw [y3, za, y4, za, show Zg ({ P with s := s', cs := cs' } : PSt).s ({ P with s := s', cs := cs' } : PSt).cs (1 + L + (n : Int)) = Zg P.s P.cs (1 + L + (n : Int)) from ev]
 have hib : IsB (Zg P.s P.cs (1 + L + (n : Int))) := ev ▸ hib
 generalize hc : Zg P.s P.cs (1 + L + (n : Int)) = c at hib
 refine l5.boxA fun b2 H6 _ l6 => ?_
 refine l6.stAll (i := 4) rfl zI hib.size hib.ok fun H7 l7 => ?_
 have l7 : Lo S H0 H7 [ZL lb p (zq B L I) mine { P with s := s2, cs := cs2 }, X (wk I (16 * n)), .all r, .box b1 (zq B L I).cells 62, .box b2 c 65] := l7
 rw [zx, za, decide_eq_false (by omega), zl]
 refine zz.mk (fun t H' => ∃ i : Nat, i ≤ 16 ∧ t = (zm i, ()) ∧ (∀ j, 1 ≤ j → j < wk I (16 * n + i) → go j = true) ∧ Lo S H0 H' [ZL lb p (zq B L I) mine { P with s := s2, cs := cs2 }, X (wk I (16 * n + i)), .all r, .box b1 (zq B L I).cells 62, .box b2 c 65])
   (fun t _ => mi t.1 fun i => (16 - i).toNat) ⟨0, by omega, rfl, by rw [Nat.add_zero]; exact hgo, by rw [Nat.add_zero]; exact l7⟩ ?_
 rintro _ H8 ⟨i, hi, rfl, hgo8, l8⟩
 rw [zt, za, zf]
 refine ⟨fun hlt8 => ?_, fun hge8 => ?_⟩
 rotate_left
 · have ei : i = 16 := by omega
   subst ei
   rw [zk, za, zL, zw (by omega)]
   have hms := ms_lt (n := n) (c := 5000) (by omega)
   have e16 : 16 * (n + 1) = 16 * n + 16 := by omega
   have l9 := l8.takeN 4
   generalize 16 * n + 16 = q at e16 hgo8 l9
   subst e16
   exact ⟨⟨n + 1, s2, cs2, by omega, rfl, hrd3, hgo8, l9⟩, by simp only [zC]; exact hms⟩
 rw [zX, za, zg (by omega) (by omega), zk, za, zg (by omega) (by omega), show (n : Int) * 16 + (i : Int) = ((16 * n + i : Nat) : Int) by omega]
 have hnext : ∀ {K : Prop}, (K → Pu (some (zm ((i + 1 : Nat) : Int))) fun x => K) := fun {K} h => by rw [za]; exact h
 refine zT.mk (fun t H' => H' = H8 ∧ t.1 = .bool (decide (¬ (1 ≤ 16 * n + i ∧ ((16 * n + i : Nat) : Int) ≤ I)))) ?_ ?_
 rotate_left
 · rw [zt, za, zf]
   refine ⟨fun h => ⟨rfl, ?_⟩, fun h => ?_⟩
   · rw [decide_eq_true (by omega)]
   · rw [l8.ld (i := 3) rfl, c2, za, zN, za]
     refine ⟨rfl, ?_⟩
     rw [dec_dec (q := ¬ (1 ≤ 16 * n + i ∧ ((16 * n + i : Nat) : Int) ≤ I)) ⟨fun e e2 => by omega, fun e => by omega⟩]
 rintro ⟨t, u⟩ H9 ⟨rfl, ht⟩
 simp only at ht
 subst ht
 rw [zf]
 refine ⟨fun hno => ?_, fun hyes => ?_⟩
 · rw [zk, za, zL, zw (by omega)]
   have e : wk I (16 * n + (i + 1)) = wk I (16 * n + i) := by unfold wk; omega
   exact ⟨⟨i + 1, by omega, rfl, by rw [e]; exact hgo8, by rw [e]; exact l8⟩, by simp only [zC]; omega⟩
 have hyes : 1 ≤ 16 * n + i ∧ ((16 * n + i : Nat) : Int) ≤ I := Classical.not_not.1 hyes
 have e8 : wk I (16 * n + i) = 16 * n + i := by unfold wk; omega
 rw [e8] at hgo8 l8
 rw [zX, za, zg (by omega) (by omega), show (i : Int) * 64 = ((64 * i : Nat) : Int) by omega, zk, za, zL, zw (by omega), zX, za, zg (by omega) (by omega), show ((i + 1 : Nat) : Int) * 64 = ((64 * i + 64 : Nat) : Int) by omega, sl_arr und1024 inf8_e inf8_s (by omega) (by omega) (by omega), za, show 64 * i + 64 - 64 * i = 64 by omega, show arrE (some 64) (.slice (some ⟨b2, 64 * i, none⟩) 64 (1024 - 64 * i)) = some (.pointer (some ⟨b2, 64 * i, none⟩)) from rfl, za, Zj (l8.at (i := 4) rfl) (by rw [hib.size]; omega), za]
 refine node_dec (cutN_is hib (by omega)) fun H10 e10 => ?_
 have e : zO (Zq (c.extract (64 * i) (64 * i + 64)) 0) = zO (ndP P L (16 * n + i)) := ZX fun j hj => by
   unfold ndP
   rw [show (16 * n + i) / 16 = n by omega, show (16 * n + i) % 16 = i by omega, hc]
   exact inoOf_cutN hib (by omega) hj
 rw [e]
 have l10 := l8.ext e10
 obtain ⟨O10, h10, st10⟩ := l10.call (i := 1) rfl
 refine CallV.mono (hask H10 O10 (16 * n + i) hyes.1 hyes.2 h10) fun v H11 ⟨hv, O11, s11, h11⟩ => ?_
 subst hv
 have l11 := st10 H11 _ O11 s11 h11
 have l11 : Lo S H0 H11 [ZL lb p (zq B L I) mine { P with s := s2, cs := cs2 }, X (16 * n + i + 1), .all r, .box b1 (zq B L I).cells 62, .box b2 c 65] := l11
 rw [zM, za]
 cases hgv : go (16 * n + i) with
 | true =>
   rw [Bool.not_true, zl, za]
   have e : wk I (16 * n + (i + 1)) = 16 * n + i + 1 := by unfold wk; omega
   refine ⟨⟨i + 1, by omega, rfl, fun j h1 h2 => ?_, by rw [e]; exact l11⟩, by simp only [zC]; omega⟩
   rw [e] at h2
   by_cases ej : j = 16 * n + i
   · rw [ej]; exact hgv
   · exact hgo8 j h1 (by omega)
 | false =>
   rw [Bool.not_false, zZ]
   have l5 := Lo.unpack (l := [ZL lb p (zq B L I) mine { P with s := s2, cs := cs2 }, X (16 * n + i + 1)]) (r := r) (l11.takeN 3)
   exact k H11 s2 cs2 (16 * n + i + 1) l5 (hrd3.mono (by omega)) (by omega) (by omega) (fun j h1 h2 => hgo8 j h1 (by omega)) (.inr ⟨by omega, hgv⟩)
end
end Go.Vc
namespace Go.Vc
open Go.Proofs Classical
def frN (f : Nat → Ino) : Nat → Nat
 | 0 => 0
 | n + 1 => frN f n + if f (n + 1) 0 = 0 then 1 else 0
def lsN (f : Nat → Ino) : Nat → Nat
 | 0 => 0
 | n + 1 => if f (n + 1) 0 = 0 then n + 1 else lsN f n
theorem frN_le (f : Nat → Ino) : ∀ n, frN f n ≤ n
 | 0 => Nat.le_refl 0
 | n + 1 => by have := frN_le f n; unfold frN; split <;> omega
theorem lsN_zero {f : Nat → Ino} : ∀ {n}, lsN f n = 0 → ∀ j, 1 ≤ j → j ≤ n → f j 0 ≠ 0
 | 0, _, j, h1, h2 => by omega
 | n + 1, h, j, h1, h2 => by
   unfold lsN at h
   split at h
   · omega
   · rename_i hne
     by_cases e : j = n + 1
     · rw [e]; exact hne
     · exact lsN_zero h j h1 (by omega)
theorem zeroIn : zD Tryz.prog 3 = some (.int .i64 0) := by kernel_rfl
theorem enterSp : enterB Tryz.prog 43 = true := by kernel_rfl
theorem enterTk : enterB Tryz.prog 48 = true := by kernel_rfl
section
variable {H : Hp} {R : Value → Hp → Prop} {lb p : Nat} {mine : Int} {O : Nat → Prop} {B L I : Int}
theorem spare1 {f : Ino} {i b : Nat} {c : Int} (h : (Ob.box b #[zm c] 3).at_ H O) (hc : 0 ≤ c ∧ c ≤ 70000) (k : ∀ H' O', Stp O O' H H' → (Ob.box b #[zm (c + if f 0 = 0 then 1 else 0)] 3).at_ H' O' → R (.bool true) H') : Fc Tryz.prog 43 #[zm i, .agg (zO f), z7 b] H R := by
 have i0 : (zO f)[0]? = some (.int .u16 (f 0)) := rfl
 refine fn43 ?_
 simp only [sh43]
 refine (Lo.own h).boxA fun b1 H1 _ l1 => ?_
 have l1 : Lo O H H1 [.box b #[zm c] 3, .box b1 (zO f) 54] := l1
 simp only [zh, Nat.zero_add, Nat.add_zero, za]
 rw [l1.ld (i := 1) rfl, i0, za, zA, za, zf]
 refine ⟨fun h0 => ?_, fun h0 => ?_⟩
 · rw [l1.ld (i := 0) rfl, show (#[zm c] : Array Value)[0]? = some (zm c) from rfl, za, zk, za, zg (by omega) (by omega)]
   refine l1.st (i := 0) (j := 0) (v := zm (c + 1)) rfl (by simp) rfl rfl fun H2 l2 => ?_
   obtain ⟨O', st, h'⟩ := Lo.close1 (x := .box b #[zm (c + 1)] 3) (r := [_]) l2
   have := k H2 O' st
   rw [if_pos (by omega)] at this
   exact this h'
 · obtain ⟨O', st, h'⟩ := Lo.close1 l1
   have := k H1 O' st
   rw [if_neg (by omega), Int.add_zero] at this
   exact this h'
theorem take1 {f : Ino} {i b : Nat} {c : Int} (h : (Ob.box b #[zm c] 3).at_ H O) (k : ∀ H' O', Stp O O' H H' → (Ob.box b #[zm (if f 0 = 0 then i else c)] 3).at_ H' O' → R (.bool (decide ((if f 0 = 0 then (i : Int) else c) = 0))) H') : Fc Tryz.prog 48 #[zm i, .agg (zO f), z7 b] H R := by
 have i0 : (zO f)[0]? = some (.int .u16 (f 0)) := rfl
 refine fn48 ?_
 simp only [sh48, zu]
 refine (Lo.own h).boxA fun b1 H1 _ l1 => ?_
 have l1 : Lo O H H1 [.box b #[zm c] 3, .box b1 (zO f) 54] := l1
 simp only [zh, Nat.zero_add, Nat.add_zero, za]
 refine zT.mk (fun _ H' => Lo O H H' [.box b #[zm (if f 0 = 0 then i else c)] 3, .box b1 (zO f) 54]) ?_ ?_
 · intro _ H2 l2
   rw [l2.ld (i := 0) rfl, show (#[zm (if f 0 = 0 then (i : Int) else c)] : Array Value)[0]? = some (zm (if f 0 = 0 then (i : Int) else c)) from rfl, za, zA, za]
   obtain ⟨O', st, h'⟩ := Lo.close1 l2
   exact k H2 O' st h'
 · rw [l1.ld (i := 1) rfl, i0, za, zA, za, zf]
   refine ⟨fun h0 => ?_, fun h0 => ?_⟩
   · refine l1.st (i := 0) (j := 0) (v := zm i) rfl (by simp) rfl rfl fun H2 l2 => ?_
     rw [if_pos (by omega)]; exact l2
   · rw [if_neg (by omega)]; exact l1
theorem nd_view {P : PSt} {s' : DS} {cs' : List Pl} {x : Lay} {m : Int} (h : Rd x P s' cs' m) (i : Nat) : ndP { P with s := s', cs := cs' } L i = ndP P L i := by
 unfold ndP
 rw [show Zg ({ P with s := s', cs := cs' } : PSt).s ({ P with s := s', cs := cs' } : PSt).cs _ = Zg P.s P.cs _ from h.view _]
set_option maxHeartbeats 1000000 in
theorem spare_ok {P : PSt} (h : (ZL lb p (zq B L I) mine P).at_ H O) (hok : POk (zq B L I) mine P) (hg : Zn B L I) (hslack : P.s.reads + 5000 < 4611686018427387904)
   (k : ∀ H' O' s' cs', Stp O O' H H' → (ZL lb p (zq B L I) mine { P with s := s', cs := cs' }).at_ H' O' → Rd (zq B L I) P s' cs' 4097 → R (.tuple #[zm (frN (ndP P L) I.toNat), .int .i64 0]) H') : Fc Tryz.prog 14 #[z7 lb] H R := by
 obtain ⟨gL1, gL2, gI1, gI2, gB1, gB2, gD⟩ := id hg
 refine fn14 ?_
 simp only [sh14, zeroIn, za]
 refine YT h hok ?_
 rw [zx, za, decide_eq_false (by omega), zl]
 refine (Lo.own h).box fun b H1 _ l1 => ?_
 refine l1.st (i := 1) (j := 0) (v := .int .i64 0) rfl (show 0 < 1 by omega) rfl rfl fun H2 l2 => ?_
 refine walk_ok (X := fun j => .box b #[zm ((frN (ndP P L) (j - 1) : Nat) : Int)] 3) (go := fun _ => true) (r := []) l2 hok hg hslack (fun H3 O3 j h1 h2 hx => ?_) fun H3 s' cs' m l3 hrd h1 h2 _ hend => ?_
 · refine ⟨enterSp, ?_⟩
   have := frN_le (ndP P L) (j - 1)
   refine spare1 hx (by omega) fun H4 O4 s4 h4 => ⟨rfl, O4, s4, ?_⟩
   obtain ⟨j, rfl⟩ : ∃ q, j = q + 1 := ⟨j - 1, by omega⟩
   have e : ((frN (ndP P L) j : Nat) : Int) + (if ndP P L (j + 1) 0 = 0 then 1 else 0) = ((frN (ndP P L) (j + 1) : Nat) : Int) := by
     rw [show frN (ndP P L) (j + 1) = frN (ndP P L) j + if ndP P L (j + 1) 0 = 0 then 1 else 0 from rfl]
     split <;> omega
   rw [Nat.add_sub_cancel, e] at h4
   rw [Nat.add_sub_cancel]
   exact h4
 · have em : m = I.toNat + 1 := by
     rcases hend with ⟨e, _⟩ | ⟨_, e⟩
     · omega
     · cases e
   subst em
   have l3 : Lo O H H3 [ZL lb p (zq B L I) mine { P with s := s', cs := cs' }, .box b #[zm ((frN (ndP P L) I.toNat : Nat) : Int)] 3] := l3
   rw [zx, za, decide_eq_false (by omega), zl, l3.ld (i := 1) rfl, show (#[zm ((frN (ndP P L) I.toNat : Nat) : Int)] : Array Value)[0]? = some (zm ((frN (ndP P L) I.toNat : Nat) : Int)) from rfl, za]
   obtain ⟨O', st, h'⟩ := Lo.close1 l3
   exact k H3 O' s' cs' st h' hrd
set_option maxHeartbeats 1000000 in
theorem rtake_ok {P : PSt} (h : (ZL lb p (zq B L I) mine P).at_ H O) (hok : POk (zq B L I) mine P) (hg : Zn B L I) (hop : P.open_ = true) {W : List Int} (hwr : P.wrote = some W) (hroom : (W.length : Int) < P.room) (hord : (P.order.length : Int) + 1 ≤ L - 1) {f : Ino} (hf : InoOk f) (hf0 : f 0 ≠ 0) (hslack : P.s.reads + 6000 < 4611686018427387904)
   (kno : ∀ H' O' s' cs', (∀ j : Nat, 1 ≤ j → (j : Int) ≤ I → ndP P L j 0 ≠ 0) → Stp O O' H H' → (ZL lb p (zq B L I) mine { P with s := s', cs := cs' }).at_ H' O' → Rd (zq B L I) P s' cs' 4097 → R (.tuple #[zm 0, .int .i64 16]) H')
   (kyes : ∀ H' O' P' (i : Nat), 1 ≤ i → (i : Int) ≤ I → ndP P L i 0 = 0 → (∀ j : Nat, 1 ≤ j → j < i → ndP P L j 0 ≠ 0) → Stp O O' H H' → (ZL lb p (zq B L I) mine P').at_ H' O' → Wt (zq B L I) mine P P' (1 + L + ((i / 16 : Nat) : Int)) (zV (Zg P.s P.cs (1 + L + ((i / 16 : Nat) : Int))) (64 * (i % 16)) (encN f)) 5000 → R (.tuple #[zm i, .int .i64 0]) H') :
   Fc Tryz.prog 20 #[z7 lb, .agg (zO f)] H R := by
 obtain ⟨gL1, gL2, gI1, gI2, gB1, gB2, gD⟩ := id hg
 have i0 : (zO f)[0]? = some (.int .u16 (f 0)) := rfl
 refine fn20 ?_
 simp only [sh20, zeroIn, za]
 refine (Lo.own h).boxA fun b1 H1 _ l1 => ?_
 have l1 : Lo O H H1 [ZL lb p (zq B L I) mine P, .box b1 (zO f) 54] := l1
 obtain ⟨O1, h1, st1⟩ := l1.call (i := 0) rfl
 refine YT h1 hok ?_
 rw [zx, za, decide_eq_false (by omega), zl]
 refine pl_open h1 hok ?_
 simp only [zh, Nat.zero_add, Nat.add_zero, za]
 rw [hop, zM, za, Bool.not_true, zl, l1.ld (i := 1) rfl, i0, za, zA, za, decide_eq_false (by omega), zl]
 refine l1.box fun b H2 _ l2 => ?_
 refine l2.st (i := 2) (j := 0) (v := .int .i64 0) rfl (show 0 < 1 by omega) rfl rfl fun H3 l3 => ?_
 have l3 : Lo O H H3 [ZL lb p (zq B L I) mine P, .box b1 (zO f) 54, .box b #[zm ((lsN (ndP P L) 0 : Nat) : Int)] 3] := l3
 refine walk_ok (X := fun j => .box b #[zm ((lsN (ndP P L) (j - 1) : Nat) : Int)] 3) (go := fun j => decide (lsN (ndP P L) j = 0)) (r := [.box b1 (zO f) 54]) (l3.pick [0, 2, 1] (by decide) (by simp)) hok hg (by omega) (fun H4 O4 j j1 j2 hx => ?_) fun H4 s' cs' m l4 hrd m1 m2 hgo hend => ?_
 · refine ⟨enterTk, ?_⟩
   obtain ⟨j, rfl⟩ : ∃ q, j = q + 1 := ⟨j - 1, by omega⟩
   simp only [Nat.add_sub_cancel] at hx ⊢
   have e : (if ndP P L (j + 1) 0 = 0 then ((j + 1 : Nat) : Int) else ((lsN (ndP P L) j : Nat) : Int)) = ((lsN (ndP P L) (j + 1) : Nat) : Int) := by
     rw [show lsN (ndP P L) (j + 1) = if ndP P L (j + 1) 0 = 0 then j + 1 else lsN (ndP P L) j from rfl]
     split <;> rfl
   refine take1 hx fun H5 O5 s5 h5 => ?_
   rw [e] at h5
   rw [e]
   refine ⟨by congr 1; rw [decide_eq_decide]; omega, O5, s5, h5⟩
 have l4 : Lo O H H4 [ZL lb p (zq B L I) mine { P with s := s', cs := cs' }, .box b #[zm ((lsN (ndP P L) (m - 1) : Nat) : Int)] 3, .box b1 (zO f) 54] := l4
 obtain ⟨m, rfl⟩ : ∃ q, m = q + 1 := ⟨m - 1, by omega⟩
 simp only [Nat.add_sub_cancel] at l4 hend
 have b0 : ∀ v : Value, (#[v] : Array Value)[0]? = some v := fun _ => rfl
 rw [zx, za, decide_eq_false (by omega), zl, l4.ld (i := 1) rfl, b0, za, zA, za, zf]
 refine ⟨fun hz => ?_, fun hnz => ?_⟩
 · obtain ⟨O', st, h'⟩ := Lo.close1 l4
   have em : m = I.toNat := by
     rcases hend with ⟨e, _⟩ | ⟨_, e⟩
     · omega
     · rw [decide_eq_false_iff_not] at e; omega
   subst em
   exact kno H4 O' s' cs' (fun j j1 j2 => lsN_zero (n := I.toNat) (by omega) j j1 (by omega)) st h' hrd
 have hm1 : 1 ≤ m := by
   rcases Nat.eq_zero_or_pos m with e | e
   · rw [e] at hnz; exact absurd rfl hnz
   · exact e
 obtain ⟨q, rfl⟩ : ∃ q, m = q + 1 := ⟨m - 1, by omega⟩
 have hq : lsN (ndP P L) q = 0 := by
   rcases Nat.eq_zero_or_pos q with e | e
   · rw [e]; rfl
   · exact of_decide_eq_true (hgo q e (by omega))
 have hst : lsN (ndP P L) (q + 1) = if ndP P L (q + 1) 0 = 0 then q + 1 else lsN (ndP P L) q := rfl
 have hfree : ndP P L (q + 1) 0 = 0 := by
   by_cases e : ndP P L (q + 1) 0 = 0
   · exact e
   · rw [if_neg e, hq] at hst; rw [hst] at hnz; exact absurd rfl hnz
 rw [if_pos hfree] at hst
 rw [hst] at l4
 rw [hst, za, l4.ldAll (i := 2) (n := 16) rfl (zy _), za]
 obtain ⟨O4, h4, st4⟩ := l4.call (i := 0) rfl
 have hrds := hrd.reads
 refine pl_rwrite h4 (hrd.ok hok (by omega)) hg hop hwr (i := q + 1) (by omega) (by omega) (.inr hroom) hf (by show s'.reads < _; omega) ?_ fun H5 O5 P' s5 h5 hw => ?_
 · have := addL_len P.order (1 + L + (((q + 1) / 16 : Nat) : Int))
   show ((addL P.order (1 + L + (((q + 1) / 16 : Nat) : Int))).length : Int) ≤ L - 1
   split at this <;> omega
 have l5 := st4 H5 _ O5 s5 h5
 rw [zx, za, decide_eq_false (by omega), zl, l5.ld (i := 1) rfl, b0, za]
 obtain ⟨O', st, h'⟩ := Lo.close1 l5
 have ev : Zg s' cs' = Zg P.s P.cs := funext hrd.view
 have hw : Wt (zq B L I) mine { P with s := s', cs := cs' } P' (1 + L + (((q + 1) / 16 : Nat) : Int)) (zV (Zg s' cs' (1 + L + (((q + 1) / 16 : Nat) : Int))) (64 * ((q + 1) % 16)) (encN f)) 1 := hw
 rw [ev] at hw
 exact kyes H5 O' P' (q + 1) (by omega) (by omega) hfree (fun j j1 j2 => lsN_zero hq j j1 (by omega)) st h' (hrd.wt hw (by omega))
end
end Go.Vc
namespace Go.Vc
open Go.Proofs Classical
theorem nodeU : Tryz.prog.underlying 54 = some (.struct (fsOf 54)) := by kernel_rfl
theorem nodeL7 : (fsOf 54).toList = (List.range 7).map (ZY 54) := by kernel_rfl
theorem nodeG : Tryz.prog.eqGuardType Tryz.prog.depth 54 = false := by kernel_rfl
theorem nodeS : Tryz.prog.stoodInHeld 54 = false := by kernel_rfl
theorem nodeN : ((List.range 7).map fun i => (ZY 54 i).name != "_") = List.replicate 7 true := by kernel_rfl
theorem nodeO : ((List.range 7).map fun i => (ZY 54 i).offset) = [0, 1, 2, 3, 4, 14, 15] := by kernel_rfl
theorem nodeK4 : ldK Tryz.prog (ZY 54 4).type = some (some 10) := by kernel_rfl
theorem nodeR4 : IntRow Tryz.prog (ZY 54 4).type 10 .u32 := ⟨⟨51, by kernel_rfl, by kernel_rfl, by kernel_rfl, by kernel_rfl⟩, by kernel_rfl⟩
theorem nodeT0 : Tryz.prog.underlying (ZY 54 0).type = some (.int .u16) := by kernel_rfl
theorem nodeT1 : Tryz.prog.underlying (ZY 54 1).type = some (.int .u16) := by kernel_rfl
theorem nodeT2 : Tryz.prog.underlying (ZY 54 2).type = some (.int .u32) := by kernel_rfl
theorem nodeT3 : Tryz.prog.underlying (ZY 54 3).type = some (.int .u32) := by kernel_rfl
theorem nodeT5 : Tryz.prog.underlying (ZY 54 5).type = some (.int .u32) := by kernel_rfl
theorem nodeT6 : Tryz.prog.underlying (ZY 54 6).type = some (.int .u32) := by kernel_rfl
theorem nodeAll {f : Ino} : Yt (fldE Tryz.prog 9999 (zO f) (zO f)) ((List.range 7).map (ZY 54)) = some true := by
 have hn : ∀ i, i < 7 → (ZY 54 i).name ≠ "_" := fun i hi => by
   have := congrArg (fun l => l[i]?) nodeN
   simp only [List.getElem?_map, List.getElem?_range hi, List.getElem?_replicate, hi, if_true, Option.map_some, Option.some.injEq, bne_iff_ne] at this
   exact this
 have ho : ∀ i o, i < 7 → [0, 1, 2, 3, 4, 14, 15][i]? = some o → (ZY 54 i).offset = o := fun i o hi he => by
   have := congrArg (fun l => l[i]?) nodeO
   simp only [List.getElem?_map, List.getElem?_range hi, Option.map_some] at this
   rw [he] at this
   injection this
 refine (eqAll_dec (g := fun _ => True) fun a ha => ?_).trans (congrArg some (decide_eq_true fun _ _ => trivial))
 obtain ⟨i, hi, rfl⟩ := List.mem_map.1 ha
 have hi : i < 7 := List.mem_range.1 hi
 have h1 := hn i hi
 have hc : i = 0 ∨ i = 1 ∨ i = 2 ∨ i = 3 ∨ i = 4 ∨ i = 5 ∨ i = 6 := by omega
 rcases hc with rfl | rfl | rfl | rfl | rfl | rfl | rfl
 · rw [Ym (d := 9998) (k := .u16) (x := f 0) (y := f 0) h1 nodeT0 (by rw [ho 0 0 hi rfl]; rfl) (by rw [ho 0 0 hi rfl]; rfl)]; simp
 · rw [Ym (d := 9998) (k := .u16) (x := f 1) (y := f 1) h1 nodeT1 (by rw [ho 1 1 hi rfl]; rfl) (by rw [ho 1 1 hi rfl]; rfl)]; simp
 · rw [Ym (d := 9998) (k := .u32) (x := f 2) (y := f 2) h1 nodeT2 (by rw [ho 2 2 hi rfl]; rfl) (by rw [ho 2 2 hi rfl]; rfl)]; simp
 · rw [Ym (d := 9998) (k := .u32) (x := f 3) (y := f 3) h1 nodeT3 (by rw [ho 3 3 hi rfl]; rfl) (by rw [ho 3 3 hi rfl]; rfl)]; simp
 · have hx : ∀ j, j < 10 → ∃ z, ((zO f).extract 4 (4 + 10))[j]? = some (.int .u32 z) := fun j hj => by
     rw [Array.getElem?_extract, if_pos (by rw [zy]; omega), Zf f (4 + j) (by omega) (by omega)]
     exact ⟨_, rfl⟩
   rw [fldE_row (d := 9997) (x := (zO f).extract 4 (4 + 10)) (y := (zO f).extract 4 (4 + 10)) h1 nodeR4 nodeK4 (by rw [ho 4 4 hi rfl]) (by rw [ho 4 4 hi rfl]) (by simp [zy]) (by simp [zy]) hx hx]; simp
 · rw [Ym (d := 9998) (k := .u32) (x := f 14) (y := f 14) h1 nodeT5 (by rw [ho 5 14 hi rfl]; rfl) (by rw [ho 5 14 hi rfl]; rfl)]; simp
 · rw [Ym (d := 9998) (k := .u32) (x := f 15) (y := f 15) h1 nodeT6 (by rw [ho 6 15 hi rfl]; rfl) (by rw [ho 6 15 hi rfl]; rfl)]; simp
theorem eqNodeT {f : Ino} {lit : Bool} {H : Hp} : eqE Tryz.prog 54 lit (.agg (zO f)) (.agg (zO f)) H = some true := (eqE_struct nodeU nodeL7 nodeG nodeS).trans nodeAll
theorem eqNode {f : Ino} {lit : Bool} {H : Hp} : yr Tryz.prog 54 lit .neq (.agg (zO f)) (.agg (zO f)) H = some (.bool false) := by
 rw [yS, eqNodeT]; rfl
noncomputable def eNode : ZN := orE (zK Tryz.prog 30)
set_option maxRecDepth 100000 in
theorem elNode : zK Tryz.prog 30 = some eNode := by kernel_rfl
set_option maxRecDepth 100000 in
theorem eNode_f : eNode.type = 54 ∧ eNode.size = 16 ∧ eNode.zero.size = 16 ∧ eNode.bytes = 60 := ⟨by kernel_rfl, by kernel_rfl, by kernel_rfl, by kernel_rfl⟩
theorem undNodes : Tryz.prog.underlying 30 = some (.slice 54) := by kernel_rfl
def ndL (f : Nat → Ino) : Nat → List Ino
 | 0 => []
 | n + 1 => ndL f n ++ [f (n + 1)]
theorem y7 (f : Nat → Ino) : ∀ n, (ndL f n).length = n
 | 0 => rfl
 | n + 1 => by unfold ndL; rw [List.length_append, y7 f n]; rfl
theorem ndL_get (f : Nat → Ino) : ∀ n i, i < n → (ndL f n)[i]? = some (f (i + 1))
 | 0, i, h => by omega
 | n + 1, i, h => by
   unfold ndL
   by_cases e : i < n
   · rw [List.getElem?_append_left (by rw [y7]; exact e)]; exact ndL_get f n i e
   · have e : i = n := by omega
     rw [List.getElem?_append_right (by rw [y7]; omega), y7, e, Nat.sub_self]; rfl
section
variable {H : Hp} {R : Value → Hp → Prop} {lb p : Nat} {mine : Int} {O : Nat → Prop} {B L I : Int}
set_option maxHeartbeats 1000000 in
set_option maxRecDepth 100000 in
theorem nodes_ok {P : PSt} (h : (ZL lb p (zq B L I) mine P).at_ H O) (hok : POk (zq B L I) mine P) (hg : Zn B L I) (hslack : P.s.reads + 70000 < 4611686018427387904)
   (k : ∀ H' s' cs' v, Lo O H H' [ZL lb p (zq B L I) mine { P with s := s', cs := cs' }, .sl 54 16 v ((ndL (ndP P L) I.toNat).map zO)] → Rd (zq B L I) P s' cs' 65536 → R (.tuple #[v, .bool true]) H') : Fc Tryz.prog 8 #[z7 lb, zm I] H R := by
 obtain ⟨gL1, gL2, gI1, gI2, gB1, gB2, gD⟩ := id hg
 have y3 : ∀ {a b : Value}, ze (.tuple #[a, b]) 0 = some a := rfl
 have y4 : ∀ {a b : Value}, ze (.tuple #[a, b]) 1 = some b := rfl
 refine fn8 ?_
 simp only [sh8, yh, za, zu]
 refine zz.mk (fun t H' => ∃ (n : Nat) (s' : DS) (cs' : List Pl) (v : Value), (n : Int) ≤ I ∧ t = (v, zm ((n : Int) + 1), ()) ∧ Rd (zq B L I) P s' cs' n ∧ Lo O H H' [ZL lb p (zq B L I) mine { P with s := s', cs := cs' }, .sl 54 16 v ((ndL (ndP P L) n).map zO)])
   (fun t _ => mi t.2.1 fun i => (70000 - i).toNat) ⟨0, P.s, P.cs, .slice none 0 0, by omega, rfl, Rd.refl hok, (Lo.own h).nilS 54 16⟩ ?_
 rintro _ H1 ⟨n, s', cs', v, hn, rfl, hrd, l1⟩
 rw [yT, za, zf]
 refine ⟨fun hle => ?_, fun hgt => ?_⟩
 · have hok' := hrd.ok hok (by omega)
   obtain ⟨O1, h1, st1⟩ := l1.call (i := 0) rfl
   rw [show (n : Int) + 1 = ((n + 1 : Nat) : Int) by omega]
   refine pl_rack h1 hok' hg (i := n + 1) (by omega) (by omega) fun H2 O2 s2 cs2 s2' h2 hrd2 => ?_
   have l2 : Lo O H H2 [ZL lb p (zq B L I) mine { P with s := s2, cs := cs2 }, .sl 54 16 v ((ndL (ndP P L) n).map zO)] := st1 H2 _ O2 s2' h2
   have hrd3 := hrd.trans hrd2 (k := ((n + 1 : Nat) : Int)) (by omega)
   have ev : Zq (Zg ({ P with s := s', cs := cs' } : PSt).s ({ P with s := s', cs := cs' } : PSt).cs (1 + L + (((n + 1) / 16 : Nat) : Int))) (64 * ((n + 1) % 16)) = ndP P L (n + 1) := nd_view hrd (n + 1)
   rw [ev, y3, za, y4, za]
   refine l2.boxA fun b H3 _ l3 => ?_
   refine l3.stAll (i := 2) rfl (zy _) (zy _) (ZR _) fun H4 l4 => ?_
   have l4 : Lo O H H4 [ZL lb p (zq B L I) mine { P with s := s2, cs := cs2 }, .sl 54 16 v ((ndL (ndP P L) n).map zO), .box b (zO (ndP P L (n + 1))) 54] := l4
   rw [zx, za, decide_eq_false (by omega), zl, l4.ldAll (i := 2) (n := 16) rfl (zy _), za]
   refine l4.appO elNode eNode_f (i := 1) (c := zO (ndP P L (n + 1))) rfl rfl (by omega) (by omega) (zy _) (ZR _) (by rw [List.length_map, y7]; omega) fun v' H5 l5 => ?_
   rw [zk, za, zL, zw (by omega)]
   have e : (ndL (ndP P L) (n + 1)).map zO = (ndL (ndP P L) n).map zO ++ [zO (ndP P L (n + 1))] := by show (ndL (ndP P L) n ++ [ndP P L (n + 1)]).map zO = _; rw [List.map_append]; rfl
   have l6 : Lo O H H5 [ZL lb p (zq B L I) mine { P with s := s2, cs := cs2 }, .sl 54 16 v' ((ndL (ndP P L) (n + 1)).map zO)] := by rw [e]; exact l5.takeN 2
   exact ⟨⟨n + 1, s2, cs2, v', by omega, by rw [show ((n + 1 : Nat) : Int) + 1 = ((n + 1 + 1 : Nat) : Int) by omega]; rfl, hrd3, l6⟩, by simp only [zC]; exact ms_lt (by omega)⟩
 · have en : n = I.toNat := by omega
   subst en
   exact k H1 s' cs' v l1 (hrd.mono (by omega))
theorem same_ok {v w : Value} {xs ys : List (Array Value)} {but : Nat} (hx : Sr 16 H v xs) (hy : Sr 16 H w ys) (hl : xs.length = ys.length) (hlen : xs.length < 1000000) (he : ∀ i c, i + 1 ≠ but → xs[i]? = some c → ys[i]? = some c ∧ ∃ f, c = zO f) (k : R (.bool true) H) : Fc Tryz.prog 16 #[v, w, zm but] H R := by
 refine fn16 ?_
 simp only [sh16, zu]
 rw [hx.lenE undNodes, za, hy.lenE undNodes, za, hl, zx, za, decide_eq_false (by omega), zl]
 refine zz.mk (fun t H' => H' = H ∧ ∃ i : Nat, i ≤ ys.length ∧ t = (zm i, ())) (fun t _ => mi t.1 fun i => (ys.length - i).toNat) ⟨rfl, 0, by omega, rfl⟩ ?_
 rintro _ H1 ⟨rfl, i, hi, rfl⟩
 rw [za, zt, za, zf]
 refine ⟨fun hlt => ?_, fun hge => k⟩
 refine zT.mk (fun t H' => H' = H1 ∧ t.1 = .bool false) ?_ ?_
 · rintro ⟨t, u⟩ H2 ⟨rfl, ht⟩
   simp only at ht
   subst ht
   rw [zl, zk, za, zL, zw (by omega)]
   exact ⟨⟨rfl, i + 1, by omega, rfl⟩, by simp only [zC]; exact ms_lt (by omega)⟩
 · rw [zk, za, zL, zw (by omega), zx, za, zf]
   refine ⟨fun hne => ?_, fun _ => ⟨rfl, rfl⟩⟩
   have hil : i < xs.length := by omega
   have hxi : xs[i]? = some xs[i] := List.getElem?_eq_getElem hil
   obtain ⟨hyi, f, hf⟩ := he i _ (by omega) hxi
   obtain ⟨b, o, ha, hr⟩ := hx.row hxi
   obtain ⟨b2, o2, ha2, hr2⟩ := hy.row hyi
   rw [ha, za, hr, za, ha2, za, hr2, za, hf, eqNode, za]
   exact ⟨rfl, rfl⟩
end
end Go.Vc
namespace Go.Vc
open Go.Proofs Classical
section
variable {H : Hp} {R : Value → Hp → Prop} {lb p : Nat} {mine : Int} {O : Nat → Prop} {x : Lay}
theorem pl_made {P : PSt} (h : (ZL lb p x mine P).at_ H O) (k : R (zm P.s.made) H) : Fc Tryz.prog 21 #[z7 p] H R := by
 obtain ⟨cb, mb, ov, wv, ha⟩ := h
 obtain ⟨_, Od, Oc, hd, _⟩ := pl_pcs (r := []) (Lo.open ha)
 refine fn21 ?_
 refine disk_is hd ?_
 obtain ⟨⟨mh, ml, ps, hs, fh, fl, nh, nl, pend, hist, hd, _⟩, _⟩ := hd
 simp only [zM, za, Bool.not_true, zl, zc, zh, Nat.zero_add, zo hd.top, Yd]
 exact k
end
end Go.Vc
namespace Go.Vc
open Go.Proofs Classical
section
variable {S : Nat → Prop} {H0 H H' : Hp} {l r : List Ob}
theorem Lo.join (h : Lo S H0 H l) (m : Lx H H' r) : Lo S H0 H' (l ++ r) := by
 have hp : Lx H H' [.all r] := Lo.pack (l := []) m
 exact Lo.unpack (h.new m.ext0 (hp.outN (i := 0) rfl))
end
section
variable {B L I : Int}
theorem may_ids {its : List Itm} {fr sp : Int} {m0 : Pm} {fs : List Fl} (hmay : MaySt B L I its fr sp m0 fs) : (its.map (·.inum)).Nodup ∧ ∀ t ∈ its, t.kind ≠ 0 := by
 have hits0 := hmay.its
 have hfl := hmay.files
 generalize Yl 0 (Zy m0 (zH m0 its (pg0 m0)) 0) = l0 at hits0 hfl
 have hids : its.map (·.inum) = (idsP B L I l0 I.toNat).map fun i : Nat => (i : Int) := by
   rw [hits0, hfl.its, List.map_map]
   rfl
 refine ⟨?_, fun t ht => ?_⟩
 · rw [hids]
   have hr : ((List.range I.toNat).map (· + 1)).Nodup := List.pairwise_map.2 (List.Pairwise.imp (R := fun a b => a ≠ b) (fun {a b} hab (e : a + 1 = b + 1) => hab (by omega)) List.nodup_range)
   have hp : (idsP B L I l0 I.toNat).Nodup := List.Pairwise.filter _ hr
   exact List.pairwise_map.2 (List.Pairwise.imp (R := fun (a b : Nat) => a ≠ b) (fun {a b : Nat} hab (e : (a : Int) = (b : Int)) => hab (by omega)) hp)
 · rw [hits0] at ht
   obtain ⟨x, hx, rfl⟩ := List.mem_map.1 ht
   have h1 := (hfl.mem hx).2.2
   show x.f 0 ≠ 0
   rw [(hfl.is x hx).1]; exact h1
theorem may_free {its : List Itm} {fr sp : Int} {m0 m : Pm} {fs : List Fl} (hmay : MaySt B L I its fr sp m0 fs) (hm : MOf m B L I) (hf : (zH m its (pg0 m)).full = false) (hits : ∀ t ∈ its, Z5 t) (sd : Nat) {i : Nat} (h1 : 1 ≤ i) (h2 : (i : Int) ≤ I)
   (h0 : Zq (Zi (Yl 0 (Zy m (zH m its (pg0 m)) sd)) (1 + L + ((i / 16 : Nat) : Int))) (64 * (i % 16)) 0 = 0) {j : Nat} (hj : j < 16) : Zq (Zi (Yl 0 (Zy m (zH m its (pg0 m)) sd)) (1 + L + ((i / 16 : Nat) : Int))) (64 * (i % 16)) j = 0 := by
 obtain ⟨gL1, gL2, gI1, gI2, gB1, gB2, gD⟩ := id hmay.ok
 obtain ⟨hnd, hk⟩ := may_ids hmay
 by_cases hin : ∃ t ∈ its, t.inum = (i : Int)
 · exfalso
   obtain ⟨t, ht, hti⟩ := hin
   obtain ⟨r1, r2, e⟩ := laid_ino hm hmay.ok hits hnd hf sd ht
   have e0 := e 0 (by omega)
   rw [hti, show ((i : Int)).toNat = i by omega, h0] at e0
   exact hk t ht e0.symm
 · have hdf : (m.da : Int) = (zq B L I).dataAt := by rw [← hm.ok.da, hm.x]
   have hBf : (m.B : Int) = B := hm.B
   simp only [zq] at hdf gD
   have hn : nAt L (i : Int) < m.B := by unfold nAt; omega
   have hz : (pg0 m).L[nAt L (i : Int)]? = some zB := by
     show (List.replicate m.B zB)[nAt L (i : Int)]? = some zB
     rw [List.getElem?_replicate, if_pos hn]
   obtain ⟨c, hc, e⟩ := items_oth hm hmay.ok (i := (i : Int)) (by omega) its (pg0 m) zB hits (fun t ht e => hin ⟨t, ht, e⟩) (pg0_ok hm.ok) hf hz
   have hmid := laid_mid hm hmay.ok (q := zH m its (pg0 m)) sd (i := nAt L (i : Int)) (by unfold nAt; omega) (by unfold nAt; omega)
   rw [hc] at hmid
   have := YA _ 0 (nAt L (i : Int)) c hmid
   rw [Nat.zero_add, show ((nAt L (i : Int) : Nat) : Int) = 1 + L + ((i / 16 : Nat) : Int) by unfold nAt; omega] at this
   rw [this]
   have e1 := e j hj
   rw [show nOf (i : Int) = 64 * (i % 16) by unfold nOf; omega] at e1
   rw [e1]
   exact leB_zero (fun j => byt_zero 1024 j) _ _
end
noncomputable def pl0 (B : Int) (l : List (Int × Blk)) : PSt := ⟨dsOf B l, [], [], false, 0, none, 0, 0⟩
section
variable {B L I : Int} {l : List (Int × Blk)}
theorem pl0_ok (hg : Zn B L I) : POk (zq B L I) 1 (pl0 B l) := by
 obtain ⟨gL1, gL2, gI1, gI2, gB1, gB2, gD⟩ := id hg
 refine ⟨rfl, ⟨by omega, rfl⟩, ⟨List.nodup_nil, fun y hy => (by cases hy)⟩, Int.le_refl B, ⟨by show (1 : Int) < _; omega, by show (0 : Int) ≤ 1; omega⟩, ⟨rfl, gL1, gL2, gB2⟩, ?_, ?_, ?_, fun a ha => (by cases ha)⟩
 · show Zx [] ≤ ((0 : Nat) : Int)
   rw [fastP_nil]; omega
 · show ((0 : Nat) : Int) ≤ L - 1; omega
 · show ((0 : Nat) : Int) ≤ L + 32; omega
theorem pl0_view {n b : Int} (h : okL n b l) (a : Int) : Zg (pl0 B l).s (pl0 B l).cs a = Zi l a := heldL_img h a
structure LawSt (B L I : Int) (g : Nat → Ino) (n : Int) (P : PSt) : Prop where
 ok : POk (zq B L I) 1 P
 nd : ∀ i j, j < 16 → ndP P L i j = g i j
 made : P.s.made = 0
 reads : P.s.reads ≤ n
theorem LawSt.rd {g : Nat → Ino} {n m : Int} {P : PSt} {s' : DS} {cs' : List Pl} (h : LawSt B L I g n P) (hr : Rd (zq B L I) P s' cs' m) (hm : n + m < 4611686018427387904) : LawSt B L I g (n + m) { P with s := s', cs := cs' } := by
 have h1 := h.reads
 have h2 := hr.reads
 exact ⟨hr.ok h.ok (by omega), fun i j hj => by rw [nd_view hr i]; exact h.nd i j hj, hr.made.trans h.made, by show s'.reads ≤ _; omega⟩
theorem LawSt.mono {g : Nat → Ino} {n m : Int} {P : PSt} (h : LawSt B L I g n P) (hm : n ≤ m) : LawSt B L I g m P := { h with reads := by have := h.reads; omega }
def updI (g : Nat → Ino) (i : Nat) (f : Ino) : Nat → Ino := fun k => if k = i then f else g k
theorem LawSt.wt {g : Nat → Ino} {n m : Int} {P P' : PSt} {i : Nat} {f : Ino} (hg : Zn B L I) (hi : 1 ≤ i ∧ (i : Int) ≤ I) (h : LawSt B L I g n P) (hf : InoOk f) (hib : ∀ a, IsB (Zg P.s P.cs a)) (hw : Wt (zq B L I) 1 P P' (1 + L + ((i / 16 : Nat) : Int)) (zV (Zg P.s P.cs (1 + L + ((i / 16 : Nat) : Int))) (64 * (i % 16)) (encN f)) m) : LawSt B L I (updI g i f) (n + m) P' := by
 have h1 := h.reads
 have h2 := hw.reads
 refine ⟨hw.ok, fun k j hj => ?_, hw.made.trans h.made, by omega⟩
 unfold ndP updI
 rw [hw.view]
 by_cases e : k = i
 · subst e
   rw [if_pos rfl, if_pos rfl]
   exact inoOf_splice (hib _).n (by omega) hf hj
 · rw [if_neg e]
   have hk := h.nd k j hj
   unfold ndP at hk
   by_cases e2 : k / 16 = i / 16
   · rw [if_pos (by omega), ← e2, inoOf_other (hib _).n (ZT f) (by omega) (by omega) hj]
     exact hk
   · rw [if_neg (by omega)]; exact hk
theorem LawSt.ndL {g : Nat → Ino} {n : Int} {P : PSt} (h : LawSt B L I g n P) : ∀ k, (ndL (ndP P L) k).map zO = (ndL g k).map zO
 | 0 => rfl
 | k + 1 => by
   show (Go.Vc.ndL (ndP P L) k ++ [ndP P L (k + 1)]).map zO = (Go.Vc.ndL g k ++ [g (k + 1)]).map zO
   rw [List.map_append, List.map_append, h.ndL k]
   congr 1
   show [zO _] = [zO _]
   rw [ZX (h.nd (k + 1))]
theorem LawSt.frN {g : Nat → Ino} {n : Int} {P : PSt} (h : LawSt B L I g n P) : ∀ k, frN (ndP P L) k = frN g k
 | 0 => rfl
 | k + 1 => by
   show Go.Vc.frN (ndP P L) k + _ = Go.Vc.frN g k + _
   rw [h.frN k, h.nd (k + 1) 0 (by omega)]
end
theorem frN_none {g : Nat → Ino} : ∀ {n}, (∀ j, 1 ≤ j → j ≤ n → g j 0 ≠ 0) → frN g n = 0
 | 0, _ => rfl
 | n + 1, h => by
   unfold frN
   rw [frN_none (n := n) fun j h1 h2 => h j h1 (by omega), if_neg (h (n + 1) (by omega) (by omega))]
theorem frN_congr {g g' : Nat → Ino} : ∀ {n}, (∀ j, 1 ≤ j → j ≤ n → g j 0 = g' j 0) → frN g n = frN g' n
 | 0, _ => rfl
 | n + 1, h => by
   unfold frN
   rw [frN_congr (n := n) fun j h1 h2 => h j h1 (by omega), h (n + 1) (by omega) (by omega)]
theorem frN_far {g : Nat → Ino} {i : Nat} {f : Ino} : ∀ {n}, n < i → frN (updI g i f) n = frN g n
 | 0, _ => rfl
 | n + 1, h => by
   unfold frN
   have e2 : updI g i f (n + 1) = g (n + 1) := by unfold updI; rw [if_neg (by omega)]
   rw [frN_far (n := n) (by omega), e2]
theorem frN_upd {g : Nat → Ino} {i : Nat} {f : Ino} (h0 : g i 0 = 0) (hf : f 0 ≠ 0) : ∀ {n}, 1 ≤ i → i ≤ n → frN (updI g i f) n + 1 = frN g n
 | 0, h1, h2 => by omega
 | n + 1, h1, h2 => by
   unfold frN
   by_cases e : i = n + 1
   · subst e
     rw [frN_far (by omega)]
     have e2 : updI g (n + 1) f (n + 1) = f := by unfold updI; rw [if_pos rfl]
     rw [e2, if_neg hf, if_pos h0]
   · have := frN_upd (n := n) h0 hf h1 (by omega)
     have e2 : updI g i f (n + 1) = g (n + 1) := by unfold updI; rw [if_neg (by omega)]
     rw [e2]; omega
end Go.Vc
namespace Go.Vc
open Go.Proofs Classical
theorem inoC_set0 (f : Ino) (v : Nat) : (zO f).setIfInBounds 0 (.int .u16 v) = zO (upd f 0 v) := rfl
theorem ino0_ok : InoOk fun _ => 0 := fun j hj => by
 show 0 < 256 ^ fw j
 unfold fw
 split <;> omega
theorem buildNode0 : zv Tryz.prog 54 [] = some (.agg (zO fun _ => 0)) := by kernel_rfl
theorem pr0 {p lb r w : Nat} : (prC p lb r w)[0]? = some (z7 p) := rfl
theorem pr1 {p lb r w : Nat} : (prC p lb r w)[1]? = some (z7 lb) := rfl
section
variable {H : Hp} {R : Value → Hp → Prop} {lb p : Nat} {mine : Int} {O : Nat → Prop} {B L I : Int} {x : Lay}
theorem pl_isB {P : PSt} (h : (ZL lb p x mine P).at_ H O) (a : Int) : IsB (Zg P.s P.cs a) := by
 obtain ⟨cb, mb, ov, wv, ha⟩ := h
 obtain ⟨_, Od, Oc, hd, hc, _⟩ := pl_pcs (r := []) (Lo.open ha)
 unfold Zg
 split
 · rename_i z hz
   exact hc.isB (List.mem_of_find?_eq_some hz)
 · exact hd.now_is a
theorem lives11 {P : PSt} {pp r w : Nat} (ht : H[pp]? = some (.cells (prC p lb r w) 42)) (h : (ZL lb p (zq B L I) mine P).at_ H O) (hok : POk (zq B L I) mine P) (hg : Zn B L I) (hroot : ndP P L 1 0 = 2)
   (k : ∀ H' O' s' cs', Stp O O' H H' → (ZL lb p (zq B L I) mine { P with s := s', cs := cs' }).at_ H' O' → Rd (zq B L I) P s' cs' 1 → R (.bool true) H') : Fc Tryz.prog 7 #[z7 pp] H R := by
 obtain ⟨gL1, gL2, gI1, gI2, gB1, gB2, gD⟩ := id hg
 have y3 : ∀ {a b : Value}, ze (.tuple #[a, b]) 0 = some a := rfl
 have y4 : ∀ {a b : Value}, ze (.tuple #[a, b]) 1 = some b := rfl
 have i0 : (zO (ndP P L 1))[0]? = some (.int .u16 (ndP P L 1 0)) := rfl
 refine fn7 ?_
 simp only [sh7, zc, zh, Nat.zero_add, Nat.add_zero, za, yh]
 rw [zo ht, pr1, za]
 refine pl_rack h hok hg (i := 1) (by omega) (by omega) fun H1 O1 s' cs' s1 h1 hrd => ?_
 rw [y3, za, y4, za]
 refine (Lo.own h1).boxA fun b H2 _ l2 => ?_
 refine l2.stAll (i := 1) rfl (zy _) (zy _) (ZR _) fun H3 l3 => ?_
 have l3 : Lo O1 H1 H3 [ZL lb p (zq B L I) mine { P with s := s', cs := cs' }, .box b (zO (ndP P L 1)) 54] := l3
 rw [zA, za, decide_eq_true rfl, zZ, zh, za, Nat.zero_add, l3.ld (i := 1) rfl, i0, za, hroot, zA, za]
 obtain ⟨O', st, h'⟩ := Lo.close1 l3
 exact k H3 O' s' cs' (s1.trans st) h' hrd
end
theorem nodes_same {g g' : Nat → Ino} {n but : Nat} (h : ∀ i, i + 1 ≠ but → i < n → zO (g (i + 1)) = zO (g' (i + 1))) : ∀ i c, i + 1 ≠ but → ((ndL g n).map zO)[i]? = some c → ((ndL g' n).map zO)[i]? = some c ∧ ∃ f, c = zO f := by
 intro i c hi hc
 have hil : i < n := by
   rcases Nat.lt_or_ge i n with h1 | h1
   · exact h1
   · rw [List.getElem?_eq_none (by rw [List.length_map, y7]; exact h1)] at hc; cases hc
 rw [List.getElem?_map, ndL_get g n i hil] at hc
 injection hc with hc
 rw [List.getElem?_map, ndL_get g' n i hil, ← hc, h i hi hil]
 exact ⟨rfl, _, rfl⟩
section
variable {H : Hp} {R : Value → Hp → Prop} {lb p : Nat} {B L I : Int}
set_option maxHeartbeats 4000000 in
set_option maxRecDepth 100000 in
theorem law_takes {B L I : Int} (hB : -9223372036854775808 ≤ B ∧ B ≤ 9223372036854775807) {iv : Value} {its : List Itm} (hst : StAt H iv its) (hits : ∀ t ∈ its, Z5 t) (hlen : its.length < 281474976710656) {fr sp seed : Int} (hseed : -9223372036854775808 ≤ seed ∧ seed ≤ 9223372036854775807) (hiv : ∃ b n c, iv = .slice b n c) {f : Ino} (hf : InoOk f)
   (k : ∀ H', Ext H H' → R (.bool true) H') : Fc Tryz.prog 4 #[.agg (wldC B L I iv fr sp seed), .agg (zO f)] H R := by
 have x3 : ∀ {a b c : Value}, ze (.tuple #[a, b, c]) 0 = some a := rfl
 have x4 : ∀ {a b c : Value}, ze (.tuple #[a, b, c]) 1 = some b := rfl
 have x5 : ∀ {a b c : Value}, ze (.tuple #[a, b, c]) 2 = some c := rfl
 have y3 : ∀ {a b : Value}, ze (.tuple #[a, b]) 0 = some a := rfl
 have y4 : ∀ {a b : Value}, ze (.tuple #[a, b]) 1 = some b := rfl
 have w2 : (wldC B L I iv fr sp seed)[2]? = some (zm I) := rfl
 refine fn4 ?_
 simp only [sh4, zu]
 refine (Lo.start _ H : Lx H H []).boxA fun b1 H1 _ l1 => ?_
 refine l1.boxA fun b2 H2 _ l2 => ?_
 have l2 : Lx H H2 [.box b1 (wldC B L I iv fr sp seed) 28, .box b2 (zO f) 54] := l2
 rw [l2.ldAll (i := 0) (n := 7) rfl rfl, za]
 refine begin_kit hB (hst.ext l2.ext0) hits hlen hseed hiv (fun H3 e3 => ?_) fun H3 pp p lb r w m0 fs m hmay hm hfull l3 => ?_
 · rw [x3, za, x4, za, x5, za, zM, za, Bool.not_false, zZ]
   exact k H3 (l2.ext e3).ext0
 rw [x3, za, x4, za, x5, za, zM, za, Bool.not_true, zl]
 have hg := hmay.ok
 obtain ⟨gL1, gL2, gI1, gI2, gB1, gB2, gD⟩ := id hg
 have hroot := may_root hmay hm hfull hits (seed % 1000003).toNat
 have hfree := fun {i : Nat} (h1 : 1 ≤ i) (h2 : (i : Int) ≤ I) => may_free hmay hm hfull hits (seed % 1000003).toNat h1 h2
 have hwh : okL B (-1) (Yl 0 (Zy m (zH m its (pg0 m)) (seed % 1000003).toNat)) := by
   obtain ⟨h0, h1, h2, h3⟩ := laid_low hm hg hits (seed % 1000003).toNat
   have hb := hm.B
   exact imgL_okL _ 0 (-1) h3 (by omega) (by omega)
 generalize Yl 0 (Zy m (zH m its (pg0 m)) (seed % 1000003).toNat) = l at l3 hroot hfree hwh
 have l4 := l2.join l3
 have l4 : Lx H H3 [.box b1 (wldC B L I iv fr sp seed) 28, .box b2 (zO f) 54, .box pp (prC p lb r w) 42, logOb lb p (dsOf B l) [] (zq B L I) 1, docOb w r (rdOf B l) (zq B L I) (RLg.new 1)] := l4
 have l4 := l4.nth (i := 3) (y := ZL lb p (zq B L I) 1 (pl0 B l)) rfl fun O ho => log_pl ho
 have l4 : Lx H H3 [.box b1 (wldC B L I iv fr sp seed) 28, .box b2 (zO f) 54, .box pp (prC p lb r w) 42, ZL lb p (zq B L I) 1 (pl0 B l)] := l4.takeN 4
 have hg0 : ∀ i, ndP (pl0 B l) L i = Zq (Zi l (1 + L + ((i / 16 : Nat) : Int))) (64 * (i % 16)) := fun i => by
   unfold ndP; rw [pl0_view hwh]
 generalize hgg : ndP (pl0 B l) L = g at hg0
 have s0 : LawSt B L I g 1 (pl0 B l) := ⟨pl0_ok hg, fun i j _ => by rw [hgg], rfl, Int.le_refl 1⟩
 have hr1 : ndP (pl0 B l) L 1 0 = 2 := by
   rw [hgg, hg0 1]
   simpa using hroot
 have hblank : ∀ i : Nat, 1 ≤ i → (i : Int) ≤ I → g i 0 = 0 → ∀ j, j < 16 → g i j = 0 := fun i h1 h2 h0 j hj => by
   rw [hg0 i] at h0 ⊢
   exact hfree h1 h2 h0 hj
 have hpl : ∃ P, pl0 B l = P ∧ P.open_ = false ∧ P.order = [] := ⟨_, rfl, rfl, rfl⟩
 obtain ⟨P, hP, hop0, hord0⟩ := hpl
 rw [hP] at l4 s0 hr1
 clear hgg hg0 hroot hfree hwh hP
 refine zT.mk (fun t H' => t.1 = .bool false ∧ ∃ P1, LawSt B L I g 2 P1 ∧ P1.open_ = false ∧ P1.order = [] ∧ Lx H H' [.box b1 (wldC B L I iv fr sp seed) 28, .box b2 (zO f) 54, .box pp (prC p lb r w) 42, ZL lb p (zq B L I) 1 P1]) ?_ ?_
 rotate_left
 · rw [za, zl]
   obtain ⟨O4, h4, st4⟩ := l4.call (i := 3) rfl
   refine lives11 (l4.at (i := 2) rfl) h4 s0.ok hg hr1 fun H5 O5 s' cs' s5 h5 hrd => ?_
   have l5 := st4 H5 _ O5 s5 h5
   rw [zM, za]
   exact ⟨rfl, _, (s0.rd hrd (by omega)).mono (by omega), hop0, hord0, l5⟩
 rintro ⟨t, u⟩ H4 ⟨ht, P1, s1, hop1, hord1, l4⟩
 simp only at ht
 subst ht
 rw [zl]
 simp only [zc, zh, Nat.zero_add, Nat.add_zero, za]
 rw [l4.ld (i := 0) rfl, w2, za, l4.ld (i := 2) rfl, pr1, za]
 obtain ⟨O4, h4, st4⟩ := l4.call (i := 3) rfl
 refine nodes_ok h4 s1.ok hg (by have := s1.reads; omega) fun H5 s2' cs2' v1 l5 hrd2 => ?_
 have s2 := (s1.rd hrd2 (by omega)).mono (m := 70000) (by omega)
 obtain ⟨O5, st5, h5⟩ := Lo.close (l := [_, _]) (r := []) l5
 have l5 := Lo.unpack (l := [_, _, _]) (st4 H5 _ O5 st5 h5)
 rw [s1.ndL] at l5
 have l5 : Lx H H5 [.box b1 (wldC B L I iv fr sp seed) 28, .box b2 (zO f) 54, .box pp (prC p lb r w) 42, ZL lb p (zq B L I) 1 { P1 with s := s2', cs := cs2' }, .sl 54 16 v1 ((ndL g I.toNat).map zO)] := l5
 generalize hP2 : ({ P1 with s := s2', cs := cs2' } : PSt) = P2 at l5 s2
 have hop2 : P2.open_ = false := by rw [← hP2]; exact hop1
 have hord2 : P2.order = [] := by rw [← hP2]; exact hord1
 clear hP2 hrd2 s1 hop1 hord1 h5 st5 st4 h4 l4
 rw [y3, za, y4, za, l5.ld (i := 2) rfl, pr1, za]
 obtain ⟨O5, h5, st5⟩ := l5.call (i := 3) rfl
 refine spare_ok h5 s2.ok hg (by have := s2.reads; omega) fun H6 O6 s3' cs3' s6 h6 hrd3 => ?_
 have s3 := (s2.rd hrd3 (by omega)).mono (m := 80000) (by omega)
 have l6 := st5 H6 _ O6 s6 h6
 rw [s2.frN]
 have l6 : Lx H H6 [.box b1 (wldC B L I iv fr sp seed) 28, .box b2 (zO f) 54, .box pp (prC p lb r w) 42, ZL lb p (zq B L I) 1 { P2 with s := s3', cs := cs3' }, .sl 54 16 v1 ((ndL g I.toNat).map zO)] := l6
 generalize hP3 : ({ P2 with s := s3', cs := cs3' } : PSt) = P3 at l6 s3
 have hop3 : P3.open_ = false := by rw [← hP3]; exact hop2
 have hord3 : P3.order = [] := by rw [← hP3]; exact hord2
 clear hP3 hrd3 s2 hop2 hord2 h6 s6 st5 h5 l5
 rw [y3, za, y4, za]
 refine zT.mk (fun t H' => t.1 = .bool false ∧ ∃ P4, LawSt B L I g 80000 P4 ∧ P4.open_ = true ∧ P4.order = [] ∧ P4.room = 3 ∧ P4.wrote = some [] ∧ Lx H H' [.box b1 (wldC B L I iv fr sp seed) 28, .box b2 (zO f) 54, .box pp (prC p lb r w) 42, ZL lb p (zq B L I) 1 P4, .sl 54 16 v1 ((ndL g I.toNat).map zO)]) ?_ ?_
 rotate_left
 · rw [zM, za, Bool.not_true, zl, zx, za, decide_eq_false (by omega), zl, l6.ld (i := 2) rfl, pr1, za]
   obtain ⟨O6, h6, st6⟩ := l6.call (i := 3) rfl
   refine pl_begin h6 s3.ok hop3 (r := 3) (by omega) (by rw [hord3]; show ((0 : Nat) : Int) + 3 ≤ L - 1; omega) fun H7 O7 s7 h7 => ?_
   have l7 := st6 H7 _ O7 s7 h7
   rw [zx, za]
   have ok := s3.ok
   exact ⟨rfl, { P3 with open_ := true, room := 3, wrote := some [] }, ⟨⟨ok.alive, ok.mine, ok.vw, ok.n, ok.reads, ok.lay, ok.fast, ok.few, ok.clen, ok.held⟩, s3.nd, s3.made, s3.reads⟩, rfl, hord3, rfl, rfl, l7⟩
 rintro ⟨t, u⟩ H7 ⟨ht, P4, s4, hop4, hord4, hroom4, hwr4, l7⟩
 simp only at ht
 subst ht
 rw [zl]
 clear s3 hop3 hord3 l6
 refine zT.mk (fun _ H' => ∃ f' : Ino, InoOk f' ∧ f' 0 ≠ 0 ∧ Lx H H' [.box b1 (wldC B L I iv fr sp seed) 28, .box b2 (zO f') 54, .box pp (prC p lb r w) 42, ZL lb p (zq B L I) 1 P4, .sl 54 16 v1 ((ndL g I.toNat).map zO)]) ?_ ?_
 rotate_left
 · have i0 : (zO f)[0]? = some (.int .u16 (f 0)) := rfl
   rw [l7.ld (i := 1) rfl, i0, za, zA, za, zf]
   refine ⟨fun h0 => ?_, fun h0 => ⟨f, hf, by omega, l7⟩⟩
   refine l7.st (i := 1) (j := 0) (v := .int .u16 ((1 : Nat) : Int)) rfl (by rw [zy]; omega) rfl rfl fun H8 l8 => ?_
   rw [inoC_set0] at l8
   refine ⟨upd f 0 1, fun j hj => ?_, by unfold upd; rw [if_pos rfl]; omega, l8⟩
   unfold upd
   split
   · rename_i e; subst e; unfold fw; rw [if_pos (by omega)]; omega
   · exact hf j hj
 rintro t H8 ⟨f', hf', hf0, l8⟩
 clear l7 hf
 rw [l8.ld (i := 2) rfl, pr1, za, l8.ldAll (i := 1) (n := 16) rfl (zy _), za]
 obtain ⟨O8, h8, st8⟩ := l8.call (i := 3) rfl
 have hslen : (ndL g I.toNat).length = I.toNat := y7 g _
 refine rtake_ok h8 s4.ok hg hop4 hwr4 (by rw [hroom4]; show ((0 : Nat) : Int) < 3; omega) (by rw [hord4]; show ((0 : Nat) : Int) + 1 ≤ L - 1; omega) hf' hf0 (by have := s4.reads; omega)
   (fun H9 O9 s5' cs5' hno s9 h9 hrd5 => ?_) (fun H9 O9 P5 i i1 i2 i0 hleast s9 h9 hw5 => ?_)
 · have s5 := (s4.rd hrd5 (by omega)).mono (m := 90000) (by omega)
   have l9 := st8 H9 _ O9 s9 h9
   have l9 : Lx H H9 [.box b1 (wldC B L I iv fr sp seed) 28, .box b2 (zO f') 54, .box pp (prC p lb r w) 42, ZL lb p (zq B L I) 1 { P4 with s := s5', cs := cs5' }, .sl 54 16 v1 ((ndL g I.toNat).map zO)] := l9
   have hz : frN g I.toNat = 0 := frN_none fun j j1 j2 => by rw [← s4.nd j 0 (by omega)]; exact hno j j1 (by omega)
   generalize ({ P4 with s := s5', cs := cs5' } : PSt) = P5 at l9 s5
   rw [y3, za, y4, za, l9.ld (i := 2) rfl, pr1, za]
   obtain ⟨O9, h9, st9⟩ := l9.call (i := 3) rfl
   refine nodes_ok h9 s5.ok hg (by have := s5.reads; omega) fun H10 s6' cs6' v2 l10 hrd6 => ?_
   have s6 := (s5.rd hrd6 (by omega)).mono (m := 160000) (by omega)
   obtain ⟨O10, st10, h10⟩ := Lo.close (l := [_, _]) (r := []) l10
   have l10 := Lo.unpack (l := [_, _, _, _]) ((st9 H10 _ O10 st10 h10).pick [0, 1, 2, 4, 3] (by decide) (by simp))
   rw [s5.ndL] at l10
   have l10 : Lx H H10 [.box b1 (wldC B L I iv fr sp seed) 28, .box b2 (zO f') 54, .box pp (prC p lb r w) 42, .sl 54 16 v1 ((ndL g I.toNat).map zO), ZL lb p (zq B L I) 1 { P5 with s := s6', cs := cs6' }, .sl 54 16 v2 ((ndL g I.toNat).map zO)] := l10
   generalize ({ P5 with s := s6', cs := cs6' } : PSt) = P6 at l10 s6
   rw [y3, za, y4, za, l10.ld (i := 2) rfl, pr1, za]
   obtain ⟨O11, h11, st11⟩ := l10.call (i := 4) rfl
   refine spare_ok h11 s6.ok hg (by have := s6.reads; omega) fun H11 O12 s7' cs7' s11 h12 hrd7 => ?_
   have s7 := (s6.rd hrd7 (by omega)).mono (m := 170000) (by omega)
   have l11 := st11 H11 _ O12 s11 h12
   rw [s6.frN, hz]
   have l11 : Lx H H11 [.box b1 (wldC B L I iv fr sp seed) 28, .box b2 (zO f') 54, .box pp (prC p lb r w) 42, .sl 54 16 v1 ((ndL g I.toNat).map zO), ZL lb p (zq B L I) 1 { P6 with s := s7', cs := cs7' }, .sl 54 16 v2 ((ndL g I.toNat).map zO)] := l11
   generalize ({ P6 with s := s7', cs := cs7' } : PSt) = P7 at l11 s7
   rw [y3, za, y4, za]
   refine zT.mk (fun t H' => t.1 = .bool false ∧ H' = H11) ?_ ?_
   rotate_left
   · rw [zM, za, Bool.not_true, zl, zx, za, decide_eq_false (by omega), zl, l11.ld (i := 2) rfl, pr0, za]
     obtain ⟨O13, h13, _⟩ := l11.call (i := 4) rfl
     refine pl_made h13 ?_
     rw [s7.made, zx, za]
     exact ⟨rfl, rfl⟩
   rintro ⟨t, u⟩ H12 ⟨ht, rfl⟩
   simp only at ht
   subst ht
   rw [zl, zx, za, decide_eq_true (by omega), zZ, zA, za, decide_eq_true rfl, zZ, zA, za, decide_eq_true (by omega), zZ, za, zZ]
   refine same_ok (but := 0) (l11.sv (i := 3) rfl).sr (l11.sv (i := 5) rfl).sr rfl (by rw [List.length_map, hslen]; omega) (nodes_same fun i _ _ => rfl) ?_
   exact k H12 l11.ext0
 · have hnd4 := s4.nd i 0 (by omega)
   have hib := pl_isB h8
   have s5 := (s4.wt hg ⟨i1, i2⟩ hf' hib hw5).mono (m := 90000) (by omega)
   have l9 := st8 H9 _ O9 s9 h9
   have l9 : Lx H H9 [.box b1 (wldC B L I iv fr sp seed) 28, .box b2 (zO f') 54, .box pp (prC p lb r w) 42, ZL lb p (zq B L I) 1 P5, .sl 54 16 v1 ((ndL g I.toNat).map zO)] := l9
   have hop5 : P5.open_ = true := hw5.open_.trans hop4
   have hwr5 := hw5.wrote [] hwr4
   have hord5 := hw5.order
   rw [hord4] at hord5
   have hgi : g i 0 = 0 := by rw [← hnd4]; exact i0
   have hlow : ∀ q : Nat, 1 ≤ q → q < i → g q 0 ≠ 0 := fun q q1 q2 => by rw [← s4.nd q 0 (by omega)]; exact hleast q q1 q2
   have hsp : frN (updI g i f') I.toNat + 1 = frN g I.toNat := frN_upd hgi hf0 i1 (by omega)
   have hspl := frN_le g I.toNat
   have hui : updI g i f' i = f' := by unfold updI; rw [if_pos rfl]
   have huo : ∀ q, q ≠ i → updI g i f' q = g q := fun q hq => by unfold updI; rw [if_neg hq]
   generalize hg1 : updI g i f' = g1 at s5 hsp hui huo
   clear hw5 h9 s9 st8 h8 l8 hleast i0 hnd4
   rw [y3, za, y4, za, l9.ld (i := 2) rfl, pr1, za]
   obtain ⟨O9, h9, st9⟩ := l9.call (i := 3) rfl
   refine nodes_ok h9 s5.ok hg (by have := s5.reads; omega) fun H10 s6' cs6' v2 l10 hrd6 => ?_
   have s6 := (s5.rd hrd6 (by omega)).mono (m := 160000) (by omega)
   obtain ⟨O10, st10, h10⟩ := Lo.close (l := [_, _]) (r := []) l10
   have l10 := Lo.unpack (l := [_, _, _, _]) ((st9 H10 _ O10 st10 h10).pick [0, 1, 2, 4, 3] (by decide) (by simp))
   rw [s5.ndL] at l10
   have l10 : Lx H H10 [.box b1 (wldC B L I iv fr sp seed) 28, .box b2 (zO f') 54, .box pp (prC p lb r w) 42, .sl 54 16 v1 ((ndL g I.toNat).map zO), ZL lb p (zq B L I) 1 { P5 with s := s6', cs := cs6' }, .sl 54 16 v2 ((ndL g1 I.toNat).map zO)] := l10
   generalize hP6 : ({ P5 with s := s6', cs := cs6' } : PSt) = P6 at l10 s6
   have hop6 : P6.open_ = true := by rw [← hP6]; exact hop5
   have hwr6 : P6.wrote = some (addL [] (1 + L + ((i / 16 : Nat) : Int))) := by rw [← hP6]; exact hwr5
   have hord6 : P6.order = addL [] (1 + L + ((i / 16 : Nat) : Int)) := by rw [← hP6]; exact hord5
   clear hP6 hrd6 h10 st10 st9 h9 l9 s5 hop5 hwr5 hord5
   rw [y3, za, y4, za, l10.ld (i := 2) rfl, pr1, za]
   obtain ⟨O11, h11, st11⟩ := l10.call (i := 4) rfl
   refine spare_ok h11 s6.ok hg (by have := s6.reads; omega) fun H11 O12 s7' cs7' s11 h12 hrd7 => ?_
   have s7 := (s6.rd hrd7 (by omega)).mono (m := 170000) (by omega)
   have l11 := st11 H11 _ O12 s11 h12
   rw [s6.frN]
   have l11 : Lx H H11 [.box b1 (wldC B L I iv fr sp seed) 28, .box b2 (zO f') 54, .box pp (prC p lb r w) 42, .sl 54 16 v1 ((ndL g I.toNat).map zO), ZL lb p (zq B L I) 1 { P6 with s := s7', cs := cs7' }, .sl 54 16 v2 ((ndL g1 I.toNat).map zO)] := l11
   generalize hP7 : ({ P6 with s := s7', cs := cs7' } : PSt) = P7 at l11 s7
   have hop7 : P7.open_ = true := by rw [← hP7]; exact hop6
   have hwr7 : P7.wrote = some (addL [] (1 + L + ((i / 16 : Nat) : Int))) := by rw [← hP7]; exact hwr6
   have hord7 : P7.order = addL [] (1 + L + ((i / 16 : Nat) : Int)) := by rw [← hP7]; exact hord6
   clear hP7 hrd7 h12 s11 st11 h11 l10 s6 hop6 hwr6 hord6
   rw [y3, za, y4, za]
   refine zT.mk (fun t H' => t.1 = .bool false ∧ H' = H11) ?_ ?_
   rotate_left
   · rw [zM, za, Bool.not_true, zl, zx, za, decide_eq_false (by omega), zl, l11.ld (i := 2) rfl, pr0, za]
     obtain ⟨O13, h13, _⟩ := l11.call (i := 4) rfl
     refine pl_made h13 ?_
     rw [s7.made, zx, za]
     exact ⟨rfl, rfl⟩
   rintro ⟨t, u⟩ H12 ⟨ht, rfl⟩
   simp only at ht
   subst ht
   rw [zl, zx, za, decide_eq_false (by omega), zl]
   have sr1 := (l11.sv (i := 3) rfl).sr
   have sr2 := (l11.sv (i := 5) rfl).sr
   have el1 : ∀ q : Nat, 1 ≤ q → q ≤ I.toNat → ((ndL g I.toNat).map zO)[q - 1]? = some (zO (g q)) := fun q q1 q2 => by
     rw [List.getElem?_map, ndL_get g _ (q - 1) (by omega), Nat.sub_add_cancel q1]; rfl
   have el2 : ((ndL g1 I.toNat).map zO)[i - 1]? = some (zO f') := by
     rw [List.getElem?_map, ndL_get g1 _ (i - 1) (by omega), Nat.sub_add_cancel i1, hui]; rfl
   have n0 : ∀ q : Nat, (zO (g q))[0]? = some (.int .u16 (g q 0)) := fun _ => rfl
   refine zT.mk (fun t H' => t.1 = .bool false ∧ H' = H12) ?_ ?_
   rotate_left
   · obtain ⟨c1, o1, ha1, hr1'⟩ := sr1.cell (j := 0) (el1 i i1 (by omega)) (by omega)
     obtain ⟨c2, o2, ha2, hr2⟩ := sr2.row el2
     rw [zt, za, decide_eq_false (by omega), zl, zN, za, decide_eq_false (by omega), zl, zU, za, zg (by omega) (by omega), show (i : Int) - 1 = ((i - 1 : Nat) : Int) by omega, ha1, za, zh, za, hr1', n0, za, hgi, zx, za, decide_eq_false (by omega), zl, za, ha2, za, hr2, za, l11.ldAll (i := 1) (n := 16) rfl (zy _), za, eqNode, za, zl, zU, za, zg (by omega) (by omega), zx, za, decide_eq_false (by omega), zl]
     refine same_ok (but := i) sr1 sr2 (by rw [List.length_map, List.length_map, y7, y7]) (by rw [List.length_map, hslen]; omega) (nodes_same fun q hq _ => by rw [huo (q + 1) hq]) ?_
     rw [zM, za]
     exact ⟨rfl, rfl⟩
   rintro ⟨t, u⟩ H13 ⟨ht, rfl⟩
   simp only at ht
   subst ht
   rw [zl]
   refine zz.mk (fun t H' => H' = H13 ∧ ∃ q : Nat, 1 ≤ q ∧ q ≤ i ∧ t = (zm q, ())) (fun t _ => mi t.1 fun x => (i - x).toNat) ⟨rfl, 1, by omega, i1, rfl⟩ ?_
   rintro _ H14 ⟨rfl, q, q1, q2, rfl⟩
   rw [zt, za, zf]
   refine ⟨fun hlt => ?_, fun hge => ?_⟩
   · obtain ⟨c1, o1, ha1, hr1'⟩ := sr1.cell (j := 0) (el1 q q1 (by omega)) (by omega)
     have hne := hlow q q1 (by omega)
     rw [zU, za, zg (by omega) (by omega), show (q : Int) - 1 = ((q - 1 : Nat) : Int) by omega, ha1, za, zh, za, hr1', n0, za, zA, za, decide_eq_false (by omega), zl, zk, za, zL, zw (by omega)]
     exact ⟨⟨rfl, q + 1, by omega, by omega, rfl⟩, by simp only [zC]; exact ms_lt (by omega)⟩
   rw [l11.ld (i := 2) rfl, pr1, za, buildNode0, za]
   obtain ⟨O15, h15, st15⟩ := l11.call (i := 4) rfl
   have hibz := pl_isB h15
   refine pl_rwrite h15 s7.ok hg hop7 hwr7 i1 i2 (.inl (mem_addL.2 (.inr rfl))) (f := fun _ => 0) ino0_ok (by have := s7.reads; omega) (by rw [hord7]; show ((addL [_] _).length : Int) ≤ L - 1; rw [addL_len, if_pos (List.mem_singleton.2 rfl)]; show ((1 : Nat) : Int) ≤ L - 1; omega) fun H16 O16 P8 s16 h16 hw8 => ?_
   have s8 := (s7.wt hg ⟨i1, i2⟩ ino0_ok hibz hw8).mono (m := 180000) (by omega)
   have l16 := st15 H16 _ O16 s16 h16
   have l16 : Lx H H16 [.box b1 (wldC B L I iv fr sp seed) 28, .box b2 (zO f') 54, .box pp (prC p lb r w) 42, .sl 54 16 v1 ((ndL g I.toNat).map zO), ZL lb p (zq B L I) 1 P8, .sl 54 16 v2 ((ndL g1 I.toNat).map zO)] := l16
   have hback : ∀ q : Nat, 1 ≤ q → (q : Int) ≤ I → ∀ j, j < 16 → g q j = updI g1 i (fun _ => 0) q j := fun q q1 q2 j hj => by
     unfold updI
     by_cases e : q = i
     · rw [if_pos e, e]; exact hblank i i1 i2 hgi j hj
     · rw [if_neg e, huo q e]
   have hsp2 : frN (updI g1 i fun _ => 0) I.toNat = frN g I.toNat := frN_congr fun q q1 q2 => (hback q q1 (by omega) 0 (by omega)).symm
   clear hw8 h16 s16 st15 h15 s7 hop7 hwr7 hord7
   rw [zx, za, decide_eq_false (by omega), zl, l16.ld (i := 2) rfl, pr1, za]
   obtain ⟨O17, h17, st17⟩ := l16.call (i := 4) rfl
   refine nodes_ok h17 s8.ok hg (by have := s8.reads; omega) fun H18 s9' cs9' v3 l18 hrd9 => ?_
   have s9 := (s8.rd hrd9 (by omega)).mono (m := 250000) (by omega)
   obtain ⟨O18, st18, h18⟩ := Lo.close (l := [_, _]) (r := []) l18
   have l18 := Lo.unpack (l := [_, _, _, _, _]) ((st17 H18 _ O18 st18 h18).pick [0, 1, 2, 3, 5, 4] (by decide) (by simp))
   rw [s8.ndL] at l18
   have l18 : Lx H H18 [.box b1 (wldC B L I iv fr sp seed) 28, .box b2 (zO f') 54, .box pp (prC p lb r w) 42, .sl 54 16 v1 ((ndL g I.toNat).map zO), .sl 54 16 v2 ((ndL g1 I.toNat).map zO), ZL lb p (zq B L I) 1 { P8 with s := s9', cs := cs9' }, .sl 54 16 v3 ((ndL (updI g1 i fun _ => 0) I.toNat).map zO)] := l18
   generalize ({ P8 with s := s9', cs := cs9' } : PSt) = P9 at l18 s9
   rw [y3, za, y4, za, l18.ld (i := 2) rfl, pr1, za]
   obtain ⟨O19, h19, st19⟩ := l18.call (i := 5) rfl
   refine spare_ok h19 s9.ok hg (by have := s9.reads; omega) fun H20 O20 s10' cs10' s20 h20 hrd10 => ?_
   have l20 := st19 H20 _ O20 s20 h20
   rw [s9.frN, hsp2]
   have l20 : Lx H H20 [.box b1 (wldC B L I iv fr sp seed) 28, .box b2 (zO f') 54, .box pp (prC p lb r w) 42, .sl 54 16 v1 ((ndL g I.toNat).map zO), .sl 54 16 v2 ((ndL g1 I.toNat).map zO), ZL lb p (zq B L I) 1 { P9 with s := s10', cs := cs10' }, .sl 54 16 v3 ((ndL (updI g1 i fun _ => 0) I.toNat).map zO)] := l20
   rw [y3, za, y4, za, zZ, zA, za, decide_eq_true rfl, zZ, zA, za, decide_eq_true rfl, zZ]
   refine same_ok (but := 0) (l20.sv (i := 3) rfl).sr (l20.sv (i := 6) rfl).sr (by rw [List.length_map, List.length_map, y7, y7]) (by rw [List.length_map, hslen]; omega) (nodes_same fun q hq hn => ZX (hback (q + 1) (by omega) (by omega))) ?_
   exact k H20 l20.ext0
end
end Go.Vc
