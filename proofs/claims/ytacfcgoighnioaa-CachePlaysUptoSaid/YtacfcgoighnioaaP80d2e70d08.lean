/- Parts of a proof, joined in build order: a calculus of contracts, an executor, contracts of functions. -/
import Derived.Test.YtacfcgoighnioaaP0c0c259b17
import Derived.Test.YtacfcgoighnioaaP3655c5609e
/- Ft, part L: steps with two caches and their disk: the walk. -/
set_option linter.unusedVariables false
set_option linter.unusedSimpArgs false
namespace Go.Vc
open Go.Proofs

/-- A step. -/
structure Sp where
  do_ : Int
  sec : Bool
  at_ : Int
  fill : Int
def Sp.c (x : Sp) : Array Value := #[.int .u8 x.do_, .bool x.sec, .int .i64 x.at_, .int .u16 x.fill]
theorem sp_get (m : Sp) : m.c[0]? = some (.int .u8 m.do_) ∧ m.c[1]? = some (.bool m.sec) ∧ m.c[2]? = some (.int .i64 m.at_) ∧ m.c[3]? = some (.int .u16 m.fill) ∧ m.c.size = 4 := ⟨rfl, rfl, rfl, rfl, rfl⟩
theorem deq' {a : Int} : decide (a = a) = true := decide_eq_true rfl
theorem filled_qc {f : Int} {H : Hp} : QC true Try.prog 31 #[.int .u16 f] H (.agg (filB f)) := fun H' hx => filled_ok fun H'' e => ⟨rfl, e⟩
noncomputable def eIntss : ElemI := orE (elemI Try.prog 39)
set_option maxRecDepth 100000 in
theorem elIntss : elemI Try.prog 39 = some eIntss := by kernel_rfl
theorem eIntss_f : eIntss.type = 46 ∧ eIntss.size = 1 ∧ eIntss.zero.size = 1 ∧ eIntss.bytes = 24 := ⟨by kernel_rfl, by kernel_rfl, by kernel_rfl, by kernel_rfl⟩
theorem undIntss : Try.prog.underlying 39 = some (.slice 46) := by kernel_rfl

/-! ### Lists -/
section
variable {H : Hp} {R : Value → Hp → Prop}
theorem same_ok {l k : Value} {xs : List Int} (hl : Sv 3 1 H l (ints xs)) (hk : Sv 3 1 H k (ints xs)) (hn : xs.length < 1099511627776) (kk : R (.bool true) H) : Fc Try.prog 21 #[l, k] H R := by
  refine fn21 ?_
  simp only [sh21, Any_const]
  rw [hl.lenE undInts, hk.lenE undInts]
  simp only [Pu_some, binE_neq, ints_len, Ite_dec]
  refine ⟨fun h => absurd rfl h, fun _ => ?_⟩
  refine LoopP.mk (fun t H' => ∃ i : Nat, t.1 = .int .i64 i ∧ i ≤ xs.length ∧ H' = H) (fun t _ => match t.1 with | .int _ i => ((xs.length : Int) - i).toNat | _ => 0) ⟨0, rfl, by omega, rfl⟩ ?_
  rintro ⟨t1, u⟩ H1 ⟨i, ht, hi, rfl⟩
  simp only at ht
  subst ht
  simp only [binE_lss, Pu_some, Ite_dec]
  refine ⟨fun hlt => ?_, fun hge => kk⟩
  have hx := List.getElem?_eq_getElem (l := xs) (i := i) (by omega)
  generalize xs[i] = x at hx
  obtain ⟨b, o, ha, hld⟩ := hl.cell (i := i) (j := 0) (ints_get hx) (by decide)
  obtain ⟨b', o', ha', hld'⟩ := hk.cell (i := i) (j := 0) (ints_get hx) (by decide)
  rw [Nat.add_zero] at hld hld'
  simp only [ha, hld, ha', hld', Pu_some, List.getElem?_toArray, List.getElem?_cons_zero, binE_neq, Ite_dec]
  refine ⟨fun h => absurd rfl h, fun _ => ?_⟩
  rw [binE_add, i64wrap_id (by omega) (by omega), Pu_some]
  exact ⟨⟨i + 1, rfl, by omega, trivial⟩, by show ((xs.length : Int) - (i + 1)).toNat < ((xs.length : Int) - i).toNat; omega⟩
end

/-! ### The world -/
theorem wd_get {p r : Nat} {a b : Option C2} {l k : Value} : (wdC p r a b l k)[0]? = some (ptrV p) ∧ (wdC p r a b l k)[1]? = some (ptrV r) ∧ (wdC p r a b l k)[2]? = some (cVal a) ∧ (wdC p r a b l k)[3]? = some (cVal b) ∧ (wdC p r a b l k)[4]? = some (wVal a) ∧ (wdC p r a b l k)[5]? = some (wVal b) ∧ (wdC p r a b l k)[6]? = some l ∧ (wdC p r a b l k)[7]? = some k ∧ (wdC p r a b l k).size = 8 :=
  ⟨rfl, rfl, rfl, rfl, rfl, rfl, rfl, rfl, rfl⟩
section
variable {col : Nat → Nat} {H : Hp} {x p r : Nat} {s1 s2 : DS} {a b : Nat → Option C2} {w0 w1 : Option C2} {tl : List Td} {n : Nat} {q : C2}
theorem base_w (x p r : Nat) (s1 s2 : DS) (a b : Nat → Option C2) (w0 w1 : Option C2) (tl : List Td) : (baseL x p r s1 s2 a b w0 w1 tl)[0]? = some (wOb x p r w0 w1 tl) := rfl
theorem w_top (hw : Wd col H (baseL x p r s1 s2 a b w0 w1 tl)) : ∃ l k, WC H x p r w0 w1 tl l k ∧ col x = 1 ∧ (∀ y, blkOf l = some y → col y = 1) ∧ ∀ y, blkOf k = some y → col y = 1 := (hw.get (base_w x p r s1 s2 a b w0 w1 tl)).1
theorem w_d (hw : Wd col H (baseL x p r s1 s2 a b w0 w1 tl)) : loadE (some none) (.pointer (some ⟨x, 0, none⟩)) H = some (ptrV p) := by
  obtain ⟨l, k, hc, _⟩ := w_top hw
  rw [load_cell hc.top]; exact wd_get.1
theorem w_r (hw : Wd col H (baseL x p r s1 s2 a b w0 w1 tl)) : loadE (some none) (.pointer (some ⟨x, 1, none⟩)) H = some (ptrV r) := by
  obtain ⟨l, k, hc, _⟩ := w_top hw
  rw [load_cell hc.top]; exact wd_get.2.1
end

/-- Between two steps. -/
structure WS (col : Nat → Nat) (H : Hp) (x p r : Nat) (s : DS) (a : Nat → Option C2) (w0 w1 : Option C2) (tl : List Td) (kf : Nat) : Prop where
  wd : Wd col H (baseL x p r s s a a w0 w1 tl)
  fit : s.fit kf
  lim : kf ≤ 2000000
  n : s.n ≤ 1048576
  rw : ∀ k q, a k = some q → Rw q.size q.cs ∧ q.size ≤ 4096
  c0 : cVal w0 = cVal (a 0) ∧ wVal w0 = wVal (a 0)
  c1 : cVal w1 = cVal (a 1) ∧ wVal w1 = wVal (a 1)
  tn : tl.length ≤ kf
  tx : ∀ t ∈ tl, t.xs.length ≤ 4096
section
variable {col col' : Nat → Nat} {H H' : Hp} {x p r kf n : Nat} {s s' : DS} {a : Nat → Option C2} {w0 w1 : Option C2} {tl : List Td} {q q' : C2}
theorem WS.ext (h : WS col H x p r s a w0 w1 tl kf) (e : Ext H H') : WS col H' x p r s a w0 w1 tl kf := { h with wd := h.wd.ext e }
theorem WS.grow (h : WS col H x p r s a w0 w1 tl kf) {k : Nat} (hk : kf ≤ k) (hl : k ≤ 2000000) : WS col H x p r s a w0 w1 tl k := { h with fit := h.fit.mono hk, lim := hl, tn := Nat.le_trans h.tn hk }
theorem WS.c (h : WS col H x p r s a w0 w1 tl kf) (hn : n = 0 ∨ n = 1) : loadE (some none) (.pointer (some ⟨x, 2 + n, none⟩)) H = some (cVal (a n)) := by
  obtain ⟨l, k, hc, _⟩ := w_top h.wd
  rw [load_cell hc.top]
  rcases hn with rfl | rfl
  · exact wd_get.2.2.1.trans (by rw [h.c0.1])
  · exact wd_get.2.2.2.1.trans (by rw [h.c1.1])
theorem WS.w (h : WS col H x p r s a w0 w1 tl kf) (hn : n = 0 ∨ n = 1) : loadE (some none) (.pointer (some ⟨x, 4 + n, none⟩)) H = some (wVal (a n)) := by
  obtain ⟨l, k, hc, _⟩ := w_top h.wd
  rw [load_cell hc.top]
  rcases hn with rfl | rfl
  · exact wd_get.2.2.2.2.1.trans (by rw [h.c0.2])
  · exact wd_get.2.2.2.2.2.1.trans (by rw [h.c1.2])
theorem WS.turn (h : WS col H x p r s a w0 w1 tl kf) (ha : a n = some q) (hc : q'.cb = q.cb) (hr : q'.rc = q.rc) (w : Wd col' H' (baseL x p r s' s' (updQ a n q') (updQ a n q') w0 w1 tl)) (hf : s'.fit (kf + 1)) (hl : kf + 1 ≤ 2000000) (hn : s'.n = s.n) (hR : Rw q'.size q'.cs) (hz : q'.size ≤ 4096) :
    WS col' H' x p r s' (updQ a n q') w0 w1 tl (kf + 1) := by
  have key : ∀ m, cVal (updQ a n q' m) = cVal (a m) ∧ wVal (updQ a n q' m) = wVal (a m) := fun m => by
    unfold updQ
    by_cases hm : m = n
    · subst hm
      rw [if_pos rfl, ha]
      exact ⟨by show ptrV q'.cb = ptrV q.cb; rw [hc], by show ptrV q'.rc = ptrV q.rc; rw [hr]⟩
    · rw [if_neg hm]; exact ⟨rfl, rfl⟩
  refine ⟨w, hf, hl, by rw [hn]; exact h.n, fun k y hy => ?_, ⟨by rw [(key 0).1]; exact h.c0.1, by rw [(key 0).2]; exact h.c0.2⟩, ⟨by rw [(key 1).1]; exact h.c1.1, by rw [(key 1).2]; exact h.c1.2⟩, Nat.le_trans h.tn (Nat.le_succ _), h.tx⟩
  unfold updQ at hy
  split at hy
  · injection hy with hy; subst hy; exact ⟨hR, hz⟩
  · exact h.rw k y hy
theorem WS.disk (h : WS col H x p r s a w0 w1 tl kf) (w : Wd col' H' (baseL x p r s' s' a a w0 w1 tl)) (hf : s'.fit (kf + 1)) (hl : kf + 1 ≤ 2000000) (hn : s'.n = s.n) : WS col' H' x p r s' a w0 w1 tl (kf + 1) :=
  { h with wd := w, fit := hf, lim := hl, n := by rw [hn]; exact h.n, tn := Nat.le_trans h.tn (Nat.le_succ _) }
theorem base_isB {s1 s2 : DS} {b : Nat → Option C2} (hw : Wd col H (baseL x p r s1 s2 a b w0 w1 tl)) (hn : n = 0 ∨ n = 1) (ha : a n = some q) : (∀ k, IsB (s1.now k)) ∧ ∀ y ∈ q.cs, IsB y.data := by
  have hd : DiskAt H p s1 _ := hw.get (base_disk x p r s1 s2 a b w0 w1 tl)
  have hc : CacheAt H q.cb p q.size q.cs _ := hw.get (base_c hn ha)
  refine ⟨fun k => hd.now_is k, ?_⟩
  obtain ⟨⟨row, mp, hC, he, _⟩, _⟩ := hc
  intro y hy
  rw [← he] at hy
  obtain ⟨z, hz, rfl⟩ := List.mem_map.1 hy
  obtain ⟨c, _, ky⟩ := hC.ring.lks z hz
  exact ky.isB
theorem readC_isB {size : Int} {cs : List Pl} {at_ : Int} (h : ∀ k, IsB (s.now k)) (hc : ∀ y ∈ cs, IsB y.data) : IsB (readC size s cs at_).2.2.1 := by
  unfold readC
  split
  · exact zB_is
  · split
    · rename_i y hy
      exact hc y (List.mem_of_find?_eq_some hy)
    · split
      · exact zB_is
      · exact h at_
end
end Go.Vc

/- Ft, part M: a step with a cache; any step. -/
set_option linter.unusedVariables false
set_option linter.unusedSimpArgs false
namespace Go.Vc
open Go.Proofs

section
variable {col : Nat → Nat} {H : Hp} {x p r kf n : Nat} {s : DS} {a : Nat → Option C2} {w0 w1 : Option C2} {tl : List Td} {q : C2} {R : Value → Hp → Prop}
theorem kpn_ext {H H1 H2 : Hp} {b : Nat} (e : Ext H H1) (k : Kp (· = b) H1 H2) (hb : H.size = b) : Ext H H2 := e.kpn k (by omega)

/-- The lists are told. -/
theorem tell_add (hw : WS col H x p r s a w0 w1 tl kf) {l k : Value} {xs : List Int} {H1 H2 : Hp} (e1 : Ext H H1) (hl : Sv 3 1 H1 l (ints xs)) (nl : ∀ b, blkOf l = some b → H.size ≤ b) (e2 : Ext H1 H2) (hk : Sv 3 1 H2 k (ints xs)) (nk : ∀ b, blkOf k = some b → H1.size ≤ b) :
    ∃ col', Wd col' H2 (baseL x p r s s a a w0 w1 tl ++ [intsOb l xs] ++ [intsOb k xs]) ∧ Qs H col H2 col' := by
  obtain ⟨c1, h1, g1⟩ := hw.wd.add e1 (x := intsOb l xs) (O' := fun b => blkOf l = some b) ⟨hl, fun b h => h, fun b h => hl.lt h⟩ nl
  obtain ⟨c2, h2, g2⟩ := h1.add e2 (x := intsOb k xs) (O' := fun b => blkOf k = some b) ⟨hk, fun b h => h, fun b h => hk.lt h⟩ nk
  exact ⟨c2, h2, g1.trans g2 e1.le, (e1.trans e2).le, fun b hb _ => (e1.trans e2).same b hb⟩
theorem tell_set {l k : Value} {xs : List Int} : ((baseL x p r s s a a w0 w1 tl ++ [intsOb l xs] ++ [intsOb k xs]).set 0 (wOb x p r w0 w1 (tl ++ [⟨l, k, xs⟩]))) = baseL x p r s s a a w0 w1 (tl ++ [⟨l, k, xs⟩]) := by
  unfold baseL tdL
  rw [List.flatMap_append]
  simp [List.flatMap_cons, List.flatMap_nil]

theorem tdL_get : ∀ {tl : List Td} {i : Nat} {t : Td}, tl[i]? = some t → (tdL tl)[2 * i]? = some (intsOb t.l t.xs) ∧ (tdL tl)[2 * i + 1]? = some (intsOb t.k t.xs)
  | [], i, t, h => by simp at h
  | t' :: tl, 0, t, h => by
    injection h with h; subst h; exact ⟨rfl, rfl⟩
  | t' :: tl, i + 1, t, h => by
    have ih := tdL_get (tl := tl) (i := i) (t := t) h
    have e : tdL (t' :: tl) = intsOb t'.l t'.xs :: intsOb t'.k t'.xs :: tdL tl := rfl
    rw [e, show 2 * (i + 1) = 2 * i + 1 + 1 by omega]
    exact ih
theorem base_l {s1 s2 : DS} {b : Nat → Option C2} {i : Nat} {t : Td} (h : tl[i]? = some t) : (baseL x p r s1 s2 a b w0 w1 tl)[7 + 2 * i]? = some (intsOb t.l t.xs) := by
  rw [show 7 + 2 * i = 2 * i + 1 + 1 + 1 + 1 + 1 + 1 + 1 by omega]
  exact (tdL_get h).1
theorem base_k {s1 s2 : DS} {b : Nat → Option C2} {i : Nat} {t : Td} (h : tl[i]? = some t) : (baseL x p r s1 s2 a b w0 w1 tl)[7 + 2 * i + 1]? = some (intsOb t.k t.xs) := by
  rw [show 7 + 2 * i + 1 = 2 * i + 1 + 1 + 1 + 1 + 1 + 1 + 1 + 1 by omega]
  exact (tdL_get h).2

set_option maxHeartbeats 4000000 in
theorem ask_ok (hw : WS col H x p r s a w0 w1 tl kf) (hkf : kf + 1 ≤ 2000000) (hn : n = 0 ∨ n = 1) (ha : a n = some q) {m : Sp}
    (k : ∀ H' col' s' a' tl', WS col' H' x p r s' a' w0 w1 tl' (kf + 1) → Qs H col H' col' → R (.bool true) H') :
    Fc Try.prog 26 #[ptrV x, .agg m.c, .int .i64 n] H R := by
  obtain ⟨hR, hsz⟩ := hw.rw n q ha
  have hlen := hR.len
  obtain ⟨f1, f2, f3, f4, f5⟩ := hw.fit
  have hfit := hw.fit
  refine fn26 ?_
  simp only [sh26]
  refine box_i fun b1 H1 hb1 e1 t1 g1 => ?_
  simp only [cells_agg] at g1
  have hw1 := hw.ext e1
  have z1 : col b1 = 0 := hw.wd.zero (by omega)
  have qs1 := e1.qs col
  have hlt : b1 < H1.size := by omega
  simp only [nilCheckE, Pu_some, addr_ptr, Nat.zero_add]
  rw [idx_arr (by omega) (by omega)]
  simp only [Pu_some, Int.toNat_natCast, Nat.mul_one, hw1.c hn, hw1.w hn]
  rw [idx_arr (by omega) (by omega)]
  simp only [Pu_some, Int.toNat_natCast, Nat.mul_one, hw1.c hn, hw1.w hn]
  have hcv : cVal (a n) = ptrV q.cb := by rw [ha]; rfl
  have hwv : wVal (a n) = ptrV q.rc := by rw [ha]; rfl
  rw [hcv, hwv]
  simp only [load_cell g1, sp_get, Pu_some, binE_eql, Ite_dec]
  refine ⟨fun h0 => ?_, fun h0 => ⟨fun h1 => ?_, fun h1 => ⟨fun h2 => ?_, fun h2 => ⟨fun h3 => ?_, fun h3 => ⟨fun h4 => ?_, fun h4 => ?_⟩⟩⟩⟩⟩
  · -- read
    have hBs := base_isB hw1.wd hn ha
    have hB : IsB (readC q.size s q.cs m.at_).2.2.1 := readC_isB hBs.1 hBs.2
    have hfit' := readC_fit (size := q.size) (cs := q.cs) hfit m.at_
    have hn' := readC_n (size := q.size) (s := s) (cs := q.cs) m.at_
    have hRd := hR.read (s := s) m.at_
    refine pw_read hw1.wd hn ha ⟨by omega, by omega⟩ hsz fun H2 col2 w2 q2 => ?_
    have pr := fun H' (hw' : Wd col2 H' (baseL x p r (readC q.size s q.cs m.at_).1 s (updQ a n { q with cs := (readC q.size s q.cs m.at_).2.1 }) a w0 w1 tl)) R' kk => pr_read (R := R') hw' hn ha ⟨by omega, by omega⟩ hR hsz (at_ := m.at_) kk
    generalize readC q.size s q.cs m.at_ = rd at *
    simp only [extractE, List.getElem?_toArray, List.getElem?_cons_zero, List.getElem?_cons_succ, Pu_some, zeroB]
    refine box_i fun b3 H3 hb3 e3 t3 g3 => ?_
    simp only [cells_agg] at g3
    refine storeAll_i g3 zB_size hB.size hB.ok fun H4 k4 t4 g4 => ?_
    have e24 := kpn_ext e3 k4 hb3
    have q14 := q2.trans (e24.qs col2)
    have g14 := q14.at g1 z1
    have w4 := w2.ext e24
    have z3 : col2 b3 = 0 := w2.zero (by omega)
    simp only [load_cell g14, sp_get, Pu_some]
    refine pr H4 w4 _ fun H5 col5 w5 q5 => ?_
    simp only [extractE, List.getElem?_toArray, List.getElem?_cons_zero, List.getElem?_cons_succ, Pu_some]
    refine box_i fun b6 H6 hb6 e6 t6 g6 => ?_
    simp only [cells_agg] at g6
    refine storeAll_i g6 zB_size hB.size hB.ok fun H7 k7 t7 g7 => ?_
    have e57 := kpn_ext e6 k7 hb6
    have q47 := q5.trans (e57.qs col5)
    have g47 := q47.at g4 z3
    have g47' : H7[b3]? = some (.cells rd.2.2.1 51) := g47
    have g7' : H7[b6]? = some (.cells rd.2.2.1 51) := g7
    simp only [load_all g47' hB.size, load_all g7' hB.size, Pu_some]
    rw [eqXE_eql, eqB_true rowB hB]
    simp only [Option.map_some, Pu_some, Ite_true, binE_eql, deq']
    exact k H7 col5 _ _ _ (hw.turn (q' := { q with cs := rd.2.1 }) ha rfl rfl (w5.ext e57) hfit' hkf hn' hRd hsz) (qs1.trans (q14.trans q47))
  · -- put
    have hRp := hR.put (s := s) m.at_ (filB m.fill)
    have hB := filB_is m.fill
    have fin : ∀ {H2 H3 H4 H5 H6 : Hp} {col3 col5 : Nat → Nat}, Ext H1 H2 → Qs H2 col H3 col3 → Ext H3 H4 → Qs H4 col3 H5 col5 → Wd col5 H5 (baseL x p r s s (updQ a n { q with cs := (putC q.size s q.cs m.at_ (filB m.fill)).1 }) (updQ a n { q with cs := (putC q.size s q.cs m.at_ (filB m.fill)).1 }) w0 w1 tl) → Ext H5 H6 → R (.bool true) H6 :=
      fun e2 q3 e4 q5 w5 e6 => k _ _ _ _ _ (hw.turn (q' := { q with cs := (putC q.size s q.cs m.at_ (filB m.fill)).1 }) ha rfl rfl (w5.ext e6) (hfit.mono (by omega)) hkf rfl hRp hsz) (qs1.trans ((e2.qs col).trans (q3.trans ((e4.qs _).trans (q5.trans (e6.qs _))))))
    have hqc : ∀ H, QC true Try.prog 31 #[.int .u16 m.fill] H (.agg (filB m.fill)) := fun _ => filled_qc
    generalize filB m.fill = d at hB fin hRp hqc
    refine ⟨.agg d, hqc _, ?_⟩
    repeat' first | exact trivial | apply And.intro
    all_goals simp only [ForX_true]
    all_goals
      intro H2 e2
      refine pw_put (hw1.wd.ext e2) hn ha hsz (by omega) hB fun H3 col3 w3 q3 => ?_
      have g3 := q3.at (e2.at g1) z1
      try simp only [load_cell g3, sp_get, Pu_some]
      refine ⟨.agg d, hqc _, ?_⟩
      intro H4 e4
      refine pr_put (w3.ext e4) hn ha hR hsz hB fun H5 col5 w5 q5 => ?_
      simp only [binE_eql, Pu_some, deq']
      exact fun H6 e6 => fin e2 q3 e4 q5 w5 e6
  · -- flush
    have hRf := hR.flush (s := s) m.at_
    have hf' := flushC_fit (cs := q.cs) hfit m.at_
    have hn' := flushC_n (s := s) (cs := q.cs) m.at_
    have fin : ∀ {H2 H3 H4 H5 H6 : Hp} {col3 col5 : Nat → Nat}, Ext H1 H2 → Qs H2 col H3 col3 → Ext H3 H4 → Qs H4 col3 H5 col5 → Wd col5 H5 (baseL x p r (flushC s q.cs m.at_).1 (flushC s q.cs m.at_).1 (updQ a n { q with cs := (flushC s q.cs m.at_).2.1 }) (updQ a n { q with cs := (flushC s q.cs m.at_).2.1 }) w0 w1 tl) → Ext H5 H6 → R (.bool true) H6 :=
      fun e2 q3 e4 q5 w5 e6 => k _ _ _ _ _ (hw.turn (q' := { q with cs := (flushC s q.cs m.at_).2.1 }) ha rfl rfl (w5.ext e6) hf' hkf hn' hRf hsz) (qs1.trans ((e2.qs col).trans (q3.trans ((e4.qs _).trans (q5.trans (e6.qs _))))))
    repeat' first | exact trivial | apply And.intro
    all_goals simp only [ForX_true]
    all_goals
      intro H2 e2
      refine pw_flush (hw1.wd.ext e2) hn ha hfit (by omega) (by omega) fun H3 col3 w3 q3 => ?_
      have g3 := q3.at (e2.at g1) z1
      try simp only [load_cell g3, sp_get, Pu_some]
      intro H4 e4
      refine pr_flush (w3.ext e4) hn ha hfit (by omega) hR hsz fun H5 col5 w5 q5 => ?_
      simp only [binE_eql, Pu_some, deq']
      exact fun H6 e6 => fin e2 q3 e4 q5 w5 e6
  · -- tell
    simp only [ForX_true]
    intro H2 e2
    refine cache_fast ((hw1.wd.ext e2).get (base_c hn ha)) ?_
    intro H3 e3
    have e13 := e2.trans e3
    obtain ⟨⟨sl, hc, o1, o2⟩, hlt3⟩ : RC H3 q.rc r q.size q.cs _ := (hw1.wd.ext e13).get (base_r hn ha)
    refine rc_fast hc (by omega) ?_
    simp only [binE_eql, Pu_some, decide_true, Ite_true, nilCheckE, addr_ptr, Nat.zero_add, load_cell hc.top, rc_get]
    rw [hc.row.lenE undPlas, List.length_map]
    simp only [Pu_some]
    refine ⟨fun H4 e4 => ?_, fun H4 e4 => ?_, trivial⟩
    · refine cache_len ((hw1.wd.ext (e13.trans e4)).get (base_c hn ha)) ?_
      simp only [binE_eql, Pu_some, deq']
      exact fun H5 e5 => k H5 col s a tl ((hw1.ext (e13.trans (e4.trans e5))).grow (by omega) hkf) ((e1.trans (e13.trans (e4.trans e5))).qs col)
    · refine cache_len ((hw1.wd.ext (e13.trans e4)).get (base_c hn ha)) ?_
      simp only [load_cell (e4.at hc.top), rc_get, Pu_some]
      rw [hc.row.lenE undPlas, List.length_map]
      simp only [binE_eql, Pu_some, deq']
      exact fun H5 e5 => k H5 col s a tl ((hw1.ext (e13.trans (e4.trans e5))).grow (by omega) hkf) ((e1.trans (e13.trans (e4.trans e5))).qs col)
  · -- order
    refine cache_order (hw1.wd.get (base_c hn ha)) (by omega) fun l H2 e2 hl nl => ?_
    have hw2 := hw1.ext e2
    refine rc_order (hw2.wd.get (base_r hn ha)) (by omega) fun kk H3 e3 hk nk => ?_
    obtain ⟨col3, w3, q3⟩ := tell_add hw1 e2 hl nl e3 hk nk
    have hxl : (q.cs.map (·.at_)).length ≤ 4096 := by rw [List.length_map]; omega
    generalize q.cs.map (·.at_) = xs at *
    have hl3 := hl.ext e3
    have hw30 : (baseL x p r s s a a w0 w1 tl ++ [intsOb l xs] ++ [intsOb kk xs])[0]? = some (wOb x p r w0 w1 tl) := rfl
    obtain ⟨⟨L, K, hc, o1, o2, o3⟩, _⟩ := w3.get hw30
    obtain ⟨top, ls, ks, d1, d2⟩ := hc
    simp only [Nat.zero_add] at o1 o2 o3
    have qI := eIntss_f
    have htl := hw.tn
    simp only [load_cell top, wd_get, Pu_some, elIntss]
    rw [newS_one (by rw [qI.2.1]; decide) (by rw [qI.2.1]; decide) (by rw [hl.one.1, qI.2.1]; rfl), hl.one.1, Pu_some]
    refine newS_i fun b4 H4 hb4 e4 t4 g4 => ?_
    refine app_many (us := [#[l]]) qI.1 qI.2.1 qI.2.2.1 (by rw [qI.2.2.2]; decide) (ls.ext e4) (Sv.single g4 rfl) (fun u hu => by have := List.mem_singleton.1 hu; subst this; simp [cellsOk, hl.one.2]) (by rw [qI.2.2.2]; unfold lsC; rw [List.length_map]; show (tl.length + 1) * 24 ≤ 2 ^ 47; omega) fun L' H5 hL5 k5 n5 => ?_
    have hx3 := Go.Vc.lt_of_block top
    have g5 := k5.at (e4.at top) fun e => d1 x e rfl
    refine store_i g5 (by show 6 < 8; omega) hL5.one.2 hL5.one.1 fun H6 k6 t6 g6 => ?_
    have g6 : H6[x]? = some (.cells (wdC p r w0 w1 L' K) 41) := g6
    simp only [load_cell g6, wd_get, Pu_some]
    rw [newS_one (by rw [qI.2.1]; decide) (by rw [qI.2.1]; decide) (by rw [hk.one.1, qI.2.1]; rfl), hk.one.1, Pu_some]
    refine newS_i fun b7 H7 hb7 e7 t7 g7 => ?_
    have ks7 : Sv 46 1 H7 K (lsC Td.k tl) := (((ks.ext e4).kp k5 fun b hb e => (d2 b hb).2 e).kp k6 fun b hb e => (d2 b hb).1 e).ext e7
    refine app_many (us := [#[kk]]) qI.1 qI.2.1 qI.2.2.1 (by rw [qI.2.2.2]; decide) ks7 (Sv.single g7 rfl) (fun u hu => by have := List.mem_singleton.1 hu; subst this; simp [cellsOk, hk.one.2]) (by rw [qI.2.2.2]; unfold lsC; rw [List.length_map]; show (tl.length + 1) * 24 ≤ 2 ^ 47; omega) fun K' H8 hK8 k8 n8 => ?_
    have g8 := k8.at (e7.at g6) fun e => (d2 x e).1 rfl
    refine store_i g8 (by show 7 < 8; omega) hK8.one.2 hK8.one.1 fun H9 k9 t9 g9 => ?_
    have g9 : H9[x]? = some (.cells (wdC p r w0 w1 L' K') 41) := g9
    have l34 := e4.le
    have l45 := k5.le
    have l67 := e7.le
    have l78 := k8.le
    have dL' : ∀ y, blkOf L' = some y → y ≠ x ∧ (blkOf L = some y ∨ H4.size ≤ y) := fun y hy => by
      rcases n5 y hy with h | h
      · exact ⟨d1 y h, .inl h⟩
      · exact ⟨by omega, .inr h⟩
    have dK' : ∀ y, blkOf K' = some y → y ≠ x ∧ (blkOf K = some y ∨ H7.size ≤ y) := fun y hy => by
      rcases n8 y hy with h | h
      · exact ⟨(d2 y h).1, .inl h⟩
      · exact ⟨by omega, .inr h⟩
    have ltL : ∀ y, blkOf L' = some y → y < H5.size := fun y hy => hL5.lt hy
    have dLK : ∀ y, blkOf K = some y → blkOf L' ≠ some y := fun y hy e => by
      have h3 := ks.lt hy
      rcases (dL' y e).2 with h | h
      · exact (d2 y hy).2 h
      · omega
    have hL9 : Sv 46 1 H9 L' (lsC Td.l tl ++ [#[l]]) := (((hL5.kp k6 fun b hb e => (dL' b hb).1 e).ext e7).kp k8 fun b hb e => dLK b e hb).kp k9 fun b hb e => (dL' b hb).1 e
    have hK9 : Sv 46 1 H9 K' (lsC Td.k tl ++ [#[kk]]) := hK8.kp k9 fun b hb e => (dK' b hb).1 e
    have hkp : Kp (fun b => col3 b = 0 + 1) H3 H9 := ⟨by omega, fun b hb hne => by
      have n1 : b ≠ x := fun e => hne (by rw [e]; exact o1)
      have n2 : blkOf L ≠ some b := fun e => hne (o2 b e)
      have n3 : blkOf K ≠ some b := fun e => hne (o3 b e)
      rw [k9.same b (by omega) n1, k8.same b (by omega) n3, e7.same b (by omega), k6.same b (by omega) n1, k5.same b (by omega) n2, e4.same b hb]⟩
    obtain ⟨col9, w9, c9⟩ := w3.step hw30 hkp (x' := wOb x p r w0 w1 (tl ++ [⟨l, kk, xs⟩])) (O' := fun b => b = x ∨ blkOf L' = some b ∨ blkOf K' = some b) ⟨⟨L', K', ⟨g9, by unfold lsC; rw [List.map_append]; exact hL9, by unfold lsC; rw [List.map_append]; exact hK9, fun y hy => (dL' y hy).1, fun y hy => ⟨(dK' y hy).1, fun e => by
        have := ltL y e
        rcases (dK' y hy).2 with h | h
        · exact dLK y h e
        · omega⟩⟩, .inl rfl, fun y hy => .inr (.inl hy), fun y hy => .inr (.inr hy)⟩, fun y hy => by
        rcases hy with h | h | h
        · subst h; exact Go.Vc.lt_of_block g9
        · have := ltL y h; omega
        · have := hK9.lt h; exact this⟩ (fun y hy => by
        rcases hy with h | h | h
        · exact .inl (by rw [h]; exact o1)
        · rcases (dL' y h).2 with h | h
          · exact .inl (o2 y h)
          · exact .inr (by omega)
        · rcases (dK' y h).2 with h | h
          · exact .inl (o3 y h)
          · exact .inr (by omega))
    rw [tell_set] at w9
    have q39 : Qs H3 col3 H9 col9 := ⟨c9, hkp.le, fun b hb h0 => hkp.same b hb fun h => by omega⟩
    have htt : (tl ++ [(⟨l, kk, xs⟩ : Td)])[tl.length]? = some ⟨l, kk, xs⟩ := by rw [List.getElem?_append_right (Nat.le_refl _), Nat.sub_self]; rfl
    have hl9 : Sv 3 1 H9 l (ints xs) := (w9.get (base_l htt)).1
    have hk9 : Sv 3 1 H9 kk (ints xs) := (w9.get (base_k htt)).1
    refine same_ok hl9 hk9 (by omega) ?_
    refine k H9 col9 s a _ ⟨w9, hfit.mono (by omega), hkf, hw.n, hw.rw, hw.c0, hw.c1, by rw [List.length_append]; show tl.length + 1 ≤ kf + 1; omega, fun t ht => ?_⟩ (qs1.trans (q3.trans q39))
    rcases List.mem_append.1 ht with h | h
    · exact hw.tx t h
    · obtain rfl := List.mem_singleton.1 h; exact hxl
  · exact k H1 col s a tl (hw1.grow (by omega) hkf) qs1
theorem write_n (s : DS) (a : Int) (b : Blk) : (s.write a b).1.n = s.n := by
  unfold DS.write DS.burn
  split
  · rfl
  · split
    · rfl
    · split
      · rfl
      · split <;> first | rfl | (rename_i h1 h2; exact absurd h2 h1)
theorem crash_n (s : DS) : s.crash.n = s.n := rfl

set_option maxHeartbeats 4000000 in
theorem step_ok (hw : WS col H x p r s a w0 w1 tl kf) (hkf : kf + 1 ≤ 2000000) {m : Sp} (hm : m.at_ ≤ 9223372036854775807)
    (k : ∀ H' col' s' a' tl', WS col' H' x p r s' a' w0 w1 tl' (kf + 1) → Qs H col H' col' → R (.bool true) H') :
    Fc Try.prog 9 #[ptrV x, .agg m.c] H R := by
  have hfit := hw.fit
  have hsn := hw.n
  obtain ⟨f1, f2, f3, f4, f5⟩ := hw.fit
  refine fn9 ?_
  simp only [sh9, Any_const]
  refine box_i fun b1 H1 hb1 e1 t1 g1 => ?_
  simp only [cells_agg] at g1
  have hw1 := hw.ext e1
  have z1 : col b1 = 0 := hw.wd.zero (by omega)
  have qs1 := e1.qs col
  have hlt : b1 < H1.size := by omega
  simp only [nilCheckE, Pu_some, addr_ptr, Nat.zero_add, load_cell g1, sp_get, binE_eql, Ite_dec, w_d hw1.wd, w_r hw1.wd]
  refine ⟨fun h0 => ?_, fun h0 => ⟨fun h1 => ?_, fun h1 => ⟨fun h2 => ?_, fun h2 => ⟨fun h3 => ?_, fun h3 => ?_⟩⟩⟩⟩
  · -- write
    have hB := filB_is m.fill
    have hf' := DS.write_fit hfit m.at_ (filB m.fill)
    have hn' := write_n s m.at_ (filB m.fill)
    have fin : ∀ {H2 H3 H4 H5 H6 : Hp} {col3 col5 : Nat → Nat}, Ext H1 H2 → Qs H2 col H3 col3 → Ext H3 H4 → Qs H4 col3 H5 col5 → Wd col5 H5 (baseL x p r (s.write m.at_ (filB m.fill)).1 (s.write m.at_ (filB m.fill)).1 a a w0 w1 tl) → Ext H5 H6 → R (.bool true) H6 :=
      fun e2 q3 e4 q5 w5 e6 => k _ _ _ _ _ (hw.disk (w5.ext e6) hf' hkf hn') (qs1.trans ((e2.qs col).trans (q3.trans ((e4.qs _).trans (q5.trans (e6.qs _))))))
    have hqc : ∀ H, QC true Try.prog 31 #[.int .u16 m.fill] H (.agg (filB m.fill)) := fun _ => filled_qc
    generalize filB m.fill = d at hB fin hqc
    refine ⟨.agg d, hqc _, ?_⟩
    repeat' first | exact trivial | apply And.intro
    all_goals simp only [ForX_true]
    all_goals
      intro H2 e2
      have w2 := hw1.wd.ext e2
      refine disk_write (w2.get (base_disk x p r s s a a w0 w1 tl)) hfit (by omega) hB fun H3 O3 st3 hd3 => ?_
      obtain ⟨col3, w3, q3⟩ := pw_disk w2 st3.kp hd3 st3.new
      have g3 := q3.at (e2.at g1) z1
      try simp only [load_cell g3, sp_get, w_r w3, Pu_some]
      refine ⟨.agg d, hqc _, ?_⟩
      intro H4 e4
      have w4 := w3.ext e4
      refine rd_write (w4.get (base_rd x p r _ s a a w0 w1 tl)) ⟨by omega, by omega⟩ ⟨by omega, by omega⟩ hB fun H5 k5 hd5 => ?_
      obtain ⟨col5, w5, q5⟩ := pr_disk w4 k5 hd5 fun b hb => .inl hb
      simp only [binE_eql, Pu_some, decide_true]
      exact fun H6 e6 => fin e2 q3 e4 q5 w5 e6
  · -- barrier
    have hf' := DS.barrier_fit hfit
    have hn' := barrier_n s
    have fin : ∀ {H2 H3 H4 H5 H6 : Hp} {col3 col5 : Nat → Nat}, Ext H1 H2 → Qs H2 col H3 col3 → Ext H3 H4 → Qs H4 col3 H5 col5 → Wd col5 H5 (baseL x p r s.barrier.1 s.barrier.1 a a w0 w1 tl) → Ext H5 H6 → R (.bool true) H6 :=
      fun e2 q3 e4 q5 w5 e6 => k _ _ _ _ _ (hw.disk (w5.ext e6) hf' hkf hn') (qs1.trans ((e2.qs col).trans (q3.trans ((e4.qs _).trans (q5.trans (e6.qs _))))))
    repeat' first | exact trivial | apply And.intro
    all_goals simp only [ForX_true]
    all_goals
      intro H2 e2
      have w2 := hw1.wd.ext e2
      refine disk_barrier (w2.get (base_disk x p r s s a a w0 w1 tl)) hfit (by omega) fun H3 O3 st3 hd3 => ?_
      obtain ⟨col3, w3, q3⟩ := pw_disk w2 st3.kp hd3 st3.new
      try simp only [w_r w3, Pu_some]
      intro H4 e4
      have w4 := w3.ext e4
      refine rd_barrier (w4.get (base_rd x p r _ s a a w0 w1 tl)) ⟨by omega, by omega⟩ ⟨by omega, by omega⟩ hsn fun H5 k5 hd5 => ?_
      obtain ⟨col5, w5, q5⟩ := pr_disk w4 k5 hd5 fun b hb => .inl hb
      simp only [binE_eql, Pu_some, decide_true]
      exact fun H6 e6 => fin e2 q3 e4 q5 w5 e6
  · -- fuse
    refine disk_fuse (hw1.wd.get (base_disk x p r s s a a w0 w1 tl)) fun H2 k2 hd2 => ?_
    obtain ⟨col2, w2, q2⟩ := pw_disk hw1.wd k2 hd2 fun b hb => .inl hb
    simp only [w_r w2, load_cell (q2.at g1 z1), sp_get, Pu_some]
    refine rd_light (w2.get (base_rd x p r _ s a a w0 w1 tl)) fun H3 k3 hd3 => ?_
    obtain ⟨col3, w3, q3⟩ := pr_disk w2 k3 hd3 fun b hb => .inl hb
    exact k _ _ _ _ _ (hw.disk w3 ((DS.light_fit hfit hm).mono (by omega)) hkf (light_n s _)) (qs1.trans (q2.trans q3))
  · -- crash
    refine rd_crash (hw1.wd.get (base_rd x p r s s a a w0 w1 tl)) hsn fun H2 k2 hd2 => ?_
    obtain ⟨col2, w2, q2⟩ := pr_disk hw1.wd k2 hd2 fun b hb => .inl hb
    simp only [w_d w2, Pu_some]
    refine disk_crash (w2.get (base_disk x p r s s.crash a a w0 w1 tl)) (by omega) fun H3 k3 hd3 => ?_
    obtain ⟨col3, w3, q3⟩ := pw_disk w2 k3 hd3 fun b hb => .inl hb
    simp only [binE_eql, Pu_some, decide_true]
    exact k _ _ _ _ _ (hw.disk w3 ((DS.crash_fit hfit).mono (by omega)) hkf (crash_n s)) (qs1.trans (q2.trans q3))
  · -- a cache
    have key : ∀ n : Nat, (n = 0 ∨ n = 1) → Pu (idxAddrE (some (some 2, 1)) (.pointer (some ⟨x, 2, none⟩)) (.int .i64 n)) fun x152 => Pu (loadE (some none) x152 H1) fun x153 => Pu (eqXE Try.prog 29 true .eql x153 (.pointer none) H1) fun x154 => Ite x154 (R (.bool true) H1) (Pu (loadE (some (some 4)) (.pointer (some ⟨b1, 0, none⟩)) H1) fun x155 => Fc Try.prog 26 #[ptrV x, x155, .int .i64 n] H1 fun x156 H97 => R x156 H97) := fun n hn => by
      rw [idx_arr (by omega) (by omega), Pu_some, Int.toNat_natCast, Nat.mul_one, hw1.c hn, Pu_some]
      cases ha : a n with
      | none =>
        simp only [cVal]
        rw [eqX_nil undCa, Pu_some, Ite_true]
        exact k H1 col s a tl (hw1.grow (by omega) hkf) qs1
      | some q =>
        simp only [cVal]
        rw [eqX_ptr undCa, Pu_some, Ite_false, load_all g1 (sp_get m).2.2.2.2, Pu_some]
        exact ask_ok hw1 hkf hn ha fun H' col' s' a' tl' h1 h2 => k H' col' s' a' tl' h1 (qs1.trans h2)
    refine Join.mk (fun t H' => (t.1 = .int .i64 ((0 : Nat) : Int) ∨ t.1 = .int .i64 ((1 : Nat) : Int)) ∧ H' = H1) ?_ ?_
    · rintro ⟨t, u⟩ H2 ⟨ht, rfl⟩
      simp only at ht
      rcases ht with rfl | rfl
      · exact key 0 (.inl rfl)
      · exact key 1 (.inr rfl)
    · simp only [Ite_bool]
      exact ⟨fun _ => ⟨.inr rfl, trivial⟩, fun _ => ⟨.inl rfl, trivial⟩⟩
end
end Go.Vc

/- Ft, part N: the lists that were told stand: marks in each, and each gone on with. -/
set_option linter.unusedVariables false
set_option linter.unusedSimpArgs false
namespace Go.Vc
open Go.Proofs

/-! ### What an append does to a slice's header -/
def AppSh (s s' : Value) (H H' : Hp) : Prop := (∃ base n c n', s = .slice base n c ∧ s' = .slice base n' c) ∨ Ext H H' ∧ blkOf s' = some H.size
theorem app_shape {e : Option ElemI} {s x : Value} {H : Hp} {K : Value → Hp → Prop} (h : AppS e s x H K) : AppS e s x H fun s' H' => K s' H' ∧ AppSh s s' H H' := by
  obtain ⟨e', he, ⟨new, hn, h⟩⟩ := h
  refine ⟨e', he, ⟨new, hn, ?_⟩⟩
  unfold App at h ⊢
  cases s with
  | slice base n c =>
    simp only at h ⊢
    by_cases hc : n + lenS x ≤ c
    · rw [if_pos hc] at h ⊢
      cases base with
      | some a =>
        obtain ⟨H', hp, h⟩ := h
        exact ⟨H', hp, h, .inl ⟨_, _, _, _, rfl, rfl⟩⟩
      | none => exact ⟨h.1, h.2, .inl ⟨_, _, _, _, rfl, rfl⟩⟩
    · rw [if_neg hc] at h ⊢
      obtain ⟨h1, h2, ⟨old, ho, h⟩⟩ := h
      exact ⟨h1, h2, ⟨old, ho, fun cap hcap => ⟨h cap hcap, .inr ⟨Ext.push _ _, rfl⟩⟩⟩⟩
  | _ => exact h.elim
theorem Sv.pre {T n : Nat} {H : Hp} {base : Option Addr} {c k : Nat} {vs us : List (Array Value)} (h : Sv T n H (.slice base k c) (vs ++ us)) : Sv T n H (.slice base vs.length c) vs := by
  obtain ⟨base', cap, he, hle, hn, hm⟩ := h
  injection he with e1 e2 e3
  subst e1 e3
  rw [List.length_append] at hle
  refine ⟨base, c, rfl, by omega, fun v hv => hn v (List.mem_append_left _ hv), ?_⟩
  cases base with
  | none => exact hm
  | some a =>
    obtain ⟨hsp, cs, hg, hsz, hv⟩ := hm
    refine ⟨hsp, cs, hg, hsz, fun i v hi => hv i v ?_⟩
    have hil : i < vs.length := by
      rcases Nat.lt_or_ge i vs.length with h1 | h1
      · exact h1
      · rw [List.getElem?_eq_none h1] at hi; cases hi
    rw [List.getElem?_append_left hil]; exact hi
/-- A list, and what it was gone on with: one row, or two. -/
structure Pr (H : Hp) (s g : Value) (ys us : List Int) : Prop where
  a : Sv 3 1 H s (ints ys)
  b : Sv 3 1 H g (ints (ys ++ us))
  rel : (∃ base n c n', s = .slice base n c ∧ g = .slice base n' c) ∨ ∀ b, blkOf g = some b → blkOf s ≠ some b
theorem Pr.refl {H : Hp} {s : Value} {ys : List Int} (h : Sv 3 1 H s (ints ys)) : Pr H s s ys [] := by
  refine ⟨h, by rw [List.append_nil]; exact h, ?_⟩
  obtain ⟨b, c, e⟩ := h.len
  exact .inl ⟨b, _, c, _, e, e⟩
theorem Pr.of {H H' : Hp} {s g : Value} {ys us : List Int} (h : Pr H s g ys us) (h1 : ∀ b, blkOf s = some b → H'[b]? = H[b]?) (h2 : ∀ b, blkOf g = some b → H'[b]? = H[b]?) : Pr H' s g ys us := ⟨h.a.of h1, h.b.of h2, h.rel⟩
theorem Pr.app {H : Hp} {s g x : Value} {ys us : List Int} {z : Int} (h : Pr H s g ys us) (hx : Sv 3 1 H x [#[.int .i64 z]]) (hl : ys.length + us.length < 1099511627776) {K : Value → Hp → Prop}
    (hk : ∀ g' H', Pr H' s g' ys (us ++ [z]) → Kp (fun b => blkOf g = some b) H H' → (∀ b, blkOf g' = some b → blkOf g = some b ∨ H.size ≤ b) → K g' H') : AppS (some eInt) g x H K := by
  have h0 := app_shape (app_many (e := eInt) (us := [#[.int .i64 z]]) rfl rfl rfl (by decide) h.b hx (by simp [cellsOk, Value.oneCell']) (by
    rw [ints_len, List.length_append]; show (ys.length + us.length + 1) * 8 ≤ 2 ^ 47; omega) (K := fun g' H' => Sv 3 1 H' g' (ints (ys ++ us) ++ [#[Value.int .i64 z]]) ∧ Kp (fun b => blkOf g = some b) H H' ∧ (∀ b, blkOf g' = some b → blkOf g = some b ∨ H.size ≤ b)) fun s' H' a b c => by exact ⟨a, b, c⟩)
  have hmono : ∀ {K K' : Value → Hp → Prop}, (∀ g' H', K g' H' → K' g' H') → AppS (some eInt) g x H K → AppS (some eInt) g x H K' := by
    intro K K' hKK h
    obtain ⟨e', he, ⟨new, hn, h⟩⟩ := h
    refine ⟨e', he, ⟨new, hn, ?_⟩⟩
    unfold App at h ⊢
    cases g with
    | slice base n c =>
      simp only at h ⊢
      by_cases hc : n + lenS x ≤ c
      · rw [if_pos hc] at h ⊢
        cases base with
        | some a =>
          obtain ⟨H', hp, h⟩ := h
          exact ⟨H', hp, hKK _ _ h⟩
        | none => exact ⟨h.1, hKK _ _ h.2⟩
      · rw [if_neg hc] at h ⊢
        obtain ⟨h1, h2, ⟨old, ho, h⟩⟩ := h
        exact ⟨h1, h2, ⟨old, ho, fun cap hcap => hKK _ _ (h cap hcap)⟩⟩
    | _ => exact h.elim
  refine hmono ?_ h0
  rintro g' H' ⟨⟨hv, hkp, hnew⟩, hsh⟩
  have hv' : Sv 3 1 H' g' (ints (ys ++ (us ++ [z]))) := by rw [← List.append_assoc, ints_app]; exact hv
  refine hk g' H' ?_ hkp hnew
  rcases hsh with ⟨base, n1, c1, n2, e1, e2⟩ | ⟨he, hb⟩
  · rcases h.rel with ⟨base', n3, c3, n4, e3, e4⟩ | hne
    · rw [e1] at e4
      injection e4 with f1 f2 f3
      subst f1 f3
      refine ⟨?_, hv', .inl ⟨base, n3, c1, n2, e3, e2⟩⟩
      rw [e2, ints_app] at hv'
      have hp := hv'.pre
      obtain ⟨b, c, e5⟩ := h.a.len
      rw [e3] at e5
      injection e5 with _ f5 _
      rw [e3, f5]; exact hp
    · refine ⟨h.a.kp hkp fun b hb e => hne b e hb, hv', .inr fun b hb => ?_⟩
      have : blkOf g = some b := by
        rw [e1]; rw [e2] at hb
        cases base <;> exact hb
      exact hne b this
  · exact ⟨h.a.ext he, hv', .inr fun b hb' e => by
      rw [hb] at hb'
      injection hb' with hb'
      have := h.a.lt e
      omega⟩

theorem ints_set {l : List Int} {i : Nat} {x : Int} : (ints l).set i #[.int .i64 x] = ints (l.set i x) := by unfold ints; rw [List.map_set]
theorem lsC_get {f : Td → Value} {tl : List Td} {i : Nat} {t : Td} (h : tl[i]? = some t) : (lsC f tl)[i]? = some #[f t] := by unfold lsC; rw [List.getElem?_map, h]; rfl
theorem lsC_len {f : Td → Value} {tl : List Td} : (lsC f tl).length = tl.length := by unfold lsC; rw [List.length_map]
theorem mark_set {xs : List Int} {m : Nat} {z : Int} (h : m < xs.length) : (List.replicate m z ++ xs.drop m).set m z = List.replicate (m + 1) z ++ xs.drop (m + 1) := by
  rw [List.drop_eq_getElem_cons h, List.set_append_right _ _ (by simp), List.length_replicate, Nat.sub_self, List.set_cons_zero, List.replicate_succ', List.append_assoc]; rfl
/-- The marks of list number j. -/
def mkL (j : Nat) (t : Td) : List Int := List.replicate t.xs.length (-2 - (j : Int))
def fM (i m : Nat) (j : Nat) (t : Td) : List Int := if j < i then mkL j t else if j = i then List.replicate m (-2 - (j : Int)) ++ t.xs.drop m else t.xs
theorem mkL_len (j : Nat) (t : Td) : (mkL j t).length = t.xs.length := by unfold mkL; rw [List.length_replicate]
theorem fM_zero (i : Nat) (t : Td) : fM i 0 i t = t.xs := by unfold fM; rw [if_neg (by omega), if_pos rfl]; rfl

/-- The lists, while the marks are written. -/
structure St2 (H : Hp) (v0 : Value) (tl : List Td) (c : Nat → Nat) (f : Nat → Td → List Int) : Prop where
  top : Sv 46 1 H v0 (lsC Td.l tl)
  t1 : ∀ b, blkOf v0 = some b → c b = 1
  li : ∀ j t, tl[j]? = some t → Sv 3 1 H t.l (ints (f j t)) ∧ ∀ b, blkOf t.l = some b → c b = 8 + 2 * j
/-- The lists, while they are gone on with. -/
structure StI (H : Hp) (v0 long : Value) (tl : List Td) (gs : List Value) (c : Nat → Nat) : Prop where
  top : Sv 46 1 H v0 (lsC Td.l tl)
  t1 : ∀ b, blkOf v0 = some b → c b = 1
  lg : Sv 46 1 H long (gs.map fun g => #[g])
  l1 : ∀ b, blkOf long = some b → c b = 2
  li : ∀ j t, tl[j]? = some t → Sv 3 1 H t.l (ints (mkL j t)) ∧ ∀ b, blkOf t.l = some b → c b = 8 + 2 * j
  gi : ∀ j t g, tl[j]? = some t → gs[j]? = some g → Pr H t.l g (mkL j t) (List.replicate 12 (-1000 - (j : Int))) ∧ ∀ b, blkOf g = some b → c b = 8 + 2 * j
  out : ∀ b, H.size ≤ b → c b = 0
section
variable {H H' : Hp} {v0 long : Value} {tl : List Td} {gs : List Value} {c c' : Nat → Nat}
theorem lt_gs {j : Nat} {g : Value} (h : gs[j]? = some g) : j < gs.length := by
  rcases Nat.lt_or_ge j gs.length with h1 | h1
  · exact h1
  · rw [List.getElem?_eq_none h1] at h; cases h
theorem StI.step (h : StI H v0 long tl gs c) (k : Kp (fun b => c b = 8 + 2 * gs.length) H H') (cg : ∀ b, b < H.size → c' b = c b) (out : ∀ b, H'.size ≤ b → c' b = 0)
    (hi : ∀ t, tl[gs.length]? = some t → Sv 3 1 H' t.l (ints (mkL gs.length t))) : StI H' v0 long tl gs c' := by
  refine ⟨h.top.kp k fun b hb e => by have := h.t1 b hb; omega, fun b hb => by rw [cg b (h.top.lt hb)]; exact h.t1 b hb, h.lg.kp k fun b hb e => by have := h.l1 b hb; omega, fun b hb => by rw [cg b (h.lg.lt hb)]; exact h.l1 b hb, fun j t ht => ?_, fun j t g ht hg => ?_, out⟩
  · obtain ⟨h1, h2⟩ := h.li j t ht
    refine ⟨?_, fun b hb => by rw [cg b (h1.lt hb)]; exact h2 b hb⟩
    by_cases hj : j = gs.length
    · subst hj; exact hi t ht
    · exact h1.kp k fun b hb e => by have := h2 b hb; omega
  · obtain ⟨h1, h2⟩ := h.gi j t g ht hg
    obtain ⟨_, h3⟩ := h.li j t ht
    have hj := lt_gs hg
    exact ⟨h1.of (fun b hb => k.same b (h1.a.lt hb) fun e => by have := h3 b hb; omega) fun b hb => k.same b (h1.b.lt hb) fun e => by have := h2 b hb; omega, fun b hb => by rw [cg b (h1.b.lt hb)]; exact h2 b hb⟩
theorem StI.ext (h : StI H v0 long tl gs c) (e : Ext H H') : StI H' v0 long tl gs c :=
  h.step (e.kp _) (fun _ _ => rfl) (fun b hb => h.out b (Nat.le_trans e.le hb)) fun t ht => (h.li _ t ht).1.ext e
/-- One list more. -/
theorem StI.more (h : StI H v0 long tl gs c) {long' g : Value} {t : Td} (ht : tl[gs.length]? = some t) (hg : Pr H t.l g (mkL gs.length t) (List.replicate 12 (-1000 - (gs.length : Int)))) (hc : ∀ b, blkOf g = some b → c b = 8 + 2 * gs.length)
    (hl : Sv 46 1 H' long' ((gs.map fun g => #[g]) ++ [#[g]])) (k : Kp (fun b => blkOf long = some b) H H') (hn : ∀ b, blkOf long' = some b → blkOf long = some b ∨ H.size ≤ b) : ∃ c', StI H' v0 long' tl (gs ++ [g]) c' ∧ Qs H c H' c' := by
  refine ⟨fun b => if b < H.size then c b else if blkOf long' = some b then 2 else 0, ?_, fun b hb => if_pos hb, k.le, fun b hb h0 => k.same b hb fun e => by have := h.l1 b e; omega⟩
  have cg : ∀ b, b < H.size → (if b < H.size then c b else if blkOf long' = some b then 2 else 0) = c b := fun b hb => if_pos hb
  refine ⟨h.top.kp k fun b hb e => by have := h.t1 b hb; have := h.l1 b e; omega, fun b hb => by rw [cg b (h.top.lt hb)]; exact h.t1 b hb, by rw [List.map_append]; exact hl, fun b hb => ?_, fun j u hu => ?_, fun j u y hu hy => ?_, fun b hb => ?_⟩
  · split
    · rename_i h1
      exact h.l1 b ((hn b hb).resolve_right (by omega))
    · first | rfl | rw [if_pos hb]
  · obtain ⟨h1, h2⟩ := h.li j u hu
    exact ⟨h1.kp k fun b hb e => by have := h2 b hb; have := h.l1 b e; omega, fun b hb => by rw [cg b (h1.lt hb)]; exact h2 b hb⟩
  · have key : Pr H u.l y (mkL j u) (List.replicate 12 (-1000 - (j : Int))) ∧ ∀ b, blkOf y = some b → c b = 8 + 2 * j := by
      by_cases hj : j < gs.length
      · rw [List.getElem?_append_left hj] at hy
        exact h.gi j u y hu hy
      · have hj2 := lt_gs hy
        rw [List.length_append] at hj2
        have hj2 : j < gs.length + 1 := hj2
        obtain rfl : j = gs.length := by omega
        rw [List.getElem?_append_right (Nat.le_refl _), Nat.sub_self] at hy
        injection hy with hy
        subst hy
        rw [ht] at hu
        injection hu with hu
        subst hu
        exact ⟨hg, hc⟩
    obtain ⟨h1, h2⟩ := key
    obtain ⟨_, h3⟩ := h.li j u hu
    exact ⟨h1.of (fun b hb => k.same b (h1.a.lt hb) fun e => by have := h3 b hb; have := h.l1 b e; omega) fun b hb => k.same b (h1.b.lt hb) fun e => by have := h2 b hb; have := h.l1 b e; omega, fun b hb => by rw [cg b (h1.b.lt hb)]; exact h2 b hb⟩
  · have := k.le
    rw [if_neg (by omega), if_neg fun e => by have := hl.lt e; omega]
end
section
variable {H : Hp} {R : Value → Hp → Prop} {v0 v1 : Value} {tl : List Td} {c : Nat → Nat}
theorem td_lt {α : Type} {l : List α} {i : Nat} {t : α} (h : l[i]? = some t) : i < l.length := by
  rcases Nat.lt_or_ge i l.length with h1 | h1
  · exact h1
  · rw [List.getElem?_eq_none h1] at h; cases h
set_option maxHeartbeats 4000000 in
theorem still_ok (h1 : Sv 46 1 H v0 (lsC Td.l tl)) (h2 : Sv 46 1 H v1 (lsC Td.k tl)) (t1 : ∀ b, blkOf v0 = some b → c b = 1)
    (li : ∀ j t, tl[j]? = some t → Sv 3 1 H t.l (ints t.xs) ∧ (∀ b, blkOf t.l = some b → c b = 8 + 2 * j) ∧ Sv 3 1 H t.k (ints t.xs)) (out : ∀ b, H.size ≤ b → c b = 0) (hn : tl.length ≤ 2000000) (hx : ∀ t ∈ tl, t.xs.length ≤ 4096) (k : ∀ H' c', Qs H c H' c' → R (.bool true) H') :
    Fc Try.prog 25 #[v0, v1] H R := by
  refine fn25 ?_
  simp only [sh25, Any_const]
  have qI := eIntss_f
  refine LoopP.mk (fun t H' => ∃ i : Nat, t.1 = .int .i64 i ∧ i ≤ tl.length ∧ H' = H) (fun t _ => match t.1 with | .int _ i => ((tl.length : Int) - i).toNat | _ => 0) ⟨0, rfl, by omega, rfl⟩ ?_
  rintro ⟨s1, u⟩ H1 ⟨i, ht, hi, rfl⟩
  simp only at ht
  subst ht
  rw [h1.lenE undIntss]
  simp only [lsC_len, Pu_some, binE_lss, Ite_dec]
  refine ⟨fun hlt => ?_, fun _ => ?_⟩
  · have hti := List.getElem?_eq_getElem (l := tl) (i := i) (by omega)
    have hmem := List.getElem_mem (l := tl) (n := i) (by omega)
    generalize tl[i] = t at hti hmem
    obtain ⟨b, o, ha, hld⟩ := h1.cell (i := i) (j := 0) (lsC_get hti) (by decide)
    obtain ⟨b', o', ha', hld'⟩ := h2.cell (i := i) (j := 0) (lsC_get hti) (by decide)
    rw [Nat.add_zero] at hld hld'
    simp only [ha, hld, ha', hld', Pu_some, List.getElem?_toArray, List.getElem?_cons_zero]
    obtain ⟨a1, a2, a3⟩ := li i t hti
    have := hx t hmem
    refine same_ok a1 a3 (by omega) ?_
    simp only [unE_not, Pu_some, Ite_false, Bool.not_true]
    rw [binE_add, i64wrap_id (by omega) (by omega), Pu_some]
    exact ⟨⟨i + 1, rfl, by omega, trivial⟩, by show ((tl.length : Int) - (i + 1)).toNat < ((tl.length : Int) - i).toNat; omega⟩
  · skip
    -- the marks
    refine LoopP.mk (fun t H' => ∃ i : Nat, t.1 = .int .i64 i ∧ i ≤ tl.length ∧ St2 H' v0 tl c (fM i 0) ∧ H'.size = H1.size ∧ ∀ b, c b = 0 → H'[b]? = H1[b]?) (fun t _ => match t.1 with | .int _ i => ((tl.length : Int) - i).toNat | _ => 0)
      ⟨0, rfl, by omega, ⟨h1, t1, fun j t ht => ⟨by
        have : fM 0 0 j t = t.xs := by
          unfold fM
          rw [if_neg (by omega)]
          split
          · rfl
          · rfl
        rw [this]; exact (li j t ht).1, (li j t ht).2.1⟩⟩, rfl, fun _ _ => rfl⟩ ?_
    rintro ⟨s2, u⟩ H3 ⟨i, ht, hi, hs2, hsz⟩
    simp only at ht
    subst ht
    try rw [hs2.top.lenE undIntss]
    simp only [lsC_len, Pu_some, binE_lss, Ite_dec]
    refine ⟨fun hlt => ?_, fun hge => ?_⟩
    · have hti := List.getElem?_eq_getElem (l := tl) (i := i) (by omega)
      have hmem := List.getElem_mem (l := tl) (n := i) (by omega)
      generalize tl[i] = t at hti hmem
      have hxl := hx t hmem
      refine LoopP.mk (fun w H' => ∃ m : Nat, w.1 = .int .i64 m ∧ m ≤ t.xs.length ∧ St2 H' v0 tl c (fM i m) ∧ H'.size = H1.size ∧ ∀ b, c b = 0 → H'[b]? = H1[b]?) (fun w _ => match w.1 with | .int _ m => ((t.xs.length : Int) - m).toNat | _ => 0) ⟨0, rfl, by omega, hs2, hsz⟩ ?_
      rintro ⟨s4, u4⟩ H4 ⟨m, ht, hm, hs4, hsz4⟩
      simp only at ht
      subst ht
      obtain ⟨hl4, hc4⟩ := hs4.li i t hti
      have hfm : fM i m i t = List.replicate m (-2 - (i : Int)) ++ t.xs.drop m := by unfold fM; rw [if_neg (by omega), if_pos rfl]
      rw [hfm] at hl4
      obtain ⟨b, o, ha, hld⟩ := hs4.top.cell (i := i) (j := 0) (lsC_get hti) (by decide)
      rw [Nat.add_zero] at hld
      simp only [ha, hld, Pu_some, List.getElem?_toArray, List.getElem?_cons_zero]
      rw [hl4.lenE undInts, ints_len, List.length_append, List.length_replicate, List.length_drop, show m + (t.xs.length - m) = t.xs.length by omega]
      simp only [Pu_some, binE_lss, Ite_dec]
      refine ⟨fun hml => ?_, fun hmg => ?_⟩
      · rw [binE_sub, i64wrap_id (by omega) (by omega), Pu_some]
        have hel : (List.replicate m (-2 - (i : Int)) ++ t.xs.drop m)[m]? = some ((List.replicate m (-2 - (i : Int)) ++ t.xs.drop m)[m]'(by simp; omega)) := List.getElem?_eq_getElem _
        generalize ((List.replicate m (-2 - (i : Int)) ++ t.xs.drop m)[m]'_) = y at hel
        obtain ⟨b2, o2, hb2, ha2, hst⟩ := hl4.putCell (i := m) (j := 0) (ints_get hel) (by decide) (x := .int .i64 (-2 - (i : Int))) rfl rfl
        rw [ha2, Pu_some]
        refine hst _ fun H5 k5 t5 g5 => ?_
        rw [show (#[Value.int .i64 y] : Array Value).setIfInBounds 0 (.int .i64 (-2 - (i : Int))) = #[.int .i64 (-2 - (i : Int))] from rfl, ints_set, mark_set (by omega)] at g5
        rw [binE_add, i64wrap_id (by omega) (by omega), Pu_some]
        have cb2 := hc4 b2 hb2
        refine ⟨⟨m + 1, rfl, by omega, ⟨hs4.top.kp k5 fun b hb e => by have := hs4.t1 b hb; rw [e] at this; omega, hs4.t1, fun j u hu => ?_⟩, by rw [t5, hsz4.1], fun b hb => (k5.all t5 fun e => by rw [e] at hb; omega).trans (hsz4.2 b hb)⟩, by show ((t.xs.length : Int) - (m + 1)).toNat < ((t.xs.length : Int) - m).toNat; omega⟩
        obtain ⟨q1, q2⟩ := hs4.li j u hu
        refine ⟨?_, q2⟩
        by_cases hj : j = i
        · subst hj
          rw [hti] at hu
          injection hu with hu
          subst hu
          have : fM j (m + 1) j t = List.replicate (m + 1) (-2 - (j : Int)) ++ t.xs.drop (m + 1) := by unfold fM; rw [if_neg (by omega), if_pos rfl]
          rw [this]; exact g5
        · have : fM i (m + 1) j u = fM i m j u := by unfold fM; rw [if_neg hj, if_neg hj]
          rw [this]
          exact q1.kp k5 fun b hb e => by have := q2 b hb; rw [e] at this; omega
      · obtain rfl : m = t.xs.length := by omega
        rw [binE_add, i64wrap_id (by omega) (by omega), Pu_some]
        refine ⟨⟨i + 1, rfl, by omega, ⟨hs4.top, hs4.t1, fun j u hu => ?_⟩, hsz4⟩, by show ((tl.length : Int) - (i + 1)).toNat < ((tl.length : Int) - i).toNat; omega⟩
        obtain ⟨q1, q2⟩ := hs4.li j u hu
        refine ⟨?_, q2⟩
        have : fM (i + 1) 0 j u = fM i t.xs.length j u := by
          unfold fM mkL
          by_cases hj : j < i
          · rw [if_pos hj, if_pos (by omega)]
          · by_cases hj2 : j = i
            · subst hj2
              rw [hti] at hu
              injection hu with hu
              subst hu
              rw [if_pos (by omega), if_neg (by omega), if_pos rfl, List.drop_length, List.append_nil]
            · rw [if_neg (by omega), if_neg hj, if_neg hj2]
              split <;> rfl
        rw [this]; exact q1
    · obtain rfl : i = tl.length := by omega
      have hmk : ∀ j t, tl[j]? = some t → fM tl.length 0 j t = mkL j t := fun j t ht => by unfold fM; rw [if_pos (td_lt ht)]
      -- gone on with
      refine LoopP.mk (fun w H' => ∃ gs c', w.2.1 = .int .i64 (gs.length : Int) ∧ gs.length ≤ tl.length ∧ StI H' v0 w.1 tl gs c' ∧ Qs H1 c H' c') (fun w _ => match w.2.1 with | .int _ m => ((tl.length : Int) - m).toNat | _ => 0)
        ⟨[], c, rfl, by show 0 ≤ _; omega, ⟨hs2.top, hs2.t1, Sv.nil _ _ _, fun b hb => (by cases hb), fun j t ht => ⟨by rw [← hmk j t ht]; exact (hs2.li j t ht).1, (hs2.li j t ht).2⟩, fun j t g ht hg => (by simp at hg), fun b hb => out b (by omega)⟩, Cg.refl H1 c, by omega, fun b hb h0 => hsz.2 b h0⟩ ?_
      rintro ⟨long, s6, u6⟩ H6 ⟨gs, c6, ht, hgl, hI, hQ⟩
      simp only at ht
      subst ht
      simp only
      try rw [hI.top.lenE undIntss]
      simp only [lsC_len, Pu_some, binE_lss, Ite_dec]
      refine ⟨fun hlt => ?_, fun hge => ?_⟩
      · have hti := List.getElem?_eq_getElem (l := tl) (i := gs.length) (by omega)
        have hmem := List.getElem_mem (l := tl) (n := gs.length) (by omega)
        generalize tl[gs.length] = t at hti hmem
        have hxl := hx t hmem
        obtain ⟨b, o, ha, hld⟩ := hI.top.cell (i := gs.length) (j := 0) (lsC_get hti) (by decide)
        rw [Nat.add_zero] at hld
        simp only [ha, hld, Pu_some, List.getElem?_toArray, List.getElem?_cons_zero]
        refine LoopP.mk (fun w H' => ∃ (m : Nat) (c' : Nat → Nat), w.2.1 = .int .i64 m ∧ m ≤ 12 ∧ StI H' v0 long tl gs c' ∧ Pr H' t.l w.1 (mkL gs.length t) (List.replicate m (-1000 - (gs.length : Int))) ∧ (∀ b, blkOf w.1 = some b → c' b = 8 + 2 * gs.length) ∧ Qs H1 c H' c') (fun w _ => match w.2.1 with | .int _ m => ((12 : Int) - m).toNat | _ => 0)
          ⟨0, c6, rfl, by omega, hI, Pr.refl (hI.li _ t hti).1, (hI.li _ t hti).2, hQ⟩ ?_
        rintro ⟨g, s7, u7⟩ H7 ⟨m, c7, ht, hm, hI7, hp7, hc7, hQ7⟩
        simp only at ht hp7 hc7
        subst ht
        simp only [Pu_some, binE_lss, Ite_dec]
        refine ⟨fun hml => ?_, fun hmg => ?_⟩
        · rw [binE_sub, i64wrap_id (by omega) (by omega)]
          simp only [Pu_some, elInt]
          rw [newS_one (e := eInt) (by decide) (by decide) rfl, Pu_some]
          refine newS_i fun b8 H8 hb8 e8 t8 g8 => ?_
          have hI8 := hI7.ext e8
          have hp8 : Pr H8 t.l g (mkL gs.length t) (List.replicate m (-1000 - (gs.length : Int))) := hp7.of (fun b hb => e8.same b (hp7.a.lt hb)) fun b hb => e8.same b (hp7.b.lt hb)
          refine hp8.app (Sv.single g8 rfl) (by rw [mkL_len, List.length_replicate]; omega) fun g' H9 hp9 k9 n9 => ?_
          rw [binE_add, i64wrap_id (by omega) (by omega), Pu_some]
          rw [← List.replicate_succ'] at hp9
          refine ⟨⟨m + 1, fun b => if b < H8.size then c7 b else if blkOf g' = some b then 8 + 2 * gs.length else 0, rfl, by omega, ?_, hp9, fun b hb => ?_, hQ7.trans ((e8.qs c7).trans ⟨fun b hb => if_pos hb, k9.le, fun b hb h0 => k9.same b hb fun e => by have := hc7 b e; omega⟩)⟩, by show ((12 : Int) - (m + 1)).toNat < ((12 : Int) - m).toNat; omega⟩
          · refine hI8.step (k9.mono fun b _ hb => hc7 b hb) (fun b hb => if_pos hb) (fun b hb => ?_) fun u hu => ?_
            · have := k9.le
              rw [if_neg (by omega), if_neg fun e => by have := hp9.b.lt e; omega]
            · rw [hti] at hu
              injection hu with hu
              subst hu
              exact hp9.a
          · show (if b < H8.size then c7 b else if blkOf g' = some b then 8 + 2 * gs.length else 0) = _
            split
            · rename_i hb8
              exact hc7 b ((n9 b hb).resolve_right (by omega))
            · first | rfl | rw [if_pos hb]
        · obtain rfl : m = 12 := by omega
          have gone := hp7.b.one
          simp only [elIntss, Pu_some]
          rw [newS_one (by rw [qI.2.1]; decide) (by rw [qI.2.1]; decide) (by rw [gone.1, qI.2.1]; rfl), gone.1, Pu_some]
          refine newS_i fun b8 H8 hb8 e8 t8 g8 => ?_
          have hI8 := hI7.ext e8
          have hp8 : Pr H8 t.l g (mkL gs.length t) (List.replicate 12 (-1000 - (gs.length : Int))) := hp7.of (fun b hb => e8.same b (hp7.a.lt hb)) fun b hb => e8.same b (hp7.b.lt hb)
          refine app_many (us := [#[g]]) qI.1 qI.2.1 qI.2.2.1 (by rw [qI.2.2.2]; decide) hI8.lg (Sv.single g8 rfl) (fun u hu => by have := List.mem_singleton.1 hu; subst this; simp [cellsOk, gone.2]) (by rw [qI.2.2.2, List.length_map]; show (gs.length + 1) * 24 ≤ 2 ^ 47; omega) fun long' H9 hl9 k9 n9 => ?_
          rw [binE_add, i64wrap_id (by omega) (by omega), Pu_some]
          obtain ⟨c9, hI9, hQ9⟩ := hI8.more hti hp8 hc7 hl9 k9 n9
          refine ⟨⟨gs ++ [g], c9, by rw [List.length_append]; show Value.int .i64 ((gs.length : Int) + 1) = Value.int .i64 ((gs.length + 1 : Nat) : Int); congr 1, by rw [List.length_append]; show gs.length + 1 ≤ _; omega, hI9, hQ7.trans ((e8.qs c7).trans hQ9)⟩, by show ((tl.length : Int) - (gs.length + 1)).toNat < ((tl.length : Int) - gs.length).toNat; omega⟩
      · have hge : gs.length = tl.length := by omega
        refine LoopP.mk (fun w H' => ∃ i : Nat, w.1 = .int .i64 i ∧ i ≤ tl.length ∧ H' = H6) (fun w _ => match w.1 with | .int _ m => ((tl.length : Int) - m).toNat | _ => 0) ⟨0, rfl, by omega, rfl⟩ ?_
        rintro ⟨s8, u8⟩ H12 ⟨i, ht, hi, rfl⟩
        simp only at ht
        subst ht
        simp only [Pu_some, binE_lss, Ite_dec]
        refine ⟨fun hlt => ?_, fun _ => k _ _ hQ⟩
        have hti := List.getElem?_eq_getElem (l := tl) (i := i) (by omega)
        have hmem := List.getElem_mem (l := tl) (n := i) (by omega)
        generalize tl[i] = t at hti hmem
        have hgi := List.getElem?_eq_getElem (l := gs) (i := i) (by omega)
        generalize gs[i] = g at hgi
        have hxl := hx t hmem
        obtain ⟨hp, _⟩ := hI.gi i t g hti hgi
        have hgm : (gs.map fun g => (#[g] : Array Value))[i]? = some #[g] := by rw [List.getElem?_map, hgi]; rfl
        obtain ⟨b, o, ha, hld⟩ := hI.lg.cell (i := i) (j := 0) hgm (by decide)
        obtain ⟨b', o', ha', hld'⟩ := hI.top.cell (i := i) (j := 0) (lsC_get hti) (by decide)
        rw [Nat.add_zero] at hld hld'
        have hle1 := hp.a.lenE undInts
        have hle2 := hp.b.lenE undInts
        rw [ints_len, mkL_len] at hle1
        rw [ints_len, List.length_append, mkL_len, List.length_replicate] at hle2
        refine LoopP.mk (fun w H' => ∃ m : Nat, w.1 = .int .i64 m ∧ m ≤ t.xs.length + 12 ∧ H' = H12) (fun w _ => match w.1 with | .int _ m => (((t.xs.length + 12 : Nat) : Int) - m).toNat | _ => 0) ⟨0, rfl, by omega, rfl⟩ ?_
        rintro ⟨s9, u9⟩ H13 ⟨m, ht, hm, rfl⟩
        simp only at ht
        subst ht
        simp only [ha, hld, ha', hld', Pu_some, List.getElem?_toArray, List.getElem?_cons_zero, hle1, hle2, binE_lss, Ite_dec]
        refine ⟨fun hml => ?_, fun hmg => ?_⟩
        · refine Join.mk (fun w H' => w.1 = .bool false ∧ H' = H13) ?_ ?_
          · rintro ⟨w, uw⟩ H14 ⟨hw, rfl⟩
            simp only at hw
            subst hw
            simp only [Ite_false]
            rw [binE_add, i64wrap_id (by omega) (by omega), Pu_some]
            exact ⟨⟨m + 1, rfl, by omega, trivial⟩, by show (((t.xs.length + 12 : Nat) : Int) - (m + 1)).toNat < (((t.xs.length + 12 : Nat) : Int) - m).toNat; omega⟩
          · refine ⟨fun hlow => ?_, fun hhigh => ?_⟩
            · have hm1 : (mkL i t)[m]? = some (-2 - (i : Int)) := by unfold mkL; rw [List.getElem?_replicate, if_pos (by omega)]
              have hm2 : (mkL i t ++ List.replicate 12 (-1000 - (i : Int)))[m]? = some (-2 - (i : Int)) := by rw [List.getElem?_append_left (by rw [mkL_len]; omega)]; exact hm1
              obtain ⟨c1, o1, hc1, hl1⟩ := hp.a.cell (i := m) (j := 0) (ints_get hm1) (by decide)
              obtain ⟨c2, o2, hc2, hl2⟩ := hp.b.cell (i := m) (j := 0) (ints_get hm2) (by decide)
              rw [Nat.add_zero] at hl1 hl2
              rw [binE_sub, i64wrap_id (by omega) (by omega)]
              simp only [hc1, hl1, hc2, hl2, Pu_some, List.getElem?_toArray, List.getElem?_cons_zero, binE_neq, binE_geq, Ite_dec]
              exact ⟨fun h => absurd rfl h, fun _ => ⟨fun h => absurd rfl h, fun _ => ⟨fun h => absurd h (by omega), fun _ => ⟨trivial, trivial⟩⟩⟩⟩
            · have hm2 : (mkL i t ++ List.replicate 12 (-1000 - (i : Int)))[m]? = some (-1000 - (i : Int)) := by rw [List.getElem?_append_right (by rw [mkL_len]; omega), mkL_len, List.getElem?_replicate, if_pos (by omega)]
              obtain ⟨c2, o2, hc2, hl2⟩ := hp.b.cell (i := m) (j := 0) (ints_get hm2) (by decide)
              rw [Nat.add_zero] at hl2
              rw [binE_sub, i64wrap_id (by omega) (by omega)]
              simp only [hc2, hl2, Pu_some, List.getElem?_toArray, List.getElem?_cons_zero, binE_neq, binE_geq, Ite_dec]
              exact ⟨fun _ => ⟨by rw [decide_eq_false fun h => h rfl], trivial⟩, fun h => absurd h (by omega)⟩
        · rw [binE_add, i64wrap_id (by omega) (by omega), Pu_some]
          exact ⟨⟨i + 1, rfl, by omega, trivial⟩, by show ((tl.length : Int) - (i + 1)).toNat < ((tl.length : Int) - i).toNat; omega⟩
end
end Go.Vc
