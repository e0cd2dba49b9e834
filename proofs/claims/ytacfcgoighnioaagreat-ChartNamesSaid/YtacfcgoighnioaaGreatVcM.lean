/- Vc, part M: steps that name the heaps; heaps that differ in some blocks alone; slices of elements of several cells. -/
import Derived.Test.YtacfcgoighnioaaGreatVcL
set_option linter.unusedVariables false
set_option linter.unusedSimpArgs false
namespace Go.Vc

/-! ### Heaps that differ in some of the old blocks alone -/
structure Kp (S : Nat → Prop) (H H' : Hp) : Prop where
  le : H.size ≤ H'.size
  same : ∀ b, b < H.size → ¬ S b → H'[b]? = H[b]?
theorem Kp.refl (S : Nat → Prop) (H : Hp) : Kp S H H := ⟨Nat.le_refl _, fun _ _ _ => rfl⟩
theorem Ext.kp {H H' : Hp} (h : Ext H H') (S : Nat → Prop) : Kp S H H' := ⟨h.le, fun b hb _ => h.same b hb⟩
theorem Kp.mono {S S' : Nat → Prop} {H H' : Hp} (h : Kp S H H') (hs : ∀ b, b < H.size → S b → S' b) : Kp S' H H' := ⟨h.le, fun b hb hn => h.same b hb fun hS => hn (hs b hb hS)⟩
theorem Kp.trans {S : Nat → Prop} {a b c : Hp} (h : Kp S a b) (h' : Kp S b c) : Kp S a c := ⟨Nat.le_trans h.le h'.le, fun k hk hn => (h'.same k (Nat.lt_of_lt_of_le hk h.le) hn).trans (h.same k hk hn)⟩
theorem Kp.ext {S : Nat → Prop} {H H' : Hp} (h : Kp S H H') (hs : ∀ b, b < H.size → ¬ S b) : Ext H H' := ⟨h.le, fun b hb => h.same b hb (hs b hb)⟩
theorem Kp.at {S : Nat → Prop} {H H' : Hp} (h : Kp S H H') {b : Nat} {o : Obj} (hb : H[b]? = some o) (hn : ¬ S b) : H'[b]? = some o := by
  rw [h.same b (lt_of_block hb) hn]; exact hb
theorem Kp.set (H : Hp) (b : Nat) (o : Obj) : Kp (· = b) H (H.setIfInBounds b o) := ⟨by simp, fun k hk hn => get_set_other (fun e => hn e.symm)⟩
theorem Kp.tr {S T U : Nat → Prop} {a b c : Hp} (h : Kp S a b) (h' : Kp T b c) (hs : ∀ k, k < a.size → S k → U k) (ht : ∀ k, k < a.size → T k → U k) : Kp U a c :=
  ⟨Nat.le_trans h.le h'.le, fun k hk hn => (h'.same k (Nat.lt_of_lt_of_le hk h.le) fun hT => hn (ht k hk hT)).trans (h.same k hk fun hS => hn (hs k hk hS))⟩

/-! ### Steps -/
theorem box_i {T : TypeId} {v : Value} {H : Hp} {K : Value → Hp → Prop} (h : ∀ b H', H.size = b → Ext H H' → H'.size = b + 1 → H'[b]? = some (.cells v.cells T) → K (.pointer (some ⟨b, 0, none⟩)) H') : Box T v H K :=
  h _ _ rfl (Ext.push H _) (by simp) (get_push_new H _)
theorem newS_i {T : TypeId} {n : Nat} {cs : Array Value} {H : Hp} {K : Value → Hp → Prop} (h : ∀ b H', H.size = b → Ext H H' → H'.size = b + 1 → H'[b]? = some (.cells cs T) → K (.slice (some ⟨b, 0, none⟩) n n) H') : NewS T n cs H K :=
  h _ _ rfl (Ext.push H _) (by simp) (get_push_new H _)
theorem newMap_i {H : Hp} {K : Value → Hp → Prop} (h : ∀ b H', H.size = b → Ext H H' → H'.size = b + 1 → H'[b]? = some (.map #[] 0) → K (.map (some b)) H') : NewMap H K :=
  h _ _ rfl (Ext.push H _) (by simp) (get_push_new H _)
theorem store_i {b i : Nat} {c : Array Value} {T : TypeId} {v : Value} {H : Hp} {K : Hp → Prop} (hb : H[b]? = some (.cells c T)) (hi : i < c.size) (hv : v.oneCell' = true) (hc : v.cells = #[v])
    (h : ∀ H', Kp (· = b) H H' → H'.size = H.size → H'[b]? = some (.cells (c.setIfInBounds i v) T) → K H') : Pu (storeE (some 1) (.pointer (some ⟨b, i, none⟩)) v H) K := by
  rw [store_cell hb hi hv hc, Pu_some]
  exact h _ (Kp.set H b _) (by simp) (get_set_same hb)
theorem store_row {H : Hp} {b i n : Nat} {c vs : Array Value} {T : TypeId} (hb : H[b]? = some (.cells c T)) (h : i + n ≤ c.size) (h' : vs.size = n) (hv : (vs.all fun v => v.oneCell') = true) :
    storeE (some n) (.pointer (some ⟨b, i, none⟩)) (.agg vs) H = some (H.setIfInBounds b (.cells (splice c i vs) T)) := by
  subst h'
  simp [storeE, putH, hb, Value.cells, h]
  simpa using hv
theorem storeRow_i {b i n : Nat} {c vs : Array Value} {T : TypeId} {H : Hp} {K : Hp → Prop} (hb : H[b]? = some (.cells c T)) (hi : i + n ≤ c.size) (hn : vs.size = n) (hv : (vs.all fun v => v.oneCell') = true)
    (h : ∀ H', Kp (· = b) H H' → H'.size = H.size → H'[b]? = some (.cells (splice c i vs) T) → K H') : Pu (storeE (some n) (.pointer (some ⟨b, i, none⟩)) (.agg vs) H) K := by
  rw [store_row hb hi hn hv, Pu_some]
  exact h _ (Kp.set H b _) (by simp) (get_set_same hb)
theorem storeAll_i {b n : Nat} {c vs : Array Value} {T : TypeId} {H : Hp} {K : Hp → Prop} (hb : H[b]? = some (.cells c T)) (hi : c.size = n) (hn : vs.size = n) (hv : (vs.all fun v => v.oneCell') = true)
    (h : ∀ H', Kp (· = b) H H' → H'.size = H.size → H'[b]? = some (.cells vs T) → K H') : Pu (storeE (some n) (.pointer (some ⟨b, 0, none⟩)) (.agg vs) H) K := by
  rw [store_all hb hi hn hv, Pu_some]
  exact h _ (Kp.set H b _) (by simp) (get_set_same hb)

/-! ### Slices of elements of n cells -/
def cellsOk (c : Array Value) : Prop := (c.all fun v => v.oneCell') = true
structure Sv (T n : Nat) (H : Hp) (s : Value) (vs : List (Array Value)) : Prop where
  is : ∃ (base : Option Addr) (cap : Nat), s = .slice base vs.length cap ∧ vs.length ≤ cap ∧ (∀ v ∈ vs, v.size = n) ∧ (match base with
    | none => cap = 0
    | some a => a.spot = none ∧ ∃ cs, H[a.block]? = some (.cells cs T) ∧ a.off + cap * n ≤ cs.size ∧ ∀ i v, vs[i]? = some v → cs.extract (a.off + i * n) (a.off + i * n + n) = v)
section
variable {T n : Nat} {H H' : Hp} {s : Value} {vs : List (Array Value)}
theorem Sv.nil (T n : Nat) (H : Hp) : Sv T n H (.slice none 0 0) [] := ⟨none, 0, rfl, Nat.le_refl _, by simp, rfl⟩
theorem Sv.of (h : Sv T n H s vs) (hb : ∀ b, blkOf s = some b → H'[b]? = H[b]?) : Sv T n H' s vs := by
  obtain ⟨base, cap, rfl, hle, hn, h⟩ := h
  refine ⟨base, cap, rfl, hle, hn, ?_⟩
  cases base with
  | none => exact h
  | some a =>
    obtain ⟨hsp, cs, hg, h⟩ := h
    exact ⟨hsp, cs, by rw [hb a.block rfl]; exact hg, h⟩
theorem Sv.ext (h : Sv T n H s vs) (hx : Ext H H') : Sv T n H' s vs := by
  obtain ⟨base, cap, rfl, hle, hn, h⟩ := h
  refine ⟨base, cap, rfl, hle, hn, ?_⟩
  cases base with
  | none => exact h
  | some a =>
    obtain ⟨hsp, cs, hg, h⟩ := h
    exact ⟨hsp, cs, hx.at hg, h⟩
theorem Sv.lt (h : Sv T n H s vs) {b : Nat} (hb : blkOf s = some b) : b < H.size := by
  obtain ⟨base, cap, rfl, hle, hn, h⟩ := h
  cases base with
  | none => cases hb
  | some a =>
    obtain ⟨hsp, cs, hg, h⟩ := h
    injection hb with hb; subst hb
    exact lt_of_block hg
theorem Sv.kp {S : Nat → Prop} (h : Sv T n H s vs) (hk : Kp S H H') (hs : ∀ b, blkOf s = some b → ¬ S b) : Sv T n H' s vs := h.of fun b hb => hk.same b (h.lt hb) (hs b hb)
theorem Sv.len (h : Sv T n H s vs) : ∃ b c, s = .slice b vs.length c := by
  obtain ⟨base, cap, rfl, _⟩ := h; exact ⟨base, cap, rfl⟩
theorem Sv.one (h : Sv T n H s vs) : s.cells = #[s] ∧ s.oneCell' = true := by
  obtain ⟨b, c, rfl⟩ := h.len; exact ⟨rfl, rfl⟩
theorem Sv.lenE {P : Program} {S : TypeId} {e : TypeId} (h : Sv T n H s vs) (hu : P.underlying S = some (.slice e)) : lenE P S s = some (.int .i64 vs.length) := by
  obtain ⟨b, c, rfl⟩ := h.len; exact len_slice hu
/-- Where element i lies: its cells, an address for it. -/
theorem Sv.elem (h : Sv T n H s vs) {i : Nat} {v : Array Value} (hi : vs[i]? = some v) : ∃ b o cs, blkOf s = some b ∧ H[b]? = some (.cells cs T) ∧ o + n ≤ cs.size ∧ cs.extract o (o + n) = v ∧
    ∀ k, idxAddrE (some (none, n)) s (.int k i) = some (.pointer (some ⟨b, o, none⟩)) := by
  obtain ⟨base, cap, rfl, hle, hn, h⟩ := h
  have hlt : i < vs.length := by
    rcases Nat.lt_or_ge i vs.length with h1 | h1
    · exact h1
    · rw [List.getElem?_eq_none h1] at hi; cases hi
  cases base with
  | none => simp only at h; omega
  | some a =>
    obtain ⟨hsp, cs, hg, hsz, h⟩ := h
    obtain ⟨blk, off, sp⟩ := a
    simp only at hsp hg hsz h
    subst hsp
    have hm : (i + 1) * n ≤ cap * n := Nat.mul_le_mul_right n (by omega)
    rw [Nat.add_mul, Nat.one_mul] at hm
    refine ⟨blk, off + i * n, cs, rfl, hg, by omega, h i v hi, fun k => ?_⟩
    have := @idx_slc vs.length cap n blk off k i (by omega) (by omega)
    simpa using this
theorem extract_get {cs v : Array Value} {o n j : Nat} (h : cs.extract o (o + n) = v) (ho : o + n ≤ cs.size) (hj : j < n) : cs[o + j]? = v[j]? := by
  rw [← h, Array.getElem?_extract, if_pos (by omega)]
/-- A cell of an element. -/
theorem Sv.cell (h : Sv T n H s vs) {i j : Nat} {v : Array Value} (hi : vs[i]? = some v) (hj : j < n) : ∃ b o, (∀ k, idxAddrE (some (none, n)) s (.int k i) = some (.pointer (some ⟨b, o, none⟩))) ∧ loadE (some none) (.pointer (some ⟨b, o + j, none⟩)) H = v[j]? := by
  obtain ⟨b, o, cs, _, hg, hsz, hx, ha⟩ := h.elem hi
  exact ⟨b, o, ha, by rw [load_cell hg]; exact extract_get hx hsz hj⟩
/-- A whole element. -/
theorem Sv.row (h : Sv T n H s vs) {i : Nat} {v : Array Value} (hi : vs[i]? = some v) : ∃ b o, (∀ k, idxAddrE (some (none, n)) s (.int k i) = some (.pointer (some ⟨b, o, none⟩))) ∧ loadE (some (some n)) (.pointer (some ⟨b, o, none⟩)) H = some (.agg v) := by
  obtain ⟨b, o, cs, _, hg, hsz, hx, ha⟩ := h.elem hi
  exact ⟨b, o, ha, by rw [load_row hg hsz, hx]⟩
theorem Sv.size (h : Sv T n H s vs) {i : Nat} {v : Array Value} (hi : vs[i]? = some v) : v.size = n := by
  obtain ⟨base, cap, rfl, hle, hn, h⟩ := h
  exact hn v (List.mem_of_getElem? hi)

theorem extract_splice_same {c v : Array Value} {o n : Nat} (h : o + n ≤ c.size) (hv : v.size = n) : (splice c o v).extract o (o + n) = v := by
  apply Array.ext_getElem?
  intro j
  rw [Array.getElem?_extract, splice_size (by omega)]
  by_cases hj : j < n
  · rw [if_pos (by omega), splice_get (by omega), if_neg (by omega), if_pos (by omega)]
    congr 1; omega
  · rw [if_neg (by omega), Array.getElem?_eq_none (by omega)]
theorem extract_splice_other {c v : Array Value} {o n o' m : Nat} (h : o + n ≤ c.size) (hv : v.size = n) (h' : o' + m ≤ c.size) (hd : o' + m ≤ o ∨ o + n ≤ o') : (splice c o v).extract o' (o' + m) = c.extract o' (o' + m) := by
  apply Array.ext_getElem?
  intro j
  rw [Array.getElem?_extract, Array.getElem?_extract, splice_size (by omega)]
  by_cases hj : j < m
  · rw [if_pos (by omega), if_pos (by omega), splice_get (by omega)]
    by_cases h1 : o' + j < o
    · rw [if_pos h1]
    · rw [if_neg h1, if_neg (by omega)]
  · rw [if_neg (by omega), if_neg (by omega)]

/-- An element is written: the slice holds it. -/
theorem Sv.put {K : Hp → Prop} (h : Sv T n H s vs) {i : Nat} (hi : i < vs.length) {v : Array Value} (hv : v.size = n) (hc : cellsOk v) : ∃ b o, blkOf s = some b ∧ (∀ k, idxAddrE (some (none, n)) s (.int k i) = some (.pointer (some ⟨b, o, none⟩))) ∧
    ((∀ H', Kp (· = b) H H' → H'.size = H.size → Sv T n H' s (vs.set i v) → K H') → Pu (storeE (some n) (.pointer (some ⟨b, o, none⟩)) (.agg v) H) K) := by
  have h0 := h
  obtain ⟨base, cap, rfl, hle, hn, h⟩ := h
  cases base with
  | none => simp only at h; omega
  | some a =>
    obtain ⟨hsp, cs, hg, hsz, h⟩ := h
    obtain ⟨blk, off, sp⟩ := a
    simp only at hsp hg hsz h
    subst hsp
    have hm : (i + 1) * n ≤ cap * n := Nat.mul_le_mul_right n (by omega)
    rw [Nat.add_mul, Nat.one_mul] at hm
    refine ⟨blk, off + i * n, rfl, fun k => ?_, fun hK => ?_⟩
    · have := @idx_slc vs.length cap n blk off k i (by omega) (by omega)
      simpa using this
    · refine storeRow_i hg (by omega) hv hc fun H' hk hs hg' => hK H' hk hs ?_
      refine ⟨some ⟨blk, off, none⟩, cap, by simp, by simpa using hle, fun x hx => ?_, rfl, _, hg', by rw [splice_size (by omega)]; exact hsz, fun j x hj => ?_⟩
      · rcases List.mem_or_eq_of_mem_set hx with h1 | h1
        · exact hn x h1
        · rw [h1]; exact hv
      · rw [List.getElem?_set] at hj
        by_cases hij : i = j
        · subst hij
          rw [if_pos rfl, if_pos hi] at hj
          injection hj with hj; subst hj
          exact extract_splice_same (by omega) hv
        · rw [if_neg hij] at hj
          have hjl : j < vs.length := by
            rcases Nat.lt_or_ge j vs.length with h1 | h1
            · exact h1
            · rw [List.getElem?_eq_none h1] at hj; cases hj
          have hm2 : (j + 1) * n ≤ cap * n := Nat.mul_le_mul_right n (by omega)
          rw [Nat.add_mul, Nat.one_mul] at hm2
          have hd : off + j * n + n ≤ off + i * n ∨ off + i * n + n ≤ off + j * n := by
            rcases Nat.lt_or_gt_of_ne hij with h1 | h1
            · have := Nat.mul_le_mul_right n (show i + 1 ≤ j from h1); rw [Nat.add_mul, Nat.one_mul] at this; omega
            · have := Nat.mul_le_mul_right n (show j + 1 ≤ i from h1); rw [Nat.add_mul, Nat.one_mul] at this; omega
          show (splice cs (off + i * n) v).extract (off + j * n) (off + j * n + n) = x
          rw [extract_splice_other (by omega) hv (by omega) hd]
          exact h j x hj

theorem Sv.cellsS (h : Sv T n H s vs) : cellsS n s H = some (vs.flatMap (·.toList)).toArray := by
  obtain ⟨base, cap, rfl, hle, hn, h⟩ := h
  have hfl : ∀ (vs : List (Array Value)), (∀ v ∈ vs, v.size = n) → (vs.flatMap (·.toList)).length = vs.length * n := by
    intro vs hn
    induction vs with
    | nil => simp
    | cons v vs ih =>
      rw [List.flatMap_cons, List.length_append, ih (fun w hw => hn w (List.mem_cons_of_mem _ hw)), List.length_cons, Nat.add_mul, Nat.one_mul, Array.length_toList, hn v List.mem_cons_self]; omega
  cases base with
  | none =>
    simp only at h
    have : vs = [] := List.eq_nil_of_length_eq_zero (by omega)
    subst this; rfl
  | some a =>
    obtain ⟨hsp, cs, hg, hsz, h⟩ := h
    obtain ⟨blk, off, sp⟩ := a
    simp only at hsp hg hsz h
    subst hsp
    have hm : vs.length * n ≤ cap * n := Nat.mul_le_mul_right n hle
    have : rowH H ⟨blk, off, none⟩ (vs.length * n) = some (cs.extract off (off + vs.length * n)) := by
      unfold rowH; simp only [hg]; rw [if_pos ⟨trivial, by omega⟩]
    show rowH H ⟨blk, off, none⟩ (vs.length * n) = _
    rw [this]
    congr 1
    apply Array.ext'
    have key : ∀ (us : List (Array Value)) (o : Nat), (∀ v ∈ us, v.size = n) → (∀ i v, us[i]? = some v → cs.extract (o + i * n) (o + i * n + n) = v) → o + us.length * n ≤ cs.size →
        (cs.extract o (o + us.length * n)).toList = us.flatMap (·.toList) := by
      intro us
      induction us with
      | nil => intro o _ _ _; simp
      | cons u us ih =>
        intro o hn h hs
        rw [List.length_cons, Nat.add_mul, Nat.one_mul] at hs ⊢
        have h1 := ih (o + n) (fun v hv => hn v (List.mem_cons_of_mem _ hv)) (fun i v hi => by
          have := h (i + 1) v (by simpa using hi)
          rw [Nat.add_mul, Nat.one_mul] at this
          rw [show o + n + i * n = o + (i * n + n) by omega]; exact this) (by omega)
        have h2 := h 0 u rfl
        rw [Nat.zero_mul, Nat.add_zero] at h2
        rw [List.flatMap_cons, ← h1, ← h2, show o + (us.length * n + n) = o + n + us.length * n by omega]
        rw [← Array.toList_append]
        congr 1
        apply Array.ext_getElem?
        intro j
        rw [Array.getElem?_append, Array.size_extract]
        simp only [Array.getElem?_extract]
        by_cases hj : j < n
        · rw [if_pos (by omega), if_pos (by omega), if_pos (by omega)]
        · rw [if_neg (show ¬ j < min (o + n) cs.size - o by omega)]
          by_cases hj2 : j < n + us.length * n
          · rw [if_pos (by omega), if_pos (by omega)]; congr 1; omega
          · rw [if_neg (by omega), if_neg (by omega)]
    exact key vs off hn (fun i v hi => h i v hi) (by omega)
end
end Go.Vc
