/- Vc, part N: slices of elements of several cells: append, slices of slices, make, copy. -/
import Derived.Test.YtacfcgoighnioaaGreatVcM
set_option linter.unusedVariables false
set_option linter.unusedSimpArgs false
namespace Go.Vc

/-- The cells of elements, one behind the other. -/
def flatC (vs : List (Array Value)) : Array Value := (vs.flatMap (·.toList)).toArray
section
variable {T n : Nat} {H H' : Hp} {s : Value} {vs us : List (Array Value)}
theorem flatC_size (hn : ∀ v ∈ vs, v.size = n) : (flatC vs).size = vs.length * n := by
  unfold flatC
  simp only [List.size_toArray]
  induction vs with
  | nil => simp
  | cons v vs ih =>
    rw [List.flatMap_cons, List.length_append, ih (fun w hw => hn w (List.mem_cons_of_mem _ hw)), List.length_cons, Nat.add_mul, Nat.one_mul, Array.length_toList, hn v List.mem_cons_self]; omega
theorem flatC_append : flatC (vs ++ us) = flatC vs ++ flatC us := by
  unfold flatC; rw [List.flatMap_append]; simp
theorem flatC_get : ∀ {vs : List (Array Value)} {i j : Nat} {v : Array Value}, (∀ v ∈ vs, v.size = n) → vs[i]? = some v → j < n → (flatC vs)[i * n + j]? = v[j]?
  | [], i, j, v, _, h, _ => by simp at h
  | u :: vs, 0, j, v, hn, h, hj => by
    simp only [List.getElem?_cons_zero, Option.some.injEq] at h
    subst h
    have hu := hn u List.mem_cons_self
    have : flatC (u :: vs) = u ++ flatC vs := by unfold flatC; rw [List.flatMap_cons]; simp
    rw [this, Nat.zero_mul, Nat.zero_add, Array.getElem?_append_left (by omega)]
  | u :: vs, i + 1, j, v, hn, h, hj => by
    have hu := hn u List.mem_cons_self
    have : flatC (u :: vs) = u ++ flatC vs := by unfold flatC; rw [List.flatMap_cons]; simp
    rw [this, Array.getElem?_append_right (by rw [hu, Nat.add_mul, Nat.one_mul]; omega), hu, Nat.add_mul, Nat.one_mul]
    rw [show i * n + n + j - n = i * n + j by omega]
    exact flatC_get (fun w hw => hn w (List.mem_cons_of_mem _ hw)) (by simpa using h) hj
theorem flatC_ok (h : ∀ v ∈ vs, cellsOk v) : cellsOk (flatC vs) := by
  unfold cellsOk flatC
  rw [List.all_toArray, List.all_eq_true]
  intro x hx
  rw [List.mem_flatMap] at hx
  obtain ⟨v, hv, hx⟩ := hx
  have := h v hv
  unfold cellsOk at this
  rw [← Array.all_toList, List.all_eq_true] at this
  exact this x hx
theorem ext_of_get {A v : Array Value} {o : Nat} (hv : v.size = n) (ho : o + n ≤ A.size) (h : ∀ j, j < n → A[o + j]? = v[j]?) : A.extract o (o + n) = v := by
  apply Array.ext_getElem?
  intro j
  rw [Array.getElem?_extract]
  by_cases hj : j < n
  · rw [if_pos (by omega), h j hj]
  · rw [if_neg (by omega), Array.getElem?_eq_none (by omega)]
theorem Sv.cellsS' (h : Sv T n H s vs) : Vc.cellsS n s H = some (flatC vs) := h.cellsS

theorem app_many {e : ElemI} (hT : e.type = T) (hs : e.size = n) (hz : e.zero.size = n) (hby : 0 < e.bytes) {x : Value} {T' : Nat} (h : Sv T n H s vs) (hx : Sv T' n H x us) (hok : ∀ u ∈ us, cellsOk u)
    (hlim : (vs.length + us.length) * e.bytes ≤ 2 ^ 47) {K : Value → Hp → Prop}
    (hk : ∀ s' H', Sv T n H' s' (vs ++ us) → Kp (fun b => blkOf s = some b) H H' → (∀ b, blkOf s' = some b → blkOf s = some b ∨ H.size ≤ b) → K s' H') :
    AppS (some e) s x H K := by
  have hcx := hx.cellsS'
  have hcs := h.cellsS'
  have hlx : lenS x = us.length := by obtain ⟨_, _, rfl⟩ := hx.len; rfl
  have hnu : ∀ u ∈ us, u.size = n := by obtain ⟨_, _, _, _, h1, _⟩ := hx.is; exact h1
  obtain ⟨base, cap, rfl, hle, hn, hb⟩ := h
  have hnn : ∀ v ∈ vs ++ us, v.size = n := fun v hv => by
    rcases List.mem_append.1 hv with h1 | h1
    · exact hn v h1
    · exact hnu v h1
  have hfu := flatC_size hnu
  have hfv := flatC_size hn
  unfold AppS
  rw [Pu_some, hs, hcx, Pu_some, hlx]
  unfold App
  simp only
  by_cases hc : vs.length + us.length ≤ cap
  · rw [if_pos hc]
    cases base with
    | none =>
      simp only at hb
      have e1 : vs = [] := List.eq_nil_of_length_eq_zero (by omega)
      have e2 : us = [] := List.eq_nil_of_length_eq_zero (by omega)
      subst e1 e2 hb
      exact ⟨rfl, hk _ _ (Sv.nil T n H) (Kp.refl _ _) (fun b hb => .inl hb)⟩
    | some a =>
      obtain ⟨hsp, cs, hg, hsz, hvals⟩ := hb
      obtain ⟨blk, off, sp⟩ := a
      simp only at hsp hg hsz hvals
      subst hsp
      have hm : (vs.length + us.length) * n ≤ cap * n := Nat.mul_le_mul_right n hc
      rw [Nat.add_mul] at hm
      have hput : putH H ((⟨blk, off, none⟩ : Addr).add (vs.length * e.size)) (flatC us) = some (H.setIfInBounds blk (.cells (splice cs (off + vs.length * n) (flatC us)) T)) := by
        rw [Addr.add_mk, hs]
        unfold putH
        have hall : (flatC us).all (fun v => v.oneCell') = true := flatC_ok hok
        simp only [hg, hall, and_true, true_and]
        rw [if_pos (by omega)]
      simp only [hput, Pu_some]
      refine hk _ _ ⟨some ⟨blk, off, none⟩, cap, by simp, by simpa using hc, hnn, rfl, _, get_set_same hg, by rw [splice_size (by omega)]; exact hsz, fun i v hi => ?_⟩ (Kp.mono (Kp.set H blk _) fun b _ e => by rw [e]; rfl) (fun b hb => .inl hb)
      have hil : i < vs.length + us.length := by
        rcases Nat.lt_or_ge i (vs ++ us).length with h1 | h1
        · simpa using h1
        · rw [List.getElem?_eq_none h1] at hi; cases hi
      by_cases h1 : i < vs.length
      · rw [List.getElem?_append_left h1] at hi
        have hm2 := Nat.mul_le_mul_right n (show i + 1 ≤ vs.length from h1)
        rw [Nat.add_mul, Nat.one_mul] at hm2
        show (splice cs (off + vs.length * n) (flatC us)).extract (off + i * n) (off + i * n + n) = v
        rw [extract_splice_other (n := us.length * n) (by omega) hfu (by omega) (by omega)]
        exact hvals i v hi
      · have hi2 := hi
        rw [List.getElem?_append_right (by omega)] at hi
        have hm2 := Nat.mul_le_mul_right n (show i - vs.length + 1 ≤ us.length by omega)
        rw [Nat.add_mul, Nat.one_mul] at hm2
        have e3 : i * n = vs.length * n + (i - vs.length) * n := by rw [← Nat.add_mul]; congr 1; omega
        refine ext_of_get (hnn v (List.mem_of_getElem? hi2)) (by rw [splice_size (by omega)]; simp only; omega) fun j hj => ?_
        rw [splice_get (by omega)]
        simp only
        rw [if_neg (by omega), if_pos (by omega), show off + i * n + j - (off + vs.length * n) = (i - vs.length) * n + j by omega]
        exact flatC_get hnu hi hj
  · rw [if_neg hc]
    refine ⟨hby, hlim, ?_⟩
    rw [hs, hcs, Pu_some]
    intro cap' hcap
    have hsz2 : (flatC vs ++ flatC us ++ Builtin.zeroCells e.zero (cap' - (vs.length + us.length))).size = cap' * n := by
      simp only [Array.size_append, hfv, hfu, Builtin.zeroCells, Array.size_map, Array.size_range, hz]
      rw [← Nat.add_mul, ← Nat.add_mul]; congr 1; omega
    refine hk _ _ ⟨some ⟨H.size, 0, none⟩, cap', by simp, by simpa using hcap, hnn, rfl, flatC vs ++ flatC us ++ Builtin.zeroCells e.zero (cap' - (vs.length + us.length)), ?_, ?_, fun i v hi => ?_⟩ ((Ext.push H _).kp _) (fun b hb => .inr ?_)
    · rw [hT]; exact get_push_new H _
    · rw [hsz2]; simp
    · have hil : i < vs.length + us.length := by
        rcases Nat.lt_or_ge i (vs ++ us).length with h1 | h1
        · simpa using h1
        · rw [List.getElem?_eq_none h1] at hi; cases hi
      have hm2 := Nat.mul_le_mul_right n (show i + 1 ≤ cap' by omega)
      have hm3 := Nat.mul_le_mul_right n (show i + 1 ≤ vs.length + us.length by omega)
      rw [Nat.add_mul, Nat.one_mul] at hm2
      rw [Nat.add_mul, Nat.add_mul, Nat.one_mul] at hm3
      refine ext_of_get (hnn v (List.mem_of_getElem? hi)) (by rw [hsz2]; simp only; omega) fun j hj => ?_
      rw [← flatC_append]
      have hsv : (flatC (vs ++ us)).size = (vs.length + us.length) * n := by rw [flatC_size hnn, List.length_append]
      simp only [Nat.zero_add]
      rw [Array.getElem?_append_left (by rw [hsv, Nat.add_mul]; omega)]
      exact flatC_get hnn hi hj
    · have : H.size = b := by simpa [blkOf] using hb
      omega

theorem Sv.single {b : Nat} {v : Array Value} (hb : H[b]? = some (.cells v T)) (hv : v.size = n) : Sv T n H (.slice (some ⟨b, 0, none⟩) 1 1) [v] :=
  ⟨some ⟨b, 0, none⟩, 1, rfl, Nat.le_refl _, by simpa using hv, rfl, v, hb, by simp [hv], fun i x hi => by
    cases i with
    | zero => simp only [List.getElem?_cons_zero, Option.some.injEq] at hi; subst hi; simp [← hv]
    | succ i => simp at hi⟩

/-- A slice of a slice. -/
theorem Sv.slice {P : Program} {S e : TypeId} {i : TypeInfo} (h : Sv T n H s vs) (hu : P.underlying S = some (.slice e)) (hi : P.info? e = some i) (hz : i.size = n) {lo hi' : Nat} (h1 : lo ≤ hi') (h2 : hi' ≤ vs.length)
    (a b : Option Value) (ha : a = some (.int .i64 lo) ∨ a = none ∧ lo = 0) (hb : b = some (.int .i64 hi') ∨ b = none ∧ hi' = vs.length) :
    ∃ s', sliceE P S s a b none = some s' ∧ Sv T n H s' ((vs.take hi').drop lo) ∧ ∀ k, blkOf s' = some k → blkOf s = some k := by
  obtain ⟨base, cap, rfl, hle, hn, h⟩ := h
  have hlo : boundE a 0 hi' = some lo := by
    rcases ha with rfl | ⟨rfl, rfl⟩
    · have : (0 : Int) ≤ lo ∧ (lo : Int) ≤ hi' := by omega
      simp [boundE, this]
    · rfl
  have hhi : boundE b vs.length cap = some hi' := by
    rcases hb with rfl | ⟨rfl, rfl⟩
    · have : (0 : Int) ≤ hi' ∧ (hi' : Int) ≤ cap := by omega
      simp [boundE, this]
    · rfl
  have hlen : ((vs.take hi').drop lo).length = hi' - lo := by simp; omega
  have hmem : ∀ v ∈ (vs.take hi').drop lo, v.size = n := fun v hv => hn v (List.mem_of_mem_take (List.mem_of_mem_drop hv))
  refine ⟨.slice (if cap = lo then base else base.map (·.add (lo * n))) (hi' - lo) (cap - lo), ?_, ?_, ?_⟩
  · unfold sliceE
    rw [hu]
    show ((some cap).bind fun m => (hiE none b vs.length m).bind fun h => (boundE a 0 h).bind fun l => (P.info? e).map fun i => _) = _
    rw [Option.bind_some]
    show ((boundE b vs.length cap).bind fun h => (boundE a 0 h).bind fun l => (P.info? e).map fun i => _) = _
    rw [hhi, Option.bind_some, hlo, Option.bind_some, hi, Option.map_some, hz]
  · by_cases hc : cap = lo
    · rw [if_pos hc]
      refine ⟨base, cap - lo, by rw [hlen], by rw [hlen]; omega, hmem, ?_⟩
      cases base with
      | none => simp only at h ⊢; omega
      | some x =>
        obtain ⟨hsp, cs, hg, hsz, hv⟩ := h
        refine ⟨hsp, cs, hg, ?_, fun j v hj => ?_⟩
        · rw [show cap - lo = 0 by omega]; have : 0 ≤ cap * n := Nat.zero_le _; omega
        · have : ((vs.take hi').drop lo) = [] := List.eq_nil_of_length_eq_zero (by omega)
          rw [this] at hj; simp at hj
    · rw [if_neg hc]
      cases base with
      | none => simp only at h; omega
      | some x =>
        obtain ⟨hsp, cs, hg, hsz, hv⟩ := h
        obtain ⟨blk, off, sp⟩ := x
        simp only at hsp hg hsz hv
        subst hsp
        refine ⟨some ⟨blk, off + lo * n, none⟩, cap - lo, by rw [hlen]; simp [Addr.add_mk], by rw [hlen]; omega, hmem, rfl, cs, hg, ?_, fun j v hj => ?_⟩
        · have e1 : cap * n = lo * n + (cap - lo) * n := by rw [← Nat.add_mul]; congr 1; omega
          simp only; omega
        · have hj2 : vs[lo + j]? = some v := by
            rw [List.getElem?_drop] at hj
            rw [List.getElem?_take] at hj
            split at hj
            · exact hj
            · cases hj
          have := hv _ v hj2
          rw [Nat.add_mul] at this
          simp only
          rw [show off + lo * n + j * n = off + (lo * n + j * n) by omega]; exact this
  · intro k hk
    split at hk
    · cases base with
      | none => simp [blkOf] at hk
      | some x => exact hk
    · cases base with
      | none => simp [blkOf] at hk
      | some x =>
        simp only [Option.map_some, blkOf, Addr.add_block] at hk ⊢
        exact hk

/-- make of a slice. -/
theorem make_i {P : Program} {e : ElemI} {l : Nat} {k k' : IntKind} {K : Value × Hp → Prop} (hT : e.type = T) (hs : e.size = n) (hz : e.zero.size = n) (hl : l ≤ 2 ^ 48) (hby : e.bytes * l ≤ 2 ^ 47) (hn : l = 0 ∨ n ≠ 0)
    (h : ∀ b H', H.size = b → Ext H H' → H'.size = b + 1 → Sv T n H' (.slice (some ⟨b, 0, none⟩) l l) (List.replicate l e.zero) → K (.slice (some ⟨b, 0, none⟩) l l, H')) :
    Pu (makeE (some e) (.int k l) (.int k' l) H) K := by
  have hc : (0 : Int) ≤ l ∧ (l : Int) ≤ l ∧ (l : Int) ≤ 2 ^ 48 ∧ (e.bytes : Int) * l ≤ 2 ^ 47 ∧ ((l : Int) = 0 ∨ e.size ≠ 0) := by
    refine ⟨by omega, by omega, by omega, ?_, by rw [hs]; omega⟩
    have : ((e.bytes * l : Nat) : Int) ≤ 2 ^ 47 := by omega
    simpa using this
  have he : makeE (some e) (.int k l) (.int k' l) H = some (.slice (some ⟨H.size, 0, none⟩) l l, H.push (.cells ((Array.range (l * e.size)).map (e.zero[· % e.zero.size]!)) e.type)) := by
    unfold makeE; simp only [hc, and_self, if_true, Int.toNat_natCast]
  rw [he, Pu_some]
  refine h _ _ rfl (Ext.push H _) (by simp) ⟨some ⟨H.size, 0, none⟩, l, by simp, by simp, fun v hv => ?_, rfl, _, by rw [← hT]; exact get_push_new H _, by simp [hs], fun i v hi => ?_⟩
  · rw [List.mem_replicate] at hv; rw [hv.2, hz]
  · rw [List.getElem?_replicate] at hi
    split at hi
    · rename_i hil
      injection hi with hi; subst hi
      have hm2 := Nat.mul_le_mul_right n (show i + 1 ≤ l from hil)
      rw [Nat.add_mul, Nat.one_mul] at hm2
      refine ext_of_get hz (by simp [hs]; omega) fun j hj => ?_
      simp only [Nat.zero_add]
      rw [Array.getElem?_map, Array.getElem?_range, hs, if_pos (by omega), Option.map_some, hz]
      rw [Nat.add_comm, Nat.add_mul_mod_self_right, Nat.mod_eq_of_lt hj]
      rw [getElem!_pos e.zero j (by omega), Array.getElem?_eq_getElem (by omega)]
    · cases hi
end
end Go.Vc
