/- Vc, part L: blocks of 1024 bytes as cells; equality of arrays of numbers; slices of one-cell elements, and what an append leaves. -/
import Derived.Test.YtacfcgoighnioaaGreatVcJ
set_option linter.unusedVariables false
set_option linter.unusedSimpArgs false
namespace Go.Vc

/-- A block's cells. -/
structure IsB (c : Array Value) : Prop where
  size : c.size = 1024
  cell : ∀ i, i < 1024 → ∃ n : Nat, n < 256 ∧ c[i]? = some (.int .u8 n)
def byt (c : Array Value) (i : Nat) : Nat := match c[i]? with | some (.int _ n) => n.toNat | _ => 0
theorem IsB.get {c : Array Value} (h : IsB c) {i : Nat} (hi : i < 1024) : c[i]? = some (.int .u8 (byt c i)) := by
  obtain ⟨n, _, hn⟩ := h.cell i hi
  simp [byt, hn]
theorem IsB.lt {c : Array Value} (h : IsB c) (i : Nat) : byt c i < 256 := by
  by_cases hi : i < 1024
  · obtain ⟨n, h1, hn⟩ := h.cell i hi
    simpa [byt, hn] using h1
  · have : c[i]? = none := Array.getElem?_eq_none (by rw [h.size]; omega)
    simp [byt, this]
/-- The block with byte k turned. -/
theorem IsB.set {c : Array Value} (h : IsB c) (k : Nat) {m : Nat} (hm : m < 256) : IsB (c.setIfInBounds k (.int .u8 m)) := by
  refine ⟨by simp [h.size], fun i hi => ?_⟩
  rw [Array.getElem?_setIfInBounds]
  by_cases hk : k = i
  · subst hk; exact ⟨m, hm, by simp [h.size, hi]⟩
  · rw [if_neg hk]; exact h.cell i hi
theorem byt_set {c : Array Value} (h : IsB c) {k : Nat} (hk : k < 1024) (m i : Nat) : byt (c.setIfInBounds k (.int .u8 m)) i = if k = i then m else byt c i := by
  unfold byt
  rw [Array.getElem?_setIfInBounds]
  by_cases hki : k = i
  · subst hki; simp [h.size, hk]
  · simp [hki]
theorem IsB.ext {a b : Array Value} (ha : IsB a) (hb : IsB b) (h : ∀ i, i < 1024 → byt a i = byt b i) : a = b := by
  apply Array.ext_getElem?
  intro i
  by_cases hi : i < 1024
  · rw [ha.get hi, hb.get hi, h i hi]
  · rw [Array.getElem?_eq_none (by rw [ha.size]; omega), Array.getElem?_eq_none (by rw [hb.size]; omega)]
theorem isB_zero : IsB (Array.replicate 1024 (.int .u8 0)) := ⟨by simp, fun i hi => ⟨0, by omega, by simp [Array.getElem?_replicate, hi]⟩⟩
theorem IsB.all {c : Array Value} (h : IsB c) : (c.all fun v => v.oneCell') = true := by
  rw [Array.all_eq_true]
  intro i hi
  have h1 := h.get (i := i) (by rw [← h.size]; exact hi)
  rw [Array.getElem?_eq_getElem hi] at h1
  injection h1 with h1
  rw [h1]; rfl


/-! ### Equality of arrays of numbers -/
theorem eqAll_dec {α : Type} {f : α → Option Bool} {g : α → Prop} [DecidablePred g] : ∀ {l : List α}, (∀ a ∈ l, f a = some (decide (g a))) → eqAll f l = some (decide (∀ a ∈ l, g a))
  | [], _ => by simp [eqAll]
  | a :: l, h => by
    unfold eqAll
    rw [h a List.mem_cons_self]
    by_cases hg : g a
    · simp only [hg, decide_true]
      rw [eqAll_dec (fun b hb => h b (List.mem_cons_of_mem _ hb))]
      simp [hg]
    · simp [hg]

/-- The type of a row of numbers, as the program has it. -/
structure IntRow (P : Program) (T : TypeId) (n : Nat) (k : IntKind) : Prop where
  row : ∃ e, P.underlying T = some (.array n e) ∧ P.underlying e = some (.int k) ∧ P.cellsOf e = 1 ∧ (P.info? e).isSome = true
  guard : P.eqGuardType P.depth T = false

open Classical in
theorem eqT_row {P : Program} {T : TypeId} {n : Nat} {k : IntKind} (hr : IntRow P T n k) {a b : Array Value} (ha : ∀ i, i < n → ∃ x, a[i]? = some (.int k x)) (hb : ∀ i, i < n → ∃ x, b[i]? = some (.int k x)) (d : Nat) :
    eqT P (d + 2) T (.agg a) (.agg b) = some (decide (∀ i, i ∈ List.range n → a[i]? = b[i]?)) := by
  obtain ⟨e, hu, he, hc, hi⟩ := hr.row
  have hl : ldK P e = some none := by unfold ldK; rw [he]
  unfold eqT
  rw [hu]
  simp only
  cases hinf : P.info? e with
  | none => rw [hinf] at hi; cases hi
  | some inf =>
    simp only [Option.bind_some, hl, hc, Nat.mul_one, partE]
    apply eqAll_dec
    intro i hi
    obtain ⟨x, hx⟩ := ha i (List.mem_range.1 hi)
    obtain ⟨y, hy⟩ := hb i (List.mem_range.1 hi)
    rw [hx, hy]
    simp only [Option.bind_some]
    unfold eqT
    rw [he]
    simp only [if_true, Option.some.injEq, Value.int.injEq, true_and]
    rw [Bool.eq_iff_iff]; simp

open Classical in
theorem eqX_row {P : Program} {T : TypeId} {n : Nat} {k : IntKind} (hr : IntRow P T n k) {a b : Array Value} (hsa : a.size = n) (hsb : b.size = n) (ha : ∀ i, i < n → ∃ x, a[i]? = some (.int k x)) (hb : ∀ i, i < n → ∃ x, b[i]? = some (.int k x)) {lit : Bool} {H : Hp} :
    eqE P T lit (.agg a) (.agg b) H = some (decide (a = b)) := by
  have h := eqT_row hr ha hb 9998
  obtain ⟨e, hu, _⟩ := hr.row
  unfold eqE eqD
  rw [hu]
  simp only [hr.guard, Bool.false_eq_true, if_false]
  rw [h, Option.some.injEq, Bool.eq_iff_iff, decide_eq_true_iff, decide_eq_true_iff]
  constructor
  · intro h
    apply Array.ext_getElem?
    intro i
    by_cases hi : i < n
    · exact h i (List.mem_range.2 hi)
    · rw [Array.getElem?_eq_none (by omega), Array.getElem?_eq_none (by omega)]
  · rintro rfl _ _; rfl
open Classical in
theorem eqB {P : Program} {T : TypeId} (hr : IntRow P T 1024 .u8) {a b : Array Value} (ha : IsB a) (hb : IsB b) {lit : Bool} {H : Hp} : eqE P T lit (.agg a) (.agg b) H = some (decide (a = b)) :=
  eqX_row hr ha.size hb.size (fun i hi => ⟨_, ha.get hi⟩) (fun i hi => ⟨_, hb.get hi⟩)
theorem eqB_true {P : Program} {T : TypeId} (hr : IntRow P T 1024 .u8) {a : Array Value} (ha : IsB a) {lit : Bool} {H : Hp} : eqE P T lit (.agg a) (.agg a) H = some true := by
  rw [eqB hr ha ha]; simp
theorem eqB_false {P : Program} {T : TypeId} (hr : IntRow P T 1024 .u8) {a b : Array Value} (ha : IsB a) (hb : IsB b) (hne : a ≠ b) {lit : Bool} {H : Hp} : eqE P T lit (.agg a) (.agg b) H = some false := by
  rw [eqB hr ha hb]; simp [hne]
theorem eqXE_eql {P : Program} {T : TypeId} {lit : Bool} {x y : Value} {H : Hp} : eqXE P T lit .eql x y H = (eqE P T lit x y H).map .bool := rfl
theorem eqXE_neq {P : Program} {T : TypeId} {lit : Bool} {x y : Value} {H : Hp} : eqXE P T lit .neq x y H = (eqE P T lit x y H).map fun b => .bool (!b) := rfl

/-! ### Slices of elements of one cell -/
def blkOf : Value → Option Nat
  | .slice (some a) _ _ => some a.block
  | _ => none
/-- A slice that holds these values. -/
structure Sl (T : TypeId) (H : Hp) (s : Value) (vs : List Value) : Prop where
  is : ∃ (base : Option Addr) (cap : Nat), s = .slice base vs.length cap ∧ vs.length ≤ cap ∧ (match base with
    | none => cap = 0
    | some a => a.spot = none ∧ ∃ cs, H[a.block]? = some (.cells cs T) ∧ a.off + cap ≤ cs.size ∧ ∀ i, i < vs.length → cs[a.off + i]? = vs[i]?)
theorem Sl.nil (T : TypeId) (H : Hp) : Sl T H (.slice none 0 0) [] := ⟨none, 0, rfl, Nat.le_refl _, rfl⟩
theorem Sl.of {T : TypeId} {H H' : Hp} {s : Value} {vs : List Value} (h : Sl T H s vs) (hb : ∀ b, blkOf s = some b → H'[b]? = H[b]?) : Sl T H' s vs := by
  obtain ⟨base, cap, rfl, hle, h⟩ := h
  refine ⟨base, cap, rfl, hle, ?_⟩
  cases base with
  | none => exact h
  | some a =>
    obtain ⟨hsp, cs, hg, h⟩ := h
    exact ⟨hsp, cs, by rw [hb a.block rfl]; exact hg, h⟩
theorem Sl.ext {T : TypeId} {H H' : Hp} {s : Value} {vs : List Value} (h : Sl T H s vs) (hx : Ext H H') : Sl T H' s vs := by
  obtain ⟨base, cap, rfl, hle, h⟩ := h
  refine ⟨base, cap, rfl, hle, ?_⟩
  cases base with
  | none => exact h
  | some a =>
    obtain ⟨hsp, cs, hg, h⟩ := h
    exact ⟨hsp, cs, hx.at hg, h⟩
theorem Sl.lt {T : TypeId} {H : Hp} {s : Value} {vs : List Value} (h : Sl T H s vs) {b : Nat} (hb : blkOf s = some b) : b < H.size := by
  obtain ⟨base, cap, rfl, hle, h⟩ := h
  cases base with
  | none => cases hb
  | some a =>
    obtain ⟨hsp, cs, hg, h⟩ := h
    injection hb with hb; subst hb
    exact lt_of_block hg
theorem Sl.load {T : TypeId} {H : Hp} {s : Value} {vs : List Value} (h : Sl T H s vs) {k : IntKind} {i : Nat} (hi : i < vs.length) :
    ∃ a, idxAddrE (some (none, 1)) s (.int k i) = some (.pointer (some a)) ∧ loadE (some none) (.pointer (some a)) H = vs[i]? := by
  obtain ⟨base, cap, rfl, hle, h⟩ := h
  cases base with
  | none => simp only at h; omega
  | some a =>
    obtain ⟨hsp, cs, hg, hsz, h⟩ := h
    obtain ⟨blk, off, sp⟩ := a
    simp only at hsp
    subst hsp
    refine ⟨⟨blk, off + i, none⟩, ?_, ?_⟩
    · have := @idx_slc vs.length cap 1 blk off k i (by omega) (by omega)
      simpa using this
    · rw [load_cell hg]; exact h i hi
theorem Sl.len {T : TypeId} {H : Hp} {s : Value} {vs : List Value} (h : Sl T H s vs) : ∃ b c, s = .slice b vs.length c := by
  obtain ⟨base, cap, rfl, _⟩ := h; exact ⟨base, cap, rfl⟩

theorem len_slice {P : Program} {T e : TypeId} {b : Option Addr} {n c : Nat} (hu : P.underlying T = some (.slice e)) : lenE P T (.slice b n c) = some (.int .i64 n) := by
  unfold lenE; rw [hu]; rfl

/-- One element more. -/
theorem app_one {T : TypeId} {e : ElemI} (hT : e.type = T) (hs : e.size = 1) (hz : e.zero.size = 1) (hby : 0 < e.bytes) {H : Hp} {s v : Value} {vs : List Value} (h : Sl T H s vs) {xb : Nat} {xs : Array Value} {T' : TypeId} (hx : H[xb]? = some (.cells xs T')) (hxs : xs[0]? = some v) (hv : v.oneCell' = true)
    (hlim : (vs.length + 1) * e.bytes ≤ 2 ^ 47) {K : Value → Hp → Prop}
    (hk : ∀ s' H', Sl T H' s' (vs ++ [v]) → H.size ≤ H'.size → (∀ b, b < H.size → blkOf s ≠ some b → H'[b]? = H[b]?) → (∀ b, blkOf s' = some b → blkOf s = some b ∨ H.size ≤ b) → K s' H') :
    AppS (some e) s (.slice (some ⟨xb, 0, none⟩) 1 1) H K := by
  have hxsz : 0 < xs.size := by
    rcases Nat.lt_or_ge 0 xs.size with h1 | h1
    · exact h1
    · rw [Array.getElem?_eq_none h1] at hxs; cases hxs
  unfold AppS
  rw [Pu_some]
  have hcell : cellsS e.size (.slice (some ⟨xb, 0, none⟩) 1 1) H = some #[v] := by
    unfold cellsS rowH
    simp only [hx, hs]
    have : (0 : Nat) + 1 * 1 ≤ xs.size := by omega
    rw [if_pos (by simpa using this)]
    simp only [Option.some.injEq]
    apply Array.ext_getElem?
    intro j
    rw [Array.getElem?_extract]
    cases j with
    | zero => rw [if_pos (by omega)]; simpa using hxs
    | succ j => rw [if_neg (by omega)]; simp
  rw [hcell, Pu_some]
  obtain ⟨base, cap, rfl, hle, hb⟩ := h
  show App e (.slice base vs.length cap) #[v] 1 H K
  unfold App
  simp only
  by_cases hc : vs.length + 1 ≤ cap
  · rw [if_pos hc]
    cases base with
    | none => simp only at hb; omega
    | some a =>
      obtain ⟨hsp, cs, hg, hsz, hvals⟩ := hb
      obtain ⟨blk, off, sp⟩ := a
      simp only at hsp hg hsz hvals
      subst hsp
      have hlt : off + vs.length < cs.size := by omega
      have hput : putH H ((⟨blk, off, none⟩ : Addr).add (vs.length * e.size)) #[v] = some (H.setIfInBounds blk (.cells (cs.setIfInBounds (off + vs.length) v) T)) := by
        rw [Addr.add_mk, hs, Nat.mul_one]
        unfold putH
        simp [hg, hv, splice_one hlt]
        omega
      simp only [hput, Pu_some]
      refine hk _ _ ⟨some ⟨blk, off, none⟩, cap, by simp, by simpa using hc, rfl, cs.setIfInBounds (off + vs.length) v, ?_, by simpa using hsz, ?_⟩ (by simp) (fun b hb1 hb2 => ?_) (fun b hb => .inl hb)
      · exact get_set_same hg
      · intro i hi
        simp only [List.length_append, List.length_cons, List.length_nil] at hi
        rw [Array.getElem?_setIfInBounds]
        by_cases h1 : i = vs.length
        · subst h1; simp [hlt]
        · have h2 : i < vs.length := by omega
          have h3 : off + vs.length ≠ off + i := by omega
          rw [if_neg h3, hvals i h2, List.getElem?_append_left h2]
      · apply get_set_other
        intro e'; apply hb2; rw [← e']; rfl
  · rw [if_neg hc]
    refine ⟨hby, hlim, ?_⟩
    have hold : cellsS e.size (.slice base vs.length cap) H = some vs.toArray := by
      cases base with
      | none =>
        simp only at hb
        have : vs = [] := by
          cases vs with
          | nil => rfl
          | cons _ _ => simp only [List.length_cons] at hle; omega
        subst this; rfl
      | some a =>
        obtain ⟨hsp, cs, hg, hsz, hvals⟩ := hb
        obtain ⟨blk, off, sp⟩ := a
        simp only at hsp hg hsz hvals
        subst hsp
        unfold cellsS rowH
        simp only [hg, hs, Nat.mul_one]
        rw [if_pos ⟨trivial, by omega⟩]
        simp only [Option.some.injEq]
        apply Array.ext_getElem?
        intro j
        rw [Array.getElem?_extract]
        by_cases hj : j < vs.length
        · rw [if_pos (by omega), hvals j hj]; simp
        · rw [if_neg (by omega)]
          simp; omega
    rw [hold, Pu_some]
    intro cap' hcap
    refine hk _ _ ⟨some ⟨H.size, 0, none⟩, cap', by simp, by simpa using hcap, rfl, vs.toArray ++ #[v] ++ Builtin.zeroCells e.zero (cap' - (vs.length + 1)), ?_, ?_, ?_⟩ (by simp) (fun b hb1 hb2 => ?_) (fun b hb => .inr ?_)
    · rw [hT]; exact get_push_new H _
    · simp [Builtin.zeroCells, hz]; omega
    · intro i hi
      simp only [List.length_append, List.length_cons, List.length_nil] at hi
      rw [Nat.zero_add, Array.getElem?_append_left (by simp; omega)]
      simp
    · rw [Array.getElem?_push, if_neg (by omega)]
    · have : H.size = b := by simpa [blkOf] using hb
      omega
end Go.Vc
