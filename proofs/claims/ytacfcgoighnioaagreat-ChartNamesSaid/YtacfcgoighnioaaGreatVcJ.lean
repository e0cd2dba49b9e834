/- Vc, part J: words of the printed conditions, and the laws that take them apart. -/
import Derived.Test.YtacfcgoighnioaaGreatVcI
set_option linter.unusedVariables false
set_option linter.unusedSimpArgs false
namespace Go.Vc

def Box (T : TypeId) (v : Value) (H : Hp) (K : Value → Hp → Prop) : Prop := K (.pointer (some ⟨H.size, 0, none⟩)) (H.push (.cells v.cells T))
def NewS (T : TypeId) (n : Nat) (cs : Array Value) (H : Hp) (K : Value → Hp → Prop) : Prop := K (.slice (some ⟨H.size, 0, none⟩) n n) (H.push (.cells cs T))

def NewMap (H : Hp) (K : Value → Hp → Prop) : Prop := K (.map (some H.size)) (H.push (.map #[] 0))

/-! ### Numbers -/
def w64 (x : Int) : Int := IntKind.i64.wrap x
theorem w64_id {x : Int} (h0 : -9223372036854775808 ≤ x) (h1 : x ≤ 9223372036854775807) : w64 x = x := by
  unfold w64 IntKind.wrap
  simp [IntKind.bits, IntKind.signed]
  omega
theorem w64_lo (x : Int) : -9223372036854775808 ≤ w64 x := by
  unfold w64 IntKind.wrap
  simp [IntKind.bits, IntKind.signed]
  omega
theorem w64_hi (x : Int) : w64 x ≤ 9223372036854775807 := by
  unfold w64 IntKind.wrap
  simp [IntKind.bits, IntKind.signed]
  omega
theorem i64wrap_id {x : Int} (h0 : -9223372036854775808 ≤ x) (h1 : x ≤ 9223372036854775807) : IntKind.i64.wrap x = x := w64_id h0 h1
theorem u8wrap_id {x : Int} (h0 : 0 ≤ x) (h1 : x ≤ 255) : IntKind.u8.wrap x = x := by
  unfold IntKind.wrap; simp [IntKind.bits, IntKind.signed]; omega
theorem u16wrap_id {x : Int} (h0 : 0 ≤ x) (h1 : x ≤ 65535) : IntKind.u16.wrap x = x := by
  unfold IntKind.wrap; simp [IntKind.bits, IntKind.signed]; omega
theorem u32wrap_id {x : Int} (h0 : 0 ≤ x) (h1 : x ≤ 4294967295) : IntKind.u32.wrap x = x := by
  unfold IntKind.wrap; simp [IntKind.bits, IntKind.signed]; omega
theorem tdiv_pos {a b : Int} (h0 : 0 ≤ a) : a.tdiv b = a / b := Int.tdiv_eq_ediv_of_nonneg h0
theorem tmod_pos {a b : Int} (h0 : 0 ≤ a) : a.tmod b = a % b := Int.tmod_eq_emod_of_nonneg h0

section
variable {td : Option TypeDesc} {k : IntKind} {a b : Int}
theorem beq_kind (k : IntKind) : (k == k) = true := by cases k <;> rfl
theorem binE_int (op : BinOp) : binE td op (.int k a) (.int k b) = binI op k a b := by
  simp [binE, beq_kind]
theorem binE_add : binE td .add (.int k a) (.int k b) = some (.int k (k.wrap (a + b))) := by rw [binE_int]; rfl
theorem binE_sub : binE td .sub (.int k a) (.int k b) = some (.int k (k.wrap (a - b))) := by rw [binE_int]; rfl
theorem binE_mul : binE td .mul (.int k a) (.int k b) = some (.int k (k.wrap (a * b))) := by rw [binE_int]; rfl
theorem binE_quo (h : b ≠ 0) : binE td .quo (.int k a) (.int k b) = some (.int k (k.wrap (a.tdiv b))) := by rw [binE_int]; simp [binI, h]
theorem binE_rem (h : b ≠ 0) : binE td .rem (.int k a) (.int k b) = some (.int k (a.tmod b)) := by rw [binE_int]; simp [binI, h]
theorem binE_and : binE td .and (.int k a) (.int k b) = some (.int k (bitsE .and k a b)) := by rw [binE_int]; rfl
theorem binE_or : binE td .or (.int k a) (.int k b) = some (.int k (bitsE .or k a b)) := by rw [binE_int]; rfl
theorem binE_xor : binE td .xor (.int k a) (.int k b) = some (.int k (bitsE .xor k a b)) := by rw [binE_int]; rfl
theorem binE_andNot : binE td .andNot (.int k a) (.int k b) = some (.int k (bitsE .andNot k a b)) := by rw [binE_int]; rfl
theorem binE_lss : binE td .lss (.int k a) (.int k b) = some (.bool (decide (a < b))) := by rw [binE_int]; rfl
theorem binE_leq : binE td .leq (.int k a) (.int k b) = some (.bool (decide (a ≤ b))) := by rw [binE_int]; rfl
theorem binE_gtr : binE td .gtr (.int k a) (.int k b) = some (.bool (decide (b < a))) := by rw [binE_int]; rfl
theorem binE_geq : binE td .geq (.int k a) (.int k b) = some (.bool (decide (b ≤ a))) := by rw [binE_int]; rfl
theorem binE_eql : binE td .eql (.int k a) (.int k b) = some (.bool (decide (a = b))) := by
  rw [binE_int]; simp only [binI, Option.some.injEq, Value.bool.injEq]; exact (by rw [Bool.eq_iff_iff]; simp)
theorem binE_neq : binE td .neq (.int k a) (.int k b) = some (.bool (decide (a ≠ b))) := by
  rw [binE_int]; simp only [binI, Option.some.injEq, Value.bool.injEq]; exact (by rw [Bool.eq_iff_iff]; simp)
theorem binE_shl {k' : IntKind} (h : 0 ≤ b) : binE td .shl (.int k a) (.int k' b) = some (.int k (k.wrap (a * 2 ^ (min b.toNat k.bits)))) := by
  have : ¬ b < 0 := by omega
  simp [binE, isShift, binI, this]
theorem binE_shr {k' : IntKind} (h : 0 ≤ b) : binE td .shr (.int k a) (.int k' b) = some (.int k (a.fdiv (2 ^ (min b.toNat k.bits)))) := by
  have : ¬ b < 0 := by omega
  simp [binE, isShift, binI, this]
theorem binE_eqb (x y : Bool) : binE (some .bool) .eql (.bool x) (.bool y) = some (.bool (x == y)) := rfl
theorem binE_neb (x y : Bool) : binE (some .bool) .neq (.bool x) (.bool y) = some (.bool (!(x == y))) := rfl
theorem unE_not (x : Bool) : unE .not (.bool x) = some (.bool !x) := rfl
theorem conv_int (s : IntKind) (d : IntKind) : convE (some (.int s)) (some (.int d)) (.int k a) = some (.int d (d.wrap a)) := rfl
theorem min_int {k' : IntKind} : minE (.int k a) (.int k' b) = some (.int k (min a b)) := by
  simp only [minE, Option.some.injEq, Value.int.injEq, true_and]; split <;> omega
theorem max_int {k' : IntKind} : maxE (.int k a) (.int k' b) = some (.int k (max a b)) := by
  simp only [maxE, Option.some.injEq, Value.int.injEq, true_and]; split <;> omega
end

theorem Ite_bool {x : Bool} {A B : Prop} : Ite (.bool x) A B = ((x = true → A) ∧ (x = false → B)) := by
  cases x <;> simp [Ite]
theorem Ite_dec {p : Prop} [Decidable p] {A B : Prop} : Ite (.bool (decide p)) A B = ((p → A) ∧ (¬ p → B)) := by
  by_cases h : p <;> simp [Ite, h]
theorem Ite_not {x : Bool} {A B : Prop} : Ite (.bool (!x)) A B = ((x = false → A) ∧ (x = true → B)) := by
  cases x <;> simp [Ite]
theorem Ite_true {A B : Prop} : Ite (.bool true) A B = A := rfl
theorem Ite_false {A B : Prop} : Ite (.bool false) A B = B := rfl
theorem Any_const {X : Prop} : (Any fun _ => X) = X := by
  apply propext; exact ⟨fun h => h fun _ => undef, fun h _ => h⟩
theorem ForX_true {H : Hp} {K : Hp → Prop} : ForX true H K = ∀ H', Ext H H' → K H' := rfl

/-! ### Memory -/
theorem addr_ptr {o b i : Nat} : addrE (some o) (.pointer (some ⟨b, i, none⟩)) = some (.pointer (some ⟨b, i + o, none⟩)) := by
  simp [addrE, Addr.add_mk]
theorem idx_arr {n s b i : Nat} {k : IntKind} {j : Int} (h0 : 0 ≤ j) (h1 : j < n) : idxAddrE (some (some n, s)) (.pointer (some ⟨b, i, none⟩)) (.int k j) = some (.pointer (some ⟨b, i + j.toNat * s, none⟩)) := by
  simp [idxAddrE, h0, h1, Addr.add_mk]
theorem idx_slc {n c s b i : Nat} {k : IntKind} {j : Int} (h0 : 0 ≤ j) (h1 : j < n) : idxAddrE (some (none, s)) (.slice (some ⟨b, i, none⟩) n c) (.int k j) = some (.pointer (some ⟨b, i + j.toNat * s, none⟩)) := by
  simp [idxAddrE, h0, h1, Addr.add_mk]
theorem load_cell {H : Hp} {b i : Nat} {c : Array Value} {T : TypeId} {fr : Nat × Nat} (hb : H[b]? = some (.cells c T fr)) : loadE (some none) (.pointer (some ⟨b, i, none⟩)) H = c[i]? := by
  simp [loadE, cellH, hb]
theorem load_row {H : Hp} {b i n : Nat} {c : Array Value} {T : TypeId} {fr : Nat × Nat} (hb : H[b]? = some (.cells c T fr)) (h : i + n ≤ c.size) : loadE (some (some n)) (.pointer (some ⟨b, i, none⟩)) H = some (.agg (c.extract i (i + n))) := by
  simp [loadE, rowH, hb, h]
theorem load_all {H : Hp} {b n : Nat} {c : Array Value} {T : TypeId} {fr : Nat × Nat} (hb : H[b]? = some (.cells c T fr)) (h : c.size = n) : loadE (some (some n)) (.pointer (some ⟨b, 0, none⟩)) H = some (.agg c) := by
  subst h
  rw [load_row hb (by omega)]; simp
theorem splice_one {c : Array Value} {i : Nat} {v : Value} (h : i < c.size) : splice c i #[v] = c.setIfInBounds i v := by
  apply Array.ext_getElem?; intro j
  rw [splice_get (by simp; omega), Array.getElem?_setIfInBounds]
  by_cases h1 : j < i
  · have : ¬ i = j := by omega
    simp [h1, this]
  · by_cases h2 : i = j
    · subst h2; simp [h]
    · have h3 : ¬ j < i + 1 := by omega
      simp [h1, h2, h3]
theorem splice_all {c vs : Array Value} (h : c.size = vs.size) : splice c 0 vs = vs := by
  apply Array.ext_getElem?; intro j
  rw [splice_get (by omega)]
  by_cases h1 : j < vs.size
  · simp [h1]
  · have h2 : c.size ≤ j := by omega
    simp [h1, h2]
theorem store_cell {H : Hp} {b i : Nat} {c : Array Value} {T : TypeId} {v : Value} (hb : H[b]? = some (.cells c T)) (h : i < c.size) (hv : v.oneCell' = true) (hc : v.cells = #[v]) :
    storeE (some 1) (.pointer (some ⟨b, i, none⟩)) v H = some (H.setIfInBounds b (.cells (c.setIfInBounds i v) T)) := by
  have h1 : i + 1 ≤ c.size := by omega
  simp [storeE, putH, hb, hc, h1, hv, splice_one h]
theorem store_all {H : Hp} {b n : Nat} {c vs : Array Value} {T : TypeId} (hb : H[b]? = some (.cells c T)) (h : c.size = n) (h' : vs.size = n) (hv : (vs.all fun v => v.oneCell') = true) :
    storeE (some n) (.pointer (some ⟨b, 0, none⟩)) (.agg vs) H = some (H.setIfInBounds b (.cells vs T)) := by
  have h1 : vs.size ≤ c.size := by omega
  subst h'
  simp [storeE, putH, hb, Value.cells, splice_all (show c.size = vs.size by omega), h1]
  simpa using hv
theorem cells_int (k : IntKind) (a : Int) : (Value.int k a).cells = #[.int k a] := rfl
theorem cells_bool (x : Bool) : (Value.bool x).cells = #[.bool x] := rfl
theorem cells_agg (c : Array Value) : (Value.agg c).cells = c := rfl
theorem get_push_new (H : Hp) (o : Obj) : (H.push o)[H.size]? = some o := by simp
theorem get_push_old {H : Hp} {o x : Obj} {b : Nat} (h : H[b]? = some x) : (H.push o)[b]? = some x := (Ext.push H o).at h
theorem get_set_same {H : Hp} {b : Nat} {o x : Obj} (h : H[b]? = some x) : (H.setIfInBounds b o)[b]? = some o := by
  have := lt_of_block h
  simp [Array.getElem?_setIfInBounds, this]
theorem get_set_other {H : Hp} {b c : Nat} {o : Obj} (h : b ≠ c) : (H.setIfInBounds b o)[c]? = H[c]? := by
  simp [Array.getElem?_setIfInBounds, h]
/-- A write into what is newer than H. -/
theorem Ext.set {H H' : Hp} (h : Ext H H') {b : Nat} {o : Obj} (hb : H.size ≤ b) : Ext H (H'.setIfInBounds b o) :=
  ⟨by simpa using h.le, fun k hk => by rw [get_set_other (by omega)]; exact h.same k hk⟩
theorem Ext.snoc {H H' : Hp} (h : Ext H H') (o : Obj) : Ext H (H'.push o) := h.trans (Ext.push H' o)
end Go.Vc
