/- Bits: blocks as cells, and a bit of one. -/
import Derived.Test.YthijablhhnfoeaaVcL
import Derived.Test.YthijablhhnfoeaaSh
set_option linter.unusedVariables false
set_option linter.unusedSimpArgs false
namespace Go.Vc
open Go.Proofs

def hasB (c : Array Value) (i : Int) : Bool := decide (0 ≤ i ∧ i < 8192) && (byt c (i.toNat / 8)).testBit (i.toNat % 8)

theorem and_two (n k : Nat) : n &&& 2 ^ k = if n.testBit k then 2 ^ k else 0 := by
  apply Nat.eq_of_testBit_eq
  intro j
  rw [Nat.testBit_and, Nat.testBit_two_pow]
  by_cases hj : k = j
  · subst hj
    cases h : n.testBit k <;> simp
  · cases h : n.testBit k <;> simp [hj]

theorem ofInt_nat {n : Nat} (hn : n < 256) : (BitVec.ofInt 8 (n : Int)).toNat = n := by
  simp [BitVec.toNat_ofInt]; omega

theorem bits_and {n m : Nat} (hn : n < 256) (hm : m < 256) : bitsE .and .u8 n m = ((n &&& m : Nat) : Int) := by
  have h1 : n &&& m < 256 := Nat.lt_of_le_of_lt Nat.and_le_left hn
  show IntKind.u8.wrap (((BitVec.ofInt 8 (n : Int)) &&& (BitVec.ofInt 8 (m : Int))).toNat : Int) = _
  rw [BitVec.toNat_and, ofInt_nat hn, ofInt_nat hm, u8wrap_id (by omega) (by omega)]

theorem bits_or {n m : Nat} (hn : n < 256) (hm : m < 256) : bitsE .or .u8 n m = ((n ||| m : Nat) : Int) := by
  have h1 : n ||| m < 2 ^ 8 := Nat.or_lt_two_pow hn hm
  show IntKind.u8.wrap (((BitVec.ofInt 8 (n : Int)) ||| (BitVec.ofInt 8 (m : Int))).toNat : Int) = _
  rw [BitVec.toNat_or, ofInt_nat hn, ofInt_nat hm, u8wrap_id (by omega) (by omega)]

theorem bits_andNot {n m : Nat} (hn : n < 256) (hm : m < 256) : bitsE .andNot .u8 n m = ((n &&& (255 - m) : Nat) : Int) := by
  have h1 : n &&& (255 - m) < 256 := Nat.lt_of_le_of_lt Nat.and_le_left hn
  show IntKind.u8.wrap (((BitVec.ofInt 8 (n : Int)) &&& ~~~ (BitVec.ofInt 8 (m : Int))).toNat : Int) = _
  rw [BitVec.toNat_and, BitVec.toNat_not, ofInt_nat hn, ofInt_nat hm, show 2 ^ 8 - 1 - m = 255 - m from rfl]
  rw [u8wrap_id (by omega) (by omega)]

theorem and_bit (n k : Nat) : (decide (((n &&& 2 ^ k : Nat) : Int) ≠ 0)) = n.testBit k := by
  rw [and_two]
  cases h : n.testBit k
  · simp
  · have : (2 : Int) ^ k > 0 := Int.pow_pos (by omega)
    simp
    omega

set_option maxHeartbeats 1000000 in
theorem has_ok {c : Array Value} {i : Int} {H : Hp} {R : Value → Hp → Prop} (hb : IsB c) (h : ∀ H', Ext H H' → R (.bool (hasB c i)) H') : Fc Try.prog 11 #[.agg c, .int .i64 i] H R := by
  refine fn11 ?_
  have hx := Ext.push H (.cells c 23)
  have hg := get_push_new H (.cells c 23)
  simp only [sh11, Box, binE_geq, binE_lss, Pu_some, Ite_dec, cells_agg]
  refine ⟨fun h0 => ⟨fun h1 => ?_, fun h1 => ?_⟩, fun h0 => ?_⟩
  · obtain ⟨n, rfl⟩ := Int.eq_ofNat_of_zero_le h0
    have h8 : n / 8 < 1024 := by omega
    have e1 : IntKind.i64.wrap ((n : Int) / 8) = ((n / 8 : Nat) : Int) := by rw [i64wrap_id (by omega) (by omega)]; omega
    have e2 : (n : Int) % 8 = ((n % 8 : Nat) : Int) := by omega
    have hp : 2 ^ (n % 8) < 256 := by
      have : 2 ^ (n % 8) ≤ 2 ^ 7 := Nat.pow_le_pow_right (by omega) (by omega)
      omega
    have e3 : IntKind.u8.wrap (1 * 2 ^ (min (n % 8) 8)) = ((2 ^ (n % 8) : Nat) : Int) := by
      have : min (n % 8) 8 = n % 8 := by omega
      rw [this, Int.one_mul, u8wrap_id]
      · simp
      · exact Int.le_of_lt (Int.pow_pos (by omega))
      · have : ((2 ^ (n % 8) : Nat) : Int) < 256 := by omega
        simp at this; omega
    simp (disch := omega) only [binE_quo, binE_rem, tdiv_pos, tmod_pos, Pu_some, e1, e2, idx_arr, load_cell hg, binE_shl, Nat.mul_one, Nat.zero_add, Int.toNat_natCast, hb.get h8, IntKind.bits, e3, binE_and, binE_neq, bits_and (hb.lt _) hp, and_bit]
    have := h _ hx
    simpa [hasB, h0, h1] using this
  · have := h _ hx
    simpa [hasB, h1] using this
  · have := h _ hx
    simpa [hasB, h0] using this

theorem pow_lt {n : Nat} : 2 ^ (n % 8) < 256 := by
  have : 2 ^ (n % 8) ≤ 2 ^ 7 := Nat.pow_le_pow_right (by omega) (by omega)
  omega
theorem shl_byte {n : Nat} : IntKind.u8.wrap (1 * 2 ^ (min (n % 8) 8)) = ((2 ^ (n % 8) : Nat) : Int) := by
  have hp := pow_lt (n := n)
  have : min (n % 8) 8 = n % 8 := by omega
  rw [this, Int.one_mul, u8wrap_id]
  · simp
  · exact Int.le_of_lt (Int.pow_pos (by omega))
  · have : ((2 ^ (n % 8) : Nat) : Int) < 256 := by omega
    simp at this; omega

theorem byte_ext {n m : Nat} (hn : n < 256) (hm : m < 256) (h : ∀ k, k < 8 → n.testBit k = m.testBit k) : n = m := by
  apply Nat.eq_of_testBit_eq
  intro k
  by_cases hk : k < 8
  · exact h k hk
  · have h8 : 2 ^ 8 ≤ 2 ^ k := Nat.pow_le_pow_right (by omega) (by omega)
    rw [Nat.testBit_lt_two_pow (by omega), Nat.testBit_lt_two_pow (by omega)]
/-- Blocks are one if their bits are. -/
theorem IsB.ext_bits {a b : Array Value} (ha : IsB a) (hb : IsB b) (h : ∀ i : Int, 0 ≤ i → i < 8192 → hasB a i = hasB b i) : a = b := by
  refine ha.ext hb fun i hi => byte_ext (ha.lt i) (hb.lt i) fun k hk => ?_
  have := h (8 * i + k : Nat) (by omega) (by omega)
  have e1 : (8 * i + k) / 8 = i := by omega
  have e2 : (8 * i + k) % 8 = k := by omega
  have e3 : ((8 * i + k : Nat) : Int).toNat = 8 * i + k := Int.toNat_natCast _
  have e4 : (0 : Int) ≤ ((8 * i + k : Nat) : Int) ∧ ((8 * i + k : Nat) : Int) < 8192 := by omega
  simp only [hasB, e3, e1, e2, decide_eq_true e4, Bool.true_and] at this
  exact this

def setN (n k : Nat) (on : Bool) : Nat := if on then n ||| 2 ^ k else n &&& (255 - 2 ^ k)
theorem setN_lt {n k : Nat} (hn : n < 256) (hk : k < 8) (on : Bool) : setN n k on < 256 := by
  unfold setN
  have : 2 ^ k < 2 ^ 8 := Nat.pow_lt_pow_right (by omega) hk
  split
  · exact Nat.or_lt_two_pow (n := 8) hn this
  · exact Nat.lt_of_le_of_lt Nat.and_le_left hn
theorem testBit_not {m j : Nat} (hm : m < 256) (hj : j < 8) : (255 - m).testBit j = !m.testBit j := by
  have h := Nat.testBit_two_pow_sub_succ (n := 8) (x := m) (by omega) j
  have e : 2 ^ 8 - (m + 1) = 255 - m := by omega
  rw [e] at h
  rw [h]
  simp [hj]
theorem setN_bit {n k j : Nat} (hk : k < 8) (hj : j < 8) (on : Bool) : (setN n k on).testBit j = if j = k then on else n.testBit j := by
  have hp : 2 ^ k < 256 := Nat.pow_lt_pow_right (m := k) (n := 8) (by omega) hk
  unfold setN
  cases on
  · simp only [Bool.false_eq_true, if_false]
    rw [Nat.testBit_and, testBit_not hp hj, Nat.testBit_two_pow]
    by_cases h : j = k
    · subst h; simp
    · have : ¬ k = j := fun e => h e.symm
      simp [h, this]
  · simp only [if_true]
    rw [Nat.testBit_or, Nat.testBit_two_pow]
    by_cases h : j = k
    · subst h; simp
    · have : ¬ k = j := fun e => h e.symm
      simp [h, this]
def setB (c : Array Value) (i : Int) (on : Bool) : Array Value :=
  if 0 ≤ i ∧ i < 8192 then c.setIfInBounds (i.toNat / 8) (.int .u8 (setN (byt c (i.toNat / 8)) (i.toNat % 8) on)) else c
theorem IsB.setB {c : Array Value} (h : IsB c) (i : Int) (on : Bool) : IsB (setB c i on) := by
  unfold Vc.setB
  split
  · exact h.set _ (setN_lt (h.lt _) (by omega) on)
  · exact h
theorem has_setB {c : Array Value} (h : IsB c) (i j : Int) (on : Bool) : hasB (setB c i on) j = if i = j ∧ 0 ≤ i ∧ i < 8192 then on else hasB c j := by
  unfold Vc.setB
  by_cases hi : 0 ≤ i ∧ i < 8192
  · rw [if_pos hi]
    by_cases hj : 0 ≤ j ∧ j < 8192
    · have hk : i.toNat / 8 < 1024 := by omega
      simp only [hasB, decide_eq_true hj, Bool.true_and, byt_set h hk]
      by_cases hb : i.toNat / 8 = j.toNat / 8
      · rw [if_pos hb, setN_bit (by omega) (by omega), hb]
        by_cases he : j.toNat % 8 = i.toNat % 8
        · have : i = j := by omega
          rw [if_pos he, if_pos ⟨this, hi⟩]
        · have : ¬ i = j := fun e => he (by rw [e])
          rw [if_neg he, if_neg (fun h => this h.1)]
      · have : ¬ i = j := fun e => hb (by rw [e])
        rw [if_neg hb, if_neg (fun h => this h.1)]
    · have : ¬ i = j := fun e => hj (e ▸ hi)
      rw [if_neg (fun h => this h.1)]
      simp [hasB, hj]
  · rw [if_neg hi, if_neg (fun h => hi h.2)]
end Go.Vc
