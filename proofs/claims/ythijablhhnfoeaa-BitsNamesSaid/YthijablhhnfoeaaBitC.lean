/- Bits: how many bits of a span are set; the program's own examples. -/
import Derived.Test.YthijablhhnfoeaaBitB
set_option linter.unusedVariables false
set_option linter.unusedSimpArgs false
namespace Go.Vc
open Go.Proofs

/-- How many of the bits a, a+1, .., a+n-1 are set. -/
def cnt (c : Array Value) (a : Int) : Nat → Nat
  | 0 => 0
  | n + 1 => cnt c a n + (if hasB c (a + n) then 1 else 0)
theorem cnt_le (c : Array Value) (a : Int) (n : Nat) : cnt c a n ≤ n := by
  induction n with
  | zero => exact Nat.le_refl _
  | succ n ih => simp only [cnt]; split <;> omega
theorem cnt_add (c : Array Value) (a : Int) (m n : Nat) : cnt c a (m + n) = cnt c a m + cnt c (a + m) n := by
  induction n with
  | zero => simp [cnt]
  | succ n ih =>
    rw [← Nat.add_assoc]
    simp only [cnt, ih]
    have : a + ((m + n : Nat) : Int) = a + m + n := by omega
    rw [this]; omega

def ones : Nat → Nat := fun n => (List.range 8).foldl (fun s k => s + (if n.testBit k then 1 else 0)) 0
theorem ones_eq (n : Nat) : ones n = (if n.testBit 0 then 1 else 0) + (if n.testBit 1 then 1 else 0) + (if n.testBit 2 then 1 else 0) + (if n.testBit 3 then 1 else 0) + (if n.testBit 4 then 1 else 0) + (if n.testBit 5 then 1 else 0) + (if n.testBit 6 then 1 else 0) + (if n.testBit 7 then 1 else 0) := by
  simp [ones, List.range_succ]
theorem cnt_byte {c : Array Value} {k : Nat} (hk : k < 1024) : cnt c (8 * k : Nat) 8 = ones (byt c k) := by
  have e : ∀ j : Nat, j < 8 → hasB c (((8 * k : Nat) : Int) + (j : Int)) = (byt c k).testBit j := by
    intro j hj
    have e1 : (((8 * k : Nat) : Int) + (j : Int)).toNat = 8 * k + j := by omega
    have e2 : (8 * k + j) / 8 = k := by omega
    have e3 : (8 * k + j) % 8 = j := by omega
    have e4 : (0 : Int) ≤ ((8 * k : Nat) : Int) + (j : Int) ∧ ((8 * k : Nat) : Int) + (j : Int) < 8192 := by omega
    simp only [hasB, e1, e2, e3, decide_eq_true e4, Bool.true_and]
  rw [ones_eq]
  simp only [cnt, e 0 (by omega), e 1 (by omega), e 2 (by omega), e 3 (by omega), e 4 (by omega), e 5 (by omega), e 6 (by omega), e 7 (by omega), Nat.zero_add]

def onesTab : List Nat := [0, 1, 1, 2, 1, 2, 2, 3, 1, 2, 2, 3, 2, 3, 3, 4, 1, 2, 2, 3, 2, 3, 3, 4, 2, 3, 3, 4, 3, 4, 4, 5, 1, 2, 2, 3, 2, 3, 3, 4, 2, 3, 3, 4, 3, 4, 4, 5, 2, 3, 3, 4, 3, 4, 4, 5, 3, 4, 4, 5, 4, 5, 5, 6, 1, 2, 2, 3, 2, 3, 3, 4, 2, 3, 3, 4, 3, 4, 4, 5, 2, 3, 3, 4, 3, 4, 4, 5, 3, 4, 4, 5, 4, 5, 5, 6, 2, 3, 3, 4, 3, 4, 4, 5, 3, 4, 4, 5, 4, 5, 5, 6, 3, 4, 4, 5, 4, 5, 5, 6, 4, 5, 5, 6, 5, 6, 6, 7, 1, 2, 2, 3, 2, 3, 3, 4, 2, 3, 3, 4, 3, 4, 4, 5, 2, 3, 3, 4, 3, 4, 4, 5, 3, 4, 4, 5, 4, 5, 5, 6, 2, 3, 3, 4, 3, 4, 4, 5, 3, 4, 4, 5, 4, 5, 5, 6, 3, 4, 4, 5, 4, 5, 5, 6, 4, 5, 5, 6, 5, 6, 6, 7, 2, 3, 3, 4, 3, 4, 4, 5, 3, 4, 4, 5, 4, 5, 5, 6, 3, 4, 4, 5, 4, 5, 5, 6, 4, 5, 5, 6, 5, 6, 6, 7, 3, 4, 4, 5, 4, 5, 5, 6, 4, 5, 5, 6, 5, 6, 6, 7, 4, 5, 5, 6, 5, 6, 6, 7, 5, 6, 6, 7, 6, 7, 7, 8]
set_option maxRecDepth 100000 in
theorem tab_ones : ∀ n, n < 256 → onesTab[n]? = some (ones n) := by decide

def tabBytes : ByteArray := ⟨(onesTab.map UInt8.ofNat).toArray⟩
theorem und9 : Try.prog.underlying 9 = some .string := by kernel_rfl
theorem ones_le (n : Nat) : ones n ≤ 8 := by
  rw [ones_eq]
  repeat' split
  all_goals omega
theorem tab_get' {l : List Nat} {n m : Nat} (h : l[n]? = some m) (hm : m < 256) : ((⟨(l.map UInt8.ofNat).toArray⟩ : ByteArray)[n]?).map (fun b => Value.int .u8 b.toNat) = some (.int .u8 m) := by
  have hl2 : n < l.length := by
    rcases Nat.lt_or_ge n l.length with h1 | h1
    · exact h1
    · rw [List.getElem?_eq_none h1] at h; cases h
  have e3 : l[n] = m := by
    have hh := List.getElem?_eq_getElem hl2
    rw [h] at hh; injection hh with hh; exact hh.symm
  have hl : n < (⟨(l.map UInt8.ofNat).toArray⟩ : ByteArray).size := by
    show n < (l.map UInt8.ofNat).toArray.size
    simpa using hl2
  have e : (⟨(l.map UInt8.ofNat).toArray⟩ : ByteArray)[n]? = some ((⟨(l.map UInt8.ofNat).toArray⟩ : ByteArray)[n]) := getElem?_pos _ n hl
  have e2 : (⟨(l.map UInt8.ofNat).toArray⟩ : ByteArray)[n] = UInt8.ofNat l[n] := by
    show (l.map UInt8.ofNat).toArray[n]'(by simpa using hl2) = _
    rw [List.getElem_toArray, List.getElem_map]
  have e5 : (UInt8.ofNat m).toNat = m := by
    rw [UInt8.toNat_ofNat']; omega
  rw [e, e2, e3]
  simp only [Option.map_some, e5]
theorem tab_get {n : Nat} (hn : n < 256) : (tabBytes[n]?).map (fun b => Value.int .u8 b.toNat) = some (.int .u8 (ones n)) :=
  tab_get' (tab_ones n hn) (by have := ones_le n; omega)

set_option maxRecDepth 100000 in
theorem sh22_def {v0 : Value} {H : Hp} {R : Value → Hp → Prop} : (Pu (idxE Try.prog 9 (.string tabBytes) v0) fun x1 => Pu (convE (some (.int .u8)) (some (.int .i64)) x1) fun x2 => R x2 H) = sh22 v0 H R := by kernel_rfl
theorem sh22_eq {v0 : Value} {H : Hp} {R : Value → Hp → Prop} (h : Pu (idxE Try.prog 9 (.string tabBytes) v0) fun x1 => Pu (convE (some (.int .u8)) (some (.int .i64)) x1) fun x2 => R x2 H) : sh22 v0 H R := Eq.mp sh22_def h

theorem ones_ok {n : Nat} {H : Hp} {R : Value → Hp → Prop} (hn : n < 256) (h : R (.int .i64 (ones n)) H) : Fc Try.prog 22 #[.int .u8 n] H R := by
  refine fn22 (sh22_eq ?_)
  have e4 := ones_le n
  have e : idxE Try.prog 9 (.string tabBytes) (.int .u8 n) = some (.int .u8 (ones n)) := by
    unfold idxE
    rw [und9]
    simp only [Int.toNat_natCast, tab_get hn]
    rw [if_pos (by omega)]
  rw [e, Pu_some, conv_int, Pu_some, i64wrap_id (by omega) (by omega)]
  exact h

def cntI (c : Array Value) (f t : Int) : Int := cnt c (max f 0) (min t 8192 - max f 0).toNat

set_option maxHeartbeats 1000000 in
theorem count_ok {c : Array Value} {f t : Int} {H : Hp} {R : Value → Hp → Prop} (hb : IsB c) (hf : f ≤ 9223372036854775807) (h : ∀ H', Ext H H' → R (.int .i64 (cntI c f t)) H') : Fc Try.prog 13 #[.agg c, .int .i64 f, .int .i64 t] H R := by
  refine fn13 ?_
  simp only [sh13, Box, cells_agg, Any_const]
  refine inside_ok ?_
  have g1 := get_push_new H (.cells c 23)
  have hx1 := Ext.push H (.cells c 23)
  generalize hH : H.push (.cells c 23) = H1 at g1 hx1
  simp only [extractE, List.getElem?_toArray, List.getElem?_cons_zero, List.getElem?_cons_succ, Pu_some]
  refine LoopP.mk (fun s H' => ∃ i : Int, s.1 = .int .i64 (cnt c (max f 0) (i - max f 0).toNat) ∧ s.2.1 = .int .i64 i ∧ Ext H1 H' ∧ max f 0 ≤ i ∧ (i ≤ max (min t 8192) (max f 0))) (fun s _ => match s.2.1 with | .int _ i => (8192 - i).toNat | _ => 0) ⟨max f 0, by simp [cnt], rfl, Ext.refl _, Int.le_refl _, by omega⟩ ?_
  rintro ⟨s1, s2, u⟩ H3 ⟨i, hs1, hs2, hx, hlo, hhi⟩
  simp only at hs1 hs2
  subst hs1 hs2
  have g3 := hx.at g1
  have hc := cnt_le c (max f 0) (i - max f 0).toNat
  have hlo0 : 0 ≤ max f 0 := by omega
  simp only [binE_lss, Pu_some, Ite_dec]
  refine ⟨fun hlt => ?_, fun hge => ?_⟩
  · have hi0 : 0 ≤ i := by omega
    have hi8 : i < 8192 := by omega
    refine Join.mk (fun s H' => H' = H3 ∧ ∃ b, s.1 = .bool b ∧ (b = true → i % 8 = 0 ∧ i + 8 ≤ min t 8192)) ?_ ?_
    · rintro ⟨s, u⟩ H4 ⟨rfl, b, hs, hbt⟩
      simp only at hs
      subst hs
      simp only [Ite_bool]
      refine ⟨fun hbb => ?_, fun _ => ?_⟩
      · obtain ⟨h1, h2⟩ := hbt hbb
        have h8 : i.toNat / 8 < 1024 := by omega
        have e1 : IntKind.i64.wrap (i / 8) = ((i.toNat / 8 : Nat) : Int) := by rw [i64wrap_id (by omega) (by omega)]; omega
        simp (disch := omega) only [binE_quo, tdiv_pos, Pu_some, e1, idx_arr, load_cell g3, Nat.mul_one, Nat.zero_add, Int.toNat_natCast, hb.get h8]
        refine ones_ok (hb.lt _) ?_
        have h8' : ones (byt c (i.toNat / 8)) = cnt c i 8 := by
          rw [← cnt_byte h8]; congr 1; omega
        have hc8 := cnt_le c i 8
        rw [h8']
        simp (disch := omega) only [binE_add, Pu_some, i64wrap_id]
        refine ⟨⟨i + 7 + 1, ?_, rfl, hx, by omega, by omega⟩, by omega⟩
        have e5 : (i + 7 + 1 - max f 0).toNat = (i - max f 0).toNat + 8 := by omega
        have e6 : max f 0 + (((i - max f 0).toNat : Nat) : Int) = i := by omega
        rw [e5, cnt_add, e6]; simp
      · simp only [load_all g3 hb.size, Pu_some]
        refine has_ok hb fun H' hx' => ?_
        have e5 : (i + 1 - max f 0).toNat = (i - max f 0).toNat + 1 := by omega
        have e6 : max f 0 + (((i - max f 0).toNat : Nat) : Int) = i := by omega
        simp only [Ite_bool]
        refine ⟨fun hh => ?_, fun hh => ?_⟩
        · simp (disch := omega) only [binE_add, Pu_some, i64wrap_id]
          refine ⟨⟨i + 1, ?_, rfl, hx.trans hx', by omega, by omega⟩, by omega⟩
          rw [e5, cnt, e6, hh]; simp
        · simp (disch := omega) only [binE_add, Pu_some, i64wrap_id]
          refine ⟨⟨i + 1, ?_, rfl, hx.trans hx', by omega, by omega⟩, by omega⟩
          rw [e5, cnt, e6, hh]; simp
    · simp (disch := omega) only [binE_rem, tmod_pos, binE_eql, Pu_some, Ite_dec]
      refine ⟨fun hm => ?_, fun _ => ⟨trivial, false, rfl, fun e => by cases e⟩⟩
      simp (disch := omega) only [binE_add, binE_leq, i64wrap_id, Pu_some]
      exact ⟨trivial, _, rfl, fun e => ⟨hm, of_decide_eq_true e⟩⟩
  · have e : (i - max f 0).toNat = (min t 8192 - max f 0).toNat := by omega
    rw [e]
    exact h H3 (hx1.trans hx)

theorem hasB_zero (i : Int) : hasB (Array.replicate 1024 (.int .u8 0)) i = false := by
  have : byt (Array.replicate 1024 (.int .u8 0)) (i.toNat / 8) = 0 := by
    unfold byt
    rw [Array.getElem?_replicate]
    split
    · rename_i h; split at h <;> simp_all
    · rfl
  simp [hasB, this]

set_option maxHeartbeats 1000000 in
/-- lives: the chapter's examples come out. -/
theorem lives_ok {H : Hp} {R : Value → Hp → Prop} (h : ∀ H', Ext H H' → R (.bool true) H') : Fc Try.prog 10 #[] H R := by
  refine fn10 ?_
  simp only [sh10, Box, zeroB, Pu_some, cells_agg]
  have g1 := get_push_new H (.cells (Array.replicate 1024 (.int .u8 0)) 23)
  have hx1 := Ext.push H (.cells (Array.replicate 1024 (.int .u8 0)) 23)
  simp only [load_all g1 isB_zero.size, Pu_some]
  generalize H.push (.cells (Array.replicate 1024 (.int .u8 0)) 23) = H1 at g1 hx1
  refine set_ok isB_zero fun H2 hx2 => ?_
  have g3 := get_push_new H2 (.cells (Array.replicate 1024 (.int .u8 0)) 23)
  have hc := isB_zero.setB 9 true
  have hx3 := (hx1.trans hx2).snoc (.cells (Array.replicate 1024 (.int .u8 0)) 23)
  simp only [store_all g3 isB_zero.size hc.size hc.all, Pu_some]
  have g4 := get_set_same (o := .cells (setB (Array.replicate 1024 (.int .u8 0)) 9 true) 23) g3
  have hx4 := hx3.set (b := H2.size) (o := .cells (setB (Array.replicate 1024 (.int .u8 0)) 9 true) 23) ((hx1.trans hx2).le)
  generalize hH4 : (H2.push (Obj.cells (Array.replicate 1024 (.int .u8 0)) 23)).setIfInBounds H2.size (.cells (setB (Array.replicate 1024 (.int .u8 0)) 9 true) 23) = H4 at g4 hx4
  have hbit := fun j => has_setB isB_zero 9 j true
  generalize hcc : setB (Array.replicate 1024 (.int .u8 0)) 9 true = c at hc g4 hbit
  have hbit' : ∀ j, hasB c j = decide (j = 9) := by
    intro j
    rw [hbit j, hasB_zero]
    by_cases hj : 9 = j
    · subst hj; simp
    · have : ¬ j = 9 := fun e => hj e.symm
      simp [hj, this]
  have hb1 : byt c 1 = 2 := by
    apply byte_ext (hc.lt 1) (by omega)
    intro k hk
    have := hbit' ((8 + k : Nat) : Int)
    have e1 : (8 + k) / 8 = 1 := by omega
    have e2 : (8 + k) % 8 = k := by omega
    have e4 : (0 : Int) ≤ ((8 + k : Nat) : Int) ∧ ((8 + k : Nat) : Int) < 8192 := by omega
    simp only [hasB, Int.toNat_natCast, e1, e2, decide_eq_true e4, Bool.true_and] at this
    rw [this]
    show _ = (2 ^ 1).testBit k
    rw [Nat.testBit_two_pow, Bool.eq_iff_iff]
    simp only [decide_eq_true_eq]
    omega
  have hb1' := hc.get (i := 1) (by omega)
  rw [hb1] at hb1'
  simp only [idx_arr (n := 1024) (s := 1) (b := H2.size) (i := 0) (k := .i64) (j := 1) (by omega) (by omega), Pu_some, load_cell g4, Nat.zero_add, Nat.mul_one, Int.toNat_one, hb1', binE_eql, Ite_dec, load_all g4 hc.size]
  refine ⟨fun _ => ?_, fun hne => absurd rfl hne⟩
  refine has_ok hc fun H5 hx5 => ?_
  simp only [hbit', decide_true, Ite_true, load_all (hx5.at g4) hc.size, Pu_some]
  refine has_ok hc fun H6 hx6 => ?_
  simp only [hbit', unE_not, Pu_some, load_all ((hx5.trans hx6).at g4) hc.size, show decide ((8 : Int) = 9) = false from rfl, Bool.not_false, Ite_true]
  refine first_ok (f := 9) (t := 8192) hc (by omega) fun r H7 hr hx7 => ?_
  have hr10 : r = 10 := hr.uniq (.inr ⟨by omega, by omega, by omega, by omega, by rw [hbit']; rfl, fun j h1 h2 h3 => by
    have : j = 9 := by omega
    rw [hbit', this]; rfl⟩)
  subst hr10
  simp only [binE_eql, Pu_some, decide_true, Ite_true, load_all (((hx5.trans hx6).trans hx7).at g4) hc.size]
  refine count_ok (f := 0) (t := 8192) hc (by omega) fun H8 hx8 => ?_
  have hcnt : cntI c 0 8192 = 1 := by
    have e : cntI c 0 8192 = (cnt c 0 8192 : Int) := rfl
    have k1 : ∀ n : Nat, n ≤ 9 → cnt c 0 n = 0 := by
      intro n hn
      induction n with
      | zero => rfl
      | succ n ih => simp [cnt, ih (by omega), hbit']; omega
    have k2 : ∀ n : Nat, cnt c 10 n = 0 := by
      intro n
      induction n with
      | zero => rfl
      | succ n ih => simp [cnt, ih, hbit']; omega
    have k3 : cnt c 0 10 = 1 := by simp [cnt, k1 9 (by omega), hbit']
    have k4 : cnt c 0 (10 + 8182) = cnt c 0 10 + cnt c (0 + (10 : Nat)) 8182 := cnt_add c 0 10 8182
    rw [e]
    have k5 : cnt c (0 + ((10 : Nat) : Int)) 8182 = 0 := k2 8182
    rw [k3, k5] at k4
    have k6 : cnt c 0 8192 = 1 := k4
    rw [k6]; rfl
  rw [hcnt, binE_eql, Pu_some]
  exact h H8 (hx4.trans (hx5.trans (hx6.trans (hx7.trans hx8))))
end Go.Vc
