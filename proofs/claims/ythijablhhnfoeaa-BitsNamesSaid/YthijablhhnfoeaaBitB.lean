/- Bits: what the program's functions come to. -/
import Derived.Test.YthijablhhnfoeaaBitA
set_option linter.unusedVariables false
set_option linter.unusedSimpArgs false
namespace Go.Vc
open Go.Proofs

theorem zeroB : zeroE Try.prog 23 = some (.agg (Array.replicate 1024 (.int .u8 0))) := by kernel_rfl
set_option maxHeartbeats 1000000 in
theorem set_ok {c : Array Value} {i : Int} {on : Bool} {H : Hp} {R : Value → Hp → Prop} (hb : IsB c) (h : ∀ H', Ext H H' → R (.agg (setB c i on)) H') : Fc Try.prog 9 #[.agg c, .int .i64 i, .bool on] H R := by
  refine fn9 ?_
  have hx1 := Ext.push H (.cells c 23)
  have g1 := get_push_new H (.cells c 23)
  have hx2 := hx1.snoc (.cells (Array.replicate 1024 (.int .u8 0)) 23)
  have g12 := get_push_old (o := .cells (Array.replicate 1024 (.int .u8 0)) 23) g1
  have g2 := get_push_new (H.push (.cells c 23)) (.cells (Array.replicate 1024 (.int .u8 0)) 23)
  have hs1 : (H.push (.cells c 23)).size = H.size + 1 := by simp
  simp only [sh9, Box, zeroB, Pu_some, cells_agg, Any_const, hs1] at g2 ⊢
  refine Join.mk (fun _ H' => Ext H H' ∧ H'[H.size]? = some (.cells (setB c i on) 23) ∧ ∃ o, o.size = 1024 ∧ H'[H.size + 1]? = some (.cells o 23)) ?_ ?_
  · rintro _ H3 ⟨hx, k1, o, ho, k2⟩
    have hB := hb.setB i on
    have k3 := get_set_same (o := .cells (setB c i on) 23) k2
    simp only [load_all k1 hB.size, Pu_some, store_all k2 ho hB.size hB.all, load_all k3 hB.size]
    exact h _ (hx.set (by omega))
  · refine Join.mk (fun s H' => s.1 = .bool (decide (¬ (0 ≤ i ∧ i < 8192))) ∧ H' = (H.push (.cells c 23)).push (.cells (Array.replicate 1024 (.int .u8 0)) 23)) ?_ ?_
    · rintro ⟨s, u⟩ H5 ⟨hs, rfl⟩
      simp only at hs
      subst hs
      simp only [Ite_dec]
      refine ⟨fun hn => ⟨hx2, by simpa [setB, hn] using g12, _, by simp, g2⟩, fun hn => ?_⟩
      have hi : 0 ≤ i ∧ i < 8192 := Classical.not_not.1 hn
      obtain ⟨h0, h1⟩ := hi
      obtain ⟨n, rfl⟩ := Int.eq_ofNat_of_zero_le h0
      have h8 : n / 8 < 1024 := by omega
      have e1 : IntKind.i64.wrap ((n : Int) / 8) = ((n / 8 : Nat) : Int) := by rw [i64wrap_id (by omega) (by omega)]; omega
      have e2 : (n : Int) % 8 = ((n % 8 : Nat) : Int) := by omega
      have hp := pow_lt (n := n)
      simp (disch := omega) only [binE_quo, binE_rem, tdiv_pos, tmod_pos, Pu_some, e1, e2, idx_arr, load_cell g12, binE_shl, Nat.mul_one, Nat.zero_add, Int.toNat_natCast, hb.get h8, IntKind.bits, shl_byte, binE_or, binE_andNot, bits_or (hb.lt _) hp, bits_andNot (hb.lt _) hp, Ite_bool]
      have hsz : n / 8 < c.size := by rw [hb.size]; exact h8
      have fin : ∀ (on : Bool) (m : Nat), m = setN (byt c (n / 8)) (n % 8) on → Ext H (((H.push (.cells c 23)).push (.cells (Array.replicate 1024 (.int .u8 0)) 23)).setIfInBounds H.size (.cells (c.setIfInBounds (n / 8) (.int .u8 m)) 23)) ∧
          (((H.push (.cells c 23)).push (.cells (Array.replicate 1024 (.int .u8 0)) 23)).setIfInBounds H.size (.cells (c.setIfInBounds (n / 8) (.int .u8 m)) 23))[H.size]? = some (.cells (setB c n on) 23) ∧
          ∃ o, o.size = 1024 ∧ (((H.push (.cells c 23)).push (.cells (Array.replicate 1024 (.int .u8 0)) 23)).setIfInBounds H.size (.cells (c.setIfInBounds (n / 8) (.int .u8 m)) 23))[H.size + 1]? = some (.cells o 23) := by
        intro on m hm
        refine ⟨hx2.set (Nat.le_refl _), ?_, Array.replicate 1024 (.int .u8 0), by simp, ?_⟩
        · rw [get_set_same g12, hm]; simp [setB, h1]
        · rw [get_set_other (by omega)]; exact g2
      refine ⟨fun hon => ?_, fun hon => ?_⟩
      · rw [store_cell g12 hsz rfl rfl, Pu_some]
        exact fin on _ (by simp [setN, hon])
      · rw [store_cell g12 hsz rfl rfl, Pu_some]
        exact fin on _ (by simp [setN, hon])
    · simp only [binE_lss, binE_geq, Pu_some, Ite_dec]
      refine ⟨fun h0 => ⟨?_, trivial⟩, fun h0 => ⟨?_, trivial⟩⟩
      · rw [decide_eq_true (by omega)]
      · congr 1; rw [Bool.eq_iff_iff]; simp; omega

theorem inside_ok {f t : Int} {H : Hp} {R : Value → Hp → Prop} (h : R (.tuple #[.int .i64 (max f 0), .int .i64 (min t 8192)]) H) : Fc Try.prog 21 #[.int .i64 f, .int .i64 t] H R := by
  refine fn21 ?_
  simp only [sh21, max_int, min_int, Pu_some]
  exact h

/-- The first clear bit of a span, or -1. -/
def IsFirst (c : Array Value) (f t r : Int) : Prop :=
  (r = -1 ∧ ∀ j, 0 ≤ j → j < 8192 → f ≤ j → j < t → hasB c j = true) ∨
  (0 ≤ r ∧ r < 8192 ∧ f ≤ r ∧ r < t ∧ hasB c r = false ∧ ∀ j, 0 ≤ j → j < r → f ≤ j → hasB c j = true)
theorem IsFirst.uniq {c : Array Value} {f t r r' : Int} (h : IsFirst c f t r) (h' : IsFirst c f t r') : r = r' := by
  rcases h with ⟨rfl, h⟩ | ⟨h1, h2, h3, h4, h5, h6⟩
  · rcases h' with ⟨rfl, _⟩ | ⟨h1, h2, h3, h4, h5, h6⟩
    · rfl
    · rw [h r' h1 h2 h3 h4] at h5; cases h5
  · rcases h' with ⟨rfl, h'⟩ | ⟨k1, k2, k3, k4, k5, k6⟩
    · rw [h' r h1 h2 h3 h4] at h5; cases h5
    · rcases Int.lt_trichotomy r r' with hl | hl | hl
      · rw [k6 r h1 hl h3] at h5; cases h5
      · exact hl
      · rw [h6 r' k1 hl k3] at k5; cases k5

theorem byte_full {c : Array Value} {i j : Int} (hi : i % 8 = 0) (h0 : 0 ≤ i) (h255 : byt c (i.toNat / 8) = 255) (hj : i ≤ j) (hj' : j < i + 8) (h8 : j < 8192) : hasB c j = true := by
  have e : j.toNat / 8 = i.toNat / 8 := by omega
  have : ∀ k, k < 8 → (255 : Nat).testBit k = true := by decide
  simp [hasB, e, h255, this (j.toNat % 8) (by omega)]
  omega

set_option maxHeartbeats 1000000 in
theorem first_ok {c : Array Value} {f t : Int} {H : Hp} {R : Value → Hp → Prop} (hb : IsB c) (hf : f ≤ 9223372036854775807) (h : ∀ r H', IsFirst c f t r → Ext H H' → R (.int .i64 r) H') : Fc Try.prog 12 #[.agg c, .int .i64 f, .int .i64 t] H R := by
  refine fn12 ?_
  simp only [sh12, Box, cells_agg, Any_const]
  refine inside_ok ?_
  have g1 := get_push_new H (.cells c 23)
  have hx1 := Ext.push H (.cells c 23)
  generalize hH : H.push (.cells c 23) = H1 at g1 hx1
  simp only [extractE, List.getElem?_toArray, List.getElem?_cons_zero, List.getElem?_cons_succ, Pu_some]
  refine LoopP.mk (fun s H' => ∃ i : Int, s.1 = .int .i64 i ∧ Ext H1 H' ∧ max f 0 ≤ i ∧ (i ≤ 8192 ∨ i = max f 0) ∧ ∀ j, max f 0 ≤ j → j < i → j < min t 8192 → hasB c j = true) (fun s _ => match s.1 with | .int _ i => (8192 - i).toNat | _ => 0) ⟨_, rfl, Ext.refl _, Int.le_refl _, .inr rfl, fun j h1 h2 => by omega⟩ ?_
  rintro ⟨s, u⟩ H3 ⟨i, hs, hx, hlo, hhi, hall⟩
  simp only at hs
  subst hs
  have g3 := hx.at g1
  simp only [binE_lss, Pu_some, Ite_dec]
  refine ⟨fun hlt => ?_, fun hge => ?_⟩
  · have hi0 : 0 ≤ i := by omega
    have hi8 : i < 8192 := by omega
    refine Join.mk (fun s H' => H' = H3 ∧ ∃ b, s.1 = .bool b ∧ (b = true → i % 8 = 0 ∧ i + 8 ≤ min t 8192 ∧ byt c (i.toNat / 8) = 255)) ?_ ?_
    · rintro ⟨s, u⟩ H4 ⟨rfl, b, hs, hbt⟩
      simp only at hs
      subst hs
      simp only [Ite_bool]
      refine ⟨fun hbb => ?_, fun _ => ?_⟩
      · obtain ⟨h1, h2, h3⟩ := hbt hbb
        simp (disch := omega) only [binE_add, Pu_some, i64wrap_id]
        refine ⟨⟨_, rfl, hx, by omega, .inl (by omega), fun j k1 k2 k3 => ?_⟩, by omega⟩
        by_cases hj : j < i
        · exact hall j k1 hj k3
        · exact byte_full h1 hi0 h3 (by omega) (by omega) (by omega)
      · simp only [load_all g3 hb.size, Pu_some]
        refine has_ok hb fun H' hx' => ?_
        simp only [unE_not, Pu_some, Ite_not]
        refine ⟨fun hh => ?_, fun hh => ?_⟩
        · refine h i H' (.inr ⟨hi0, hi8, by omega, by omega, hh, fun j k1 k2 k3 => hall j (by omega) k2 (by omega)⟩) (hx1.trans (hx.trans hx'))
        · simp (disch := omega) only [binE_add, Pu_some, i64wrap_id]
          refine ⟨⟨_, rfl, hx.trans hx', by omega, .inl (by omega), fun j k1 k2 k3 => ?_⟩, by omega⟩
          by_cases hj : j < i
          · exact hall j k1 hj k3
          · have : j = i := by omega
            rw [this]; exact hh
    · simp (disch := omega) only [binE_rem, tmod_pos, binE_eql, Pu_some, Ite_dec]
      refine ⟨fun hm => ?_, fun _ => ⟨trivial, false, rfl, fun e => by cases e⟩⟩
      simp (disch := omega) only [binE_add, binE_leq, i64wrap_id, Pu_some, Ite_dec]
      refine ⟨fun hl => ?_, fun _ => ⟨trivial, false, rfl, fun e => by cases e⟩⟩
      have h8 : i.toNat / 8 < 1024 := by omega
      have e1 : IntKind.i64.wrap (i / 8) = ((i.toNat / 8 : Nat) : Int) := by rw [i64wrap_id (by omega) (by omega)]; omega
      simp (disch := omega) only [binE_quo, tdiv_pos, Pu_some, e1, idx_arr, load_cell g3, Nat.mul_one, Nat.zero_add, Int.toNat_natCast, hb.get h8, binE_eql]
      exact ⟨trivial, _, rfl, fun e => ⟨hm, hl, by have := of_decide_eq_true e; omega⟩⟩
  · refine h (-1) H3 (.inl ⟨rfl, fun j k1 k2 k3 k4 => hall j (by omega) (by omega) (by omega)⟩) (hx1.trans hx)
/-- An Ask's cells. -/
def askC (i j : Int) (on : Bool) (f m t : Int) : Array Value := #[.int .i64 i, .int .i64 j, .bool on, .int .i64 f, .int .i64 m, .int .i64 t]
def fit64 (x : Int) : Prop := -9223372036854775808 ≤ x ∧ x ≤ 9223372036854775807

end Go.Vc
