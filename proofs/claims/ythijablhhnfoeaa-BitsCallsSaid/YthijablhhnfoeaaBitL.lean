/- Bits: the document's own functions (undercroftref02). -/
import Derived.Test.YthijablhhnfoeaaBitK
set_option linter.unusedVariables false
set_option linter.unusedSimpArgs false
namespace Go.Vc
open Go.Proofs

set_option maxHeartbeats 1000000 in
theorem refHas_ok {c : Array Value} {i : Int} {H : Hp} {R : Value → Hp → Prop} (hb : IsB c) (h : ∀ H', Ext H H' → R (.bool (hasB c i)) H') : Fc Try.prog 15 #[.agg c, .int .i64 i] H R := by
  refine fn15 ?_
  have hx := Ext.push H (.cells c 23)
  have hg := get_push_new H (.cells c 23)
  simp only [sh15, Box, cells_agg, Any_const]
  generalize H.push (.cells c 23) = H1 at hx hg
  refine Join.mk (fun s H' => H' = H1 ∧ s.1 = .bool (decide (i < 0 ∨ 8192 ≤ i))) ?_ ?_
  · rintro ⟨s, u⟩ H2 ⟨rfl, hs⟩
    simp only at hs
    subst hs
    simp only [Ite_dec]
    refine ⟨fun ho => ?_, fun hn => ?_⟩
    · have := h _ hx
      have hf : decide (0 ≤ i ∧ i < 8192) = false := decide_eq_false (by omega)
      simpa [hasB, hf] using this
    · obtain ⟨n, rfl⟩ := Int.eq_ofNat_of_zero_le (show 0 ≤ i by omega)
      have h8 : n / 8 < 1024 := by omega
      have e1 : IntKind.i64.wrap ((n : Int) / 8) = ((n / 8 : Nat) : Int) := by rw [i64wrap_id (by omega) (by omega)]; omega
      have e2 : (n : Int) % 8 = ((n % 8 : Nat) : Int) := by omega
      have hlt := hb.lt (n / 8)
      simp (disch := omega) only [binE_quo, tdiv_pos, Pu_some, e1, idx_arr, load_cell hg, Nat.mul_one, Nat.zero_add, Int.toNat_natCast, hb.get h8, conv_int, i64wrap_id]
      refine LoopP.mk (fun s H' => H' = H2 ∧ ∃ k m : Nat, s.1 = .int .i64 (m : Int) ∧ s.2.1 = .int .i64 (k : Int) ∧ k ≤ n % 8 ∧ m < 256 ∧ m = byt c (n / 8) / 2 ^ k) (fun s _ => match s.2.1 with | .int _ k => (8 - k).toNat | _ => 0) ⟨rfl, 0, _, rfl, rfl, by omega, hlt, by simp⟩ ?_
      rintro ⟨s1, s2, u⟩ H3 ⟨rfl, k, m, hs1, hs2, hk, hm, hme⟩
      simp only at hs1 hs2
      subst hs1 hs2
      simp (disch := omega) only [binE_rem, tmod_pos, e2, Pu_some, binE_lss, Ite_dec]
      refine ⟨fun hlt => ?_, fun hge => ?_⟩
      · simp (disch := omega) only [binE_quo, tdiv_pos, binE_add, i64wrap_id, Pu_some]
        refine ⟨⟨trivial, k + 1, m / 2, by simp, by simp, by omega, by omega, ?_⟩, by omega⟩
        rw [hme, Nat.pow_succ, Nat.div_div_eq_div_mul]
      · have hk' : k = n % 8 := by omega
        subst hk'
        simp (disch := omega) only [binE_rem, tmod_pos, binE_eql, Pu_some]
        have := h _ hx
        have hr : decide (0 ≤ (n : Int) ∧ (n : Int) < 8192) = true := decide_eq_true (by omega)
        have he : hasB c n = decide ((m : Int) % 2 = 1) := by
          simp only [hasB, hr, Bool.true_and, Int.toNat_natCast, Nat.testBit_eq_decide_div_mod_eq]
          rw [← hme, decide_eq_decide]
          omega
        rw [← he]
        exact this
  · simp only [binE_lss, binE_geq, Pu_some, Ite_dec]
    refine ⟨fun h0 => ⟨trivial, ?_⟩, fun h0 => ⟨trivial, ?_⟩⟩
    · rw [decide_eq_true (by omega)]
    · congr 1; rw [decide_eq_decide]; omega
theorem refHas_qc {c : Array Value} {i : Int} {H : Hp} (hb : IsB c) : QC true Try.prog 15 #[.agg c, .int .i64 i] H (.bool (hasB c i)) :=
  fun H' hx => refHas_ok hb fun H'' hx' => ⟨rfl, hx'⟩

theorem bit_on : ∀ n, n < 256 → ∀ k, k < 8 → n.testBit k = false → n ||| 2 ^ k = n + 2 ^ k ∧ n + 2 ^ k < 256 := by decide +kernel
theorem bit_off : ∀ n, n < 256 → ∀ k, k < 8 → n.testBit k = true → n &&& (255 - 2 ^ k) = n - 2 ^ k ∧ 2 ^ k ≤ n := by decide +kernel
theorem setB_same {c : Array Value} (hb : IsB c) {i : Int} {on : Bool} (h : hasB c i = on) : setB c i on = c := by
  refine (hb.setB i on).ext_bits hb fun j h0 h8 => ?_
  rw [has_setB hb]
  split
  · rename_i hh; rw [← hh.1, h]
  · rfl
theorem setB_out {c : Array Value} {i : Int} {on : Bool} (h : i < 0 ∨ 8192 ≤ i) : setB c i on = c := by
  unfold setB; rw [if_neg (by omega)]

set_option maxHeartbeats 2000000 in
theorem refSet_ok {c : Array Value} {i : Int} {on : Bool} {H : Hp} {R : Value → Hp → Prop} (hb : IsB c) (h : ∀ H', Ext H H' → R (.agg (setB c i on)) H') : Fc Try.prog 16 #[.agg c, .int .i64 i, .bool on] H R := by
  refine fn16 ?_
  have hx1 := Ext.push H (.cells c 23)
  have g1 := get_push_new H (.cells c 23)
  have hs1 : (H.push (.cells c 23)).size = H.size + 1 := by simp
  simp only [sh16, Box, zeroB, Pu_some, cells_agg, Any_const, hs1]
  generalize H.push (.cells c 23) = Ha at hx1 g1 hs1
  have hx2 := hx1.snoc (.cells (Array.replicate 1024 (.int .u8 0)) 23)
  have g12 := get_push_old (o := .cells (Array.replicate 1024 (.int .u8 0)) 23) g1
  have g2 := get_push_new Ha (.cells (Array.replicate 1024 (.int .u8 0)) 23)
  rw [hs1] at g2
  generalize Ha.push (.cells (Array.replicate 1024 (.int .u8 0)) 23) = H2 at hx2 g12 g2
  have z2 : (Array.replicate 1024 (Value.int .u8 0)).size = 1024 := by simp
  have fin : ∀ H3 : Hp, Ext H H3 → H3[H.size]? = some (.cells (setB c i on) 23) → (∃ o, o.size = 1024 ∧ H3[H.size + 1]? = some (.cells o 23)) →
      Pu (loadE (some (some 1024)) (.pointer (some ⟨H.size, 0, none⟩)) H3) fun x6 => Pu (storeE (some 1024) (.pointer (some ⟨H.size + 1, 0, none⟩)) x6 H3) fun H4 => Pu (loadE (some (some 1024)) (.pointer (some ⟨H.size + 1, 0, none⟩)) H4) fun x7 => R x7 H4 := by
    rintro H3 hx k1 ⟨o, ho, k2⟩
    have hB := hb.setB i on
    have k3 := get_set_same (o := .cells (setB c i on) 23) k2
    simp only [load_all k1 hB.size, Pu_some, store_all k2 ho hB.size hB.all, load_all k3 hB.size]
    exact h _ (hx.set (by omega))
  refine Join.mk (fun s H' => ∃ b, s.1 = .bool b ∧ Ext H2 H' ∧ (b = true → setB c i on = c) ∧ (b = false → 0 ≤ i ∧ i < 8192 ∧ hasB c i = !on)) ?_ ?_
  · rintro ⟨s, u⟩ H3 ⟨b, hs, hx3, ht, hf⟩
    simp only at hs
    subst hs
    simp only [Ite_bool]
    refine ⟨fun hbt => fin H3 (hx2.trans hx3) (by rw [ht hbt]; exact hx3.at g12) ⟨_, z2, hx3.at g2⟩, fun hbf => ?_⟩
    obtain ⟨h0, h1, hh⟩ := hf hbf
    obtain ⟨n, rfl⟩ := Int.eq_ofNat_of_zero_le h0
    have h8 : n / 8 < 1024 := by omega
    have e1 : IntKind.i64.wrap ((n : Int) / 8) = ((n / 8 : Nat) : Int) := by rw [i64wrap_id (by omega) (by omega)]; omega
    have e2 : (n : Int) % 8 = ((n % 8 : Nat) : Int) := by omega
    have hlt := hb.lt (n / 8)
    have hr : decide (0 ≤ (n : Int) ∧ (n : Int) < 8192) = true := decide_eq_true (by omega)
    simp only [hasB, hr, Bool.true_and, Int.toNat_natCast] at hh
    refine LoopP.mk (fun s H' => H' = H3 ∧ ∃ k m : Nat, s.1 = .int .u8 (m : Int) ∧ s.2.1 = .int .i64 (k : Int) ∧ k ≤ n % 8 ∧ m = 2 ^ k) (fun s _ => match s.2.1 with | .int _ k => (8 - k).toNat | _ => 0) ⟨rfl, 0, 1, rfl, rfl, by omega, by simp⟩ ?_
    rintro ⟨s1, s2, u⟩ H4 ⟨rfl, k, m, hs1, hs2, hk, hme⟩
    simp only at hs1 hs2
    subst hs1 hs2
    simp (disch := omega) only [binE_rem, tmod_pos, e2, Pu_some, binE_lss, Ite_dec]
    refine ⟨fun hlt => ?_, fun hge => ?_⟩
    · have hp : 2 ^ k ≤ 2 ^ 6 := Nat.pow_le_pow_right (by omega) (by omega)
      simp (disch := omega) only [binE_mul, binE_add, i64wrap_id, u8wrap_id, Pu_some]
      refine ⟨⟨trivial, k + 1, 2 * m, by simp, by simp, by omega, ?_⟩, by omega⟩
      rw [hme, Nat.pow_succ]; omega
    · have hk' : k = n % 8 := by omega
      subst hk'
      have k12 := hx3.at g12
      have hsz : n / 8 < c.size := by rw [hb.size]; exact h8
      refine Join.mk (fun _ H' => Ext H H' ∧ H'[H.size]? = some (.cells (setB c n on) 23) ∧ ∃ o, o.size = 1024 ∧ H'[H.size + 1]? = some (.cells o 23)) (fun _ H6 w => fin H6 w.1 w.2.1 w.2.2) ?_
      have wr : ∀ m' : Nat, m' = setN (byt c (n / 8)) (n % 8) on → Ext H (H4.setIfInBounds H.size (.cells (c.setIfInBounds (n / 8) (.int .u8 m')) 23)) ∧ (H4.setIfInBounds H.size (.cells (c.setIfInBounds (n / 8) (.int .u8 m')) 23))[H.size]? = some (.cells (setB c n on) 23) ∧
          ∃ o, o.size = 1024 ∧ (H4.setIfInBounds H.size (.cells (c.setIfInBounds (n / 8) (.int .u8 m')) 23))[H.size + 1]? = some (.cells o 23) := by
        intro m' hm'
        refine ⟨(hx2.trans hx3).set (Nat.le_refl _), ?_, _, z2, ?_⟩
        · rw [get_set_same k12, hm']; simp [setB, h1]
        · rw [get_set_other (by omega)]; exact hx3.at g2
      simp (disch := omega) only [Ite_bool, binE_quo, tdiv_pos, Pu_some, e1, idx_arr, load_cell k12, Nat.mul_one, Nat.zero_add, Int.toNat_natCast, hb.get h8, binE_add, binE_sub]
      refine ⟨fun hon => ?_, fun hon => ?_⟩
      · subst hon
        obtain ⟨p1, p2⟩ := bit_on _ hlt _ (by omega) hh
        rw [show ((byt c (n / 8) : Int) + (m : Int)) = ((byt c (n / 8) + m : Nat) : Int) by omega, u8wrap_id (by omega) (by rw [hme]; omega), store_cell k12 hsz rfl rfl, Pu_some]
        exact wr _ (by simp [setN, p1, hme])
      · subst hon
        obtain ⟨p1, p2⟩ := bit_off _ hlt _ (by omega) hh
        rw [show ((byt c (n / 8) : Int) - (m : Int)) = ((byt c (n / 8) - m : Nat) : Int) by rw [hme]; omega, u8wrap_id (by omega) (by omega), store_cell k12 hsz rfl rfl, Pu_some]
        exact wr _ (by simp [setN, p1, hme])
  · simp only [binE_lss, binE_geq, Pu_some, Ite_dec]
    refine ⟨fun h0 => ⟨true, rfl, Ext.refl _, fun _ => setB_out (.inl h0), fun e => by cases e⟩, fun h0 => ⟨fun h1 => ⟨true, rfl, Ext.refl _, fun _ => setB_out (.inr h1), fun e => by cases e⟩, fun h1 => ?_⟩⟩
    simp only [load_all g12 hb.size, Pu_some]
    refine refHas_ok hb fun H3 hx3 => ?_
    simp only [binE_eqb, Pu_some]
    refine ⟨_, rfl, hx3, fun e => setB_same hb (by simpa using e), fun e => ⟨by omega, by omega, ?_⟩⟩
    cases hv : hasB c i <;> cases on <;> simp_all
theorem refSet_qc {c : Array Value} {i : Int} {on : Bool} {H : Hp} (hb : IsB c) : QC true Try.prog 16 #[.agg c, .int .i64 i, .bool on] H (.agg (setB c i on)) :=
  fun H' hx => refSet_ok hb fun H'' hx' => ⟨rfl, hx'⟩

set_option maxHeartbeats 1000000 in
theorem refFirst_ok {c : Array Value} {f t : Int} {H : Hp} {R : Value → Hp → Prop} (hb : IsB c) (h : ∀ r H', IsFirst c f t r → Ext H H' → R (.int .i64 r) H') : Fc Try.prog 17 #[.agg c, .int .i64 f, .int .i64 t] H R := by
  refine fn17 ?_
  have hx1 := Ext.push H (.cells c 23)
  have g1 := get_push_new H (.cells c 23)
  simp only [sh17, Box, cells_agg, Any_const]
  generalize H.push (.cells c 23) = H1 at g1 hx1
  refine LoopP.mk (fun s H' => ∃ i : Int, s.1 = .int .i64 i ∧ Ext H1 H' ∧ 0 ≤ i ∧ i ≤ 8192 ∧ ∀ j, 0 ≤ j → j < i → f ≤ j → j < t → hasB c j = true) (fun s _ => match s.1 with | .int _ i => (8192 - i).toNat | _ => 0) ⟨0, rfl, Ext.refl _, Int.le_refl _, by omega, fun j h1 h2 => by omega⟩ ?_
  rintro ⟨s, u⟩ H3 ⟨i, hs, hx, hlo, hhi, hall⟩
  simp only at hs
  subst hs
  have g3 := hx.at g1
  simp only [binE_lss, Pu_some, Ite_dec]
  refine ⟨fun hlt => ?_, fun hge => ?_⟩
  · simp only [load_all g3 hb.size, Pu_some]
    refine refHas_ok hb fun H' hx' => ?_
    refine Join.mk (fun s H'' => H'' = H' ∧ s.1 = .bool (decide (hasB c i = false ∧ f ≤ i ∧ i < t))) ?_ ?_
    · rintro ⟨s, u⟩ H4 ⟨rfl, hs⟩
      simp only at hs
      subst hs
      simp only [Ite_dec]
      refine ⟨fun hy => ?_, fun hn => ?_⟩
      · exact h i _ (.inr ⟨hlo, hlt, hy.2.1, hy.2.2, hy.1, fun j k1 k2 k3 => hall j k1 k2 k3 (by omega)⟩) (hx1.trans (hx.trans hx'))
      · simp (disch := omega) only [binE_add, Pu_some, i64wrap_id]
        refine ⟨⟨_, rfl, hx.trans hx', by omega, by omega, fun j k1 k2 k3 k4 => ?_⟩, by omega⟩
        by_cases hj : j < i
        · exact hall j k1 hj k3 k4
        · have : j = i := by omega
          subst this
          cases hv : hasB c j with
          | true => rfl
          | false => exact absurd ⟨hv, k3, k4⟩ hn
    · simp only [unE_not, Pu_some, binE_geq, binE_lss, Ite_not, Ite_dec]
      refine ⟨fun h1 => ⟨fun h2 => ⟨trivial, ?_⟩, fun h2 => ⟨trivial, ?_⟩⟩, fun h1 => ⟨trivial, ?_⟩⟩
      · congr 1; rw [decide_eq_decide]; simp [h1, h2]
      · rw [decide_eq_false (fun e => h2 e.2.1)]
      · rw [decide_eq_false (fun e => by rw [e.1] at h1; cases h1)]
  · refine h (-1) H3 (.inl ⟨rfl, fun j k1 k2 k3 k4 => hall j k1 (by omega) k3 k4⟩) (hx1.trans hx)
theorem refFirst_qc {c : Array Value} {f t r : Int} {H : Hp} (hb : IsB c) (hr : IsFirst c f t r) : QC true Try.prog 17 #[.agg c, .int .i64 f, .int .i64 t] H (.int .i64 r) :=
  fun H' hx => refFirst_ok hb fun r' H'' hr' hx' => ⟨by rw [hr.uniq hr'], hx'⟩

/-- A number modulo n, from 0 on. -/
theorem pick_ok {x n : Int} {H : Hp} {R : Value → Hp → Prop} (hn : 0 < n) (hn2 : n ≤ 9223372036854775807) (h : R (.int .i64 (x % n)) H) : Fc Try.prog 19 #[.int .i64 x, .int .i64 n] H R := by
  refine fn19 ?_
  have h1 := Int.tmod_lt_of_pos x hn
  have hm0 := Int.emod_nonneg x (show n ≠ 0 by omega)
  have hml := Int.emod_lt_of_pos x hn
  have he := Int.tmod_eq_emod (a := x) (b := n)
  have hna : (n.natAbs : Int) = n := by omega
  simp (disch := omega) only [sh19, binE_rem, Pu_some, binE_lss, Ite_dec, binE_add]
  by_cases hc : 0 ≤ x ∨ n ∣ x
  · rw [if_pos hc] at he
    rw [he]
    refine ⟨fun hl => absurd hl (by omega), fun _ => ?_⟩
    rw [show x % n - ((0 : Nat) : Int) = x % n by omega]; exact h
  · rw [if_neg hc, hna] at he
    rw [he]
    refine ⟨fun _ => ?_, fun hg => absurd hg (by omega)⟩
    rw [i64wrap_id (by omega) (by omega), show x % n - n + n = x % n by omega]; exact h
end Go.Vc
