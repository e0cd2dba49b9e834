/- Bits: the laws BitsCalls and BitsNames come out true. -/
import Derived.Test.YthijablhhnfoeaaBitL
import Derived.Test.YthijablhhnfoeaaBitD
set_option linter.unusedVariables false
set_option linter.unusedSimpArgs false
namespace Go.Vc
open Go.Proofs

theorem first_ex (c : Array Value) (f t : Int) : ∃ r, IsFirst c f t r := by
  have key : ∀ n : Nat, (n : Int) ≤ 8192 → (∃ r, IsFirst c f t r) ∨ ∀ j : Int, 0 ≤ j → j < n → f ≤ j → j < t → hasB c j = true := by
    intro n
    induction n with
    | zero => intro _; exact .inr fun j h0 h1 => by omega
    | succ n ih =>
      intro hn
      rcases ih (by omega) with h | h
      · exact .inl h
      · by_cases hc : hasB c n = false ∧ f ≤ n ∧ (n : Int) < t
        · exact .inl ⟨n, .inr ⟨by omega, by omega, hc.2.1, hc.2.2, hc.1, fun j k1 k2 k3 => h j k1 k2 k3 (by omega)⟩⟩
        · refine .inr fun j k1 k2 k3 k4 => ?_
          by_cases hj : j < n
          · exact h j k1 hj k3 k4
          · have : j = n := by omega
            subst this
            cases hv : hasB c n with
            | true => rfl
            | false => exact absurd ⟨hv, k3, k4⟩ hc
  rcases key 8192 (by omega) with h | h
  · exact h
  · exact ⟨-1, .inl ⟨rfl, fun j h0 h1 h2 h3 => h j h0 (by omega) h2 h3⟩⟩

/-- The set bits of a span below i. -/
def upB (c : Array Value) (f t i : Int) : List Int := bl c (max f 0) (min (min t 8192) i - max f 0).toNat
theorem upB_len (c : Array Value) (f t i : Int) (h : i ≤ 8192) : (upB c f t i).length ≤ 8192 := by
  have h1 : (upB c f t i).length = _ := bl_len c (max f 0) (min (min t 8192) i - max f 0).toNat
  have h2 := cnt_le c (max f 0) (min (min t 8192) i - max f 0).toNat
  omega
theorem upB_step {c : Array Value} {f t i : Int} (h0 : 0 ≤ i) (h8 : i < 8192) : upB c f t (i + 1) = upB c f t i ++ if hasB c i = true ∧ f ≤ i ∧ i < t then [i] else [] := by
  unfold upB
  by_cases h1 : i < f
  · have e1 : (min (min t 8192) (i + 1) - max f 0).toNat = 0 := by omega
    have e2 : (min (min t 8192) i - max f 0).toNat = 0 := by omega
    rw [e1, e2, if_neg (by omega)]; simp
  · by_cases h2 : i < t
    · have e1 : min (min t 8192) (i + 1) = i + 1 := by omega
      have e2 : min (min t 8192) i = i := by omega
      rw [e1, e2, bl_step (by omega)]
      congr 1
      by_cases hb : hasB c i = true
      · rw [if_pos hb, if_pos ⟨hb, by omega, h2⟩]
      · rw [if_neg hb, if_neg (fun h => hb h.1)]
    · have e1 : min (min t 8192) (i + 1) = min (min t 8192) i := by omega
      rw [e1, if_neg (by omega)]; simp

set_option maxHeartbeats 2000000 in
theorem refAll_ok {c : Array Value} {f t : Int} {H : Hp} {R : Value → Hp → Prop} (hb : IsB c) (h : ∀ s H', Ext H H' → Sl 3 H' s (vals (bsOf c f t)) → R s H') : Fc Try.prog 14 #[.agg c, .int .i64 f, .int .i64 t] H R := by
  refine fn14 ?_
  have hx1 := Ext.push H (.cells c 23)
  have g1 := get_push_new H (.cells c 23)
  simp only [sh14, Box, cells_agg, Any_const]
  have hsz1 : (H.push (.cells c 23)).size = H.size + 1 := by simp
  generalize H.push (.cells c 23) = H1 at g1 hx1 hsz1
  refine LoopP.mk (fun s H' => ∃ i : Int, s.2.1 = .int .i64 i ∧ 0 ≤ i ∧ i ≤ 8192 ∧ Ext H1 H' ∧ Sl 3 H' s.1 (vals (upB c f t i)) ∧ ∀ b, blkOf s.1 = some b → H1.size ≤ b) (fun s _ => match s.2.1 with | .int _ i => (8192 - i).toNat | _ => 0) ⟨0, rfl, by omega, by omega, Ext.refl _, ?_, fun b hb => by cases hb⟩ ?_
  · have e1 : upB c f t 0 = [] := by
      unfold upB
      have e : (min (min t 8192) 0 - max f 0).toNat = 0 := by omega
      rw [e]; rfl
    rw [e1]; exact Sl.nil 3 H1
  rintro ⟨s1, s2, u⟩ H2 ⟨i, hs2, h0, h8, hx, hsl, hbk⟩
  simp only at hs2
  subst hs2
  simp only [binE_lss, Pu_some, Ite_dec]
  refine ⟨fun hlt => ?_, fun hge => ?_⟩
  · simp only [load_all (hx.at g1) hb.size, Pu_some]
    refine refHas_ok hb fun H3 hx3 => ?_
    refine Join.mk (fun s H' => H' = H3 ∧ s.1 = .bool (decide (hasB c i = true ∧ f ≤ i ∧ i < t))) ?_ ?_
    · rintro ⟨s, u⟩ H4 ⟨rfl, hs⟩
      simp only at hs
      subst hs
      have hst := upB_step (c := c) (f := f) (t := t) h0 hlt
      have hsl4 := hsl.ext hx3
      simp only [Ite_dec]
      refine ⟨fun hy => ?_, fun hn => ?_⟩
      · have hne : newSliceE (some ⟨3, 1, 8, #[.int .i64 0]⟩) 1 [(0, .int .i64 i)] = some #[.int .i64 i] := newOne i _ rfl
        simp only [elemI31, hne, Pu_some, NewS]
        have hp := Ext.push H4 (.cells #[.int .i64 i] 3)
        have hx24 := hx.trans hx3
        refine app_one (T := 3) rfl rfl rfl (by decide) (hsl4.ext hp) (get_push_new H4 _) (xs := #[.int .i64 i]) rfl rfl ?_ ?_
        · rw [vals_len]
          have hl := upB_len c f t i h8
          show ((upB c f t i).length + 1) * 8 ≤ 2 ^ 47
          omega
        · intro s' H5 hs' hle' hsame hnew
          simp (disch := omega) only [binE_add, i64wrap_id, Pu_some]
          have hle := hx24.le
          have hps : (H4.push (.cells #[.int .i64 i] 3)).size = H4.size + 1 := by simp
          refine ⟨⟨i + 1, rfl, by omega, by omega, ?_, ?_, ?_⟩, by omega⟩
          · refine ⟨by omega, fun b hbb => ?_⟩
            rw [hsame b (by omega) (fun e => by have := hbk b e; omega), hp.same b (by omega)]
            exact hx24.same b hbb
          · rw [hst, if_pos hy, vals_snoc]; exact hs'
          · intro b hbb
            rcases hnew b hbb with h1 | h1
            · exact hbk b h1
            · omega
      · simp (disch := omega) only [binE_add, i64wrap_id, Pu_some]
        refine ⟨⟨i + 1, rfl, by omega, by omega, hx.trans hx3, ?_, hbk⟩, by omega⟩
        rw [hst, if_neg hn]; simpa using hsl4
    · simp only [binE_geq, binE_lss, Pu_some, Ite_bool, Ite_dec]
      refine ⟨fun h1 => ⟨fun h2 => ⟨trivial, ?_⟩, fun h2 => ⟨trivial, ?_⟩⟩, fun h1 => ⟨trivial, ?_⟩⟩
      · have h2 := of_decide_eq_true h2
        congr 1; rw [decide_eq_decide]; simp [h1, h2]
      · have h2 := of_decide_eq_false h2
        rw [decide_eq_false (fun e => h2 e.2.1)]
      · rw [decide_eq_false (fun e => by rw [e.1] at h1; cases h1)]
  · have hi : i = 8192 := by omega
    subst hi
    have e1 : upB c f t 8192 = bsOf c f t := by
      unfold upB bsOf
      have e : min (min t 8192) 8192 = min t 8192 := by omega
      rw [e]
    rw [e1] at hsl
    exact h s1 H2 (hx1.trans hx) hsl

set_option maxHeartbeats 4000000 in
theorem law_calls {c : Array Value} {i j f m t : Int} {on : Bool} {H : Hp} {R : Value → Hp → Prop} (hb : IsB c) (hf : fit64 f) (hj : fit64 j)
    (h : ∀ H', Ext H H' → R (.bool true) H') : Fc Try.prog 6 #[.agg c, .agg (askC i j on f m t)] H R := by
  refine fn6 ?_
  simp only [sh6, Box, cells_agg, Any_const]
  have g1 := get_push_new H (.cells c 23)
  have hx1 := Ext.push H (.cells c 23)
  have hs : (H.push (.cells c 23)).size = H.size + 1 := by simp
  have g2 := get_push_new (H.push (.cells c 23)) (.cells (askC i j on f m t) 25)
  have hx2 := hx1.snoc (.cells (askC i j on f m t) 25)
  have g12 := get_push_old (o := .cells (askC i j on f m t) 25) g1
  rw [hs] at g2
  generalize (H.push (.cells c 23)).push (.cells (askC i j on f m t) 25) = H2 at g2 g12 hx2
  have ld : ∀ {H'}, Ext H2 H' → ∀ k, loadE (some none) (.pointer (some ⟨H.size + 1, 0 + k, none⟩)) H' = (askC i j on f m t)[k]? := fun hx k => by rw [load_cell (hx.at g2), Nat.zero_add]
  have a0 : (askC i j on f m t)[0]? = some (.int .i64 i) := rfl
  have a1 : (askC i j on f m t)[1]? = some (.int .i64 j) := rfl
  have a2 : (askC i j on f m t)[2]? = some (.bool on) := rfl
  have a3 : (askC i j on f m t)[3]? = some (.int .i64 f) := rfl
  have a5 : (askC i j on f m t)[5]? = some (.int .i64 t) := rfl
  simp only [hs, load_all g12 hb.size, Pu_some, addr_ptr, ld (Ext.refl _), a3, a5]
  refine refAll_ok hb fun s H3 hx3 hsl => ?_
  obtain ⟨sb, scap, hse⟩ := hsl.len
  obtain ⟨r, hr⟩ := first_ex c f t
  have hB := hb.setB i on
  refine Join.mk (fun s' H' => Ext H3 H' ∧ s'.1 = .bool true) ?_ ?_
  · rintro ⟨s', u⟩ H4 ⟨hx4, hs'⟩
    simp only at hs'
    subst hs'
    have hx24 := hx3.trans hx4
    refine Join.mk (fun s' H' => Ext H4 H' ∧ s'.1 = .bool true) ?_ ?_
    · rintro ⟨s', u⟩ H5 ⟨hx5, hs'⟩
      simp only at hs'
      subst hs'
      have hx25 := hx24.trans hx5
      simp only [Ite_true, load_all (hx25.at g12) hb.size, addr_ptr, ld hx25, a1, a3, a5, Pu_some]
      refine ⟨_, fun H' hx => pick_ok (x := j) (n := 20) (by omega) (by omega) ⟨rfl, Ext.refl _⟩, ?_⟩
      intro H6 hx6
      refine again_ok hb hf.2 (hsl.ext (hx4.trans (hx5.trans hx6))) fun H7 hx7 => ?_
      intro H8 hx8
      exact h H8 (hx2.trans (hx25.trans (hx6.trans (hx7.trans hx8))))
    · simp only [load_all (hx24.at g12) hb.size, addr_ptr, ld hx24, a3, a5, Pu_some]
      refine ⟨_, first_qc hb hf.2 hr, _, refFirst_qc hb hr, ?_⟩
      simp only [binE_eql, Pu_some, decide_true, Ite_true]
      refine ⟨_, count_qc hb hf.2, ?_⟩
      have hlen : lenE Try.prog 31 s = some (.int .i64 (cntI c f t)) := by
        rw [hse, vals_len, ← bsOf_len]; exact len_slice und31
      simp only [hlen, Pu_some, binE_eql, decide_true]
      intro H5 hx5
      exact ⟨hx5, trivial⟩
  · simp only [load_all (hx3.at g12) hb.size, addr_ptr, ld hx3, a0, a2, Pu_some]
    refine ⟨_, has_qc hb, _, refHas_qc hb, ?_⟩
    simp only [binE_eqb, Pu_some, beq_self_eq_true, Ite_true]
    refine ⟨_, set_qc hb, _, refSet_qc hb, ?_⟩
    simp only [eqXE_eql, eqB_true rowT hB, Option.map_some, Pu_some]
    intro H5 hx5
    exact ⟨hx5, trivial⟩

theorem cnt_full {c : Array Value} {a : Int} : ∀ n : Nat, (∀ j, a ≤ j → j < a + n → hasB c j = true) → cnt c a n = n
  | 0, _ => rfl
  | n + 1, h => by
    rw [cnt, cnt_full n fun j h1 h2 => h j h1 (by omega), h (a + n) (by omega) (by omega)]; rfl
theorem bl_none {c : Array Value} {a : Int} : ∀ n : Nat, (∀ j, a ≤ j → j < a + n → hasB c j = false) → bl c a n = []
  | 0, _ => rfl
  | n + 1, h => by
    rw [bl, bl_none n fun j h1 h2 => h j h1 (by omega), h (a + n) (by omega) (by omega)]; rfl

theorem buildB : buildE Try.prog 23 [] = some (.agg (Array.replicate 1024 (.int .u8 0))) := by kernel_rfl

set_option maxHeartbeats 8000000 in
theorem law_names {H : Hp} {R : Value → Hp → Prop} (h : ∀ H', Ext H H' → R (.bool true) H') : Fc Try.prog 8 #[] H R := by
  refine fn8 ?_
  simp only [sh8, Box, buildB, zeroB, Pu_some, cells_agg, Any_const]
  refine set_ok isB_zero fun H1 hx1 => ?_
  have hc := isB_zero.setB 9 true
  have hbit := fun j => has_setB isB_zero 9 j true
  generalize setB (Array.replicate 1024 (.int .u8 0)) 9 true = c at hc hbit
  have hbit' : ∀ j, hasB c j = decide (j = 9) := by
    intro j
    rw [hbit j, hasB_zero]
    by_cases hj : 9 = j
    · subst hj; simp
    · have : ¬ j = 9 := fun e => hj e.symm
      simp [hj, this]
  have g2 := get_push_new H1 (.cells (Array.replicate 1024 (.int .u8 0)) 23)
  have hx2 := hx1.snoc (.cells (Array.replicate 1024 (.int .u8 0)) 23)
  have hsz2 : (H1.push (.cells (Array.replicate 1024 (.int .u8 0)) 23)).size = H1.size + 1 := by simp
  generalize H1.push (.cells (Array.replicate 1024 (.int .u8 0)) 23) = H2 at g2 hx2 hsz2
  simp only [store_all g2 isB_zero.size hc.size hc.all, Pu_some]
  have g3 := get_set_same (o := .cells c 23) g2
  have hx3 := hx2.set (b := H1.size) (o := .cells c 23) hx1.le
  have hsz3 : (H2.setIfInBounds H1.size (.cells c 23)).size = H1.size + 1 := by simp [hsz2]
  generalize H2.setIfInBounds H1.size (.cells c 23) = H3 at g3 hx3 hsz3
  have g4 := get_push_new H3 (.cells (Array.replicate 1024 (.int .u8 0)) 23)
  have g34 := get_push_old (o := .cells (Array.replicate 1024 (.int .u8 0)) 23) g3
  have hx4 := hx3.snoc (.cells (Array.replicate 1024 (.int .u8 0)) 23)
  have hle1 := hx1.le
  generalize H3.push (.cells (Array.replicate 1024 (.int .u8 0)) 23) = H4 at g4 hx4 g34
  refine LoopP.mk (fun s H' => ∃ (k : Nat) (a : Array Value), s.1 = .int .i64 (k : Int) ∧ k ≤ 1024 ∧ IsB a ∧ Ext H H' ∧ H'[H1.size]? = some (.cells c 23) ∧ H'[H3.size]? = some (.cells a 23) ∧ ∀ j, j < k → byt a j = 255) (fun s _ => match s.1 with | .int _ i => (1024 - i).toNat | _ => 0)
    ⟨0, _, rfl, by omega, isB_zero, hx4, g34, g4, fun j hj => by omega⟩ ?_
  rintro ⟨s, u⟩ H5 ⟨k, a, hs, hk, ha, hx5, gc, ga, hall⟩
  simp only at hs
  subst hs
  simp only [binE_lss, Pu_some, Ite_dec]
  refine ⟨fun hlt => ?_, fun hge => ?_⟩
  · have hk' : k < 1024 := by omega
    have hsz : k < a.size := by rw [ha.size]; exact hk'
    simp (disch := omega) only [idx_arr, Pu_some, Nat.mul_one, Nat.zero_add, Int.toNat_natCast, binE_add, i64wrap_id]
    rw [store_cell ga hsz rfl rfl, Pu_some]
    refine ⟨⟨k + 1, _, by simp, by omega, ha.set k (m := 255) (by omega), hx5.set (by omega), ?_, get_set_same ga, fun j hj => ?_⟩, by omega⟩
    · rw [get_set_other (by omega)]; exact gc
    · have hbs := byt_set ha hk' 255 j
      by_cases hjk : k = j
      · rw [if_pos hjk] at hbs; exact hbs
      · rw [if_neg hjk, hall j (by omega)] at hbs; exact hbs
  · have hk' : k = 1024 := by omega
    subst hk'
    have hfull : ∀ j : Int, 0 ≤ j → j < 8192 → hasB a j = true := by
      intro j h0 h8
      have e := hall (j.toNat / 8) (by omega)
      have e2 : ∀ k, k < 8 → (255 : Nat).testBit k = true := by decide
      have hr : decide (0 ≤ j ∧ j < 8192) = true := decide_eq_true ⟨h0, h8⟩
      simp only [hasB, hr, Bool.true_and, e]
      exact e2 _ (by omega)
    refine Join.mk (fun s' H' => Ext H5 H' ∧ s'.1 = .bool true) ?_ ?_
    · rintro ⟨s', u⟩ H6 ⟨hx6, hs'⟩
      simp only at hs'
      subst hs'
      refine Join.mk (fun s' H' => Ext H6 H' ∧ s'.1 = .bool true) ?_ ?_
      · rintro ⟨s', u⟩ H7 ⟨hx7, hs'⟩
        simp only at hs'
        subst hs'
        have hx57 := hx6.trans hx7
        have hne : newSliceE (some ⟨3, 1, 8, #[.int .i64 0]⟩) 1 [(0, .int .i64 9)] = some #[.int .i64 9] := newOne 9 _ rfl
        simp only [Ite_true, load_all (hx57.at gc) hc.size, elemI31, hne, Pu_some, NewS]
        have hx8 := Ext.push H7 (.cells #[.int .i64 9] 3)
        have g8 := get_push_new H7 (.cells #[.int .i64 9] 3)
        generalize H7.push (.cells #[.int .i64 9] 3) = H8 at hx8 g8
        have hb9 : bsOf c 0 8192 = [9] := by
          have e1 : bsOf c 0 8192 = bl c 0 (9 + (1 + 8182)) := rfl
          rw [e1, bl_split, bl_split, bl_none 9 (fun j h1 h2 => by rw [hbit']; exact decide_eq_false (by omega)), bl_none 8182 (fun j h1 h2 => by rw [hbit']; exact decide_eq_false (by omega))]
          simp [bl, hbit']
        have hb10 : bsOf c 10 8192 = [] := by
          have e1 : bsOf c 10 8192 = bl c 10 8182 := rfl
          rw [e1, bl_none 8182 (fun j h1 h2 => by rw [hbit']; exact decide_eq_false (by omega))]
        refine again_ok hc (by omega) (by
          rw [hb9]
          exact ⟨some ⟨H7.size, 0, none⟩, 1, rfl, Nat.le_refl _, rfl, _, g8, Nat.le_refl _, fun i hi => by
            have : i = 0 := by simp [vals] at hi; omega
            subst this; rfl⟩) fun H9 hx9 => ?_
        simp only [Ite_true, load_all ((hx57.trans (hx8.trans hx9)).at gc) hc.size, Pu_some]
        refine again_ok hc (by omega) (by rw [hb10]; exact Sl.nil 3 H9) fun H10 hx10 => ?_
        exact h H10 (hx5.trans (hx57.trans (hx8.trans (hx9.trans hx10))))
      · have c1 : cntI a 0 8192 = 8192 := by
          show ((cnt a 0 8192 : Nat) : Int) = 8192
          rw [cnt_full 8192 (fun j h1 h2 => hfull j h1 (by omega))]; rfl
        have c2 : cntI a 10 5 = 0 := rfl
        have c3 : cntI a (-8) 3 = 3 := by
          show ((cnt a 0 3 : Nat) : Int) = 3
          rw [cnt_full 3 (fun j h1 h2 => hfull j h1 (by omega))]; rfl
        have c4 : cntI a 8190 9000 = 2 := by
          show ((cnt a 8190 2 : Nat) : Int) = 2
          rw [cnt_full 2 (fun j h1 h2 => hfull j (by omega) (by omega))]; rfl
        simp only [load_all (hx6.at ga) ha.size, Pu_some]
        refine count_ok ha (by omega) fun H7 hx7 => ?_
        simp only [c1, binE_eql, Pu_some, decide_true, Ite_true, load_all ((hx6.trans hx7).at ga) ha.size]
        refine count_ok ha (by omega) fun H8 hx8 => ?_
        simp only [c2, binE_eql, Pu_some, decide_true, Ite_true, load_all ((hx6.trans (hx7.trans hx8)).at ga) ha.size]
        refine count_ok ha (by omega) fun H9 hx9 => ?_
        simp only [c3, binE_eql, Pu_some, decide_true, Ite_true, load_all ((hx6.trans (hx7.trans (hx8.trans hx9))).at ga) ha.size]
        refine count_ok ha (by omega) fun H10 hx10 => ?_
        simp only [c4, binE_eql, Pu_some, decide_true]
        exact ⟨hx7.trans (hx8.trans (hx9.trans hx10)), trivial⟩
    · have f1 : IsFirst c 0 8192 0 := .inr ⟨by omega, by omega, by omega, by omega, by rw [hbit']; rfl, fun j h1 h2 h3 => by omega⟩
      have f2 : IsFirst c 9 8192 10 := .inr ⟨by omega, by omega, by omega, by omega, by rw [hbit']; rfl, fun j h1 h2 h3 => by rw [hbit']; exact decide_eq_true (by omega)⟩
      have f3 : IsFirst c 9 10 (-1) := .inl ⟨rfl, fun j h1 h2 h3 h4 => by rw [hbit']; exact decide_eq_true (by omega)⟩
      have f4 : IsFirst c (-5) 1 0 := .inr ⟨by omega, by omega, by omega, by omega, by rw [hbit']; rfl, fun j h1 h2 h3 => by omega⟩
      simp only [load_all gc hc.size, Pu_some]
      refine has_ok hc fun H6 hx6 => ?_
      simp only [hbit', decide_true, Ite_true, load_all (hx6.at gc) hc.size, Pu_some]
      refine has_ok hc fun H7 hx7 => ?_
      simp only [hbit', show decide ((8 : Int) = 9) = false from rfl, unE_not, Bool.not_false, Pu_some, Ite_true, load_all ((hx6.trans hx7).at gc) hc.size]
      refine has_ok hc fun H8 hx8 => ?_
      simp only [hbit', show decide ((8192 : Int) = 9) = false from rfl, unE_not, Bool.not_false, Pu_some, Ite_true, load_all ((hx6.trans (hx7.trans hx8)).at gc) hc.size]
      refine has_ok hc fun H9 hx9 => ?_
      have hx59 := hx6.trans (hx7.trans (hx8.trans hx9))
      simp only [hbit', show decide ((-1 : Int) = 9) = false from rfl, unE_not, Bool.not_false, Pu_some, Ite_true, load_all (hx59.at gc) hc.size]
      refine first_ok (f := 0) (t := 8192) hc (by omega) fun r H10 hr hx10 => ?_
      rw [hr.uniq f1]
      simp only [binE_eql, Pu_some, decide_true, Ite_true, load_all ((hx59.trans hx10).at gc) hc.size]
      refine first_ok (f := 9) (t := 8192) hc (by omega) fun r H11 hr hx11 => ?_
      rw [hr.uniq f2]
      simp only [binE_eql, Pu_some, decide_true, Ite_true, load_all ((hx59.trans (hx10.trans hx11)).at gc) hc.size]
      refine first_ok (f := 9) (t := 10) hc (by omega) fun r H12 hr hx12 => ?_
      rw [hr.uniq f3]
      simp only [binE_eql, Pu_some, decide_true, Ite_true, load_all ((hx59.trans (hx10.trans (hx11.trans hx12))).at gc) hc.size]
      refine first_ok (f := -5) (t := 1) hc (by omega) fun r H13 hr hx13 => ?_
      rw [hr.uniq f4]
      simp only [binE_eql, Pu_some, decide_true]
      exact ⟨hx59.trans (hx10.trans (hx11.trans (hx12.trans hx13))), trivial⟩
end Go.Vc
