/- Bits: the law BitsSet comes out true. -/
import Derived.Test.YthijablhhnfoeaaBitC
set_option linter.unusedVariables false
set_option linter.unusedSimpArgs false
namespace Go.Vc
open Go.Proofs

theorem has_qc {c : Array Value} {i : Int} {H : Hp} (hb : IsB c) : QC true Try.prog 11 #[.agg c, .int .i64 i] H (.bool (hasB c i)) :=
  fun _ _ => has_ok hb fun _ hx => ⟨rfl, hx⟩
theorem set_qc {c : Array Value} {i : Int} {on : Bool} {H : Hp} (hb : IsB c) : QC true Try.prog 9 #[.agg c, .int .i64 i, .bool on] H (.agg (setB c i on)) :=
  fun _ _ => set_ok hb fun _ hx => ⟨rfl, hx⟩
theorem first_qc {c : Array Value} {f t r : Int} {H : Hp} (hb : IsB c) (hf : f ≤ 9223372036854775807) (hr : IsFirst c f t r) : QC true Try.prog 12 #[.agg c, .int .i64 f, .int .i64 t] H (.int .i64 r) :=
  fun _ _ => first_ok hb hf fun _ _ h hx => ⟨by rw [h.uniq hr], hx⟩
theorem count_qc {c : Array Value} {f t : Int} {H : Hp} (hb : IsB c) (hf : f ≤ 9223372036854775807) : QC true Try.prog 13 #[.agg c, .int .i64 f, .int .i64 t] H (.int .i64 (cntI c f t)) :=
  fun _ _ => count_ok hb hf fun _ hx => ⟨rfl, hx⟩

theorem eq_ite {v : Bool} {A : Prop} (h : v = true) (h2 : A) : Ite (.bool (!v)) False A := by
  subst h; exact h2

set_option maxHeartbeats 1000000 in
theorem law_set {c : Array Value} {i j f m t : Int} {on : Bool} {H : Hp} {R : Value → Hp → Prop} (hb : IsB c) (hi : fit64 i) (hj : fit64 j)
    (h : ∀ H', Ext H H' → R (.bool true) H') : Fc Try.prog 3 #[.agg c, .agg (askC i j on f m t)] H R := by
  refine fn3 ?_
  simp only [sh3, Box, cells_agg, Any_const]
  have g1 := get_push_new H (.cells c 23)
  have hx1 := Ext.push H (.cells c 23)
  have hs : (H.push (.cells c 23)).size = H.size + 1 := by simp
  have g2 := get_push_new (H.push (.cells c 23)) (.cells (askC i j on f m t) 25)
  have hx2 := hx1.snoc (.cells (askC i j on f m t) 25)
  have g12 := get_push_old (o := .cells (askC i j on f m t) 25) g1
  rw [hs] at g2
  generalize (H.push (.cells c 23)).push (.cells (askC i j on f m t) 25) = H2 at g2 g12 hx2
  have ld : ∀ {H'}, Ext H2 H' → ∀ k, loadE (some none) (.pointer (some ⟨H.size + 1, 0 + k, none⟩)) H' = (askC i j on f m t)[k]? := fun hx k => by rw [load_cell (hx.at g2), Nat.zero_add]
  have a0 : (askC i j on f m t)[0]? = some (.int .i64 i) := rfl
  have a1 : (askC i j on f m t)[1]? = some (.int .i64 j) := rfl
  have a2 : (askC i j on f m t)[2]? = some (.bool on) := rfl
  simp only [hs, load_all g12 hb.size, Pu_some, addr_ptr, ld (Ext.refl _), a0, a2]
  refine set_ok hb fun H3 hx3 => ?_
  simp only [zeroB, Pu_some, cells_agg]
  have hB := hb.setB i on
  have hbit := fun j => has_setB hb i j on
  generalize setB c i on = d at hB hbit
  have g4 := get_push_new H3 (.cells (Array.replicate 1024 (.int .u8 0)) 23)
  have hx4 := hx3.snoc (.cells (Array.replicate 1024 (.int .u8 0)) 23)
  simp only [store_all g4 isB_zero.size hB.size hB.all, Pu_some]
  have g5 := get_set_same (o := .cells d 23) g4
  have hx5 := hx4.set (b := H3.size) (o := .cells d 23) hx3.le
  generalize (H3.push (.cells (Array.replicate 1024 (.int .u8 0)) 23)).setIfInBounds H3.size (.cells d 23) = H5 at g5 hx5
  refine lives_ok fun H6 hx6 => ?_
  have hx26 := hx5.trans hx6
  have fin : ∀ H', Ext H6 H' → R (.bool true) H' := fun H' hx => h H' (hx2.trans (hx26.trans hx))
  have ld6 := fun k => ld hx26 k
  simp only [unE_not, Pu_some, Bool.not_true, Ite_false]
  refine Join.mk (fun s H' => H' = H6 ∧ s.1 = .bool (decide (i = j ∧ 0 ≤ i ∧ i < 8192))) ?_ ?_
  · rintro ⟨s, u⟩ H7 ⟨rfl, hs⟩
    simp only at hs
    subst hs
    simp only [Ite_dec, load_all (hx6.at g5) hB.size, load_all (hx26.at g12) hb.size, addr_ptr, ld6, a1, a2, Pu_some]
    refine ⟨fun hc => ⟨_, has_qc hB, ?_⟩, fun hc => ⟨_, has_qc hB, _, has_qc hb, ?_⟩⟩
    · simp only [binE_eqb, Pu_some]
      intro H8 hx8
      rw [hbit j, if_pos hc]
      simpa using fin H8 hx8
    · simp only [binE_eqb, Pu_some]
      intro H8 hx8
      rw [hbit j, if_neg hc]
      simpa using fin H8 hx8
  · simp only [addr_ptr, ld6, a0, a1, Pu_some, binE_eql, binE_geq, binE_lss, Ite_dec]
    refine ⟨fun h1 => ⟨fun h2 => ⟨trivial, ?_⟩, fun h2 => ⟨trivial, ?_⟩⟩, fun h1 => ⟨trivial, ?_⟩⟩
    · congr 1; rw [Bool.eq_iff_iff]; simp [h1]; omega
    · congr 1; rw [Bool.eq_iff_iff]; simp; omega
    · congr 1; rw [Bool.eq_iff_iff]; simp; omega

set_option maxHeartbeats 2000000 in
theorem law_first {c : Array Value} {i j f m t : Int} {on : Bool} {H : Hp} {R : Value → Hp → Prop} (hb : IsB c) (hf : fit64 f)
    (h : ∀ H', Ext H H' → R (.bool true) H') : Fc Try.prog 4 #[.agg c, .agg (askC i j on f m t)] H R := by
  refine fn4 ?_
  simp only [sh4, Box, cells_agg, Any_const]
  have g1 := get_push_new H (.cells c 23)
  have hx1 := Ext.push H (.cells c 23)
  have hs : (H.push (.cells c 23)).size = H.size + 1 := by simp
  have g2 := get_push_new (H.push (.cells c 23)) (.cells (askC i j on f m t) 25)
  have hx2 := hx1.snoc (.cells (askC i j on f m t) 25)
  have g12 := get_push_old (o := .cells (askC i j on f m t) 25) g1
  rw [hs] at g2
  generalize (H.push (.cells c 23)).push (.cells (askC i j on f m t) 25) = H2 at g2 g12 hx2
  have ld : ∀ {H'}, Ext H2 H' → ∀ k, loadE (some none) (.pointer (some ⟨H.size + 1, 0 + k, none⟩)) H' = (askC i j on f m t)[k]? := fun hx k => by rw [load_cell (hx.at g2), Nat.zero_add]
  have a3 : (askC i j on f m t)[3]? = some (.int .i64 f) := rfl
  have a5 : (askC i j on f m t)[5]? = some (.int .i64 t) := rfl
  refine lives_ok fun H3 hx3 => ?_
  simp only [unE_not, Pu_some, Bool.not_true, Ite_false, hs, load_all (hx3.at g12) hb.size, addr_ptr, ld hx3, a3, a5]
  refine first_ok hb hf.2 fun r H4 hr hx4 => ?_
  have hx24 := hx3.trans hx4
  have fin : ∀ H', Ext H4 H' → R (.bool true) H' := fun H' hx => h H' (hx2.trans (hx24.trans hx))
  refine Join.mk (fun s H' => Ext H4 H' ∧ s.1 = .bool false) ?_ ?_
  · rintro ⟨s, u⟩ H5 ⟨hx5, hs⟩
    simp only at hs
    subst hs
    simp only [Ite_false]
    refine LoopP.mk (fun s H' => ∃ k : Int, s.1 = .int .i64 k ∧ Ext H4 H' ∧ 0 ≤ k ∧ k ≤ 8192) (fun s _ => match s.1 with | .int _ i => (8192 - i).toNat | _ => 0) ⟨0, rfl, hx5, by omega, by omega⟩ ?_
    rintro ⟨s, u⟩ H6 ⟨k, hs, hx6, hk0, hk1⟩
    simp only at hs
    subst hs
    have hx26 := hx24.trans hx6
    simp only [binE_lss, Pu_some, Ite_dec]
    refine ⟨fun hlt => ?_, fun _ => fin H6 hx6⟩
    refine Join.mk (fun s H' => Ext H4 H' ∧ s.1 = .bool false) ?_ ?_
    · rintro ⟨s, u⟩ H7 ⟨hx7, hs⟩
      simp only at hs
      subst hs
      simp (disch := omega) only [Ite_false, binE_add, i64wrap_id, Pu_some]
      exact ⟨⟨k + 1, rfl, hx7, by omega, by omega⟩, by omega⟩
    · simp only [addr_ptr, ld hx26, a3, a5, Pu_some, binE_geq, Ite_dec, binE_lss, load_all (hx26.at g12) hb.size, unE_not]
      have key : f ≤ k → k < t → r < 0 ∨ k < r → hasB c k = true := fun h1 h2 h3 => by
        rcases hr with ⟨rfl, hall⟩ | ⟨r0, r1, r2, r3, r4, hall⟩
        · exact hall k hk0 hlt h1 h2
        · exact hall k hk0 (by omega) h1
      refine ⟨fun h1 => ⟨fun h2 => ⟨fun h3 => ?_, fun h3 => ⟨fun h4 => ?_, fun h4 => ⟨hx6, trivial⟩⟩⟩, fun h2 => ⟨hx6, trivial⟩⟩, fun h1 => ⟨hx6, trivial⟩⟩
      · refine has_ok hb fun H8 hx8 => ?_
        rw [key h1 h2 (.inl h3), unE_not, Pu_some, Bool.not_true]
        exact ⟨hx6.trans hx8, rfl⟩
      · refine has_ok hb fun H8 hx8 => ?_
        rw [key h1 h2 (.inr h4), unE_not, Pu_some, Bool.not_true]
        exact ⟨hx6.trans hx8, rfl⟩
  · simp only [addr_ptr, ld hx24, a3, a5, Pu_some, binE_geq, binE_lss, binE_gtr, Ite_dec, load_all (hx24.at g12) hb.size]
    rcases hr with ⟨rfl, hall⟩ | ⟨r0, r1, r2, r3, r4, hall⟩
    · exact ⟨fun h0 => absurd h0 (by omega), fun _ => ⟨Ext.refl _, rfl⟩⟩
    · refine ⟨fun _ => ⟨fun h1 => absurd h1 (by omega), fun _ => ⟨fun h2 => absurd h2 (by omega), fun _ => ⟨fun h3 => absurd h3 (by omega), fun _ => ?_⟩⟩⟩, fun h0 => absurd r0 h0⟩
      refine has_ok hb fun H8 hx8 => ?_
      rw [r4, Ite_false]
      exact ⟨hx8, by rw [decide_eq_false (by omega)]⟩
end Go.Vc
