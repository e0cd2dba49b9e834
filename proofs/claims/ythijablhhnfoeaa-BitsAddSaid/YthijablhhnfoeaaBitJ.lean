/- Bits: the law BitsAdd comes out true. -/
import Derived.Test.YthijablhhnfoeaaBitI
set_option linter.unusedVariables false
set_option linter.unusedSimpArgs false
namespace Go.Vc
open Go.Proofs

theorem cntI_add {c : Array Value} {f m t : Int} (h1 : f ≤ m) (h2 : m ≤ t) : cntI c f m + cntI c m t = cntI c f t := by
  unfold cntI
  by_cases hm : m < 0
  · have e1 : (min m 8192 - max f 0).toNat = 0 := by omega
    have e2 : max m 0 = max f 0 := by omega
    rw [e1, e2]; simp [cnt]
  · by_cases hm2 : 8192 ≤ m
    · have e1 : (min t 8192 - max m 0).toNat = 0 := by omega
      have e2 : min m 8192 = min t 8192 := by omega
      rw [e1, e2]; simp [cnt]
    · by_cases hf : 8192 < f
      · omega
      · have e1 : (min t 8192 - max f 0).toNat = (min m 8192 - max f 0).toNat + (min t 8192 - max m 0).toNat := by omega
        have e2 : max f 0 + (((min m 8192 - max f 0).toNat : Nat) : Int) = max m 0 := by omega
        rw [e1, cnt_add, e2]; omega

set_option maxHeartbeats 4000000 in
theorem law_add {c : Array Value} {i j f m t : Int} {on : Bool} {H : Hp} {R : Value → Hp → Prop} (hb : IsB c) (hf : fit64 f) (hm : fit64 m) (ht : fit64 t)
    (h : ∀ H', Ext H H' → R (.bool true) H') : Fc Try.prog 7 #[.agg c, .agg (askC i j on f m t)] H R := by
  refine fn7 ?_
  simp only [sh7, Box, cells_agg, Any_const]
  have g1 := get_push_new H (.cells c 23)
  have hx1 := Ext.push H (.cells c 23)
  have hs : (H.push (.cells c 23)).size = H.size + 1 := by simp
  have g2 := get_push_new (H.push (.cells c 23)) (.cells (askC i j on f m t) 25)
  have hx2 := hx1.snoc (.cells (askC i j on f m t) 25)
  have g12 := get_push_old (o := .cells (askC i j on f m t) 25) g1
  rw [hs] at g2
  generalize (H.push (.cells c 23)).push (.cells (askC i j on f m t) 25) = H2 at g2 g12 hx2
  have ld : ∀ {H'}, Ext H2 H' → ∀ k, loadE (some none) (.pointer (some ⟨H.size + 1, 0 + k, none⟩)) H' = (askC i j on f m t)[k]? := fun hx k => by rw [load_cell (hx.at g2), Nat.zero_add]
  have a3 : (askC i j on f m t)[3]? = some (.int .i64 f) := rfl
  have a4 : (askC i j on f m t)[4]? = some (.int .i64 m) := rfl
  have a5 : (askC i j on f m t)[5]? = some (.int .i64 t) := rfl
  refine lives_ok fun H3 hx3 => ?_
  simp only [unE_not, Pu_some, Bool.not_true, Ite_false, hs, load_all (hx3.at g12) hb.size, addr_ptr, ld hx3, a3, a5]
  refine walk_ok hb hf.2 fun s H4 hx34 hsl => ?_
  have hx4 := hx3.trans hx34
  have hcl := bsOf_len c f t
  obtain ⟨sb, scap, hse⟩ := hsl.len
  have hlen : lenE Try.prog 31 s = some (.int .i64 (cntI c f t)) := by
    rw [hse, vals_len, ← hcl]; exact len_slice und31
  have hc1 := cntI_le c f t
  have fin : ∀ H', Ext H4 H' → R (.bool true) H' := fun H' hx => h H' (hx2.trans (hx4.trans hx))
  simp only [extractE, List.getElem?_toArray, List.getElem?_cons_zero, List.getElem?_cons_succ, Pu_some]
  refine Join.mk (fun s H' => Ext H4 H' ∧ s.1 = .bool false) ?_ ?_
  · rintro ⟨s', u⟩ H5 ⟨hx5, hs'⟩
    simp only at hs'
    subst hs'
    have hx25 := hx4.trans hx5
    simp only [Ite_false]
    refine Join.mk (fun s H' => H' = H5 ∧ s.1 = .bool (decide (m < f ∨ t < m))) ?_ ?_
    · rintro ⟨s', u⟩ H6 ⟨rfl, hs'⟩
      simp only at hs'
      subst hs'
      simp only [Ite_dec]
      refine ⟨fun _ => fin _ hx5, fun hc => ?_⟩
      have hfm : f ≤ m := by omega
      have hmt : m ≤ t := by omega
      have hsum := cntI_add (c := c) hfm hmt
      have k1 := cntI_le c f m
      have k2 := cntI_le c m t
      simp only [load_all (hx25.at g12) hb.size, addr_ptr, ld hx25, a3, a4, a5, Pu_some]
      refine ⟨_, count_qc hb hf.2, _, count_qc hb hm.2, ?_⟩
      simp (disch := omega) only [binE_add, i64wrap_id, Pu_some]
      refine ⟨_, count_qc hb hf.2, ?_⟩
      simp only [binE_eql, Pu_some]
      intro H7 hx7
      rw [decide_eq_true hsum]
      exact fin H7 (hx5.trans hx7)
    · simp only [addr_ptr, ld hx25, a3, a4, a5, Pu_some, binE_gtr, Ite_dec]
      refine ⟨fun h1 => ⟨trivial, ?_⟩, fun h1 => ⟨trivial, ?_⟩⟩
      · rw [decide_eq_true (by omega)]
      · congr 1; rw [Bool.eq_iff_iff]; simp; omega
  · simp only [unE_not, Pu_some, Bool.not_true, Ite_false, load_all (hx4.at g12) hb.size, addr_ptr, ld hx4, a3, a5]
    refine count_ok hb hf.2 fun H5 hx5 => ?_
    simp only [hlen, Pu_some, binE_neq]
    refine ⟨hx5, ?_⟩
    rw [decide_eq_false (by simp)]
end Go.Vc
