/- Bits: the law BitsTaken comes out true. -/
import Derived.Test.YthijablhhnfoeaaBitF
set_option linter.unusedVariables false
set_option linter.unusedSimpArgs false
namespace Go.Vc
open Go.Proofs

theorem cntI_le (c : Array Value) (f t : Int) : 0 ≤ cntI c f t ∧ cntI c f t ≤ 8192 := by
  unfold cntI
  have := cnt_le c (max f 0) (min t 8192 - max f 0).toNat
  omega
theorem cntI_span {c : Array Value} {f t : Int} (h0 : 0 ≤ f) (h1 : f ≤ t) (h2 : t ≤ 8192) : cntI c f t ≤ t - f := by
  unfold cntI
  have := cnt_le c (max f 0) (min t 8192 - max f 0).toNat
  omega

structure InvT (B0 b1 b2 b3 : Nat) (ask : Array Value) (c0 : Array Value) (f t : Int) (H : Hp) (s : Tup 3) (H' : Hp) (tk : List Int) (c : Array Value) (last : Int) : Prop where
  s1 : Sl 3 H' s.1 (vals tk)
  s2 : s.2.1 = .int .i64 last
  s3 : s.2.2.1 = .int .i64 tk.length
  ext : Ext H H'
  g1 : H'[b1]? = some (.cells c 23)
  g2 : H'[b2]? = some (.cells ask 25)
  g3 : H'[b3]? = some (.cells c0 23)
  size : B0 ≤ H'.size
  own : ∀ b, blkOf s.1 = some b → B0 ≤ b
  tkk : Tk c0 c f t tk last
  len : (tk.length : Int) ≤ t - f - cntI c0 f t
  rng : -1 ≤ last ∧ last ≤ 8192

set_option maxHeartbeats 4000000 in
theorem law_taken {c : Array Value} {i j f m t : Int} {on : Bool} {H : Hp} {R : Value → Hp → Prop} (hb : IsB c) (hf : fit64 f) (ht : fit64 t)
    (h : ∀ H', Ext H H' → R (.bool true) H') : Fc Try.prog 5 #[.agg c, .agg (askC i j on f m t)] H R := by
  refine fn5 ?_
  simp only [sh5, Box, cells_agg, Any_const]
  have g1 := get_push_new H (.cells c 23)
  have hx1 := Ext.push H (.cells c 23)
  have hs : (H.push (.cells c 23)).size = H.size + 1 := by simp
  have g2 := get_push_new (H.push (.cells c 23)) (.cells (askC i j on f m t) 25)
  have hx2 := hx1.snoc (.cells (askC i j on f m t) 25)
  have g12 := get_push_old (o := .cells (askC i j on f m t) 25) g1
  have hs2 : ((H.push (.cells c 23)).push (.cells (askC i j on f m t) 25)).size = H.size + 2 := by simp
  rw [hs] at g2
  generalize (H.push (.cells c 23)).push (.cells (askC i j on f m t) 25) = H2 at g2 g12 hx2 hs2
  have ld : ∀ {H'}, Ext H2 H' → ∀ k, loadE (some none) (.pointer (some ⟨H.size + 1, 0 + k, none⟩)) H' = (askC i j on f m t)[k]? := fun hx k => by rw [load_cell (hx.at g2), Nat.zero_add]
  have a3 : (askC i j on f m t)[3]? = some (.int .i64 f) := rfl
  have a5 : (askC i j on f m t)[5]? = some (.int .i64 t) := rfl
  refine lives_ok fun H3 hx3 => ?_
  generalize hf0 : max 0 (min f 8192) = f0
  generalize ht0 : min (max f0 (min t 8192)) (f0 + 200) = t0
  have hr0 : 0 ≤ f0 := by omega
  have hr1 : f0 ≤ t0 := by omega
  have hr2 : t0 ≤ 8192 := by omega
  have hr3 : t0 ≤ f0 + 200 := by omega
  obtain ⟨n0, n1⟩ := cntI_le c f0 t0
  have n2 := cntI_span (c := c) hr0 hr1 hr2
  simp (disch := omega) only [unE_not, Pu_some, Bool.not_true, Ite_false, hs, load_all (hx3.at g12) hb.size, addr_ptr, ld hx3, a3, a5, min_int, max_int, hf0, binE_add, i64wrap_id, ht0, zeroB, cells_agg, binE_sub]
  have g3 := get_push_new H3 (.cells (Array.replicate 1024 (.int .u8 0)) 23)
  have hx4 := hx3.snoc (.cells (Array.replicate 1024 (.int .u8 0)) 23)
  simp only [store_all g3 isB_zero.size hb.size hb.all, Pu_some]
  have g4 := get_set_same (o := .cells c 23) g3
  have hx5 := hx4.set (b := H3.size) (o := .cells c 23) hx3.le
  have hs5 : ((H3.push (.cells (Array.replicate 1024 (.int .u8 0)) 23)).setIfInBounds H3.size (.cells c 23)).size = H3.size + 1 := by simp
  generalize (H3.push (.cells (Array.replicate 1024 (.int .u8 0)) 23)).setIfInBounds H3.size (.cells c 23) = H5 at g4 hx5 hs5
  have hge3 := hx3.le
  simp only [load_all (hx5.at g12) hb.size, Pu_some]
  refine count_ok hb (by omega) fun H6 hx6 => ?_
  have hx26 := hx5.trans hx6
  have hle6 := hx6.le
  have hx06 : Ext H H6 := hx2.trans hx26
  simp (disch := omega) only [binE_sub, i64wrap_id, Pu_some]
  refine LoopP.mk (fun s H' => ∃ tk c' last, InvT H6.size H.size (H.size + 1) H3.size (askC i j on f m t) c f0 t0 H s H' tk c' last) (fun s _ => match s.2.2.1 with | .int _ k => (t0 - f0 - cntI c f0 t0 - k).toNat | _ => 0)
    ⟨[], c, f0 - 1, Sl.nil 3 H6, rfl, rfl, hx06, hx26.at g12, hx26.at g2, hx6.at g4, Nat.le_refl _, fun b hb => (by cases hb), ⟨hb, fun j => by simp, fun x hx => by simp at hx, by omega, fun j h1 h2 => by omega, by simp, List.nodup_nil⟩, by simp only [List.length_nil]; omega, by omega⟩ ?_
  rintro ⟨s1, s2, s3, u⟩ H7 ⟨tk, c', last, inv⟩
  obtain ⟨i1, i2, i3, hx7, k1, k2, k3, hsz, hown, itk, ilen, irng⟩ := inv
  simp only at i1 i2 i3 hown
  subst i2 i3
  have hB := itk.isB
  have n3 := itk.count
  have n4 := cntI_span (c := c') hr0 hr1 hr2
  simp only [binE_lss, Pu_some, Ite_dec, load_all k1 hB.size]
  refine ⟨fun hlt => ?_, fun hge => ?_⟩
  · refine first_ok hB (by omega) fun r H8 hr hx8 => ?_
    obtain ⟨q1, q2, q3⟩ := itk.step hr0 hr2 hr (by omega)
    have hr8 : 0 ≤ r ∧ r < 8192 := by
      rcases hr with ⟨rfl, _⟩ | ⟨r0, r1, _⟩
      · omega
      · exact ⟨r0, r1⟩
    refine Join.mk (fun s H' => H' = H8 ∧ s.1 = .bool false) ?_ ?_
    · rintro ⟨s, u⟩ H9 ⟨rfl, hs⟩
      simp only at hs
      subst hs
      simp only [Ite_false, load_all (hx8.at k1) hB.size, Pu_some]
      refine set_ok hB fun H10 hx10 => ?_
      have hx710 := hx8.trans hx10
      have kk1 := hx710.at k1
      simp only [store_all kk1 hB.size q3.isB.size q3.isB.all, Pu_some, elemI31]
      have hl1 : H.size < H10.size := lt_of_block kk1
      have hl3 : H3.size < H10.size := lt_of_block (hx710.at k3)
      have j1 := get_set_same (o := .cells (setB c' r true) 23) kk1
      have j2 : (H10.setIfInBounds H.size (.cells (setB c' r true) 23))[H.size + 1]? = some (.cells (askC i j on f m t) 25) := by rw [get_set_other (by omega)]; exact hx710.at k2
      have j3 : (H10.setIfInBounds H.size (.cells (setB c' r true) 23))[H3.size]? = some (.cells c 23) := by rw [get_set_other (by omega)]; exact hx710.at k3
      have jx : Ext H (H10.setIfInBounds H.size (.cells (setB c' r true) 23)) := (hx7.trans hx710).set (Nat.le_refl _)
      have js : Sl 3 (H10.setIfInBounds H.size (.cells (setB c' r true) 23)) s1 (vals tk) := (i1.ext hx710).of fun b hb => get_set_other (by have := hown b hb; omega)
      have jsz : H6.size ≤ (H10.setIfInBounds H.size (.cells (setB c' r true) 23)).size := by have := hx710.le; simp; omega
      generalize H10.setIfInBounds H.size (.cells (setB c' r true) 23) = H11 at j1 j2 j3 jx js jsz
      have hne : newSliceE (some ⟨3, 1, 8, #[.int .i64 0]⟩) 1 [(0, .int .i64 r)] = some #[.int .i64 r] := newOne r _ rfl
      simp only [hne, Pu_some, NewS]
      have hp := Ext.push H11 (.cells #[.int .i64 r] 3)
      have hlen : tk.length < 200 := by omega
      refine app_one (T := 3) rfl rfl rfl (by decide) (js.ext hp) (get_push_new H11 _) (xs := #[.int .i64 r]) rfl rfl ?_ ?_
      · rw [vals_len]; show (tk.length + 1) * 8 ≤ 2 ^ 47; omega
      · intro s' H' hs' hle' hsame hnew
        simp (disch := omega) only [binE_add, i64wrap_id, Pu_some]
        have hpsz : (H11.push (.cells #[.int .i64 r] 3)).size = H11.size + 1 := by simp
        have low : ∀ b, b < H6.size → H'[b]? = H11[b]? := fun b hb => by
          rw [hsame b (by omega) (fun e => by have := hown b e; omega), hp.same b (by omega)]
        have hl6 : H.size + 1 < H6.size := by have := lt_of_block (hx26.at g2); exact this
        have hl36 : H3.size < H6.size := lt_of_block (hx6.at g4)
        refine ⟨⟨tk ++ [r], setB c' r true, r, by rw [vals_snoc]; exact hs', rfl, by simp, ⟨by have := jx.le; omega, fun b hb => ?_⟩, ?_, ?_, ?_, by omega, fun b hb => ?_, q3, ?_, by omega⟩, ?_⟩
        · rw [low b (by omega)]; exact jx.same b hb
        · rw [low _ (by omega)]; exact j1
        · rw [low _ (by omega)]; exact j2
        · rw [low _ (by omega)]; exact j3
        · rcases hnew b hb with h1 | h1
          · exact hown b h1
          · omega
        · simp only [List.length_append, List.length_cons, List.length_nil]; omega
        · omega
    · simp only [binE_leq, binE_geq, Pu_some, Ite_dec]
      refine ⟨fun h1 => absurd h1 (by omega), fun _ => ⟨trivial, ?_⟩⟩
      rw [decide_eq_false (by omega)]
  · have hcl : t0 - f0 ≤ cntI c' f0 t0 := by omega
    refine Join.mk (fun s H' => Ext H7 H' ∧ s.1 = .bool false) ?_ ?_
    · rintro ⟨s, u⟩ H8 ⟨hx8, hs⟩
      simp only at hs
      subst hs
      simp only [Ite_false]
      refine LoopP.mk (fun s H' => ∃ (k : Nat) (d : Array Value), s.1 = .int .i64 k ∧ k ≤ tk.length ∧ Ext H H' ∧ H'[H.size]? = some (.cells d 23) ∧ H'[H3.size]? = some (.cells c 23) ∧ Sl 3 H' s1 (vals tk) ∧ IsB d ∧ ∀ j, hasB d j = (hasB c j || decide (j ∈ tk.drop k)))
        (fun s _ => match s.1 with | .int _ k => (tk.length - k).toNat | _ => 0) ⟨0, c', rfl, by omega, hx7.trans hx8, hx8.at k1, hx8.at k3, i1.ext hx8, hB, fun j => by simpa using itk.bits j⟩ ?_
      rintro ⟨s, u⟩ H9 ⟨k, d, hs, hk, hx9, m1, m3, msl, mB, mbits⟩
      simp only at hs
      subst hs
      obtain ⟨sb, scap, hsl⟩ := msl.len
      have hlen : lenE Try.prog 31 s1 = some (.int .i64 tk.length) := by
        rw [hsl, vals_len]; exact len_slice und31
      simp only [hlen, Pu_some, binE_lss, Ite_dec]
      refine ⟨fun hlt => ?_, fun hge => ?_⟩
      · have hk2 : k < tk.length := by omega
        obtain ⟨a, ha1, ha2⟩ := msl.load (k := .i64) (i := k) (by rw [vals_len]; exact hk2)
        have ha3 : (vals tk)[k]? = some (.int .i64 tk[k]) := by rw [vals_get, List.getElem?_eq_getElem hk2]; rfl
        simp only [load_all m1 mB.size, Pu_some, ha1, ha2, ha3]
        refine ⟨_, set_qc mB, fun H10 hx10 => ?_⟩
        have hD := mB.setB tk[k] false
        have hin := itk.ins tk[k] (List.getElem_mem hk2)
        simp only [store_all (hx10.at m1) mB.size hD.size hD.all, Pu_some]
        intro H11 hx11
        have b1 : H.size < H10.size := lt_of_block (hx10.at m1)
        have b3 : H.size + 2 ≤ H3.size := by omega
        simp (disch := omega) only [binE_add, i64wrap_id, Pu_some]
        refine ⟨⟨k + 1, setB d tk[k] false, by simp, hk2, (((hx9.trans hx10).set (Nat.le_refl _)).trans hx11), hx11.at (get_set_same (hx10.at m1)), hx11.at ?_, ?_, hD, fun j => ?_⟩, by omega⟩
        · rw [get_set_other (by omega)]; exact hx10.at m3
        · exact ((msl.ext hx10).of fun b hb => get_set_other (by have := hown b hb; omega)).ext hx11
        · rw [has_setB mB, mbits j]
          have hd : tk.drop k = tk[k] :: tk.drop (k + 1) := List.drop_eq_getElem_cons hk2
          by_cases hj : tk[k] = j
          · have hc0 : hasB c j = false := by rw [← hj]; exact hin.2.2
            have hnd : (tk.drop k).Nodup := itk.nodup.sublist (List.drop_sublist k tk)
            rw [hd, List.nodup_cons, hj] at hnd
            rw [if_pos ⟨hj, by omega, by omega⟩, hc0]
            simp [hnd.1]
          · rw [if_neg (fun e => hj e.1)]
            have hjk : j ≠ tk[k] := fun e => hj e.symm
            have : (j ∈ tk.drop k) ↔ (j ∈ tk.drop (k + 1)) := by rw [hd, List.mem_cons]; exact ⟨fun h => h.resolve_left hjk, .inr⟩
            simp only [this]
      · have hk2 : k = tk.length := by omega
        have hdc : d = c := mB.ext_bits hb fun j _ _ => by rw [mbits j, hk2]; simp
        rw [hdc] at m1
        simp only [load_all m1 hb.size, load_all m3 hb.size, Pu_some, eqXE_eql, eqB_true rowT hb, Option.map_some]
        exact h _ hx9
    · refine first_ok hB (by omega) fun r H8 hr hx8 => ?_
      have hr' := itk.fin hr0 hr2 hcl hr
      subst hr'
      simp only [binE_neq, Pu_some, Ite_dec, load_all (hx8.at k1) hB.size]
      refine ⟨fun hne => absurd rfl hne, fun _ => ?_⟩
      refine count_ok hB (by omega) fun H9 hx9 => ?_
      simp (disch := omega) only [binE_sub, i64wrap_id, binE_neq, Pu_some]
      refine ⟨hx8.trans hx9, ?_⟩
      rw [decide_eq_false (by omega)]
end Go.Vc
