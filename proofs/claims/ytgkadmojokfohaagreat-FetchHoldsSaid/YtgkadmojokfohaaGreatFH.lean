/- FetchHolds: whatever world, whatever is asked for: the law returns true, and the input reads behind the call as it read before. -/
import Derived.Test.YtgkadmojokfohaaGreatFHM
import Derived.Test.YtgkadmojokfohaaGreatFHJ
set_option linter.unusedVariables false
set_option linter.unusedSimpArgs false
namespace Go.Vc
open Go.Proofs
theorem wuAsk : Tryz.prog.underlying 30 = some (.struct (fieldsD (Tryz.prog.underlying 30))) := by kernel_rfl
set_option maxRecDepth 100000 in
theorem ask_of {K : Type} {enc : TypeId × Value → K} {w : World} {sp : Nat → Bool} {hd : Bool} {m : Nat} {v : Value} {x : DataW K × List MemPlace} (h : DataW.trod enc Tryz.prog w 0 sp hd m 30 v.cells.toList = some x) : ∃ a b c : Int, v = .agg #[zl a, zl b, zl c] ∧ (-9223372036854775808 ≤ b ∧ b ≤ 9223372036854775807) := by
 obtain ⟨xs, n, rfl, _, h1, h2, h3⟩ := DataW.trod_struct wuAsk h
 rw [show Tryz.prog.cellsOf 30 = 3 by kernel_rfl] at h1
 obtain ⟨y0, a0, _⟩ := zU (i := 0) (o := 0) (t := 3) h2 h3 (by kernel_rfl)
 obtain ⟨y1, a1, _⟩ := zU (i := 1) (o := 1) (t := 3) h2 h3 (by kernel_rfl)
 obtain ⟨y2, a2, _⟩ := zU (i := 2) (o := 2) (t := 3) h2 h3 (by kernel_rfl)
 rw [wcInt] at a0 a1 a2
 obtain ⟨q0, b0, _, w0⟩ := DataW.trod_int yL a0
 obtain ⟨q1, b1, _, w1⟩ := DataW.trod_int yL a1
 obtain ⟨q2, b2, _, w2⟩ := DataW.trod_int yL a2
 have b0 := Z1 b0
 have b1 := Z1 b1
 have b2 := Z1 b2
 refine ⟨q0, q1, q2, (agg_of ?_).trans ?_, wf_i64 w1⟩
 · rw [← Array.length_toList, h1]; omega
 · congr 1
   apply Array.ext_getElem?
   intro i
   rw [← Array.getElem?_toList]
   match i with
   | 0 => exact b0
   | 1 => exact b1
   | 2 => exact b2
   | i + 3 => rw [List.getElem?_eq_none (by omega), Array.getElem?_eq_none (by simp)]
set_option maxRecDepth 100000 in
theorem askTs : Tryz.prog.cellTypes Tryz.prog.depth 30 = some [3, 3, 3] := by kernel_rfl
set_option maxRecDepth 100000 in
theorem ask_ok {W : World} {base : Nat} : Value.okWide Tryz.prog W .any base 30 (.agg #[zl 0, zl 0, zl 0]) := by
 refine okWide_cells wuAsk rfl (show Tryz.prog.cellsOf 30 = 3 by kernel_rfl) askTs rfl rfl fun i u hu => ?_
 match i, hu with
 | 0, hu => injection hu with hu; subst hu; exact ⟨_, rfl, ZA yL (by decide) (by decide)⟩
 | 1, hu => injection hu with hu; subst hu; exact ⟨_, rfl, ZA yL (by decide) (by decide)⟩
 | 2, hu => injection hu with hu; subst hu; exact ⟨_, rfl, ZA yL (by decide) (by decide)⟩
 | i + 3, hu => simp at hu
end Go.Vc
namespace Go.Proofs.YtgkadmojokfohaaGreat
open Go.Vc
set_option maxRecDepth 100000 in
theorem fetchHolds_lifted (os : Os) (started : os.Started) (H : Type) (enc : TypeId × Value → H) :
   ReturnsInHanded {} Tryz.checked os 3 .any (Rows.fetchHoldsSpec.pre6 enc Tryz.prog Tryz.f3 Rows.fetchHoldsRow.domain false) (Rows.fetchHoldsSpec.post enc Tryz.prog Tryz.f3 false true false false) := by
 refine returnsInHanded_of_change_sized (C := Tryz.checked) own started (by kernel_rfl) Tryz.func3
   (witness_hand (enc := enc) (C := Tryz.checked) #[.agg (wldC 0 0 0 (.slice none 0 0) 0 0 0), .agg #[zl 0, zl 0, zl 0], zl 0] 8 (by kernel_rfl) (by kernel_rfl) Tryz.func3 (by kernel_rfl) ⟨rfl, rfl, rfl, rfl⟩ (fun W base j t v ht hv => by
     match j, ht, hv with
     | 0, ht, hv => injection ht with ht; injection hv with hv; subst ht hv; exact world_ok
     | 1, ht, hv => injection ht with ht; injection hv with hv; subst ht hv; exact ask_ok
     | 2, ht, hv => injection ht with ht; injection hv with hv; subst ht hv; exact int_ok yL (by decide) (by decide)) (by kernel_rfl) (by kernel_rfl)) ?_
 intro W base args ds gs before hval0 hW hcnd hz _
 have hW' := hW
 obtain ⟨p, q, hA, hV, rfl, hfz, hnd⟩ := hW
 obtain ⟨v, w, y, rfl⟩ := args3 hA
 obtain ⟨cut, rfl, hc1, hc2⟩ := open_int yL (hval0 2 3 y (by kernel_rfl) rfl)
 rw [min_i64] at hc1
 rw [max_i64] at hc2
 have key : Fc Tryz.prog 3 #[v, w, zl cut] W.heap (fun v H' => v = .bool true ∧ Ext W.heap H') := by
   match ds, hA, hz with
   | [d1, d2, d3], hA, hz =>
     obtain ⟨p1, q1, ⟨f1, h1⟩, ⟨p2, q2, ⟨f2, h2⟩, _⟩, _⟩ := hA
     have hw1 : ∀ n ∈ d1.weights Tryz.prog 28, n ≤ reachBytes := fun n hn => of_decide_eq_true (List.all_eq_true.1 hz n (DataW.weights_mem_each (j := 0) rfl rfl n hn))
     obtain ⟨B, L, I, iv, fr, sp, seed, its, rfl, hB, hs, hst, hits, hlen, hiv⟩ := world_of h1 hw1
     obtain ⟨x0, x1, x2, rfl, hx1⟩ := ask_of h2
     exact law_holds hB hst hits hlen hs hiv hx1 ⟨hc1, hc2⟩ fun H' hx => ⟨rfl, hx⟩
 refine (Fc.calls key).mono fun e W' ⟨v, he, ⟨hv, hx⟩, hs⟩ => ?_
 subst hv
 exact ⟨_, he, law_post laidOut undBool rfl (by kernel_rfl) (by kernel_rfl) hW' (fun e1 e2 => by
   match ds, gs, e1, e2 with
   | [d0, d1, d2], [], _, _ => rfl) hs hx⟩
set_option maxRecDepth 100000 in
set_option maxHeartbeats 4000000 in
theorem fetchHolds_joined : joinedFacts Tryz.pinned.checked.prog 3 Tryz.f3 Rows.fetchHoldsSpec Rows.fetchHoldsRow = true := by
 unfold joinedFacts
 simp only [Bool.and_eq_true]
 repeat' apply And.intro
 all_goals (as_aux_lemma => kernel_rfl)
set_option maxRecDepth 100000 in
theorem fetchHolds_named : Tryz.pinned.checked.prog.funcNamed Rows.fetchHoldsRow.func = some 3 := by kernel_rfl
set_option maxRecDepth 100000 in
theorem fetchHolds_inst : Tryz.f3.isInstance Tryz.pinned.checked.prog Rows.fetchHoldsRow.origin Rows.fetchHoldsRow.targs := of_decide_eq_true (by kernel_rfl)
set_option maxRecDepth 100000 in
theorem fetchHolds_wrap : Tryz.f3.isWrapper Tryz.pinned.checked.prog Rows.fetchHoldsRow.wrapper Rows.fetchHoldsRow.mainSum := by
 unfold Func.isWrapper
 first | (rw [if_pos (by decide +kernel)]; kernel_rfl) | (rw [if_neg (by decide +kernel)]; exact ⟨rfl, rfl⟩)
set_option maxRecDepth 100000 in
theorem fetchHolds_over : Rows.fetchHoldsRow.holds Tryz.pinned (OpenSpec.ofChange Rows.fetchHoldsSpec) :=
 OpenClaim.holds_of_wide 3 Tryz.f3 rfl rfl rfl rfl rfl rfl rfl ⟨rfl, rfl, rfl, rfl, rfl⟩ rfl rfl rfl rfl rfl fetchHolds_named Tryz.func3 fetchHolds_joined fetchHolds_inst fetchHolds_wrap
   (fun os started H enc _ => fetchHolds_lifted os started H enc)
theorem fetchHolds : Rows.FetchHoldsSaid := fetchHolds_over
#print axioms fetchHolds
end Go.Proofs.YtgkadmojokfohaaGreat
