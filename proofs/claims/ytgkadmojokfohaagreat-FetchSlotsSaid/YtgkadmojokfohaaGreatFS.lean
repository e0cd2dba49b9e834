/- FetchSlots: whatever world, whichever item: the law returns true, and the input reads behind the call as it read before. -/
import Derived.Test.YtgkadmojokfohaaGreatFSM
import Derived.Test.YtgkadmojokfohaaGreatFSJ
set_option linter.unusedVariables false
set_option linter.unusedSimpArgs false
namespace Go.Proofs.YtgkadmojokfohaaGreat
open Go.Vc
set_option maxRecDepth 100000 in
theorem fetchSlots_lifted (os : Os) (started : os.Started) (H : Type) (enc : TypeId × Value → H) :
   ReturnsInHanded {} Tryz.checked os 4 .any (Rows.fetchSlotsSpec.pre6 enc Tryz.prog Tryz.f4 Rows.fetchSlotsRow.domain false) (Rows.fetchSlotsSpec.post enc Tryz.prog Tryz.f4 false true false false) := by
 refine returnsInHanded_of_change_sized (C := Tryz.checked) own started (by kernel_rfl) Tryz.func4
   (witness_hand (enc := enc) (C := Tryz.checked) #[.agg (wldC 0 0 0 (.slice none 0 0) 0 0 0), zm 0] 8 (by kernel_rfl) (by kernel_rfl) Tryz.func4 (by kernel_rfl) ⟨rfl, rfl, rfl, rfl⟩ (fun W base j t v ht hv => by
     match j, ht, hv with
     | 0, ht, hv => injection ht with ht; injection hv with hv; subst ht hv; exact world_ok
     | 1, ht, hv => injection ht with ht; injection hv with hv; subst ht hv; exact int_ok YH (by decide) (by decide)) (by kernel_rfl) (by kernel_rfl)) ?_
 intro W base args ds gs before hval0 hW hcnd hz _
 have hW' := hW
 obtain ⟨p, q, hA, hV, rfl, hfz, hnd⟩ := hW
 obtain ⟨v, y, rfl⟩ := args2 hA
 obtain ⟨cut, rfl, hc1, hc2⟩ := open_int YH (hval0 1 3 y (by kernel_rfl) rfl)
 rw [min_i64] at hc1
 rw [max_i64] at hc2
 have key : Fc Tryz.prog 4 #[v, zm cut] W.heap (fun v H' => v = .bool true ∧ Ext W.heap H') := by
   match ds, hA, hz with
   | [d1, d2], hA, hz =>
     obtain ⟨p1, q1, ⟨f1, h1⟩, _⟩ := hA
     have hw1 : ∀ n ∈ d1.weights Tryz.prog 28, n ≤ reachBytes := fun n hn => of_decide_eq_true (List.all_eq_true.1 hz n (DataW.weights_mem_each (j := 0) rfl rfl n hn))
     obtain ⟨B, L, I, iv, fr, sp, seed, its, rfl, hB, hs, hst, hits, hlen, hiv⟩ := world_of h1 hw1
     exact law_slots hB hst hits hlen hs hiv ⟨hc1, hc2⟩ fun H' hx => ⟨rfl, hx⟩
 refine (Fc.calls key).mono fun e W' ⟨v, he, ⟨hv, hx⟩, hs⟩ => ?_
 subst hv
 exact ⟨_, he, law_post laidOut undBool rfl (by kernel_rfl) (by kernel_rfl) hW' (fun e1 e2 => by
   match ds, gs, e1, e2 with
   | [d0, d1], [], _, _ => rfl) hs hx⟩
set_option maxRecDepth 100000 in
set_option maxHeartbeats 4000000 in
theorem fetchSlots_joined : joinedFacts Tryz.pinned.checked.prog 4 Tryz.f4 Rows.fetchSlotsSpec Rows.fetchSlotsRow = true := by
 unfold joinedFacts
 simp only [Bool.and_eq_true]
 repeat' apply And.intro
 all_goals (as_aux_lemma => kernel_rfl)
set_option maxRecDepth 100000 in
theorem fetchSlots_named : Tryz.pinned.checked.prog.funcNamed Rows.fetchSlotsRow.func = some 4 := by kernel_rfl
set_option maxRecDepth 100000 in
theorem fetchSlots_inst : Tryz.f4.isInstance Tryz.pinned.checked.prog Rows.fetchSlotsRow.origin Rows.fetchSlotsRow.targs := of_decide_eq_true (by kernel_rfl)
set_option maxRecDepth 100000 in
theorem fetchSlots_wrap : Tryz.f4.isWrapper Tryz.pinned.checked.prog Rows.fetchSlotsRow.wrapper Rows.fetchSlotsRow.mainSum := by
 unfold Func.isWrapper
 first | (rw [if_pos (by decide +kernel)]; kernel_rfl) | (rw [if_neg (by decide +kernel)]; exact ⟨rfl, rfl⟩)
set_option maxRecDepth 100000 in
theorem fetchSlots_over : Rows.fetchSlotsRow.holds Tryz.pinned (OpenSpec.ofChange Rows.fetchSlotsSpec) :=
 OpenClaim.holds_of_wide 4 Tryz.f4 rfl rfl rfl rfl rfl rfl rfl ⟨rfl, rfl, rfl, rfl, rfl⟩ rfl rfl rfl rfl rfl fetchSlots_named Tryz.func4 fetchSlots_joined fetchSlots_inst fetchSlots_wrap
   (fun os started H enc _ => fetchSlots_lifted os started H enc)
theorem fetchSlots : Rows.FetchSlotsSaid := fetchSlots_over
#print axioms fetchSlots
end Go.Proofs.YtgkadmojokfohaaGreat
