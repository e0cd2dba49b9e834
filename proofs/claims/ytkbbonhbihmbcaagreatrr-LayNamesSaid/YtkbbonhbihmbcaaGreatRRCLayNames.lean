/- Laws without arguments, run: they return true. -/
import Derived.Test.YtkbbonhbihmbcaaGreatRRHandA
import Derived.Test.YtkbbonhbihmbcaaGreatRRLMLayNames
set_option linter.unusedVariables false
set_option linter.unusedSimpArgs false
namespace Go.Proofs.YtkbbonhbihmbcaaGreatRR
open Go.Vc Go.Xc

set_option maxRecDepth 100000 in
theorem layNames_lifted (os : Os) (started : os.Started) (H : Type) (enc : TypeId × Value → H) :
    ReturnsInHanded {} Tryz.checked os 6 .any (Rows.layNamesSpec.pre6 enc Tryz.prog Tryz.f6 Rows.layNamesRow.domain false) (Rows.layNamesSpec.post enc Tryz.prog Tryz.f6 false true false false) := by
  refine returnsInHanded_of_change (C := Tryz.checked) own started (by kernel_rfl) Tryz.func6
    (witness_hand (enc := enc) (C := Tryz.checked) #[] 8 (by kernel_rfl) (by kernel_rfl) Tryz.func6 (by kernel_rfl) ⟨rfl, rfl, rfl, rfl⟩ (fun W base j t v ht hv => by simp at hv) (by kernel_rfl) (by kernel_rfl)) ?_
  intro W base args ds gs before hval0 hW hcnd _
  have hW' := hW
  obtain ⟨p, q, hA, hV, rfl, hfz, hnd⟩ := hW
  obtain rfl := args0 hA
  have key : Fc Tryz.prog 6 #[] W.heap (fun v H' => v = .bool true ∧ Ext W.heap H') := by
    exact closedF (xs := []) (vs := []) sim6 ok6 rfl (R := fun v H' => v = .bool true ∧ Ext W.heap H') fun H' hx => ⟨rfl, hx⟩
  refine (Fc.calls key).mono fun e W' ⟨v, he, ⟨hv, hx⟩, hs⟩ => ?_
  subst hv
  exact ⟨_, he, law_post laidOut undBool rfl (by kernel_rfl) (by kernel_rfl) hW' (fun e1 e2 => by
    match ds, gs, e1, e2 with
    | [], [], _, _ => rfl) hs hx⟩

set_option maxRecDepth 100000 in
set_option maxHeartbeats 4000000 in
theorem layNames_joined : joinedFacts Tryz.pinned.checked.prog 6 Tryz.f6 Rows.layNamesSpec Rows.layNamesRow = true := by
  unfold joinedFacts
  simp only [Bool.and_eq_true]
  repeat' apply And.intro
  all_goals (as_aux_lemma => kernel_rfl)
set_option maxRecDepth 100000 in
theorem layNames_named : Tryz.pinned.checked.prog.funcNamed Rows.layNamesRow.func = some 6 := by kernel_rfl
set_option maxRecDepth 100000 in
theorem layNames_inst : Tryz.f6.isInstance Tryz.pinned.checked.prog Rows.layNamesRow.origin Rows.layNamesRow.targs := of_decide_eq_true (by kernel_rfl)
set_option maxRecDepth 100000 in
theorem layNames_wrap : Tryz.f6.isWrapper Tryz.pinned.checked.prog Rows.layNamesRow.wrapper Rows.layNamesRow.mainSum := by
  unfold Func.isWrapper
  first | (rw [if_pos (by decide +kernel)]; kernel_rfl) | (rw [if_neg (by decide +kernel)]; exact ⟨rfl, rfl⟩)
set_option maxRecDepth 100000 in
theorem layNames_over : Rows.layNamesRow.holds Tryz.pinned (OpenSpec.ofChange Rows.layNamesSpec) :=
  OpenClaim.holds_of_wide 6 Tryz.f6 rfl rfl rfl rfl rfl rfl rfl ⟨rfl, rfl, rfl, rfl, rfl⟩ rfl rfl rfl rfl rfl layNames_named Tryz.func6 layNames_joined layNames_inst layNames_wrap
    (fun os started H enc _ => layNames_lifted os started H enc)
theorem layNames : Rows.LayNamesSaid := layNames_over
#print axioms layNames
end Go.Proofs.YtkbbonhbihmbcaaGreatRR
