/- Laws without arguments, run: they return true. -/
import Derived.Test.YtmjngdocmilolaaGreatHandA
import Derived.Test.YtmjngdocmilolaaGreatWWalkNames
set_option linter.unusedVariables false
set_option linter.unusedSimpArgs false
namespace Go.Proofs.YtmjngdocmilolaaGreat
open Go.Vc Go.Xc

set_option maxRecDepth 100000 in
theorem walkNames_lifted (os : Os) (started : os.Started) (H : Type) (enc : TypeId × Value → H) :
    ReturnsInHanded {} Tryz.checked os 6 .any (Rows.walkNamesSpec.pre6 enc Tryz.prog Tryz.f6 Rows.walkNamesRow.domain false) (Rows.walkNamesSpec.post enc Tryz.prog Tryz.f6 false true false false) := by
  refine returnsInHanded_of_change (C := Tryz.checked) own started (by kernel_rfl) Tryz.func6
    (witness_hand (enc := enc) (C := Tryz.checked) #[] 8 (by kernel_rfl) (by kernel_rfl) Tryz.func6 (by kernel_rfl) ⟨rfl, rfl, rfl, rfl⟩ (fun W base j t v ht hv => by simp at hv) (by kernel_rfl) (by kernel_rfl)) ?_
  intro W base args ds gs before hval0 hW hcnd _
  have hW' := hW
  obtain ⟨p, q, hA, hV, rfl, hfz, hnd⟩ := hW
  obtain rfl := args0 hA
  refine (Fc.calls (closedF (xs := []) (vs := []) sim6 ok6 rfl (R := fun v H' => v = .bool true ∧ Ext W.heap H') fun H' hx => ⟨rfl, hx⟩)).mono fun e W' ⟨v, he, ⟨hv, hx⟩, hs⟩ => ?_
  subst hv
  exact ⟨_, he, law_post laidOut undBool rfl (by kernel_rfl) (by kernel_rfl) hW' (fun e1 e2 => by
    match ds, gs, e1, e2 with
    | [], [], _, _ => rfl) hs hx⟩

set_option maxRecDepth 100000 in
set_option maxHeartbeats 4000000 in
theorem walkNames_joined : joinedFacts Tryz.pinned.checked.prog 6 Tryz.f6 Rows.walkNamesSpec Rows.walkNamesRow = true := by
  unfold joinedFacts
  simp only [Bool.and_eq_true]
  repeat' apply And.intro
  all_goals (as_aux_lemma => kernel_rfl)
set_option maxRecDepth 100000 in
theorem walkNames_named : Tryz.pinned.checked.prog.funcNamed Rows.walkNamesRow.func = some 6 := by kernel_rfl
set_option maxRecDepth 100000 in
theorem walkNames_inst : Tryz.f6.isInstance Tryz.pinned.checked.prog Rows.walkNamesRow.origin Rows.walkNamesRow.targs := of_decide_eq_true (by kernel_rfl)
set_option maxRecDepth 100000 in
theorem walkNames_wrap : Tryz.f6.isWrapper Tryz.pinned.checked.prog Rows.walkNamesRow.wrapper Rows.walkNamesRow.mainSum := by
  unfold Func.isWrapper
  first | (rw [if_pos (by decide +kernel)]; kernel_rfl) | (rw [if_neg (by decide +kernel)]; exact ⟨rfl, rfl⟩)
set_option maxRecDepth 100000 in
theorem walkNames_over : Rows.walkNamesRow.holds Tryz.pinned (OpenSpec.ofChange Rows.walkNamesSpec) :=
  OpenClaim.holds_of_wide 6 Tryz.f6 rfl rfl rfl rfl rfl rfl rfl ⟨rfl, rfl, rfl, rfl, rfl⟩ rfl rfl rfl rfl rfl walkNames_named Tryz.func6 walkNames_joined walkNames_inst walkNames_wrap
    (fun os started H enc _ => walkNames_lifted os started H enc)
theorem walkNames : Rows.WalkNamesSaid := walkNames_over
#print axioms walkNames
end Go.Proofs.YtmjngdocmilolaaGreat
