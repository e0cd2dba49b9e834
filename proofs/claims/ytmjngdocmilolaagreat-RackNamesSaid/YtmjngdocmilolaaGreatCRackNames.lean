/- Laws without arguments, run: they return true. -/
import Derived.Test.YtmjngdocmilolaaGreatHandA
import Derived.Test.YtmjngdocmilolaaGreatRRackNames
set_option linter.unusedVariables false
set_option linter.unusedSimpArgs false
namespace Go.Proofs.YtmjngdocmilolaaGreat
open Go.Vc Go.Xc

set_option maxRecDepth 100000 in
theorem rackNames_lifted (os : Os) (started : os.Started) (H : Type) (enc : TypeId × Value → H) :
    ReturnsInHanded {} Tryz.checked os 5 .any (Rows.rackNamesSpec.pre6 enc Tryz.prog Tryz.f5 Rows.rackNamesRow.domain false) (Rows.rackNamesSpec.post enc Tryz.prog Tryz.f5 false true false false) := by
  refine returnsInHanded_of_change (C := Tryz.checked) own started (by kernel_rfl) Tryz.func5
    (witness_hand (enc := enc) (C := Tryz.checked) #[] 8 (by kernel_rfl) (by kernel_rfl) Tryz.func5 (by kernel_rfl) ⟨rfl, rfl, rfl, rfl⟩ (fun W base j t v ht hv => by simp at hv) (by kernel_rfl) (by kernel_rfl)) ?_
  intro W base args ds gs before hval0 hW hcnd _
  have hW' := hW
  obtain ⟨p, q, hA, hV, rfl, hfz, hnd⟩ := hW
  obtain rfl := args0 hA
  refine (Fc.calls (closedF (xs := []) (vs := []) sim5 ok5 rfl (R := fun v H' => v = .bool true ∧ Ext W.heap H') fun H' hx => ⟨rfl, hx⟩)).mono fun e W' ⟨v, he, ⟨hv, hx⟩, hs⟩ => ?_
  subst hv
  exact ⟨_, he, law_post laidOut undBool rfl (by kernel_rfl) (by kernel_rfl) hW' (fun e1 e2 => by
    match ds, gs, e1, e2 with
    | [], [], _, _ => rfl) hs hx⟩

set_option maxRecDepth 100000 in
theorem rackNames_joined : joinedFacts Tryz.pinned.checked.prog 5 Tryz.f5 Rows.rackNamesSpec Rows.rackNamesRow = true := by kernel_rfl
set_option maxRecDepth 100000 in
theorem rackNames_named : Tryz.pinned.checked.prog.funcNamed Rows.rackNamesRow.func = some 5 := by kernel_rfl
set_option maxRecDepth 100000 in
theorem rackNames_inst : Tryz.f5.isInstance Tryz.pinned.checked.prog Rows.rackNamesRow.origin Rows.rackNamesRow.targs := of_decide_eq_true (by kernel_rfl)
set_option maxRecDepth 100000 in
theorem rackNames_wrap : Tryz.f5.isWrapper Tryz.pinned.checked.prog Rows.rackNamesRow.wrapper Rows.rackNamesRow.mainSum := by
  unfold Func.isWrapper
  first | (rw [if_pos (by decide +kernel)]; kernel_rfl) | (rw [if_neg (by decide +kernel)]; exact ⟨rfl, rfl⟩)
set_option maxRecDepth 100000 in
theorem rackNames_over : Rows.rackNamesRow.holds Tryz.pinned (OpenSpec.ofChange Rows.rackNamesSpec) :=
  OpenClaim.holds_of_wide 5 Tryz.f5 rfl rfl rfl rfl rfl rfl rfl ⟨rfl, rfl, rfl, rfl, rfl⟩ rfl rfl rfl rfl rfl rackNames_named Tryz.func5 rackNames_joined rackNames_inst rackNames_wrap
    (fun os started H enc _ => rackNames_lifted os started H enc)
theorem rackNames : Rows.RackNamesSaid := rackNames_over
#print axioms rackNames
end Go.Proofs.YtmjngdocmilolaaGreat
