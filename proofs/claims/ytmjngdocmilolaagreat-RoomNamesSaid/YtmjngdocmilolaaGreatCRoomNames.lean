/- Laws without arguments, run: they return true. -/
import Derived.Test.YtmjngdocmilolaaGreatHandA
import Derived.Test.YtmjngdocmilolaaGreatRRoomNames
set_option linter.unusedVariables false
set_option linter.unusedSimpArgs false
namespace Go.Proofs.YtmjngdocmilolaaGreat
open Go.Vc Go.Xc

set_option maxRecDepth 100000 in
theorem roomNames_lifted (os : Os) (started : os.Started) (H : Type) (enc : TypeId × Value → H) :
    ReturnsInHanded {} Tryz.checked os 4 .any (Rows.roomNamesSpec.pre6 enc Tryz.prog Tryz.f4 Rows.roomNamesRow.domain false) (Rows.roomNamesSpec.post enc Tryz.prog Tryz.f4 false true false false) := by
  refine returnsInHanded_of_change (C := Tryz.checked) own started (by kernel_rfl) Tryz.func4
    (witness_hand (enc := enc) (C := Tryz.checked) #[] 8 (by kernel_rfl) (by kernel_rfl) Tryz.func4 (by kernel_rfl) ⟨rfl, rfl, rfl, rfl⟩ (fun W base j t v ht hv => by simp at hv) (by kernel_rfl) (by kernel_rfl)) ?_
  intro W base args ds gs before hval0 hW hcnd _
  have hW' := hW
  obtain ⟨p, q, hA, hV, rfl, hfz, hnd⟩ := hW
  obtain rfl := args0 hA
  refine (Fc.calls (closedF (xs := []) (vs := []) sim4 ok4 rfl (R := fun v H' => v = .bool true ∧ Ext W.heap H') fun H' hx => ⟨rfl, hx⟩)).mono fun e W' ⟨v, he, ⟨hv, hx⟩, hs⟩ => ?_
  subst hv
  exact ⟨_, he, law_post laidOut undBool rfl (by kernel_rfl) (by kernel_rfl) hW' (fun e1 e2 => by
    match ds, gs, e1, e2 with
    | [], [], _, _ => rfl) hs hx⟩

set_option maxRecDepth 100000 in
theorem roomNames_joined : joinedFacts Tryz.pinned.checked.prog 4 Tryz.f4 Rows.roomNamesSpec Rows.roomNamesRow = true := by kernel_rfl
set_option maxRecDepth 100000 in
theorem roomNames_named : Tryz.pinned.checked.prog.funcNamed Rows.roomNamesRow.func = some 4 := by kernel_rfl
set_option maxRecDepth 100000 in
theorem roomNames_inst : Tryz.f4.isInstance Tryz.pinned.checked.prog Rows.roomNamesRow.origin Rows.roomNamesRow.targs := of_decide_eq_true (by kernel_rfl)
set_option maxRecDepth 100000 in
theorem roomNames_wrap : Tryz.f4.isWrapper Tryz.pinned.checked.prog Rows.roomNamesRow.wrapper Rows.roomNamesRow.mainSum := by
  unfold Func.isWrapper
  first | (rw [if_pos (by decide +kernel)]; kernel_rfl) | (rw [if_neg (by decide +kernel)]; exact ⟨rfl, rfl⟩)
set_option maxRecDepth 100000 in
theorem roomNames_over : Rows.roomNamesRow.holds Tryz.pinned (OpenSpec.ofChange Rows.roomNamesSpec) :=
  OpenClaim.holds_of_wide 4 Tryz.f4 rfl rfl rfl rfl rfl rfl rfl ⟨rfl, rfl, rfl, rfl, rfl⟩ rfl rfl rfl rfl rfl roomNames_named Tryz.func4 roomNames_joined roomNames_inst roomNames_wrap
    (fun os started H enc _ => roomNames_lifted os started H enc)
theorem roomNames : Rows.RoomNamesSaid := roomNames_over
#print axioms roomNames
end Go.Proofs.YtmjngdocmilolaaGreat
