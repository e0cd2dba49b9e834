/- Laws without arguments, run: they return true. -/
import Derived.Test.YtmjngdocmilolaaGreatHandA
import Derived.Test.YtmjngdocmilolaaGreatTTrimKnown
set_option linter.unusedVariables false
set_option linter.unusedSimpArgs false
namespace Go.Proofs.YtmjngdocmilolaaGreat
open Go.Vc Go.Xc

set_option maxRecDepth 100000 in
theorem trimKnown_lifted (os : Os) (started : os.Started) (H : Type) (enc : TypeId × Value → H) :
    ReturnsInHanded {} Tryz.checked os 10 .any (Rows.trimKnownSpec.pre6 enc Tryz.prog Tryz.f10 Rows.trimKnownRow.domain false) (Rows.trimKnownSpec.post enc Tryz.prog Tryz.f10 false true false false) := by
  refine returnsInHanded_of_change (C := Tryz.checked) own started (by kernel_rfl) Tryz.func10
    (witness_hand (enc := enc) (C := Tryz.checked) #[] 8 (by kernel_rfl) (by kernel_rfl) Tryz.func10 (by kernel_rfl) ⟨rfl, rfl, rfl, rfl⟩ (fun W base j t v ht hv => by simp at hv) (by kernel_rfl) (by kernel_rfl)) ?_
  intro W base args ds gs before hval0 hW hcnd _
  have hW' := hW
  obtain ⟨p, q, hA, hV, rfl, hfz, hnd⟩ := hW
  obtain rfl := args0 hA
  refine (Fc.calls (closedF (xs := []) (vs := []) sim10 ok10 rfl (R := fun v H' => v = .bool true ∧ Ext W.heap H') fun H' hx => ⟨rfl, hx⟩)).mono fun e W' ⟨v, he, ⟨hv, hx⟩, hs⟩ => ?_
  subst hv
  exact ⟨_, he, law_post laidOut undBool rfl (by kernel_rfl) (by kernel_rfl) hW' (fun e1 e2 => by
    match ds, gs, e1, e2 with
    | [], [], _, _ => rfl) hs hx⟩

set_option maxRecDepth 100000 in
set_option maxHeartbeats 4000000 in
theorem trimKnown_joined : joinedFacts Tryz.pinned.checked.prog 10 Tryz.f10 Rows.trimKnownSpec Rows.trimKnownRow = true := by
  unfold joinedFacts
  simp only [Bool.and_eq_true]
  repeat' apply And.intro
  all_goals (as_aux_lemma => kernel_rfl)
set_option maxRecDepth 100000 in
theorem trimKnown_named : Tryz.pinned.checked.prog.funcNamed Rows.trimKnownRow.func = some 10 := by kernel_rfl
set_option maxRecDepth 100000 in
theorem trimKnown_inst : Tryz.f10.isInstance Tryz.pinned.checked.prog Rows.trimKnownRow.origin Rows.trimKnownRow.targs := of_decide_eq_true (by kernel_rfl)
set_option maxRecDepth 100000 in
theorem trimKnown_wrap : Tryz.f10.isWrapper Tryz.pinned.checked.prog Rows.trimKnownRow.wrapper Rows.trimKnownRow.mainSum := by
  unfold Func.isWrapper
  first | (rw [if_pos (by decide +kernel)]; kernel_rfl) | (rw [if_neg (by decide +kernel)]; exact ⟨rfl, rfl⟩)
set_option maxRecDepth 100000 in
theorem trimKnown_over : Rows.trimKnownRow.holds Tryz.pinned (OpenSpec.ofChange Rows.trimKnownSpec) :=
  OpenClaim.holds_of_wide 10 Tryz.f10 rfl rfl rfl rfl rfl rfl rfl ⟨rfl, rfl, rfl, rfl, rfl⟩ rfl rfl rfl rfl rfl trimKnown_named Tryz.func10 trimKnown_joined trimKnown_inst trimKnown_wrap
    (fun os started H enc _ => trimKnown_lifted os started H enc)
theorem trimKnown : Rows.TrimKnownSaid := trimKnown_over
#print axioms trimKnown
end Go.Proofs.YtmjngdocmilolaaGreat
