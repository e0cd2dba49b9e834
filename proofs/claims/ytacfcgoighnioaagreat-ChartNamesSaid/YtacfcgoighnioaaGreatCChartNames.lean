/- Laws without arguments, run: they return true. -/
import Derived.Test.YtacfcgoighnioaaGreatHandA
import Derived.Test.YtacfcgoighnioaaGreatZ12ChartNames
set_option linter.unusedVariables false
set_option linter.unusedSimpArgs false
namespace Go.Proofs.YtacfcgoighnioaaGreat
open Go.Vc Go.Xc

set_option maxRecDepth 100000 in
theorem chartNames_lifted (os : Os) (started : os.Started) (H : Type) (enc : TypeId × Value → H) :
    ReturnsInHanded {} Tryz.checked os 3 .any (Rows.chartNamesSpec.pre6 enc Tryz.prog Tryz.f3 Rows.chartNamesRow.domain false) (Rows.chartNamesSpec.post enc Tryz.prog Tryz.f3 false true false false) := by
  refine returnsInHanded_of_change (C := Tryz.checked) own started (by kernel_rfl) Tryz.func3
    (witness_hand (enc := enc) (C := Tryz.checked) #[] 8 (by kernel_rfl) (by kernel_rfl) Tryz.func3 (by kernel_rfl) ⟨rfl, rfl, rfl, rfl⟩ (fun W base j t v ht hv => by simp at hv) (by kernel_rfl) (by kernel_rfl)) ?_
  intro W base args ds gs before hval0 hW hcnd _
  have hW' := hW
  obtain ⟨p, q, hA, hV, rfl, hfz, hnd⟩ := hW
  obtain rfl := args0 hA
  refine (Fc.calls (closedF (xs := []) (vs := []) sim3 ok3 rfl (R := fun v H' => v = .bool true ∧ Ext W.heap H') fun H' hx => ⟨rfl, hx⟩)).mono fun e W' ⟨v, he, ⟨hv, hx⟩, hs⟩ => ?_
  subst hv
  exact ⟨_, he, law_post laidOut undBool rfl (by kernel_rfl) (by kernel_rfl) hW' (fun e1 e2 => by
    match ds, gs, e1, e2 with
    | [], [], _, _ => rfl) hs hx⟩

set_option maxRecDepth 100000 in
set_option maxHeartbeats 4000000 in
theorem chartNames_joined : joinedFacts Tryz.pinned.checked.prog 3 Tryz.f3 Rows.chartNamesSpec Rows.chartNamesRow = true := by
  unfold joinedFacts
  simp only [Bool.and_eq_true]
  repeat' apply And.intro
  all_goals (as_aux_lemma => kernel_rfl)
set_option maxRecDepth 100000 in
theorem chartNames_named : Tryz.pinned.checked.prog.funcNamed Rows.chartNamesRow.func = some 3 := by kernel_rfl
set_option maxRecDepth 100000 in
theorem chartNames_inst : Tryz.f3.isInstance Tryz.pinned.checked.prog Rows.chartNamesRow.origin Rows.chartNamesRow.targs := of_decide_eq_true (by kernel_rfl)
set_option maxRecDepth 100000 in
theorem chartNames_wrap : Tryz.f3.isWrapper Tryz.pinned.checked.prog Rows.chartNamesRow.wrapper Rows.chartNamesRow.mainSum := by
  unfold Func.isWrapper
  first | (rw [if_pos (by decide +kernel)]; kernel_rfl) | (rw [if_neg (by decide +kernel)]; exact ⟨rfl, rfl⟩)
set_option maxRecDepth 100000 in
theorem chartNames_over : Rows.chartNamesRow.holds Tryz.pinned (OpenSpec.ofChange Rows.chartNamesSpec) :=
  OpenClaim.holds_of_wide 3 Tryz.f3 rfl rfl rfl rfl rfl rfl rfl ⟨rfl, rfl, rfl, rfl, rfl⟩ rfl rfl rfl rfl rfl chartNames_named Tryz.func3 chartNames_joined chartNames_inst chartNames_wrap
    (fun os started H enc _ => chartNames_lifted os started H enc)
theorem chartNames : Rows.ChartNamesSaid := chartNames_over
#print axioms chartNames
end Go.Proofs.YtacfcgoighnioaaGreat
