/- Laws without arguments, run: they return true. -/
import Derived.Test.YtkbbonhbihmbcaaGreatRRHandA
import Derived.Test.YtkbbonhbihmbcaaGreatRRLFLayFull
set_option linter.unusedVariables false
set_option linter.unusedSimpArgs false
namespace Go.Proofs.YtkbbonhbihmbcaaGreatRR
open Go.Vc Go.Xc

set_option maxRecDepth 100000 in
theorem layFull_lifted (os : Os) (started : os.Started) (H : Type) (enc : TypeId × Value → H) :
    ReturnsInHanded {} Tryz.checked os 4 .any (Rows.layFullSpec.pre6 enc Tryz.prog Tryz.f4 Rows.layFullRow.domain false) (Rows.layFullSpec.post enc Tryz.prog Tryz.f4 false true false false) := by
  refine returnsInHanded_of_change (C := Tryz.checked) own started (by kernel_rfl) Tryz.func4
    (witness_hand (enc := enc) (C := Tryz.checked) #[] 8 (by kernel_rfl) (by kernel_rfl) Tryz.func4 (by kernel_rfl) ⟨rfl, rfl, rfl, rfl⟩ (fun W base j t v ht hv => by simp at hv) (by kernel_rfl) (by kernel_rfl)) ?_
  intro W base args ds gs before hval0 hW hcnd _
  have hW' := hW
  obtain ⟨p, q, hA, hV, rfl, hfz, hnd⟩ := hW
  obtain rfl := args0 hA
  have key : Fc Tryz.prog 4 #[] W.heap (fun v H' => v = .bool true ∧ Ext W.heap H') := by
    exact closedF (xs := []) (vs := []) sim4 ok4 rfl (R := fun v H' => v = .bool true ∧ Ext W.heap H') fun H' hx => ⟨rfl, hx⟩
  refine (Fc.calls key).mono fun e W' ⟨v, he, ⟨hv, hx⟩, hs⟩ => ?_
  subst hv
  exact ⟨_, he, law_post laidOut undBool rfl (by kernel_rfl) (by kernel_rfl) hW' (fun e1 e2 => by
    match ds, gs, e1, e2 with
    | [], [], _, _ => rfl) hs hx⟩

set_option maxRecDepth 100000 in
set_option maxHeartbeats 4000000 in
theorem layFull_joined : joinedFacts Tryz.pinned.checked.prog 4 Tryz.f4 Rows.layFullSpec Rows.layFullRow = true := by
  unfold joinedFacts
  simp only [Bool.and_eq_true]
  repeat' apply And.intro
  all_goals (as_aux_lemma => kernel_rfl)
set_option maxRecDepth 100000 in
theorem layFull_named : Tryz.pinned.checked.prog.funcNamed Rows.layFullRow.func = some 4 := by kernel_rfl
set_option maxRecDepth 100000 in
theorem layFull_inst : Tryz.f4.isInstance Tryz.pinned.checked.prog Rows.layFullRow.origin Rows.layFullRow.targs := of_decide_eq_true (by kernel_rfl)
set_option maxRecDepth 100000 in
theorem layFull_wrap : Tryz.f4.isWrapper Tryz.pinned.checked.prog Rows.layFullRow.wrapper Rows.layFullRow.mainSum := by
  unfold Func.isWrapper
  first | (rw [if_pos (by decide +kernel)]; kernel_rfl) | (rw [if_neg (by decide +kernel)]; exact ⟨rfl, rfl⟩)
set_option maxRecDepth 100000 in
theorem layFull_over : Rows.layFullRow.holds Tryz.pinned (OpenSpec.ofChange Rows.layFullSpec) :=
  OpenClaim.holds_of_wide 4 Tryz.f4 rfl rfl rfl rfl rfl rfl rfl ⟨rfl, rfl, rfl, rfl, rfl⟩ rfl rfl rfl rfl rfl layFull_named Tryz.func4 layFull_joined layFull_inst layFull_wrap
    (fun os started H enc _ => layFull_lifted os started H enc)
theorem layFull : Rows.LayFullSaid := layFull_over
#print axioms layFull
end Go.Proofs.YtkbbonhbihmbcaaGreatRR
