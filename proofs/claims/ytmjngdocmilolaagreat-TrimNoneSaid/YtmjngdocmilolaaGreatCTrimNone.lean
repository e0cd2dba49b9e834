/- Laws without arguments, run: they return true. -/
import Derived.Test.YtmjngdocmilolaaGreatHandA
import Derived.Test.YtmjngdocmilolaaGreatTTrimNone
set_option linter.unusedVariables false
set_option linter.unusedSimpArgs false
namespace Go.Proofs.YtmjngdocmilolaaGreat
open Go.Vc Go.Xc

set_option maxRecDepth 100000 in
theorem trimNone_lifted (os : Os) (started : os.Started) (H : Type) (enc : TypeId × Value → H) :
    ReturnsInHanded {} Tryz.checked os 9 .any (Rows.trimNoneSpec.pre6 enc Tryz.prog Tryz.f9 Rows.trimNoneRow.domain false) (Rows.trimNoneSpec.post enc Tryz.prog Tryz.f9 false true false false) := by
  refine returnsInHanded_of_change (C := Tryz.checked) own started (by kernel_rfl) Tryz.func9
    (witness_hand (enc := enc) (C := Tryz.checked) #[.int .i64 0, .int .i64 0] 8 (by kernel_rfl) (by kernel_rfl) Tryz.func9 (by kernel_rfl) ⟨rfl, rfl, rfl, rfl⟩ (fun W base j t v ht hv => by
      match j, ht, hv with
      | 0, ht, hv => injection ht with ht; injection hv with hv; subst ht hv; exact int_ok undInt (by decide) (by decide)
      | 1, ht, hv => injection ht with ht; injection hv with hv; subst ht hv; exact int_ok undInt (by decide) (by decide)) (by kernel_rfl) (by kernel_rfl)) ?_
  intro W base args ds gs before hval0 hW hcnd _
  have hW' := hW
  obtain ⟨p, q, hA, hV, rfl, hfz, hnd⟩ := hW
  obtain ⟨v, w, rfl⟩ := args2 hA
  refine (Fc.calls (closedF (xs := [.junk, .junk]) (vs := [v, w]) sim9 ok9 ⟨v, _, rfl, trivial, w, _, rfl, trivial, rfl⟩ (R := fun v H' => v = .bool true ∧ Ext W.heap H') fun H' hx => ⟨rfl, hx⟩)).mono fun e W' ⟨v, he, ⟨hv, hx⟩, hs⟩ => ?_
  subst hv
  exact ⟨_, he, law_post laidOut undBool rfl (by kernel_rfl) (by kernel_rfl) hW' (fun e1 e2 => by
    match ds, gs, e1, e2 with
    | [d0, d1], [], _, _ => rfl) hs hx⟩

set_option maxRecDepth 100000 in
set_option maxHeartbeats 4000000 in
theorem trimNone_joined : joinedFacts Tryz.pinned.checked.prog 9 Tryz.f9 Rows.trimNoneSpec Rows.trimNoneRow = true := by
  unfold joinedFacts
  simp only [Bool.and_eq_true]
  repeat' apply And.intro
  all_goals (as_aux_lemma => kernel_rfl)
set_option maxRecDepth 100000 in
theorem trimNone_named : Tryz.pinned.checked.prog.funcNamed Rows.trimNoneRow.func = some 9 := by kernel_rfl
set_option maxRecDepth 100000 in
theorem trimNone_inst : Tryz.f9.isInstance Tryz.pinned.checked.prog Rows.trimNoneRow.origin Rows.trimNoneRow.targs := of_decide_eq_true (by kernel_rfl)
set_option maxRecDepth 100000 in
theorem trimNone_wrap : Tryz.f9.isWrapper Tryz.pinned.checked.prog Rows.trimNoneRow.wrapper Rows.trimNoneRow.mainSum := by
  unfold Func.isWrapper
  first | (rw [if_pos (by decide +kernel)]; kernel_rfl) | (rw [if_neg (by decide +kernel)]; exact ⟨rfl, rfl⟩)
set_option maxRecDepth 100000 in
theorem trimNone_over : Rows.trimNoneRow.holds Tryz.pinned (OpenSpec.ofChange Rows.trimNoneSpec) :=
  OpenClaim.holds_of_wide 9 Tryz.f9 rfl rfl rfl rfl rfl rfl rfl ⟨rfl, rfl, rfl, rfl, rfl⟩ rfl rfl rfl rfl rfl trimNone_named Tryz.func9 trimNone_joined trimNone_inst trimNone_wrap
    (fun os started H enc _ => trimNone_lifted os started H enc)
theorem trimNone : Rows.TrimNoneSaid := trimNone_over
#print axioms trimNone
end Go.Proofs.YtmjngdocmilolaaGreat
