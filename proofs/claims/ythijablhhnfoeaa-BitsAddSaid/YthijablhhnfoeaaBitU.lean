/- BitsAdd: of whatever block and spans: Count is how many All gives, and spans side by side add up: the law returns true and the input reads behind the call as it read before. -/
import Derived.Test.YthijablhhnfoeaaBitO
import Derived.Test.YthijablhhnfoeaaBitJ
set_option linter.unusedVariables false
set_option linter.unusedSimpArgs false
namespace Go.Proofs.Ythijablhhnfoeaa
open Go.Vc

set_option maxRecDepth 100000 in
theorem add_lifted (os : Os) (started : os.Started) (H : Type) (enc : TypeId × Value → H) :
    ReturnsInHanded {} Try.checked os 7 .any (Rows.bitsAddSpec.pre6 enc Try.prog Try.f7 Rows.bitsAddRow.domain false) (Rows.bitsAddSpec.post enc Try.prog Try.f7 false true false false) := by
  refine returnsInHanded_of_change (C := Try.checked) own started (by kernel_rfl) Try.func7
    (witness_hand (enc := enc) (C := Try.checked) zeroArgs 8 (by kernel_rfl) (by kernel_rfl) Try.func7 (by kernel_rfl) ⟨rfl, rfl, rfl, rfl⟩ (fun W base j t v ht hv => zero_ok W base j t v ht hv) (by kernel_rfl) (by kernel_rfl)) ?_
  intro W base args ds gs before hval0 hW hcnd _
  have hval : ∀ (j : Nat) t v, Try.f7.params[j]? = some t → args[j]? = some v → Value.okWide Try.prog W .any base t v := hval0
  have hW' := hW
  obtain ⟨p, q, hA, hV, rfl, hfz, hnd⟩ := hW
  obtain ⟨v, w, rfl⟩ := two_args (ts := []) hA
  obtain ⟨c, rfl, hb⟩ := open_block (hval 0 23 v rfl rfl)
  obtain ⟨i, j, on, f, m, t, rfl, hi, hj, hf, hm, ht⟩ := open_ask (hval 1 25 w rfl rfl)
  refine (Fc.calls (law_add (i := i) (j := j) (on := on) (R := fun v H' => v = .bool true ∧ Ext W.heap H') hb hf hm ht fun H' hx => ⟨rfl, hx⟩)).mono fun e W' ⟨v, he, ⟨hv, hx⟩, hs⟩ => ?_
  subst hv
  exact ⟨_, he, law_post laidOut und4 rfl (by kernel_rfl) (by kernel_rfl) hW' (fun e1 e2 => by
    match ds, gs, e1, e2 with
    | [d1, d2], [], _, _ => rfl) hs hx⟩

set_option maxRecDepth 100000 in
theorem add_over : Rows.bitsAddRow.holds Try.pinned (OpenSpec.ofChange Rows.bitsAddSpec) :=
  OpenClaim.holds_of_wide 7 Try.f7 rfl rfl rfl rfl rfl rfl rfl ⟨rfl, rfl, rfl, rfl, rfl⟩ rfl rfl rfl rfl rfl (by kernel_rfl) Try.func7 (by kernel_rfl)
    (of_decide_eq_true (by kernel_rfl)) (by unfold Func.isWrapper; first | (rw [if_pos (by decide +kernel)]; kernel_rfl) | (rw [if_neg (by decide +kernel)]; exact ⟨rfl, rfl⟩))
    (fun os started H enc _ => add_lifted os started H enc)

theorem bitsAdd : Rows.BitsAddSaid := add_over
#print axioms bitsAdd
end Go.Proofs.Ythijablhhnfoeaa
