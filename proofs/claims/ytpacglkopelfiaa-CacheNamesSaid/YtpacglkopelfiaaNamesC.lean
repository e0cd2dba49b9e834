/- Laws without arguments, run: they return true. -/
import Derived.Test.YtpacglkopelfiaaHandA
import Derived.Test.YtpacglkopelfiaaRunC
set_option linter.unusedVariables false
set_option linter.unusedSimpArgs false
namespace Go.Proofs.Ytpacglkopelfiaa
open Go.Vc Go.Xc

set_option maxRecDepth 100000 in
theorem cacheNames_lifted (os : Os) (started : os.Started) (H : Type) (enc : TypeId × Value → H) :
    ReturnsInHanded {} Try.checked os 5 .any (Rows.cacheNamesSpec.pre6 enc Try.prog Try.f5 Rows.cacheNamesRow.domain false) (Rows.cacheNamesSpec.post enc Try.prog Try.f5 false true false false) := by
  refine returnsInHanded_of_change (C := Try.checked) own started (by kernel_rfl) Try.func5
    (witness_hand (enc := enc) (C := Try.checked) #[] 8 (by kernel_rfl) (by kernel_rfl) Try.func5 (by kernel_rfl) ⟨rfl, rfl, rfl, rfl⟩ (fun W base j t v ht hv => by simp at hv) (by kernel_rfl) (by kernel_rfl)) ?_
  intro W base args ds gs before hval0 hW hcnd _
  have hW' := hW
  obtain ⟨p, q, hA, hV, rfl, hfz, hnd⟩ := hW
  obtain rfl := args0 hA
  refine (Fc.calls (closedG simg5 ok5 (R := fun v H' => v = .bool true ∧ Ext W.heap H') fun H' hx => ⟨rfl, hx⟩)).mono fun e W' ⟨v, he, ⟨hv, hx⟩, hs⟩ => ?_
  subst hv
  exact ⟨_, he, law_post laidOut undBool rfl (by kernel_rfl) (by kernel_rfl) hW' (fun e1 e2 => by
    match ds, gs, e1, e2 with
    | [], [], _, _ => rfl) hs hx⟩

set_option maxRecDepth 100000 in
theorem cacheNames_over : Rows.cacheNamesRow.holds Try.pinned (OpenSpec.ofChange Rows.cacheNamesSpec) :=
  OpenClaim.holds_of_wide 5 Try.f5 rfl rfl rfl rfl rfl rfl rfl ⟨rfl, rfl, rfl, rfl, rfl⟩ rfl rfl rfl rfl rfl (by kernel_rfl) Try.func5 (by kernel_rfl)
    (of_decide_eq_true (by kernel_rfl)) (by unfold Func.isWrapper; first | (rw [if_pos (by decide +kernel)]; kernel_rfl) | (rw [if_neg (by decide +kernel)]; exact ⟨rfl, rfl⟩))
    (fun os started H enc _ => cacheNames_lifted os started H enc)
theorem cacheNames : Rows.CacheNamesSaid := cacheNames_over
#print axioms cacheNames
end Go.Proofs.Ytpacglkopelfiaa
