/- Laws without arguments, run: they return true. -/
import Derived.Test.YtmjngdocmilolaaGreatHandA
import Derived.Test.YtmjngdocmilolaaGreatRRoomNil
set_option linter.unusedVariables false
set_option linter.unusedSimpArgs false
namespace Go.Proofs.YtmjngdocmilolaaGreat
open Go.Vc Go.Xc

set_option maxRecDepth 100000 in
theorem roomNil_lifted (os : Os) (started : os.Started) (H : Type) (enc : TypeId × Value → H) :
    ReturnsInHanded {} Tryz.checked os 7 .any (Rows.roomNilSpec.pre6 enc Tryz.prog Tryz.f7 Rows.roomNilRow.domain false) (Rows.roomNilSpec.post enc Tryz.prog Tryz.f7 false true false false) := by
  refine returnsInHanded_of_change (C := Tryz.checked) own started (by kernel_rfl) Tryz.func7
    (witness_hand (enc := enc) (C := Tryz.checked) #[.int .i64 0] 8 (by kernel_rfl) (by kernel_rfl) Tryz.func7 (by kernel_rfl) ⟨rfl, rfl, rfl, rfl⟩ (fun W base j t v ht hv => by
      match j, ht, hv with
      | 0, ht, hv => injection ht with ht; injection hv with hv; subst ht hv; exact int_ok undInt (by decide) (by decide)) (by kernel_rfl) (by kernel_rfl)) ?_
  intro W base args ds gs before hval0 hW hcnd _
  have hW' := hW
  obtain ⟨p, q, hA, hV, rfl, hfz, hnd⟩ := hW
  obtain ⟨v, rfl⟩ := args1 hA
  refine (Fc.calls (closedF (xs := [.junk]) (vs := [v]) sim7 ok7 ⟨v, _, rfl, trivial, rfl⟩ (R := fun v H' => v = .bool true ∧ Ext W.heap H') fun H' hx => ⟨rfl, hx⟩)).mono fun e W' ⟨v, he, ⟨hv, hx⟩, hs⟩ => ?_
  subst hv
  exact ⟨_, he, law_post laidOut undBool rfl (by kernel_rfl) (by kernel_rfl) hW' (fun e1 e2 => by
    match ds, gs, e1, e2 with
    | [d0], [], _, _ => rfl) hs hx⟩

set_option maxRecDepth 100000 in
theorem roomNil_joined : joinedFacts Tryz.pinned.checked.prog 7 Tryz.f7 Rows.roomNilSpec Rows.roomNilRow = true := by kernel_rfl
set_option maxRecDepth 100000 in
theorem roomNil_named : Tryz.pinned.checked.prog.funcNamed Rows.roomNilRow.func = some 7 := by kernel_rfl
set_option maxRecDepth 100000 in
theorem roomNil_inst : Tryz.f7.isInstance Tryz.pinned.checked.prog Rows.roomNilRow.origin Rows.roomNilRow.targs := of_decide_eq_true (by kernel_rfl)
set_option maxRecDepth 100000 in
theorem roomNil_wrap : Tryz.f7.isWrapper Tryz.pinned.checked.prog Rows.roomNilRow.wrapper Rows.roomNilRow.mainSum := by
  unfold Func.isWrapper
  first | (rw [if_pos (by decide +kernel)]; kernel_rfl) | (rw [if_neg (by decide +kernel)]; exact ⟨rfl, rfl⟩)
set_option maxRecDepth 100000 in
theorem roomNil_over : Rows.roomNilRow.holds Tryz.pinned (OpenSpec.ofChange Rows.roomNilSpec) :=
  OpenClaim.holds_of_wide 7 Tryz.f7 rfl rfl rfl rfl rfl rfl rfl ⟨rfl, rfl, rfl, rfl, rfl⟩ rfl rfl rfl rfl rfl roomNil_named Tryz.func7 roomNil_joined roomNil_inst roomNil_wrap
    (fun os started H enc _ => roomNil_lifted os started H enc)
theorem roomNil : Rows.RoomNilSaid := roomNil_over
#print axioms roomNil
end Go.Proofs.YtmjngdocmilolaaGreat
