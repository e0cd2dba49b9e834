/- Laws without arguments, run: they return true. -/
import Derived.Test.YtkbbonhbihmbcaaGreatRRHandA
import Derived.Test.YtkbbonhbihmbcaaGreatRRZ21WalkNil
set_option linter.unusedVariables false
set_option linter.unusedSimpArgs false
namespace Go.Proofs.YtkbbonhbihmbcaaGreatRR
open Go.Vc Go.Xc

theorem walkNil_und : Tryz.prog.underlying 22 = some (.slice 9) := by kernel_rfl
set_option maxRecDepth 100000 in
theorem walkNil_lifted (os : Os) (started : os.Started) (H : Type) (enc : TypeId × Value → H) :
    ReturnsInHanded {} Tryz.checked os 3 .any (Rows.walkNilSpec.pre6 enc Tryz.prog Tryz.f3 Rows.walkNilRow.domain false) (Rows.walkNilSpec.post enc Tryz.prog Tryz.f3 false true false false) := by
  refine returnsInHanded_of_change (C := Tryz.checked) own started (by kernel_rfl) Tryz.func3
    (witness_hand (enc := enc) (C := Tryz.checked) #[.slice none 0 0, .int .i64 0, .int .i64 0] 8 (by kernel_rfl) (by kernel_rfl) Tryz.func3 (by kernel_rfl) ⟨rfl, rfl, rfl, rfl⟩ (fun W base j t v ht hv => by
      match j, ht, hv with
      | 0, ht, hv => injection ht with ht; injection hv with hv; subst ht hv; exact slice_ok walkNil_und
      | 1, ht, hv => injection ht with ht; injection hv with hv; subst ht hv; exact int_ok undInt (by decide) (by decide)
      | 2, ht, hv => injection ht with ht; injection hv with hv; subst ht hv; exact int_ok undInt (by decide) (by decide)) (by kernel_rfl) (by kernel_rfl)) ?_
  intro W base args ds gs before hval0 hW hcnd _
  have hW' := hW
  obtain ⟨p, q, hA, hV, rfl, hfz, hnd⟩ := hW
  obtain ⟨v, w, y, rfl⟩ := args3 hA
  have key : Fc Tryz.prog 3 #[v, w, y] W.heap (fun v H' => v = .bool true ∧ Ext W.heap H') := by
    rcases slice_of walkNil_und (hval0 0 22 v (by kernel_rfl) rfl) with rfl | ⟨a, len, cap, c, T, z, rfl, hb⟩
    · exact closedF (xs := [.nils, .junk, .junk]) (vs := [.slice none 0 0, w, y]) sim3 okn3 ⟨_, _, rfl, rfl, w, _, rfl, trivial, y, _, rfl, trivial, rfl⟩ (R := fun v H' => v = .bool true ∧ Ext W.heap H') fun H' hx => ⟨rfl, hx⟩
    · exact closedS (xs := [.sl 0 a.off len cap, .junk, .junk]) (vs := [.slice (some ⟨a.block, a.off, none⟩) len cap, w, y]) sim3 (oks3 a.off len cap) hb ⟨_, _, rfl, ⟨(a.block, c.size), rfl, rfl⟩, w, _, rfl, trivial, y, _, rfl, trivial, rfl⟩ (R := fun v H' => v = .bool true ∧ Ext W.heap H') fun H' hx => ⟨rfl, hx⟩
  refine (Fc.calls key).mono fun e W' ⟨v, he, ⟨hv, hx⟩, hs⟩ => ?_
  subst hv
  exact ⟨_, he, law_post laidOut undBool rfl (by kernel_rfl) (by kernel_rfl) hW' (fun e1 e2 => by
    match ds, gs, e1, e2 with
    | [d0, d1, d2], [], _, _ => rfl) hs hx⟩

set_option maxRecDepth 100000 in
set_option maxHeartbeats 4000000 in
theorem walkNil_joined : joinedFacts Tryz.pinned.checked.prog 3 Tryz.f3 Rows.walkNilSpec Rows.walkNilRow = true := by
  unfold joinedFacts
  simp only [Bool.and_eq_true]
  repeat' apply And.intro
  all_goals (as_aux_lemma => kernel_rfl)
set_option maxRecDepth 100000 in
theorem walkNil_named : Tryz.pinned.checked.prog.funcNamed Rows.walkNilRow.func = some 3 := by kernel_rfl
set_option maxRecDepth 100000 in
theorem walkNil_inst : Tryz.f3.isInstance Tryz.pinned.checked.prog Rows.walkNilRow.origin Rows.walkNilRow.targs := of_decide_eq_true (by kernel_rfl)
set_option maxRecDepth 100000 in
theorem walkNil_wrap : Tryz.f3.isWrapper Tryz.pinned.checked.prog Rows.walkNilRow.wrapper Rows.walkNilRow.mainSum := by
  unfold Func.isWrapper
  first | (rw [if_pos (by decide +kernel)]; kernel_rfl) | (rw [if_neg (by decide +kernel)]; exact ⟨rfl, rfl⟩)
set_option maxRecDepth 100000 in
theorem walkNil_over : Rows.walkNilRow.holds Tryz.pinned (OpenSpec.ofChange Rows.walkNilSpec) :=
  OpenClaim.holds_of_wide 3 Tryz.f3 rfl rfl rfl rfl rfl rfl rfl ⟨rfl, rfl, rfl, rfl, rfl⟩ rfl rfl rfl rfl rfl walkNil_named Tryz.func3 walkNil_joined walkNil_inst walkNil_wrap
    (fun os started H enc _ => walkNil_lifted os started H enc)
theorem walkNil : Rows.WalkNilSaid := walkNil_over
#print axioms walkNil
end Go.Proofs.YtkbbonhbihmbcaaGreatRR
