/- Laws without arguments, run: they return true. -/
import Derived.Test.YtkbbonhbihmbcaaGreatRRHandA
import Derived.Test.YtkbbonhbihmbcaaGreatRRLNLayNil
set_option linter.unusedVariables false
set_option linter.unusedSimpArgs false
namespace Go.Proofs.YtkbbonhbihmbcaaGreatRR
open Go.Vc Go.Xc

theorem layNil_und : Tryz.prog.underlying 74 = some (.slice 5) := by kernel_rfl
set_option maxRecDepth 100000 in
theorem layNil_lifted (os : Os) (started : os.Started) (H : Type) (enc : TypeId × Value → H) :
    ReturnsInHanded {} Tryz.checked os 5 .any (Rows.layNilSpec.pre6 enc Tryz.prog Tryz.f5 Rows.layNilRow.domain false) (Rows.layNilSpec.post enc Tryz.prog Tryz.f5 false true false false) := by
  refine returnsInHanded_of_change (C := Tryz.checked) own started (by kernel_rfl) Tryz.func5
    (witness_hand (enc := enc) (C := Tryz.checked) #[.int .i64 0, .int .i64 0, .slice none 0 0] 8 (by kernel_rfl) (by kernel_rfl) Tryz.func5 (by kernel_rfl) ⟨rfl, rfl, rfl, rfl⟩ (fun W base j t v ht hv => by
      match j, ht, hv with
      | 0, ht, hv => injection ht with ht; injection hv with hv; subst ht hv; exact int_ok undInt (by decide) (by decide)
      | 1, ht, hv => injection ht with ht; injection hv with hv; subst ht hv; exact int_ok undInt (by decide) (by decide)
      | 2, ht, hv => injection ht with ht; injection hv with hv; subst ht hv; exact slice_ok layNil_und) (by kernel_rfl) (by kernel_rfl)) ?_
  intro W base args ds gs before hval0 hW hcnd _
  have hW' := hW
  obtain ⟨p, q, hA, hV, rfl, hfz, hnd⟩ := hW
  obtain ⟨v, w, y, rfl⟩ := args3 hA
  have key : Fc Tryz.prog 5 #[v, w, y] W.heap (fun v H' => v = .bool true ∧ Ext W.heap H') := by
    rcases slice_of layNil_und (hval0 2 74 y (by kernel_rfl) rfl) with rfl | ⟨a, len, cap, c, T, z, rfl, hb⟩
    · exact closedF (xs := [.junk, .junk, .nils]) (vs := [v, w, .slice none 0 0]) sim5 okn5 ⟨v, _, rfl, trivial, w, _, rfl, trivial, _, _, rfl, rfl, rfl⟩ (R := fun v H' => v = .bool true ∧ Ext W.heap H') fun H' hx => ⟨rfl, hx⟩
    · exact closedS (xs := [.junk, .junk, .sl 0 a.off len cap]) (vs := [v, w, .slice (some ⟨a.block, a.off, none⟩) len cap]) sim5 (oks5 a.off len cap) hb ⟨v, _, rfl, trivial, w, _, rfl, trivial, _, _, rfl, ⟨(a.block, c.size), rfl, rfl⟩, rfl⟩ (R := fun v H' => v = .bool true ∧ Ext W.heap H') fun H' hx => ⟨rfl, hx⟩
  refine (Fc.calls key).mono fun e W' ⟨v, he, ⟨hv, hx⟩, hs⟩ => ?_
  subst hv
  exact ⟨_, he, law_post laidOut undBool rfl (by kernel_rfl) (by kernel_rfl) hW' (fun e1 e2 => by
    match ds, gs, e1, e2 with
    | [d0, d1, d2], [], _, _ => rfl) hs hx⟩

set_option maxRecDepth 100000 in
set_option maxHeartbeats 4000000 in
theorem layNil_joined : joinedFacts Tryz.pinned.checked.prog 5 Tryz.f5 Rows.layNilSpec Rows.layNilRow = true := by
  unfold joinedFacts
  simp only [Bool.and_eq_true]
  repeat' apply And.intro
  all_goals (as_aux_lemma => kernel_rfl)
set_option maxRecDepth 100000 in
theorem layNil_named : Tryz.pinned.checked.prog.funcNamed Rows.layNilRow.func = some 5 := by kernel_rfl
set_option maxRecDepth 100000 in
theorem layNil_inst : Tryz.f5.isInstance Tryz.pinned.checked.prog Rows.layNilRow.origin Rows.layNilRow.targs := of_decide_eq_true (by kernel_rfl)
set_option maxRecDepth 100000 in
theorem layNil_wrap : Tryz.f5.isWrapper Tryz.pinned.checked.prog Rows.layNilRow.wrapper Rows.layNilRow.mainSum := by
  unfold Func.isWrapper
  first | (rw [if_pos (by decide +kernel)]; kernel_rfl) | (rw [if_neg (by decide +kernel)]; exact ⟨rfl, rfl⟩)
set_option maxRecDepth 100000 in
theorem layNil_over : Rows.layNilRow.holds Tryz.pinned (OpenSpec.ofChange Rows.layNilSpec) :=
  OpenClaim.holds_of_wide 5 Tryz.f5 rfl rfl rfl rfl rfl rfl rfl ⟨rfl, rfl, rfl, rfl, rfl⟩ rfl rfl rfl rfl rfl layNil_named Tryz.func5 layNil_joined layNil_inst layNil_wrap
    (fun os started H enc _ => layNil_lifted os started H enc)
theorem layNil : Rows.LayNilSaid := layNil_over
#print axioms layNil
end Go.Proofs.YtkbbonhbihmbcaaGreatRR
