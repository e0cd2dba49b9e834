/- Laws without arguments, run: they return true. -/
import Derived.Test.YtacfcgoighnioaaGreatHandA
import Derived.Test.YtacfcgoighnioaaGreatCNChartNil
set_option linter.unusedVariables false
set_option linter.unusedSimpArgs false
namespace Go.Proofs.YtacfcgoighnioaaGreat
open Go.Vc Go.Xc

set_option maxRecDepth 100000 in
theorem chartNil_lifted (os : Os) (started : os.Started) (H : Type) (enc : TypeId × Value → H) :
    ReturnsInHanded {} Tryz.checked os 4 .any (Rows.chartNilSpec.pre6 enc Tryz.prog Tryz.f4 Rows.chartNilRow.domain false) (Rows.chartNilSpec.post enc Tryz.prog Tryz.f4 false true false false) := by
  refine returnsInHanded_of_change (C := Tryz.checked) own started (by kernel_rfl) Tryz.func4
    (witness_hand (enc := enc) (C := Tryz.checked) #[.int .i64 0, .int .i64 0, .int .i64 0] 8 (by kernel_rfl) (by kernel_rfl) Tryz.func4 (by kernel_rfl) ⟨rfl, rfl, rfl, rfl⟩ (fun W base j t v ht hv => by
      match j, ht, hv with
      | 0, ht, hv => injection ht with ht; injection hv with hv; subst ht hv; exact int_ok undInt (by decide) (by decide)
      | 1, ht, hv => injection ht with ht; injection hv with hv; subst ht hv; exact int_ok undInt (by decide) (by decide)
      | 2, ht, hv => injection ht with ht; injection hv with hv; subst ht hv; exact int_ok undInt (by decide) (by decide)) (by kernel_rfl) (by kernel_rfl)) ?_
  intro W base args ds gs before hval0 hW hcnd _
  have hW' := hW
  obtain ⟨p, q, hA, hV, rfl, hfz, hnd⟩ := hW
  obtain ⟨v, w, y, rfl⟩ := args3 hA
  have key : Fc Tryz.prog 4 #[v, w, y] W.heap (fun v H' => v = .bool true ∧ Ext W.heap H') := by
    exact closedF (xs := [.junk, .junk, .junk]) (vs := [v, w, y]) sim4 ok4 ⟨v, _, rfl, trivial, w, _, rfl, trivial, y, _, rfl, trivial, rfl⟩ (R := fun v H' => v = .bool true ∧ Ext W.heap H') fun H' hx => ⟨rfl, hx⟩
  refine (Fc.calls key).mono fun e W' ⟨v, he, ⟨hv, hx⟩, hs⟩ => ?_
  subst hv
  exact ⟨_, he, law_post laidOut undBool rfl (by kernel_rfl) (by kernel_rfl) hW' (fun e1 e2 => by
    match ds, gs, e1, e2 with
    | [d0, d1, d2], [], _, _ => rfl) hs hx⟩

set_option maxRecDepth 100000 in
set_option maxHeartbeats 4000000 in
theorem chartNil_joined : joinedFacts Tryz.pinned.checked.prog 4 Tryz.f4 Rows.chartNilSpec Rows.chartNilRow = true := by
  unfold joinedFacts
  simp only [Bool.and_eq_true]
  repeat' apply And.intro
  all_goals (as_aux_lemma => kernel_rfl)
set_option maxRecDepth 100000 in
theorem chartNil_named : Tryz.pinned.checked.prog.funcNamed Rows.chartNilRow.func = some 4 := by kernel_rfl
set_option maxRecDepth 100000 in
theorem chartNil_inst : Tryz.f4.isInstance Tryz.pinned.checked.prog Rows.chartNilRow.origin Rows.chartNilRow.targs := of_decide_eq_true (by kernel_rfl)
set_option maxRecDepth 100000 in
theorem chartNil_wrap : Tryz.f4.isWrapper Tryz.pinned.checked.prog Rows.chartNilRow.wrapper Rows.chartNilRow.mainSum := by
  unfold Func.isWrapper
  first | (rw [if_pos (by decide +kernel)]; kernel_rfl) | (rw [if_neg (by decide +kernel)]; exact ⟨rfl, rfl⟩)
set_option maxRecDepth 100000 in
theorem chartNil_over : Rows.chartNilRow.holds Tryz.pinned (OpenSpec.ofChange Rows.chartNilSpec) :=
  OpenClaim.holds_of_wide 4 Tryz.f4 rfl rfl rfl rfl rfl rfl rfl ⟨rfl, rfl, rfl, rfl, rfl⟩ rfl rfl rfl rfl rfl chartNil_named Tryz.func4 chartNil_joined chartNil_inst chartNil_wrap
    (fun os started H enc _ => chartNil_lifted os started H enc)
theorem chartNil : Rows.ChartNilSaid := chartNil_over
#print axioms chartNil
end Go.Proofs.YtacfcgoighnioaaGreat
