/- DirNone: closing. -/
import Derived.Test.YtkbbonhbihmbcaaGreatRRHandA
import Derived.Test.YtkbbonhbihmbcaaGreatRRDNoneA
set_option linter.unusedVariables false
set_option linter.unusedSimpArgs false
namespace Go.Proofs.YtkbbonhbihmbcaaGreatRR
open Go.Vc Go.Xc

def actC (i j k l : Int) (s : ByteArray) : Array Value := #[.int .i64 i, .int .i64 j, .int .i64 k, .int .i64 l, .string s]
theorem actTs : Tryz.prog.cellTypes Tryz.prog.depth 95 = some [3, 3, 3, 3, 9] := by kernel_rfl
theorem actCells : Tryz.prog.cellsOf 95 = 5 := by kernel_rfl
theorem undStr : Tryz.prog.underlying 9 = some .string := by kernel_rfl
theorem cell_str {P : Program} {W : World} {r : Reach} {base : Nat} {u : TypeId} {x : Value} (hu : P.underlying u = some .string) (h : Cell.okWide P W r base u x) : ∃ s, x = .string s := by
  simp only [Cell.okWide, hu] at h
  cases x <;> simp_all [Cell.ok]
theorem cell_str_ok {P : Program} {W : World} {r : Reach} {base : Nat} {u : TypeId} {s : ByteArray} (hu : P.underlying u = some .string) (h : (s.size : Int) ≤ IntKind.i64.max) : Cell.okWide P W r base u (.string s) := by
  simp only [Cell.okWide, hu, Cell.ok]
  exact h
set_option maxRecDepth 100000 in
theorem open_act {W : World} {base : Nat} {v : Value} (h : Value.okWide Tryz.prog W .any base 95 v) : ∃ i j k l s, v = .agg (actC i j k l s) := by
  obtain ⟨c, rfl, hsz, hc⟩ := cells_of Tryz.underlying95 rfl actCells actTs rfl h
  obtain ⟨x0, g0, k0⟩ := hc 0 3 rfl
  obtain ⟨x1, g1, k1⟩ := hc 1 3 rfl
  obtain ⟨x2, g2, k2⟩ := hc 2 3 rfl
  obtain ⟨x3, g3, k3⟩ := hc 3 3 rfl
  obtain ⟨x4, g4, k4⟩ := hc 4 9 rfl
  obtain ⟨i, rfl, _⟩ := cell_int undInt k0
  obtain ⟨j, rfl, _⟩ := cell_int undInt k1
  obtain ⟨k, rfl, _⟩ := cell_int undInt k2
  obtain ⟨l, rfl, _⟩ := cell_int undInt k3
  obtain ⟨s, rfl⟩ := cell_str undStr k4
  refine ⟨i, j, k, l, s, ?_⟩
  congr 1
  apply Array.ext_getElem?
  intro q
  match q with
  | 0 => exact g0
  | 1 => exact g1
  | 2 => exact g2
  | 3 => exact g3
  | 4 => exact g4
  | q + 5 => rw [Array.getElem?_eq_none (by omega), Array.getElem?_eq_none (by simp [actC])]
set_option maxRecDepth 100000 in
theorem act_ok {W : World} {base : Nat} : Value.okWide Tryz.prog W .any base 95 (.agg (actC 0 0 0 0 ⟨#[]⟩)) := by
  refine okWide_cells Tryz.underlying95 rfl actCells actTs rfl rfl fun i u hu => ?_
  match i, hu with
  | 0, hu => injection hu with hu; subst hu; exact ⟨_, rfl, cell_int_ok undInt (by decide) (by decide)⟩
  | 1, hu => injection hu with hu; subst hu; exact ⟨_, rfl, cell_int_ok undInt (by decide) (by decide)⟩
  | 2, hu => injection hu with hu; subst hu; exact ⟨_, rfl, cell_int_ok undInt (by decide) (by decide)⟩
  | 3, hu => injection hu with hu; subst hu; exact ⟨_, rfl, cell_int_ok undInt (by decide) (by decide)⟩
  | 4, hu => injection hu with hu; subst hu; exact ⟨_, rfl, cell_str_ok undStr (by decide)⟩
  | i + 5, hu => simp at hu

set_option maxRecDepth 100000 in
theorem dirNone_lifted (os : Os) (started : os.Started) (H : Type) (enc : TypeId × Value → H) :
    ReturnsInHanded {} Tryz.checked os 8 .any (Rows.dirNoneSpec.pre6 enc Tryz.prog Tryz.f8 Rows.dirNoneRow.domain false) (Rows.dirNoneSpec.post enc Tryz.prog Tryz.f8 false true false false) := by
  refine returnsInHanded_of_change (C := Tryz.checked) own started (by kernel_rfl) Tryz.func8
    (witness_hand (enc := enc) (C := Tryz.checked) #[.agg (actC 0 0 0 0 ⟨#[]⟩)] 8 (by kernel_rfl) (by kernel_rfl) Tryz.func8 (by kernel_rfl) ⟨rfl, rfl, rfl, rfl⟩ (fun W base j t v ht hv => by
      match j, ht, hv with
      | 0, ht, hv => injection ht with ht; injection hv with hv; subst ht hv; exact act_ok) (by kernel_rfl) (by kernel_rfl)) ?_
  intro W base args ds gs before hval0 hW hcnd _
  have hval : ∀ (j : Nat) t v, Tryz.f8.params[j]? = some t → args[j]? = some v → Value.okWide Tryz.prog W .any base t v := hval0
  have hW' := hW
  obtain ⟨p, q, hA, hV, rfl, hfz, hnd⟩ := hW
  obtain ⟨x, rfl⟩ := args1 hA
  obtain ⟨i, j, k, l, s, rfl⟩ := open_act (hval 0 95 x rfl rfl)
  have key : Fc Tryz.prog 8 #[.agg (actC i j k l s)] W.heap (fun v H' => v = .bool true ∧ Ext W.heap H') := by
    exact law_dirNone (R := fun v H' => v = .bool true ∧ Ext W.heap H') fun H' hx => ⟨rfl, hx⟩
  refine (Fc.calls key).mono fun e W' ⟨v, he, ⟨hv, hx⟩, hs⟩ => ?_
  subst hv
  exact ⟨_, he, law_post laidOut undBool rfl (by kernel_rfl) (by kernel_rfl) hW' (fun e1 e2 => by
    match ds, gs, e1, e2 with
    | [d1], [], _, _ => rfl) hs hx⟩

set_option maxRecDepth 100000 in
set_option maxHeartbeats 4000000 in
theorem dirNone_joined : joinedFacts Tryz.pinned.checked.prog 8 Tryz.f8 Rows.dirNoneSpec Rows.dirNoneRow = true := by
  unfold joinedFacts
  simp only [Bool.and_eq_true]
  repeat' apply And.intro
  all_goals (as_aux_lemma => kernel_rfl)
set_option maxRecDepth 100000 in
theorem dirNone_named : Tryz.pinned.checked.prog.funcNamed Rows.dirNoneRow.func = some 8 := by kernel_rfl
set_option maxRecDepth 100000 in
theorem dirNone_inst : Tryz.f8.isInstance Tryz.pinned.checked.prog Rows.dirNoneRow.origin Rows.dirNoneRow.targs := of_decide_eq_true (by kernel_rfl)
set_option maxRecDepth 100000 in
theorem dirNone_wrap : Tryz.f8.isWrapper Tryz.pinned.checked.prog Rows.dirNoneRow.wrapper Rows.dirNoneRow.mainSum := by
  unfold Func.isWrapper
  first | (rw [if_pos (by decide +kernel)]; kernel_rfl) | (rw [if_neg (by decide +kernel)]; exact ⟨rfl, rfl⟩)
set_option maxRecDepth 100000 in
theorem dirNone_over : Rows.dirNoneRow.holds Tryz.pinned (OpenSpec.ofChange Rows.dirNoneSpec) :=
  OpenClaim.holds_of_wide 8 Tryz.f8 rfl rfl rfl rfl rfl rfl rfl ⟨rfl, rfl, rfl, rfl, rfl⟩ rfl rfl rfl rfl rfl dirNone_named Tryz.func8 dirNone_joined dirNone_inst dirNone_wrap
    (fun os started H enc _ => dirNone_lifted os started H enc)
theorem dirNone : Rows.DirNoneSaid := dirNone_over
#print axioms dirNone
end Go.Proofs.YtkbbonhbihmbcaaGreatRR
