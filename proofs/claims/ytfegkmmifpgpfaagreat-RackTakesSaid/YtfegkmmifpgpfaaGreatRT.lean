/- RackTakes: whatever world and whatever inode: the law returns true, and the input reads behind the call as it read before. -/
import Derived.Test.YtfegkmmifpgpfaaGreatRTM
import Derived.Test.YtfegkmmifpgpfaaGreatRTJ
set_option linter.unusedVariables false
set_option linter.unusedSimpArgs false
namespace Go.Vc
open Go.Proofs
theorem cell_nils_ok {P : Program} {W : World} {r : Reach} {base : Nat} {u e : TypeId} (hu : P.underlying u = some (.slice e)) : Cell.okWide P W r base u (.slice none 0 0) := by
 simp [Cell.okWide, hu, Cell.ok]
theorem worldTs : Tryz.prog.cellTypes Tryz.prog.depth 28 = some [3, 3, 3, 24, 3, 3, 3] := by kernel_rfl
theorem nodeTs : Tryz.prog.cellTypes Tryz.prog.depth 54 = some [50, 49, 51, 51, 51, 51, 51, 51, 51, 51, 51, 51, 51, 51, 51, 51] := by kernel_rfl
set_option maxRecDepth 100000 in
theorem world_ok {W : World} {base : Nat} : Value.okWide Tryz.prog W .any base 28 (.agg (wldC 0 0 0 (.slice none 0 0) 0 0 0)) := by
 refine okWide_cells wuWorld rfl (show Tryz.prog.cellsOf 28 = 7 by kernel_rfl) worldTs rfl rfl fun i u hu => ?_
 match i, hu with
 | 0, hu => injection hu with hu; subst hu; exact ⟨_, rfl, ZJ wuInt (by decide) (by decide)⟩
 | 1, hu => injection hu with hu; subst hu; exact ⟨_, rfl, ZJ wuInt (by decide) (by decide)⟩
 | 2, hu => injection hu with hu; subst hu; exact ⟨_, rfl, ZJ wuInt (by decide) (by decide)⟩
 | 3, hu => injection hu with hu; subst hu; exact ⟨_, rfl, cell_nils_ok wuItems⟩
 | 4, hu => injection hu with hu; subst hu; exact ⟨_, rfl, ZJ wuInt (by decide) (by decide)⟩
 | 5, hu => injection hu with hu; subst hu; exact ⟨_, rfl, ZJ wuInt (by decide) (by decide)⟩
 | 6, hu => injection hu with hu; subst hu; exact ⟨_, rfl, ZJ wuInt (by decide) (by decide)⟩
 | i + 7, hu => simp at hu
set_option maxRecDepth 100000 in
theorem node_ok {W : World} {base : Nat} : Value.okWide Tryz.prog W .any base 54 (.agg (zO fun _ => 0)) := by
 refine okWide_cells wuNode rfl (show Tryz.prog.cellsOf 54 = 16 by kernel_rfl) nodeTs rfl rfl fun i u hu => ?_
 have h32 : ∀ j, 2 ≤ j → j < 16 → ∃ c, (zO fun _ => 0)[j]? = some c ∧ Cell.okWide Tryz.prog W .any base 51 c := fun j h2 hj => ⟨_, Zf _ j h2 hj, ZJ wuU32 (by decide) (by decide)⟩
 match i, hu with
 | 0, hu => injection hu with hu; subst hu; exact ⟨_, rfl, ZJ wuKind (by decide) (by decide)⟩
 | 1, hu => injection hu with hu; subst hu; exact ⟨_, rfl, ZJ wuU16 (by decide) (by decide)⟩
 | 2, hu | 3, hu | 4, hu | 5, hu | 6, hu | 7, hu | 8, hu | 9, hu | 10, hu | 11, hu | 12, hu | 13, hu | 14, hu | 15, hu => injection hu with hu; subst hu; exact h32 _ (by omega) (by omega)
 | i + 16, hu => simp at hu
end Go.Vc
namespace Go.Proofs.YtfegkmmifpgpfaaGreat
open Go.Vc
set_option maxRecDepth 100000 in
theorem rackTakes_lifted (os : Os) (started : os.Started) (H : Type) (enc : TypeId × Value → H) :
   ReturnsInHanded {} Tryz.checked os 4 .any (Rows.rackTakesSpec.pre6 enc Tryz.prog Tryz.f4 Rows.rackTakesRow.domain false) (Rows.rackTakesSpec.post enc Tryz.prog Tryz.f4 false true false false) := by
 refine returnsInHanded_of_change_sized (C := Tryz.checked) own started (by kernel_rfl) Tryz.func4
   (witness_hand (enc := enc) (C := Tryz.checked) #[.agg (wldC 0 0 0 (.slice none 0 0) 0 0 0), .agg (zO fun _ => 0)] 8 (by kernel_rfl) (by kernel_rfl) Tryz.func4 (by kernel_rfl) ⟨rfl, rfl, rfl, rfl⟩ (fun W base j t v ht hv => by
     match j, ht, hv with
     | 0, ht, hv => injection ht with ht; injection hv with hv; subst ht hv; exact world_ok
     | 1, ht, hv => injection ht with ht; injection hv with hv; subst ht hv; exact node_ok) (by kernel_rfl) (by kernel_rfl)) ?_
 intro W base args ds gs before hval0 hW hcnd hz _
 have hW' := hW
 obtain ⟨p, q, hA, hV, rfl, hfz, hnd⟩ := hW
 obtain ⟨v, w, rfl⟩ := args2 hA
 have key : Fc Tryz.prog 4 #[v, w] W.heap (fun v H' => v = .bool true ∧ Ext W.heap H') := by
   match ds, hA, hz with
   | [d1, d2], hA, hz =>
     obtain ⟨p1, q1, ⟨f1, h1⟩, ⟨p2, q2, ⟨f2, h2⟩, _⟩, _⟩ := hA
     have hw1 : ∀ n ∈ d1.weights Tryz.prog 28, n ≤ reachBytes := fun n hn => of_decide_eq_true (List.all_eq_true.1 hz n (DataW.weights_mem_each (j := 0) rfl rfl n hn))
     obtain ⟨B, L, I, iv, fr, sp, seed, its, rfl, hB, hs, hst, hits, hlen, hiv⟩ := world_of h1 hw1
     obtain ⟨f, hf, rfl⟩ := node_of h2
     exact law_takes hB hst hits hlen hs hiv hf fun H' hx => ⟨rfl, hx⟩
 refine (Fc.calls key).mono fun e W' ⟨v, he, ⟨hv, hx⟩, hs⟩ => ?_
 subst hv
 exact ⟨_, he, law_post laidOut undBool rfl (by kernel_rfl) (by kernel_rfl) hW' (fun e1 e2 => by
   match ds, gs, e1, e2 with
   | [d0, d1], [], _, _ => rfl) hs hx⟩
set_option maxRecDepth 100000 in
set_option maxHeartbeats 4000000 in
theorem rackTakes_joined : joinedFacts Tryz.pinned.checked.prog 4 Tryz.f4 Rows.rackTakesSpec Rows.rackTakesRow = true := by
 unfold joinedFacts
 simp only [Bool.and_eq_true]
 repeat' apply And.intro
 all_goals (as_aux_lemma => kernel_rfl)
set_option maxRecDepth 100000 in
theorem rackTakes_named : Tryz.pinned.checked.prog.funcNamed Rows.rackTakesRow.func = some 4 := by kernel_rfl
set_option maxRecDepth 100000 in
theorem rackTakes_inst : Tryz.f4.isInstance Tryz.pinned.checked.prog Rows.rackTakesRow.origin Rows.rackTakesRow.targs := of_decide_eq_true (by kernel_rfl)
set_option maxRecDepth 100000 in
theorem rackTakes_wrap : Tryz.f4.isWrapper Tryz.pinned.checked.prog Rows.rackTakesRow.wrapper Rows.rackTakesRow.mainSum := by
 unfold Func.isWrapper
 first | (rw [if_pos (by decide +kernel)]; kernel_rfl) | (rw [if_neg (by decide +kernel)]; exact ⟨rfl, rfl⟩)
set_option maxRecDepth 100000 in
theorem rackTakes_over : Rows.rackTakesRow.holds Tryz.pinned (OpenSpec.ofChange Rows.rackTakesSpec) :=
 OpenClaim.holds_of_wide 4 Tryz.f4 rfl rfl rfl rfl rfl rfl rfl ⟨rfl, rfl, rfl, rfl, rfl⟩ rfl rfl rfl rfl rfl rackTakes_named Tryz.func4 rackTakes_joined rackTakes_inst rackTakes_wrap
   (fun os started H enc _ => rackTakes_lifted os started H enc)
theorem rackTakes : Rows.RackTakesSaid := rackTakes_over
#print axioms rackTakes
end Go.Proofs.YtfegkmmifpgpfaaGreat
