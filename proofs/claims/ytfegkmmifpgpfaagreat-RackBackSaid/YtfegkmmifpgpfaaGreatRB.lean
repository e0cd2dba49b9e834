/- RackBack: whatever world, whatever numbers and whatever inodes: the law returns true, and the input reads behind the call as it read before. -/
import Derived.Test.YtfegkmmifpgpfaaGreatRBM
import Derived.Test.YtfegkmmifpgpfaaGreatRBJ
set_option linter.unusedVariables false
set_option linter.unusedSimpArgs false
namespace Go.Vc
open Go.Proofs
theorem wuNodes : Tryz.prog.underlying 30 = some (.slice 54) := by kernel_rfl
theorem nodes_of {K : Type} {enc : TypeId × Value → K} {w : World} {sp : Nat → Bool} {hd : Bool} {m : Nat} {s : Value} {x : DataW K × List MemPlace} (h : DataW.trod enc Tryz.prog w 0 sp hd m 30 [s] = some x) (hw : ∀ n ∈ x.1.weights Tryz.prog 30, n ≤ reachBytes) : ∃ l : List Ino, Sr 16 w.heap s (l.map zS) ∧ (∀ f ∈ l, InoOk f) ∧ l.length < 281474976710656 := by
 obtain ⟨l, s1, o1, n1⟩ := sl_of (f := zS) (Q := InoOk) wuNodes (show Tryz.prog.cellsOf 54 = 16 by kernel_rfl) (by omega) hw (fun m v y hy _ => by
   obtain ⟨h1, h2⟩ := ino_of hy
   exact ⟨_, by rw [← Array.toList_inj]; exact h1, h2⟩) h
 have r := reachBytes_lt
 have k5 : 1 ≤ Tryz.prog.bytesOf 54 := by decide +kernel
 have m5 := Nat.mul_le_mul_left l.length k5
 exact ⟨l, s1, o1, by omega⟩
end Go.Vc
namespace Go.Proofs.YtfegkmmifpgpfaaGreat
open Go.Vc
set_option maxRecDepth 100000 in
theorem rackBack_lifted (os : Os) (started : os.Started) (H : Type) (enc : TypeId × Value → H) :
   ReturnsInHanded {} Tryz.checked os 3 .any (Rows.rackBackSpec.pre6 enc Tryz.prog Tryz.f3 Rows.rackBackRow.domain false) (Rows.rackBackSpec.post enc Tryz.prog Tryz.f3 false true false false) := by
 refine returnsInHanded_of_change_sized (C := Tryz.checked) own started (by kernel_rfl) Tryz.func3
   (witness_hand (enc := enc) (C := Tryz.checked) #[.agg (Yy 0 0 0 (.slice none 0 0) 0 0 0), .slice none 0 0, .slice none 0 0] 8 (by kernel_rfl) (by kernel_rfl) Tryz.func3 (by kernel_rfl) ⟨rfl, rfl, rfl, rfl⟩ (fun W base j t v ht hv => by
     match j, ht, hv with
     | 0, ht, hv => injection ht with ht; injection hv with hv; subst ht hv; exact world_ok
     | 1, ht, hv => injection ht with ht; injection hv with hv; subst ht hv; exact slice_ok wuInts
     | 2, ht, hv => injection ht with ht; injection hv with hv; subst ht hv; exact slice_ok wuNodes) (by kernel_rfl) (by kernel_rfl)) ?_
 intro W base args ds gs before hval0 hW hcnd hz _
 have hW' := hW
 obtain ⟨p, q, hA, hV, rfl, hfz, hnd⟩ := hW
 obtain ⟨v, w, y, rfl⟩ := args3 hA
 have hw1 : w.cells = #[w] := by
   rcases slice_of wuInts (hval0 1 29 w (by kernel_rfl) rfl) with rfl | ⟨a, len, cap, c, T, z, rfl, hb⟩ <;> rfl
 have hy1 : y.cells = #[y] := by
   rcases slice_of wuNodes (hval0 2 30 y (by kernel_rfl) rfl) with rfl | ⟨a, len, cap, c, T, z, rfl, hb⟩ <;> rfl
 have key : Fc Tryz.prog 3 #[v, w, y] W.heap (fun v H' => v = .bool true ∧ Ext W.heap H') := by
   match ds, hA, hz with
   | [d1, d2, d3], hA, hz =>
     obtain ⟨p1, q1, ⟨f1, h1⟩, ⟨p2, q2, ⟨f2, h2⟩, ⟨p3, q3, ⟨f3, h3⟩, _⟩, _⟩, _⟩ := hA
     have hz := List.all_eq_true.1 hz
     have z1 : ∀ n ∈ d1.weights Tryz.prog 28, n ≤ reachBytes := fun n hn => of_decide_eq_true (hz n (DataW.weights_mem_each (j := 0) rfl rfl n hn))
     have z2 : ∀ n ∈ d2.weights Tryz.prog 29, n ≤ reachBytes := fun n hn => of_decide_eq_true (hz n (DataW.weights_mem_each (j := 1) rfl rfl n hn))
     have z3 : ∀ n ∈ d3.weights Tryz.prog 30, n ≤ reachBytes := fun n hn => of_decide_eq_true (hz n (DataW.weights_mem_each (j := 2) rfl rfl n hn))
     obtain ⟨B, L, I, iv, fr, sp, seed, its, rfl, hB, hs, hst, hits, hlen, hiv⟩ := world_of h1 z1
     rw [hw1] at h2
     rw [hy1] at h3
     obtain ⟨ats, s2, o2, n2⟩ := ints_of h2 z2
     obtain ⟨fs, s3, o3, n3⟩ := nodes_of h3 z3
     exact law_back hB hst hits hlen hs hiv s2 s3 o2 o3 n2 n3 fun H' hx => ⟨rfl, hx⟩
 refine (Fc.calls key).mono fun e W' ⟨v, he, ⟨hv, hx⟩, hs⟩ => ?_
 subst hv
 exact ⟨_, he, law_post laidOut undBool rfl (by kernel_rfl) (by kernel_rfl) hW' (fun e1 e2 => by
   match ds, gs, e1, e2 with
   | [d0, d1, d2], [], _, _ => rfl) hs hx⟩
set_option maxRecDepth 100000 in
set_option maxHeartbeats 4000000 in
theorem rackBack_joined : joinedFacts Tryz.pinned.checked.prog 3 Tryz.f3 Rows.rackBackSpec Rows.rackBackRow = true := by
 unfold joinedFacts
 simp only [Bool.and_eq_true]
 repeat' apply And.intro
 all_goals (as_aux_lemma => kernel_rfl)
set_option maxRecDepth 100000 in
theorem rackBack_named : Tryz.pinned.checked.prog.funcNamed Rows.rackBackRow.func = some 3 := by kernel_rfl
set_option maxRecDepth 100000 in
theorem rackBack_inst : Tryz.f3.isInstance Tryz.pinned.checked.prog Rows.rackBackRow.origin Rows.rackBackRow.targs := of_decide_eq_true (by kernel_rfl)
set_option maxRecDepth 100000 in
theorem rackBack_wrap : Tryz.f3.isWrapper Tryz.pinned.checked.prog Rows.rackBackRow.wrapper Rows.rackBackRow.mainSum := by
 unfold Func.isWrapper
 first | (rw [if_pos (by decide +kernel)]; kernel_rfl) | (rw [if_neg (by decide +kernel)]; exact ⟨rfl, rfl⟩)
set_option maxRecDepth 100000 in
theorem rackBack_over : Rows.rackBackRow.holds Tryz.pinned (OpenSpec.ofChange Rows.rackBackSpec) :=
 OpenClaim.holds_of_wide 3 Tryz.f3 rfl rfl rfl rfl rfl rfl rfl ⟨rfl, rfl, rfl, rfl, rfl⟩ rfl rfl rfl rfl rfl rackBack_named Tryz.func3 rackBack_joined rackBack_inst rackBack_wrap
   (fun os started H enc _ => rackBack_lifted os started H enc)
theorem rackBack : Rows.RackBackSaid := rackBack_over
#print axioms rackBack
end Go.Proofs.YtfegkmmifpgpfaaGreat
