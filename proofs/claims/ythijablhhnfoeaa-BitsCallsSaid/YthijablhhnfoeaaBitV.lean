/- BitsCalls and BitsNames: of whatever block, bit and span all five functions answer what the document says, All stopped and gone over again too; and the chapter's examples: the laws return true and the input reads behind the call as it read before. -/
import Derived.Test.YthijablhhnfoeaaBitO
import Derived.Test.YthijablhhnfoeaaBitM
set_option linter.unusedVariables false
set_option linter.unusedSimpArgs false
namespace Go.Proofs.Ythijablhhnfoeaa
open Go.Vc

set_option maxRecDepth 100000 in
theorem calls_lifted (os : Os) (started : os.Started) (H : Type) (enc : TypeId × Value → H) :
    ReturnsInHanded {} Try.checked os 6 .any (Rows.bitsCallsSpec.pre6 enc Try.prog Try.f6 Rows.bitsCallsRow.domain false) (Rows.bitsCallsSpec.post enc Try.prog Try.f6 false true false false) := by
  refine returnsInHanded_of_change (C := Try.checked) own started (by kernel_rfl) Try.func6
    (witness_hand (enc := enc) (C := Try.checked) zeroArgs 8 (by kernel_rfl) (by kernel_rfl) Try.func6 (by kernel_rfl) ⟨rfl, rfl, rfl, rfl⟩ (fun W base j t v ht hv => zero_ok W base j t v ht hv) (by kernel_rfl) (by kernel_rfl)) ?_
  intro W base args ds gs before hval0 hW hcnd _
  have hval : ∀ (j : Nat) t v, Try.f6.params[j]? = some t → args[j]? = some v → Value.okWide Try.prog W .any base t v := hval0
  have hW' := hW
  obtain ⟨p, q, hA, hV, rfl, hfz, hnd⟩ := hW
  obtain ⟨v, w, rfl⟩ := two_args (ts := []) hA
  obtain ⟨c, rfl, hb⟩ := open_block (hval 0 23 v rfl rfl)
  obtain ⟨i, j, on, f, m, t, rfl, hi, hj, hf, hm, ht⟩ := open_ask (hval 1 25 w rfl rfl)
  refine (Fc.calls (law_calls (i := i) (m := m) (on := on) (R := fun v H' => v = .bool true ∧ Ext W.heap H') hb hf hj fun H' hx => ⟨rfl, hx⟩)).mono fun e W' ⟨v, he, ⟨hv, hx⟩, hs⟩ => ?_
  subst hv
  exact ⟨_, he, law_post laidOut und4 rfl (by kernel_rfl) (by kernel_rfl) hW' (fun e1 e2 => by
    match ds, gs, e1, e2 with
    | [d1, d2], [], _, _ => rfl) hs hx⟩

set_option maxRecDepth 100000 in
theorem calls_over : Rows.bitsCallsRow.holds Try.pinned (OpenSpec.ofChange Rows.bitsCallsSpec) :=
  OpenClaim.holds_of_wide 6 Try.f6 rfl rfl rfl rfl rfl rfl rfl ⟨rfl, rfl, rfl, rfl, rfl⟩ rfl rfl rfl rfl rfl (by kernel_rfl) Try.func6 (by kernel_rfl)
    (of_decide_eq_true (by kernel_rfl)) (by unfold Func.isWrapper; first | (rw [if_pos (by decide +kernel)]; kernel_rfl) | (rw [if_neg (by decide +kernel)]; exact ⟨rfl, rfl⟩))
    (fun os started H enc _ => calls_lifted os started H enc)

theorem bitsCalls : Rows.BitsCallsSaid := calls_over

theorem no_args {H : Type} {enc : TypeId × Value → H} {W : World} {b : Nat} {sp : Nat → Bool} {hd : Bool} {args : Array Value} {ds : List (DataW H)} {ps : List MemPlace}
    (h : DataW.TrodAll enc Try.prog W b sp hd [] args.toList ds ps) : args = #[] := by
  obtain ⟨l⟩ := args
  match l, ds, h with
  | [], _, _ => rfl
  | _ :: _, _, h => simp [DataW.TrodAll] at h

set_option maxRecDepth 100000 in
theorem names_lifted (os : Os) (started : os.Started) (H : Type) (enc : TypeId × Value → H) :
    ReturnsInHanded {} Try.checked os 8 .any (Rows.bitsNamesSpec.pre6 enc Try.prog Try.f8 Rows.bitsNamesRow.domain false) (Rows.bitsNamesSpec.post enc Try.prog Try.f8 false true false false) := by
  refine returnsInHanded_of_change (C := Try.checked) own started (by kernel_rfl) Try.func8
    (witness_hand (enc := enc) (C := Try.checked) #[] 8 (by kernel_rfl) (by kernel_rfl) Try.func8 (by kernel_rfl) ⟨rfl, rfl, rfl, rfl⟩ (fun W base j t v ht hv => by simp at hv) (by kernel_rfl) (by kernel_rfl)) ?_
  intro W base args ds gs before hval0 hW hcnd _
  have hW' := hW
  obtain ⟨p, q, hA, hV, rfl, hfz, hnd⟩ := hW
  obtain rfl := no_args hA
  refine (Fc.calls (law_names (R := fun v H' => v = .bool true ∧ Ext W.heap H') fun H' hx => ⟨rfl, hx⟩)).mono fun e W' ⟨v, he, ⟨hv, hx⟩, hs⟩ => ?_
  subst hv
  exact ⟨_, he, law_post laidOut und4 rfl (by kernel_rfl) (by kernel_rfl) hW' (fun e1 e2 => by
    match ds, gs, e1, e2 with
    | [], [], _, _ => rfl) hs hx⟩

set_option maxRecDepth 100000 in
theorem names_over : Rows.bitsNamesRow.holds Try.pinned (OpenSpec.ofChange Rows.bitsNamesSpec) :=
  OpenClaim.holds_of_wide 8 Try.f8 rfl rfl rfl rfl rfl rfl rfl ⟨rfl, rfl, rfl, rfl, rfl⟩ rfl rfl rfl rfl rfl (by kernel_rfl) Try.func8 (by kernel_rfl)
    (of_decide_eq_true (by kernel_rfl)) (by unfold Func.isWrapper; first | (rw [if_pos (by decide +kernel)]; kernel_rfl) | (rw [if_neg (by decide +kernel)]; exact ⟨rfl, rfl⟩))
    (fun os started H enc _ => names_lifted os started H enc)

theorem bitsNames : Rows.BitsNamesSaid := names_over
#print axioms bitsCalls
#print axioms bitsNames
end Go.Proofs.Ythijablhhnfoeaa
