/- CacheFew: whatever size and whatever blocks are read again: the law returns true, and the input reads behind the call as it read before. -/
import Derived.Test.YtmafmkiaiiddnaaRRFwL
import Derived.Test.YtmafmkiaiiddnaaRRFwK
import Derived.SizedLaws
/- CacheFew: whatever size and whatever blocks are read again: the law returns true, and the input reads behind the call as it read before. -/
set_option linter.unusedVariables false
set_option linter.unusedSimpArgs false
namespace Go.Vc
theorem list_of {α : Type} {f : α → Array Value} {Q : α → Prop} : ∀ {vs : List (Array Value)}, (∀ v ∈ vs, ∃ a, v = f a ∧ Q a) → ∃ l : List α, vs = l.map f ∧ ∀ a ∈ l, Q a
  | [], _ => ⟨[], rfl, fun a h => by cases h⟩
  | v :: vs, h => by
    obtain ⟨a, h1, h2⟩ := h v List.mem_cons_self
    obtain ⟨l, h3, h4⟩ := list_of fun w hw => h w (List.mem_cons_of_mem _ hw)
    refine ⟨a :: l, by rw [h1, h3]; rfl, fun b hb => ?_⟩
    rcases List.mem_cons.1 hb with rfl | hb
    · exact h2
    · exact h4 b hb
/-- An argument that is a list of bytes. -/
theorem open_bytes {K : Type} {enc : TypeId × Value → K} {P : Program} {w : World} {sp : Nat → Bool} {hd : Bool} {t e : TypeId} {s : Value} {d : DataW K} {ps : List MemPlace} (ht : P.underlying t = some (.slice e)) (he : P.underlying e = some (.int .u8)) (hc : P.cellsOf e = 1)
    (hs : s.cells = #[s]) (h : DataW.Trod enc P w 0 sp hd t s d ps) : ∃ ns, Sr 1 w.heap s (byts ns) ∧ (∀ m ∈ ns, 0 ≤ m ∧ m < 256) ∧ (ns = [] ∨ ∃ elems r, d = .slice elems r ∧ elems.length = ns.length) := by
  obtain ⟨fuel, h⟩ := h
  rw [hs] at h
  obtain ⟨vs, m, ds, h1, h2, h3, _, h4⟩ := trod_sr ht hc (by decide) h
  obtain ⟨ns, rfl, h5⟩ := list_of (f := fun x => #[.int .u8 x]) (Q := fun x => 0 ≤ x ∧ x < 256) (vs := vs) fun v hv => by
    obtain ⟨i, hi⟩ := List.mem_iff_getElem?.1 hv
    have h6 := h3 i v hi
    have hil : i < vs.length := by
      rcases Nat.lt_or_ge i vs.length with h | h
      · exact h
      · rw [List.getElem?_eq_none h] at hi; cases hi
    rw [List.getElem?_eq_getElem (by omega)] at h6
    obtain ⟨n, h7, h8, h9⟩ := DataW.trod_int he h6
    refine ⟨n, by rw [← Array.toList_inj, h7], ?_⟩
    have h10 : (decide (IntKind.u8.min ≤ n ∧ n ≤ IntKind.u8.max)) = true := by simpa [Lit.wf, IntKind.has] using h9
    have h11 := of_decide_eq_true h10
    rw [min_u8, max_u8] at h11
    omega
  refine ⟨ns, h1, h5, ?_⟩
  rcases h4 with ⟨h4, _⟩ | ⟨r, h4⟩
  · exact .inl (List.map_eq_nil_iff.1 h4)
  · exact .inr ⟨_, r, h4, by rw [List.length_map, h2, List.length_map]⟩
end Go.Vc

namespace Go.Proofs.YtmafmkiaiiddnaaRR
open Go.Vc Go.Xc

set_option maxRecDepth 100000 in
theorem cacheFew_lifted (os : Os) (started : os.Started) (H : Type) (enc : TypeId × Value → H) :
    ReturnsInHanded {} Try.checked os 3 .any (Rows.cacheFewSpec.pre6 enc Try.prog Try.f3 Rows.cacheFewRow.domain false) (Rows.cacheFewSpec.post enc Try.prog Try.f3 false true false false) := by
  refine returnsInHanded_of_change_sized (C := Try.checked) own started (by kernel_rfl) Try.func3
    (witness_hand (enc := enc) (C := Try.checked) #[.int .i64 0, .slice none 0 0] 8 (by kernel_rfl) (by kernel_rfl) Try.func3 (by kernel_rfl) ⟨rfl, rfl, rfl, rfl⟩ (fun W base j t v ht hv => by
      match j, ht, hv with
      | 0, ht, hv => injection ht with ht; injection hv with hv; subst ht hv; exact int_ok undInt (by decide) (by decide)
      | 1, ht, hv => injection ht with ht; injection hv with hv; subst ht hv; exact slice_ok undByts) (by kernel_rfl) (by kernel_rfl)) ?_
  intro W base args ds gs before hval0 hW hcnd hz _
  have hW' := hW
  obtain ⟨p, q, hA, hV, rfl, hfz, hnd⟩ := hW
  obtain ⟨v, w, rfl⟩ := args2 hA
  obtain ⟨x, rfl, _, _⟩ := open_int undInt (hval0 0 3 v (by kernel_rfl) rfl)
  have hw1 : w.cells = #[w] := by
    rcases slice_of undByts (hval0 1 22 w (by kernel_rfl) rfl) with rfl | ⟨a, len, cap, c, T, z, rfl, hb⟩ <;> rfl
  have key : Fc Try.prog 3 #[.int .i64 x, w] W.heap (fun v H' => v = .bool true ∧ Ext W.heap H') := by
    match ds, hA, hz with
    | [d1, d2], hA, hz =>
      obtain ⟨p1, q1, h1, ⟨p2, q2, h2, _⟩, _⟩ := hA
      obtain ⟨ns, hs, hb, hl⟩ := open_bytes undByts undU8 (by kernel_rfl) hw1 h2
      refine law_few hs hb ?_ fun H' hx => ⟨rfl, hx⟩
      rcases hl with rfl | ⟨elems, r, rfl, hl⟩
      · exact Nat.zero_le _
      · have h3 := sized_slice hz (j := 1) (t := 22) rfl rfl undByts
        rw [show Try.checked.prog.bytesOf 5 = 1 by kernel_rfl] at h3
        have := reachBytes_lt
        omega
  refine (Fc.calls key).mono fun e W' ⟨v, he, ⟨hv, hx⟩, hs⟩ => ?_
  subst hv
  exact ⟨_, he, law_post laidOut undBool rfl (by kernel_rfl) (by kernel_rfl) hW' (fun e1 e2 => by
    match ds, gs, e1, e2 with
    | [d0, d1], [], _, _ => rfl) hs hx⟩

set_option maxRecDepth 100000 in
set_option maxHeartbeats 4000000 in
theorem cacheFew_joined : joinedFacts Try.pinned.checked.prog 3 Try.f3 Rows.cacheFewSpec Rows.cacheFewRow = true := by
  unfold joinedFacts
  simp only [Bool.and_eq_true]
  repeat' apply And.intro
  all_goals (as_aux_lemma => kernel_rfl)
set_option maxRecDepth 100000 in
theorem cacheFew_named : Try.pinned.checked.prog.funcNamed Rows.cacheFewRow.func = some 3 := by kernel_rfl
set_option maxRecDepth 100000 in
theorem cacheFew_inst : Try.f3.isInstance Try.pinned.checked.prog Rows.cacheFewRow.origin Rows.cacheFewRow.targs := of_decide_eq_true (by kernel_rfl)
set_option maxRecDepth 100000 in
theorem cacheFew_wrap : Try.f3.isWrapper Try.pinned.checked.prog Rows.cacheFewRow.wrapper Rows.cacheFewRow.mainSum := by
  unfold Func.isWrapper
  first | (rw [if_pos (by decide +kernel)]; kernel_rfl) | (rw [if_neg (by decide +kernel)]; exact ⟨rfl, rfl⟩)
set_option maxRecDepth 100000 in
theorem cacheFew_over : Rows.cacheFewRow.holds Try.pinned (OpenSpec.ofChange Rows.cacheFewSpec) :=
  OpenClaim.holds_of_wide 3 Try.f3 rfl rfl rfl rfl rfl rfl rfl ⟨rfl, rfl, rfl, rfl, rfl⟩ rfl rfl rfl rfl rfl cacheFew_named Try.func3 cacheFew_joined cacheFew_inst cacheFew_wrap
    (fun os started H enc _ => cacheFew_lifted os started H enc)
theorem cacheFew : Rows.CacheFewSaid := cacheFew_over
end Go.Proofs.YtmafmkiaiiddnaaRR
