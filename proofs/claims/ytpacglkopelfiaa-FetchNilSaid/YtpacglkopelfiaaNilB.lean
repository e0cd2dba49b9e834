/- FetchNil and RackNil: of what is no log (nil, or one that lies zero) fetch and rack refuse everything: whatever the input the laws return true, and the input reads behind the call as it read before. -/
import Derived.Test.YtpacglkopelfiaaHandA
import Derived.Test.YtpacglkopelfiaaNilA
set_option linter.unusedVariables false
set_option linter.unusedSimpArgs false
namespace Go.Proofs.Ytpacglkopelfiaa
open Go.Vc

theorem askTs : Try.prog.cellTypes Try.prog.depth 93 = some [3, 3, 3] := by kernel_rfl
theorem askCells : Try.prog.cellsOf 93 = 3 := by kernel_rfl
set_option maxRecDepth 100000 in
theorem open_ask {W : World} {base : Nat} {v : Value} (h : Value.okWide Try.prog W .any base 93 v) : ∃ i j k, v = .agg #[.int .i64 i, .int .i64 j, .int .i64 k] := by
  obtain ⟨c, rfl, hsz, hc⟩ := cells_of Try.underlying93 rfl askCells askTs rfl h
  obtain ⟨x0, g0, k0⟩ := hc 0 _ rfl
  obtain ⟨x1, g1, k1⟩ := hc 1 _ rfl
  obtain ⟨x2, g2, k2⟩ := hc 2 _ rfl
  obtain ⟨i, rfl, _⟩ := cell_int undInt k0
  obtain ⟨j, rfl, _⟩ := cell_int undInt k1
  obtain ⟨k, rfl, _⟩ := cell_int undInt k2
  refine ⟨i, j, k, ?_⟩
  congr 1
  apply Array.ext_getElem?
  intro q
  match q with
  | 0 => exact g0
  | 1 => exact g1
  | 2 => exact g2
  | q + 3 => rw [Array.getElem?_eq_none (by omega), Array.getElem?_eq_none (by simp)]

set_option maxRecDepth 100000 in
theorem askZero (W : World) (base : Nat) : Value.okWide Try.prog W .any base 93 (.agg #[.int .i64 0, .int .i64 0, .int .i64 0]) := by
  refine okWide_cells Try.underlying93 rfl askCells askTs rfl rfl fun i u hu => ?_
  match i, hu with
  | 0, hu => injection hu with hu; subst hu; exact ⟨_, rfl, cell_int_ok undInt (by decide) (by decide)⟩
  | 1, hu => injection hu with hu; subst hu; exact ⟨_, rfl, cell_int_ok undInt (by decide) (by decide)⟩
  | 2, hu => injection hu with hu; subst hu; exact ⟨_, rfl, cell_int_ok undInt (by decide) (by decide)⟩

set_option maxRecDepth 100000 in
theorem fetch_lifted (os : Os) (started : os.Started) (H : Type) (enc : TypeId × Value → H) :
    ReturnsInHanded {} Try.checked os 9 .any (Rows.fetchNilSpec.pre6 enc Try.prog Try.f9 Rows.fetchNilRow.domain false) (Rows.fetchNilSpec.post enc Try.prog Try.f9 false true false false) := by
  refine returnsInHanded_of_change (C := Try.checked) own started (by kernel_rfl) Try.func9
    (witness_hand (enc := enc) (C := Try.checked) #[.agg #[.int .i64 0, .int .i64 0, .int .i64 0]] 8 (by kernel_rfl) (by kernel_rfl) Try.func9 (by kernel_rfl) ⟨rfl, rfl, rfl, rfl⟩ (fun W base j t v ht hv => by
      match j, ht, hv with
      | 0, ht, hv => injection ht with ht; injection hv with hv; subst ht hv; exact askZero W base) (by kernel_rfl) (by kernel_rfl)) ?_
  intro W base args ds gs before hval0 hW hcnd _
  have hval : ∀ (j : Nat) t v, Try.f9.params[j]? = some t → args[j]? = some v → Value.okWide Try.prog W .any base t v := hval0
  have hW' := hW
  obtain ⟨p, q, hA, hV, rfl, hfz, hnd⟩ := hW
  obtain ⟨v, rfl⟩ := args1 hA
  obtain ⟨i, j, k, rfl⟩ := open_ask (hval 0 93 v rfl rfl)
  refine (Fc.calls (law_fetchNil (R := fun v H' => v = .bool true ∧ Ext W.heap H') fun H' hx => ⟨rfl, hx⟩)).mono fun e W' ⟨v, he, ⟨hv, hx⟩, hs⟩ => ?_
  subst hv
  exact ⟨_, he, law_post laidOut undBool rfl (by kernel_rfl) (by kernel_rfl) hW' (fun e1 e2 => by
    match ds, gs, e1, e2 with
    | [d1], [], _, _ => rfl) hs hx⟩

set_option maxRecDepth 100000 in
theorem fetch_over : Rows.fetchNilRow.holds Try.pinned (OpenSpec.ofChange Rows.fetchNilSpec) :=
  OpenClaim.holds_of_wide 9 Try.f9 rfl rfl rfl rfl rfl rfl rfl ⟨rfl, rfl, rfl, rfl, rfl⟩ rfl rfl rfl rfl rfl (by kernel_rfl) Try.func9 (by kernel_rfl)
    (of_decide_eq_true (by kernel_rfl)) (by unfold Func.isWrapper; first | (rw [if_pos (by decide +kernel)]; kernel_rfl) | (rw [if_neg (by decide +kernel)]; exact ⟨rfl, rfl⟩))
    (fun os started H enc _ => fetch_lifted os started H enc)
theorem fetchNil : Rows.FetchNilSaid := fetch_over

theorem nodeTs : Try.prog.cellTypes Try.prog.depth 111 = some [107, 22, 108, 108, 108, 108, 108, 108, 108, 108, 108, 108, 108, 108, 108, 108] := by kernel_rfl
theorem nodeCells : Try.prog.cellsOf 111 = 16 := by kernel_rfl
theorem undKind : Try.prog.underlying 107 = some (.int .u16) := by kernel_rfl
set_option maxRecDepth 100000 in
theorem open_node {W : World} {base : Nat} {v : Value} (h : Value.okWide Try.prog W .any base 111 v) : ∃ c, v = .agg c ∧ c.size = 16 := by
  obtain ⟨c, rfl, hsz, hc⟩ := cells_of Try.underlying111 rfl nodeCells nodeTs rfl h
  exact ⟨c, rfl, hsz⟩
set_option maxRecDepth 100000 in
theorem nodeZero (W : World) (base : Nat) : Value.okWide Try.prog W .any base 111 (.agg zNode) := by
  refine okWide_cells Try.underlying111 rfl nodeCells nodeTs rfl rfl fun i u hu => ?_
  match i, hu with
  | 0, hu => injection hu with hu; subst hu; exact ⟨_, rfl, cell_int_ok undKind (by decide) (by decide)⟩
  | 1, hu => injection hu with hu; subst hu; exact ⟨_, rfl, cell_int_ok undU16 (by decide) (by decide)⟩
  | 2, hu => injection hu with hu; subst hu; exact ⟨_, rfl, cell_int_ok undU32 (by decide) (by decide)⟩
  | 3, hu => injection hu with hu; subst hu; exact ⟨_, rfl, cell_int_ok undU32 (by decide) (by decide)⟩
  | 4, hu => injection hu with hu; subst hu; exact ⟨_, rfl, cell_int_ok undU32 (by decide) (by decide)⟩
  | 5, hu => injection hu with hu; subst hu; exact ⟨_, rfl, cell_int_ok undU32 (by decide) (by decide)⟩
  | 6, hu => injection hu with hu; subst hu; exact ⟨_, rfl, cell_int_ok undU32 (by decide) (by decide)⟩
  | 7, hu => injection hu with hu; subst hu; exact ⟨_, rfl, cell_int_ok undU32 (by decide) (by decide)⟩
  | 8, hu => injection hu with hu; subst hu; exact ⟨_, rfl, cell_int_ok undU32 (by decide) (by decide)⟩
  | 9, hu => injection hu with hu; subst hu; exact ⟨_, rfl, cell_int_ok undU32 (by decide) (by decide)⟩
  | 10, hu => injection hu with hu; subst hu; exact ⟨_, rfl, cell_int_ok undU32 (by decide) (by decide)⟩
  | 11, hu => injection hu with hu; subst hu; exact ⟨_, rfl, cell_int_ok undU32 (by decide) (by decide)⟩
  | 12, hu => injection hu with hu; subst hu; exact ⟨_, rfl, cell_int_ok undU32 (by decide) (by decide)⟩
  | 13, hu => injection hu with hu; subst hu; exact ⟨_, rfl, cell_int_ok undU32 (by decide) (by decide)⟩
  | 14, hu => injection hu with hu; subst hu; exact ⟨_, rfl, cell_int_ok undU32 (by decide) (by decide)⟩
  | 15, hu => injection hu with hu; subst hu; exact ⟨_, rfl, cell_int_ok undU32 (by decide) (by decide)⟩

set_option maxRecDepth 100000 in
theorem rack_lifted (os : Os) (started : os.Started) (H : Type) (enc : TypeId × Value → H) :
    ReturnsInHanded {} Try.checked os 10 .any (Rows.rackNilSpec.pre6 enc Try.prog Try.f10 Rows.rackNilRow.domain false) (Rows.rackNilSpec.post enc Try.prog Try.f10 false true false false) := by
  refine returnsInHanded_of_change (C := Try.checked) own started (by kernel_rfl) Try.func10
    (witness_hand (enc := enc) (C := Try.checked) #[.int .i64 0, .agg zNode] 8 (by kernel_rfl) (by kernel_rfl) Try.func10 (by kernel_rfl) ⟨rfl, rfl, rfl, rfl⟩ (fun W base j t v ht hv => by
      match j, ht, hv with
      | 0, ht, hv => injection ht with ht; injection hv with hv; subst ht hv; exact int_ok undInt (by decide) (by decide)
      | 1, ht, hv => injection ht with ht; injection hv with hv; subst ht hv; exact nodeZero W base) (by kernel_rfl) (by kernel_rfl)) ?_
  intro W base args ds gs before hval0 hW hcnd _
  have hval : ∀ (j : Nat) t v, Try.f10.params[j]? = some t → args[j]? = some v → Value.okWide Try.prog W .any base t v := hval0
  have hW' := hW
  obtain ⟨p, q, hA, hV, rfl, hfz, hnd⟩ := hW
  obtain ⟨v, w, rfl⟩ := args2 hA
  obtain ⟨i, rfl, _⟩ := open_int undInt (hval 0 3 v rfl rfl)
  obtain ⟨n, rfl, hn⟩ := open_node (hval 1 111 w rfl rfl)
  refine (Fc.calls (law_rackNil (R := fun v H' => v = .bool true ∧ Ext W.heap H') hn fun H' hx => ⟨rfl, hx⟩)).mono fun e W' ⟨v, he, ⟨hv, hx⟩, hs⟩ => ?_
  subst hv
  exact ⟨_, he, law_post laidOut undBool rfl (by kernel_rfl) (by kernel_rfl) hW' (fun e1 e2 => by
    match ds, gs, e1, e2 with
    | [d1, d2], [], _, _ => rfl) hs hx⟩

set_option maxRecDepth 100000 in
theorem rack_over : Rows.rackNilRow.holds Try.pinned (OpenSpec.ofChange Rows.rackNilSpec) :=
  OpenClaim.holds_of_wide 10 Try.f10 rfl rfl rfl rfl rfl rfl rfl ⟨rfl, rfl, rfl, rfl, rfl⟩ rfl rfl rfl rfl rfl (by kernel_rfl) Try.func10 (by kernel_rfl)
    (of_decide_eq_true (by kernel_rfl)) (by unfold Func.isWrapper; first | (rw [if_pos (by decide +kernel)]; kernel_rfl) | (rw [if_neg (by decide +kernel)]; exact ⟨rfl, rfl⟩))
    (fun os started H enc _ => rack_lifted os started H enc)
theorem rackNil : Rows.RackNilSaid := rack_over
#print axioms fetchNil
#print axioms rackNil
end Go.Proofs.Ytpacglkopelfiaa
