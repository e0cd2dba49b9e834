/- CacheNil: whatever block, fill and size: a cache that is none refuses everything; the law returns true, and the input reads behind the call as it read before. -/
import Derived.Test.YtpacglkopelfiaaHandA
import Derived.Test.YtpacglkopelfiaaCNilA
set_option linter.unusedVariables false
set_option linter.unusedSimpArgs false
namespace Go.Vc
open Go.Proofs

def eC : ElemI := ⟨37, 1, 8, #[.pointer none]⟩
theorem elC : elemI Try.prog 38 = some eC := by kernel_rfl
theorem newC (x : Addr) : newSliceE (some eC) 2 [(0, .pointer none), (1, .pointer (some x))] = some #[.pointer none, .pointer (some x)] := by kernel_rfl
theorem rowB : IntRow Try.prog 25 1024 .u8 := ⟨⟨5, by kernel_rfl, by kernel_rfl, by kernel_rfl, by kernel_rfl⟩, by kernel_rfl⟩
theorem neB {H : Hp} : eqXE Try.prog 25 false .neq (.agg zB) (.agg zB) H = some (.bool false) := by
  rw [eqXE_neq, eqB_true rowB (show IsB zB from isB_zero)]; rfl
theorem d11 : decide ((1 : Int) ≠ 1) = false := rfl
theorem d00 : decide ((0 : Int) ≠ 0) = false := rfl
theorem und_ints : Try.prog.underlying 46 = some (.slice 3) := by kernel_rfl

set_option maxHeartbeats 1000000 in
theorem law_cacheNil {a f s : Int} {H : Hp} {R : Value → Hp → Prop} (h : ∀ H', Ext H H' → R (.bool true) H') : Fc Try.prog 3 #[.int .i64 a, .int .u16 f, .int .i64 s] H R := by
  refine fn3 ?_
  simp only [sh3, zeroC, zeroD, Pu_some, Any_const, elC, ForX_true]
  refine box_i fun b1 H1 hb1 e1 s1 g1 => ?_
  refine box_i fun b2 H2 hb2 e2 s2 g2 => ?_
  simp only [cells_agg] at g1 g2
  simp only [newC, Pu_some]
  refine newS_i fun b3 H3 hb3 e3 s3 g3 => ?_
  have e13 := e2.trans e3
  refine LoopP.mk (fun s H' => ∃ i : Int, s.1 = .int .i64 i ∧ 0 ≤ i ∧ i ≤ 2 ∧ Ext H3 H') (fun s _ => match s.1 with | .int _ i => (2 - i).toNat | _ => 0) ⟨0, rfl, by omega, by omega, Ext.refl _⟩ ?_
  rintro ⟨s, u⟩ H4 ⟨i, hs, h0, h2, e4⟩
  simp only at hs
  subst hs
  simp only [binE_lss, Pu_some, Ite_dec]
  refine ⟨fun hlt => ?_, fun hge => ?_⟩
  · have hel : ∃ v, NoC v H4 ∧ ∀ H', Ext H3 H' → loadE (some none) (.pointer (some ⟨b3, 0 + i.toNat * 1, none⟩)) H' = some v := by
      rcases (by omega : i = 0 ∨ i = 1) with rfl | rfl
      · exact ⟨_, .inl rfl, fun H' hx => by rw [load_cell (hx.at g3)]; rfl⟩
      · exact ⟨_, .inr ⟨b1, _, rfl, (e13.trans e4).at g1⟩, fun H' hx => by rw [load_cell (hx.at g3)]; rfl⟩
    obtain ⟨v, hv, hl⟩ := hel
    simp only [idx_slc h0 hlt, hl _ e4, Pu_some]
    refine read_n hv fun H5 e5 => ?_
    simp only [extractE, List.getElem?_toArray, List.getElem?_cons_zero, List.getElem?_cons_succ, Pu_some, zeroB]
    refine box_i fun b6 H6 hb6 e6 s6 g6 => ?_
    simp only [cells_agg] at g6
    refine storeAll_i g6 zB_size zB_size zB_ok fun H7 k7 s7 g7 => ?_
    have hle := e5.le
    have e47 : Ext H4 H7 := ((e5.trans e6).kp (· = b6)).trans k7 |>.ext fun k hk e => by omega
    refine Join.mk (fun s H' => s.1 = .bool false ∧ Ext H4 H') ?_ ?_
    · rintro ⟨s, u⟩ H8 ⟨hs, e8⟩
      simp only at hs
      subst hs
      simp only [Ite_false, binE_add, Pu_some, i64wrap_id (show -9223372036854775808 ≤ i + 1 by omega) (show i + 1 ≤ 9223372036854775807 by omega)]
      exact ⟨⟨i + 1, rfl, by omega, by omega, e4.trans e8⟩, by show (2 - (i + 1)).toNat < (2 - i).toNat; omega⟩
    · simp only [binE_neq, Pu_some, d11, Ite_false, load_all g7 zB_size, buildB, neB, hl _ (e4.trans e47)]
      obtain ⟨x, hx⟩ := filled_q (f := f) (H := H7)
      refine ⟨.agg x, hx, fun H11 e11 => ?_⟩
      have a11 := e47.trans e11
      refine put_n (hv.ext a11) fun H12 e12 => ?_
      have a12 := a11.trans e12
      simp only [binE_neq, Pu_some, d11, Ite_false, hl _ (e4.trans a12)]
      intro H14 e14
      have a14 := a12.trans e14
      refine flush_n (hv.ext a14) ?_
      simp only [binE_neq, Pu_some, d11, Ite_false, hl _ (e4.trans a14)]
      intro H17 e17
      have a17 := a14.trans e17
      refine fast_n (hv.ext a17) ?_
      simp only [binE_neq, Pu_some, d00, Ite_false, hl _ (e4.trans a17)]
      intro H20 e20
      have a20 := a17.trans e20
      refine len_n (hv.ext a20) ?_
      simp only [binE_neq, Pu_some, d00, Ite_false, hl _ (e4.trans a20)]
      intro H23 e23
      have a23 := a20.trans e23
      refine order_n (hv.ext a23) ?_
      simp only [len_slice und_ints, Int.natCast_zero, binE_neq, Pu_some, d00]
      exact fun H25 e25 => ⟨trivial, a23.trans e25⟩
  · refine new_n (.inl rfl) ?_
    simp only [extractE, List.getElem?_toArray, List.getElem?_cons_zero, List.getElem?_cons_succ, Pu_some]
    refine new_n (.inr ⟨b2, _, rfl, (e3.trans e4).at g2⟩) ?_
    simp only [List.getElem?_toArray, List.getElem?_cons_zero, List.getElem?_cons_succ, Pu_some, eqX_nil undC, Ite_true, binE_eql, decide_true]
    exact Xc.closedG simg19 ok19 fun H28 e28 => h _ (e1.trans (e13.trans (e4.trans e28)))
end Go.Vc

namespace Go.Proofs.Ytpacglkopelfiaa
open Go.Vc
set_option maxRecDepth 100000 in
theorem cacheNil_lifted (os : Os) (started : os.Started) (H : Type) (enc : TypeId × Value → H) :
    ReturnsInHanded {} Try.checked os 3 .any (Rows.cacheNilSpec.pre6 enc Try.prog Try.f3 Rows.cacheNilRow.domain false) (Rows.cacheNilSpec.post enc Try.prog Try.f3 false true false false) := by
  refine returnsInHanded_of_change (C := Try.checked) own started (by kernel_rfl) Try.func3
    (witness_hand (enc := enc) (C := Try.checked) #[.int .i64 0, .int .u16 0, .int .i64 0] 8 (by kernel_rfl) (by kernel_rfl) Try.func3 (by kernel_rfl) ⟨rfl, rfl, rfl, rfl⟩ (fun W base j t v ht hv => by
      match j, ht, hv with
      | 0, ht, hv => injection ht with ht; injection hv with hv; subst ht hv; exact int_ok undInt (by decide) (by decide)
      | 1, ht, hv => injection ht with ht; injection hv with hv; subst ht hv; exact int_ok undU16 (by decide) (by decide)
      | 2, ht, hv => injection ht with ht; injection hv with hv; subst ht hv; exact int_ok undInt (by decide) (by decide)) (by kernel_rfl) (by kernel_rfl)) ?_
  intro W base args ds gs before hval0 hW hcnd _
  have hval : ∀ (j : Nat) t v, Try.f3.params[j]? = some t → args[j]? = some v → Value.okWide Try.prog W .any base t v := hval0
  have hW' := hW
  obtain ⟨p, q, hA, hV, rfl, hfz, hnd⟩ := hW
  obtain ⟨u, v, w, rfl⟩ := args3 hA
  obtain ⟨i, rfl, _⟩ := open_int undInt (hval 0 3 u rfl rfl)
  obtain ⟨j, rfl, _⟩ := open_int undU16 (hval 1 22 v rfl rfl)
  obtain ⟨k, rfl, _⟩ := open_int undInt (hval 2 3 w rfl rfl)
  refine (Fc.calls (law_cacheNil (R := fun v H' => v = .bool true ∧ Ext W.heap H') fun H' hx => ⟨rfl, hx⟩)).mono fun e W' ⟨v, he, ⟨hv, hx⟩, hs⟩ => ?_
  subst hv
  exact ⟨_, he, law_post laidOut undBool rfl (by kernel_rfl) (by kernel_rfl) hW' (fun e1 e2 => by
    match ds, gs, e1, e2 with
    | [d1, d2, d3], [], _, _ => rfl) hs hx⟩

set_option maxRecDepth 100000 in
theorem cacheNil_over : Rows.cacheNilRow.holds Try.pinned (OpenSpec.ofChange Rows.cacheNilSpec) :=
  OpenClaim.holds_of_wide 3 Try.f3 rfl rfl rfl rfl rfl rfl rfl ⟨rfl, rfl, rfl, rfl, rfl⟩ rfl rfl rfl rfl rfl (by kernel_rfl) Try.func3 (by kernel_rfl)
    (of_decide_eq_true (by kernel_rfl)) (by unfold Func.isWrapper; first | (rw [if_pos (by decide +kernel)]; kernel_rfl) | (rw [if_neg (by decide +kernel)]; exact ⟨rfl, rfl⟩))
    (fun os started H enc _ => cacheNil_lifted os started H enc)
theorem cacheNil : Rows.CacheNilSaid := cacheNil_over
#print axioms cacheNil
end Go.Proofs.Ytpacglkopelfiaa
