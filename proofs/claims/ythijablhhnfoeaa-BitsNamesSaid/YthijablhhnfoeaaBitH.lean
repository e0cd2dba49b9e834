/- Bits: going over the set bits of a span. -/
import Derived.Test.YthijablhhnfoeaaBitG
set_option linter.unusedVariables false
set_option linter.unusedSimpArgs false
namespace Go.Vc
open Go.Proofs

theorem CallV.mono {P : Program} {y : Value} {args : Array Value} {H : Hp} {K K' : Value → Hp → Prop} (h : CallV P y args H K) (hk : ∀ v H', K v H' → K' v H') : CallV P y args H K' := by
  unfold CallV at h ⊢
  split at h
  · exact ⟨h.1, h.2.mono hk⟩
  · unfold Yld at h ⊢
    split at h
    · exact ⟨h.1, h.2.mono hk⟩
    · exact h.elim
  · exact h.elim

/-- The iterator's own three variables. -/
structure ItB (bf bt bb : Nat) (lo hi : Int) (c : Array Value) (H : Hp) : Prop where
  f : H[bf]? = some (.cells #[.int .i64 lo] 3)
  t : H[bt]? = some (.cells #[.int .i64 hi] 3)
  b : H[bb]? = some (.cells c 23)
theorem ItB.ext {bf bt bb : Nat} {lo hi : Int} {c : Array Value} {H H' : Hp} (h : ItB bf bt bb lo hi c H) (hx : Ext H H') : ItB bf bt bb lo hi c H' := ⟨hx.at h.f, hx.at h.t, hx.at h.b⟩

def ptrV (b : Nat) : Value := .pointer (some ⟨b, 0, none⟩)

/-- The iterator calls yield with each set bit from lo to below hi, rising, till yield says no. -/
theorem all1_ok {y : Value} {c : Array Value} {lo hi : Int} {bf bt bb : Nat} {H : Hp} {R : Value → Hp → Prop} (hb : IsB c) (h0 : 0 ≤ lo) (h8 : hi ≤ 8192) (hlo : lo ≤ 9223372036854775807)
    (I : Int → Hp → Prop) (hit : ∀ i H', I i H' → ItB bf bt bb lo hi c H') (hx : ∀ i H' H'', I i H' → Ext H' H'' → I i H'') (hs : I lo H)
    (hskip : ∀ i H', I i H' → lo ≤ i → i < hi → hasB c i = false → I (i + 1) H')
    (hyield : ∀ i H', I i H' → lo ≤ i → i < hi → hasB c i = true → CallV Try.prog y #[.int .i64 i] H' fun b H'' => (b = .bool true ∧ I (i + 1) H'') ∨ (b = .bool false ∧ R (.tuple #[]) H''))
    (hend : ∀ i H', I i H' → lo ≤ i → hi ≤ i → (i = lo ∨ i = hi) → R (.tuple #[]) H') : Fc Try.prog 24 #[y, ptrV bf, ptrV bt, ptrV bb] H R := by
  refine fn24 ?_
  have l1 : ∀ {H' : Hp} {b : Nat} {v : Value}, H'[b]? = some (.cells #[v] 3) → loadE (some none) (ptrV b) H' = some v := fun h => by
    unfold ptrV; rw [load_cell h]; rfl
  simp only [sh24, l1 (hit _ _ hs).f, Pu_some, Any_const]
  refine LoopP.mk (fun s H' => ∃ i : Int, s.1 = .int .i64 i ∧ lo ≤ i ∧ (i = lo ∨ i ≤ hi) ∧ I i H') (fun s _ => match s.1 with | .int _ i => (8192 - i).toNat | _ => 0) ⟨lo, rfl, Int.le_refl _, .inl rfl, hs⟩ ?_
  rintro ⟨s, u⟩ H1 ⟨i, hs, hil, hih, hI⟩
  simp only at hs
  subst hs
  have it := hit _ _ hI
  simp only [l1 it.t, Pu_some, binE_lss, Ite_dec]
  refine ⟨fun hlt => ?_, fun hge => hend i H1 hI hil (by omega) (by omega)⟩
  refine Join.mk (fun s H' => (s.1 = .bool false ∧ I (i + 1) H') ∨ (s.1 = .bool true ∧ R (.tuple #[]) H')) ?_ ?_
  · rintro ⟨s, u⟩ H2 (⟨hs, hI2⟩ | ⟨hs, hR⟩)
    · simp only at hs
      subst hs
      simp (disch := omega) only [Ite_false, binE_add, i64wrap_id, Pu_some]
      exact ⟨⟨i + 1, rfl, by omega, .inr (by omega), hI2⟩, by omega⟩
    · simp only at hs
      subst hs
      exact hR
  · have hl := load_all (n := 1024) it.b hb.size
    simp only [ptrV, hl, Pu_some]
    refine has_ok hb fun H3 hx3 => ?_
    have hI3 := hx _ _ _ hI hx3
    simp only [Ite_bool]
    refine ⟨fun hh => ?_, fun hh => .inl ⟨trivial, hskip _ _ hI3 hil hlt hh⟩⟩
    refine (hyield _ _ hI3 hil hlt hh).mono fun b H4 hb4 => ?_
    rcases hb4 with ⟨rfl, h⟩ | ⟨rfl, h⟩
    · simp only [unE_not, Pu_some]; exact .inl ⟨rfl, h⟩
    · simp only [unE_not, Pu_some]; exact .inr ⟨rfl, h⟩

/-- bits.All: a closure over three variables of its own. -/
theorem all_ok {c : Array Value} {f t : Int} {H : Hp} {R : Value → Hp → Prop} (hb : IsB c)
    (h : ∀ H', Ext H H' → ItB (H.size + 1) (H.size + 2) H.size (max f 0) (min t 8192) c H' → R (.func (.func 24) #[] #[ptrV (H.size + 1), ptrV (H.size + 2), ptrV H.size]) H') : Fc Try.prog 23 #[.agg c, .int .i64 f, .int .i64 t] H R := by
  refine fn23 ?_
  have g1 := get_push_new H (.cells c 23)
  have g2 := get_push_new (H.push (.cells c 23)) (.cells #[.int .i64 f] 3)
  have g3 := get_push_new ((H.push (.cells c 23)).push (.cells #[.int .i64 f] 3)) (.cells #[.int .i64 t] 3)
  have g13 := get_push_old (o := .cells #[.int .i64 t] 3) (get_push_old (o := .cells #[.int .i64 f] 3) g1)
  have g23 := get_push_old (o := .cells #[.int .i64 t] 3) g2
  have hs1 : (H.push (.cells c 23)).size = H.size + 1 := by simp
  have hs2 : ((H.push (.cells c 23)).push (.cells #[.int .i64 f] 3)).size = H.size + 2 := by simp
  have hx := ((Ext.push H (.cells c 23)).snoc (.cells #[.int .i64 f] 3)).snoc (.cells #[.int .i64 t] 3)
  rw [hs1] at g2 g23
  rw [hs2] at g3
  simp only [sh23, Box, cells_agg, cells_int, hs1, hs2]
  generalize ((H.push (.cells c 23)).push (.cells #[.int .i64 f] 3)).push (.cells #[.int .i64 t] 3) = H3 at g13 g23 g3 hx
  rw [load_cell g23, load_cell g3]
  simp only [List.getElem?_toArray, List.getElem?_cons_zero, Pu_some]
  refine inside_ok ?_
  simp only [extractE, List.getElem?_toArray, List.getElem?_cons_zero, List.getElem?_cons_succ, Pu_some]
  rw [store_cell (v := .int .i64 (max f 0)) g23 (by simp) rfl rfl, Pu_some]
  have k2 := get_set_same (o := .cells (#[Value.int .i64 f].setIfInBounds 0 (.int .i64 (max f 0))) 3) g23
  have k3 : (H3.setIfInBounds (H.size + 1) (.cells (#[Value.int .i64 f].setIfInBounds 0 (.int .i64 (max f 0))) 3))[H.size + 2]? = some (.cells #[.int .i64 t] 3) := by rw [get_set_other (by omega)]; exact g3
  have k1 : (H3.setIfInBounds (H.size + 1) (.cells (#[Value.int .i64 f].setIfInBounds 0 (.int .i64 (max f 0))) 3))[H.size]? = some (.cells c 23) := by rw [get_set_other (by omega)]; exact g13
  have kx := hx.set (b := H.size + 1) (o := .cells (#[Value.int .i64 f].setIfInBounds 0 (.int .i64 (max f 0))) 3) (by omega)
  generalize H3.setIfInBounds (H.size + 1) (.cells (#[Value.int .i64 f].setIfInBounds 0 (.int .i64 (max f 0))) 3) = H4 at k1 k2 k3 kx
  rw [store_cell (v := .int .i64 (min t 8192)) k3 (by simp) rfl rfl, Pu_some]
  refine h _ (kx.set (by omega)) ⟨?_, get_set_same k3, ?_⟩
  · rw [get_set_other (by omega)]; exact k2
  · rw [get_set_other (by omega)]; exact k1
end Go.Vc
