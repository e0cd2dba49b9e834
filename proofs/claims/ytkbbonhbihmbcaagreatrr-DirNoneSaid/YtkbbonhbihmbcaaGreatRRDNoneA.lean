/- Directories of no log: every call is refused. -/
import Derived.Test.YtkbbonhbihmbcaaGreatRRVcM
import Derived.Test.YtkbbonhbihmbcaaGreatRRShDN
import Derived.Test.YtkbbonhbihmbcaaGreatRRDAx19
set_option linter.unusedVariables false
set_option linter.unusedSimpArgs false
namespace Go.Vc
open Go.Proofs

theorem eqX_nil {P : Program} {T e : TypeId} {lit : Bool} {H : Hp} (hu : P.underlying T = some (.pointer e)) : eqXE P T lit .eql (.pointer none) (.pointer none) H = some (.bool true) := by
  simp [eqXE, eqE, eqD, hu]
theorem undL : Tryz.prog.underlying 37 = some (.pointer 51) := by kernel_rfl
def zNode : Array Value := #[.int .u16 0, .int .u16 0, .int .u32 0, .int .u32 0, .int .u32 0, .int .u32 0, .int .u32 0, .int .u32 0, .int .u32 0, .int .u32 0, .int .u32 0, .int .u32 0, .int .u32 0, .int .u32 0, .int .u32 0, .int .u32 0]
theorem zNode_size : zNode.size = 16 := rfl
theorem zeroN : zeroE Tryz.prog 78 = some (.agg zNode) := by kernel_rfl
theorem buildN : buildE Tryz.prog 78 [] = some (.agg zNode) := by kernel_rfl
theorem zNode_ok : (zNode.all fun v => v.oneCell') = true := by rw [← Array.all_toList]; rfl
theorem zeroI : zeroE Tryz.prog 3 = some (.int .i64 0) := by kernel_rfl
theorem zeroE' : zeroE Tryz.prog 35 = some (.int .i64 0) := by kernel_rfl
theorem zeroBo : zeroE Tryz.prog 4 = some (.bool false) := by kernel_rfl
theorem Ext.kpn {H H1 H2 : Hp} {b : Nat} (h : Ext H H1) (k : Kp (· = b) H1 H2) (hb : H.size ≤ b) : Ext H H2 := (h.kp (· = b)).trans k |>.ext fun j hj e => by omega
def K2 (b0 b1 : Nat) (x : Nat) : Prop := x = b0 ∨ x = b1
def K3 (b0 b1 b2 : Nat) (x : Nat) : Prop := x = b0 ∨ x = b1 ∨ x = b2
theorem set1 {c : Array Value} {v : Value} (h : c.size = 1) : c.setIfInBounds 0 v = #[v] := by
  apply Array.ext
  · simp [h]
  · intro j h1 h2
    have : j = 0 := by simp at h2; exact h2
    subst this; simp
/-- Two named results are laid, in any order. -/
theorem ret2 {H : Hp} {b0 b1 be : Nat} {c0 c1 ce : Array Value} {T0 T1 Te : TypeId} {v0 e : Value} {C : Hp → Prop}
    (g0 : H[b0]? = some (.cells c0 T0)) (g1 : H[b1]? = some (.cells c1 T1)) (ge : H[be]? = some (.cells ce Te)) (s0 : c0.size = 1) (s1 : c1.size = 1) (he : ce[0]? = some e)
    (o0 : v0.oneCell' = true) (q0 : v0.cells = #[v0]) (oe : e.oneCell' = true) (qe : e.cells = #[e]) (d01 : b0 ≠ b1) (de0 : be ≠ b0)
    (h : ∀ H', Kp (K2 b0 b1) H H' → H'[b0]? = some (.cells #[v0] T0) → H'[b1]? = some (.cells #[e] T1) → C H') :
    And (Pu (loadE (some none) (.pointer (some ⟨be, 0, none⟩)) H) fun x => ForX true H fun H1 => Pu (storeE (some 1) (.pointer (some ⟨b0, 0, none⟩)) v0 H1) fun H2 => ForX true H2 fun H3 => Pu (storeE (some 1) (.pointer (some ⟨b1, 0, none⟩)) x H3) fun H4 => ForX true H4 fun H5 => C H5)
      (And (ForX true H fun H1 => Pu (storeE (some 1) (.pointer (some ⟨b0, 0, none⟩)) v0 H1) fun H2 => Pu (loadE (some none) (.pointer (some ⟨be, 0, none⟩)) H2) fun x => ForX true H2 fun H3 => Pu (storeE (some 1) (.pointer (some ⟨b1, 0, none⟩)) x H3) fun H4 => ForX true H4 fun H5 => C H5) True) := by
  have fin : ∀ H1 H2 H3 : Hp, Ext H H1 → Kp (· = b0) H1 H2 → H2[b0]? = some (.cells #[v0] T0) → Ext H2 H3 → Pu (storeE (some 1) (.pointer (some ⟨b1, 0, none⟩)) e H3) fun H4 => ForX true H4 fun H5 => C H5 := fun H1 H2 H3 e1 k2 g2 e3 => by
    refine store_i (e3.at (k2.at (e1.at g1) (by omega))) (by omega) oe qe fun H4 k4 s4 g4 => ?_
    rw [set1 s1] at g4
    simp only [ForX_true]
    intro H5 e5
    refine h H5 ?_ (e5.at (k4.at (e3.at g2) (by omega))) (e5.at g4)
    exact ((((e1.kp _).trans ⟨k2.le, fun j hj hn => k2.same j hj fun hh => hn (.inl hh)⟩).trans (e3.kp _)).trans ⟨k4.le, fun j hj hn => k4.same j hj fun hh => hn (.inr hh)⟩).trans (e5.kp _)
  simp only [ForX_true]
  simp only [ForX_true] at fin
  refine ⟨?_, ?_, trivial⟩
  · simp only [load_cell ge, he, Pu_some]
    intro H1 e1
    refine store_i (e1.at g0) (by omega) o0 q0 fun H2 k2 s2 g2 => ?_
    rw [set1 s0] at g2
    intro H3 e3
    exact fin H1 H2 H3 e1 k2 g2 e3
  · intro H1 e1
    refine store_i (e1.at g0) (by omega) o0 q0 fun H2 k2 s2 g2 => ?_
    rw [set1 s0] at g2
    simp only [load_cell (k2.at (e1.at ge) de0), he, Pu_some]
    intro H3 e3
    exact fin H1 H2 H3 e1 k2 g2 e3
/-- Three named results are laid, in any order. -/
theorem ret3 {H : Hp} {b0 b1 b2 be : Nat} {c0 c1 c2 ce : Array Value} {T0 T1 T2 Te : TypeId} {v0 v1 e : Value} {C : Hp → Prop}
    (g0 : H[b0]? = some (.cells c0 T0)) (g1 : H[b1]? = some (.cells c1 T1)) (g2 : H[b2]? = some (.cells c2 T2)) (ge : H[be]? = some (.cells ce Te)) (s0 : c0.size = 1) (s1 : c1.size = 1) (s2 : c2.size = 1) (he : ce[0]? = some e)
    (o0 : v0.oneCell' = true) (q0 : v0.cells = #[v0]) (o1 : v1.oneCell' = true) (q1 : v1.cells = #[v1]) (oe : e.oneCell' = true) (qe : e.cells = #[e]) (d01 : b0 ≠ b1) (d02 : b0 ≠ b2) (d12 : b1 ≠ b2) (de0 : be ≠ b0) (de1 : be ≠ b1)
    (h : ∀ H', Kp (K3 b0 b1 b2) H H' → H'[b0]? = some (.cells #[v0] T0) → H'[b1]? = some (.cells #[v1] T1) → H'[b2]? = some (.cells #[e] T2) → C H') :
    And (Pu (loadE (some none) (.pointer (some ⟨be, 0, none⟩)) H) fun x => ForX true H fun H1 => Pu (storeE (some 1) (.pointer (some ⟨b0, 0, none⟩)) v0 H1) fun H2 => ForX true H2 fun H3 => Pu (storeE (some 1) (.pointer (some ⟨b1, 0, none⟩)) v1 H3) fun H4 => ForX true H4 fun H5 => Pu (storeE (some 1) (.pointer (some ⟨b2, 0, none⟩)) x H5) fun H6 => ForX true H6 fun H7 => C H7)
      (And (ForX true H fun H1 => Pu (storeE (some 1) (.pointer (some ⟨b0, 0, none⟩)) v0 H1) fun H2 =>
        And (Pu (loadE (some none) (.pointer (some ⟨be, 0, none⟩)) H2) fun x => ForX true H2 fun H3 => Pu (storeE (some 1) (.pointer (some ⟨b1, 0, none⟩)) v1 H3) fun H4 => ForX true H4 fun H5 => Pu (storeE (some 1) (.pointer (some ⟨b2, 0, none⟩)) x H5) fun H6 => ForX true H6 fun H7 => C H7)
          (And (ForX true H2 fun H3 => Pu (storeE (some 1) (.pointer (some ⟨b1, 0, none⟩)) v1 H3) fun H4 => Pu (loadE (some none) (.pointer (some ⟨be, 0, none⟩)) H4) fun x => ForX true H4 fun H5 => Pu (storeE (some 1) (.pointer (some ⟨b2, 0, none⟩)) x H5) fun H6 => ForX true H6 fun H7 => C H7) True)) True) := by
  have tail : ∀ H1 H2 : Hp, Ext H H1 → Kp (· = b0) H1 H2 → H2[b0]? = some (.cells #[v0] T0) → And (Pu (loadE (some none) (.pointer (some ⟨be, 0, none⟩)) H2) fun x => ForX true H2 fun H3 => Pu (storeE (some 1) (.pointer (some ⟨b1, 0, none⟩)) v1 H3) fun H4 => ForX true H4 fun H5 => Pu (storeE (some 1) (.pointer (some ⟨b2, 0, none⟩)) x H5) fun H6 => ForX true H6 fun H7 => C H7)
          (And (ForX true H2 fun H3 => Pu (storeE (some 1) (.pointer (some ⟨b1, 0, none⟩)) v1 H3) fun H4 => Pu (loadE (some none) (.pointer (some ⟨be, 0, none⟩)) H4) fun x => ForX true H4 fun H5 => Pu (storeE (some 1) (.pointer (some ⟨b2, 0, none⟩)) x H5) fun H6 => ForX true H6 fun H7 => C H7) True) := fun H1 H2 e1 k2 gg => by
    refine ret2 (k2.at (e1.at g1) (by omega)) (k2.at (e1.at g2) (by omega)) (k2.at (e1.at ge) de0) s1 s2 he o1 q1 oe qe d12 de1 fun H7 k7 f1 f2 => ?_
    refine h H7 ?_ (by rw [k7.same b0 (by have := (Array.getElem?_eq_some_iff.1 gg).1; exact this) (by rintro (hh | hh) <;> omega)]; exact gg) f1 f2
    exact ((e1.kp _).trans ⟨k2.le, fun j hj hn => k2.same j hj fun hh => hn (.inl hh)⟩).trans ⟨k7.le, fun j hj hn => k7.same j hj fun hh => hn (.inr hh)⟩
  refine ⟨?_, ?_, trivial⟩
  · have t2 : ∀ H1 H2 : Hp, Ext H H1 → Kp (· = b0) H1 H2 → H2[b0]? = some (.cells #[v0] T0) → ForX true H2 fun H3 => Pu (storeE (some 1) (.pointer (some ⟨b1, 0, none⟩)) v1 H3) fun H4 => ForX true H4 fun H5 => Pu (storeE (some 1) (.pointer (some ⟨b2, 0, none⟩)) e H5) fun H6 => ForX true H6 fun H7 => C H7 := fun H1 H2 e1 k2 gg => by
      have := (tail H1 H2 e1 k2 gg).1
      rw [load_cell (k2.at (e1.at ge) de0), he, Pu_some] at this
      exact this
    simp only [load_cell ge, he, Pu_some]
    simp only [ForX_true] at t2 ⊢
    intro H1 e1
    refine store_i (e1.at g0) (by omega) o0 q0 fun H2 k2 s2 g2 => ?_
    rw [set1 s0] at g2
    exact t2 H1 H2 e1 k2 g2
  · have tl := tail
    rw [ForX_true]
    intro H1 e1
    refine store_i (e1.at g0) (by omega) o0 q0 fun H2 k2 s2 g2 => ?_
    rw [set1 s0] at g2
    exact tl H1 H2 e1 k2 g2
theorem ret2L {H : Hp} {b0 b1 be : Nat} {c0 c1 ce : Array Value} {T0 T1 Te : TypeId} {v0 e : Value} {C : Hp → Prop}
    (g0 : H[b0]? = some (.cells c0 T0)) (g1 : H[b1]? = some (.cells c1 T1)) (ge : H[be]? = some (.cells ce Te)) (s0 : c0.size = 1) (s1 : c1.size = 1) (he : ce[0]? = some e)
    (o0 : v0.oneCell' = true) (q0 : v0.cells = #[v0]) (oe : e.oneCell' = true) (qe : e.cells = #[e]) (d01 : b0 ≠ b1) (de0 : be ≠ b0)
    (h : ∀ H', Kp (K2 b0 b1) H H' → H'[b0]? = some (.cells #[v0] T0) → H'[b1]? = some (.cells #[e] T1) → C H') :
    And (ForX true H fun H1 => Pu (storeE (some 1) (.pointer (some ⟨b0, 0, none⟩)) v0 H1) fun H2 => ForX true H2 fun H3 => Pu (storeE (some 1) (.pointer (some ⟨b1, 0, none⟩)) e H3) fun H4 => ForX true H4 fun H5 => C H5)
      (And (ForX true H fun H1 => Pu (storeE (some 1) (.pointer (some ⟨b0, 0, none⟩)) v0 H1) fun H2 => Pu (loadE (some none) (.pointer (some ⟨be, 0, none⟩)) H2) fun x => ForX true H2 fun H3 => Pu (storeE (some 1) (.pointer (some ⟨b1, 0, none⟩)) x H3) fun H4 => ForX true H4 fun H5 => C H5) True) := by
  have := ret2 g0 g1 ge s0 s1 he o0 q0 oe qe d01 de0 h
  rw [load_cell ge, he, Pu_some] at this
  exact this
theorem ret3L {H : Hp} {b0 b1 b2 be : Nat} {c0 c1 c2 ce : Array Value} {T0 T1 T2 Te : TypeId} {v0 v1 e : Value} {C : Hp → Prop}
    (g0 : H[b0]? = some (.cells c0 T0)) (g1 : H[b1]? = some (.cells c1 T1)) (g2 : H[b2]? = some (.cells c2 T2)) (ge : H[be]? = some (.cells ce Te)) (s0 : c0.size = 1) (s1 : c1.size = 1) (s2 : c2.size = 1) (he : ce[0]? = some e)
    (o0 : v0.oneCell' = true) (q0 : v0.cells = #[v0]) (o1 : v1.oneCell' = true) (q1 : v1.cells = #[v1]) (oe : e.oneCell' = true) (qe : e.cells = #[e]) (d01 : b0 ≠ b1) (d02 : b0 ≠ b2) (d12 : b1 ≠ b2) (de0 : be ≠ b0) (de1 : be ≠ b1)
    (h : ∀ H', Kp (K3 b0 b1 b2) H H' → H'[b0]? = some (.cells #[v0] T0) → H'[b1]? = some (.cells #[v1] T1) → H'[b2]? = some (.cells #[e] T2) → C H') :
    And (ForX true H fun H1 => Pu (storeE (some 1) (.pointer (some ⟨b0, 0, none⟩)) v0 H1) fun H2 => ForX true H2 fun H3 => Pu (storeE (some 1) (.pointer (some ⟨b1, 0, none⟩)) v1 H3) fun H4 => ForX true H4 fun H5 => Pu (storeE (some 1) (.pointer (some ⟨b2, 0, none⟩)) e H5) fun H6 => ForX true H6 fun H7 => C H7)
      (And (ForX true H fun H1 => Pu (storeE (some 1) (.pointer (some ⟨b0, 0, none⟩)) v0 H1) fun H2 =>
        And (Pu (loadE (some none) (.pointer (some ⟨be, 0, none⟩)) H2) fun x => ForX true H2 fun H3 => Pu (storeE (some 1) (.pointer (some ⟨b1, 0, none⟩)) v1 H3) fun H4 => ForX true H4 fun H5 => Pu (storeE (some 1) (.pointer (some ⟨b2, 0, none⟩)) x H5) fun H6 => ForX true H6 fun H7 => C H7)
          (And (ForX true H2 fun H3 => Pu (storeE (some 1) (.pointer (some ⟨b1, 0, none⟩)) v1 H3) fun H4 => Pu (loadE (some none) (.pointer (some ⟨be, 0, none⟩)) H4) fun x => ForX true H4 fun H5 => Pu (storeE (some 1) (.pointer (some ⟨b2, 0, none⟩)) x H5) fun H6 => ForX true H6 fun H7 => C H7) True)) True) := by
  have := ret3 g0 g1 g2 ge s0 s1 s2 he o0 q0 o1 q1 oe qe d01 d02 d12 de0 de1 h
  rw [load_cell ge, he, Pu_some] at this
  exact this
theorem Ext.kp2 {H H1 H2 : Hp} {a b : Nat} (h : Ext H H1) (k : Kp (K2 a b) H1 H2) (ha : H.size ≤ a) (hb : H.size ≤ b) : Ext H H2 := ((h.kp _).trans k).ext fun j hj hh => by rcases hh with rfl | rfl <;> omega
theorem Ext.kp3 {H H1 H2 : Hp} {a b c : Nat} (h : Ext H H1) (k : Kp (K3 a b c) H1 H2) (ha : H.size ≤ a) (hb : H.size ≤ b) (hc : H.size ≤ c) : Ext H H2 := ((h.kp _).trans k).ext fun j hj hh => by rcases hh with rfl | rfl | rfl <;> omega
theorem ne10 : decide ((1 : Int) ≠ 0) = true := rfl
theorem e11 : decide ((1 : Int) = 1) = true := rfl
theorem e10 : decide ((1 : Int) = 0) = false := rfl
theorem e00 : decide ((0 : Int) = 0) = true := rfl

section
variable {i : Value} {H : Hp} {R : Value → Hp → Prop}
theorem check_n (h : R (.int .i64 1) H) : Fc Tryz.prog 45 #[.pointer none] H R := by
  refine fn45 ?_
  simp only [sh45, Any_const]
  refine Join.mk (fun s H' => H' = H ∧ s.1 = .bool true) ?_ ?_
  · rintro ⟨s, u⟩ H1 ⟨rfl, hs⟩
    simp only at hs
    subst hs
    simp only [Ite_true]
    exact h
  · simp only [eqX_nil undL, Pu_some, Ite_true, and_self]
theorem rackRead_n (h : ∀ H', Ext H H' → R (.tuple #[.agg zNode, .int .i64 1]) H') : Fc Tryz.prog 19 #[.pointer none, i] H R := by
  refine fn19 ?_
  simp only [sh19, zeroN, Pu_some, Any_const]
  refine box_i fun b H1 hb e1 s1 g1 => ?_
  refine check_n ?_
  simp only [binE_neq, Pu_some, ne10, Ite_true, buildN]
  refine storeAll_i g1 rfl rfl zNode_ok fun H2 k2 s2 g2 => ?_
  simp only [load_all g2 zNode_size, Pu_some]
  exact h _ (e1.kpn k2 (by omega))
theorem begin_n (h : ∀ H', Ext H H' → R (.tuple #[.agg zNode, .int .i64 1]) H') : Fc Tryz.prog 66 #[.pointer none, i] H R := by
  refine fn66 ?_
  simp only [sh66, zeroN, Pu_some, Any_const]
  refine box_i fun b H1 hb e1 s1 g1 => ?_
  refine rackRead_n fun H2 e2 => ?_
  simp only [extractE, List.getElem?_toArray, List.getElem?_cons_zero, List.getElem?_cons_succ, Pu_some]
  refine box_i fun b3 H3 hb3 e3 s3 g3 => ?_
  refine storeAll_i g3 rfl rfl zNode_ok fun H4 k4 s4 g4 => ?_
  have e24 := e3.kpn k4 (by omega)
  refine Join.mk (fun s H' => H' = H4 ∧ s.1 = .int .i64 1) ?_ ?_
  · rintro ⟨s, u⟩ H5 ⟨rfl, hs⟩
    simp only at hs
    subst hs
    simp only [binE_neq, Pu_some, ne10, Ite_true, buildN]
    have g1' := (e2.trans e24).at g1
    refine storeAll_i g1' rfl rfl zNode_ok fun H6 k6 s6 g6 => ?_
    simp only [load_all g6 zNode_size, Pu_some]
    exact h _ ((e1.trans (e2.trans e24)).kpn k6 (by omega))
  · simp only [binE_eql, Pu_some, e10, Ite_false, and_self]
theorem slots_n (h : ∀ H', Ext H H' → R (.tuple #[.slice none 0 0, .int .i64 1]) H') : Fc Tryz.prog 30 #[.pointer none, i] H R := by
  refine fn30 ?_
  simp only [sh30, zeroN, zeroE', Pu_some, Any_const]
  refine begin_n fun H1 e1 => ?_
  simp only [extractE, List.getElem?_toArray, List.getElem?_cons_zero, List.getElem?_cons_succ, Pu_some]
  refine box_i fun b2 H2 hb2 e2 s2 g2 => ?_
  refine box_i fun b3 H3 hb3 e3 s3 g3 => ?_
  refine storeAll_i (e3.at g2) rfl rfl zNode_ok fun H4 k4 s4 g4 => ?_
  have g34 := k4.at g3 (by omega)
  refine store_i (v := .int .i64 1) g34 (by decide) rfl rfl fun H5 k5 s5 g5 => ?_
  simp only [load_cell g5, show ((Value.int .i64 0).cells.setIfInBounds 0 (.int .i64 1))[0]? = some (.int .i64 1) from rfl, Pu_some, binE_neq, ne10, Ite_true]
  exact h _ (((e1.trans (e2.trans e3)).kpn k4 (by have := e1.le; omega)).kpn k5 (by have := e1.le; omega))
theorem set_n {j : Value} {c : Array Value} (h : ∀ H', Ext H H' → R (.int .i64 1) H') : Fc Tryz.prog 31 #[.pointer none, i, j, .agg c] H R := by
  refine fn31 ?_
  simp only [sh31]
  refine box_i fun b H1 hb e1 s1 g1 => ?_
  refine check_n ?_
  simp only [binE_neq, Pu_some, ne10, Ite_true]
  exact h _ e1
theorem empty_n (h : ∀ H', Ext H H' → R (.tuple #[.bool false, .int .i64 1]) H') : Fc Tryz.prog 36 #[.pointer none, i] H R := by
  refine fn36 ?_
  simp only [sh36, zeroN, zeroE', zeroBo, Pu_some, Any_const]
  refine box_i fun c1 G1 hc1 x1 t1 f1 => ?_
  refine box_i fun c2 G2 hc2 x2 t2 f2 => ?_
  refine begin_n fun H1 e1 => ?_
  simp only [extractE, List.getElem?_toArray, List.getElem?_cons_zero, List.getElem?_cons_succ, Pu_some]
  refine box_i fun b2 H2 hb2 e2 s2 g2 => ?_
  refine box_i fun b3 H3 hb3 e3 s3 g3 => ?_
  refine storeAll_i (e3.at g2) rfl rfl zNode_ok fun H4 k4 s4 g4 => ?_
  have g34 := k4.at g3 (by omega)
  refine store_i (v := .int .i64 1) g34 (by decide) rfl rfl fun H5 k5 s5 g5 => ?_
  have l1 := e1.le
  have x5 : Ext G2 H5 := ((e1.trans (e2.trans e3)).kpn k4 (by omega)).kpn k5 (by omega)
  simp only [load_cell g5, show ((Value.int .i64 0).cells.setIfInBounds 0 (.int .i64 1))[0]? = some (.int .i64 1) from rfl, Pu_some, binE_neq, ne10, Ite_true]
  refine ret2L (v0 := .bool false) (e := .int .i64 1) ((x2.trans x5).at f1) (x5.at f2) g5 rfl rfl rfl rfl rfl rfl rfl (by omega) (by omega) fun H7 k7 q0 q1 => ?_
  simp only [load_cell q0, load_cell q1, List.getElem?_toArray, List.getElem?_cons_zero, Pu_some]
  exact h _ ((x1.trans (x2.trans x5)).kp2 k7 (by omega) (by omega))
theorem spot_n (h : ∀ H', Ext H H' → R (.tuple #[.int .i64 0, .int .i64 0, .int .i64 1]) H') : Fc Tryz.prog 28 #[.pointer none, i] H R := by
  refine fn28 ?_
  simp only [sh28, zeroN, zeroE', zeroI, Pu_some, Any_const]
  refine box_i fun c0 G0 hc0 x0 t0 f0 => ?_
  refine box_i fun c1 G1 hc1 x1 t1 f1 => ?_
  refine box_i fun c2 G2 hc2 x2 t2 f2 => ?_
  refine begin_n fun H1 e1 => ?_
  simp only [extractE, List.getElem?_toArray, List.getElem?_cons_zero, List.getElem?_cons_succ, Pu_some]
  refine box_i fun b2 H2 hb2 e2 s2 g2 => ?_
  refine box_i fun b3 H3 hb3 e3 s3 g3 => ?_
  refine storeAll_i (e3.at g2) rfl rfl zNode_ok fun H4 k4 s4 g4 => ?_
  have g34 := k4.at g3 (by omega)
  refine store_i (v := .int .i64 1) g34 (by decide) rfl rfl fun H5 k5 s5 g5 => ?_
  have l1 := e1.le
  have x5 : Ext G2 H5 := ((e1.trans (e2.trans e3)).kpn k4 (by omega)).kpn k5 (by omega)
  simp only [load_cell g5, show ((Value.int .i64 0).cells.setIfInBounds 0 (.int .i64 1))[0]? = some (.int .i64 1) from rfl, Pu_some, binE_neq, ne10, Ite_true]
  refine ret3L (v0 := .int .i64 0) (v1 := .int .i64 0) (e := .int .i64 1) ((x1.trans (x2.trans x5)).at f0) ((x2.trans x5).at f1) (x5.at f2) g5 rfl rfl rfl rfl rfl rfl rfl rfl rfl rfl (by omega) (by omega) (by omega) (by omega) (by omega) fun H7 k7 q0 q1 q2 => ?_
  simp only [load_cell q0, load_cell q1, load_cell q2, List.getElem?_toArray, List.getElem?_cons_zero, Pu_some]
  exact h _ ((x0.trans (x1.trans (x2.trans x5))).kp3 k7 (by omega) (by omega) (by omega))
theorem find_n {s : Value} (h : ∀ H', Ext H H' → R (.tuple #[.int .i64 0, .int .i64 0, .int .i64 1]) H') : Fc Tryz.prog 29 #[.pointer none, i, s] H R := by
  refine fn29 ?_
  simp only [sh29, zeroN, zeroE', zeroI, Pu_some, Any_const]
  refine box_i fun cz Gz hcz xz tz fz => ?_
  refine box_i fun c0 G0 hc0 x0 t0 f0 => ?_
  refine box_i fun c1 G1 hc1 x1 t1 f1 => ?_
  refine box_i fun c2 G2 hc2 x2 t2 f2 => ?_
  refine begin_n fun H1 e1 => ?_
  simp only [extractE, List.getElem?_toArray, List.getElem?_cons_zero, List.getElem?_cons_succ, Pu_some]
  refine box_i fun b2 H2 hb2 e2 s2 g2 => ?_
  refine box_i fun b3 H3 hb3 e3 s3 g3 => ?_
  refine storeAll_i (e3.at g2) rfl rfl zNode_ok fun H4 k4 s4 g4 => ?_
  have g34 := k4.at g3 (by omega)
  refine store_i (v := .int .i64 1) g34 (by decide) rfl rfl fun H5 k5 s5 g5 => ?_
  have l1 := e1.le
  have x5 : Ext G2 H5 := ((e1.trans (e2.trans e3)).kpn k4 (by omega)).kpn k5 (by omega)
  simp only [load_cell g5, show ((Value.int .i64 0).cells.setIfInBounds 0 (.int .i64 1))[0]? = some (.int .i64 1) from rfl, Pu_some, binE_neq, ne10, Ite_true]
  refine ret3L (v0 := .int .i64 0) (v1 := .int .i64 0) (e := .int .i64 1) ((x1.trans (x2.trans x5)).at f0) ((x2.trans x5).at f1) (x5.at f2) g5 rfl rfl rfl rfl rfl rfl rfl rfl rfl rfl (by omega) (by omega) (by omega) (by omega) (by omega) fun H7 k7 q0 q1 q2 => ?_
  simp only [load_cell q0, load_cell q1, load_cell q2, List.getElem?_toArray, List.getElem?_cons_zero, Pu_some]
  exact h _ ((xz.trans (x0.trans (x1.trans (x2.trans x5)))).kp3 k7 (by omega) (by omega) (by omega))
end
theorem und_ents : Tryz.prog.underlying 64 = some (.slice 68) := by kernel_rfl
theorem build_ent (n : Int) (s : ByteArray) : buildE Tryz.prog 68 [(0, .int .u16 n), (1, .string s)] = some (.agg #[.int .u16 n, .string s]) := by kernel_rfl
set_option maxRecDepth 100000 in
theorem law_dirNone {a b c d : Int} {s : ByteArray} {H : Hp} {R : Value → Hp → Prop} (h : ∀ H', Ext H H' → R (.bool true) H') : Fc Tryz.prog 8 #[.agg #[.int .i64 a, .int .i64 b, .int .i64 c, .int .i64 d, .string s]] H R := by
  refine fn8 ?_
  simp only [sh8]
  refine box_i fun b1 H1 hb1 e1 s1 g1 => ?_
  simp only [cells_agg] at g1
  refine Xc.closedF (xs := []) (vs := []) simi34 ok34 rfl fun H2 e2 => ?_
  have ld : ∀ H' (j : Nat), Ext H1 H' → loadE (some none) (.pointer (some ⟨b1, j, none⟩)) H' = (#[Value.int .i64 a, .int .i64 b, .int .i64 c, .int .i64 d, .string s])[j]? := fun H' j hx => load_cell (hx.at g1)
  have gets : (#[Value.int .i64 a, .int .i64 b, .int .i64 c, .int .i64 d, .string s])[1]? = some (.int .i64 b) ∧ (#[Value.int .i64 a, .int .i64 b, .int .i64 c, .int .i64 d, .string s])[2]? = some (.int .i64 c) ∧ (#[Value.int .i64 a, .int .i64 b, .int .i64 c, .int .i64 d, .string s])[3]? = some (.int .i64 d) ∧ (#[Value.int .i64 a, .int .i64 b, .int .i64 c, .int .i64 d, .string s])[4]? = some (.string s) := ⟨rfl, rfl, rfl, rfl⟩
  simp only [addr_ptr, Nat.zero_add, ld _ _ e2, gets, Pu_some]
  refine find_n fun H3 e3 => ?_
  have x3 := e2.trans e3
  simp only [extractE, List.getElem?_toArray, List.getElem?_cons_zero, List.getElem?_cons_succ, ld _ _ x3, gets, Pu_some]
  refine slots_n fun H4 e4 => ?_
  have x4 := x3.trans e4
  simp only [List.getElem?_toArray, List.getElem?_cons_zero, List.getElem?_cons_succ, ld _ _ x4, gets, Pu_some]
  refine spot_n fun H5 e5 => ?_
  have x5 := x4.trans e5
  simp only [List.getElem?_toArray, List.getElem?_cons_zero, List.getElem?_cons_succ, ld _ _ x5, gets, Pu_some, conv_int, build_ent]
  refine set_n fun H6 e6 => ?_
  have x6 := x5.trans e6
  simp only [ld _ _ x6, gets, Pu_some]
  refine empty_n fun H7 e7 => ?_
  simp only [List.getElem?_toArray, List.getElem?_cons_zero, List.getElem?_cons_succ, Pu_some, Ite_true, binE_eql, e00, e11, len_slice und_ents, Int.natCast_zero, unE_not, Bool.not_false]
  exact h _ (e1.trans (x6.trans e7))
end Go.Vc
