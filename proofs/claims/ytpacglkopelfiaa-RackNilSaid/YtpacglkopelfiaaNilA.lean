/- What is no log: everything is refused. -/
import Derived.Test.YtpacglkopelfiaaVcM
import Derived.Test.YtpacglkopelfiaaShN
set_option linter.unusedVariables false
set_option linter.unusedSimpArgs false
namespace Go.Vc
open Go.Proofs

theorem eqX_nil {P : Program} {T e : TypeId} {lit : Bool} {H : Hp} (hu : P.underlying T = some (.pointer e)) : eqXE P T lit .eql (.pointer none) (.pointer none) H = some (.bool true) := by
  simp [eqXE, eqE, eqD, hu]
theorem eqX_ptr {P : Program} {T e : TypeId} {lit : Bool} {a : Addr} {H : Hp} (hu : P.underlying T = some (.pointer e)) : eqXE P T lit .eql (.pointer (some a)) (.pointer none) H = some (.bool false) := by
  simp [eqXE, eqE, eqD, hu]

/-- A log that is nil, or one that lies zero in memory. -/
def NoLog (v : Value) (H : Hp) : Prop := v = .pointer none ∨ ∃ b c T, v = .pointer (some ⟨b, 0, none⟩) ∧ H[b]? = some (.cells c T) ∧ c[2]? = some (.pointer none)
theorem NoLog.ext {v : Value} {H H' : Hp} (h : NoLog v H) (hx : Ext H H') : NoLog v H' := by
  rcases h with h | ⟨b, c, T, h1, h2, h3⟩
  · exact .inl h
  · exact .inr ⟨b, c, T, h1, hx.at h2, h3⟩
theorem NoLog.kp {v : Value} {H H' : Hp} {S : Nat → Prop} (h : NoLog v H) (hx : Kp S H H') (hs : ∀ b, v = .pointer (some ⟨b, 0, none⟩) → ¬ S b) : NoLog v H' := by
  rcases h with h | ⟨b, c, T, h1, h2, h3⟩
  · exact .inl h
  · exact .inr ⟨b, c, T, h1, hx.at h2 (hs b h1), h3⟩

theorem undL : Try.prog.underlying 96 = some (.pointer 105) := by kernel_rfl
theorem undD : Try.prog.underlying 23 = some (.pointer 36) := by kernel_rfl
def zNode : Array Value := #[.int .u16 0, .int .u16 0, .int .u32 0, .int .u32 0, .int .u32 0, .int .u32 0, .int .u32 0, .int .u32 0, .int .u32 0, .int .u32 0, .int .u32 0, .int .u32 0, .int .u32 0, .int .u32 0, .int .u32 0, .int .u32 0]
theorem zNode_size : zNode.size = 16 := rfl
theorem zeroN : zeroE Try.prog 111 = some (.agg zNode) := by kernel_rfl
theorem buildN : buildE Try.prog 111 [] = some (.agg zNode) := by kernel_rfl
theorem zNode_ok : (zNode.all fun v => v.oneCell') = true := by rw [← Array.all_toList]; rfl
def zLog : Array Value := #[.slice none 0 0, .map none, .pointer none, .pointer none, .int .i64 0, .int .i64 0, .int .i64 0, .int .i64 0, .int .i64 0, .int .i64 0, .int .i64 0, .int .i64 0, .int .i64 0, .int .i64 0, .bool false, .int .i64 0, .map none, .int .i64 0, .int .i64 0]
theorem buildL : buildE Try.prog 105 [] = some (.agg zLog) := by kernel_rfl

theorem check_none {v : Value} {H : Hp} {R : Value → Hp → Prop} (hv : NoLog v H) (h : R (.int .i64 1) H) : Fc Try.prog 66 #[v] H R := by
  refine fn66 ?_
  simp only [sh66, Any_const]
  refine Join.mk (fun s H' => H' = H ∧ s.1 = .bool true) ?_ ?_
  · rintro ⟨s, u⟩ H1 ⟨rfl, hs⟩
    simp only at hs
    subst hs
    simp only [Ite_true]
    exact h
  · rcases hv with rfl | ⟨b, c, T, rfl, hb, hc⟩
    · simp only [eqX_nil undL, Pu_some, Ite_true, and_self]
    · simp only [eqX_ptr undL, Pu_some, Ite_false, nilCheckE, addr_ptr, load_cell hb, Nat.zero_add, hc, eqX_nil undD, and_self]

theorem rackRead_none {v i : Value} {H : Hp} {R : Value → Hp → Prop} (hv : NoLog v H) (h : ∀ H', Ext H H' → R (.tuple #[.agg zNode, .int .i64 1]) H') : Fc Try.prog 42 #[v, i] H R := by
  refine fn42 ?_
  simp only [sh42, zeroN, Pu_some, Any_const]
  refine box_i fun b H1 hb e1 s1 g1 => ?_
  refine check_none (hv.ext e1) ?_
  simp only [binE_neq, Pu_some, Ite_dec]
  refine ⟨fun _ => ?_, fun h0 => absurd (show (1 : Int) ≠ 0 by decide) h0⟩
  simp only [buildN, Pu_some]
  refine storeAll_i g1 rfl rfl zNode_ok fun H2 k2 s2 g2 => ?_
  simp only [load_all g2 zNode_size, Pu_some]
  exact h _ ((e1.kp (· = b)).trans k2 |>.ext fun k hk e => by omega)

theorem fetchRead_none {v i a c : Value} {H : Hp} {R : Value → Hp → Prop} (hv : NoLog v H) (h : ∀ H', Ext H H' → R (.tuple #[.slice none 0 0, .int .i64 1]) H') : Fc Try.prog 41 #[v, i, a, c] H R := by
  refine fn41 ?_
  simp only [sh41]
  refine rackRead_none hv fun H1 e1 => ?_
  simp only [extractE, List.getElem?_toArray, List.getElem?_cons_zero, List.getElem?_cons_succ, Pu_some, zeroN]
  refine box_i fun b H2 hb e2 s2 g2 => ?_
  refine storeAll_i g2 rfl rfl zNode_ok fun H3 k3 s3 g3 => ?_
  simp only [binE_neq, Pu_some, Ite_dec]
  refine ⟨fun _ => ?_, fun h0 => absurd (show (1 : Int) ≠ 0 by decide) h0⟩
  have hle := e1.le
  exact h _ (((e1.trans e2).kp (· = b)).trans k3 |>.ext fun k hk e => by omega)

theorem rackTake_none {v : Value} {n : Array Value} {H : Hp} {R : Value → Hp → Prop} (hv : NoLog v H) (h : ∀ H', Ext H H' → R (.tuple #[.int .i64 0, .int .i64 1]) H') : Fc Try.prog 43 #[v, .agg n] H R := by
  refine fn43 ?_
  simp only [sh43]
  refine box_i fun b H1 hb e1 s1 g1 => ?_
  refine check_none (hv.ext e1) ?_
  simp only [binE_neq, Pu_some, Ite_dec]
  exact ⟨fun _ => h _ e1, fun h0 => absurd (show (1 : Int) ≠ 0 by decide) h0⟩
theorem rackSpare_none {v : Value} {H : Hp} {R : Value → Hp → Prop} (hv : NoLog v H) (h : R (.tuple #[.int .i64 0, .int .i64 1]) H) : Fc Try.prog 44 #[v] H R := by
  refine fn44 ?_
  simp only [sh44]
  refine check_none hv ?_
  simp only [binE_neq, Pu_some, Ite_dec]
  exact ⟨fun _ => h, fun h0 => absurd (show (1 : Int) ≠ 0 by decide) h0⟩
theorem rackOrphans_none {v : Value} {H : Hp} {R : Value → Hp → Prop} (hv : NoLog v H) (h : R (.tuple #[.slice none 0 0, .int .i64 1]) H) : Fc Try.prog 45 #[v] H R := by
  refine fn45 ?_
  simp only [sh45]
  refine check_none hv ?_
  simp only [binE_neq, Pu_some, Ite_dec]
  exact ⟨fun _ => h, fun h0 => absurd (show (1 : Int) ≠ 0 by decide) h0⟩
theorem rackWrite_none {v i : Value} {n : Array Value} {H : Hp} {R : Value → Hp → Prop} (hv : NoLog v H) (h : ∀ H', Ext H H' → R (.int .i64 1) H') : Fc Try.prog 46 #[v, i, .agg n] H R := by
  refine fn46 ?_
  simp only [sh46]
  refine box_i fun b H1 hb e1 s1 g1 => ?_
  refine check_none (hv.ext e1) ?_
  simp only [binE_neq, Pu_some, Ite_dec]
  exact ⟨fun _ => h _ e1, fun h0 => absurd (show (1 : Int) ≠ 0 by decide) h0⟩

theorem und_bytes : Try.prog.underlying 52 = some (.slice 5) := by kernel_rfl
theorem und_ints : Try.prog.underlying 46 = some (.slice 3) := by kernel_rfl

theorem law_fetchNil {i a c : Int} {H : Hp} {R : Value → Hp → Prop} (h : ∀ H', Ext H H' → R (.bool true) H') : Fc Try.prog 9 #[.agg #[.int .i64 i, .int .i64 a, .int .i64 c]] H R := by
  refine fn9 ?_
  have hl2 : zLog[2]? = some (.pointer none) := rfl
  simp only [sh9, buildL, cells_agg]
  refine box_i fun b H1 hb e1 s1 g1 => ?_
  simp only [cells_agg] at g1
  have ld : ∀ {H'}, Ext H1 H' → ∀ k, loadE (some none) (.pointer (some ⟨b, 0 + k, none⟩)) H' = #[Value.int .i64 i, .int .i64 a, .int .i64 c][k]? := fun hx k => by rw [load_cell (hx.at g1), Nat.zero_add]
  simp only [addr_ptr, ld (Ext.refl _), List.getElem?_toArray, List.getElem?_cons_zero, List.getElem?_cons_succ, Pu_some]
  refine fetchRead_none (.inl rfl) fun H2 e2 => ?_
  simp only [extractE, List.getElem?_toArray, List.getElem?_cons_zero, List.getElem?_cons_succ, Pu_some]
  refine box_i fun b3 H3 hb3 e3 s3 g3 => ?_
  simp only [addr_ptr, ld (e2.trans e3), List.getElem?_toArray, List.getElem?_cons_zero, List.getElem?_cons_succ, Pu_some]
  refine fetchRead_none (.inr ⟨b3, zLog, _, rfl, g3, hl2⟩) fun H4 e4 => ?_
  simp only [List.getElem?_toArray, List.getElem?_cons_zero, List.getElem?_cons_succ, Pu_some, binE_eql, decide_true, Ite_true, len_slice und_bytes]
  exact h _ (e1.trans (e2.trans (e3.trans e4)))

theorem nodeEq {H : Hp} : eqXE Try.prog 111 false .eql (.agg zNode) (.agg zNode) H = some (.bool true) := by kernel_rfl

set_option maxHeartbeats 1000000 in
theorem law_rackNil {i : Int} {n : Array Value} {H : Hp} {R : Value → Hp → Prop} (hn : n.size = 16) (h : ∀ H', Ext H H' → R (.bool true) H') : Fc Try.prog 10 #[.int .i64 i, .agg n] H R := by
  refine fn10 ?_
  have hl2 : zLog[2]? = some (.pointer none) := rfl
  simp only [sh10, buildL, zeroN, buildN, cells_agg, Any_const]
  refine box_i fun b H1 hb e1 s1 g1 => ?_
  simp only [cells_agg] at g1
  refine rackRead_none (.inl rfl) fun H2 e2 => ?_
  simp only [extractE, List.getElem?_toArray, List.getElem?_cons_zero, List.getElem?_cons_succ, Pu_some]
  refine box_i fun b3 H3 hb3 e3 s3 g3 => ?_
  simp only [cells_agg] at g3
  refine storeAll_i g3 rfl rfl zNode_ok fun H4 k4 s4 g4 => ?_
  have hle2 := e2.le
  have e14 : Ext H1 H4 := ((e2.trans e3).kp (· = b3)).trans k4 |>.ext fun k hk e => by omega
  refine box_i fun b5 H5 hb5 e5 s5 g5 => ?_
  simp only [cells_agg] at g5
  have e15 := e14.trans e5
  simp only [load_all (e15.at g1) hn, Pu_some]
  refine rackTake_none (.inr ⟨b5, zLog, _, rfl, g5, hl2⟩) fun H6 e6 => ?_
  simp only [List.getElem?_toArray, List.getElem?_cons_zero, List.getElem?_cons_succ, Pu_some]
  refine rackSpare_none (.inl rfl) ?_
  simp only [List.getElem?_toArray, List.getElem?_cons_zero, List.getElem?_cons_succ, Pu_some]
  refine box_i fun b7 H7 hb7 e7 s7 g7 => ?_
  simp only [cells_agg] at g7
  refine rackOrphans_none (.inr ⟨b7, zLog, _, rfl, g7, hl2⟩) ?_
  simp only [List.getElem?_toArray, List.getElem?_cons_zero, List.getElem?_cons_succ, Pu_some]
  have e17 := e15.trans (e6.trans e7)
  have e47 := e5.trans (e6.trans e7)
  refine Join.mk (fun s H' => H' = H7 ∧ s.1 = .bool true) ?_ ?_
  · rintro ⟨s, u⟩ H8 ⟨rfl, hs⟩
    simp only at hs
    subst hs
    simp only [Ite_true, binE_eql, Pu_some, decide_true, len_slice und_ints, Int.natCast_zero, load_all (e17.at g1) hn]
    refine rackWrite_none (.inl rfl) fun H9 e9 => ?_
    simp only [binE_eql, Pu_some, decide_true, Ite_true]
    refine box_i fun b10 H10 hb10 e10 s10 g10 => ?_
    simp only [cells_agg] at g10
    simp only [load_all ((e17.trans (e9.trans e10)).at g1) hn, Pu_some]
    refine rackWrite_none (.inr ⟨b10, zLog, _, rfl, g10, hl2⟩) fun H11 e11 => ?_
    simp only [binE_eql, Pu_some, decide_true]
    exact h _ (e1.trans (e17.trans (e9.trans (e10.trans e11))))
  · simp only [binE_eql, Pu_some, decide_true, Ite_true, load_all (e47.at g4) zNode_size, nodeEq, and_self]
end Go.Vc
