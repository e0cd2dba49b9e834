/- A cache that is nil, or that New did not make; a disk that is none. -/
import Derived.Test.YtpacglkopelfiaaVcM
import Derived.Test.YtpacglkopelfiaaShC
import Derived.Test.YtpacglkopelfiaaRunC
set_option linter.unusedVariables false
set_option linter.unusedSimpArgs false
namespace Go.Vc
open Go.Proofs

theorem eqX_nil {P : Program} {T e : TypeId} {lit : Bool} {H : Hp} (hu : P.underlying T = some (.pointer e)) : eqXE P T lit .eql (.pointer none) (.pointer none) H = some (.bool true) := by
  simp [eqXE, eqE, eqD, hu]
theorem eqX_ptr {P : Program} {T e : TypeId} {lit : Bool} {a : Addr} {H : Hp} (hu : P.underlying T = some (.pointer e)) : eqXE P T lit .eql (.pointer (some a)) (.pointer none) H = some (.bool false) := by
  simp [eqXE, eqE, eqD, hu]
theorem neX_nil {P : Program} {T e : TypeId} {lit : Bool} {H : Hp} (hu : P.underlying T = some (.pointer e)) : eqXE P T lit .neq (.pointer none) (.pointer none) H = some (.bool false) := by
  simp [eqXE, eqE, eqD, hu]
theorem neX_ptr {P : Program} {T e : TypeId} {lit : Bool} {a : Addr} {H : Hp} (hu : P.underlying T = some (.pointer e)) : eqXE P T lit .neq (.pointer (some a)) (.pointer none) H = some (.bool true) := by
  simp [eqXE, eqE, eqD, hu]

def aggOf : Option Value → Array Value
  | some (.agg c) => c
  | _ => #[]
theorem undC : Try.prog.underlying 37 = some (.pointer 31) := by kernel_rfl
theorem undDk : Try.prog.underlying 23 = some (.pointer 36) := by kernel_rfl
noncomputable def zC : Array Value := aggOf (zeroE Try.prog 31)
noncomputable def zD : Array Value := aggOf (zeroE Try.prog 36)
def zB : Array Value := Array.replicate 1024 (.int .u8 0)
set_option maxRecDepth 100000 in
theorem zeroC : zeroE Try.prog 31 = some (.agg zC) := by kernel_rfl
theorem zeroD : zeroE Try.prog 36 = some (.agg zD) := by kernel_rfl
set_option maxRecDepth 100000 in
theorem zeroB : zeroE Try.prog 25 = some (.agg zB) := by kernel_rfl
set_option maxRecDepth 100000 in
theorem buildB : buildE Try.prog 25 [] = some (.agg zB) := by kernel_rfl
set_option maxRecDepth 100000 in
theorem zC0 : zC[0]? = some (.pointer none) := by kernel_rfl
set_option maxRecDepth 100000 in
theorem zC2 : zC[2]? = some (.int .i64 0) := by kernel_rfl
set_option maxRecDepth 100000 in
theorem zC1031 : zC[1031]? = some (.map none) := by kernel_rfl
theorem zD0 : zD[0]? = some (.int .i64 0) := by kernel_rfl
theorem zB_size : zB.size = 1024 := by simp [zB]
theorem zB_ok : (zB.all fun v => v.oneCell') = true := by
  rw [Array.all_eq_true]
  intro i hi
  simp [zB, Value.oneCell']

/-- What Filled answers. -/
noncomputable def fil (a b c d : Int) : Array Value := aggOf (buildE Try.prog 25 [(0, .int .u8 a), (1, .int .u8 b), (500, .int .u8 c), (1023, .int .u8 d)])
set_option maxRecDepth 100000 in
theorem build_fil (a b c d : Int) : buildE Try.prog 25 [(0, .int .u8 a), (1, .int .u8 b), (500, .int .u8 c), (1023, .int .u8 d)] = some (.agg (fil a b c d)) := by kernel_rfl
set_option maxRecDepth 100000 in
theorem fil_size (a b c d : Int) : (fil a b c d).size = 1024 := by kernel_rfl
set_option maxRecDepth 100000 in
theorem fil_ok (a b c d : Int) : ((fil a b c d).toList.all fun v => v.oneCell') = true := by kernel_rfl

def NoC (v : Value) (H : Hp) : Prop := v = .pointer none ∨ ∃ b T, v = .pointer (some ⟨b, 0, none⟩) ∧ H[b]? = some (.cells zC T)
theorem NoC.ext {v : Value} {H H' : Hp} (h : NoC v H) (hx : Ext H H') : NoC v H' := by
  rcases h with h | ⟨b, T, h1, h2⟩
  · exact .inl h
  · exact .inr ⟨b, T, h1, hx.at h2⟩
def NoD (v : Value) (H : Hp) : Prop := v = .pointer none ∨ ∃ b T, v = .pointer (some ⟨b, 0, none⟩) ∧ H[b]? = some (.cells zD T)
theorem NoD.ext {v : Value} {H H' : Hp} (h : NoD v H) (hx : Ext H H') : NoD v H' := by
  rcases h with h | ⟨b, T, h1, h2⟩
  · exact .inl h
  · exact .inr ⟨b, T, h1, hx.at h2⟩

theorem check_n {v a : Value} {H : Hp} {R : Value → Hp → Prop} (hv : NoC v H) (h : R (.int .i64 1) H) : Fc Try.prog 47 #[v, a] H R := by
  refine fn47 ?_
  simp only [sh47, Any_const]
  refine Join.mk (fun s H' => H' = H ∧ s.1 = .bool true) ?_ ?_
  · rintro ⟨s, u⟩ H1 ⟨rfl, hs⟩
    simp only at hs
    subst hs
    simp only [Ite_true]
    exact h
  · rcases hv with rfl | ⟨b, T, rfl, hb⟩
    · simp only [eqX_nil undC, Pu_some, Ite_true, and_self]
    · simp only [eqX_ptr undC, Pu_some, Ite_false, nilCheckE, addr_ptr, load_cell hb, Nat.zero_add, zC0, eqX_nil undDk, and_self]
theorem read_n {v a : Value} {H : Hp} {R : Value → Hp → Prop} (hv : NoC v H) (h : ∀ H', Ext H H' → R (.tuple #[.agg zB, .int .i64 1]) H') : Fc Try.prog 11 #[v, a] H R := by
  refine fn11 ?_
  simp only [sh11, zeroB, Pu_some]
  refine box_i fun b H1 hb e1 s1 g1 => ?_
  simp only [cells_agg] at g1
  refine check_n (hv.ext e1) ?_
  simp only [binE_neq, Pu_some, Ite_dec]
  refine ⟨fun _ => ?_, fun h0 => absurd (show (1 : Int) ≠ 0 by decide) h0⟩
  simp only [buildB, Pu_some]
  refine storeAll_i g1 zB_size zB_size zB_ok fun H2 k2 s2 g2 => ?_
  simp only [load_all g2 zB_size, Pu_some]
  exact h _ ((e1.kp (· = b)).trans k2 |>.ext fun k hk e => by omega)
theorem put_n {v a : Value} {x : Array Value} {H : Hp} {R : Value → Hp → Prop} (hv : NoC v H) (h : ∀ H', Ext H H' → R (.int .i64 1) H') : Fc Try.prog 12 #[v, a, .agg x] H R := by
  refine fn12 ?_
  simp only [sh12]
  refine box_i fun b H1 hb e1 s1 g1 => ?_
  refine check_n (hv.ext e1) ?_
  simp only [binE_neq, Pu_some, Ite_dec]
  exact ⟨fun _ => h _ e1, fun h0 => absurd (show (1 : Int) ≠ 0 by decide) h0⟩
theorem flush_n {v a : Value} {H : Hp} {R : Value → Hp → Prop} (hv : NoC v H) (h : R (.int .i64 1) H) : Fc Try.prog 14 #[v, a] H R := by
  refine fn14 ?_
  simp only [sh14]
  refine check_n hv ?_
  simp only [binE_neq, Pu_some, Ite_dec]
  exact ⟨fun _ => h, fun h0 => absurd (show (1 : Int) ≠ 0 by decide) h0⟩
theorem fast_n {v : Value} {H : Hp} {R : Value → Hp → Prop} (hv : NoC v H) (h : R (.int .i64 0) H) : Fc Try.prog 15 #[v] H R := by
  refine fn15 ?_
  simp only [sh15]
  rcases hv with rfl | ⟨b, T, rfl, hb⟩
  · simp only [eqX_nil undC, Pu_some, Ite_true]; exact h
  · simp only [eqX_ptr undC, Pu_some, Ite_false, nilCheckE, addr_ptr, load_cell hb, Nat.zero_add, zC2]; exact h
theorem len_n {v : Value} {H : Hp} {R : Value → Hp → Prop} (hv : NoC v H) (h : R (.int .i64 0) H) : Fc Try.prog 16 #[v] H R := by
  refine fn16 ?_
  simp only [sh16]
  rcases hv with rfl | ⟨b, T, rfl, hb⟩
  · simp only [eqX_nil undC, Pu_some, Ite_true]; exact h
  · simp only [eqX_ptr undC, Pu_some, Ite_false, nilCheckE, addr_ptr, load_cell hb, Nat.zero_add, zC1031, mapLenE, entsH, Option.map_some, Array.size_empty, Int.natCast_zero]; exact h
theorem order_n {v : Value} {H : Hp} {R : Value → Hp → Prop} (hv : NoC v H) (h : R (.slice none 0 0) H) : Fc Try.prog 17 #[v] H R := by
  refine fn17 ?_
  simp only [sh17, Any_const]
  refine Join.mk (fun s H' => H' = H ∧ s.1 = .bool true) ?_ ?_
  · rintro ⟨s, u⟩ H1 ⟨rfl, hs⟩
    simp only at hs
    subst hs
    simp only [Ite_true]
    exact h
  · rcases hv with rfl | ⟨b, T, rfl, hb⟩
    · simp only [eqX_nil undC, Pu_some, Ite_true, and_self]
    · simp only [eqX_ptr undC, Pu_some, Ite_false, nilCheckE, addr_ptr, load_cell hb, Nat.zero_add, zC0, eqX_nil undDk, and_self]
theorem new_n {v s : Value} {H : Hp} {R : Value → Hp → Prop} (hv : NoD v H) (h : R (.tuple #[.pointer none, .int .i64 1]) H) : Fc Try.prog 18 #[v, s] H R := by
  refine fn18 ?_
  simp only [sh18, Any_const]
  refine fn52 ?_
  simp only [sh52]
  refine fn53 ?_
  simp only [sh53]
  have fin : Pu (unE .not (.bool false)) (fun x2 => Ite x2 (Pu (binE (some (.int .i64)) .eql (.int .i64 0) (.int .i64 0)) fun x2 => Ite x2 (R (.tuple #[.pointer none, .int .i64 1]) H) False) False) := by
    simp only [unE_not, Pu_some, Bool.not_false, Ite_true, binE_eql, decide_true]; exact h
  simp only [unE_not, Pu_some, Bool.not_false, Ite_true, binE_eql, decide_true] at fin
  rcases hv with rfl | ⟨b, T, rfl, hb⟩
  · simp only [neX_nil undDk, Pu_some, Ite_false, unE_not, Bool.not_false, Ite_true, binE_eql, decide_true]; exact h
  · simp only [neX_ptr undDk, Pu_some, Ite_true, nilCheckE, addr_ptr, load_cell hb, Nat.zero_add, zD0, binE_gtr, show decide ((0 : Int) < 0) = false from rfl, unE_not, Bool.not_false, binE_eql, decide_true]; exact h
theorem filled_q {f : Int} {H : Hp} : ∃ x, QC true Try.prog 13 #[.int .u16 f] H (.agg x) := by
  refine ⟨fil (IntKind.u8.wrap f) (IntKind.u8.wrap (IntKind.u16.wrap (f.tdiv 256))) (IntKind.u8.wrap f) (IntKind.u8.wrap (f.tmod 251)), fun H' hx => ?_⟩
  refine fn13 ?_
  simp only [sh13, zeroB, Pu_some]
  refine box_i fun b H1 hb e1 s1 g1 => ?_
  simp only [cells_agg] at g1
  simp only [conv_int, binE_quo (show (256 : Int) ≠ 0 by decide), binE_rem (show (251 : Int) ≠ 0 by decide), Pu_some, build_fil]
  refine storeAll_i g1 zB_size (fil_size _ _ _ _) (by rw [← Array.all_toList]; exact fil_ok _ _ _ _) fun H2 k2 s2 g2 => ?_
  simp only [load_all g2 (fil_size _ _ _ _), Pu_some]
  exact ⟨trivial, (e1.kp (· = b)).trans k2 |>.ext fun k hk e => by omega⟩
end Go.Vc
