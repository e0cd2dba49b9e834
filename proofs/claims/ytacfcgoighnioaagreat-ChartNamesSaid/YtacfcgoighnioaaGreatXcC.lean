/- Xc, part C: operations on values alone. -/
import Derived.Test.YtacfcgoighnioaaGreatXcB
set_option linter.unusedVariables false
set_option linter.unusedSectionVars false
set_option linter.unusedSimpArgs false
namespace Go.Xc
open Go.Vc
variable [Sites]

/-! ### Whole numbers -/
noncomputable def outV (o : Option Value) (k : CV → Bool) : Bool :=
  match o with
  | some (.int q n) => forceI n fun n => k (.int q n)
  | some (.bool true) => k (.bool true)
  | some (.bool false) => k (.bool false)
  | some (.string s) => k (.str s)
  | _ => false
theorem outV_ok {o : Option Value} {k : CV → Bool} (h : outV o k = true) : ∃ z, k z = true ∧ ∀ m, ∃ v, o = some v ∧ Vrel m z v := by
  unfold outV at h
  split at h
  · rw [forceI_eq] at h; exact ⟨_, h, fun m => ⟨_, rfl, rfl⟩⟩
  · exact ⟨_, h, fun m => ⟨_, rfl, rfl⟩⟩
  · exact ⟨_, h, fun m => ⟨_, rfl, rfl⟩⟩
  · exact ⟨_, h, fun m => ⟨_, rfl, rfl⟩⟩
  · cases h

/-- A bool made plain. -/
noncomputable def outB (b : Bool) (k : CV → Bool) : Bool := Bool.rec (k (.bool false)) (k (.bool true)) b
theorem outB_eq (b : Bool) (k : CV → Bool) : outB b k = k (.bool b) := by cases b <;> rfl
/-- A number of 64 bits that is not below 0, or else the long way. -/
noncomputable def outN (n : Nat) (slow : Bool) (k : CV → Bool) : Bool := Bool.rec slow (forceN n fun n => k (.int .i64 (.ofNat n))) (Nat.ble n 9223372036854775807)

noncomputable def xI64 (op : BinOp) (x y : Nat) (slow : Bool) (k : CV → Bool) : Bool :=
  match op with
  | .add => outN (x + y) slow k
  | .sub => Bool.rec slow (outN (x - y) slow k) (Nat.ble y x)
  | .mul => outN (x * y) slow k
  | .quo => Bool.rec (outN (x / y) slow k) slow (Nat.beq y 0)
  | .rem => Bool.rec (outN (x % y) slow k) slow (Nat.beq y 0)
  | .eql => outB (Nat.beq x y) k
  | .neq => outB (!(Nat.beq x y)) k
  | .lss => outB (Nat.ble (x + 1) y) k
  | .leq => outB (Nat.ble x y) k
  | .gtr => outB (Nat.ble (y + 1) x) k
  | .geq => outB (Nat.ble y x) k
  | _ => slow

theorem ble_dec (x y : Nat) : Nat.ble x y = decide (x ≤ y) := by
  cases h : Nat.ble x y with
  | true => exact (decide_eq_true (Nat.le_of_ble_eq_true h)).symm
  | false => exact (decide_eq_false fun hc => by rw [Nat.ble_eq_true_of_le hc] at h; cases h).symm
theorem beq_dec (x y : Nat) : Nat.beq x y = decide (x = y) := by
  cases h : Nat.beq x y with
  | true => exact (decide_eq_true (Nat.eq_of_beq_eq_true h)).symm
  | false => exact (decide_eq_false fun hc => by subst hc; rw [Nat.beq_refl] at h; cases h).symm

theorem outN_ok {n : Nat} {slow : Bool} {k : CV → Bool} (h : outN n slow k = true) : slow = true ∨ (n ≤ 9223372036854775807 ∧ k (.int .i64 n) = true) := by
  unfold outN at h
  rw [ble_dec] at h
  by_cases hn : n ≤ 9223372036854775807
  · rw [decide_eq_true hn] at h
    have h' : forceN n (fun n => k (.int .i64 (.ofNat n))) = true := h
    rw [forceN_eq] at h'; exact .inr ⟨hn, h'⟩
  · rw [decide_eq_false hn] at h; exact .inl h

theorem xI64_ok {op : BinOp} {x y : Nat} {slow : Bool} {k : CV → Bool} (h : xI64 op x y slow k = true) : slow = true ∨ ∃ z, k z = true ∧ ∀ m, ∃ v, binI op .i64 x y = some v ∧ Vrel m z v := by
  cases op <;> simp only [xI64, outB_eq] at h <;> try (exact .inl h)
  case add =>
    rcases outN_ok h with h | ⟨hn, h⟩
    · exact .inl h
    · refine .inr ⟨_, h, fun m => ⟨_, rfl, ?_⟩⟩
      show Value.int .i64 (IntKind.i64.wrap ((x : Int) + y)) = .int .i64 ((x + y : Nat) : Int)
      rw [i64wrap_id (by omega) (by omega)]; rfl
  case sub =>
    rw [ble_dec] at h
    by_cases hc : y ≤ x
    · rw [decide_eq_true hc] at h
      rcases outN_ok h with h | ⟨hn, h⟩
      · exact .inl h
      · refine .inr ⟨_, h, fun m => ⟨_, rfl, ?_⟩⟩
        show Value.int .i64 (IntKind.i64.wrap ((x : Int) - y)) = .int .i64 ((x - y : Nat) : Int)
        rw [i64wrap_id (by omega) (by omega)]; congr 1; omega
    · rw [decide_eq_false hc] at h; exact .inl h
  case mul =>
    rcases outN_ok h with h | ⟨hn, h⟩
    · exact .inl h
    · refine .inr ⟨_, h, fun m => ⟨_, rfl, ?_⟩⟩
      show Value.int .i64 (IntKind.i64.wrap ((x : Int) * y)) = .int .i64 ((x * y : Nat) : Int)
      have e : (x : Int) * y = ((x * y : Nat) : Int) := by simp
      rw [e, i64wrap_id (by omega) (by omega)]
  case quo =>
    rw [beq_dec] at h
    by_cases hc : y = 0
    · rw [decide_eq_true hc] at h; exact .inl h
    · rw [decide_eq_false hc] at h
      rcases outN_ok h with h | ⟨hn, h⟩
      · exact .inl h
      · have h0 : ¬ (y : Int) = 0 := by omega
        refine .inr ⟨_, h, fun m => ⟨_, by simp only [binI, h0, if_false]; rfl, ?_⟩⟩
        show Value.int .i64 (IntKind.i64.wrap ((x : Int).tdiv y)) = .int .i64 ((x / y : Nat) : Int)
        have e : (x : Int).tdiv y = ((x / y : Nat) : Int) := by rw [Int.tdiv_eq_ediv_of_nonneg (by omega)]; simp
        rw [e]
        generalize x / y = w at hn
        rw [i64wrap_id (by omega) (by omega)]
  case rem =>
    rw [beq_dec] at h
    by_cases hc : y = 0
    · rw [decide_eq_true hc] at h; exact .inl h
    · rw [decide_eq_false hc] at h
      rcases outN_ok h with h | ⟨hn, h⟩
      · exact .inl h
      · have h0 : ¬ (y : Int) = 0 := by omega
        refine .inr ⟨_, h, fun m => ⟨_, by simp only [binI, h0, if_false]; rfl, ?_⟩⟩
        show Value.int .i64 ((x : Int).tmod y) = .int .i64 ((x % y : Nat) : Int)
        have e : (x : Int).tmod y = ((x % y : Nat) : Int) := by rw [Int.tmod_eq_emod_of_nonneg (by omega)]; simp
        rw [e]
  case eql =>
    refine .inr ⟨_, h, fun m => ⟨_, rfl, ?_⟩⟩
    show Value.bool ((x : Int) == y) = .bool (Nat.beq x y)
    rw [beq_dec]; congr 1; rw [Bool.eq_iff_iff]; simp; omega
  case neq =>
    refine .inr ⟨_, h, fun m => ⟨_, rfl, ?_⟩⟩
    show Value.bool ((x : Int) != y) = .bool (!(Nat.beq x y))
    rw [beq_dec]; congr 1; rw [Bool.eq_iff_iff]; simp; omega
  case lss =>
    refine .inr ⟨_, h, fun m => ⟨_, rfl, ?_⟩⟩
    show Value.bool (decide ((x : Int) < y)) = .bool (Nat.ble (x + 1) y)
    rw [ble_dec]; congr 1; rw [decide_eq_decide]; omega
  case leq =>
    refine .inr ⟨_, h, fun m => ⟨_, rfl, ?_⟩⟩
    show Value.bool (decide ((x : Int) ≤ y)) = .bool (Nat.ble x y)
    rw [ble_dec]; congr 1; rw [decide_eq_decide]; omega
  case gtr =>
    refine .inr ⟨_, h, fun m => ⟨_, rfl, ?_⟩⟩
    show Value.bool (decide ((x : Int) > y)) = .bool (Nat.ble (y + 1) x)
    rw [ble_dec]; congr 1; rw [decide_eq_decide]; omega
  case geq =>
    refine .inr ⟨_, h, fun m => ⟨_, rfl, ?_⟩⟩
    show Value.bool (decide ((x : Int) ≥ y)) = .bool (Nat.ble y x)
    rw [ble_dec]; congr 1; rw [decide_eq_decide]; omega

noncomputable def xInt (op : BinOp) (q : IntKind) (a b : Int) (k : CV → Bool) : Bool :=
  match q, a, b with
  | .i64, .ofNat x, .ofNat y => xI64 op x y (outV (binI op .i64 (.ofNat x) (.ofNat y)) k) k
  | q, a, b => outV (binI op q a b) k
theorem xInt_ok {op : BinOp} {q : IntKind} {a b : Int} {k : CV → Bool} (h : xInt op q a b k = true) : ∃ z, k z = true ∧ ∀ m, ∃ v, binI op q a b = some v ∧ Vrel m z v := by
  unfold xInt at h
  split at h
  · rcases xI64_ok h with h | h
    · exact outV_ok h
    · exact h
  · exact outV_ok h

/-- Against nil; bools. -/
def nilX (td : Option TypeDesc) (x y : CV) : Option Bool :=
  match td, x, y with
  | some (.slice _), .nils, .nils => some true
  | some (.slice _), .nils, .sl _ _ _ _ => some false
  | some (.slice _), .nils, .so _ _ _ _ => some false
  | some (.slice _), .sl _ _ _ _, .nils => some false
  | some (.slice _), .so _ _ _ _, .nils => some false
  | some (.map _ _), .nilm, .nilm => some true
  | some (.map _ _), .nilm, .map _ => some false
  | some (.map _ _), .map _, .nilm => some false
  | some (.func _ _ _), .nilf, .nilf => some true
  | some (.func _ _ _), .nilf, .fn _ _ _ => some false
  | some (.func _ _ _), .fn _ _ _, .nilf => some false
  | some .bool, .bool a, .bool b => some (a == b)
  | _, _, _ => none
theorem nilX_ok {td : Option TypeDesc} {x y : CV} {b : Bool} (h : nilX td x y = some b) {m : M} {vx vy : Value} (hx : Vrel m x vx) (hy : Vrel m y vy) : nilE td vx vy = some b ∧ (∀ q n, vx ≠ .int q n) ∧ ∀ s, vx ≠ .string s := by
  unfold nilX at h
  split at h <;> try (cases h; done)
  all_goals (injection h with h; subst h; simp only [Vrel] at hx hy)
  · subst hx hy; exact ⟨rfl, by simp, by simp⟩
  · subst hx; obtain ⟨e, _, rfl⟩ := hy; exact ⟨rfl, by simp, by simp⟩
  · subst hx; obtain ⟨e, b, c, _, rfl, _⟩ := hy; exact ⟨rfl, by simp, by simp⟩
  · subst hy; obtain ⟨e, _, rfl⟩ := hx; exact ⟨rfl, by simp, by simp⟩
  · subst hy; obtain ⟨e, b, c, _, rfl, _⟩ := hx; exact ⟨rfl, by simp, by simp⟩
  · subst hx hy; exact ⟨rfl, by simp, by simp⟩
  · subst hx; obtain ⟨e, _, rfl⟩ := hy; exact ⟨rfl, by simp, by simp⟩
  · subst hy; obtain ⟨e, _, rfl⟩ := hx; exact ⟨rfl, by simp, by simp⟩
  · subst hx hy; exact ⟨rfl, by simp, by simp⟩
  · subst hx; obtain ⟨_, _, rfl, _⟩ := hy; exact ⟨rfl, by simp, by simp⟩
  · subst hy; obtain ⟨_, _, rfl, _⟩ := hx; exact ⟨rfl, by simp, by simp⟩
  · subst hx hy; exact ⟨rfl, by simp, by simp⟩

noncomputable def outO (o : Option Bool) (op : BinOp) (k : CV → Bool) : Bool :=
  match o, op with
  | some b, .eql => outB b k
  | some b, .neq => outB (!b) k
  | _, _ => false
/-- Of types that are not hard. -/
noncomputable def xBin (td : Option TypeDesc) (op : BinOp) (x y : CV) (k : CV → Bool) : Bool :=
  match x, y with
  | .int .i64 a, .int .i64 b => xInt op .i64 a b k
  | .int q a, .int q' b => Bool.rec false (xInt op q a b k) (isShift op || q == q')
  | .str a, .str b => outV (strE op a b) k
  | x, y => outO (nilX td x y) op k
theorem xBin_ok {td : Option TypeDesc} {op : BinOp} {x y : CV} {k : CV → Bool} (h : xBin td op x y k = true) : ∃ z, k z = true ∧ ∀ {m vx vy}, Vrel m x vx → Vrel m y vy → ∃ v, binE td op vx vy = some v ∧ Vrel m z v := by
  unfold xBin at h
  split at h
  · obtain ⟨z, h1, h2⟩ := xInt_ok h
    refine ⟨z, h1, fun {m vx vy} hx hy => ?_⟩
    simp only [Vrel] at hx hy; subst hx hy
    obtain ⟨v, h3, h4⟩ := h2 m
    exact ⟨v, by rw [binE_int]; exact h3, h4⟩
  · rename_i q a q' b _
    cases hc : (isShift op || q == q') with
    | false => rw [hc] at h; cases h
    | true =>
      rw [hc] at h
      obtain ⟨z, h1, h2⟩ := xInt_ok h
      refine ⟨z, h1, fun {m vx vy} hx hy => ?_⟩
      simp only [Vrel] at hx hy; subst hx hy
      obtain ⟨v, h3, h4⟩ := h2 m
      exact ⟨v, by unfold binE; simp only [hc, if_true]; exact h3, h4⟩
  · obtain ⟨z, h1, h2⟩ := outV_ok h
    refine ⟨z, h1, fun {m vx vy} hx hy => ?_⟩
    simp only [Vrel] at hx hy; subst hx hy
    exact h2 m
  · unfold outO at h
    split at h
    · rename_i b hn
      rw [outB_eq] at h
      refine ⟨_, h, fun {m vx vy} hx hy => ?_⟩
      obtain ⟨h1, h2, h3⟩ := nilX_ok hn hx hy
      refine ⟨.bool b, ?_, rfl⟩
      unfold binE
      split
      · exact absurd rfl (h2 _ _)
      · exact absurd rfl (h3 _)
      · rw [h1]; rfl
    · rename_i b hn
      rw [outB_eq] at h
      refine ⟨_, h, fun {m vx vy} hx hy => ?_⟩
      obtain ⟨h1, h2, h3⟩ := nilX_ok hn hx hy
      refine ⟨.bool (!b), ?_, rfl⟩
      unfold binE
      split
      · exact absurd rfl (h2 _ _)
      · exact absurd rfl (h3 _)
      · rw [h1]; rfl
    · cases h

noncomputable def xUn (op : UnOp) (x : CV) (k : CV → Bool) : Bool :=
  match x with
  | .bool b => outV (unE op (.bool b)) k
  | .int q n => outV (unE op (.int q n)) k
  | _ => false
theorem xUn_ok {op : UnOp} {x : CV} {k : CV → Bool} (h : xUn op x k = true) : ∃ z, k z = true ∧ ∀ {m vx}, Vrel m x vx → ∃ v, unE op vx = some v ∧ Vrel m z v := by
  unfold xUn at h
  split at h
  · obtain ⟨z, h1, h2⟩ := outV_ok h
    exact ⟨z, h1, fun {m vx} hx => by simp only [Vrel] at hx; subst hx; exact h2 m⟩
  · obtain ⟨z, h1, h2⟩ := outV_ok h
    exact ⟨z, h1, fun {m vx} hx => by simp only [Vrel] at hx; subst hx; exact h2 m⟩
  · cases h

noncomputable def xConv (s d : Option TypeDesc) (x : CV) (k : CV → Bool) : Bool :=
  match s, d, x with
  | some (.int .i64), some (.int .i64), .int .i64 n => Bool.rec false (k (.int .i64 n)) (decide (-9223372036854775808 ≤ n ∧ n ≤ 9223372036854775807))
  | some (.int .u8), some (.int .i64), .int .u8 (.ofNat n) => Bool.rec false (k (.int .i64 (.ofNat n))) (Nat.ble n 255)
  | s, d, .int q n => outV (convE s d (.int q n)) k
  | s, d, .str b => outV (convE s d (.string b)) k
  | _, _, _ => false
theorem xConv_ok {s d : Option TypeDesc} {x : CV} {k : CV → Bool} (h : xConv s d x k = true) : ∃ z, k z = true ∧ ∀ {m vx}, Vrel m x vx → ∃ v, convE s d vx = some v ∧ Vrel m z v := by
  unfold xConv at h
  split at h
  · rename_i n
    by_cases hc : -9223372036854775808 ≤ n ∧ n ≤ 9223372036854775807
    · rw [decide_eq_true hc] at h
      exact ⟨_, h, fun {m vx} hx => by simp only [Vrel] at hx; subst hx; exact ⟨.int .i64 n, by rw [conv_int, i64wrap_id hc.1 hc.2], rfl⟩⟩
    · rw [decide_eq_false hc] at h; cases h
  · rename_i n
    rw [ble_dec] at h
    by_cases hc : n ≤ 255
    · rw [decide_eq_true hc] at h
      exact ⟨_, h, fun {m vx} hx => by
        simp only [Vrel] at hx; subst hx
        exact ⟨.int .i64 (.ofNat n), by rw [conv_int, i64wrap_id (by show (_ : Int) ≤ (n : Int); omega) (by show (n : Int) ≤ _; omega)], rfl⟩⟩
    · rw [decide_eq_false hc] at h; cases h
  · obtain ⟨z, h1, h2⟩ := outV_ok h
    exact ⟨z, h1, fun {m vx} hx => by simp only [Vrel] at hx; subst hx; exact h2 m⟩
  · obtain ⟨z, h1, h2⟩ := outV_ok h
    exact ⟨z, h1, fun {m vx} hx => by simp only [Vrel] at hx; subst hx; exact h2 m⟩
  · cases h

noncomputable def xMin (x y : CV) (k : CV → Bool) : Bool := match x, y with | .int q a, .int q' b => outV (minE (.int q a) (.int q' b)) k | _, _ => false
noncomputable def xMax (x y : CV) (k : CV → Bool) : Bool := match x, y with | .int q a, .int q' b => outV (maxE (.int q a) (.int q' b)) k | _, _ => false
theorem xMin_ok {x y : CV} {k : CV → Bool} (h : xMin x y k = true) : ∃ z, k z = true ∧ ∀ {m vx vy}, Vrel m x vx → Vrel m y vy → ∃ v, minE vx vy = some v ∧ Vrel m z v := by
  unfold xMin at h
  split at h
  · obtain ⟨z, h1, h2⟩ := outV_ok h
    exact ⟨z, h1, fun {m vx vy} hx hy => by simp only [Vrel] at hx hy; subst hx hy; exact h2 m⟩
  · cases h
theorem xMax_ok {x y : CV} {k : CV → Bool} (h : xMax x y k = true) : ∃ z, k z = true ∧ ∀ {m vx vy}, Vrel m x vx → Vrel m y vy → ∃ v, maxE vx vy = some v ∧ Vrel m z v := by
  unfold xMax at h
  split at h
  · obtain ⟨z, h1, h2⟩ := outV_ok h
    exact ⟨z, h1, fun {m vx vy} hx hy => by simp only [Vrel] at hx hy; subst hx hy; exact h2 m⟩
  · cases h

/-! ### Addresses -/
noncomputable def xAddr (off : Option Nat) (x : CV) (k : CV → Bool) : Bool :=
  match off, x with
  | some d, .ptr b o => forceN (o + d) fun o => k (.ptr b o)
  | _, _ => false
theorem xAddr_ok {off : Option Nat} {x : CV} {k : CV → Bool} (h : xAddr off x k = true) : ∃ z, k z = true ∧ ∀ {m vx}, Vrel m x vx → ∃ v, addrE off vx = some v ∧ Vrel m z v := by
  unfold xAddr at h
  split at h
  · rw [forceN_eq] at h
    refine ⟨_, h, fun {m vx} hx => ?_⟩
    obtain ⟨e, he, rfl⟩ := hx
    exact ⟨_, addr_ptr, e, he, rfl⟩
  · cases h
noncomputable def xIdx (q : Option (Option Nat × Nat)) (x i : CV) (k : CV → Bool) : Bool :=
  match q, x, i with
  | some (some n, s), .ptr b o, .int _ (.ofNat j) => Bool.rec false (forceN (o + j * s) fun o => k (.ptr b o)) (Nat.ble (j + 1) n)
  | some (none, s), .sl b o n _, .int _ (.ofNat j) => Bool.rec false (forceN (o + j * s) fun o => k (.ptr b o)) (Nat.ble (j + 1) n)
  | some (none, s), .so b o n _, .int _ (.ofNat j) => Bool.rec false (forceN (o + j * s) fun o => k (.ptr b o)) (Nat.ble (j + 1) n)
  | _, _, _ => false
theorem xIdx_ok {q : Option (Option Nat × Nat)} {x i : CV} {k : CV → Bool} (h : xIdx q x i k = true) : ∃ z, k z = true ∧ ∀ {m vx vi}, Vrel m x vx → Vrel m i vi → ∃ v, idxAddrE q vx vi = some v ∧ Vrel m z v := by
  unfold xIdx at h
  split at h
  · rename_i n s b o q' j
    rw [ble_dec] at h
    by_cases hc : j + 1 ≤ n
    · rw [decide_eq_true hc] at h
      have h : forceN (o + j * s) (fun o => k (.ptr b o)) = true := h
      rw [forceN_eq] at h
      refine ⟨_, h, fun {m vx vi} hx hi => ?_⟩
      obtain ⟨e, he, rfl⟩ := hx
      simp only [Vrel] at hi; subst hi
      exact ⟨_, idx_arr (by exact Int.natCast_nonneg j) (by show (j : Int) < n; omega), e, he, rfl⟩
    · rw [decide_eq_false hc] at h; cases h
  · rename_i s b o n c q' j
    rw [ble_dec] at h
    by_cases hc : j + 1 ≤ n
    · rw [decide_eq_true hc] at h
      have h : forceN (o + j * s) (fun o => k (.ptr b o)) = true := h
      rw [forceN_eq] at h
      refine ⟨_, h, fun {m vx vi} hx hi => ?_⟩
      obtain ⟨e, he, rfl⟩ := hx
      simp only [Vrel] at hi; subst hi
      exact ⟨_, idx_slc (by exact Int.natCast_nonneg j) (by show (j : Int) < n; omega), e, he, rfl⟩
    · rw [decide_eq_false hc] at h; cases h
  · rename_i s b o n es q' j
    rw [ble_dec] at h
    by_cases hc : j + 1 ≤ n
    · rw [decide_eq_true hc] at h
      have h : forceN (o + j * s) (fun o => k (.ptr b o)) = true := h
      rw [forceN_eq] at h
      refine ⟨_, h, fun {m vx vi} hx hi => ?_⟩
      obtain ⟨e, base, c, he, rfl, hlc, hroom, hsp, hbl, hoff⟩ := hx
      simp only [Vrel] at hi; subst hi
      obtain ⟨bb, bo, bs⟩ := base
      simp only at hsp hbl hoff
      subst hsp hbl
      have := hoff (.inl (by omega))
      subst this
      exact ⟨_, idx_slc (by exact Int.natCast_nonneg j) (by show (j : Int) < n; omega), e, he, rfl⟩
    · rw [decide_eq_false hc] at h; cases h
  · cases h

/-- A part of a struct's or an array's value. -/
noncomputable def xPart (q : Option (Option Nat)) (ps : List CV) (off : Nat) (k : CV → Bool) : Bool :=
  match q with
  | some none => (match getP ps off with | some v => forceC v k | none => false)
  | some (some n) => (match splitP ps off with
    | some (_, b) => (match splitP b n with | some (c, _) => forceP c fun c => k (.agg c) | none => false)
    | none => false)
  | none => false
theorem split_mid {m : M} {ps a b c d : List CV} {l : List Value} {off n : Nat} (h : Crel m ps l) (h1 : splitP ps off = some (a, b)) (h2 : splitP b n = some (c, d)) : ∃ l1 l2 l3, l = l1 ++ (l2 ++ l3) ∧ l1.length = off ∧ l2.length = n ∧ Crel m a l1 ∧ Crel m c l2 ∧ Crel m d l3 := by
  obtain ⟨l1, l', rfl, e1, r1, r2⟩ := splitP_ok h h1
  obtain ⟨l2, l3, rfl, e2, r3, r4⟩ := splitP_ok r2 h2
  exact ⟨l1, l2, l3, rfl, e1, e2, r1, r3, r4⟩
theorem xPart_ok {q : Option (Option Nat)} {ps : List CV} {off : Nat} {k : CV → Bool} (h : xPart q ps off k = true) : ∃ z, k z = true ∧ ∀ {m} {c : Array Value}, Crel m ps c.toList → ∃ v, partE q c off = some v ∧ Vrel m z v := by
  unfold xPart at h
  split at h
  · split at h
    · rename_i v hv
      rw [forceC_eq] at h
      refine ⟨v, h, fun {m c} hc => ?_⟩
      obtain ⟨u, h1, h2⟩ := getP_ok hc hv
      exact ⟨u, by simpa [partE] using h1, h2⟩
    · cases h
  · rename_i n
    split at h
    · rename_i a b h1
      split at h
      · rename_i cc d h2
        rw [forceP_eq] at h
        refine ⟨_, h, fun {m c} hc => ?_⟩
        obtain ⟨l1, l2, l3, hl, e1, e2, _, r, _⟩ := split_mid hc h1 h2
        refine ⟨.agg (c.extract off (off + n)), rfl, _, rfl, ?_⟩
        rw [Array.toList_extract, hl, List.extract_eq_take_drop, show off + n - off = n by omega, ← e1, List.drop_left, ← e2, List.take_left]
        exact r
      · cases h
    · cases h
  · cases h
noncomputable def xField (q : Option (Option (Option Nat) × Nat)) (x : CV) (k : CV → Bool) : Bool :=
  match q, x with
  | some (d, off), .agg ps => xPart d ps off k
  | _, _ => false
def fieldK (P : Program) (S : TypeId) (f : Nat) : Option (Option (Option Nat) × Nat) :=
  match P.underlying S with
  | some (.struct fields) => match fields[f]? with
    | some fd => some (ldK P fd.type, fd.offset)
    | none => none
  | _ => none
theorem xField_ok {P : Program} {S : TypeId} {f : Nat} {x : CV} {k : CV → Bool} (h : xField (fieldK P S f) x k = true) : ∃ z, k z = true ∧ ∀ {m vx}, Vrel m x vx → ∃ v, fieldE P S vx f = some v ∧ Vrel m z v := by
  unfold xField at h
  split at h
  · rename_i d off ps hq
    obtain ⟨z, h1, h2⟩ := xPart_ok h
    refine ⟨z, h1, fun {m vx} hx => ?_⟩
    obtain ⟨c, rfl, hc⟩ := hx
    obtain ⟨v, h3, h4⟩ := h2 hc
    refine ⟨v, ?_, h4⟩
    unfold fieldK at hq
    split at hq
    · rename_i fields hu
      split at hq
      · rename_i fd hf
        injection hq with hq; injection hq with e1 e2; subst e1 e2
        simp only [fieldE, hu, hf]; exact h3
      · cases hq
    · cases hq
  · cases h

def idxVK (P : Program) (T : TypeId) : Option (Option (Nat × Option (Option Nat) × Nat)) :=
  match P.underlying T with
  | some .string => some none
  | some (.array n e) => (P.info? e).map fun i => some (n, ldK P e, i.size)
  | _ => none
noncomputable def xIndex (q : Option (Option (Nat × Option (Option Nat) × Nat))) (x i : CV) (k : CV → Bool) : Bool :=
  match q, x, i with
  | some none, .str s, .int _ (.ofNat j) => outV ((s[j]?).map fun b => .int .u8 b.toNat) k
  | some (some (n, d, sz)), .agg ps, .int _ (.ofNat j) => Bool.rec false (xPart d ps (j * sz) k) (Nat.blt j n)
  | _, _, _ => false
theorem xIndex_ok {P : Program} {T : TypeId} {x i : CV} {k : CV → Bool} (h : xIndex (idxVK P T) x i k = true) : ∃ z, k z = true ∧ ∀ {m vx vi}, Vrel m x vx → Vrel m i vi → ∃ v, idxE P T vx vi = some v ∧ Vrel m z v := by
  unfold xIndex at h
  split at h
  · rename_i s q j hq
    obtain ⟨z, h1, h2⟩ := outV_ok h
    refine ⟨z, h1, fun {m vx vi} hx hi => ?_⟩
    obtain ⟨v, h2, h3⟩ := h2 m
    refine ⟨v, ?_, h3⟩
    simp only [Vrel] at hx hi
    subst hx hi
    unfold idxVK at hq
    split at hq
    · rename_i hu
      simp only [idxE, hu]
      rw [if_pos (by simp)]
      simpa using h2
    · rename_i n e hu
      simp only [Option.map_eq_some_iff] at hq
      obtain ⟨i, _, hq⟩ := hq
      cases hq
    · cases hq
  · rename_i n d sz ps q j hq
    cases hb : Nat.blt j n with
    | false => rw [hb] at h; cases h
    | true =>
      rw [hb] at h
      have h : xPart d ps (j * sz) k = true := h
      have hlt : j < n := by simpa using hb
      obtain ⟨z, h1, h2⟩ := xPart_ok h
      refine ⟨z, h1, fun {m vx vi} hx hi => ?_⟩
      simp only [Vrel] at hi
      obtain ⟨c, rfl, hc⟩ := hx
      subst hi
      obtain ⟨v, h3, h4⟩ := h2 hc
      refine ⟨v, ?_, h4⟩
      unfold idxVK at hq
      split at hq
      · cases hq
      · rename_i n' e hu
        simp only [Option.map_eq_some_iff] at hq
        obtain ⟨i, hi, hq⟩ := hq
        simp only [Option.some.injEq, Prod.mk.injEq] at hq
        obtain ⟨rfl, rfl, rfl⟩ := hq
        simp only [idxE, hu]
        rw [if_pos (by constructor <;> simp; omega)]
        cases hl : ldK P e with
        | none => rw [hl] at h3; cases h3
        | some o =>
          rw [hl] at h3
          cases o with
          | none =>
            have h3 : c[j * i.size]? = some v := h3
            simp only [hi]; simpa using h3
          | some s =>
            have h3 : some (Value.agg (c.extract (j * i.size) (j * i.size + s))) = some v := h3
            have hs : s = i.size := by
              unfold ldK at hl
              split at hl
              · rw [hi] at hl; simpa using hl.symm
              · rw [hi] at hl; simpa using hl.symm
              · cases hl
              · cases hl
            rw [hs] at h3 ⊢
            simpa using h3
      · cases hq
  · cases h

noncomputable def xArr (n : Option Nat) (x : CV) (k : CV → Bool) : Bool :=
  match n, x with
  | some n, .sl b o l c => Bool.rec false (k (.ptr b o)) (Nat.ble n l)
  | some n, .so b o l es => Bool.rec false (Bool.rec false (k (.ptr b o)) (Nat.ble 1 l)) (Nat.ble n l)
  | _, _ => false
theorem xArr_ok {n : Option Nat} {x : CV} {k : CV → Bool} (h : xArr n x k = true) : ∃ z, k z = true ∧ ∀ {m vx}, Vrel m x vx → ∃ v, arrE n vx = some v ∧ Vrel m z v := by
  unfold xArr at h
  split at h
  · rename_i n b o l c
    cases hb : Nat.ble n l with
    | false => rw [hb] at h; cases h
    | true =>
      rw [hb] at h
      have hle : n ≤ l := Nat.le_of_ble_eq_true hb
      refine ⟨_, h, fun {m vx} hx => ?_⟩
      simp only [Vrel] at hx
      obtain ⟨e, he, rfl⟩ := hx
      exact ⟨_, by simp only [arrE]; rw [if_pos hle], e, he, rfl⟩
  · rename_i n b o l es
    cases hb : Nat.ble n l with
    | false => rw [hb] at h; cases h
    | true =>
      rw [hb] at h
      cases hb1 : Nat.ble 1 l with
      | false => rw [hb1] at h; cases h
      | true =>
        rw [hb1] at h
        have hle : n ≤ l := Nat.le_of_ble_eq_true hb
        have hle1 : 1 ≤ l := Nat.le_of_ble_eq_true hb1
        refine ⟨_, h, fun {m vx} hx => ?_⟩
        simp only [Vrel] at hx
        obtain ⟨e, ⟨bb, bo, bs⟩, cap, he, rfl, _, _, hs, hbl, ho⟩ := hx
        simp only at hs hbl ho
        subst hs hbl
        rw [ho (.inl hle1)]
        exact ⟨_, by simp only [arrE]; rw [if_pos hle], e, he, rfl⟩
  · cases h

noncomputable def xExtract (x : CV) (i : Nat) (k : CV → Bool) : Bool :=
  match x with
  | .tup vs => (match vs[i]? with | some v => k v | none => false)
  | _ => false
theorem Vrels_get {m : M} : ∀ {xs : List CV} {l : List Value} {i : Nat} {x : CV}, Vrels m xs l → xs[i]? = some x → ∃ v, l[i]? = some v ∧ Vrel m x v
  | [], _, _, _, _, h => by simp at h
  | y :: ys, l, 0, x, h, hi => by
    obtain ⟨v, l', rfl, h1, h2⟩ := h
    simp only [List.getElem?_cons_zero, Option.some.injEq] at hi
    subst hi
    exact ⟨v, rfl, h1⟩
  | y :: ys, l, i + 1, x, h, hi => by
    obtain ⟨v, l', rfl, h1, h2⟩ := h
    rw [List.getElem?_cons_succ] at hi ⊢
    exact Vrels_get h2 hi
theorem xExtract_ok {x : CV} {i : Nat} {k : CV → Bool} (h : xExtract x i k = true) : ∃ z, k z = true ∧ ∀ {m vx}, Vrel m x vx → ∃ v, extractE vx i = some v ∧ Vrel m z v := by
  unfold xExtract at h
  split at h
  · split at h
    · rename_i v hv
      refine ⟨v, h, fun {m vx} hx => ?_⟩
      obtain ⟨c, rfl, hc⟩ := hx
      obtain ⟨u, h1, h2⟩ := Vrels_get hc hv
      exact ⟨u, by simpa [extractE] using h1, h2⟩
    · cases h
  · cases h
noncomputable def xNilCheck (x : CV) (k : CV → Bool) : Bool :=
  match x with
  | .ptr a b => k (.ptr a b)
  | .sl a b c d => k (.sl a b c d)
  | .so a b c d => k (.so a b c d)
  | .nils => k .nils
  | .map r => k (.map r)
  | .nilm => k .nilm
  | .fn f a b => k (.fn f a b)
  | _ => false
theorem xNilCheck_ok {x : CV} {k : CV → Bool} (h : xNilCheck x k = true) : ∃ z, k z = true ∧ ∀ {m vx}, Vrel m x vx → ∃ v, nilCheckE vx = some v ∧ Vrel m z v := by
  unfold xNilCheck at h
  split at h <;> try (cases h; done)
  all_goals (refine ⟨_, h, fun {m vx} hx => ⟨vx, ?_, hx⟩⟩; simp only [Vrel] at hx)
  · obtain ⟨e, _, rfl⟩ := hx; rfl
  · obtain ⟨e, _, rfl⟩ := hx; rfl
  · obtain ⟨e, b, c, _, rfl, _⟩ := hx; rfl
  · subst hx; rfl
  · obtain ⟨e, _, rfl⟩ := hx; rfl
  · subst hx; rfl
  · obtain ⟨_, _, rfl, _⟩ := hx; rfl
end Go.Xc
