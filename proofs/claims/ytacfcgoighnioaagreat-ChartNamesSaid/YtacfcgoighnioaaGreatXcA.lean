/- Xc, part A: a run of the program by values of one's own: numbers, packed bytes, indices of one's own blocks; what a value of one's own stands for. -/
import Derived.Test.YtacfcgoighnioaaGreatVcN
set_option linter.unusedVariables false
set_option linter.unusedSimpArgs false
namespace Go.Xc
open Go.Vc

/-- Values of a run: ptr: the run's own block k, cell o; sl: a slice of known room; so: a slice (elements of es cells) whose room is not known; bytes n x: n cells of bytes, packed; agg: the cells of a struct or an array, in parts; yv: what a round of the loop whose record is block k is asked for by. -/
inductive CV
  | int (k : IntKind) (n : Int)
  | bool (b : Bool)
  | str (s : ByteArray)
  | ptr (k o : Nat)
  | nilp
  | sl (k o len cap : Nat)
  | so (k o len es : Nat)
  | nils
  | map (k : Nat)
  | nilm
  | nilf
  | fn (f : FuncId) (first cap : List CV)
  | bytes (n x : Nat)
  | agg (ps : List CV)
  | tup (vs : List CV)
  | yv (k : Nat)
  | junk

/-- Own block k: which block of the memory it is, and how many cells that has. -/
abbrev M := List (Nat × Nat)

def bytesL : Nat → Nat → List Value
  | 0, _ => []
  | n + 1, x => .int .u8 ((x % 256 : Nat) : Int) :: bytesL n (x / 256)

def scalar : CV → Bool
  | .bytes _ _ | .agg _ | .tup _ | .junk => false
  | _ => true

mutual
def Vrel (m : M) : CV → Value → Prop
  | .int k n, v => v = .int k n
  | .bool b, v => v = .bool b
  | .str s, v => v = .string s
  | .ptr k o, v => ∃ e, m[k]? = some e ∧ v = .pointer (some ⟨e.1, o, none⟩)
  | .nilp, v => v = .pointer none
  | .sl k o len cap, v => ∃ e, m[k]? = some e ∧ v = .slice (some ⟨e.1, o, none⟩) len cap
  | .so k o len es, v => ∃ e base c, m[k]? = some e ∧ v = .slice (some base) len c ∧ len ≤ c ∧ o + c * es ≤ e.2 ∧ base.spot = none ∧ base.block = e.1 ∧ (0 < len ∨ o = 0 → base.off = o)
  | .nils, v => v = .slice none 0 0
  | .map k, v => ∃ e, m[k]? = some e ∧ v = .map (some e.1)
  | .nilm, v => v = .map none
  | .nilf, v => v = .nilFunc
  | .fn f a c, v => ∃ va vc, v = .func (.func f) va vc ∧ Vrels m a va.toList ∧ Vrels m c vc.toList
  | .bytes _ _, _ => False
  | .agg ps, v => ∃ c, v = .agg c ∧ Crel m ps c.toList
  | .tup vs, v => ∃ c, v = .tuple c ∧ Vrels m vs c.toList
  | .yv k, v => ∃ e, m[k]? = some e ∧ v = .func (.yield e.1) #[] #[]
  | .junk, _ => True
def Vrels (m : M) : List CV → List Value → Prop
  | [], l => l = []
  | x :: xs, l => ∃ v l', l = v :: l' ∧ Vrel m x v ∧ Vrels m xs l'
/-- Parts, one behind the other, and the cells that they are. -/
def Crel (m : M) : List CV → List Value → Prop
  | [], l => l = []
  | .bytes n x :: ps, l => ∃ l', l = bytesL n x ++ l' ∧ Crel m ps l'
  | p :: ps, l => ∃ v l', l = v :: l' ∧ scalar p = true ∧ Vrel m p v ∧ Crel m ps l'
end

theorem bytesL_len : ∀ (n x : Nat), (bytesL n x).length = n
  | 0, _ => rfl
  | n + 1, x => by simp [bytesL, bytesL_len n]
theorem bytesL_get : ∀ (n x j : Nat), j < n → (bytesL n x)[j]? = some (.int .u8 ((x >>> (8 * j) % 256 : Nat) : Int))
  | n + 1, x, 0, _ => by simp [bytesL]
  | n + 1, x, j + 1, h => by
    simp only [bytesL, List.getElem?_cons_succ]
    rw [bytesL_get n _ j (by omega), show 8 * (j + 1) = 8 + 8 * j by omega, Nat.shiftRight_add]
    rw [show x >>> 8 = x / 256 by rw [Nat.shiftRight_eq_div_pow]]
theorem bytesL_split : ∀ (j n x : Nat), bytesL (j + n) x = bytesL j x ++ bytesL n (x >>> (8 * j))
  | 0, n, x => by simp [bytesL]
  | j + 1, n, x => by
    rw [show j + 1 + n = (j + n) + 1 by omega, bytesL, bytesL, bytesL_split j n, List.cons_append, show 8 * (j + 1) = 8 + 8 * j by omega, Nat.shiftRight_add]
    rw [show x >>> 8 = x / 256 by rw [Nat.shiftRight_eq_div_pow]]
theorem bytesL_eq {n x y : Nat} (h : x % 2 ^ (8 * n) = y % 2 ^ (8 * n)) : bytesL n x = bytesL n y := by
  apply List.ext_getElem?
  intro j
  by_cases hj : j < n
  · rw [bytesL_get _ _ _ hj, bytesL_get _ _ _ hj]
    congr 3
    have key : ∀ z : Nat, z >>> (8 * j) % 256 = (z % 2 ^ (8 * n)) >>> (8 * j) % 256 := by
      intro z
      apply Nat.eq_of_testBit_eq
      intro i
      rw [show (256 : Nat) = 2 ^ 8 from rfl, Nat.testBit_mod_two_pow, Nat.testBit_mod_two_pow, Nat.testBit_shiftRight, Nat.testBit_shiftRight, Nat.testBit_mod_two_pow]
      by_cases hi : i < 8
      · have : 8 * j + i < 8 * n := by omega
        simp [hi, this]
      · simp [hi]
    rw [key x, key y, h]
  · rw [List.getElem?_eq_none (by rw [bytesL_len]; omega), List.getElem?_eq_none (by rw [bytesL_len]; omega)]
theorem bytesL_inj {n x y : Nat} (h : bytesL n x = bytesL n y) : x % 2 ^ (8 * n) = y % 2 ^ (8 * n) := by
  apply Nat.eq_of_testBit_eq
  intro i
  rw [Nat.testBit_mod_two_pow, Nat.testBit_mod_two_pow]
  by_cases hi : i < 8 * n
  · simp only [hi, decide_true, Bool.true_and]
    have hj : i / 8 < n := by omega
    have h1 := bytesL_get n x (i / 8) hj
    have h2 := bytesL_get n y (i / 8) hj
    rw [h, h2] at h1
    injection h1 with h1
    injection h1 with _ h1
    have h1 : y >>> (8 * (i / 8)) % 256 = x >>> (8 * (i / 8)) % 256 := by omega
    have h3 : (y >>> (8 * (i / 8)) % 256).testBit (i % 8) = (x >>> (8 * (i / 8)) % 256).testBit (i % 8) := by rw [h1]
    rw [show (256 : Nat) = 2 ^ 8 from rfl, Nat.testBit_mod_two_pow, Nat.testBit_mod_two_pow, Nat.testBit_shiftRight, Nat.testBit_shiftRight] at h3
    have h8 : i % 8 < 8 := by omega
    have h9 : 8 * (i / 8) + i % 8 = i := by omega
    simpa [h8, h9] using h3.symm
  · simp [hi]
theorem bytesL_one : ∀ (n x : Nat), ∀ v ∈ bytesL n x, v.oneCell' = true
  | 0, _, v, h => by simp [bytesL] at h
  | n + 1, x, v, h => by
    simp only [bytesL, List.mem_cons] at h
    rcases h with rfl | h
    · rfl
    · exact bytesL_one n _ v h

theorem Crel_cons {m : M} {p : CV} {ps : List CV} {l : List Value} (h : scalar p = true) : Crel m (p :: ps) l = ∃ v l', l = v :: l' ∧ scalar p = true ∧ Vrel m p v ∧ Crel m ps l' := by
  cases p <;> first | rfl | cases h
theorem Crel_bytes {m : M} {n x : Nat} {ps : List CV} {l : List Value} : Crel m (.bytes n x :: ps) l = ∃ l', l = bytesL n x ++ l' ∧ Crel m ps l' := rfl
theorem Crel_scalar {m : M} {p : CV} {ps : List CV} {l : List Value} (h : Crel m (p :: ps) l) : (∃ n x, p = .bytes n x) ∨ scalar p = true := by
  cases p <;> first | exact .inl ⟨_, _, rfl⟩ | exact .inr rfl | (simp only [Crel] at h; obtain ⟨_, _, _, hs, _⟩ := h; cases hs)

/-! ### More blocks, more is known -/
def Pre (m m' : M) : Prop := ∀ (k : Nat) (e : Nat × Nat), m[k]? = some e → m'[k]? = some e
theorem Pre.refl (m : M) : Pre m m := fun _ _ h => h
theorem Pre.trans {a b c : M} (h : Pre a b) (h' : Pre b c) : Pre a c := fun k e hk => h' k e (h k e hk)
theorem Pre.snoc (m : M) (e : Nat × Nat) : Pre m (m ++ [e]) := fun k x hk => by
  have hlt : k < m.length := by
    rcases Nat.lt_or_ge k m.length with h1 | h1
    · exact h1
    · rw [List.getElem?_eq_none h1] at hk; cases hk
  rw [List.getElem?_append_left hlt]; exact hk

mutual
theorem Vrel.mono {m m' : M} (hp : Pre m m') : ∀ (x : CV) {v : Value}, Vrel m x v → Vrel m' x v
  | .int _ _, _, h | .bool _, _, h | .str _, _, h | .nilp, _, h | .nils, _, h | .nilm, _, h | .nilf, _, h => h
  | .ptr k o, _, h => by obtain ⟨e, h1, h2⟩ := h; exact ⟨e, hp _ _ h1, h2⟩
  | .sl k o len cap, _, h => by obtain ⟨e, h1, h2⟩ := h; exact ⟨e, hp _ _ h1, h2⟩
  | .so k o len es, _, h => by obtain ⟨e, b, c, h1, h2⟩ := h; exact ⟨e, b, c, hp _ _ h1, h2⟩
  | .map k, _, h => by obtain ⟨e, h1, h2⟩ := h; exact ⟨e, hp _ _ h1, h2⟩
  | .fn f a c, _, h => by obtain ⟨va, vc, h1, h2, h3⟩ := h; exact ⟨va, vc, h1, Vrels.mono hp a h2, Vrels.mono hp c h3⟩
  | .bytes _ _, _, h => h.elim
  | .agg ps, _, h => by obtain ⟨c, h1, h2⟩ := h; exact ⟨c, h1, Crel.mono hp ps h2⟩
  | .tup vs, _, h => by obtain ⟨c, h1, h2⟩ := h; exact ⟨c, h1, Vrels.mono hp vs h2⟩
  | .yv k, _, h => by obtain ⟨e, h1, h2⟩ := h; exact ⟨e, hp _ _ h1, h2⟩
  | .junk, _, _ => trivial
theorem Vrels.mono {m m' : M} (hp : Pre m m') : ∀ (xs : List CV) {l : List Value}, Vrels m xs l → Vrels m' xs l
  | [], _, h => h
  | x :: xs, _, h => by obtain ⟨v, l', h1, h2, h3⟩ := h; exact ⟨v, l', h1, Vrel.mono hp x h2, Vrels.mono hp xs h3⟩
theorem Crel.mono {m m' : M} (hp : Pre m m') : ∀ (ps : List CV) {l : List Value}, Crel m ps l → Crel m' ps l
  | [], _, h => h
  | p :: ps, l, h => by
    rcases Crel_scalar h with ⟨n, x, rfl⟩ | hs
    · obtain ⟨l', h1, h2⟩ := h; exact ⟨l', h1, Crel.mono hp ps h2⟩
    · rw [Crel_cons hs] at h ⊢
      obtain ⟨v, l', h1, h2, h3, h4⟩ := h
      exact ⟨v, l', h1, h2, Vrel.mono hp p h3, Crel.mono hp ps h4⟩
end

theorem scalar_one {m : M} {p : CV} {v : Value} (hs : scalar p = true) (h : Vrel m p v) : v.oneCell' = true ∧ v.cells = #[v] := by
  cases p <;> first | (cases hs; done) | (simp only [Vrel] at h; subst h; exact ⟨rfl, rfl⟩; done) | (simp only [Vrel] at h; obtain ⟨_, _, rfl⟩ := h; exact ⟨rfl, rfl⟩; done) | (simp only [Vrel] at h; obtain ⟨_, _, _, _, rfl, _⟩ := h; exact ⟨rfl, rfl⟩; done) | (simp only [Vrel] at h; obtain ⟨_, _, rfl, _⟩ := h; exact ⟨rfl, rfl⟩; done)
theorem Crel_one {m : M} : ∀ {ps : List CV} {l : List Value}, Crel m ps l → ∀ v ∈ l, v.oneCell' = true
  | [], l, h, v, hv => by simp only [Crel] at h; subst h; cases hv
  | p :: ps, l, h, v, hv => by
    rcases Crel_scalar h with ⟨n, x, rfl⟩ | hs
    · obtain ⟨l', rfl, h2⟩ := h
      rcases List.mem_append.1 hv with h1 | h1
      · exact bytesL_one _ _ v h1
      · exact Crel_one h2 v h1
    · rw [Crel_cons hs] at h
      obtain ⟨u, l', rfl, _, h3, h4⟩ := h
      rcases List.mem_cons.1 hv with h1 | h1
      · rw [h1]; exact (scalar_one hs h3).1
      · exact Crel_one h4 v h1
theorem Crel_ok {m : M} {ps : List CV} {c : Array Value} (h : Crel m ps c.toList) : (c.all fun v => v.oneCell') = true := by
  rw [← Array.all_toList, List.all_eq_true]
  exact fun v hv => Crel_one h v hv

/-! ### Parts -/
/-- How many cells. -/
def sizeP : List CV → Nat
  | [] => 0
  | .bytes n _ :: ps => n + sizeP ps
  | _ :: ps => 1 + sizeP ps
theorem sizeP_ok {m : M} : ∀ {ps : List CV} {l : List Value}, Crel m ps l → l.length = sizeP ps
  | [], l, h => by simp only [Crel] at h; subst h; rfl
  | p :: ps, l, h => by
    rcases Crel_scalar h with ⟨n, x, rfl⟩ | hs
    · obtain ⟨l', rfl, h2⟩ := h
      rw [List.length_append, bytesL_len, sizeP_ok h2]; rfl
    · rw [Crel_cons hs] at h
      obtain ⟨u, l', rfl, _, _, h4⟩ := h
      rw [List.length_cons, sizeP_ok h4]
      cases p <;> first | (cases hs; done) | (show _ = 1 + sizeP ps; omega)

/-- Cell j alone. -/
def getP : List CV → Nat → Option CV
  | [], _ => none
  | .bytes n x :: ps, j => if j < n then some (.int .u8 ((x >>> (8 * j) % 256 : Nat) : Int)) else getP ps (j - n)
  | p :: ps, 0 => if scalar p then some p else none
  | p :: ps, j + 1 => if scalar p then getP ps j else none
theorem getP_ok {m : M} : ∀ {ps : List CV} {l : List Value} {j : Nat} {v : CV}, Crel m ps l → getP ps j = some v → ∃ u, l[j]? = some u ∧ Vrel m v u
  | [], l, j, v, h, hg => by simp [getP] at hg
  | p :: ps, l, j, v, h, hg => by
    rcases Crel_scalar h with ⟨n, x, rfl⟩ | hs
    · obtain ⟨l', rfl, h2⟩ := h
      simp only [getP] at hg
      split at hg
      · rename_i hj
        injection hg with hg; subst hg
        rw [List.getElem?_append_left (by rw [bytesL_len]; exact hj)]
        exact ⟨_, bytesL_get n x j hj, rfl⟩
      · rename_i hj
        rw [List.getElem?_append_right (by rw [bytesL_len]; omega), bytesL_len]
        exact getP_ok h2 hg
    · have hg' : getP (p :: ps) j = match j with | 0 => (if scalar p then some p else none) | j + 1 => (if scalar p then getP ps j else none) := by
        cases p <;> first | (cases hs; done) | (cases j <;> rfl)
      rw [hg'] at hg
      rw [Crel_cons hs] at h
      obtain ⟨u, l', rfl, _, h3, h4⟩ := h
      cases j with
      | zero =>
        simp only [hs, if_true] at hg
        injection hg with hg; subst hg
        exact ⟨u, rfl, h3⟩
      | succ j =>
        simp only [hs, if_true] at hg
        rw [List.getElem?_cons_succ]
        exact getP_ok h4 hg

/-- The first j cells, and the rest. -/
def splitP : List CV → Nat → Option (List CV × List CV)
  | ps, 0 => some ([], ps)
  | [], _ + 1 => none
  | .bytes n x :: ps, j + 1 => if j + 1 < n then some ([.bytes (j + 1) x], .bytes (n - (j + 1)) (x >>> (8 * (j + 1))) :: ps) else match splitP ps (j + 1 - n) with
    | some (a, b) => some (.bytes n x :: a, b)
    | none => none
  | p :: ps, j + 1 => if scalar p then (match splitP ps j with
    | some (a, b) => some (p :: a, b)
    | none => none) else none
theorem splitP_ok {m : M} : ∀ {ps : List CV} {l : List Value} {j : Nat} {a b : List CV}, Crel m ps l → splitP ps j = some (a, b) → ∃ l1 l2, l = l1 ++ l2 ∧ l1.length = j ∧ Crel m a l1 ∧ Crel m b l2
  | ps, l, 0, a, b, h, hg => by
    have hg' : splitP ps 0 = some ([], ps) := by cases ps <;> first | rfl | (rename_i p _; cases p <;> rfl)
    rw [hg'] at hg
    injection hg with hg; injection hg with h1 h2; subst h1 h2
    exact ⟨[], l, rfl, rfl, rfl, h⟩
  | [], l, j + 1, a, b, h, hg => by simp [splitP] at hg
  | p :: ps, l, j + 1, a, b, h, hg => by
    rcases Crel_scalar h with ⟨n, x, rfl⟩ | hs
    · obtain ⟨l', rfl, h2⟩ := h
      simp only [splitP] at hg
      split at hg
      · rename_i hj
        injection hg with hg; injection hg with h3 h4; subst h3 h4
        have e : n = (j + 1) + (n - (j + 1)) := by omega
        refine ⟨bytesL (j + 1) x, bytesL (n - (j + 1)) (x >>> (8 * (j + 1))) ++ l', ?_, bytesL_len _ _, ⟨[], by simp, rfl⟩, ⟨l', rfl, h2⟩⟩
        rw [← List.append_assoc, ← bytesL_split, ← e]
      · rename_i hj
        split at hg
        · rename_i a' b' hs'
          injection hg with hg; injection hg with h3 h4; subst h3 h4
          obtain ⟨l1, l2, rfl, hl, ha, hb⟩ := splitP_ok h2 hs'
          exact ⟨bytesL n x ++ l1, l2, by simp, by rw [List.length_append, bytesL_len, hl]; omega, ⟨l1, rfl, ha⟩, hb⟩
        · cases hg
    · have hg' : splitP (p :: ps) (j + 1) = if scalar p then (match splitP ps j with
          | some (a, b) => some (p :: a, b)
          | none => none) else none := by
        cases p <;> first | (cases hs; done) | rfl
      rw [hg'] at hg
      simp only [hs, if_true] at hg
      rw [Crel_cons hs] at h
      obtain ⟨u, l', rfl, _, h3, h4⟩ := h
      split at hg
      · rename_i a' b' hs'
        injection hg with hg; injection hg with h5 h6; subst h5 h6
        obtain ⟨l1, l2, rfl, hl, ha, hb⟩ := splitP_ok h4 hs'
        exact ⟨u :: l1, l2, rfl, by simp [hl], by rw [Crel_cons hs]; exact ⟨u, l1, rfl, hs, h3, ha⟩, hb⟩
      · cases hg

/-- Parts behind parts; bytes that meet are packed as one. -/
def consP (p : CV) (ps : List CV) : List CV :=
  match p, ps with
  | .bytes n x, .bytes k y :: r => .bytes (n + k) (x % 2 ^ (8 * n) + y <<< (8 * n)) :: r
  | p, ps => p :: ps
theorem pack_two (n k x y : Nat) : bytesL (n + k) (x % 2 ^ (8 * n) + y <<< (8 * n)) = bytesL n x ++ bytesL k y := by
  rw [bytesL_split]
  have h1 : (x % 2 ^ (8 * n) + y <<< (8 * n)) >>> (8 * n) = y := by
    rw [Nat.shiftLeft_eq, Nat.shiftRight_eq_div_pow, Nat.add_mul_div_right _ _ (Nat.two_pow_pos _), Nat.div_eq_of_lt (Nat.mod_lt _ (Nat.two_pow_pos _)), Nat.zero_add]
  rw [h1]
  congr 1
  apply bytesL_eq
  rw [Nat.shiftLeft_eq, Nat.add_mul_mod_self_right, Nat.mod_mod]
theorem consP_ok {m : M} {p : CV} {ps : List CV} {l : List Value} (h : Crel m (p :: ps) l) : Crel m (consP p ps) l := by
  unfold consP
  split
  · obtain ⟨l', rfl, l2, rfl, h2⟩ := h
    exact ⟨l2, by rw [pack_two, List.append_assoc], h2⟩
  · exact h
def appP : List CV → List CV → List CV
  | [], b => b
  | [p], b => consP p b
  | p :: q :: a, b => p :: appP (q :: a) b
theorem appP_ok {m : M} : ∀ {a b : List CV} {l1 l2 : List Value}, Crel m a l1 → Crel m b l2 → Crel m (appP a b) (l1 ++ l2)
  | [], b, l1, l2, h1, h2 => by simp only [Crel] at h1; subst h1; exact h2
  | [p], b, l1, l2, h1, h2 => by
    refine consP_ok ?_
    rcases Crel_scalar h1 with ⟨n, x, rfl⟩ | hs
    · obtain ⟨l', rfl, h⟩ := h1
      simp only [Crel] at h; subst h
      exact ⟨l2, by simp, h2⟩
    · rw [Crel_cons hs] at h1 ⊢
      obtain ⟨v, l', rfl, _, h3, h4⟩ := h1
      simp only [Crel] at h4; subst h4
      exact ⟨v, l2, rfl, hs, h3, h2⟩
  | p :: q :: a, b, l1, l2, h1, h2 => by
    show Crel m (p :: appP (q :: a) b) (l1 ++ l2)
    rcases Crel_scalar h1 with ⟨n, x, rfl⟩ | hs
    · obtain ⟨l', rfl, h⟩ := h1
      exact ⟨l' ++ l2, by simp, appP_ok h h2⟩
    · rw [Crel_cons hs] at h1 ⊢
      obtain ⟨v, l', rfl, _, h3, h4⟩ := h1
      exact ⟨v, l' ++ l2, rfl, hs, h3, appP_ok h4 h2⟩

/-- A value as parts. -/
def toP : CV → Option (List CV)
  | .int .u8 n => if 0 ≤ n ∧ n < 256 then some [.bytes 1 n.toNat] else none
  | .agg ps => some ps
  | v => if scalar v then some [v] else none
theorem toP_ok {m : M} {x : CV} {v : Value} {ps : List CV} (hv : Vrel m x v) (h : toP x = some ps) : Crel m ps v.cells.toList := by
  have sc : scalar x = true → Crel m [x] v.cells.toList := fun hs => by
    rw [(scalar_one hs hv).2, Crel_cons hs]
    exact ⟨v, [], rfl, hs, hv, rfl⟩
  unfold toP at h
  split at h
  · rename_i n
    split at h
    · rename_i hn
      injection h with h; subst h
      simp only [Vrel] at hv; subst hv
      refine ⟨[], ?_, rfl⟩
      have e : ((n.toNat % 256 : Nat) : Int) = n := by omega
      simp [bytesL, Value.cells]; omega
    · cases h
  · injection h with h; subst h
    obtain ⟨c, rfl, hc⟩ := hv
    exact hc
  · split at h
    · rename_i hs
      injection h with h; subst h
      exact sc hs
    · cases h
end Go.Xc
