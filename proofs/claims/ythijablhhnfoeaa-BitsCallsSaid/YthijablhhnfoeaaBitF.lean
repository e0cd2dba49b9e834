/- Bits: clear bits taken one by one and given back. -/
import Derived.Test.YthijablhhnfoeaaBitD
set_option linter.unusedVariables false
set_option linter.unusedSimpArgs false
namespace Go.Vc
open Go.Proofs

theorem cnt_some {c : Array Value} {a : Int} : ∀ {n : Nat}, cnt c a n < n → ∃ j, a ≤ j ∧ j < a + n ∧ hasB c j = false
  | 0, h => by omega
  | n + 1, h => by
    simp only [cnt] at h
    cases hb : hasB c (a + n) with
    | false => exact ⟨a + n, by omega, by omega, hb⟩
    | true =>
      rw [hb, if_pos rfl] at h
      obtain ⟨j, h1, h2, h3⟩ := cnt_some (c := c) (a := a) (n := n) (by omega)
      exact ⟨j, h1, by omega, h3⟩
theorem cnt_all {c : Array Value} {a : Int} : ∀ {n : Nat}, n ≤ cnt c a n → ∀ j, a ≤ j → j < a + n → hasB c j = true
  | 0, _, j, h1, h2 => by omega
  | n + 1, h, j, h1, h2 => by
    simp only [cnt] at h
    have hle := cnt_le c a n
    cases hb : hasB c (a + n) with
    | false => rw [hb] at h; simp at h; omega
    | true =>
      rw [hb, if_pos rfl] at h
      by_cases hj : j = a + n
      · rw [hj]; exact hb
      · exact cnt_all (c := c) (a := a) (n := n) (by omega) j h1 (by omega)
theorem cnt_out {c d : Array Value} {a r : Int} (h : ∀ j, j ≠ r → hasB d j = hasB c j) : ∀ {n : Nat}, (r < a ∨ a + n ≤ r) → cnt d a n = cnt c a n
  | 0, _ => rfl
  | n + 1, hr => by
    simp only [cnt]
    rw [cnt_out h (n := n) (by omega), h (a + n) (by omega)]
theorem cnt_one {c d : Array Value} {a r : Int} (h : ∀ j, j ≠ r → hasB d j = hasB c j) (h1 : hasB d r = true) (h0 : hasB c r = false) : ∀ {n : Nat}, a ≤ r → r < a + n → cnt d a n = cnt c a n + 1
  | 0, h2, h3 => by omega
  | n + 1, h2, h3 => by
    simp only [cnt]
    by_cases hr : r = a + n
    · rw [cnt_out h (n := n) (by omega), ← hr, h1, h0]; simp
    · rw [cnt_one h h1 h0 (n := n) h2 (by omega), h (a + n) (fun e => hr e.symm)]; omega

theorem elemI31 : elemI Try.prog 31 = some ⟨3, 1, 8, #[.int .i64 0]⟩ := by kernel_rfl
theorem rowT : IntRow Try.prog 23 1024 .u8 := ⟨⟨5, by kernel_rfl, by kernel_rfl, by kernel_rfl, by kernel_rfl⟩, by kernel_rfl⟩
theorem und31 : Try.prog.underlying 31 = some (.slice 3) := by kernel_rfl

/-- What the taking has come to. -/
structure Tk (c0 c : Array Value) (f t : Int) (tk : List Int) (last : Int) : Prop where
  isB : IsB c
  bits : ∀ j, hasB c j = (hasB c0 j || decide (j ∈ tk))
  ins : ∀ x ∈ tk, f ≤ x ∧ x < t ∧ hasB c0 x = false
  lo : f - 1 ≤ last
  full : ∀ j, f ≤ j → j ≤ last → hasB c j = true
  count : cntI c f t = cntI c0 f t + tk.length
  nodup : tk.Nodup

theorem Tk.step {c0 c : Array Value} {f t last r : Int} {tk : List Int} (h : Tk c0 c f t tk last) (hf : 0 ≤ f) (ht : t ≤ 8192) (hr : IsFirst c f t r) (hlt : cntI c f t < t - f) :
    last < r ∧ r < t ∧ Tk c0 (setB c r true) f t (tk ++ [r]) r := by
  have e1 : max f 0 = f := by omega
  have e2 : min t 8192 = t := by omega
  have hc : (cntI c f t) = (cnt c f (t - f).toNat : Int) := by unfold cntI; rw [e1, e2]
  rw [hc] at hlt
  obtain ⟨j, hj1, hj2, hj3⟩ := cnt_some (c := c) (a := f) (n := (t - f).toNat) (by omega)
  rcases hr with ⟨rfl, hall⟩ | ⟨r0, r1, r2, r3, r4, hall⟩
  · rw [hall j (by omega) (by omega) hj1 (by omega)] at hj3; cases hj3
  · have hlast : last < r := by
      rcases Int.lt_or_le last r with h1 | h1
      · exact h1
      · rw [h.full r r2 h1] at r4; cases r4
    have hset := fun j => has_setB h.isB r j true
    have hset' : ∀ j, j ≠ r → hasB (setB c r true) j = hasB c j := fun j hj => by rw [hset j, if_neg (fun e => hj e.1.symm)]
    have hsr : hasB (setB c r true) r = true := by rw [hset r, if_pos ⟨rfl, r0, r1⟩]
    have hnr : r ∉ tk := fun hm => by
      have := h.bits r; rw [r4] at this; simp [hm] at this
    refine ⟨hlast, r3, h.isB.setB r true, fun j => ?_, fun x hx => ?_, by omega, fun j h1 h2 => ?_, ?_, ?_⟩
    · by_cases hj : j = r
      · rw [hj, hsr]; simp
      · rw [hset' j hj, h.bits j]; simp [hj]
    · rcases List.mem_append.1 hx with hx | hx
      · exact h.ins x hx
      · rw [List.mem_singleton] at hx; subst hx
        have := h.bits x; rw [r4] at this
        simp only [Bool.false_eq, Bool.or_eq_false_iff] at this
        exact ⟨r2, r3, this.1⟩
    · by_cases hj : j = r
      · rw [hj]; exact hsr
      · rw [hset' j hj]; exact hall j (by omega) (by omega) h1
    · have e3 : cntI (setB c r true) f t = (cnt (setB c r true) f (t - f).toNat : Int) := by unfold cntI; rw [e1, e2]
      have := cnt_one hset' hsr r4 (a := f) (n := (t - f).toNat) r2 (by omega)
      have h5 := h.count
      rw [hc] at h5
      rw [e3, this]
      simp only [List.length_append, List.length_cons, List.length_nil]
      omega
    · rw [List.nodup_append]
      refine ⟨h.nodup, by simp, fun a ha b hb => ?_⟩
      rw [List.mem_singleton] at hb
      subst hb
      exact fun e => hnr (e ▸ ha)

theorem Tk.fin {c0 c : Array Value} {f t last r : Int} {tk : List Int} (h : Tk c0 c f t tk last) (hf : 0 ≤ f) (ht : t ≤ 8192) (hge : t - f ≤ cntI c f t) (hr : IsFirst c f t r) : r = -1 := by
  have e1 : max f 0 = f := by omega
  have e2 : min t 8192 = t := by omega
  have hc : (cntI c f t) = (cnt c f (t - f).toNat : Int) := by unfold cntI; rw [e1, e2]
  rw [hc] at hge
  rcases hr with ⟨rfl, hall⟩ | ⟨r0, r1, r2, r3, r4, hall⟩
  · rfl
  · rw [cnt_all (c := c) (a := f) (n := (t - f).toNat) (by omega) r r2 (by omega)] at r4; cases r4

def vals (l : List Int) : List Value := l.map fun x => .int .i64 x
theorem vals_len (l : List Int) : (vals l).length = l.length := List.length_map ..
theorem vals_get (l : List Int) (k : Nat) : (vals l)[k]? = l[k]?.map fun x => .int .i64 x := by simp [vals]
theorem vals_snoc (l : List Int) (x : Int) : vals (l ++ [x]) = vals l ++ [.int .i64 x] := by simp [vals]

theorem newOne (r : Int) (e : ElemI) (h : e = ⟨3, 1, 8, #[.int .i64 0]⟩) : newSliceE (some e) 1 [(0, .int .i64 r)] = some #[.int .i64 r] := by
  subst h; kernel_rfl
end Go.Vc
