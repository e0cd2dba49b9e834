/- Bits: a block and an Ask as arguments, opened. -/
import Derived.Test.YthijablhhnfoeaaRows
import Derived.Test.YthijablhhnfoeaaBitB
import Derived.Test.YthijablhhnfoeaaVcK
set_option linter.unusedVariables false
set_option linter.unusedSimpArgs false
namespace Go.Proofs.Ythijablhhnfoeaa
open Go.Vc

theorem own : ownKnob Try.prog.godebug = none := by kernel_rfl
theorem laidOut : laidOutB Try.prog = true := by kernel_rfl
theorem und4 : Try.prog.underlying 4 = some .bool := by kernel_rfl

theorem blockTs : Try.prog.cellTypes Try.prog.depth 23 = some (List.replicate 1024 5) := by kernel_rfl
theorem blockCells : Try.prog.cellsOf 23 = 1024 := by kernel_rfl
theorem blockLen : (List.replicate 1024 (5 : TypeId)).length = 1024 := List.length_replicate ..
theorem askTs : Try.prog.cellTypes Try.prog.depth 25 = some [3, 3, 4, 3, 3, 3] := by kernel_rfl
theorem askCells : Try.prog.cellsOf 25 = 6 := by kernel_rfl
theorem und3 : Try.prog.underlying 3 = some (.int .i64) := by kernel_rfl
theorem und5 : Try.prog.underlying 5 = some (.int .u8) := by kernel_rfl

theorem open_block {W : World} {base : Nat} {v : Value} (h : Value.okWide Try.prog W .any base 23 v) : ∃ c, v = .agg c ∧ IsB c := by
  obtain ⟨c, rfl, hsz, hc⟩ := cells_of Try.underlying23 rfl blockCells blockTs blockLen h
  refine ⟨c, rfl, hsz, fun i hi => ?_⟩
  obtain ⟨x, hx, hok⟩ := hc i 5 (by rw [List.getElem?_replicate, if_pos hi])
  obtain ⟨n, rfl, h1, h2⟩ := cell_int und5 hok
  rw [min_u8] at h1
  rw [max_u8] at h2
  obtain ⟨m, rfl⟩ := Int.eq_ofNat_of_zero_le h1
  exact ⟨m, by omega, hx⟩

theorem open_ask {W : World} {base : Nat} {v : Value} (h : Value.okWide Try.prog W .any base 25 v) : ∃ i j on f m t, v = .agg (askC i j on f m t) ∧ fit64 i ∧ fit64 j ∧ fit64 f ∧ fit64 m ∧ fit64 t := by
  obtain ⟨c, rfl, hsz, hc⟩ := cells_of Try.underlying25 rfl askCells askTs rfl h
  obtain ⟨x0, g0, k0⟩ := hc 0 3 rfl
  obtain ⟨x1, g1, k1⟩ := hc 1 3 rfl
  obtain ⟨x2, g2, k2⟩ := hc 2 4 rfl
  obtain ⟨x3, g3, k3⟩ := hc 3 3 rfl
  obtain ⟨x4, g4, k4⟩ := hc 4 3 rfl
  obtain ⟨x5, g5, k5⟩ := hc 5 3 rfl
  obtain ⟨i, rfl, hi⟩ := cell_int und3 k0
  obtain ⟨j, rfl, hj⟩ := cell_int und3 k1
  obtain ⟨on, rfl⟩ := cell_bool und4 k2
  obtain ⟨f, rfl, hf⟩ := cell_int und3 k3
  obtain ⟨m, rfl, hm⟩ := cell_int und3 k4
  obtain ⟨t, rfl, ht⟩ := cell_int und3 k5
  rw [min_i64, max_i64] at hi hj hf hm ht
  refine ⟨i, j, on, f, m, t, ?_, hi, hj, hf, hm, ht⟩
  congr 1
  apply Array.ext_getElem?
  intro q
  match q with
  | 0 => exact g0
  | 1 => exact g1
  | 2 => exact g2
  | 3 => exact g3
  | 4 => exact g4
  | 5 => exact g5
  | q + 6 => rw [Array.getElem?_eq_none (by omega), Array.getElem?_eq_none (by simp [askC])]

def zeroArgs : Array Value := #[.agg (Array.replicate 1024 (.int .u8 0)), .agg #[.int .i64 0, .int .i64 0, .bool false, .int .i64 0, .int .i64 0, .int .i64 0]]

theorem two_args {ts : List TypeId} {H : Type} {enc : TypeId × Value → H} {W : World} {b : Nat} {sp : Nat → Bool} {hd : Bool} {args : Array Value} {ds : List (DataW H)} {ps : List MemPlace} {t u : TypeId}
    (h : DataW.TrodAll enc Try.prog W b sp hd [t, u] args.toList ds ps) : ∃ v w, args = #[v, w] := by
  obtain ⟨l⟩ := args
  match l, ds, h with
  | [v, w], _, _ => exact ⟨v, w, rfl⟩
  | [_], [], h => exact h.elim
  | [_], _ :: _, h => obtain ⟨_, _, _, h, _⟩ := h; simp [DataW.TrodAll] at h
  | _ :: _ :: _ :: _, [], h => exact h.elim
  | _ :: _ :: _ :: _, [_], h => obtain ⟨_, _, _, h, _⟩ := h; simp [DataW.TrodAll] at h
  | _ :: _ :: _ :: _, _ :: _ :: _, h => obtain ⟨_, _, _, ⟨_, _, _, h, _⟩, _⟩ := h; simp [DataW.TrodAll] at h

theorem zero_ok (W : World) (base j : Nat) (t : TypeId) (v : Value) (ht : (#[23, 25] : Array TypeId)[j]? = some t) (hv : zeroArgs[j]? = some v) : Value.okWide Try.prog W .any base t v := by
  match j, ht, hv with
  | 0, ht, hv =>
    injection ht with ht; injection hv with hv; subst ht hv
    refine okWide_cells Try.underlying23 rfl blockCells blockTs blockLen isB_zero.size fun i u hu => ?_
    rw [List.getElem?_replicate] at hu
    split at hu
    · rename_i hi
      injection hu with hu; subst hu
      exact ⟨.int .u8 0, by rw [Array.getElem?_replicate, if_pos hi], cell_int_ok und5 (by decide) (by decide)⟩
    · cases hu
  | 1, ht, hv =>
    injection ht with ht; injection hv with hv; subst ht hv
    refine okWide_cells Try.underlying25 rfl askCells askTs rfl rfl fun i u hu => ?_
    match i, hu with
    | 0, hu => injection hu with hu; subst hu; exact ⟨_, rfl, cell_int_ok und3 (by decide) (by decide)⟩
    | 1, hu => injection hu with hu; subst hu; exact ⟨_, rfl, cell_int_ok und3 (by decide) (by decide)⟩
    | 2, hu => injection hu with hu; subst hu; exact ⟨_, rfl, cell_bool_ok und4⟩
    | 3, hu => injection hu with hu; subst hu; exact ⟨_, rfl, cell_int_ok und3 (by decide) (by decide)⟩
    | 4, hu => injection hu with hu; subst hu; exact ⟨_, rfl, cell_int_ok und3 (by decide) (by decide)⟩
    | 5, hu => injection hu with hu; subst hu; exact ⟨_, rfl, cell_int_ok und3 (by decide) (by decide)⟩
end Go.Proofs.Ythijablhhnfoeaa
