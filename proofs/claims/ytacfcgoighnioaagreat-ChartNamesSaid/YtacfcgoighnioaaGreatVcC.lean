/- Vc, part C: what single operations come to, as plain partial functions on values and heaps, and that the model's operations come to just that. -/
import Derived.Test.YtacfcgoighnioaaGreatVcB
import Derived.Laws.Tables
import Derived.Laws.StructEq
set_option linter.unusedVariables false
set_option linter.unusedSimpArgs false
namespace Go.Vc

/-! ### Heaps -/
def cellH (H : Hp) (a : Addr) : Option Value :=
  match H[a.block]? with
  | some (.cells c _ _) => if a.spot.isSome then none else c[a.off]?
  | _ => none
def rowH (H : Hp) (a : Addr) (n : Nat) : Option (Array Value) :=
  match H[a.block]? with
  | some (.cells c _ _) => if a.spot = none ∧ a.off + n ≤ c.size then some (c.extract a.off (a.off + n)) else none
  | _ => none
/-- The cells of c from off on are the given ones. -/
def splice (c : Array Value) (off : Nat) (vs : Array Value) : Array Value := (c.toList.take off ++ (vs.toList ++ c.toList.drop (off + vs.size))).toArray
theorem splice_get {c : Array Value} {off : Nat} {vs : Array Value} (h : off + vs.size ≤ c.size) (j : Nat) :
    (splice c off vs)[j]? = if j < off then c[j]? else if j < off + vs.size then vs[j - off]? else c[j]? := by
  simp only [splice, List.getElem?_toArray, List.getElem?_append, List.length_take, Array.length_toList, List.getElem?_take, List.getElem?_drop, Array.getElem?_toList]
  have hm : min off c.size = off := by omega
  rw [hm]
  by_cases h1 : j < off
  · simp [h1]
  · by_cases h2 : j < off + vs.size
    · have h3 : j - off < vs.size := by omega
      simp [h1, h2, h3]
    · have h3 : ¬ j - off < vs.size := by omega
      have h4 : off + vs.size + (j - off - vs.size) = j := by omega
      simp [h1, h2, h3, h4]
theorem splice_size {c : Array Value} {off : Nat} {vs : Array Value} (h : off + vs.size ≤ c.size) : (splice c off vs).size = c.size := by
  simp [splice]; omega
def putH (H : Hp) (a : Addr) (vs : Array Value) : Option Hp :=
  match H[a.block]? with
  | some (.cells c T (0, 0)) => if a.spot = none ∧ a.off + vs.size ≤ c.size ∧ (vs.all fun v => v.oneCell') = true then some (H.setIfInBounds a.block (.cells (splice c a.off vs) T (0, 0))) else none
  | _ => none

theorem lt_of_block {H : Hp} {b : Nat} {o : Obj} (hb : H[b]? = some o) : b < H.size := by
  rcases Nat.lt_or_ge b H.size with h | h
  · exact h
  · rw [Array.getElem?_eq_none h] at hb; cases hb

theorem setIf_self {H : Hp} {b : Nat} {o : Obj} (hb : H[b]? = some o) : H.setIfInBounds b o = H := by
  have hlt := lt_of_block hb
  apply Array.ext_getElem?
  intro j
  rw [Array.getElem?_setIfInBounds]
  split
  · rename_i h; subst h; rw [hb]; try simp [hlt]
  · rfl

theorem setIf_twice (H : Hp) (b : Nat) (o o' : Obj) : (H.setIfInBounds b o).setIfInBounds b o' = H.setIfInBounds b o' := by
  apply Array.ext_getElem?
  intro j
  simp only [Array.getElem?_setIfInBounds, Array.size_setIfInBounds]
  split <;> rfl

theorem cell?_eq (w : World) (a : Addr) : w.cell? a = cellH w.heap a := rfl

theorem Addr.add_block (a : Addr) (n : Nat) : (a.add n).block = a.block := by unfold Addr.add; split <;> rfl
theorem Addr.add_off (a : Addr) (n : Nat) : (a.add n).off = a.off + n := by unfold Addr.add; split <;> simp_all
theorem Addr.add_spot (a : Addr) (n : Nat) (h : a.spot = none) : (a.add n).spot = none := by unfold Addr.add; split <;> simp_all
theorem Addr.add_mk (b o n : Nat) : Addr.add ⟨b, o, none⟩ n = ⟨b, o + n, none⟩ := by unfold Addr.add; split <;> simp_all

theorem cellH_row {H : Hp} {a : Addr} {n : Nat} {cs : Array Value} (h : rowH H a n = some cs) : cs.size = n ∧ ∀ j, j < n → cellH H (a.add j) = cs[j]? := by
  unfold rowH at h
  split at h
  · rename_i c T fr hb
    split at h
    · rename_i hc
      injection h with h; subst h
      refine ⟨by simp; omega, fun j hj => ?_⟩
      unfold cellH
      rw [Addr.add_block, hb]
      simp only [Addr.add_off, Addr.add_spot a j hc.1]
      simp [Array.getElem?_extract]
      omega
    · cases h
  · cases h

theorem loadCellsFrom_ok {P : Program} {w : World} {a : Addr} (cs : Array Value) (n : Nat) : ∀ (k i : Nat) (acc : Array Value), i + k = n → (∀ j, j < n → w.cell? (a.add j) = cs[j]?) → cs.size = n →
    (loadCellsFrom a i k acc).run P w = .ok (acc ++ cs.extract i n) w
  | 0, i, acc, hi, _, hs => by
    have : cs.extract i n = #[] := by apply Array.eq_empty_of_size_eq_zero; simp; omega
    simp [loadCellsFrom, this]
  | k + 1, i, acc, hi, hc, hs => by
    have hlt : i < cs.size := by omega
    have h1 := hc i (by omega)
    rw [Array.getElem?_eq_getElem hlt] at h1
    have ih := loadCellsFrom_ok (P := P) cs n k (i + 1) (acc.push cs[i]) (by omega) hc hs
    simp only [loadCellsFrom, Sem.run_bind, run_load, h1, Result.andThen_ok]
    rw [ih]
    congr 1
    apply Array.ext'
    simp [List.extract_eq_take_drop]
    have hd := List.drop_eq_getElem_cons (l := cs.toList) (i := i) (by simpa using hlt)
    rw [hd, show n - i = (n - (i + 1)) + 1 by omega, List.take_succ_cons]
    simp

theorem loadCells_ok {P : Program} {w : World} {a : Addr} {n : Nat} {cs : Array Value} (h : rowH w.heap a n = some cs) : (loadCells a n).run P w = .ok cs w := by
  obtain ⟨hs, hc⟩ := cellH_row h
  unfold loadCells
  rw [loadCellsFrom_ok cs n n 0 #[] (by omega) hc hs]
  simp [← hs]

/-- The loads' kinds: none: one cell; some n: a row of n. -/
def ldK (P : Program) (T : TypeId) : Option (Option Nat) :=
  match P.underlying T with
  | some (.struct _) | some (.array ..) => (P.info? T).map fun i => some i.size
  | some _ => some none
  | none => none

def loadE (k : Option (Option Nat)) (p : Value) (H : Hp) : Option Value :=
  match k, p with
  | some none, .pointer (some a) => cellH H a
  | some (some n), .pointer (some a) => (rowH H a n).map .agg
  | _, _ => none

theorem loadVar_ok {P : Program} {T : TypeId} {a : Addr} {w : World} {v : Value} (h : loadE (ldK P T) (.pointer (some a)) w.heap = some v) : (loadVar T a).run P w = .ok v w := by
  unfold loadVar isAgg underlying
  unfold ldK at h
  cases hu : P.underlying T with
  | none => rw [hu] at h; simp [loadE] at h
  | some d =>
    rw [hu] at h
    have one : ∀ {x : Option Value}, x = some v → w.cell? a = x → (load a).run P w = .ok v w := fun h1 h2 => by simp [h2, h1]
    cases d <;> simp only [loadE] at h <;> first
      | (simp only [Sem.run_bind, run_program, Result.andThen_ok, hu, Sem.run_pure]; simp; rw [cell?_eq, h]; done)
      | (cases hi : P.info? T with
        | none => rw [hi] at h; simp at h
        | some i =>
          rw [hi] at h
          simp only [Option.map_some, Option.map_eq_some_iff] at h
          obtain ⟨cs, h1, rfl⟩ := h
          simp only [Sem.run_bind, run_program, Result.andThen_ok, hu, Sem.run_pure]
          simp [sizeOf, typeInfo, hi, loadCells_ok h1])

/-! ### Stores -/
theorem setCell_heap (w : World) (a : Addr) (v : Value) (c : Array Value) (T : TypeId) (fr : Nat × Nat) (hb : w.heap[a.block]? = some (.cells c T fr)) (hs : a.spot = none) :
    (w.setCell a v).heap = w.heap.setIfInBounds a.block (.cells (c.setIfInBounds a.off v) T fr) := by
  have hlt := lt_of_block hb
  apply Array.ext_getElem?
  intro j
  simp only [World.setCell, Array.getElem?_modify, Array.getElem?_setIfInBounds]
  by_cases hi : a.block = j
  · subst hi; rw [hb]; simp [hs, hlt]
  · simp [hi]

theorem storeCells_ok {P : Program} (a : Addr) (T : TypeId) (hsp : a.spot = none) : ∀ (vs : List Value) (i : Nat) (c : Array Value) (w : World), w.heap[a.block]? = some (.cells c T (0, 0)) → a.off + i + vs.length ≤ c.size →
    (∀ v ∈ vs, v.oneCell' = true) → ∃ w', (storeCells a vs i).run P w = .ok () w' ∧ Sm w w' ∧ w'.heap = w.heap.setIfInBounds a.block (.cells (splice c (a.off + i) vs.toArray) T (0, 0))
  | [], i, c, w, hb, hl, _ => by
    refine ⟨w, by simp [storeCells], Sm.refl w, ?_⟩
    have hsp2 : splice c (a.off + i) (List.toArray []) = c := by
      apply Array.ext_getElem?; intro j
      rw [splice_get (by simpa using hl)]
      simp
      intro h1 h2; omega
    rw [hsp2, setIf_self hb]
  | v :: vs, i, c, w, hb, hl, hv => by
    have hc : w.cell? (a.add i) = c[a.off + i]? := by
      simp only [World.cell?, Addr.add_block, hb, Addr.add_spot a i hsp, Addr.add_off]; simp
    simp only [List.length_cons] at hl
    have hlt : a.off + i < c.size := by omega
    rw [Array.getElem?_eq_getElem hlt] at hc
    have hf : w.frozen? (a.add i) = false := by simp [World.frozen?, Addr.add_block, hb]
    have hheap := setCell_heap w (a.add i) v c T (0, 0) (by rw [Addr.add_block]; exact hb) (Addr.add_spot a i hsp)
    rw [Addr.add_block, Addr.add_off] at hheap
    have hblt := lt_of_block hb
    have hb' : (w.setCell (a.add i) v).heap[a.block]? = some (.cells (c.setIfInBounds (a.off + i) v) T (0, 0)) := by
      rw [hheap, Array.getElem?_setIfInBounds]; simp [hblt]
    obtain ⟨w', h1, h2, h3⟩ := storeCells_ok (P := P) a T hsp vs (i + 1) (c.setIfInBounds (a.off + i) v) (w.setCell (a.add i) v) hb' (by simp; omega) (fun u hu => hv u (List.mem_cons_of_mem _ hu))
    refine ⟨w', ?_, ⟨h2.os, h2.out, h2.tape⟩, ?_⟩
    · rw [storeCells, Sem.run_bind]
      have := run_store P w (a.add i) v .plain (hv v List.mem_cons_self)
      rw [this]
      simp [hc, hf, h1]
    · rw [h3, hheap, setIf_twice]
      congr 2
      apply Array.ext_getElem?; intro j
      rw [splice_get (by simp; omega), splice_get (by simp; omega)]
      simp only [Array.getElem?_setIfInBounds, List.size_toArray, List.length_cons, List.getElem?_toArray]
      by_cases h1 : j < a.off + i
      · have : j < a.off + (i + 1) := by omega
        have h3 : a.off + i ≠ j := by omega
        simp [h1, this, h3]
      · by_cases h2 : j = a.off + i
        · subst h2
          have h4 : a.off + i < a.off + (i + 1) := by omega
          simp [h4, hlt]
        · have h3 : ¬ j < a.off + (i + 1) := by omega
          have h4 : a.off + i ≠ j := by omega
          by_cases h5 : j < a.off + (i + 1) + vs.length
          · have h6 : j < a.off + i + (vs.length + 1) := by omega
            have h7 : j - (a.off + i) = (j - (a.off + (i + 1))) + 1 := by omega
            simp [h1, h3, h5, h6, h7]
          · have h6 : ¬ j < a.off + i + (vs.length + 1) := by omega
            simp [h1, h3, h4, h5, h6]
end Go.Vc
