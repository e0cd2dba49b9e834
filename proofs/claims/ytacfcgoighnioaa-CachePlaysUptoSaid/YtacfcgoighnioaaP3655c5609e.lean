/- Parts of a proof, joined in build order: a calculus of contracts, an executor, contracts of functions. -/
import Derived.Test.YtacfcgoighnioaaP487d9a41f5
import Derived.ChangeArms
import Derived.Test.YtacfcgoighnioaaProg
import Derived.Test.YtacfcgoighnioaaP4e46f7c441
/- Vc, part T: slices that are only read: of an argument, as the row's reading lays it open. -/
set_option linter.unusedVariables false
set_option linter.unusedSimpArgs false
namespace Go.Vc

theorem rowH_size {H : Hp} {a : Addr} {n : Nat} {c : Array Value} (h : rowH H a n = some c) : c.size = n := (cellH_row h).1
theorem rowH_load {H : Hp} {b o n : Nat} {c : Array Value} (h : rowH H ⟨b, o, none⟩ n = some c) : loadE (some (some n)) (.pointer (some ⟨b, o, none⟩)) H = some (.agg c) := by
  simp only [loadE, h, Option.map_some]
theorem rowH_cell {H : Hp} {b o n : Nat} {c : Array Value} (h : rowH H ⟨b, o, none⟩ n = some c) {j : Nat} (hj : j < n) : loadE (some none) (.pointer (some ⟨b, o + j, none⟩)) H = c[j]? := by
  have := (cellH_row h).2 j hj
  rw [Addr.add_mk] at this
  exact this

/-- A slice that is read: of each place its cells. -/
structure Sr (n : Nat) (H : Hp) (s : Value) (vs : List (Array Value)) : Prop where
  is : ∃ (base : Option Addr) (cap : Nat), s = .slice base vs.length cap ∧ vs.length ≤ cap ∧ (vs ≠ [] → ∃ b o, base = some ⟨b, o, none⟩ ∧ ∀ i v, vs[i]? = some v → rowH H ⟨b, o + i * n, none⟩ n = some v)
section
variable {T n : Nat} {H H' : Hp} {s : Value} {vs : List (Array Value)}
theorem Sr.nil (n : Nat) (H : Hp) : Sr n H (.slice none 0 0) [] := ⟨none, 0, rfl, Nat.le_refl _, fun h => absurd rfl h⟩
theorem Sr.ext (h : Sr n H s vs) (hx : Ext H H') : Sr n H' s vs := by
  obtain ⟨base, cap, rfl, hle, h⟩ := h
  refine ⟨base, cap, rfl, hle, fun hne => ?_⟩
  obtain ⟨b, o, rfl, h2⟩ := h hne
  exact ⟨b, o, rfl, fun i v hi => rowH_ext hx (h2 i v hi)⟩
theorem Sr.len (h : Sr n H s vs) : ∃ b c, s = .slice b vs.length c := by
  obtain ⟨base, cap, rfl, _⟩ := h; exact ⟨base, cap, rfl⟩
theorem Sr.lenE {P : Program} {S : TypeId} {e : TypeId} (h : Sr n H s vs) (hu : P.underlying S = some (.slice e)) : lenE P S s = some (.int .i64 vs.length) := by
  obtain ⟨b, c, rfl⟩ := h.len; exact len_slice hu
theorem Sr.elem (h : Sr n H s vs) {i : Nat} {v : Array Value} (hi : vs[i]? = some v) : ∃ b o, rowH H ⟨b, o, none⟩ n = some v ∧ ∀ k, idxAddrE (some (none, n)) s (.int k i) = some (.pointer (some ⟨b, o, none⟩)) := by
  obtain ⟨base, cap, rfl, hle, h⟩ := h
  have hlt : i < vs.length := by
    rcases Nat.lt_or_ge i vs.length with h1 | h1
    · exact h1
    · rw [List.getElem?_eq_none h1] at hi; cases hi
  obtain ⟨b, o, rfl, h2⟩ := h fun e => by subst e; simp at hlt
  refine ⟨b, o + i * n, h2 i v hi, fun k => ?_⟩
  have := @idx_slc vs.length cap n b o k i (by omega) (by omega)
  simpa using this
theorem Sr.cell (h : Sr n H s vs) {i j : Nat} {v : Array Value} (hi : vs[i]? = some v) (hj : j < n) : ∃ b o, (∀ k, idxAddrE (some (none, n)) s (.int k i) = some (.pointer (some ⟨b, o, none⟩))) ∧ loadE (some none) (.pointer (some ⟨b, o + j, none⟩)) H = v[j]? := by
  obtain ⟨b, o, hr, ha⟩ := h.elem hi
  exact ⟨b, o, ha, rowH_cell hr hj⟩
theorem Sr.row (h : Sr n H s vs) {i : Nat} {v : Array Value} (hi : vs[i]? = some v) : ∃ b o, (∀ k, idxAddrE (some (none, n)) s (.int k i) = some (.pointer (some ⟨b, o, none⟩))) ∧ loadE (some (some n)) (.pointer (some ⟨b, o, none⟩)) H = some (.agg v) := by
  obtain ⟨b, o, hr, ha⟩ := h.elem hi
  exact ⟨b, o, ha, rowH_load hr⟩
theorem Sr.size (h : Sr n H s vs) {i : Nat} {v : Array Value} (hi : vs[i]? = some v) : v.size = n := by
  obtain ⟨b, o, hr, _⟩ := h.elem hi; exact rowH_size hr
theorem Sv.sr (h : Sv T n H s vs) : Sr n H s vs := by
  obtain ⟨base, cap, rfl, hle, hn, h⟩ := h
  refine ⟨base, cap, rfl, hle, fun hne => ?_⟩
  have hpos : 0 < vs.length := List.length_pos_iff.2 hne
  cases base with
  | none => simp only at h; omega
  | some a =>
    obtain ⟨hsp, cs, hg, hsz, h⟩ := h
    obtain ⟨blk, off, sp⟩ := a
    simp only at hsp hg hsz h
    subst hsp
    refine ⟨blk, off, rfl, fun i v hi => ?_⟩
    have hlt : i < vs.length := by
      rcases Nat.lt_or_ge i vs.length with h1 | h1
      · exact h1
      · rw [List.getElem?_eq_none h1] at hi; cases hi
    have hm : (i + 1) * n ≤ cap * n := Nat.mul_le_mul_right n (by omega)
    rw [Nat.add_mul, Nat.one_mul] at hm
    unfold rowH
    simp only [hg]
    rw [if_pos ⟨trivial, by omega⟩, h i v hi]
end

/-! ### What the row's reading says of a slice -/
theorem mapM_cells {H : Hp} {a : Addr} : ∀ (l : List Nat) (r : List Value), (l.mapM fun i => cellH H (a.add i)) = some r → r.length = l.length ∧ ∀ k i : Nat, l[k]? = some i → cellH H (a.add i) = r[k]? := by
  intro l
  induction l with
  | nil => intro r h; simp only [List.mapM_nil] at h; injection h with h; subst h; exact ⟨rfl, fun k i hk => by simp at hk⟩
  | cons x l ih =>
    intro r h
    rw [List.mapM_cons] at h
    cases hc : cellH H (a.add x) with
    | none => rw [hc] at h; cases h
    | some v =>
      rw [hc] at h
      cases hm : (l.mapM fun i => cellH H (a.add i)) with
      | none => rw [hm] at h; cases h
      | some r' =>
        rw [hm] at h
        injection h with h
        subst h
        obtain ⟨h1, h2⟩ := ih r' hm
        refine ⟨by simp [h1], fun k i hk => ?_⟩
        cases k with
        | zero => simp only [List.getElem?_cons_zero, Option.some.injEq] at hk; subst hk; simpa using hc
        | succ k => simp only [List.getElem?_cons_succ] at hk ⊢; exact h2 k i hk
theorem add_zero (a : Addr) : a.add 0 = a := by unfold Addr.add; rw [if_pos rfl]
theorem cells_row {w : World} {a : Addr} {n : Nat} {r : List Value} (hn : 0 < n) (h : w.cells? 0 a n = some r) : a.spot = none ∧ rowH w.heap a n = some r.toArray := by
  unfold World.cells? at h
  rw [if_pos (Nat.zero_le _)] at h
  obtain ⟨hl, hg⟩ := mapM_cells (H := w.heap) (a := a) (List.range n) r h
  rw [List.length_range] at hl
  have hat : ∀ k, k < n → cellH w.heap (a.add k) = r[k]? := fun k hk => hg k k (by rw [List.getElem?_range hk])
  have hsome : ∀ k, k < n → ∃ v, cellH w.heap (a.add k) = some v := fun k hk => by
    rw [hat k hk]; exact ⟨r[k]'(by omega), List.getElem?_eq_getElem (by omega)⟩
  have hsp : a.spot = none := by
    obtain ⟨v, hv⟩ := hsome 0 hn
    rw [add_zero] at hv
    unfold cellH at hv
    split at hv
    · split at hv
      · cases hv
      · rename_i h1; simpa using h1
    · cases hv
  refine ⟨hsp, ?_⟩
  obtain ⟨b, o, sp⟩ := a
  simp only at hsp
  subst hsp
  simp only [Addr.add_mk] at hat hsome
  have key : ∃ c T z, w.heap[b]? = some (.cells c T z) ∧ ∀ k, k < n → c[o + k]? = r[k]? := by
    obtain ⟨v, hv⟩ := hsome 0 hn
    unfold cellH at hv
    split at hv
    · rename_i c T z hb
      refine ⟨c, T, z, hb, fun k hk => ?_⟩
      rw [← hat k hk]
      unfold cellH
      simp only [hb]
      simp
    · cases hv
  obtain ⟨c, T, z, hb, hc⟩ := key
  have hsz : o + n ≤ c.size := by
    have h1 := hc (n - 1) (by omega)
    rw [List.getElem?_eq_getElem (show n - 1 < r.length by omega)] at h1
    rcases Nat.lt_or_ge (o + (n - 1)) c.size with h2 | h2
    · omega
    · rw [Array.getElem?_eq_none h2] at h1; cases h1
  unfold rowH
  simp only [hb]
  rw [if_pos ⟨trivial, hsz⟩]
  congr 1
  refine ext_of_get (by simpa using hl) hsz fun j hj => ?_
  rw [hc j hj]; simp

theorem trod_sr {K : Type} {enc : TypeId × Value → K} {P : Program} {w : World} {sp : Nat → Bool} {hd : Bool} {fuel n : Nat} {t e : TypeId} {s : Value} {x : DataW K × List MemPlace} (ht : P.underlying t = some (.slice e)) (hn : P.cellsOf e = n) (hp : 0 < n)
    (h : DataW.trod enc P w 0 sp hd fuel t [s] = some x) :
    ∃ (vs : List (Array Value)) (m : Nat) (ds : List (DataW K × List MemPlace)), Sr n w.heap s vs ∧ ds.length = vs.length ∧ (∀ (i : Nat) (v : Array Value), vs[i]? = some v → DataW.trod enc P w 0 sp hd m e v.toList = ds[i]?) ∧ vs.length ≤ maxLen ∧ (vs = [] ∧ ds = [] ∨ ∃ r, x.1 = .slice (ds.map (·.1)) r) := by
  rcases DataW.trod_slice ht h with ⟨h1, h2⟩ | ⟨a, len, cap, elems, rest, m, hf, hcs, hx, hb, hle, hcap, hel, hat, _⟩
  · injection h1 with h1; subst h1
    exact ⟨[], 0, [], Sr.nil n _, rfl, fun i v hi => by simp at hi, Nat.zero_le _, .inl ⟨rfl, rfl⟩⟩
  · injection hcs with hcs; subst hcs
    rw [hn] at hat
    have hsome : ∀ i, i < len → ∃ r, w.cells? 0 (a.add (i * n)) n = some r ∧ DataW.trod enc P w 0 sp hd m e r = elems[i]? := fun i hi => by
      have h1 := hat i hi
      rw [List.getElem?_eq_getElem (show i < elems.length by omega)] at h1 ⊢
      cases hc : w.cells? 0 (a.add (i * n)) n with
      | none => rw [hc] at h1; cases h1
      | some r => rw [hc] at h1; exact ⟨r, rfl, h1⟩
    refine ⟨(List.range len).map fun i => ((w.cells? 0 (a.add (i * n)) n).getD []).toArray, m, elems, ⟨some a, cap, by simp, by simpa using hle, fun hne => ?_⟩, by simpa using hel, fun i v hi => ?_, by simp; omega, .inr ⟨_, by rw [hx]⟩⟩
    · have hpos : 0 < len := by
        rcases Nat.eq_zero_or_pos len with h0 | h0
        · subst h0; exact absurd rfl hne
        · exact h0
      obtain ⟨r0, hr0, _⟩ := hsome 0 hpos
      rw [Nat.zero_mul, add_zero] at hr0
      have hsp := (cells_row hp hr0).1
      obtain ⟨b, o, s2⟩ := a
      simp only at hsp
      subst hsp
      refine ⟨b, o, rfl, fun i v hi => ?_⟩
      rw [List.getElem?_map] at hi
      cases hri : (List.range len)[i]? with
      | none => rw [hri] at hi; cases hi
      | some j =>
        rw [hri] at hi
        have hil : i < len := by
          rcases Nat.lt_or_ge i len with h1 | h1
          · exact h1
          · rw [List.getElem?_eq_none (by simpa using h1)] at hri; cases hri
        rw [List.getElem?_range hil] at hri
        injection hri with hri; subst hri
        obtain ⟨r, hr, _⟩ := hsome i hil
        simp only [Option.map_some, hr, Option.getD_some] at hi
        injection hi with hi; subst hi
        have := (cells_row hp hr).2
        rw [Addr.add_mk] at this
        exact this
    · rw [List.getElem?_map] at hi
      cases hri : (List.range len)[i]? with
      | none => rw [hri] at hi; cases hi
      | some j =>
        rw [hri] at hi
        have hil : i < len := by
          rcases Nat.lt_or_ge i len with h1 | h1
          · exact h1
          · rw [List.getElem?_eq_none (by simpa using h1)] at hri; cases hri
        rw [List.getElem?_range hil] at hri
        injection hri with hri; subst hri
        obtain ⟨r, hr, ht2⟩ := hsome i hil
        simp only [Option.map_some, hr, Option.getD_some] at hi
        injection hi with hi; subst hi
        simpa using ht2
end Go.Vc

/- The conditions of functions' bodies, in words, each tied to the program. -/
set_option linter.unusedVariables false
set_option linter.unusedSimpArgs false
namespace Go.Proofs
open Go.Vc

/- (*undercroft/disk.Disk).keep -/
def sh40 (v0 v1 : Value) (H : Hp) (R : Value → Hp → Prop) : Prop :=
 Box 74 v1 H fun x1 H1 =>
 Pu (addrE (some 1) x1) fun x2 =>
 Pu (loadE (some (some 1024)) x2 H1) fun x3 =>
 Pu (buildE Try.prog 51 []) fun x4 =>
 Pu (eqXE Try.prog 51 false .eql x3 x4 H1) fun x5 =>
 Ite x5
  (Pu (nilCheckE v0) fun x6 =>
  Pu (addrE (some 1) x6) fun x7 =>
  Pu (loadE (some none) x7 H1) fun x8 =>
  Pu (addrE (some 0) x1) fun x9 =>
  Pu (loadE (some none) x9 H1) fun x10 =>
  Pu (mapDelE (some (3, .int .i64, 51)) x8 x10 H1) fun H2 =>
  R (.tuple #[]) H2)
  (Pu (nilCheckE v0) fun x11 =>
  Pu (addrE (some 1) x11) fun x12 =>
  Pu (loadE (some none) x12 H1) fun x13 =>
  Pu (addrE (some 0) x1) fun x14 =>
  Pu (loadE (some none) x14 H1) fun x15 =>
  Pu (addrE (some 1) x1) fun x16 =>
  Pu (loadE (some (some 1024)) x16 H1) fun x17 =>
  Pu (mapSetE (some (3, .int .i64, 51)) x13 x15 x17 H1) fun H3 =>
  R (.tuple #[]) H3)
set_option maxRecDepth 100000 in
theorem fn40 {v0 v1 : Value} {H : Hp} {R : Value → Hp → Prop} (h : sh40 v0 v1 H R) : Fc Try.prog 40 #[v0, v1] H R :=
  fn_of_vc (fun f => [].contains f) .nil Try.func40 (args := [v0, v1]) (Eq.mp (by kernel_rfl : sh40 v0 v1 H R = VcFn Try.prog (fun f => [].contains f) Try.f40 .nil [v0, v1] H R) h)

/- (*undercroft/disk.Disk).Barrier -/
def sh13 (v0 : Value) (H : Hp) (R : Value → Hp → Prop) : Prop :=
 Fc Try.prog 38 #[v0] H fun x1 H1 =>
 Pu (binE (some (.int .i64)) .neq x1 (.int .i64 0)) fun x2 =>
 Ite x2
  (R x1 H1)
  (Fc Try.prog 39 #[v0] H1 fun x3 H2 =>
  Pu (unE .not x3) fun x4 =>
  Ite x4
   (R (.int .i64 3) H2)
   (Pu (nilCheckE v0) fun x5 =>
   Pu (addrE (some 3) x5) fun x6 =>
   Pu (loadE (some none) x6 H2) fun x7 =>
   Pu (lenE Try.prog 70 x7) fun x8 =>
   LoopP (n := 1) ((.int .i64 0), ()) H2 (fun K9 s8 H3 => Any fun _ =>
    Pu (binE (some (.int .i64)) .lss s8.1 x8) fun x11 =>
    Ite x11
     (Pu (idxAddrE (some (none, 1025)) x7 s8.1) fun x12 =>
     Pu (loadE (some (some 1025)) x12 H3) fun x13 =>
     Pu (zeroE Try.prog 74) fun x14 => Box 74 x14 H3 fun x15 H4 =>
     Pu (storeE (some 1025) x15 x13 H4) fun H5 =>
     Pu (loadE (some (some 1025)) x15 H5) fun x16 =>
     Fc Try.prog 40 #[v0, x16] H5 fun x17 H6 =>
     Pu (binE (some (.int .i64)) .add s8.1 (.int .i64 1)) fun x18 =>
     K9 (x18, ()) H6)
     (Pu (nilCheckE v0) fun x19 =>
     Pu (addrE (some 3) x19) fun x20 =>
     Pu (storeE (some 1) x20 (.slice none 0 0) H3) fun H7 =>
     Pu (nilCheckE v0) fun x21 =>
     Pu (addrE (some 2) x21) fun x22 =>
     Pu (loadE (some none) x22 H7) fun x23 =>
     Pu (mapClrE x23 H7) fun H8 =>
     Pu (nilCheckE v0) fun x24 =>
     Pu (addrE (some 4) x24) fun x25 =>
     Pu (loadE (some none) x25 H8) fun x26 =>
     Pu (buildE Try.prog 96 [(0, (.int .u8 2))]) fun x27 =>
     Pu (elemI Try.prog 90) fun x28 => Pu (newSliceE (some x28) 1 [(0, x27)]) fun x29 => NewS x28.type 1 x29 H8 fun x30 H9 =>
     AppS (elemI Try.prog 90) x26 x30 H9 fun x31 H10 =>
     Pu (nilCheckE v0) fun x32 =>
     Pu (addrE (some 4) x32) fun x33 =>
     Pu (storeE (some 1) x33 x31 H10) fun H11 =>
     R (.int .i64 0) H11))))
set_option maxRecDepth 100000 in
theorem fn13 {v0 : Value} {H : Hp} {R : Value → Hp → Prop} (h : sh13 v0 H R) : Fc Try.prog 13 #[v0] H R :=
  fn_of_vc (fun f => [].contains f) (.seq .nil (.seq .nil (.seq .nil (.seq (.seq .nil (.loop [19] [20, 21, 22, 5, 23, 24, 25, 26] .nil)) .nil)))) Try.func13 (args := [v0]) (Eq.mp (by kernel_rfl : sh13 v0 H R = VcFn Try.prog (fun f => [].contains f) Try.f13 (.seq .nil (.seq .nil (.seq .nil (.seq (.seq .nil (.loop [19] [20, 21, 22, 5, 23, 24, 25, 26] .nil)) .nil)))) [v0] H R) h)

/- (*undercroft/disk.Disk).Fuse -/
def sh11 (v0 v1 : Value) (H : Hp) (R : Value → Hp → Prop) : Prop :=
 Fc Try.prog 38 #[v0] H fun x1 H1 =>
 Pu (binE (some (.int .i64)) .eql x1 (.int .i64 0)) fun x2 =>
 Ite x2
  (Pu (maxE v1 (.int .i64 (-1))) fun x3 =>
  Pu (nilCheckE v0) fun x4 =>
  Pu (addrE (some 5) x4) fun x5 =>
  Pu (storeE (some 1) x5 x3 H1) fun H2 =>
  R (.tuple #[]) H2)
  (R (.tuple #[]) H1)
set_option maxRecDepth 100000 in
theorem fn11 {v0 v1 : Value} {H : Hp} {R : Value → Hp → Prop} (h : sh11 v0 v1 H R) : Fc Try.prog 11 #[v0, v1] H R :=
  fn_of_vc (fun f => [].contains f) .nil Try.func11 (args := [v0, v1]) (Eq.mp (by kernel_rfl : sh11 v0 v1 H R = VcFn Try.prog (fun f => [].contains f) Try.f11 .nil [v0, v1] H R) h)

/- (*undercroft/disk.Disk).Crash -/
def sh23 (v0 v1 : Value) (H : Hp) (R : Value → Hp → Prop) : Prop :=
 Fc Try.prog 46 #[v0] H fun x1 H1 =>
 Pu (unE .not x1) fun x2 =>
 Ite x2
  (R (.int .i64 1) H1)
  (Pu (nilCheckE v0) fun x3 =>
  Pu (addrE (some 3) x3) fun x4 =>
  Pu (loadE (some none) x4 H1) fun x5 =>
  Pu (lenE Try.prog 70 x5) fun x6 =>
  LoopP (n := 1) ((.int .i64 0), ()) H1 (fun K7 s6 H2 => Any fun _ =>
   Pu (binE (some (.int .i64)) .lss s6.1 x6) fun x9 =>
   Ite x9
    (Pu (idxAddrE (some (none, 1025)) x5 s6.1) fun x10 =>
    Pu (loadE (some (some 1025)) x10 H2) fun x11 =>
    Pu (zeroE Try.prog 74) fun x12 => Box 74 x12 H2 fun x13 H3 =>
    Pu (storeE (some 1025) x13 x11 H3) fun H4 =>
    Join (n := 1) (fun s13 H5 => Any fun _ =>
     Ite s13.1
      (Pu (loadE (some (some 1025)) x13 H5) fun x16 =>
      Fc Try.prog 40 #[v0, x16] H5 fun x17 H6 =>
      Pu (binE (some (.int .i64)) .add s6.1 (.int .i64 1)) fun x18 =>
      K7 (x18, ()) H6)
      (Pu (binE (some (.int .i64)) .add s6.1 (.int .i64 1)) fun x19 =>
      K7 (x19, ()) H5))
    (fun K19 => Pu (lenE Try.prog 99 v1) fun x21 =>
    Pu (binE (some (.int .i64)) .lss s6.1 x21) fun x22 =>
    Ite x22
     (Pu (idxAddrE (some (none, 1)) v1 s6.1) fun x23 =>
     Pu (loadE (some none) x23 H4) fun x24 =>
     K19 (x24, ()) H4)
     (K19 ((.bool false), ()) H4)))
    (Pu (nilCheckE v0) fun x25 =>
    Pu (addrE (some 3) x25) fun x26 =>
    Pu (storeE (some 1) x26 (.slice none 0 0) H2) fun H7 =>
    Pu (nilCheckE v0) fun x27 =>
    Pu (addrE (some 4) x27) fun x28 =>
    Pu (storeE (some 1) x28 (.slice none 0 0) H7) fun H8 =>
    Pu (nilCheckE v0) fun x29 =>
    Pu (addrE (some 2) x29) fun x30 =>
    Pu (loadE (some none) x30 H8) fun x31 =>
    Pu (mapClrE x31 H8) fun H9 =>
    Pu (nilCheckE v0) fun x32 =>
    Pu (addrE (some 6) x32) fun x33 =>
    Pu (storeE (some 1) x33 (.bool false) H9) fun H10 =>
    Pu (nilCheckE v0) fun x34 =>
    Pu (addrE (some 5) x34) fun x35 =>
    Pu (storeE (some 1) x35 (.int .i64 (-1)) H10) fun H11 =>
    Pu (nilCheckE v0) fun x36 =>
    Pu (addrE (some 10) x36) fun x37 =>
    Pu (storeE (some 1) x37 (.int .i64 0) H11) fun H12 =>
    R (.int .i64 0) H12)))
set_option maxRecDepth 100000 in
theorem fn23 {v0 v1 : Value} {H : Hp} {R : Value → Hp → Prop} (h : sh23 v0 v1 H R) : Fc Try.prog 23 #[v0, v1] H R :=
  fn_of_vc (fun f => [].contains f) (.seq .nil (.seq .nil (.seq (.seq .nil (.loop [15] [16, 17, 18, 19, 6, 5, 20, 21, 22, 23, 24, 25, 26, 27, 28, 29, 30, 31, 32, 33] (.seq .nil (.seq .nil (.seq (.seq .nil (.join [29] [20, 21, 22, 23, 24, 25, 26, 27, 28] .nil .nil)) .nil))))) .nil))) Try.func23 (args := [v0, v1]) (Eq.mp (by kernel_rfl : sh23 v0 v1 H R = VcFn Try.prog (fun f => [].contains f) Try.f23 (.seq .nil (.seq .nil (.seq (.seq .nil (.loop [15] [16, 17, 18, 19, 6, 5, 20, 21, 22, 23, 24, 25, 26, 27, 28, 29, 30, 31, 32, 33] (.seq .nil (.seq .nil (.seq (.seq .nil (.join [29] [20, 21, 22, 23, 24, 25, 26, 27, 28] .nil .nil)) .nil))))) .nil))) [v0, v1] H R) h)
end Go.Proofs

/- Fs, part Nb: the disk: a block is held for good. (ShG prints keep, Barrier.) -/
set_option linter.unusedVariables false
set_option linter.unusedSimpArgs false
namespace Go.Vc
open Go.Proofs

section
variable {H : Hp} {p : Nat} {s : DS} {O : Nat → Prop} {R : Value → Hp → Prop}
/-- keep: a block is held for good. -/
theorem disk_keep {mh nh : Nat} {fh : Int → Option Blk} {top : Array Value} {T : TypeId} (ht : H[p]? = some (.cells top T)) (h1 : top[1]? = some (.map (some mh))) (hm : MapAt H mh (fun k => (fh k).map .agg) nh) {x : Int × Blk} (hx : IsB x.2)
    (k : ∀ (H' : Hp) (fh' : Int → Option Blk) (nh' : Nat), Kp (· = mh) H H' → MapAt H' mh (fun k => (fh' k).map .agg) nh' → (∀ k, (fh' k).getD zB = if k = x.1 then x.2 else (fh k).getD zB) → ((∀ k c, fh k = some c → IsB c) → ∀ k c, fh' k = some c → IsB c) → R (.tuple #[]) H') :
    Fc Try.prog 40 #[ptrV p, .agg (heldC x)] H R := by
  refine fn40 ?_
  simp only [sh40]
  refine box_i fun b H1 hb e1 s1 g1 => ?_
  simp only [cells_agg] at g1
  have ld0 : loadE (some none) (.pointer (some ⟨b, 0, none⟩)) H1 = some (.int .i64 x.1) := by rw [load_cell g1]; exact heldC_get
  have ld1 : loadE (some (some 1024)) (.pointer (some ⟨b, 1, none⟩)) H1 = some (.agg x.2) := by rw [load_row g1 (by rw [heldC_size hx]; omega), heldC_data hx]
  simp only [addr_ptr, Nat.zero_add, Pu_some, ld1, buildB]
  by_cases hz : x.2 = zB
  · rw [hz, eqZ_true]
    simp only [Pu_some, Ite_true, nilCheckE, addr_ptr, Nat.zero_add, load_cell (e1.at ht), h1, ld0]
    refine mapDel_i (hm.ext e1) fun H2 k2 s2 m2 => ?_
    refine k H2 (fun k => if k = x.1 then none else fh k) _ ((e1.kp _).trans k2) (m2.congr fun k => ?_) (fun k => ?_) fun hB k c e => ?_
    · unfold updM; split <;> rfl
    · by_cases h : k = x.1
      · rw [if_pos h, if_pos h, hz]; rfl
      · rw [if_neg h, if_neg h]
    · split at e
      · cases e
      · exact hB k c e
  · rw [eqZ_false hx hz]
    simp only [Pu_some, Ite_false, nilCheckE, addr_ptr, Nat.zero_add, load_cell (e1.at ht), h1, ld0, ld1]
    refine mapSet_i (hm.ext e1) fun H2 k2 s2 m2 => ?_
    refine k H2 (fun k => if k = x.1 then some x.2 else fh k) _ ((e1.kp _).trans k2) (m2.congr fun k => ?_) (fun k => ?_) fun hB k c e => ?_
    · unfold updM; split <;> rfl
    · by_cases h : k = x.1
      · rw [if_pos h, if_pos h]; rfl
      · rw [if_neg h, if_neg h]
    · split at e
      · injection e with e; subst e; exact hx
      · exact hB k c e
end
end Go.Vc

/- Fs, part O: the disk: a barrier. -/
set_option linter.unusedVariables false
set_option linter.unusedSimpArgs false
namespace Go.Vc
open Go.Proofs

/-- A barrier. -/
def DS.barrier (s : DS) : DS × Int :=
  if s.stopped then (s, 3) else if s.fuse = 0 then ({ s with stopped := true }, 3) else ({ s.burn.1 with held := s.now, pl := 0, hl := s.hl + 1 }, 0)
theorem DS.barrier_fit {s : DS} {k : Nat} (h : s.fit k) : s.barrier.1.fit (k + 1) := by
  have h0 := h.mono (Nat.le_succ k)
  obtain ⟨h1, h2, h3, h4, h5⟩ := h
  unfold DS.barrier DS.burn
  split
  · exact h0
  · split
    · exact ⟨h0.made, h0.reads, h3, h0.pl, h0.hl⟩
    · refine ⟨by simp only; omega, by simp only; omega, ?_, by simp only; omega, by simp only; omega⟩
      simp only
      split <;> omega
noncomputable def opB : Array Value := splice zOp 0 #[.int .u8 2]
theorem opB_size : opB.size = 1026 := by unfold opB; rw [splice_size (by rw [zOp_size]; simp), zOp_size]
set_option maxRecDepth 100000 in
theorem zOp_ok : (zOp.toList.all fun v => v.oneCell') = true := by kernel_rfl
theorem opB_ok : cellsOk opB := by
  unfold cellsOk
  rw [← Array.all_toList, List.all_eq_true]
  intro v hv
  have h0 := List.all_eq_true.1 zOp_ok
  obtain ⟨i, hi⟩ := List.mem_iff_getElem?.1 hv
  rw [Array.getElem?_toList] at hi
  unfold opB at hi
  rw [splice_get (by rw [zOp_size]; simp)] at hi
  simp only [List.size_toArray, List.length_cons, List.length_nil] at hi
  by_cases h : i = 0
  · subst h
    simp at hi
    subst hi; rfl
  · rw [if_neg (by omega), if_neg (by omega)] at hi
    exact h0 v (List.mem_of_getElem? (by rw [Array.getElem?_toList]; exact hi))
theorem build_opB : buildE Try.prog 96 [(0, .int .u8 2)] = some (.agg opB) := by
  refine build_struct zeroOp plOp ?_
  exact fillS_cons rfl rfl (by rw [zOp_size]; omega) rfl

section
variable {H : Hp} {p : Nat} {s : DS} {O : Nat → Prop} {R : Value → Hp → Prop}
set_option maxHeartbeats 2000000 in
theorem disk_barrier (h : DiskAt H p s O) {kf : Nat} (hf : s.fit kf) (hk : kf < 100000000000)
    (kk : ∀ H' O', Stp O O' H H' → DiskAt H' p s.barrier.1 O' → R (.int .i64 s.barrier.2) H') : Fc Try.prog 13 #[ptrV p] H R := by
  obtain ⟨hm, hr, hfu, hpl, hhl⟩ := hf
  refine fn13 ?_
  simp only [sh13, Any_const]
  refine disk_check h ?_
  simp only [binE_neq, Pu_some, Ite_dec]
  refine ⟨fun hne => ?_, fun heq => ?_⟩
  · have hst : s.stopped = true := by
      cases hs : s.stopped with
      | true => rfl
      | false => rw [hs] at hne; exact absurd rfl hne
    have hw : s.barrier = (s, 3) := by simp [DS.barrier, hst]
    have := kk H O (Stp.refl O H)
    rw [hw] at this
    rw [hst]; exact this h
  · have hst : s.stopped = false := by
      cases hs : s.stopped with
      | false => rfl
      | true => rw [hs] at heq; exact absurd (show (3 : Int) ≠ 0 by decide) heq
    obtain ⟨⟨mh, ml, ps, hs, fh, fl, nh, nl, pend, hist, hd, o1, o2, o3, o4, o5⟩, hlt⟩ := h
    refine disk_burn hd (by omega) hfu fun H3 k3 s3 hd3 => ?_
    have st3 : Stp O O H H3 := k3.stp fun j _ e => e ▸ o1
    by_cases hz : s.fuse = 0
    · have hb2 : s.burn = ({ s with stopped := true }, false) := by simp [DS.burn, hz]
      rw [hb2] at hd3 ⊢
      simp only [unE_not, Pu_some, Bool.not_false, Ite_true]
      have hw : s.barrier = ({ s with stopped := true }, 3) := by simp only [DS.barrier, hst, Bool.false_eq_true, if_false, hz, if_true]
      have := kk H3 O st3
      rw [hw] at this
      exact this ⟨⟨mh, ml, ps, hs, fh, fl, nh, nl, pend, hist, hd3, o1, o2, o3, o4, o5⟩, fun j hj => by rw [s3]; exact hlt j hj⟩
    · have hb2 : s.burn.2 = true := by simp [DS.burn, hz]
      have hw : s.barrier = ({ s.burn.1 with held := s.now, pl := 0, hl := s.hl + 1 }, 0) := by simp only [DS.barrier, hst, Bool.false_eq_true, if_false, if_neg hz]
      have hpl3 : pend.length = s.pl := hd.pl.symm
      have hhl3 : hist.length = s.hl := hd.hl.symm
      have q2 := eOp_f
      obtain ⟨d1, d2, d3⟩ := hd.df
      rw [hb2]
      simp only [unE_not, Pu_some, Bool.not_true, Ite_false, nilCheckE, addr_ptr, Nat.zero_add, load_cell hd3.top, dk_get]
      rw [hd3.aps.lenE elH_und, Pu_some, List.length_map]
      refine LoopP.mk (fun t H' => ∃ (i nh' : Nat) (fh' : Int → Option Blk), i ≤ pend.length ∧ t.1 = .int .i64 i ∧ Kp (· = mh) H3 H' ∧ MapAt H' mh (fun k => (fh' k).map .agg) nh' ∧
          (∀ k, (fh' k).getD zB = ((pend.take i).foldl (fun g x => updB g x.1 x.2) s.held) k) ∧ (∀ k c, fh' k = some c → IsB c))
        (fun t _ => match t.1 with | .int _ i => ((pend.length : Int) - i).toNat | _ => 0)
        ⟨0, nh, fh, by omega, rfl, Kp.refl _ _, hd3.amh, fun k => (hd.held k).symm, hd.bh⟩ ?_
      rintro ⟨t1, u⟩ H4 ⟨i, nh', fh', hi, hti, k4, m4, v4, b4⟩
      simp only at hti
      subst hti
      simp only [binE_lss, Pu_some, Ite_dec]
      have top4 := k4.at hd3.top (fun e => d1 e)
      have ps4 := hd3.aps.kp k4 (fun j e e' => (hd.dps j e).2.1 e')
      refine ⟨fun hlt4 => ?_, fun hge => ?_⟩
      · have hil : i < pend.length := by omega
        have hx := List.getElem?_eq_getElem hil
        generalize pend[i] = x at hx
        have hxB : IsB x.2 := hd.bp x (List.mem_of_getElem? hx)
        obtain ⟨bs, os, hadr, hrow⟩ := ps4.row (i := i) (v := heldC x) (by rw [List.getElem?_map, hx]; rfl)
        simp only [hadr, Pu_some, hrow, zeroHeld]
        refine box_i fun b5 H5 hb5 e5 s5 g5 => ?_
        simp only [cells_agg] at g5
        refine storeAll_i g5 zHeld_size (heldC_size hxB) (heldC_ok hxB) fun H6 k6 s6 g6 => ?_
        have e46 : Ext H4 H6 := e5.kpn k6 (by omega)
        simp only [load_all g6 (heldC_size hxB), Pu_some]
        refine disk_keep (e46.at top4) dk_get.2.1 (m4.ext e46) hxB fun H7 fh7 nh7 k7 m7 v7 b7 => ?_
        simp only [binE_add, Pu_some]
        rw [i64wrap_id (by omega) (by omega)]
        refine ⟨⟨i + 1, nh7, fh7, by omega, rfl, (k4.trans (e46.kp _)).trans k7, m7, fun k => ?_, b7 b4⟩, by show ((pend.length : Int) - (i + 1)).toNat < ((pend.length : Int) - i).toNat; omega⟩
        rw [v7 k, List.take_add_one, hx]
        show _ = ((pend.take i ++ [x]).foldl (fun (g : Int → Blk) (x : Int × Blk) => updB g x.1 x.2) s.held) k
        rw [List.foldl_append]
        show _ = updB _ x.1 x.2 k
        unfold updB
        split
        · rfl
        · exact v4 k
      · have hil : i = pend.length := by omega
        subst hil
        rw [List.take_length, hd.wait] at v4
        have ml4 := hd3.aml.kp k4 (fun e => d3 e.symm)
        have hs4 := hd3.ahs.kp k4 (fun j e e' => (hd.dhs j e).2.1 e')
        have st4 := st3.trans (k4.stp fun j _ e => e ▸ o2)
        refine store_i (v := .slice none 0 0) top4 (by simp [dk_get]) rfl rfl fun H7 k7 s7 g7 => ?_
        have top7 : H7[p]? = some (.cells (dkC s.burn.1 mh ml (.slice none 0 0) hs) 92) := g7
        have st7 := st4.trans (k7.stp fun j _ e => e ▸ o1)
        simp only [load_cell top7, dk_get, Pu_some]
        refine mapClr_i (ml4.kp k7 (fun e => d2 e.symm)) fun H8 k8 s8 ml8 => ?_
        have st8 := st7.trans (k8.stp fun j _ e => e ▸ o3)
        have top8 := k8.at top7 (fun e => d2 e)
        have mh8 := (m4.kp k7 (fun e => d1 e.symm)).kp k8 d3
        have hs8 := (hs4.kp k7 (fun j e e' => (hd.dhs j e).1 e')).kp k8 (fun j e e' => (hd.dhs j e).2.2 e')
        simp only [load_cell top8, dk_get, Pu_some, build_opB, elOp]
        rw [newS_one (by rw [q2.2.1]; decide) (by rw [q2.2.1]; decide) (by rw [cells_agg, opB_size, q2.2.1]), Pu_some]
        refine newS_i fun b9 H9 hb9 e9 s9 g9 => ?_
        refine app_many (us := [opB]) q2.1 q2.2.1 q2.2.2.1 (by rw [q2.2.2.2]; decide) (hs8.ext e9) (Sv.single g9 opB_size) (by simpa using opB_ok) (by
          rw [q2.2.2.2]; simp only [List.length_cons, List.length_nil]; omega) fun hs' H10 hs10 k10 hn10 => ?_
        have st10 := (st8.trans (e9.stp O)).trans (k10.stp fun j _ e => o5 j e)
        have top10 := k10.at (e9.at top8) (fun e => (hd.dhs p e).1 rfl)
        have mh10 := (mh8.ext e9).kp k10 (fun e => (hd.dhs mh e).2.1 rfl)
        have ml10 := (ml8.ext e9).kp k10 (fun e => (hd.dhs ml e).2.2 rfl)
        have np' : ∀ j, blkOf hs' = some j → j ≠ p ∧ j ≠ mh ∧ j ≠ ml := fun j e => by
          rcases hn10 j e with h1 | h1
          · exact hd.dhs j h1
          · have l1 := lt_of_block (e9.at top8)
            have l2 := (mh8.ext e9).lt
            have l3 := (ml8.ext e9).lt
            exact ⟨by omega, by omega, by omega⟩
        refine store_i top10 (by simp [dk_get]) hs10.one.2 hs10.one.1 fun H11 k11 s11 g11 => ?_
        have top11 : H11[p]? = some (.cells (dkC s.burn.1 mh ml (.slice none 0 0) hs') 92) := g11
        have st11 := st10.trans (k11.stp fun j _ e => e ▸ o1)
        have fin := kk H11 (fun j => O j ∨ blkOf hs' = some j) ⟨st11.kp, fun j hj => by
          rcases hj with h1 | h1
          · exact .inl h1
          · rcases hn10 j h1 with h2 | h2
            · exact .inl (o5 j h2)
            · exact .inr (Nat.le_trans (st8.trans (e9.stp O)).kp.le h2)⟩
        rw [hw] at fin
        have ah11 := hs10.kp k11 (fun j e e' => (np' j e).1 e')
        refine fin ⟨⟨mh, ml, .slice none 0 0, hs', fh', fun _ => none, nh', 0, [], hist ++ [opB], ?_, .inl o1, .inl o2, .inl o3, fun j e => (by cases e), fun j e => .inr e⟩, fun j hj => ?_⟩
        · exact {
            top := top11
            amh := mh10.kp k11 (fun e => d1 e.symm)
            aml := ml10.kp k11 (fun e => d2 e.symm)
            aps := Sv.nil _ _ _
            ahs := ah11
            df := hd.df
            dps := fun j e => (by cases e)
            dhs := np'
            bh := b4
            bl := fun j c e => (by cases e)
            bp := fun x hx => (by cases hx)
            now := fun k => by
              show (s.burn.1).now k = _
              rw [show (s.burn.1).now = s.now by simp [DS.burn, hz]]
              exact (v4 k).symm
            held := fun k => (v4 k).symm
            wait := by
              show s.now = (s.burn.1).now
              simp [DS.burn, hz]
            pl := rfl
            hl := by rw [List.length_append, hhl3]; rfl
            pos := hd3.pos }
        · rcases hj with h1 | h1
          · exact Nat.lt_of_lt_of_le (hlt j h1) st11.kp.le
          · exact ah11.lt h1
end
end Go.Vc

/- The conditions of functions' bodies, in words, each tied to the program. -/
set_option linter.unusedVariables false
set_option linter.unusedSimpArgs false
namespace Go.Proofs
open Go.Vc

/- undercroft/undercroftref06.New -/
def sh8 (v0 v1 : Value) (H : Hp) (R : Value → Hp → Prop) : Prop :=
 Join (n := 1) (fun s0 H1 => Any fun _ =>
  Ite s0.1
   (R (.tuple #[(.pointer none), (.int .i64 2)]) H1)
   (Pu (buildE Try.prog 86 [(0, v0), (1, v1)]) fun x3 =>
   Box 86 x3 H1 fun x4 H2 =>
   R (.tuple #[x4, (.int .i64 0)]) H2))
 (fun K4 => Pu (binE (some (.int .i64)) .lss v1 (.int .i64 1)) fun x6 =>
 Ite x6
  (K4 ((.bool true), ()) H)
  (Pu (binE (some (.int .i64)) .gtr v1 (.int .i64 4096)) fun x7 =>
  K4 (x7, ()) H))
set_option maxRecDepth 100000 in
theorem fn8 {v0 v1 : Value} {H : Hp} {R : Value → Hp → Prop} (h : sh8 v0 v1 H R) : Fc Try.prog 8 #[v0, v1] H R :=
  fn_of_vc (fun f => [].contains f) (.seq .nil (.seq (.join [11] [6, 7, 8, 9, 10] .nil .nil) .nil)) Try.func8 (args := [v0, v1]) (Eq.mp (by kernel_rfl : sh8 v0 v1 H R = VcFn Try.prog (fun f => [].contains f) Try.f8 (.seq .nil (.seq (.join [11] [6, 7, 8, 9, 10] .nil .nil) .nil)) [v0, v1] H R) h)

/- (*undercroft/undercroftref06.Cache).Order -/
def sh10 (v0 : Value) (H : Hp) (R : Value → Hp → Prop) : Prop :=
 LoopP (n := 2) ((.slice none 0 0), (.int .i64 0), ()) H (fun K1 s0 H1 => Any fun _ =>
  Pu (nilCheckE v0) fun x3 =>
  Pu (addrE (some 2) x3) fun x4 =>
  Pu (loadE (some none) x4 H1) fun x5 =>
  Pu (lenE Try.prog 84 x5) fun x6 =>
  Pu (binE (some (.int .i64)) .lss s0.2.1 x6) fun x7 =>
  Ite x7
   (Pu (nilCheckE v0) fun x8 =>
   Pu (addrE (some 2) x8) fun x9 =>
   Pu (loadE (some none) x9 H1) fun x10 =>
   Pu (idxAddrE (some (none, 1026)) x10 s0.2.1) fun x11 =>
   Pu (addrE (some 0) x11) fun x12 =>
   Pu (loadE (some none) x12 H1) fun x13 =>
   Pu (elemI Try.prog 46) fun x14 => Pu (newSliceE (some x14) 1 [(0, x13)]) fun x15 => NewS x14.type 1 x15 H1 fun x16 H2 =>
   AppS (elemI Try.prog 46) s0.1 x16 H2 fun x17 H3 =>
   Pu (binE (some (.int .i64)) .add s0.2.1 (.int .i64 1)) fun x18 =>
   K1 (x17, x18, ()) H3)
   (R s0.1 H1))
set_option maxRecDepth 100000 in
theorem fn10 {v0 : Value} {H : Hp} {R : Value → Hp → Prop} (h : sh10 v0 H R) : Fc Try.prog 10 #[v0] H R :=
  fn_of_vc (fun f => [].contains f) (.seq .nil (.seq .nil (.seq (.seq .nil (.loop [3, 4] [5, 6, 7, 8, 9, 10, 11, 14, 15, 16, 17, 18, 19, 20, 21, 22, 23, 24, 12, 13] .nil)) .nil))) Try.func10 (args := [v0]) (Eq.mp (by kernel_rfl : sh10 v0 H R = VcFn Try.prog (fun f => [].contains f) Try.f10 (.seq .nil (.seq .nil (.seq (.seq .nil (.loop [3, 4] [5, 6, 7, 8, 9, 10, 11, 14, 15, 16, 17, 18, 19, 20, 21, 22, 23, 24, 12, 13] .nil)) .nil))) [v0] H R) h)

/- (*undercroft/undercroftref06.Disk).Light -/
def sh12 (v0 v1 : Value) (H : Hp) (R : Value → Hp → Prop) : Prop :=
 Pu (nilCheckE v0) fun x1 =>
 Pu (addrE (some 3) x1) fun x2 =>
 Pu (loadE (some none) x2 H) fun x3 =>
 Pu (unE .not x3) fun x4 =>
 Ite x4
  (Pu (maxE v1 (.int .i64 (-1))) fun x5 =>
  Pu (nilCheckE v0) fun x6 =>
  Pu (addrE (some 2) x6) fun x7 =>
  Pu (storeE (some 1) x7 x5 H) fun H1 =>
  R (.tuple #[]) H1)
  (R (.tuple #[]) H)
set_option maxRecDepth 100000 in
theorem fn12 {v0 v1 : Value} {H : Hp} {R : Value → Hp → Prop} (h : sh12 v0 v1 H R) : Fc Try.prog 12 #[v0, v1] H R :=
  fn_of_vc (fun f => [].contains f) .nil Try.func12 (args := [v0, v1]) (Eq.mp (by kernel_rfl : sh12 v0 v1 H R = VcFn Try.prog (fun f => [].contains f) Try.f12 .nil [v0, v1] H R) h)

/- (*undercroft/undercroftref06.Disk).Barrier -/
def sh14 (v0 : Value) (H : Hp) (R : Value → Hp → Prop) : Prop :=
 Pu (nilCheckE v0) fun x1 =>
 Pu (addrE (some 3) x1) fun x2 =>
 Pu (loadE (some none) x2 H) fun x3 =>
 Ite x3
  (R (.int .i64 3) H)
  (Fc Try.prog 41 #[v0] H fun x4 H1 =>
  Pu (unE .not x4) fun x5 =>
  Ite x5
   (R (.int .i64 3) H1)
   (LoopP (n := 1) ((.int .i64 0), ()) H1 (fun K6 s5 H2 => Any fun _ =>
    Pu (nilCheckE v0) fun x8 =>
    Pu (addrE (some 0) x8) fun x9 =>
    Pu (loadE (some none) x9 H2) fun x10 =>
    Pu (lenE Try.prog 63 x10) fun x11 =>
    Pu (binE (some (.int .i64)) .lss s5.1 x11) fun x12 =>
    Ite x12
     (Pu (nilCheckE v0) fun x13 =>
     Pu (addrE (some 1) x13) fun x14 =>
     Pu (loadE (some none) x14 H2) fun x15 =>
     Pu (nilCheckE v0) fun x16 =>
     Pu (addrE (some 0) x16) fun x17 =>
     Pu (loadE (some none) x17 H2) fun x18 =>
     Pu (idxAddrE (some (none, 1024)) x18 s5.1) fun x19 =>
     Pu (loadE (some (some 1024)) x19 H2) fun x20 =>
     Pu (idxAddrE (some (none, 1024)) x15 s5.1) fun x21 =>
     Pu (storeE (some 1024) x21 x20 H2) fun H3 =>
     Pu (binE (some (.int .i64)) .add s5.1 (.int .i64 1)) fun x22 =>
     K6 (x22, ()) H3)
     (R (.int .i64 0) H2))))
set_option maxRecDepth 100000 in
theorem fn14 {v0 : Value} {H : Hp} {R : Value → Hp → Prop} (h : sh14 v0 H R) : Fc Try.prog 14 #[v0] H R :=
  fn_of_vc (fun f => [].contains f) (.seq .nil (.seq .nil (.seq .nil (.seq .nil (.seq (.seq .nil (.loop [4] [13, 14, 15, 16, 17, 18, 19, 22, 23, 24, 25, 26, 27, 28, 29, 30, 31, 32, 33, 34, 20, 21] .nil)) .nil))))) Try.func14 (args := [v0]) (Eq.mp (by kernel_rfl : sh14 v0 H R = VcFn Try.prog (fun f => [].contains f) Try.f14 (.seq .nil (.seq .nil (.seq .nil (.seq .nil (.seq (.seq .nil (.loop [4] [13, 14, 15, 16, 17, 18, 19, 22, 23, 24, 25, 26, 27, 28, 29, 30, 31, 32, 33, 34, 20, 21] .nil)) .nil))))) [v0] H R) h)

/- (*undercroft/undercroftref06.Cache).Fast -/
def sh19 (v0 : Value) (H : Hp) (R : Value → Hp → Prop) : Prop :=
 LoopP (n := 2) ((.int .i64 0), (.int .i64 0), ()) H (fun K1 s0 H1 => Any fun _ =>
  Pu (nilCheckE v0) fun x3 =>
  Pu (addrE (some 2) x3) fun x4 =>
  Pu (loadE (some none) x4 H1) fun x5 =>
  Pu (lenE Try.prog 84 x5) fun x6 =>
  Pu (binE (some (.int .i64)) .lss s0.2.1 x6) fun x7 =>
  Ite x7
   (Pu (nilCheckE v0) fun x8 =>
   Pu (addrE (some 2) x8) fun x9 =>
   Pu (loadE (some none) x9 H1) fun x10 =>
   Pu (idxAddrE (some (none, 1026)) x10 s0.2.1) fun x11 =>
   Pu (addrE (some 1025) x11) fun x12 =>
   Pu (loadE (some none) x12 H1) fun x13 =>
   Ite x13
    (Pu (binE (some (.int .i64)) .add s0.1 (.int .i64 1)) fun x14 =>
    Pu (binE (some (.int .i64)) .add s0.2.1 (.int .i64 1)) fun x15 =>
    K1 (x14, x15, ()) H1)
    (Pu (binE (some (.int .i64)) .add s0.2.1 (.int .i64 1)) fun x16 =>
    K1 (s0.1, x16, ()) H1))
   (R s0.1 H1))
set_option maxRecDepth 100000 in
theorem fn19 {v0 : Value} {H : Hp} {R : Value → Hp → Prop} (h : sh19 v0 H R) : Fc Try.prog 19 #[v0] H R :=
  fn_of_vc (fun f => [].contains f) (.seq .nil (.seq .nil (.seq (.seq .nil (.loop [3, 4] [5, 6, 7, 8, 9, 10, 11, 14, 15, 16, 17, 18, 19, 20, 21, 22, 23, 12, 13] .nil)) .nil))) Try.func19 (args := [v0]) (Eq.mp (by kernel_rfl : sh19 v0 H R = VcFn Try.prog (fun f => [].contains f) Try.f19 (.seq .nil (.seq .nil (.seq (.seq .nil (.loop [3, 4] [5, 6, 7, 8, 9, 10, 11, 14, 15, 16, 17, 18, 19, 20, 21, 22, 23, 12, 13] .nil)) .nil))) [v0] H R) h)

/- (*undercroft/undercroftref06.Disk).Crash -/
def sh24 (v0 : Value) (H : Hp) (R : Value → Hp → Prop) : Prop :=
 LoopP (n := 1) ((.int .i64 0), ()) H (fun K1 s0 H1 => Any fun _ =>
  Pu (nilCheckE v0) fun x3 =>
  Pu (addrE (some 0) x3) fun x4 =>
  Pu (loadE (some none) x4 H1) fun x5 =>
  Pu (lenE Try.prog 63 x5) fun x6 =>
  Pu (binE (some (.int .i64)) .lss s0.1 x6) fun x7 =>
  Ite x7
   (Pu (nilCheckE v0) fun x8 =>
   Pu (addrE (some 0) x8) fun x9 =>
   Pu (loadE (some none) x9 H1) fun x10 =>
   Pu (nilCheckE v0) fun x11 =>
   Pu (addrE (some 1) x11) fun x12 =>
   Pu (loadE (some none) x12 H1) fun x13 =>
   Pu (idxAddrE (some (none, 1024)) x13 s0.1) fun x14 =>
   Pu (loadE (some (some 1024)) x14 H1) fun x15 =>
   Pu (idxAddrE (some (none, 1024)) x10 s0.1) fun x16 =>
   Pu (storeE (some 1024) x16 x15 H1) fun H2 =>
   Pu (binE (some (.int .i64)) .add s0.1 (.int .i64 1)) fun x17 =>
   K1 (x17, ()) H2)
   (Pu (nilCheckE v0) fun x18 =>
   Pu (addrE (some 3) x18) fun x19 =>
   Pu (storeE (some 1) x19 (.bool false) H1) fun H3 =>
   Pu (nilCheckE v0) fun x20 =>
   Pu (addrE (some 2) x20) fun x21 =>
   Pu (storeE (some 1) x21 (.int .i64 (-1)) H3) fun H4 =>
   R (.tuple #[]) H4))
set_option maxRecDepth 100000 in
theorem fn24 {v0 : Value} {H : Hp} {R : Value → Hp → Prop} (h : sh24 v0 H R) : Fc Try.prog 24 #[v0] H R :=
  fn_of_vc (fun f => [].contains f) (.seq (.seq .nil (.loop [2] [3, 4, 5, 6, 7, 8, 9, 12, 13, 14, 15, 16, 17, 18, 19, 20, 21, 22, 23, 24, 10, 11] .nil)) .nil) Try.func24 (args := [v0]) (Eq.mp (by kernel_rfl : sh24 v0 H R = VcFn Try.prog (fun f => [].contains f) Try.f24 (.seq (.seq .nil (.loop [2] [3, 4, 5, 6, 7, 8, 9, 12, 13, 14, 15, 16, 17, 18, 19, 20, 21, 22, 23, 24, 10, 11] .nil)) .nil) [v0] H R) h)

/- (*undercroft/undercroftref06.Disk).Write -/
def sh37 (v0 v1 v2 : Value) (H : Hp) (R : Value → Hp → Prop) : Prop :=
 Box 51 v2 H fun x1 H1 =>
 Fc Try.prog 51 #[v0, v1] H1 fun x2 H2 =>
 Pu (binE (some (.int .i64)) .neq x2 (.int .i64 0)) fun x3 =>
 Ite x3
  (R x2 H2)
  (Fc Try.prog 41 #[v0] H2 fun x4 H3 =>
  Pu (unE .not x4) fun x5 =>
  Ite x5
   (R (.int .i64 3) H3)
   (Pu (nilCheckE v0) fun x6 =>
   Pu (addrE (some 0) x6) fun x7 =>
   Pu (loadE (some none) x7 H3) fun x8 =>
   Pu (loadE (some (some 1024)) x1 H3) fun x9 =>
   Pu (idxAddrE (some (none, 1024)) x8 v1) fun x10 =>
   Pu (storeE (some 1024) x10 x9 H3) fun H4 =>
   R (.int .i64 0) H4))
set_option maxRecDepth 100000 in
theorem fn37 {v0 v1 v2 : Value} {H : Hp} {R : Value → Hp → Prop} (h : sh37 v0 v1 v2 H R) : Fc Try.prog 37 #[v0, v1, v2] H R :=
  fn_of_vc (fun f => [].contains f) .nil Try.func37 (args := [v0, v1, v2]) (Eq.mp (by kernel_rfl : sh37 v0 v1 v2 H R = VcFn Try.prog (fun f => [].contains f) Try.f37 .nil [v0, v1, v2] H R) h)

/- (*undercroft/undercroftref06.Disk).lets -/
def sh41 (v0 : Value) (H : Hp) (R : Value → Hp → Prop) : Prop :=
 Pu (nilCheckE v0) fun x1 =>
 Pu (addrE (some 2) x1) fun x2 =>
 Pu (loadE (some none) x2 H) fun x3 =>
 Pu (binE (some (.int .i64)) .eql x3 (.int .i64 0)) fun x4 =>
 Ite x4
  (Pu (nilCheckE v0) fun x5 =>
  Pu (addrE (some 3) x5) fun x6 =>
  Pu (storeE (some 1) x6 (.bool true) H) fun H1 =>
  R (.bool false) H1)
  (Join (n := 0) (fun s6 H2 => Any fun _ =>
   Pu (nilCheckE v0) fun x8 =>
   Pu (addrE (some 5) x8) fun x9 =>
   Pu (loadE (some none) x9 H2) fun x10 =>
   Pu (binE (some (.int .i64)) .add x10 (.int .i64 1)) fun x11 =>
   Pu (nilCheckE v0) fun x12 =>
   Pu (addrE (some 5) x12) fun x13 =>
   Pu (storeE (some 1) x13 x11 H2) fun H3 =>
   R (.bool true) H3)
  (fun K13 => Pu (nilCheckE v0) fun x15 =>
  Pu (addrE (some 2) x15) fun x16 =>
  Pu (loadE (some none) x16 H) fun x17 =>
  Pu (binE (some (.int .i64)) .gtr x17 (.int .i64 0)) fun x18 =>
  Ite x18
   (Pu (nilCheckE v0) fun x19 =>
   Pu (addrE (some 2) x19) fun x20 =>
   Pu (loadE (some none) x20 H) fun x21 =>
   Pu (binE (some (.int .i64)) .sub x21 (.int .i64 1)) fun x22 =>
   Pu (nilCheckE v0) fun x23 =>
   Pu (addrE (some 2) x23) fun x24 =>
   Pu (storeE (some 1) x24 x22 H) fun H4 =>
   K13 (()) H4)
   (K13 (()) H)))
set_option maxRecDepth 100000 in
theorem fn41 {v0 : Value} {H : Hp} {R : Value → Hp → Prop} (h : sh41 v0 H R) : Fc Try.prog 41 #[v0] H R :=
  fn_of_vc (fun f => [].contains f) (.seq .nil (.seq .nil (.join [] [11, 12, 13, 14, 15, 16, 17, 18, 19, 20, 21, 22] .nil .nil))) Try.func41 (args := [v0]) (Eq.mp (by kernel_rfl : sh41 v0 H R = VcFn Try.prog (fun f => [].contains f) Try.f41 (.seq .nil (.seq .nil (.join [] [11, 12, 13, 14, 15, 16, 17, 18, 19, 20, 21, 22] .nil .nil))) [v0] H R) h)

/- (*undercroft/undercroftref06.Cache).Read -/
def sh47 (v0 v1 : Value) (H : Hp) (R : Value → Hp → Prop) : Prop :=
 Pu (zeroE Try.prog 51) fun x1 => Box 51 x1 H fun x2 H1 =>
 Pu (nilCheckE v0) fun x3 =>
 Pu (addrE (some 0) x3) fun x4 =>
 Pu (loadE (some none) x4 H1) fun x5 =>
 Fc Try.prog 51 #[x5, v1] H1 fun x6 H2 =>
 Pu (binE (some (.int .i64)) .neq x6 (.int .i64 0)) fun x7 =>
 Ite x7
  (Pu (buildE Try.prog 51 []) fun x8 =>
  Pu (storeE (some 1024) x2 x8 H2) fun H3 =>
  Pu (loadE (some (some 1024)) x2 H3) fun x9 =>
  R (.tuple #[x9, x6]) H3)
  (Fc Try.prog 52 #[v0, v1] H2 fun x10 H4 =>
  Pu (binE (some (.int .i64)) .geq x10 (.int .i64 0)) fun x11 =>
  Ite x11
   (Pu (nilCheckE v0) fun x12 =>
   Pu (addrE (some 2) x12) fun x13 =>
   Pu (loadE (some none) x13 H4) fun x14 =>
   Pu (idxAddrE (some (none, 1026)) x14 x10) fun x15 =>
   Pu (loadE (some (some 1026)) x15 H4) fun x16 =>
   Pu (zeroE Try.prog 88) fun x17 => Box 88 x17 H4 fun x18 H5 =>
   Pu (storeE (some 1026) x18 x16 H5) fun H6 =>
   Pu (loadE (some (some 1026)) x18 H6) fun x19 =>
   Fc Try.prog 53 #[v0, x19] H6 fun x20 H7 =>
   Pu (addrE (some 1) x18) fun x21 =>
   Pu (loadE (some (some 1024)) x21 H7) fun x22 =>
   Pu (storeE (some 1024) x2 x22 H7) fun H8 =>
   Pu (loadE (some (some 1024)) x2 H8) fun x23 =>
   R (.tuple #[x23, (.int .i64 0)]) H8)
   (Pu (nilCheckE v0) fun x24 =>
   Pu (addrE (some 1) x24) fun x25 =>
   And
    (ForX true H4 fun H17 =>
    Fc Try.prog 19 #[v0] H17 fun x60 H18 =>
    Pu (loadE (some none) x25 H18) fun x61 =>
    Pu (binE (some (.int .i64)) .eql x60 x61) fun x62 =>
    ForX true H18 fun H19 =>
    Ite x62
     (Pu (buildE Try.prog 51 []) fun x63 =>
     Pu (storeE (some 1024) x2 x63 H19) fun H20 =>
     Pu (loadE (some (some 1024)) x2 H20) fun x64 =>
     R (.tuple #[x64, (.int .i64 160)]) H20)
     (Fc Try.prog 54 #[v0] H19 fun x65 H21 =>
     Pu (nilCheckE v0) fun x66 =>
     Pu (addrE (some 0) x66) fun x67 =>
     Pu (loadE (some none) x67 H21) fun x68 =>
     Pu (nilCheckE x68) fun x69 =>
     Pu (addrE (some 4) x69) fun x70 =>
     Pu (loadE (some none) x70 H21) fun x71 =>
     Pu (binE (some (.int .i64)) .add x71 (.int .i64 1)) fun x72 =>
     Pu (nilCheckE x68) fun x73 =>
     Pu (addrE (some 4) x73) fun x74 =>
     Pu (storeE (some 1) x74 x72 H21) fun H22 =>
     Pu (nilCheckE v0) fun x75 =>
     Pu (addrE (some 0) x75) fun x76 =>
     Pu (loadE (some none) x76 H22) fun x77 =>
     Pu (nilCheckE x77) fun x78 =>
     Pu (addrE (some 0) x78) fun x79 =>
     Pu (loadE (some none) x79 H22) fun x80 =>
     Pu (idxAddrE (some (none, 1024)) x80 v1) fun x81 =>
     Pu (loadE (some (some 1024)) x81 H22) fun x82 =>
     Pu (buildE Try.prog 88 [(0, v1), (1, x82)]) fun x83 =>
     Fc Try.prog 53 #[v0, x83] H22 fun x84 H23 =>
     Pu (nilCheckE v0) fun x85 =>
     Pu (addrE (some 0) x85) fun x86 =>
     Pu (loadE (some none) x86 H23) fun x87 =>
     Pu (nilCheckE x87) fun x88 =>
     Pu (addrE (some 0) x88) fun x89 =>
     Pu (loadE (some none) x89 H23) fun x90 =>
     Pu (idxAddrE (some (none, 1024)) x90 v1) fun x91 =>
     Pu (loadE (some (some 1024)) x91 H23) fun x92 =>
     Pu (storeE (some 1024) x2 x92 H23) fun H24 =>
     Pu (loadE (some (some 1024)) x2 H24) fun x93 =>
     R (.tuple #[x93, (.int .i64 0)]) H24))
    (And
     (Pu (loadE (some none) x25 H4) fun x26 =>
     ForX true H4 fun H9 =>
     Fc Try.prog 19 #[v0] H9 fun x27 H10 =>
     Pu (binE (some (.int .i64)) .eql x27 x26) fun x28 =>
     ForX true H10 fun H11 =>
     Ite x28
      (Pu (buildE Try.prog 51 []) fun x29 =>
      Pu (storeE (some 1024) x2 x29 H11) fun H12 =>
      Pu (loadE (some (some 1024)) x2 H12) fun x30 =>
      R (.tuple #[x30, (.int .i64 160)]) H12)
      (Fc Try.prog 54 #[v0] H11 fun x31 H13 =>
      Pu (nilCheckE v0) fun x32 =>
      Pu (addrE (some 0) x32) fun x33 =>
      Pu (loadE (some none) x33 H13) fun x34 =>
      Pu (nilCheckE x34) fun x35 =>
      Pu (addrE (some 4) x35) fun x36 =>
      Pu (loadE (some none) x36 H13) fun x37 =>
      Pu (binE (some (.int .i64)) .add x37 (.int .i64 1)) fun x38 =>
      Pu (nilCheckE x34) fun x39 =>
      Pu (addrE (some 4) x39) fun x40 =>
      Pu (storeE (some 1) x40 x38 H13) fun H14 =>
      Pu (nilCheckE v0) fun x41 =>
      Pu (addrE (some 0) x41) fun x42 =>
      Pu (loadE (some none) x42 H14) fun x43 =>
      Pu (nilCheckE x43) fun x44 =>
      Pu (addrE (some 0) x44) fun x45 =>
      Pu (loadE (some none) x45 H14) fun x46 =>
      Pu (idxAddrE (some (none, 1024)) x46 v1) fun x47 =>
      Pu (loadE (some (some 1024)) x47 H14) fun x48 =>
      Pu (buildE Try.prog 88 [(0, v1), (1, x48)]) fun x49 =>
      Fc Try.prog 53 #[v0, x49] H14 fun x50 H15 =>
      Pu (nilCheckE v0) fun x51 =>
      Pu (addrE (some 0) x51) fun x52 =>
      Pu (loadE (some none) x52 H15) fun x53 =>
      Pu (nilCheckE x53) fun x54 =>
      Pu (addrE (some 0) x54) fun x55 =>
      Pu (loadE (some none) x55 H15) fun x56 =>
      Pu (idxAddrE (some (none, 1024)) x56 v1) fun x57 =>
      Pu (loadE (some (some 1024)) x57 H15) fun x58 =>
      Pu (storeE (some 1024) x2 x58 H15) fun H16 =>
      Pu (loadE (some (some 1024)) x2 H16) fun x59 =>
      R (.tuple #[x59, (.int .i64 0)]) H16))
     (True))))
set_option maxRecDepth 100000 in
theorem fn47 {v0 v1 : Value} {H : Hp} {R : Value → Hp → Prop} (h : sh47 v0 v1 H R) : Fc Try.prog 47 #[v0, v1] H R :=
  fn_of_vcp (fun f => [].contains f) [(9, (.fork [0, 2, 3, 4] (.cons 1 (.line [5, 6]) (.cons 5 (.line [1, 6]) .nil))))] .nil Try.func47 (args := [v0, v1]) (Eq.mp (by kernel_rfl : sh47 v0 v1 H R = VcFnP Try.prog (fun f => [].contains f) [(9, (.fork [0, 2, 3, 4] (.cons 1 (.line [5, 6]) (.cons 5 (.line [1, 6]) .nil))))] Try.f47 .nil [v0, v1] H R) h)

/- (*undercroft/undercroftref06.Cache).Put -/
def sh48 (v0 v1 v2 : Value) (H : Hp) (R : Value → Hp → Prop) : Prop :=
 Box 51 v2 H fun x1 H1 =>
 Pu (nilCheckE v0) fun x2 =>
 Pu (addrE (some 0) x2) fun x3 =>
 Pu (loadE (some none) x3 H1) fun x4 =>
 Fc Try.prog 51 #[x4, v1] H1 fun x5 H2 =>
 Pu (binE (some (.int .i64)) .neq x5 (.int .i64 0)) fun x6 =>
 Ite x6
  (R x5 H2)
  (Join (n := 0) (fun s6 H3 => Any fun _ =>
   Pu (loadE (some (some 1024)) x1 H3) fun x8 =>
   Pu (buildE Try.prog 88 [(0, v1), (1, x8), (2, (.bool true))]) fun x9 =>
   Fc Try.prog 53 #[v0, x9] H3 fun x10 H4 =>
   R (.int .i64 0) H4)
  (fun K10 => Fc Try.prog 52 #[v0, v1] H2 fun x12 H5 =>
  Pu (binE (some (.int .i64)) .lss x12 (.int .i64 0)) fun x13 =>
  Ite x13
   (Pu (nilCheckE v0) fun x14 =>
   Pu (addrE (some 1) x14) fun x15 =>
   And
    (ForX true H5 fun H10 =>
    Fc Try.prog 19 #[v0] H10 fun x20 H11 =>
    Pu (loadE (some none) x15 H11) fun x21 =>
    Pu (binE (some (.int .i64)) .eql x20 x21) fun x22 =>
    ForX true H11 fun H12 =>
    Ite x22
     (R (.int .i64 160) H12)
     (Fc Try.prog 54 #[v0] H12 fun x23 H13 =>
     K10 (()) H13))
    (And
     (Pu (loadE (some none) x15 H5) fun x16 =>
     ForX true H5 fun H6 =>
     Fc Try.prog 19 #[v0] H6 fun x17 H7 =>
     Pu (binE (some (.int .i64)) .eql x17 x16) fun x18 =>
     ForX true H7 fun H8 =>
     Ite x18
      (R (.int .i64 160) H8)
      (Fc Try.prog 54 #[v0] H8 fun x19 H9 =>
      K10 (()) H9))
     (True)))
   (K10 (()) H5)))
set_option maxRecDepth 100000 in
theorem fn48 {v0 v1 v2 : Value} {H : Hp} {R : Value → Hp → Prop} (h : sh48 v0 v1 v2 H R) : Fc Try.prog 48 #[v0, v1, v2] H R :=
  fn_of_vcp (fun f => [].contains f) [(5, (.fork [0, 2, 3, 4] (.cons 1 (.line [5, 6]) (.cons 5 (.line [1, 6]) .nil))))] (.seq .nil (.seq .nil (.seq .nil (.join [] [17, 18, 19, 20, 21, 22, 23, 24, 25, 26, 27, 6, 28, 29] .nil .nil)))) Try.func48 (args := [v0, v1, v2]) (Eq.mp (by kernel_rfl : sh48 v0 v1 v2 H R = VcFnP Try.prog (fun f => [].contains f) [(5, (.fork [0, 2, 3, 4] (.cons 1 (.line [5, 6]) (.cons 5 (.line [1, 6]) .nil))))] Try.f48 (.seq .nil (.seq .nil (.seq .nil (.join [] [17, 18, 19, 20, 21, 22, 23, 24, 25, 26, 27, 6, 28, 29] .nil .nil)))) [v0, v1, v2] H R) h)

/- (*undercroft/undercroftref06.Cache).Flush -/
def sh49 (v0 v1 : Value) (H : Hp) (R : Value → Hp → Prop) : Prop :=
 Pu (nilCheckE v0) fun x1 =>
 Pu (addrE (some 0) x1) fun x2 =>
 Pu (loadE (some none) x2 H) fun x3 =>
 Fc Try.prog 51 #[x3, v1] H fun x4 H1 =>
 Pu (binE (some (.int .i64)) .neq x4 (.int .i64 0)) fun x5 =>
 Ite x5
  (R x4 H1)
  (Fc Try.prog 52 #[v0, v1] H1 fun x6 H2 =>
  Join (n := 1) (fun s6 H3 => Any fun _ =>
   Ite s6.1
    (R (.int .i64 0) H3)
    (Pu (nilCheckE v0) fun x9 =>
    Pu (addrE (some 0) x9) fun x10 =>
    Pu (loadE (some none) x10 H3) fun x11 =>
    Pu (nilCheckE v0) fun x12 =>
    Pu (addrE (some 2) x12) fun x13 =>
    Pu (loadE (some none) x13 H3) fun x14 =>
    Pu (idxAddrE (some (none, 1026)) x14 x6) fun x15 =>
    Pu (addrE (some 1) x15) fun x16 =>
    Pu (loadE (some (some 1024)) x16 H3) fun x17 =>
    Fc Try.prog 37 #[x11, v1, x17] H3 fun x18 H4 =>
    Pu (binE (some (.int .i64)) .eql x18 (.int .i64 0)) fun x19 =>
    Ite x19
     (Pu (nilCheckE v0) fun x20 =>
     Pu (addrE (some 2) x20) fun x21 =>
     Pu (loadE (some none) x21 H4) fun x22 =>
     Pu (idxAddrE (some (none, 1026)) x22 x6) fun x23 =>
     Pu (addrE (some 1025) x23) fun x24 =>
     Pu (storeE (some 1) x24 (.bool false) H4) fun H5 =>
     R x18 H5)
     (R x18 H4)))
  (fun K24 => Pu (binE (some (.int .i64)) .lss x6 (.int .i64 0)) fun x26 =>
  Ite x26
   (K24 ((.bool true), ()) H2)
   (Pu (nilCheckE v0) fun x27 =>
   Pu (addrE (some 2) x27) fun x28 =>
   Pu (loadE (some none) x28 H2) fun x29 =>
   Pu (idxAddrE (some (none, 1026)) x29 x6) fun x30 =>
   Pu (addrE (some 1025) x30) fun x31 =>
   Pu (loadE (some none) x31 H2) fun x32 =>
   Pu (unE .not x32) fun x33 =>
   K24 (x33, ()) H2)))
set_option maxRecDepth 100000 in
theorem fn49 {v0 v1 : Value} {H : Hp} {R : Value → Hp → Prop} (h : sh49 v0 v1 H R) : Fc Try.prog 49 #[v0, v1] H R :=
  fn_of_vc (fun f => [].contains f) (.seq .nil (.seq .nil (.seq .nil (.seq .nil (.seq (.join [31] [19, 20, 21, 22, 23, 24, 25, 26, 27, 28, 29, 30] .nil .nil) .nil))))) Try.func49 (args := [v0, v1]) (Eq.mp (by kernel_rfl : sh49 v0 v1 H R = VcFn Try.prog (fun f => [].contains f) Try.f49 (.seq .nil (.seq .nil (.seq .nil (.seq .nil (.seq (.join [31] [19, 20, 21, 22, 23, 24, 25, 26, 27, 28, 29, 30] .nil .nil) .nil))))) [v0, v1] H R) h)

/- (*undercroft/undercroftref06.Disk).Wrong -/
def sh51 (v0 v1 : Value) (H : Hp) (R : Value → Hp → Prop) : Prop :=
 Pu (nilCheckE v0) fun x1 =>
 Pu (addrE (some 3) x1) fun x2 =>
 Pu (loadE (some none) x2 H) fun x3 =>
 Ite x3
  (R (.int .i64 3) H)
  (Join (n := 1) (fun s3 H1 => Any fun _ =>
   Ite s3.1
    (R (.int .i64 2) H1)
    (R (.int .i64 0) H1))
  (fun K5 => Pu (binE (some (.int .i64)) .lss v1 (.int .i64 0)) fun x7 =>
  Ite x7
   (K5 ((.bool true), ()) H)
   (Pu (nilCheckE v0) fun x8 =>
   Pu (addrE (some 0) x8) fun x9 =>
   Pu (loadE (some none) x9 H) fun x10 =>
   Pu (lenE Try.prog 63 x10) fun x11 =>
   Pu (binE (some (.int .i64)) .geq v1 x11) fun x12 =>
   K5 (x12, ()) H)))
set_option maxRecDepth 100000 in
theorem fn51 {v0 v1 : Value} {H : Hp} {R : Value → Hp → Prop} (h : sh51 v0 v1 H R) : Fc Try.prog 51 #[v0, v1] H R :=
  fn_of_vc (fun f => [].contains f) (.seq .nil (.seq .nil (.seq (.join [19] [9, 10, 11, 12, 13, 14, 15, 16, 17, 18] .nil .nil) .nil))) Try.func51 (args := [v0, v1]) (Eq.mp (by kernel_rfl : sh51 v0 v1 H R = VcFn Try.prog (fun f => [].contains f) Try.f51 (.seq .nil (.seq .nil (.seq (.join [19] [9, 10, 11, 12, 13, 14, 15, 16, 17, 18] .nil .nil) .nil))) [v0, v1] H R) h)

/- (*undercroft/undercroftref06.Cache).find -/
def sh52 (v0 v1 : Value) (H : Hp) (R : Value → Hp → Prop) : Prop :=
 LoopP (n := 1) ((.int .i64 0), ()) H (fun K1 s0 H1 => Any fun _ =>
  Pu (nilCheckE v0) fun x3 =>
  Pu (addrE (some 2) x3) fun x4 =>
  Pu (loadE (some none) x4 H1) fun x5 =>
  Pu (lenE Try.prog 84 x5) fun x6 =>
  Pu (binE (some (.int .i64)) .lss s0.1 x6) fun x7 =>
  Ite x7
   (Pu (nilCheckE v0) fun x8 =>
   Pu (addrE (some 2) x8) fun x9 =>
   Pu (loadE (some none) x9 H1) fun x10 =>
   Pu (idxAddrE (some (none, 1026)) x10 s0.1) fun x11 =>
   Pu (addrE (some 0) x11) fun x12 =>
   Pu (loadE (some none) x12 H1) fun x13 =>
   Pu (binE (some (.int .i64)) .eql x13 v1) fun x14 =>
   Ite x14
    (R s0.1 H1)
    (Pu (binE (some (.int .i64)) .add s0.1 (.int .i64 1)) fun x15 =>
    K1 (x15, ()) H1))
   (R (.int .i64 (-1)) H1))
set_option maxRecDepth 100000 in
theorem fn52 {v0 v1 : Value} {H : Hp} {R : Value → Hp → Prop} (h : sh52 v0 v1 H R) : Fc Try.prog 52 #[v0, v1] H R :=
  fn_of_vc (fun f => [].contains f) (.seq .nil (.seq (.seq .nil (.loop [5] [6, 7, 8, 9, 10, 11, 12, 15, 16, 17, 18, 19, 20, 21, 22, 23, 24, 25, 4, 13, 14] .nil)) .nil)) Try.func52 (args := [v0, v1]) (Eq.mp (by kernel_rfl : sh52 v0 v1 H R = VcFn Try.prog (fun f => [].contains f) Try.f52 (.seq .nil (.seq (.seq .nil (.loop [5] [6, 7, 8, 9, 10, 11, 12, 15, 16, 17, 18, 19, 20, 21, 22, 23, 24, 25, 4, 13, 14] .nil)) .nil)) [v0, v1] H R) h)

/- (*undercroft/undercroftref06.Cache).last -/
def sh53 (v0 v1 : Value) (H : Hp) (R : Value → Hp → Prop) : Prop :=
 Box 88 v1 H fun x1 H1 =>
 Pu (addrE (some 0) x1) fun x2 =>
 Pu (loadE (some none) x2 H1) fun x3 =>
 Fc Try.prog 52 #[v0, x3] H1 fun x4 H2 =>
 Join (n := 0) (fun s4 H3 => Any fun _ =>
  Pu (nilCheckE v0) fun x6 =>
  Pu (addrE (some 2) x6) fun x7 =>
  Pu (loadE (some none) x7 H3) fun x8 =>
  Pu (loadE (some (some 1026)) x1 H3) fun x9 =>
  ForX true H3 fun H4 =>
  Pu (elemI Try.prog 84) fun x10 => Pu (newSliceE (some x10) 1 [(0, x9)]) fun x11 => NewS x10.type 1 x11 H4 fun x12 H5 =>
  ForX true H5 fun H6 =>
  AppS (elemI Try.prog 84) x8 x12 H6 fun x13 H7 =>
  Pu (nilCheckE v0) fun x14 =>
  Pu (addrE (some 2) x14) fun x15 =>
  ForX true H7 fun H8 =>
  Pu (storeE (some 1) x15 x13 H8) fun H9 =>
  ForX true H9 fun H10 =>
  R (.tuple #[]) H10)
 (fun K15 => Pu (binE (some (.int .i64)) .geq x4 (.int .i64 0)) fun x17 =>
 Ite x17
  (Fc Try.prog 55 #[v0, x4] H2 fun x18 H11 =>
  K15 (()) H11)
  (K15 (()) H2))
set_option maxRecDepth 100000 in
theorem fn53 {v0 v1 : Value} {H : Hp} {R : Value → Hp → Prop} (h : sh53 v0 v1 H R) : Fc Try.prog 53 #[v0, v1] H R :=
  fn_of_vc (fun f => [].contains f) (.seq .nil (.seq .nil (.join [] [9, 10, 11, 12, 13] .nil .nil))) Try.func53 (args := [v0, v1]) (Eq.mp (by kernel_rfl : sh53 v0 v1 H R = VcFn Try.prog (fun f => [].contains f) Try.f53 (.seq .nil (.seq .nil (.join [] [9, 10, 11, 12, 13] .nil .nil))) [v0, v1] H R) h)

/- (*undercroft/undercroftref06.Cache).place -/
def sh54 (v0 : Value) (H : Hp) (R : Value → Hp → Prop) : Prop :=
 Pu (nilCheckE v0) fun x1 =>
 Pu (addrE (some 2) x1) fun x2 =>
 Pu (loadE (some none) x2 H) fun x3 =>
 Pu (lenE Try.prog 84 x3) fun x4 =>
 Pu (nilCheckE v0) fun x5 =>
 Pu (addrE (some 1) x5) fun x6 =>
 Pu (loadE (some none) x6 H) fun x7 =>
 Pu (binE (some (.int .i64)) .lss x4 x7) fun x8 =>
 Ite x8
  (R (.tuple #[]) H)
  (LoopP (n := 1) ((.int .i64 0), ()) H (fun K9 s8 H1 => Any fun _ =>
   Pu (nilCheckE v0) fun x11 =>
   Pu (addrE (some 2) x11) fun x12 =>
   Pu (loadE (some none) x12 H1) fun x13 =>
   Pu (lenE Try.prog 84 x13) fun x14 =>
   Pu (binE (some (.int .i64)) .lss s8.1 x14) fun x15 =>
   Ite x15
    (Pu (nilCheckE v0) fun x16 =>
    Pu (addrE (some 2) x16) fun x17 =>
    Pu (loadE (some none) x17 H1) fun x18 =>
    Pu (idxAddrE (some (none, 1026)) x18 s8.1) fun x19 =>
    Pu (addrE (some 1025) x19) fun x20 =>
    Pu (loadE (some none) x20 H1) fun x21 =>
    Pu (unE .not x21) fun x22 =>
    Ite x22
     (Fc Try.prog 55 #[v0, s8.1] H1 fun x23 H2 =>
     R (.tuple #[]) H2)
     (Pu (binE (some (.int .i64)) .add s8.1 (.int .i64 1)) fun x24 =>
     K9 (x24, ()) H1))
    (R (.tuple #[]) H1)))
set_option maxRecDepth 100000 in
theorem fn54 {v0 : Value} {H : Hp} {R : Value → Hp → Prop} (h : sh54 v0 H R) : Fc Try.prog 54 #[v0] H R :=
  fn_of_vc (fun f => [].contains f) (.seq .nil (.seq .nil (.loop [2] [13, 14, 15, 16, 17, 18, 19, 22, 23, 24, 25, 26, 27, 28, 29, 30, 31, 32, 33, 20, 21] .nil))) Try.func54 (args := [v0]) (Eq.mp (by kernel_rfl : sh54 v0 H R = VcFn Try.prog (fun f => [].contains f) Try.f54 (.seq .nil (.seq .nil (.loop [2] [13, 14, 15, 16, 17, 18, 19, 22, 23, 24, 25, 26, 27, 28, 29, 30, 31, 32, 33, 20, 21] .nil))) [v0] H R) h)

/- (*undercroft/undercroftref06.Cache).leave -/
def sh55 (v0 v1 : Value) (H : Hp) (R : Value → Hp → Prop) : Prop :=
 Pu (nilCheckE v0) fun x1 =>
 Pu (addrE (some 2) x1) fun x2 =>
 Pu (loadE (some none) x2 H) fun x3 =>
 Pu (sliceE Try.prog 84 x3 none (some v1) none) fun x4 =>
 AppS (elemI Try.prog 84) (.slice none 0 0) x4 H fun x5 H1 =>
 Pu (nilCheckE v0) fun x6 =>
 Pu (addrE (some 2) x6) fun x7 =>
 Pu (loadE (some none) x7 H1) fun x8 =>
 Pu (binE (some (.int .i64)) .add v1 (.int .i64 1)) fun x9 =>
 Pu (sliceE Try.prog 84 x8 (some x9) none none) fun x10 =>
 AppS (elemI Try.prog 84) x5 x10 H1 fun x11 H2 =>
 Pu (nilCheckE v0) fun x12 =>
 Pu (addrE (some 2) x12) fun x13 =>
 Pu (storeE (some 1) x13 x11 H2) fun H3 =>
 R (.tuple #[]) H3
set_option maxRecDepth 100000 in
theorem fn55 {v0 v1 : Value} {H : Hp} {R : Value → Hp → Prop} (h : sh55 v0 v1 H R) : Fc Try.prog 55 #[v0, v1] H R :=
  fn_of_vc (fun f => [].contains f) .nil Try.func55 (args := [v0, v1]) (Eq.mp (by kernel_rfl : sh55 v0 v1 H R = VcFn Try.prog (fun f => [].contains f) Try.f55 .nil [v0, v1] H R) h)
end Go.Proofs

/- Vc, part U: things that lie in memory side by side, each in blocks of its own: who owns a block is a colour. -/
set_option linter.unusedVariables false
set_option linter.unusedSimpArgs false
namespace Go.Vc
open Classical

/-- A thing that lies in memory, within the blocks O; what is not in them is nothing to it. -/
structure Ob where
  at_ : Hp → (Nat → Prop) → Prop
  own : ∀ {H : Hp} {O : Nat → Prop}, at_ H O → ∀ b, O b → b < H.size
  frame : ∀ {H H' : Hp} {O O' : Nat → Prop}, at_ H O → (∀ b, O b → H'[b]? = H[b]?) → H.size ≤ H'.size → (∀ b, O b → O' b) → (∀ b, O' b → b < H'.size) → at_ H' O'

/-- Some things: number i has the colour i + 1; colour 0: nobody's. -/
structure Wd (col : Nat → Nat) (H : Hp) (l : List Ob) : Prop where
  obs : ∀ (i : Nat) (x : Ob), l[i]? = some x → x.at_ H fun b => col b = i + 1
  out : ∀ b, H.size ≤ b → col b = 0
/-- The colours of the old blocks are what they were. -/
def Cg (H : Hp) (col col' : Nat → Nat) : Prop := ∀ b, b < H.size → col' b = col b
theorem Cg.refl (H : Hp) (col : Nat → Nat) : Cg H col col := fun _ _ => rfl
theorem Cg.trans {H H' : Hp} {a b c : Nat → Nat} (h : Cg H a b) (h' : Cg H' b c) (hle : H.size ≤ H'.size) : Cg H a c := fun k hk => (h' k (Nat.lt_of_lt_of_le hk hle)).trans (h k hk)
section
variable {col : Nat → Nat} {H H' : Hp} {l : List Ob}
theorem Wd.nil (H : Hp) : Wd (fun _ => 0) H [] := ⟨fun i x h => by simp at h, fun _ _ => rfl⟩
theorem Wd.kp (h : Wd col H l) {S : Nat → Prop} (k : Kp S H H') (hS : ∀ b, b < H.size → S b → col b = 0) : Wd col H' l :=
  ⟨fun i x hx => by
    have ho := h.obs i x hx
    exact x.frame ho (fun b hb => k.same b (x.own ho b hb) fun hs => by have := hS b (x.own ho b hb) hs; have hb : col b = i + 1 := hb; omega) k.le (fun b hb => hb) fun b hb => Nat.lt_of_lt_of_le (x.own ho b hb) k.le,
   fun b hb => h.out b (Nat.le_trans k.le hb)⟩
theorem Wd.ext (h : Wd col H l) (e : Ext H H') : Wd col H' l := h.kp (e.kp fun _ => False) fun b _ hb => hb.elim
theorem Wd.zero (h : Wd col H l) {b : Nat} (hb : H.size ≤ b) : col b = 0 := h.out b hb
theorem Wd.get (h : Wd col H l) {i : Nat} {x : Ob} (hx : l[i]? = some x) : x.at_ H fun b => col b = i + 1 := h.obs i x hx
/-- One thing has turned. -/
theorem Wd.step (h : Wd col H l) {i : Nat} {x x' : Ob} (hx : l[i]? = some x) (k : Kp (fun b => col b = i + 1) H H') {O' : Nat → Prop} (hx' : x'.at_ H' O') (hO : ∀ b, O' b → col b = i + 1 ∨ H.size ≤ b) :
    ∃ col', Wd col' H' (l.set i x') ∧ Cg H col col' := by
  have hil : i < l.length := by
    rcases Nat.lt_or_ge i l.length with h1 | h1
    · exact h1
    · rw [List.getElem?_eq_none h1] at hx; cases hx
  refine ⟨fun b => if b < H.size then col b else if O' b then i + 1 else 0, ⟨fun j y hy => ?_, fun b hb => ?_⟩, fun b hb => if_pos hb⟩
  · by_cases hij : i = j
    · subst hij
      rw [List.getElem?_set_self hil] at hy
      injection hy with hy; subst hy
      refine x'.frame hx' (fun _ _ => rfl) (Nat.le_refl _) (fun b hb => ?_) fun b hb => ?_
      · show (if b < H.size then col b else if O' b then i + 1 else 0) = i + 1
        split
        · rename_i hlt
          exact (hO b hb).resolve_right (by omega)
        · first | rfl | rw [if_pos hb]
      · have hb : (if b < H.size then col b else if O' b then i + 1 else 0) = i + 1 := hb
        split at hb
        · have := k.le; omega
        · split at hb
          · rename_i h2; exact x'.own hx' b h2
          · omega
    · rw [List.getElem?_set_ne hij] at hy
      have ho := h.obs j y hy
      refine y.frame ho (fun b hb => k.same b (y.own ho b hb) fun e => ?_) k.le (fun b hb => ?_) fun b hb => ?_
      · have hb : col b = j + 1 := hb
        have e : col b = i + 1 := e
        omega
      · show (if b < H.size then col b else if O' b then i + 1 else 0) = j + 1
        rw [if_pos (y.own ho b hb)]; exact hb
      · have hb : (if b < H.size then col b else if O' b then i + 1 else 0) = j + 1 := hb
        split at hb
        · have := k.le; omega
        · split at hb <;> omega
  · have := k.le
    rw [if_neg (by omega)]
    split
    · rename_i h2
      have := x'.own hx' b h2; omega
    · rfl
/-- Two things have turned. -/
theorem Wd.step2 (h : Wd col H l) {i j : Nat} (hij : i ≠ j) {x x' y y' : Ob} (hx : l[i]? = some x) (hy : l[j]? = some y) (k : Kp (fun b => col b = i + 1 ∨ col b = j + 1) H H') {O' Q' : Nat → Prop} (hx' : x'.at_ H' O') (hy' : y'.at_ H' Q')
    (hO : ∀ b, O' b → col b = i + 1 ∨ H.size ≤ b) (hQ : ∀ b, Q' b → col b = j + 1 ∨ H.size ≤ b) (dis : ∀ b, H.size ≤ b → O' b → ¬ Q' b) :
    ∃ col', Wd col' H' ((l.set i x').set j y') ∧ Cg H col col' := by
  have hil : i < l.length := by
    rcases Nat.lt_or_ge i l.length with h1 | h1
    · exact h1
    · rw [List.getElem?_eq_none h1] at hx; cases hx
  have hjl : j < l.length := by
    rcases Nat.lt_or_ge j l.length with h1 | h1
    · exact h1
    · rw [List.getElem?_eq_none h1] at hy; cases hy
  refine ⟨fun b => if b < H.size then col b else if O' b then i + 1 else if Q' b then j + 1 else 0, ⟨fun n z hz => ?_, fun b hb => ?_⟩, fun b hb => if_pos hb⟩
  · by_cases hnj : j = n
    · subst hnj
      rw [List.getElem?_set_self (by rw [List.length_set]; exact hjl)] at hz
      injection hz with hz; subst hz
      refine y'.frame hy' (fun _ _ => rfl) (Nat.le_refl _) (fun b hb => ?_) fun b hb => ?_
      · show (if b < H.size then col b else if O' b then i + 1 else if Q' b then j + 1 else 0) = j + 1
        split
        · rename_i hlt
          exact (hQ b hb).resolve_right (by omega)
        · rename_i hlt
          first | rfl | rw [if_neg fun ho => dis b (by omega) ho hb, if_pos hb] | rw [if_neg fun ho => dis b (by omega) ho hb]
      · have hb : (if b < H.size then col b else if O' b then i + 1 else if Q' b then j + 1 else 0) = j + 1 := hb
        split at hb
        · have := k.le; omega
        · split at hb
          · omega
          · split at hb
            · rename_i h2; exact y'.own hy' b h2
            · omega
    · rw [List.getElem?_set_ne hnj] at hz
      by_cases hin : i = n
      · subst hin
        rw [List.getElem?_set_self hil] at hz
        injection hz with hz; subst hz
        refine x'.frame hx' (fun _ _ => rfl) (Nat.le_refl _) (fun b hb => ?_) fun b hb => ?_
        · show (if b < H.size then col b else if O' b then i + 1 else if Q' b then j + 1 else 0) = i + 1
          split
          · rename_i hlt
            exact (hO b hb).resolve_right (by omega)
          · first | rfl | rw [if_pos hb]
        · have hb : (if b < H.size then col b else if O' b then i + 1 else if Q' b then j + 1 else 0) = i + 1 := hb
          split at hb
          · have := k.le; omega
          · split at hb
            · rename_i h2; exact x'.own hx' b h2
            · split at hb <;> omega
      · rw [List.getElem?_set_ne hin] at hz
        have ho := h.obs n z hz
        refine z.frame ho (fun b hb => k.same b (z.own ho b hb) fun e => ?_) k.le (fun b hb => ?_) fun b hb => ?_
        · have hb : col b = n + 1 := hb
          have e : col b = i + 1 ∨ col b = j + 1 := e
          omega
        · show (if b < H.size then col b else if O' b then i + 1 else if Q' b then j + 1 else 0) = n + 1
          rw [if_pos (z.own ho b hb)]; exact hb
        · have hb : (if b < H.size then col b else if O' b then i + 1 else if Q' b then j + 1 else 0) = n + 1 := hb
          split at hb
          · have := k.le; omega
          · split at hb
            · omega
            · split at hb <;> omega
  · have := k.le
    rw [if_neg (by omega)]
    split
    · rename_i h2
      have := x'.own hx' b h2; omega
    · split
      · rename_i h2
        have := y'.own hy' b h2; omega
      · rfl
/-- One thing more. -/
theorem Wd.add (h : Wd col H l) (e : Ext H H') {x : Ob} {O' : Nat → Prop} (hx : x.at_ H' O') (hO : ∀ b, O' b → H.size ≤ b) : ∃ col', Wd col' H' (l ++ [x]) ∧ Cg H col col' := by
  refine ⟨fun b => if b < H.size then col b else if O' b then l.length + 1 else 0, ⟨fun n z hz => ?_, fun b hb => ?_⟩, fun b hb => if_pos hb⟩
  · by_cases hn : n < l.length
    · rw [List.getElem?_append_left hn] at hz
      have ho := h.obs n z hz
      refine z.frame ho (fun b hb => e.same b (z.own ho b hb)) e.le (fun b hb => ?_) fun b hb => ?_
      · show (if b < H.size then col b else if O' b then l.length + 1 else 0) = n + 1
        rw [if_pos (z.own ho b hb)]; exact hb
      · have hb : (if b < H.size then col b else if O' b then l.length + 1 else 0) = n + 1 := hb
        split at hb
        · have := e.le; omega
        · split at hb <;> omega
    · rw [List.getElem?_append_right (by omega)] at hz
      cases hk : n - l.length with
      | succ q => rw [hk] at hz; simp at hz
      | zero =>
        rw [hk] at hz
        simp only [List.getElem?_cons_zero, Option.some.injEq] at hz
        subst hz
        obtain rfl : n = l.length := by omega
        refine x.frame hx (fun _ _ => rfl) (Nat.le_refl _) (fun b hb => ?_) fun b hb => ?_
        · show (if b < H.size then col b else if O' b then l.length + 1 else 0) = l.length + 1
          rw [if_neg (by have := hO b hb; omega), if_pos hb]
        · have hb : (if b < H.size then col b else if O' b then l.length + 1 else 0) = l.length + 1 := hb
          split at hb
          · rename_i hlt
            have := e.le; omega
          · split at hb
            · rename_i h2; exact x.own hx b h2
            · omega
  · have := e.le
    rw [if_neg (by omega)]
    split
    · rename_i h2
      have := x.own hx b h2; omega
    · rfl
end
end Go.Vc

/- The conditions of functions' bodies, in words, each tied to the program. -/
set_option linter.unusedVariables false
set_option linter.unusedSimpArgs false
namespace Go.Proofs
open Go.Vc

/- undercroft/undercroftlaw06.same -/
def sh21 (v0 v1 : Value) (H : Hp) (R : Value → Hp → Prop) : Prop :=
 Pu (lenE Try.prog 46 v0) fun x1 =>
 Pu (lenE Try.prog 46 v1) fun x2 =>
 Pu (binE (some (.int .i64)) .neq x1 x2) fun x3 =>
 Ite x3
  (R (.bool false) H)
  (LoopP (n := 1) ((.int .i64 0), ()) H (fun K4 s3 H1 => Any fun _ =>
   Pu (lenE Try.prog 46 v0) fun x6 =>
   Pu (binE (some (.int .i64)) .lss s3.1 x6) fun x7 =>
   Ite x7
    (Pu (idxAddrE (some (none, 1)) v0 s3.1) fun x8 =>
    Pu (loadE (some none) x8 H1) fun x9 =>
    Pu (idxAddrE (some (none, 1)) v1 s3.1) fun x10 =>
    Pu (loadE (some none) x10 H1) fun x11 =>
    Pu (binE (some (.int .i64)) .neq x9 x11) fun x12 =>
    Ite x12
     (R (.bool false) H1)
     (Pu (binE (some (.int .i64)) .add s3.1 (.int .i64 1)) fun x13 =>
     K4 (x13, ()) H1))
    (R (.bool true) H1)))
set_option maxRecDepth 100000 in
theorem fn21 {v0 v1 : Value} {H : Hp} {R : Value → Hp → Prop} (h : sh21 v0 v1 H R) : Fc Try.prog 21 #[v0, v1] H R :=
  fn_of_vc (fun f => [31].contains f) (.seq .nil (.seq .nil (.seq (.seq .nil (.loop [5] [11, 12, 13, 14, 17, 18, 19, 20, 21, 22, 23, 24, 25, 4, 15, 16] .nil)) .nil))) Try.func21 (args := [v0, v1]) (Eq.mp (by kernel_rfl : sh21 v0 v1 H R = VcFn Try.prog (fun f => [31].contains f) Try.f21 (.seq .nil (.seq .nil (.seq (.seq .nil (.loop [5] [11, 12, 13, 14, 17, 18, 19, 20, 21, 22, 23, 24, 25, 4, 15, 16] .nil)) .nil))) [v0, v1] H R) h)

/- (*undercroft/undercroftlaw06.world).step -/
def sh9 (v0 v1 : Value) (H : Hp) (R : Value → Hp → Prop) : Prop :=
 Box 44 v1 H fun x1 H1 =>
 Pu (addrE (some 0) x1) fun x2 =>
 Pu (loadE (some none) x2 H1) fun x3 =>
 Pu (binE (some (.int .u8)) .eql x3 (.int .u8 5)) fun x4 =>
 Ite x4
  (Pu (nilCheckE v0) fun x5 =>
  Pu (addrE (some 0) x5) fun x6 =>
  Pu (loadE (some none) x6 H1) fun x7 =>
  Pu (addrE (some 2) x1) fun x8 =>
  Pu (loadE (some none) x8 H1) fun x9 =>
  Pu (addrE (some 3) x1) fun x10 =>
  Pu (loadE (some none) x10 H1) fun x11 =>
  ∃ x12, QC true Try.prog 31 #[x11] H1 x12 ∧ (
  Pu (nilCheckE v0) fun x13 =>
  Pu (addrE (some 1) x13) fun x14 =>
  Pu (addrE (some 2) x1) fun x15 =>
  Pu (addrE (some 3) x1) fun x16 =>
  And
   (Pu (loadE (some none) x14 H1) fun x82 =>
   And
    (Pu (loadE (some none) x15 H1) fun x100 =>
    And
     (ForX true H1 fun H77 =>
     Fc Try.prog 36 #[x7, x9, x12] H77 fun x106 H78 =>
     Pu (loadE (some none) x16 H78) fun x107 =>
     ∃ x108, QC true Try.prog 31 #[x107] H78 x108 ∧ (
     ForX true H78 fun H79 =>
     Fc Try.prog 37 #[x82, x100, x108] H79 fun x109 H80 =>
     Pu (binE (some (.int .i64)) .eql x106 x109) fun x110 =>
     ForX true H80 fun H81 =>
     R x110 H81))
     (And
      (Pu (loadE (some none) x16 H1) fun x101 =>
      ForX true H1 fun H72 =>
      Fc Try.prog 36 #[x7, x9, x12] H72 fun x102 H73 =>
      ∃ x103, QC true Try.prog 31 #[x101] H73 x103 ∧ (
      ForX true H73 fun H74 =>
      Fc Try.prog 37 #[x82, x100, x103] H74 fun x104 H75 =>
      Pu (binE (some (.int .i64)) .eql x102 x104) fun x105 =>
      ForX true H75 fun H76 =>
      R x105 H76))
      (True)))
    (And
     (ForX true H1 fun H67 =>
     Fc Try.prog 36 #[x7, x9, x12] H67 fun x94 H68 =>
     Pu (loadE (some none) x15 H68) fun x95 =>
     Pu (loadE (some none) x16 H68) fun x96 =>
     ∃ x97, QC true Try.prog 31 #[x96] H68 x97 ∧ (
     ForX true H68 fun H69 =>
     Fc Try.prog 37 #[x82, x95, x97] H69 fun x98 H70 =>
     Pu (binE (some (.int .i64)) .eql x94 x98) fun x99 =>
     ForX true H70 fun H71 =>
     R x99 H71))
     (And
      (Pu (loadE (some none) x16 H1) fun x83 =>
      And
       (Pu (loadE (some none) x15 H1) fun x89 =>
       ForX true H1 fun H62 =>
       Fc Try.prog 36 #[x7, x9, x12] H62 fun x90 H63 =>
       ∃ x91, QC true Try.prog 31 #[x83] H63 x91 ∧ (
       ForX true H63 fun H64 =>
       Fc Try.prog 37 #[x82, x89, x91] H64 fun x92 H65 =>
       Pu (binE (some (.int .i64)) .eql x90 x92) fun x93 =>
       ForX true H65 fun H66 =>
       R x93 H66))
       (And
        (ForX true H1 fun H57 =>
        Fc Try.prog 36 #[x7, x9, x12] H57 fun x84 H58 =>
        Pu (loadE (some none) x15 H58) fun x85 =>
        ∃ x86, QC true Try.prog 31 #[x83] H58 x86 ∧ (
        ForX true H58 fun H59 =>
        Fc Try.prog 37 #[x82, x85, x86] H59 fun x87 H60 =>
        Pu (binE (some (.int .i64)) .eql x84 x87) fun x88 =>
        ForX true H60 fun H61 =>
        R x88 H61))
        (True)))
      (True))))
   (And
    (Pu (loadE (some none) x15 H1) fun x53 =>
    And
     (Pu (loadE (some none) x14 H1) fun x71 =>
     And
      (ForX true H1 fun H52 =>
      Fc Try.prog 36 #[x7, x9, x12] H52 fun x77 H53 =>
      Pu (loadE (some none) x16 H53) fun x78 =>
      ∃ x79, QC true Try.prog 31 #[x78] H53 x79 ∧ (
      ForX true H53 fun H54 =>
      Fc Try.prog 37 #[x71, x53, x79] H54 fun x80 H55 =>
      Pu (binE (some (.int .i64)) .eql x77 x80) fun x81 =>
      ForX true H55 fun H56 =>
      R x81 H56))
      (And
       (Pu (loadE (some none) x16 H1) fun x72 =>
       ForX true H1 fun H47 =>
       Fc Try.prog 36 #[x7, x9, x12] H47 fun x73 H48 =>
       ∃ x74, QC true Try.prog 31 #[x72] H48 x74 ∧ (
       ForX true H48 fun H49 =>
       Fc Try.prog 37 #[x71, x53, x74] H49 fun x75 H50 =>
       Pu (binE (some (.int .i64)) .eql x73 x75) fun x76 =>
       ForX true H50 fun H51 =>
       R x76 H51))
       (True)))
     (And
      (ForX true H1 fun H42 =>
      Fc Try.prog 36 #[x7, x9, x12] H42 fun x65 H43 =>
      Pu (loadE (some none) x14 H43) fun x66 =>
      Pu (loadE (some none) x16 H43) fun x67 =>
      ∃ x68, QC true Try.prog 31 #[x67] H43 x68 ∧ (
      ForX true H43 fun H44 =>
      Fc Try.prog 37 #[x66, x53, x68] H44 fun x69 H45 =>
      Pu (binE (some (.int .i64)) .eql x65 x69) fun x70 =>
      ForX true H45 fun H46 =>
      R x70 H46))
      (And
       (Pu (loadE (some none) x16 H1) fun x54 =>
       And
        (Pu (loadE (some none) x14 H1) fun x60 =>
        ForX true H1 fun H37 =>
        Fc Try.prog 36 #[x7, x9, x12] H37 fun x61 H38 =>
        ∃ x62, QC true Try.prog 31 #[x54] H38 x62 ∧ (
        ForX true H38 fun H39 =>
        Fc Try.prog 37 #[x60, x53, x62] H39 fun x63 H40 =>
        Pu (binE (some (.int .i64)) .eql x61 x63) fun x64 =>
        ForX true H40 fun H41 =>
        R x64 H41))
        (And
         (ForX true H1 fun H32 =>
         Fc Try.prog 36 #[x7, x9, x12] H32 fun x55 H33 =>
         Pu (loadE (some none) x14 H33) fun x56 =>
         ∃ x57, QC true Try.prog 31 #[x54] H33 x57 ∧ (
         ForX true H33 fun H34 =>
         Fc Try.prog 37 #[x56, x53, x57] H34 fun x58 H35 =>
         Pu (binE (some (.int .i64)) .eql x55 x58) fun x59 =>
         ForX true H35 fun H36 =>
         R x59 H36))
         (True)))
       (True))))
    (And
     (ForX true H1 fun H27 =>
     Fc Try.prog 36 #[x7, x9, x12] H27 fun x46 H28 =>
     Pu (loadE (some none) x14 H28) fun x47 =>
     Pu (loadE (some none) x15 H28) fun x48 =>
     Pu (loadE (some none) x16 H28) fun x49 =>
     ∃ x50, QC true Try.prog 31 #[x49] H28 x50 ∧ (
     ForX true H28 fun H29 =>
     Fc Try.prog 37 #[x47, x48, x50] H29 fun x51 H30 =>
     Pu (binE (some (.int .i64)) .eql x46 x51) fun x52 =>
     ForX true H30 fun H31 =>
     R x52 H31))
     (And
      (Pu (loadE (some none) x16 H1) fun x17 =>
      And
       (Pu (loadE (some none) x14 H1) fun x35 =>
       And
        (Pu (loadE (some none) x15 H1) fun x41 =>
        ForX true H1 fun H22 =>
        Fc Try.prog 36 #[x7, x9, x12] H22 fun x42 H23 =>
        ∃ x43, QC true Try.prog 31 #[x17] H23 x43 ∧ (
        ForX true H23 fun H24 =>
        Fc Try.prog 37 #[x35, x41, x43] H24 fun x44 H25 =>
        Pu (binE (some (.int .i64)) .eql x42 x44) fun x45 =>
        ForX true H25 fun H26 =>
        R x45 H26))
        (And
         (ForX true H1 fun H17 =>
         Fc Try.prog 36 #[x7, x9, x12] H17 fun x36 H18 =>
         Pu (loadE (some none) x15 H18) fun x37 =>
         ∃ x38, QC true Try.prog 31 #[x17] H18 x38 ∧ (
         ForX true H18 fun H19 =>
         Fc Try.prog 37 #[x35, x37, x38] H19 fun x39 H20 =>
         Pu (binE (some (.int .i64)) .eql x36 x39) fun x40 =>
         ForX true H20 fun H21 =>
         R x40 H21))
         (True)))
       (And
        (Pu (loadE (some none) x15 H1) fun x24 =>
        And
         (Pu (loadE (some none) x14 H1) fun x30 =>
         ForX true H1 fun H12 =>
         Fc Try.prog 36 #[x7, x9, x12] H12 fun x31 H13 =>
         ∃ x32, QC true Try.prog 31 #[x17] H13 x32 ∧ (
         ForX true H13 fun H14 =>
         Fc Try.prog 37 #[x30, x24, x32] H14 fun x33 H15 =>
         Pu (binE (some (.int .i64)) .eql x31 x33) fun x34 =>
         ForX true H15 fun H16 =>
         R x34 H16))
         (And
          (ForX true H1 fun H7 =>
          Fc Try.prog 36 #[x7, x9, x12] H7 fun x25 H8 =>
          Pu (loadE (some none) x14 H8) fun x26 =>
          ∃ x27, QC true Try.prog 31 #[x17] H8 x27 ∧ (
          ForX true H8 fun H9 =>
          Fc Try.prog 37 #[x26, x24, x27] H9 fun x28 H10 =>
          Pu (binE (some (.int .i64)) .eql x25 x28) fun x29 =>
          ForX true H10 fun H11 =>
          R x29 H11))
          (True)))
        (And
         (ForX true H1 fun H2 =>
         Fc Try.prog 36 #[x7, x9, x12] H2 fun x18 H3 =>
         Pu (loadE (some none) x14 H3) fun x19 =>
         Pu (loadE (some none) x15 H3) fun x20 =>
         ∃ x21, QC true Try.prog 31 #[x17] H3 x21 ∧ (
         ForX true H3 fun H4 =>
         Fc Try.prog 37 #[x19, x20, x21] H4 fun x22 H5 =>
         Pu (binE (some (.int .i64)) .eql x18 x22) fun x23 =>
         ForX true H5 fun H6 =>
         R x23 H6))
         (True))))
      (True))))))
  (Pu (binE (some (.int .u8)) .eql x3 (.int .u8 6)) fun x111 =>
  Ite x111
   (Pu (nilCheckE v0) fun x112 =>
   Pu (addrE (some 0) x112) fun x113 =>
   Pu (loadE (some none) x113 H1) fun x114 =>
   Pu (nilCheckE v0) fun x115 =>
   Pu (addrE (some 1) x115) fun x116 =>
   And
    (ForX true H1 fun H87 =>
    Fc Try.prog 13 #[x114] H87 fun x121 H88 =>
    Pu (loadE (some none) x116 H88) fun x122 =>
    ForX true H88 fun H89 =>
    Fc Try.prog 14 #[x122] H89 fun x123 H90 =>
    Pu (binE (some (.int .i64)) .eql x121 x123) fun x124 =>
    ForX true H90 fun H91 =>
    R x124 H91)
    (And
     (Pu (loadE (some none) x116 H1) fun x117 =>
     ForX true H1 fun H82 =>
     Fc Try.prog 13 #[x114] H82 fun x118 H83 =>
     ForX true H83 fun H84 =>
     Fc Try.prog 14 #[x117] H84 fun x119 H85 =>
     Pu (binE (some (.int .i64)) .eql x118 x119) fun x120 =>
     ForX true H85 fun H86 =>
     R x120 H86)
     (True)))
   (Pu (binE (some (.int .u8)) .eql x3 (.int .u8 7)) fun x125 =>
   Ite x125
    (Pu (nilCheckE v0) fun x126 =>
    Pu (addrE (some 0) x126) fun x127 =>
    Pu (loadE (some none) x127 H1) fun x128 =>
    Pu (addrE (some 2) x1) fun x129 =>
    Pu (loadE (some none) x129 H1) fun x130 =>
    Fc Try.prog 11 #[x128, x130] H1 fun x131 H92 =>
    Pu (nilCheckE v0) fun x132 =>
    Pu (addrE (some 1) x132) fun x133 =>
    Pu (loadE (some none) x133 H92) fun x134 =>
    Pu (addrE (some 2) x1) fun x135 =>
    Pu (loadE (some none) x135 H92) fun x136 =>
    Fc Try.prog 12 #[x134, x136] H92 fun x137 H93 =>
    R (.bool true) H93)
    (Pu (binE (some (.int .u8)) .eql x3 (.int .u8 8)) fun x138 =>
    Ite x138
     (Pu (nilCheckE v0) fun x139 =>
     Pu (addrE (some 1) x139) fun x140 =>
     Pu (loadE (some none) x140 H1) fun x141 =>
     Fc Try.prog 24 #[x141] H1 fun x142 H94 =>
     Pu (nilCheckE v0) fun x143 =>
     Pu (addrE (some 0) x143) fun x144 =>
     Pu (loadE (some none) x144 H94) fun x145 =>
     Fc Try.prog 23 #[x145, (.slice none 0 0)] H94 fun x146 H95 =>
     Pu (binE (some (.int .i64)) .eql x146 (.int .i64 0)) fun x147 =>
     R x147 H95)
     (Join (n := 1) (fun s147 H96 => Any fun _ =>
      Pu (nilCheckE v0) fun x150 =>
      Pu (addrE (some 2) x150) fun x151 =>
      Pu (idxAddrE (some (some 2, 1)) x151 s147.1) fun x152 =>
      Pu (loadE (some none) x152 H96) fun x153 =>
      Pu (eqXE Try.prog 29 true .eql x153 (.pointer none) H96) fun x154 =>
      Ite x154
       (R (.bool true) H96)
       (Pu (loadE (some (some 4)) x1 H96) fun x155 =>
       Fc Try.prog 26 #[v0, x155, s147.1] H96 fun x156 H97 =>
       R x156 H97))
     (fun K156 => Pu (addrE (some 1) x1) fun x158 =>
     Pu (loadE (some none) x158 H1) fun x159 =>
     Ite x159
      (K156 ((.int .i64 1), ()) H1)
      (K156 ((.int .i64 0), ()) H1))))))
set_option maxRecDepth 100000 in
theorem fn9 {v0 v1 : Value} {H : Hp} {R : Value → Hp → Prop} (h : sh9 v0 v1 H R) : Fc Try.prog 9 #[v0, v1] H R :=
  fn_of_vcp (fun f => [31].contains f) [(3, (.fork [0, 1, 2, 3, 4, 5, 6, 7, 8, 10, 11, 12, 14, 16] (.cons 13 (.fork [] (.cons 15 (.fork [] (.cons 9 (.line [17, 18, 19, 20, 21]) (.cons 17 (.line [9, 18, 19, 20, 21]) .nil))) (.cons 9 (.line [15, 17, 18, 19, 20, 21]) (.cons 17 (.fork [] (.cons 15 (.line [9, 18, 19, 20, 21]) (.cons 9 (.line [15, 18, 19, 20, 21]) .nil))) .nil)))) (.cons 15 (.fork [] (.cons 13 (.fork [] (.cons 9 (.line [17, 18, 19, 20, 21]) (.cons 17 (.line [9, 18, 19, 20, 21]) .nil))) (.cons 9 (.line [13, 17, 18, 19, 20, 21]) (.cons 17 (.fork [] (.cons 13 (.line [9, 18, 19, 20, 21]) (.cons 9 (.line [13, 18, 19, 20, 21]) .nil))) .nil)))) (.cons 9 (.line [13, 15, 17, 18, 19, 20, 21]) (.cons 17 (.fork [] (.cons 13 (.fork [] (.cons 15 (.line [9, 18, 19, 20, 21]) (.cons 9 (.line [15, 18, 19, 20, 21]) .nil))) (.cons 15 (.fork [] (.cons 13 (.line [9, 18, 19, 20, 21]) (.cons 9 (.line [13, 18, 19, 20, 21]) .nil))) (.cons 9 (.line [13, 15, 18, 19, 20, 21]) .nil)))) .nil)))))), (5, (.fork [0, 1, 2, 3, 5, 6, 7] (.cons 4 (.line [8, 9, 10, 11]) (.cons 8 (.line [4, 9, 10, 11]) .nil))))] (.seq .nil (.seq .nil (.seq .nil (.join [5] [73, 74] .nil .nil)))) Try.func9 (args := [v0, v1]) (Eq.mp (by kernel_rfl : sh9 v0 v1 H R = VcFnP Try.prog (fun f => [31].contains f) [(3, (.fork [0, 1, 2, 3, 4, 5, 6, 7, 8, 10, 11, 12, 14, 16] (.cons 13 (.fork [] (.cons 15 (.fork [] (.cons 9 (.line [17, 18, 19, 20, 21]) (.cons 17 (.line [9, 18, 19, 20, 21]) .nil))) (.cons 9 (.line [15, 17, 18, 19, 20, 21]) (.cons 17 (.fork [] (.cons 15 (.line [9, 18, 19, 20, 21]) (.cons 9 (.line [15, 18, 19, 20, 21]) .nil))) .nil)))) (.cons 15 (.fork [] (.cons 13 (.fork [] (.cons 9 (.line [17, 18, 19, 20, 21]) (.cons 17 (.line [9, 18, 19, 20, 21]) .nil))) (.cons 9 (.line [13, 17, 18, 19, 20, 21]) (.cons 17 (.fork [] (.cons 13 (.line [9, 18, 19, 20, 21]) (.cons 9 (.line [13, 18, 19, 20, 21]) .nil))) .nil)))) (.cons 9 (.line [13, 15, 17, 18, 19, 20, 21]) (.cons 17 (.fork [] (.cons 13 (.fork [] (.cons 15 (.line [9, 18, 19, 20, 21]) (.cons 9 (.line [15, 18, 19, 20, 21]) .nil))) (.cons 15 (.fork [] (.cons 13 (.line [9, 18, 19, 20, 21]) (.cons 9 (.line [13, 18, 19, 20, 21]) .nil))) (.cons 9 (.line [13, 15, 18, 19, 20, 21]) .nil)))) .nil)))))), (5, (.fork [0, 1, 2, 3, 5, 6, 7] (.cons 4 (.line [8, 9, 10, 11]) (.cons 8 (.line [4, 9, 10, 11]) .nil))))] Try.f9 (.seq .nil (.seq .nil (.seq .nil (.join [5] [73, 74] .nil .nil)))) [v0, v1] H R) h)

/- (*undercroft/undercroftlaw06.world).ask -/
def sh26 (v0 v1 v2 : Value) (H : Hp) (R : Value → Hp → Prop) : Prop :=
 Box 44 v1 H fun x1 H1 =>
 Pu (nilCheckE v0) fun x2 =>
 Pu (addrE (some 2) x2) fun x3 =>
 Pu (idxAddrE (some (some 2, 1)) x3 v2) fun x4 =>
 Pu (loadE (some none) x4 H1) fun x5 =>
 Pu (nilCheckE v0) fun x6 =>
 Pu (addrE (some 4) x6) fun x7 =>
 Pu (idxAddrE (some (some 2, 1)) x7 v2) fun x8 =>
 Pu (loadE (some none) x8 H1) fun x9 =>
 Pu (addrE (some 0) x1) fun x10 =>
 Pu (loadE (some none) x10 H1) fun x11 =>
 Pu (binE (some (.int .u8)) .eql x11 (.int .u8 0)) fun x12 =>
 Ite x12
  (Pu (addrE (some 2) x1) fun x13 =>
  Pu (loadE (some none) x13 H1) fun x14 =>
  Fc Try.prog 15 #[x5, x14] H1 fun x15 H2 =>
  Pu (extractE x15 0) fun x16 =>
  Pu (extractE x15 1) fun x17 =>
  Pu (zeroE Try.prog 51) fun x18 => Box 51 x18 H2 fun x19 H3 =>
  Pu (storeE (some 1024) x19 x16 H3) fun H4 =>
  Pu (addrE (some 2) x1) fun x20 =>
  Pu (loadE (some none) x20 H4) fun x21 =>
  Fc Try.prog 47 #[x9, x21] H4 fun x22 H5 =>
  Pu (extractE x22 0) fun x23 =>
  Pu (extractE x22 1) fun x24 =>
  Pu (zeroE Try.prog 51) fun x25 => Box 51 x25 H5 fun x26 H6 =>
  Pu (storeE (some 1024) x26 x23 H6) fun H7 =>
  Pu (loadE (some (some 1024)) x19 H7) fun x27 =>
  Pu (loadE (some (some 1024)) x26 H7) fun x28 =>
  Pu (eqXE Try.prog 51 false .eql x27 x28 H7) fun x29 =>
  Ite x29
   (Pu (binE (some (.int .i64)) .eql x17 x24) fun x30 =>
   R x30 H7)
   (R (.bool false) H7))
  (Pu (binE (some (.int .u8)) .eql x11 (.int .u8 1)) fun x31 =>
  Ite x31
   (Pu (addrE (some 2) x1) fun x32 =>
   Pu (loadE (some none) x32 H1) fun x33 =>
   Pu (addrE (some 3) x1) fun x34 =>
   Pu (loadE (some none) x34 H1) fun x35 =>
   ∃ x36, QC true Try.prog 31 #[x35] H1 x36 ∧ (
   Pu (addrE (some 2) x1) fun x37 =>
   Pu (addrE (some 3) x1) fun x38 =>
   And
    (Pu (loadE (some none) x37 H1) fun x56 =>
    And
     (ForX true H1 fun H28 =>
     Fc Try.prog 16 #[x5, x33, x36] H28 fun x62 H29 =>
     Pu (loadE (some none) x38 H29) fun x63 =>
     ∃ x64, QC true Try.prog 31 #[x63] H29 x64 ∧ (
     ForX true H29 fun H30 =>
     Fc Try.prog 48 #[x9, x56, x64] H30 fun x65 H31 =>
     Pu (binE (some (.int .i64)) .eql x62 x65) fun x66 =>
     ForX true H31 fun H32 =>
     R x66 H32))
     (And
      (Pu (loadE (some none) x38 H1) fun x57 =>
      ForX true H1 fun H23 =>
      Fc Try.prog 16 #[x5, x33, x36] H23 fun x58 H24 =>
      ∃ x59, QC true Try.prog 31 #[x57] H24 x59 ∧ (
      ForX true H24 fun H25 =>
      Fc Try.prog 48 #[x9, x56, x59] H25 fun x60 H26 =>
      Pu (binE (some (.int .i64)) .eql x58 x60) fun x61 =>
      ForX true H26 fun H27 =>
      R x61 H27))
      (True)))
    (And
     (ForX true H1 fun H18 =>
     Fc Try.prog 16 #[x5, x33, x36] H18 fun x50 H19 =>
     Pu (loadE (some none) x37 H19) fun x51 =>
     Pu (loadE (some none) x38 H19) fun x52 =>
     ∃ x53, QC true Try.prog 31 #[x52] H19 x53 ∧ (
     ForX true H19 fun H20 =>
     Fc Try.prog 48 #[x9, x51, x53] H20 fun x54 H21 =>
     Pu (binE (some (.int .i64)) .eql x50 x54) fun x55 =>
     ForX true H21 fun H22 =>
     R x55 H22))
     (And
      (Pu (loadE (some none) x38 H1) fun x39 =>
      And
       (Pu (loadE (some none) x37 H1) fun x45 =>
       ForX true H1 fun H13 =>
       Fc Try.prog 16 #[x5, x33, x36] H13 fun x46 H14 =>
       ∃ x47, QC true Try.prog 31 #[x39] H14 x47 ∧ (
       ForX true H14 fun H15 =>
       Fc Try.prog 48 #[x9, x45, x47] H15 fun x48 H16 =>
       Pu (binE (some (.int .i64)) .eql x46 x48) fun x49 =>
       ForX true H16 fun H17 =>
       R x49 H17))
       (And
        (ForX true H1 fun H8 =>
        Fc Try.prog 16 #[x5, x33, x36] H8 fun x40 H9 =>
        Pu (loadE (some none) x37 H9) fun x41 =>
        ∃ x42, QC true Try.prog 31 #[x39] H9 x42 ∧ (
        ForX true H9 fun H10 =>
        Fc Try.prog 48 #[x9, x41, x42] H10 fun x43 H11 =>
        Pu (binE (some (.int .i64)) .eql x40 x43) fun x44 =>
        ForX true H11 fun H12 =>
        R x44 H12))
        (True)))
      (True)))))
   (Pu (binE (some (.int .u8)) .eql x11 (.int .u8 2)) fun x67 =>
   Ite x67
    (Pu (addrE (some 2) x1) fun x68 =>
    Pu (loadE (some none) x68 H1) fun x69 =>
    Pu (addrE (some 2) x1) fun x70 =>
    And
     (ForX true H1 fun H38 =>
     Fc Try.prog 17 #[x5, x69] H38 fun x75 H39 =>
     Pu (loadE (some none) x70 H39) fun x76 =>
     ForX true H39 fun H40 =>
     Fc Try.prog 49 #[x9, x76] H40 fun x77 H41 =>
     Pu (binE (some (.int .i64)) .eql x75 x77) fun x78 =>
     ForX true H41 fun H42 =>
     R x78 H42)
     (And
      (Pu (loadE (some none) x70 H1) fun x71 =>
      ForX true H1 fun H33 =>
      Fc Try.prog 17 #[x5, x69] H33 fun x72 H34 =>
      ForX true H34 fun H35 =>
      Fc Try.prog 49 #[x9, x71] H35 fun x73 H36 =>
      Pu (binE (some (.int .i64)) .eql x72 x73) fun x74 =>
      ForX true H36 fun H37 =>
      R x74 H37)
      (True)))
    (Pu (binE (some (.int .u8)) .eql x11 (.int .u8 3)) fun x79 =>
    Ite x79
     (ForX true H1 fun H43 =>
     Fc Try.prog 18 #[x5] H43 fun x80 H44 =>
     ForX true H44 fun H45 =>
     Fc Try.prog 19 #[x9] H45 fun x81 H46 =>
     Pu (binE (some (.int .i64)) .eql x80 x81) fun x82 =>
     Ite x82
      (Pu (nilCheckE x9) fun x83 =>
      Pu (addrE (some 2) x83) fun x84 =>
      And
       (Pu (loadE (some none) x84 H46) fun x89 =>
       Pu (lenE Try.prog 84 x89) fun x90 =>
       ForX true H46 fun H50 =>
       Fc Try.prog 20 #[x5] H50 fun x91 H51 =>
       Pu (binE (some (.int .i64)) .eql x91 x90) fun x92 =>
       ForX true H51 fun H52 =>
       R x92 H52)
       (And
        (ForX true H46 fun H47 =>
        Fc Try.prog 20 #[x5] H47 fun x85 H48 =>
        Pu (loadE (some none) x84 H48) fun x86 =>
        Pu (lenE Try.prog 84 x86) fun x87 =>
        Pu (binE (some (.int .i64)) .eql x85 x87) fun x88 =>
        ForX true H48 fun H49 =>
        R x88 H49)
        (True)))
      (And
       (ForX true H46 fun H54 =>
       R (.bool false) H54)
       (And
        (ForX true H46 fun H53 =>
        R (.bool false) H53)
        (True))))
     (Pu (binE (some (.int .u8)) .eql x11 (.int .u8 4)) fun x93 =>
     Ite x93
      (Fc Try.prog 22 #[x5] H1 fun x94 H55 =>
      Fc Try.prog 10 #[x9] H55 fun x95 H56 =>
      Pu (nilCheckE v0) fun x96 =>
      Pu (addrE (some 6) x96) fun x97 =>
      Pu (loadE (some none) x97 H56) fun x98 =>
      Pu (elemI Try.prog 39) fun x99 => Pu (newSliceE (some x99) 1 [(0, x94)]) fun x100 => NewS x99.type 1 x100 H56 fun x101 H57 =>
      AppS (elemI Try.prog 39) x98 x101 H57 fun x102 H58 =>
      Pu (nilCheckE v0) fun x103 =>
      Pu (addrE (some 6) x103) fun x104 =>
      Pu (storeE (some 1) x104 x102 H58) fun H59 =>
      Pu (nilCheckE v0) fun x105 =>
      Pu (addrE (some 7) x105) fun x106 =>
      Pu (loadE (some none) x106 H59) fun x107 =>
      Pu (elemI Try.prog 39) fun x108 => Pu (newSliceE (some x108) 1 [(0, x95)]) fun x109 => NewS x108.type 1 x109 H59 fun x110 H60 =>
      AppS (elemI Try.prog 39) x107 x110 H60 fun x111 H61 =>
      Pu (nilCheckE v0) fun x112 =>
      Pu (addrE (some 7) x112) fun x113 =>
      Pu (storeE (some 1) x113 x111 H61) fun H62 =>
      Fc Try.prog 21 #[x94, x95] H62 fun x114 H63 =>
      R x114 H63)
      (R (.bool true) H1)))))
set_option maxRecDepth 100000 in
theorem fn26 {v0 v1 v2 : Value} {H : Hp} {R : Value → Hp → Prop} (h : sh26 v0 v1 v2 H R) : Fc Try.prog 26 #[v0, v1, v2] H R :=
  fn_of_vcp (fun f => [31].contains f) [(9, (.fork [0, 1, 2, 3, 4, 5, 7, 8, 10] (.cons 9 (.fork [] (.cons 6 (.line [11, 12, 13, 14, 15]) (.cons 11 (.line [6, 12, 13, 14, 15]) .nil))) (.cons 6 (.line [9, 11, 12, 13, 14, 15]) (.cons 11 (.fork [] (.cons 9 (.line [6, 12, 13, 14, 15]) (.cons 6 (.line [9, 12, 13, 14, 15]) .nil))) .nil))))), (11, (.fork [0, 1, 2, 4, 5] (.cons 3 (.line [6, 7, 8, 9]) (.cons 6 (.line [3, 7, 8, 9]) .nil)))), (13, (.fork [0, 1, 2, 3, 4, 5, 6, 8, 9, 10] (.cons 11 (.line [12, 7, 13, 14, 15]) (.cons 7 (.line [11, 12, 13, 14, 15]) .nil))))] .nil Try.func26 (args := [v0, v1, v2]) (Eq.mp (by kernel_rfl : sh26 v0 v1 v2 H R = VcFnP Try.prog (fun f => [31].contains f) [(9, (.fork [0, 1, 2, 3, 4, 5, 7, 8, 10] (.cons 9 (.fork [] (.cons 6 (.line [11, 12, 13, 14, 15]) (.cons 11 (.line [6, 12, 13, 14, 15]) .nil))) (.cons 6 (.line [9, 11, 12, 13, 14, 15]) (.cons 11 (.fork [] (.cons 9 (.line [6, 12, 13, 14, 15]) (.cons 6 (.line [9, 12, 13, 14, 15]) .nil))) .nil))))), (11, (.fork [0, 1, 2, 4, 5] (.cons 3 (.line [6, 7, 8, 9]) (.cons 6 (.line [3, 7, 8, 9]) .nil)))), (13, (.fork [0, 1, 2, 3, 4, 5, 6, 8, 9, 10] (.cons 11 (.line [12, 7, 13, 14, 15]) (.cons 7 (.line [11, 12, 13, 14, 15]) .nil))))] Try.f26 .nil [v0, v1, v2] H R) h)

/- undercroft/undercroftlaw06.still -/
def sh25 (v0 v1 : Value) (H : Hp) (R : Value → Hp → Prop) : Prop :=
 LoopP (n := 1) ((.int .i64 0), ()) H (fun K1 s0 H1 => Any fun _ =>
  Pu (lenE Try.prog 39 v0) fun x3 =>
  Pu (binE (some (.int .i64)) .lss s0.1 x3) fun x4 =>
  Ite x4
   (Pu (idxAddrE (some (none, 1)) v0 s0.1) fun x5 =>
   Pu (loadE (some none) x5 H1) fun x6 =>
   Pu (idxAddrE (some (none, 1)) v1 s0.1) fun x7 =>
   Pu (loadE (some none) x7 H1) fun x8 =>
   Fc Try.prog 21 #[x6, x8] H1 fun x9 H2 =>
   Pu (unE .not x9) fun x10 =>
   Ite x10
    (R (.bool false) H2)
    (Pu (binE (some (.int .i64)) .add s0.1 (.int .i64 1)) fun x11 =>
    K1 (x11, ()) H2))
   (LoopP (n := 1) ((.int .i64 0), ()) H1 (fun K12 s11 H3 => Any fun _ =>
    Pu (lenE Try.prog 39 v0) fun x14 =>
    Pu (binE (some (.int .i64)) .lss s11.1 x14) fun x15 =>
    Ite x15
     (LoopP (n := 1) ((.int .i64 0), ()) H3 (fun K16 s15 H4 => Any fun _ =>
      Pu (idxAddrE (some (none, 1)) v0 s11.1) fun x18 =>
      Pu (loadE (some none) x18 H4) fun x19 =>
      Pu (lenE Try.prog 46 x19) fun x20 =>
      Pu (binE (some (.int .i64)) .lss s15.1 x20) fun x21 =>
      Ite x21
       (Pu (idxAddrE (some (none, 1)) v0 s11.1) fun x22 =>
       Pu (loadE (some none) x22 H4) fun x23 =>
       Pu (binE (some (.int .i64)) .sub (.int .i64 (-2)) s11.1) fun x24 =>
       Pu (idxAddrE (some (none, 1)) x23 s15.1) fun x25 =>
       Pu (storeE (some 1) x25 x24 H4) fun H5 =>
       Pu (binE (some (.int .i64)) .add s15.1 (.int .i64 1)) fun x26 =>
       K16 (x26, ()) H5)
       (Pu (binE (some (.int .i64)) .add s11.1 (.int .i64 1)) fun x27 =>
       K12 (x27, ()) H4)))
     (LoopP (n := 2) ((.slice none 0 0), (.int .i64 0), ()) H3 (fun K28 s27 H6 => Any fun _ =>
      Pu (lenE Try.prog 39 v0) fun x30 =>
      Pu (binE (some (.int .i64)) .lss s27.2.1 x30) fun x31 =>
      Ite x31
       (Pu (idxAddrE (some (none, 1)) v0 s27.2.1) fun x32 =>
       Pu (loadE (some none) x32 H6) fun x33 =>
       LoopP (n := 2) (x33, (.int .i64 0), ()) H6 (fun K34 s33 H7 => Any fun _ =>
        Pu (binE (some (.int .i64)) .lss s33.2.1 (.int .i64 12)) fun x36 =>
        Ite x36
         (Pu (binE (some (.int .i64)) .sub (.int .i64 (-1000)) s27.2.1) fun x37 =>
         Pu (elemI Try.prog 46) fun x38 => Pu (newSliceE (some x38) 1 [(0, x37)]) fun x39 => NewS x38.type 1 x39 H7 fun x40 H8 =>
         AppS (elemI Try.prog 46) s33.1 x40 H8 fun x41 H9 =>
         Pu (binE (some (.int .i64)) .add s33.2.1 (.int .i64 1)) fun x42 =>
         K34 (x41, x42, ()) H9)
         (Pu (elemI Try.prog 39) fun x43 => Pu (newSliceE (some x43) 1 [(0, s33.1)]) fun x44 => NewS x43.type 1 x44 H7 fun x45 H10 =>
         AppS (elemI Try.prog 39) s27.1 x45 H10 fun x46 H11 =>
         Pu (binE (some (.int .i64)) .add s27.2.1 (.int .i64 1)) fun x47 =>
         K28 (x46, x47, ()) H11)))
       (LoopP (n := 1) ((.int .i64 0), ()) H6 (fun K48 s47 H12 => Any fun _ =>
        Pu (lenE Try.prog 39 v0) fun x50 =>
        Pu (binE (some (.int .i64)) .lss s47.1 x50) fun x51 =>
        Ite x51
         (LoopP (n := 1) ((.int .i64 0), ()) H12 (fun K52 s51 H13 => Any fun _ =>
          Pu (idxAddrE (some (none, 1)) s27.1 s47.1) fun x54 =>
          Pu (loadE (some none) x54 H13) fun x55 =>
          Pu (lenE Try.prog 46 x55) fun x56 =>
          Pu (binE (some (.int .i64)) .lss s51.1 x56) fun x57 =>
          Ite x57
           (Join (n := 1) (fun s57 H14 => Any fun _ =>
            Ite s57.1
             (R (.bool false) H14)
             (Pu (binE (some (.int .i64)) .add s51.1 (.int .i64 1)) fun x60 =>
             K52 (x60, ()) H14))
           (fun K60 => Pu (idxAddrE (some (none, 1)) v0 s47.1) fun x62 =>
           Pu (loadE (some none) x62 H13) fun x63 =>
           Pu (lenE Try.prog 46 x63) fun x64 =>
           Pu (binE (some (.int .i64)) .lss s51.1 x64) fun x65 =>
           Ite x65
            (Pu (idxAddrE (some (none, 1)) v0 s47.1) fun x66 =>
            Pu (loadE (some none) x66 H13) fun x67 =>
            Pu (idxAddrE (some (none, 1)) x67 s51.1) fun x68 =>
            Pu (loadE (some none) x68 H13) fun x69 =>
            Pu (binE (some (.int .i64)) .sub (.int .i64 (-2)) s47.1) fun x70 =>
            Pu (binE (some (.int .i64)) .neq x69 x70) fun x71 =>
            Ite x71
             (K60 ((.bool true), ()) H13)
             (Pu (idxAddrE (some (none, 1)) s27.1 s47.1) fun x72 =>
             Pu (loadE (some none) x72 H13) fun x73 =>
             Pu (idxAddrE (some (none, 1)) x73 s51.1) fun x74 =>
             Pu (loadE (some none) x74 H13) fun x75 =>
             Pu (binE (some (.int .i64)) .sub (.int .i64 (-2)) s47.1) fun x76 =>
             Pu (binE (some (.int .i64)) .neq x75 x76) fun x77 =>
             Ite x77
              (K60 ((.bool true), ()) H13)
              (Pu (idxAddrE (some (none, 1)) v0 s47.1) fun x78 =>
              Pu (loadE (some none) x78 H13) fun x79 =>
              Pu (lenE Try.prog 46 x79) fun x80 =>
              Pu (binE (some (.int .i64)) .geq s51.1 x80) fun x81 =>
              Ite x81
               (Pu (idxAddrE (some (none, 1)) s27.1 s47.1) fun x82 =>
               Pu (loadE (some none) x82 H13) fun x83 =>
               Pu (idxAddrE (some (none, 1)) x83 s51.1) fun x84 =>
               Pu (loadE (some none) x84 H13) fun x85 =>
               Pu (binE (some (.int .i64)) .sub (.int .i64 (-1000)) s47.1) fun x86 =>
               Pu (binE (some (.int .i64)) .neq x85 x86) fun x87 =>
               K60 (x87, ()) H13)
               (K60 ((.bool false), ()) H13))))
            (Pu (idxAddrE (some (none, 1)) v0 s47.1) fun x88 =>
            Pu (loadE (some none) x88 H13) fun x89 =>
            Pu (lenE Try.prog 46 x89) fun x90 =>
            Pu (binE (some (.int .i64)) .geq s51.1 x90) fun x91 =>
            Ite x91
             (Pu (idxAddrE (some (none, 1)) s27.1 s47.1) fun x92 =>
             Pu (loadE (some none) x92 H13) fun x93 =>
             Pu (idxAddrE (some (none, 1)) x93 s51.1) fun x94 =>
             Pu (loadE (some none) x94 H13) fun x95 =>
             Pu (binE (some (.int .i64)) .sub (.int .i64 (-1000)) s47.1) fun x96 =>
             Pu (binE (some (.int .i64)) .neq x95 x96) fun x97 =>
             K60 (x97, ()) H13)
             (K60 ((.bool false), ()) H13))))
           (Pu (binE (some (.int .i64)) .add s47.1 (.int .i64 1)) fun x98 =>
           K48 (x98, ()) H13)))
         (R (.bool true) H12))))))))
set_option maxRecDepth 100000 in
theorem fn25 {v0 v1 : Value} {H : Hp} {R : Value → Hp → Prop} (h : sh25 v0 v1 H R) : Fc Try.prog 25 #[v0, v1] H R :=
  fn_of_vc (fun f => [31].contains f) (.seq .nil (.seq (.seq .nil (.loop [5] [15, 16, 17, 18, 21, 22, 23, 24, 25, 26, 27, 28, 29, 6, 30, 31, 4, 19, 20] .nil)) (.seq (.seq .nil (.loop [7] [32, 33, 34, 35, 8, 38, 39, 40, 41, 42, 43, 44, 47, 48, 49, 50, 51, 52, 53, 54, 45, 46, 36, 37] (.seq .nil (.seq (.seq .nil (.loop [8] [38, 39, 40, 41, 42, 43, 44, 47, 48, 49, 50, 51, 52, 53, 54, 45, 46] .nil)) .nil)))) (.seq .nil (.seq (.seq .nil (.loop [9, 10] [55, 56, 57, 58, 61, 62, 63, 64, 11, 12, 65, 66, 69, 70, 71, 72, 73, 67, 68, 74, 75, 76, 77, 59, 60] (.seq .nil (.seq (.seq .nil (.seq (.seq .nil (.loop [11, 12] [65, 66, 69, 70, 71, 72, 73, 67, 68] .nil)) .nil)) .nil)))) (.seq (.seq .nil (.loop [13] [78, 79, 80, 81, 14, 84, 85, 86, 87, 88, 89, 90, 93, 94, 95, 96, 97, 98, 99, 100, 101, 102, 103, 104, 105, 106, 107, 108, 109, 110, 111, 112, 113, 114, 115, 116, 117, 118, 119, 120, 121, 122, 123, 124, 125, 126, 127, 128, 129, 130, 131, 132, 133, 134, 135, 136, 137, 138, 139, 140, 141, 142, 143, 144, 4, 91, 92, 82, 83] (.seq .nil (.seq (.seq .nil (.loop [14] [84, 85, 86, 87, 88, 89, 90, 93, 94, 95, 96, 97, 98, 99, 100, 101, 102, 103, 104, 105, 106, 107, 108, 109, 110, 111, 112, 113, 114, 115, 116, 117, 118, 119, 120, 121, 122, 123, 124, 125, 126, 127, 128, 129, 130, 131, 132, 133, 134, 135, 136, 137, 138, 139, 140, 141, 142, 143, 144, 4, 91, 92] (.seq .nil (.seq (.join [144] [93, 94, 95, 96, 97, 98, 99, 100, 101, 102, 103, 104, 105, 106, 107, 108, 109, 110, 111, 112, 113, 114, 115, 116, 117, 118, 119, 120, 121, 122, 123, 124, 125, 126, 127, 128, 129, 130, 131, 132, 133, 134, 135, 136, 137, 138, 139, 140, 141, 142, 143] .nil .nil) .nil)))) .nil)))) .nil)))))) Try.func25 (args := [v0, v1]) (Eq.mp (by kernel_rfl : sh25 v0 v1 H R = VcFn Try.prog (fun f => [31].contains f) Try.f25 (.seq .nil (.seq (.seq .nil (.loop [5] [15, 16, 17, 18, 21, 22, 23, 24, 25, 26, 27, 28, 29, 6, 30, 31, 4, 19, 20] .nil)) (.seq (.seq .nil (.loop [7] [32, 33, 34, 35, 8, 38, 39, 40, 41, 42, 43, 44, 47, 48, 49, 50, 51, 52, 53, 54, 45, 46, 36, 37] (.seq .nil (.seq (.seq .nil (.loop [8] [38, 39, 40, 41, 42, 43, 44, 47, 48, 49, 50, 51, 52, 53, 54, 45, 46] .nil)) .nil)))) (.seq .nil (.seq (.seq .nil (.loop [9, 10] [55, 56, 57, 58, 61, 62, 63, 64, 11, 12, 65, 66, 69, 70, 71, 72, 73, 67, 68, 74, 75, 76, 77, 59, 60] (.seq .nil (.seq (.seq .nil (.seq (.seq .nil (.loop [11, 12] [65, 66, 69, 70, 71, 72, 73, 67, 68] .nil)) .nil)) .nil)))) (.seq (.seq .nil (.loop [13] [78, 79, 80, 81, 14, 84, 85, 86, 87, 88, 89, 90, 93, 94, 95, 96, 97, 98, 99, 100, 101, 102, 103, 104, 105, 106, 107, 108, 109, 110, 111, 112, 113, 114, 115, 116, 117, 118, 119, 120, 121, 122, 123, 124, 125, 126, 127, 128, 129, 130, 131, 132, 133, 134, 135, 136, 137, 138, 139, 140, 141, 142, 143, 144, 4, 91, 92, 82, 83] (.seq .nil (.seq (.seq .nil (.loop [14] [84, 85, 86, 87, 88, 89, 90, 93, 94, 95, 96, 97, 98, 99, 100, 101, 102, 103, 104, 105, 106, 107, 108, 109, 110, 111, 112, 113, 114, 115, 116, 117, 118, 119, 120, 121, 122, 123, 124, 125, 126, 127, 128, 129, 130, 131, 132, 133, 134, 135, 136, 137, 138, 139, 140, 141, 142, 143, 144, 4, 91, 92] (.seq .nil (.seq (.join [144] [93, 94, 95, 96, 97, 98, 99, 100, 101, 102, 103, 104, 105, 106, 107, 108, 109, 110, 111, 112, 113, 114, 115, 116, 117, 118, 119, 120, 121, 122, 123, 124, 125, 126, 127, 128, 129, 130, 131, 132, 133, 134, 135, 136, 137, 138, 139, 140, 141, 142, 143] .nil .nil) .nil)))) .nil)))) .nil)))))) [v0, v1] H R) h)

/- undercroft/undercroftlaw06.CacheHeld -/
def sh3 (v0 v1 v2 v3 : Value) (H : Hp) (R : Value → Hp → Prop) : Prop :=
 Join (n := 1) (fun s0 H1 => Any fun _ =>
  Ite s0.1
   (Fc Try.prog 5 #[] H1 fun x3 H2 =>
   R x3 H2)
   (Fc Try.prog 6 #[v0] H1 fun x4 H3 =>
   Pu (extractE x4 0) fun x5 =>
   Pu (extractE x4 1) fun x6 =>
   Pu (extractE x4 2) fun x7 =>
   Join (n := 1) (fun s7 H4 => Any fun _ =>
    Ite s7.1
     (R (.bool false) H4)
     (Fc Try.prog 7 #[x5, v1] H4 fun x10 H5 =>
     Pu (extractE x10 0) fun x11 =>
     Pu (extractE x10 1) fun x12 =>
     Fc Try.prog 8 #[x6, v1] H5 fun x13 H6 =>
     Pu (extractE x13 0) fun x14 =>
     Pu (extractE x13 1) fun x15 =>
     Join (n := 1) (fun s15 H7 => Any fun _ =>
      Ite s15.1
       (Pu (binE (some (.int .i64)) .eql x12 x15) fun x18 =>
       Ite x18
        (Pu (eqXE Try.prog 29 true .eql x11 (.pointer none) H7) fun x19 =>
        Ite x19
         (Pu (eqXE Try.prog 33 true .eql x14 (.pointer none) H7) fun x20 =>
         R x20 H7)
         (R (.bool false) H7))
        (R (.bool false) H7))
       (Pu (buildE Try.prog 41 [(0, x5), (1, x6)]) fun x21 =>
       Box 41 x21 H7 fun x22 H8 =>
       Pu (nilCheckE x22) fun x23 =>
       Pu (addrE (some 2) x23) fun x24 =>
       Pu (idxAddrE (some (some 2, 1)) x24 (.int .i64 0)) fun x25 =>
       Pu (storeE (some 1) x25 x11 H8) fun H9 =>
       Pu (nilCheckE x22) fun x26 =>
       Pu (addrE (some 4) x26) fun x27 =>
       Pu (idxAddrE (some (some 2, 1)) x27 (.int .i64 0)) fun x28 =>
       Pu (storeE (some 1) x28 x14 H9) fun H10 =>
       LoopP (n := 1) ((.int .i64 0), ()) H10 (fun K29 s28 H11 => Any fun _ =>
        Pu (lenE Try.prog 23 v2) fun x31 =>
        Pu (binE (some (.int .i64)) .lss s28.1 x31) fun x32 =>
        Ite x32
         (Pu (idxAddrE (some (none, 4)) v2 s28.1) fun x33 =>
         Pu (addrE (some 0) x33) fun x34 =>
         Pu (loadE (some none) x34 H11) fun x35 =>
         Pu (binE (some (.int .u8)) .leq x35 (.int .u8 4)) fun x36 =>
         Ite x36
          (Pu (idxAddrE (some (none, 4)) v2 s28.1) fun x37 =>
          Pu (addrE (some 0) x37) fun x38 =>
          Pu (loadE (some none) x38 H11) fun x39 =>
          Pu (idxAddrE (some (none, 4)) v2 s28.1) fun x40 =>
          Pu (addrE (some 2) x40) fun x41 =>
          Pu (loadE (some none) x41 H11) fun x42 =>
          Pu (idxAddrE (some (none, 4)) v2 s28.1) fun x43 =>
          Pu (addrE (some 3) x43) fun x44 =>
          Pu (loadE (some none) x44 H11) fun x45 =>
          Pu (buildE Try.prog 44 [(0, x39), (2, x42), (3, x45)]) fun x46 =>
          ForX true H11 fun H12 =>
          Pu (zeroE Try.prog 44) fun x47 => Box 44 x47 H12 fun x48 H13 =>
          ForX true H13 fun H14 =>
          Pu (storeE (some 4) x48 x46 H14) fun H15 =>
          ForX true H15 fun H16 =>
          Pu (loadE (some (some 4)) x48 H16) fun x49 =>
          Fc Try.prog 9 #[x22, x49] H16 fun x50 H17 =>
          Pu (unE .not x50) fun x51 =>
          Ite x51
           (R (.bool false) H17)
           (Pu (binE (some (.int .i64)) .add s28.1 (.int .i64 1)) fun x52 =>
           K29 (x52, ()) H17))
          (Pu (binE (some (.int .i64)) .add s28.1 (.int .i64 1)) fun x53 =>
          K29 (x53, ()) H11))
         (Fc Try.prog 10 #[x14] H11 fun x54 H18 =>
         Fc Try.prog 11 #[x5, (.int .i64 0)] H18 fun x55 H19 =>
         Fc Try.prog 12 #[x6, (.int .i64 0)] H19 fun x56 H20 =>
         Join (n := 1) (fun s56 H21 => Any fun _ =>
          Ite s56.1
           (R (.bool false) H21)
           (Fc Try.prog 15 #[x11, v3] H21 fun x59 H22 =>
           Pu (extractE x59 0) fun x60 =>
           Pu (extractE x59 1) fun x61 =>
           Join (n := 1) (fun s61 H23 => Any fun _ =>
            Ite s61.1
             (R (.bool false) H23)
             (Fc Try.prog 23 #[x5, (.slice none 0 0)] H23 fun x64 H24 =>
             Pu (binE (some (.int .i64)) .neq x64 (.int .i64 0)) fun x65 =>
             Ite x65
              (R (.bool false) H24)
              (Fc Try.prog 24 #[x6] H24 fun x66 H25 =>
              Pu (buildE Try.prog 44 [(0, (.int .u8 0)), (2, v3)]) fun x67 =>
              Fc Try.prog 9 #[x22, x67] H25 fun x68 H26 =>
              Ite x68
               (Pu (buildE Try.prog 44 [(0, (.int .u8 4))]) fun x69 =>
               Fc Try.prog 9 #[x22, x69] H26 fun x70 H27 =>
               Ite x70
                (Pu (nilCheckE x22) fun x71 =>
                Pu (addrE (some 6) x71) fun x72 =>
                Pu (loadE (some none) x72 H27) fun x73 =>
                Pu (nilCheckE x22) fun x74 =>
                Pu (addrE (some 7) x74) fun x75 =>
                Pu (loadE (some none) x75 H27) fun x76 =>
                Fc Try.prog 25 #[x73, x76] H27 fun x77 H28 =>
                R x77 H28)
                (R (.bool false) H27))
               (R (.bool false) H26))))
           (fun K77 => Pu (binE (some (.int .i64)) .neq x61 (.int .i64 3)) fun x79 =>
           Ite x79
            (K77 ((.bool true), ()) H22)
            (Pu (buildE Try.prog 51 []) fun x80 =>
            Fc Try.prog 16 #[x11, v3, x80] H22 fun x81 H29 =>
            Pu (binE (some (.int .i64)) .neq x81 (.int .i64 3)) fun x82 =>
            Ite x82
             (K77 ((.bool true), ()) H29)
             (Fc Try.prog 17 #[x11, v3] H29 fun x83 H30 =>
             Pu (binE (some (.int .i64)) .neq x83 (.int .i64 3)) fun x84 =>
             Ite x84
              (K77 ((.bool true), ()) H30)
              (Fc Try.prog 18 #[x11] H30 fun x85 H31 =>
              Fc Try.prog 19 #[x14] H31 fun x86 H32 =>
              Pu (binE (some (.int .i64)) .neq x85 x86) fun x87 =>
              Ite x87
               (K77 ((.bool true), ()) H32)
               (Fc Try.prog 20 #[x11] H32 fun x88 H33 =>
               Pu (lenE Try.prog 46 x54) fun x89 =>
               Pu (binE (some (.int .i64)) .neq x88 x89) fun x90 =>
               Ite x90
                (K77 ((.bool true), ()) H33)
                (Fc Try.prog 22 #[x11] H33 fun x91 H34 =>
                Fc Try.prog 21 #[x91, x54] H34 fun x92 H35 =>
                Pu (unE .not x92) fun x93 =>
                K77 (x93, ()) H35))))))))
         (fun K93 => Fc Try.prog 13 #[x5] H20 fun x95 H36 =>
         Pu (binE (some (.int .i64)) .neq x95 (.int .i64 3)) fun x96 =>
         Ite x96
          (K93 ((.bool true), ()) H36)
          (Fc Try.prog 14 #[x6] H36 fun x97 H37 =>
          Pu (binE (some (.int .i64)) .neq x97 (.int .i64 3)) fun x98 =>
          K93 (x98, ()) H37))))))
     (fun K98 => Pu (binE (some (.int .i64)) .neq x12 x15) fun x100 =>
     Ite x100
      (K98 ((.bool true), ()) H6)
      (Pu (eqXE Try.prog 29 true .eql x11 (.pointer none) H6) fun x101 =>
      Ite x101
       (K98 ((.bool true), ()) H6)
       (Pu (eqXE Try.prog 33 true .eql x14 (.pointer none) H6) fun x102 =>
       K98 (x102, ()) H6)))))
   (fun K102 => Pu (unE .not x7) fun x104 =>
   Ite x104
    (K102 ((.bool true), ()) H3)
    (Fc Try.prog 5 #[] H3 fun x105 H38 =>
    Pu (unE .not x105) fun x106 =>
    K102 (x106, ()) H38))))
 (fun K106 => Pu (lenE Try.prog 22 v0) fun x108 =>
 Pu (binE (some (.int .i64)) .gtr x108 (.int .i64 64)) fun x109 =>
 Ite x109
  (K106 ((.bool true), ()) H)
  (Pu (lenE Try.prog 22 v0) fun x110 =>
  Pu (binE (some (.int .i64)) .eql x110 (.int .i64 0)) fun x111 =>
  K106 (x111, ()) H))
set_option maxRecDepth 100000 in
theorem fn3 {v0 v1 v2 v3 : Value} {H : Hp} {R : Value → Hp → Prop} (h : sh3 v0 v1 v2 v3 H R) : Fc Try.prog 3 #[v0, v1, v2, v3] H R :=
  fn_of_vc (fun f => [31].contains f) (.seq .nil (.seq (.join [28] [21, 22, 23, 24, 25, 26, 27] .nil .nil) (.seq .nil (.seq (.join [41] [36, 37, 38, 39, 40] .nil .nil) (.seq .nil (.seq .nil (.seq (.join [64] [54, 55, 56, 57, 58, 59, 60, 61, 62, 63] .nil .nil) (.seq .nil (.seq .nil (.seq .nil (.seq (.seq .nil (.loop [17] [90, 91, 92, 93, 96, 97, 98, 99, 100, 101, 102, 103, 104, 105, 106, 107, 108, 109, 110, 111, 112, 113, 114, 115, 116, 117, 18, 118, 119, 120, 19, 121, 122, 8, 94, 95] .nil)) (.seq .nil (.seq .nil (.seq .nil (.seq (.join [136] [129, 130, 131, 132, 133, 134, 135] .nil .nil) (.seq .nil (.seq (.join [178] [143, 144, 145, 146, 147, 148, 149, 150, 151, 152, 153, 154, 155, 156, 157, 158, 159, 160, 161, 162, 163, 164, 165, 166, 167, 168, 169, 170, 171, 172, 173, 174, 175, 176, 177] .nil .nil) .nil))))))))))))))))) Try.func3 (args := [v0, v1, v2, v3]) (Eq.mp (by kernel_rfl : sh3 v0 v1 v2 v3 H R = VcFn Try.prog (fun f => [31].contains f) Try.f3 (.seq .nil (.seq (.join [28] [21, 22, 23, 24, 25, 26, 27] .nil .nil) (.seq .nil (.seq (.join [41] [36, 37, 38, 39, 40] .nil .nil) (.seq .nil (.seq .nil (.seq (.join [64] [54, 55, 56, 57, 58, 59, 60, 61, 62, 63] .nil .nil) (.seq .nil (.seq .nil (.seq .nil (.seq (.seq .nil (.loop [17] [90, 91, 92, 93, 96, 97, 98, 99, 100, 101, 102, 103, 104, 105, 106, 107, 108, 109, 110, 111, 112, 113, 114, 115, 116, 117, 18, 118, 119, 120, 19, 121, 122, 8, 94, 95] .nil)) (.seq .nil (.seq .nil (.seq .nil (.seq (.join [136] [129, 130, 131, 132, 133, 134, 135] .nil .nil) (.seq .nil (.seq (.join [178] [143, 144, 145, 146, 147, 148, 149, 150, 151, 152, 153, 154, 155, 156, 157, 158, 159, 160, 161, 162, 163, 164, 165, 166, 167, 168, 169, 170, 171, 172, 173, 174, 175, 176, 177] .nil .nil) .nil))))))))))))))))) [v0, v1, v2, v3] H R) h)

/- undercroft/undercroftlaw06.CachePlays -/
def sh4 (v0 v1 v2 v3 : Value) (H : Hp) (R : Value → Hp → Prop) : Prop :=
 Join (n := 1) (fun s0 H1 => Any fun _ =>
  Ite s0.1
   (Fc Try.prog 5 #[] H1 fun x3 H2 =>
   R x3 H2)
   (Fc Try.prog 6 #[v0] H1 fun x4 H3 =>
   Pu (extractE x4 0) fun x5 =>
   Pu (extractE x4 1) fun x6 =>
   Pu (extractE x4 2) fun x7 =>
   Join (n := 1) (fun s7 H4 => Any fun _ =>
    Ite s7.1
     (R (.bool false) H4)
     (Pu (buildE Try.prog 41 [(0, x5), (1, x6)]) fun x10 =>
     Box 41 x10 H4 fun x11 H5 =>
     Pu (buildE Try.prog 61 [(0, v1), (1, v2)]) fun x12 =>
     Pu (zeroE Try.prog 61) fun x13 => Box 61 x13 H5 fun x14 H6 =>
     Pu (storeE (some 2) x14 x12 H6) fun H7 =>
     LoopP (n := 1) ((.int .i64 0), ()) H7 (fun K15 s14 H8 => Any fun _ =>
      Pu (binE (some (.int .i64)) .lss s14.1 (.int .i64 2)) fun x17 =>
      Ite x17
       (Pu (idxAddrE (some (some 2, 1)) x14 s14.1) fun x18 =>
       Pu (loadE (some none) x18 H8) fun x19 =>
       Fc Try.prog 7 #[x5, x19] H8 fun x20 H9 =>
       Pu (extractE x20 0) fun x21 =>
       Pu (extractE x20 1) fun x22 =>
       Pu (idxAddrE (some (some 2, 1)) x14 s14.1) fun x23 =>
       Pu (loadE (some none) x23 H9) fun x24 =>
       Fc Try.prog 8 #[x6, x24] H9 fun x25 H10 =>
       Pu (extractE x25 0) fun x26 =>
       Pu (extractE x25 1) fun x27 =>
       Join (n := 1) (fun s27 H11 => Any fun _ =>
        Ite s27.1
         (R (.bool false) H11)
         (Pu (nilCheckE x11) fun x30 =>
         Pu (addrE (some 2) x30) fun x31 =>
         Pu (idxAddrE (some (some 2, 1)) x31 s14.1) fun x32 =>
         Pu (storeE (some 1) x32 x21 H11) fun H12 =>
         Pu (nilCheckE x11) fun x33 =>
         Pu (addrE (some 4) x33) fun x34 =>
         Pu (idxAddrE (some (some 2, 1)) x34 s14.1) fun x35 =>
         Pu (storeE (some 1) x35 x26 H12) fun H13 =>
         Pu (binE (some (.int .i64)) .add s14.1 (.int .i64 1)) fun x36 =>
         K15 (x36, ()) H13))
       (fun K36 => Pu (binE (some (.int .i64)) .neq x22 x27) fun x38 =>
       Ite x38
        (K36 ((.bool true), ()) H10)
        (Pu (eqXE Try.prog 29 true .eql x21 (.pointer none) H10) fun x39 =>
        Pu (eqXE Try.prog 33 true .eql x26 (.pointer none) H10) fun x40 =>
        Pu (binE (some .bool) .neq x39 x40) fun x41 =>
        K36 (x41, ()) H10)))
       (LoopP (n := 1) ((.int .i64 0), ()) H8 (fun K42 s41 H14 => Any fun _ =>
        Pu (lenE Try.prog 23 v3) fun x44 =>
        Pu (binE (some (.int .i64)) .lss s41.1 x44) fun x45 =>
        Ite x45
         (Pu (idxAddrE (some (none, 4)) v3 s41.1) fun x46 =>
         Pu (loadE (some (some 4)) x46 H14) fun x47 =>
         Fc Try.prog 9 #[x11, x47] H14 fun x48 H15 =>
         Pu (unE .not x48) fun x49 =>
         Ite x49
          (R (.bool false) H15)
          (Pu (binE (some (.int .i64)) .add s41.1 (.int .i64 1)) fun x50 =>
          K42 (x50, ()) H15))
         (LoopP (n := 1) ((.int .i64 0), ()) H14 (fun K51 s50 H16 => Any fun _ =>
          Pu (binE (some (.int .i64)) .lss s50.1 (.int .i64 2)) fun x53 =>
          Ite x53
           (Join (n := 1) (fun s53 H17 => Any fun _ =>
            Ite s53.1
             (R (.bool false) H17)
             (Pu (binE (some (.int .i64)) .add s50.1 (.int .i64 1)) fun x56 =>
             K51 (x56, ()) H17))
           (fun K56 => Pu (nilCheckE x11) fun x58 =>
           Pu (addrE (some 2) x58) fun x59 =>
           Pu (idxAddrE (some (some 2, 1)) x59 s50.1) fun x60 =>
           Pu (loadE (some none) x60 H16) fun x61 =>
           Pu (eqXE Try.prog 29 true .neq x61 (.pointer none) H16) fun x62 =>
           Ite x62
            (Pu (buildE Try.prog 44 [(0, (.int .u8 4))]) fun x63 =>
            Fc Try.prog 26 #[x11, x63, s50.1] H16 fun x64 H18 =>
            Pu (unE .not x64) fun x65 =>
            Ite x65
             (K56 ((.bool true), ()) H18)
             (Pu (buildE Try.prog 44 [(0, (.int .u8 3))]) fun x66 =>
             Fc Try.prog 26 #[x11, x66, s50.1] H18 fun x67 H19 =>
             Pu (unE .not x67) fun x68 =>
             K56 (x68, ()) H19))
            (K56 ((.bool false), ()) H16)))
           (Pu (nilCheckE x6) fun x69 =>
           Pu (addrE (some 4) x69) fun x70 =>
           And
            (ForX true H16 fun H58 =>
            Fc Try.prog 27 #[x5] H58 fun x126 H59 =>
            Pu (loadE (some none) x70 H59) fun x127 =>
            Pu (binE (some (.int .i64)) .eql x126 x127) fun x128 =>
            Ite x128
             (Pu (nilCheckE x6) fun x129 =>
             Pu (addrE (some 5) x129) fun x130 =>
             And
              (ForX true H59 fun H76 =>
              Fc Try.prog 28 #[x5] H76 fun x156 H77 =>
              Pu (loadE (some none) x130 H77) fun x157 =>
              Pu (binE (some (.int .i64)) .eql x156 x157) fun x158 =>
              Ite x158
               (Pu (nilCheckE x6) fun x159 =>
               Pu (addrE (some 3) x159) fun x160 =>
               And
                (ForX true H77 fun H84 =>
                Fc Try.prog 29 #[x5] H84 fun x171 H85 =>
                Pu (loadE (some none) x160 H85) fun x172 =>
                Pu (binE (some .bool) .eql x171 x172) fun x173 =>
                Ite x173
                 (Pu (nilCheckE x11) fun x174 =>
                 Pu (addrE (some 6) x174) fun x175 =>
                 Pu (loadE (some none) x175 H85) fun x176 =>
                 Pu (nilCheckE x11) fun x177 =>
                 Pu (addrE (some 7) x177) fun x178 =>
                 Pu (loadE (some none) x178 H85) fun x179 =>
                 ForX true H85 fun H86 =>
                 Fc Try.prog 25 #[x176, x179] H86 fun x180 H87 =>
                 ForX true H87 fun H88 =>
                 R x180 H88)
                 (ForX true H85 fun H89 =>
                 R (.bool false) H89))
                (And
                 (Pu (loadE (some none) x160 H77) fun x161 =>
                 ForX true H77 fun H78 =>
                 Fc Try.prog 29 #[x5] H78 fun x162 H79 =>
                 Pu (binE (some .bool) .eql x162 x161) fun x163 =>
                 Ite x163
                  (Pu (nilCheckE x11) fun x164 =>
                  Pu (addrE (some 6) x164) fun x165 =>
                  Pu (loadE (some none) x165 H79) fun x166 =>
                  Pu (nilCheckE x11) fun x167 =>
                  Pu (addrE (some 7) x167) fun x168 =>
                  Pu (loadE (some none) x168 H79) fun x169 =>
                  ForX true H79 fun H80 =>
                  Fc Try.prog 25 #[x166, x169] H80 fun x170 H81 =>
                  ForX true H81 fun H82 =>
                  R x170 H82)
                  (ForX true H79 fun H83 =>
                  R (.bool false) H83))
                 (True)))
               (And
                (ForX true H77 fun H91 =>
                R (.bool false) H91)
                (And
                 (ForX true H77 fun H90 =>
                 R (.bool false) H90)
                 (True))))
              (And
               (Pu (loadE (some none) x130 H59) fun x131 =>
               ForX true H59 fun H60 =>
               Fc Try.prog 28 #[x5] H60 fun x132 H61 =>
               Pu (binE (some (.int .i64)) .eql x132 x131) fun x133 =>
               Ite x133
                (Pu (nilCheckE x6) fun x134 =>
                Pu (addrE (some 3) x134) fun x135 =>
                And
                 (ForX true H61 fun H68 =>
                 Fc Try.prog 29 #[x5] H68 fun x146 H69 =>
                 Pu (loadE (some none) x135 H69) fun x147 =>
                 Pu (binE (some .bool) .eql x146 x147) fun x148 =>
                 Ite x148
                  (Pu (nilCheckE x11) fun x149 =>
                  Pu (addrE (some 6) x149) fun x150 =>
                  Pu (loadE (some none) x150 H69) fun x151 =>
                  Pu (nilCheckE x11) fun x152 =>
                  Pu (addrE (some 7) x152) fun x153 =>
                  Pu (loadE (some none) x153 H69) fun x154 =>
                  ForX true H69 fun H70 =>
                  Fc Try.prog 25 #[x151, x154] H70 fun x155 H71 =>
                  ForX true H71 fun H72 =>
                  R x155 H72)
                  (ForX true H69 fun H73 =>
                  R (.bool false) H73))
                 (And
                  (Pu (loadE (some none) x135 H61) fun x136 =>
                  ForX true H61 fun H62 =>
                  Fc Try.prog 29 #[x5] H62 fun x137 H63 =>
                  Pu (binE (some .bool) .eql x137 x136) fun x138 =>
                  Ite x138
                   (Pu (nilCheckE x11) fun x139 =>
                   Pu (addrE (some 6) x139) fun x140 =>
                   Pu (loadE (some none) x140 H63) fun x141 =>
                   Pu (nilCheckE x11) fun x142 =>
                   Pu (addrE (some 7) x142) fun x143 =>
                   Pu (loadE (some none) x143 H63) fun x144 =>
                   ForX true H63 fun H64 =>
                   Fc Try.prog 25 #[x141, x144] H64 fun x145 H65 =>
                   ForX true H65 fun H66 =>
                   R x145 H66)
                   (ForX true H63 fun H67 =>
                   R (.bool false) H67))
                  (True)))
                (And
                 (ForX true H61 fun H75 =>
                 R (.bool false) H75)
                 (And
                  (ForX true H61 fun H74 =>
                  R (.bool false) H74)
                  (True))))
               (True)))
             (And
              (And
               (ForX true H59 fun H95 =>
               R (.bool false) H95)
               (And
                (ForX true H59 fun H94 =>
                R (.bool false) H94)
                (True)))
              (And
               (And
                (ForX true H59 fun H93 =>
                R (.bool false) H93)
                (And
                 (ForX true H59 fun H92 =>
                 R (.bool false) H92)
                 (True)))
               (True))))
            (And
             (Pu (loadE (some none) x70 H16) fun x71 =>
             ForX true H16 fun H20 =>
             Fc Try.prog 27 #[x5] H20 fun x72 H21 =>
             Pu (binE (some (.int .i64)) .eql x72 x71) fun x73 =>
             Ite x73
              (Pu (nilCheckE x6) fun x74 =>
              Pu (addrE (some 5) x74) fun x75 =>
              And
               (ForX true H21 fun H38 =>
               Fc Try.prog 28 #[x5] H38 fun x101 H39 =>
               Pu (loadE (some none) x75 H39) fun x102 =>
               Pu (binE (some (.int .i64)) .eql x101 x102) fun x103 =>
               Ite x103
                (Pu (nilCheckE x6) fun x104 =>
                Pu (addrE (some 3) x104) fun x105 =>
                And
                 (ForX true H39 fun H46 =>
                 Fc Try.prog 29 #[x5] H46 fun x116 H47 =>
                 Pu (loadE (some none) x105 H47) fun x117 =>
                 Pu (binE (some .bool) .eql x116 x117) fun x118 =>
                 Ite x118
                  (Pu (nilCheckE x11) fun x119 =>
                  Pu (addrE (some 6) x119) fun x120 =>
                  Pu (loadE (some none) x120 H47) fun x121 =>
                  Pu (nilCheckE x11) fun x122 =>
                  Pu (addrE (some 7) x122) fun x123 =>
                  Pu (loadE (some none) x123 H47) fun x124 =>
                  ForX true H47 fun H48 =>
                  Fc Try.prog 25 #[x121, x124] H48 fun x125 H49 =>
                  ForX true H49 fun H50 =>
                  R x125 H50)
                  (ForX true H47 fun H51 =>
                  R (.bool false) H51))
                 (And
                  (Pu (loadE (some none) x105 H39) fun x106 =>
                  ForX true H39 fun H40 =>
                  Fc Try.prog 29 #[x5] H40 fun x107 H41 =>
                  Pu (binE (some .bool) .eql x107 x106) fun x108 =>
                  Ite x108
                   (Pu (nilCheckE x11) fun x109 =>
                   Pu (addrE (some 6) x109) fun x110 =>
                   Pu (loadE (some none) x110 H41) fun x111 =>
                   Pu (nilCheckE x11) fun x112 =>
                   Pu (addrE (some 7) x112) fun x113 =>
                   Pu (loadE (some none) x113 H41) fun x114 =>
                   ForX true H41 fun H42 =>
                   Fc Try.prog 25 #[x111, x114] H42 fun x115 H43 =>
                   ForX true H43 fun H44 =>
                   R x115 H44)
                   (ForX true H41 fun H45 =>
                   R (.bool false) H45))
                  (True)))
                (And
                 (ForX true H39 fun H53 =>
                 R (.bool false) H53)
                 (And
                  (ForX true H39 fun H52 =>
                  R (.bool false) H52)
                  (True))))
               (And
                (Pu (loadE (some none) x75 H21) fun x76 =>
                ForX true H21 fun H22 =>
                Fc Try.prog 28 #[x5] H22 fun x77 H23 =>
                Pu (binE (some (.int .i64)) .eql x77 x76) fun x78 =>
                Ite x78
                 (Pu (nilCheckE x6) fun x79 =>
                 Pu (addrE (some 3) x79) fun x80 =>
                 And
                  (ForX true H23 fun H30 =>
                  Fc Try.prog 29 #[x5] H30 fun x91 H31 =>
                  Pu (loadE (some none) x80 H31) fun x92 =>
                  Pu (binE (some .bool) .eql x91 x92) fun x93 =>
                  Ite x93
                   (Pu (nilCheckE x11) fun x94 =>
                   Pu (addrE (some 6) x94) fun x95 =>
                   Pu (loadE (some none) x95 H31) fun x96 =>
                   Pu (nilCheckE x11) fun x97 =>
                   Pu (addrE (some 7) x97) fun x98 =>
                   Pu (loadE (some none) x98 H31) fun x99 =>
                   ForX true H31 fun H32 =>
                   Fc Try.prog 25 #[x96, x99] H32 fun x100 H33 =>
                   ForX true H33 fun H34 =>
                   R x100 H34)
                   (ForX true H31 fun H35 =>
                   R (.bool false) H35))
                  (And
                   (Pu (loadE (some none) x80 H23) fun x81 =>
                   ForX true H23 fun H24 =>
                   Fc Try.prog 29 #[x5] H24 fun x82 H25 =>
                   Pu (binE (some .bool) .eql x82 x81) fun x83 =>
                   Ite x83
                    (Pu (nilCheckE x11) fun x84 =>
                    Pu (addrE (some 6) x84) fun x85 =>
                    Pu (loadE (some none) x85 H25) fun x86 =>
                    Pu (nilCheckE x11) fun x87 =>
                    Pu (addrE (some 7) x87) fun x88 =>
                    Pu (loadE (some none) x88 H25) fun x89 =>
                    ForX true H25 fun H26 =>
                    Fc Try.prog 25 #[x86, x89] H26 fun x90 H27 =>
                    ForX true H27 fun H28 =>
                    R x90 H28)
                    (ForX true H25 fun H29 =>
                    R (.bool false) H29))
                   (True)))
                 (And
                  (ForX true H23 fun H37 =>
                  R (.bool false) H37)
                  (And
                   (ForX true H23 fun H36 =>
                   R (.bool false) H36)
                   (True))))
                (True)))
              (And
               (And
                (ForX true H21 fun H57 =>
                R (.bool false) H57)
                (And
                 (ForX true H21 fun H56 =>
                 R (.bool false) H56)
                 (True)))
               (And
                (And
                 (ForX true H21 fun H55 =>
                 R (.bool false) H55)
                 (And
                  (ForX true H21 fun H54 =>
                  R (.bool false) H54)
                  (True)))
                (True))))
             (True))))))))))
   (fun K180 => Pu (unE .not x7) fun x182 =>
   Ite x182
    (K180 ((.bool true), ()) H3)
    (Fc Try.prog 5 #[] H3 fun x183 H96 =>
    Pu (unE .not x183) fun x184 =>
    K180 (x184, ()) H96))))
 (fun K184 => Pu (lenE Try.prog 22 v0) fun x186 =>
 Pu (binE (some (.int .i64)) .gtr x186 (.int .i64 64)) fun x187 =>
 Ite x187
  (K184 ((.bool true), ()) H)
  (Pu (lenE Try.prog 22 v0) fun x188 =>
  Pu (binE (some (.int .i64)) .eql x188 (.int .i64 0)) fun x189 =>
  K184 (x189, ()) H))
set_option maxRecDepth 100000 in
theorem fn4 {v0 v1 v2 v3 : Value} {H : Hp} {R : Value → Hp → Prop} (h : sh4 v0 v1 v2 v3 H R) : Fc Try.prog 4 #[v0, v1, v2, v3] H R :=
  fn_of_vcp (fun f => [31].contains f) [(28, (.fork [0, 2, 3, 4] (.cons 1 (.fork [5, 6, 7, 8, 10, 11, 12] (.cons 9 (.fork [13, 14, 15, 16, 17, 19, 20, 21] (.cons 18 (.line [22, 23, 24, 25, 26, 27, 28, 29, 30, 31, 32, 33, 34, 35, 36]) (.cons 22 (.line [18, 23, 24, 25, 26, 27, 28, 29, 30, 31, 32, 33, 34, 35, 36]) .nil))) (.cons 13 (.fork [9, 14, 15, 16, 17, 19, 20, 21] (.cons 18 (.line [22, 23, 24, 25, 26, 27, 28, 29, 30, 31, 32, 33, 34, 35, 36]) (.cons 22 (.line [18, 23, 24, 25, 26, 27, 28, 29, 30, 31, 32, 33, 34, 35, 36]) .nil))) .nil))) (.cons 5 (.fork [1, 6, 7, 8, 10, 11, 12] (.cons 9 (.fork [13, 14, 15, 16, 17, 19, 20, 21] (.cons 18 (.line [22, 23, 24, 25, 26, 27, 28, 29, 30, 31, 32, 33, 34, 35, 36]) (.cons 22 (.line [18, 23, 24, 25, 26, 27, 28, 29, 30, 31, 32, 33, 34, 35, 36]) .nil))) (.cons 13 (.fork [9, 14, 15, 16, 17, 19, 20, 21] (.cons 18 (.line [22, 23, 24, 25, 26, 27, 28, 29, 30, 31, 32, 33, 34, 35, 36]) (.cons 22 (.line [18, 23, 24, 25, 26, 27, 28, 29, 30, 31, 32, 33, 34, 35, 36]) .nil))) .nil))) .nil))))] (.seq .nil (.seq (.join [29] [22, 23, 24, 25, 26, 27, 28] .nil .nil) (.seq .nil (.seq (.join [42] [37, 38, 39, 40, 41] .nil .nil) (.seq .nil (.seq .nil (.seq (.seq .nil (.loop [14] [50, 51, 55, 56, 57, 58, 59, 54, 60, 61, 15, 16, 63, 64, 65, 66, 67, 62, 68, 69, 17, 18, 70, 71, 72, 73, 74, 75, 76, 77, 78, 79, 8, 80, 81, 82, 83, 84, 85, 86, 87, 88, 89, 90, 91, 52, 53] (.seq .nil (.seq (.seq .nil (.seq .nil (.seq (.join [79] [70, 71, 72, 73, 74, 75, 76, 77, 78] .nil .nil) .nil))) .nil)))) (.seq (.seq .nil (.loop [19] [92, 93, 94, 95, 98, 99, 100, 101, 102, 103, 20, 104, 105, 8, 96, 97] .nil)) (.seq (.seq .nil (.loop [21] [106, 107, 110, 111, 112, 113, 114, 115, 116, 117, 118, 119, 120, 121, 122, 123, 124, 125, 126, 127, 128, 129, 130, 8, 108, 109] (.seq .nil (.seq (.join [130] [110, 111, 112, 113, 114, 115, 116, 117, 118, 119, 120, 121, 122, 123, 124, 125, 126, 127, 128, 129] .nil .nil) .nil)))) .nil))))))))) Try.func4 (args := [v0, v1, v2, v3]) (Eq.mp (by kernel_rfl : sh4 v0 v1 v2 v3 H R = VcFnP Try.prog (fun f => [31].contains f) [(28, (.fork [0, 2, 3, 4] (.cons 1 (.fork [5, 6, 7, 8, 10, 11, 12] (.cons 9 (.fork [13, 14, 15, 16, 17, 19, 20, 21] (.cons 18 (.line [22, 23, 24, 25, 26, 27, 28, 29, 30, 31, 32, 33, 34, 35, 36]) (.cons 22 (.line [18, 23, 24, 25, 26, 27, 28, 29, 30, 31, 32, 33, 34, 35, 36]) .nil))) (.cons 13 (.fork [9, 14, 15, 16, 17, 19, 20, 21] (.cons 18 (.line [22, 23, 24, 25, 26, 27, 28, 29, 30, 31, 32, 33, 34, 35, 36]) (.cons 22 (.line [18, 23, 24, 25, 26, 27, 28, 29, 30, 31, 32, 33, 34, 35, 36]) .nil))) .nil))) (.cons 5 (.fork [1, 6, 7, 8, 10, 11, 12] (.cons 9 (.fork [13, 14, 15, 16, 17, 19, 20, 21] (.cons 18 (.line [22, 23, 24, 25, 26, 27, 28, 29, 30, 31, 32, 33, 34, 35, 36]) (.cons 22 (.line [18, 23, 24, 25, 26, 27, 28, 29, 30, 31, 32, 33, 34, 35, 36]) .nil))) (.cons 13 (.fork [9, 14, 15, 16, 17, 19, 20, 21] (.cons 18 (.line [22, 23, 24, 25, 26, 27, 28, 29, 30, 31, 32, 33, 34, 35, 36]) (.cons 22 (.line [18, 23, 24, 25, 26, 27, 28, 29, 30, 31, 32, 33, 34, 35, 36]) .nil))) .nil))) .nil))))] Try.f4 (.seq .nil (.seq (.join [29] [22, 23, 24, 25, 26, 27, 28] .nil .nil) (.seq .nil (.seq (.join [42] [37, 38, 39, 40, 41] .nil .nil) (.seq .nil (.seq .nil (.seq (.seq .nil (.loop [14] [50, 51, 55, 56, 57, 58, 59, 54, 60, 61, 15, 16, 63, 64, 65, 66, 67, 62, 68, 69, 17, 18, 70, 71, 72, 73, 74, 75, 76, 77, 78, 79, 8, 80, 81, 82, 83, 84, 85, 86, 87, 88, 89, 90, 91, 52, 53] (.seq .nil (.seq (.seq .nil (.seq .nil (.seq (.join [79] [70, 71, 72, 73, 74, 75, 76, 77, 78] .nil .nil) .nil))) .nil)))) (.seq (.seq .nil (.loop [19] [92, 93, 94, 95, 98, 99, 100, 101, 102, 103, 20, 104, 105, 8, 96, 97] .nil)) (.seq (.seq .nil (.loop [21] [106, 107, 110, 111, 112, 113, 114, 115, 116, 117, 118, 119, 120, 121, 122, 123, 124, 125, 126, 127, 128, 129, 130, 8, 108, 109] (.seq .nil (.seq (.join [130] [110, 111, 112, 113, 114, 115, 116, 117, 118, 119, 120, 121, 122, 123, 124, 125, 126, 127, 128, 129] .nil .nil) .nil)))) .nil))))))))) [v0, v1, v2, v3] H R) h)
end Go.Proofs
