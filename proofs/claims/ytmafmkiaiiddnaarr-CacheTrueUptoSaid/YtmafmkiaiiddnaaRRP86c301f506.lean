/- Parts of a proof, joined in build order: a calculus of contracts, an executor, contracts of functions. -/
import Derived.Test.YtmafmkiaiiddnaaRRP40b9f8b5b9
import Derived.ChangeArms
/- Vc, part T: slices that are only read: of an argument, as the row's reading lays it open. -/
set_option linter.unusedVariables false
set_option linter.unusedSimpArgs false
namespace Go.Vc

theorem rowH_size {H : Hp} {a : Addr} {n : Nat} {c : Array Value} (h : rowH H a n = some c) : c.size = n := (cellH_row h).1
theorem rowH_load {H : Hp} {b o n : Nat} {c : Array Value} (h : rowH H ⟨b, o, none⟩ n = some c) : loadE (some (some n)) (.pointer (some ⟨b, o, none⟩)) H = some (.agg c) := by
  simp only [loadE, h, Option.map_some]
theorem rowH_cell {H : Hp} {b o n : Nat} {c : Array Value} (h : rowH H ⟨b, o, none⟩ n = some c) {j : Nat} (hj : j < n) : loadE (some none) (.pointer (some ⟨b, o + j, none⟩)) H = c[j]? := by
  have := (cellH_row h).2 j hj
  rw [Addr.add_mk] at this
  exact this

/-- A slice that is read: of each place its cells. -/
structure Sr (n : Nat) (H : Hp) (s : Value) (vs : List (Array Value)) : Prop where
  is : ∃ (base : Option Addr) (cap : Nat), s = .slice base vs.length cap ∧ vs.length ≤ cap ∧ (vs ≠ [] → ∃ b o, base = some ⟨b, o, none⟩ ∧ ∀ i v, vs[i]? = some v → rowH H ⟨b, o + i * n, none⟩ n = some v)
section
variable {T n : Nat} {H H' : Hp} {s : Value} {vs : List (Array Value)}
theorem Sr.nil (n : Nat) (H : Hp) : Sr n H (.slice none 0 0) [] := ⟨none, 0, rfl, Nat.le_refl _, fun h => absurd rfl h⟩
theorem Sr.ext (h : Sr n H s vs) (hx : Ext H H') : Sr n H' s vs := by
  obtain ⟨base, cap, rfl, hle, h⟩ := h
  refine ⟨base, cap, rfl, hle, fun hne => ?_⟩
  obtain ⟨b, o, rfl, h2⟩ := h hne
  exact ⟨b, o, rfl, fun i v hi => rowH_ext hx (h2 i v hi)⟩
theorem Sr.len (h : Sr n H s vs) : ∃ b c, s = .slice b vs.length c := by
  obtain ⟨base, cap, rfl, _⟩ := h; exact ⟨base, cap, rfl⟩
theorem Sr.lenE {P : Program} {S : TypeId} {e : TypeId} (h : Sr n H s vs) (hu : P.underlying S = some (.slice e)) : lenE P S s = some (.int .i64 vs.length) := by
  obtain ⟨b, c, rfl⟩ := h.len; exact len_slice hu
theorem Sr.elem (h : Sr n H s vs) {i : Nat} {v : Array Value} (hi : vs[i]? = some v) : ∃ b o, rowH H ⟨b, o, none⟩ n = some v ∧ ∀ k, idxAddrE (some (none, n)) s (.int k i) = some (.pointer (some ⟨b, o, none⟩)) := by
  obtain ⟨base, cap, rfl, hle, h⟩ := h
  have hlt : i < vs.length := by
    rcases Nat.lt_or_ge i vs.length with h1 | h1
    · exact h1
    · rw [List.getElem?_eq_none h1] at hi; cases hi
  obtain ⟨b, o, rfl, h2⟩ := h fun e => by subst e; simp at hlt
  refine ⟨b, o + i * n, h2 i v hi, fun k => ?_⟩
  have := @idx_slc vs.length cap n b o k i (by omega) (by omega)
  simpa using this
theorem Sr.cell (h : Sr n H s vs) {i j : Nat} {v : Array Value} (hi : vs[i]? = some v) (hj : j < n) : ∃ b o, (∀ k, idxAddrE (some (none, n)) s (.int k i) = some (.pointer (some ⟨b, o, none⟩))) ∧ loadE (some none) (.pointer (some ⟨b, o + j, none⟩)) H = v[j]? := by
  obtain ⟨b, o, hr, ha⟩ := h.elem hi
  exact ⟨b, o, ha, rowH_cell hr hj⟩
theorem Sr.row (h : Sr n H s vs) {i : Nat} {v : Array Value} (hi : vs[i]? = some v) : ∃ b o, (∀ k, idxAddrE (some (none, n)) s (.int k i) = some (.pointer (some ⟨b, o, none⟩))) ∧ loadE (some (some n)) (.pointer (some ⟨b, o, none⟩)) H = some (.agg v) := by
  obtain ⟨b, o, hr, ha⟩ := h.elem hi
  exact ⟨b, o, ha, rowH_load hr⟩
theorem Sr.size (h : Sr n H s vs) {i : Nat} {v : Array Value} (hi : vs[i]? = some v) : v.size = n := by
  obtain ⟨b, o, hr, _⟩ := h.elem hi; exact rowH_size hr
theorem Sv.sr (h : Sv T n H s vs) : Sr n H s vs := by
  obtain ⟨base, cap, rfl, hle, hn, h⟩ := h
  refine ⟨base, cap, rfl, hle, fun hne => ?_⟩
  have hpos : 0 < vs.length := List.length_pos_iff.2 hne
  cases base with
  | none => simp only at h; omega
  | some a =>
    obtain ⟨hsp, cs, hg, hsz, h⟩ := h
    obtain ⟨blk, off, sp⟩ := a
    simp only at hsp hg hsz h
    subst hsp
    refine ⟨blk, off, rfl, fun i v hi => ?_⟩
    have hlt : i < vs.length := by
      rcases Nat.lt_or_ge i vs.length with h1 | h1
      · exact h1
      · rw [List.getElem?_eq_none h1] at hi; cases hi
    have hm : (i + 1) * n ≤ cap * n := Nat.mul_le_mul_right n (by omega)
    rw [Nat.add_mul, Nat.one_mul] at hm
    unfold rowH
    simp only [hg]
    rw [if_pos ⟨trivial, by omega⟩, h i v hi]
end

/-! ### What the row's reading says of a slice -/
theorem mapM_cells {H : Hp} {a : Addr} : ∀ (l : List Nat) (r : List Value), (l.mapM fun i => cellH H (a.add i)) = some r → r.length = l.length ∧ ∀ k i : Nat, l[k]? = some i → cellH H (a.add i) = r[k]? := by
  intro l
  induction l with
  | nil => intro r h; simp only [List.mapM_nil] at h; injection h with h; subst h; exact ⟨rfl, fun k i hk => by simp at hk⟩
  | cons x l ih =>
    intro r h
    rw [List.mapM_cons] at h
    cases hc : cellH H (a.add x) with
    | none => rw [hc] at h; cases h
    | some v =>
      rw [hc] at h
      cases hm : (l.mapM fun i => cellH H (a.add i)) with
      | none => rw [hm] at h; cases h
      | some r' =>
        rw [hm] at h
        injection h with h
        subst h
        obtain ⟨h1, h2⟩ := ih r' hm
        refine ⟨by simp [h1], fun k i hk => ?_⟩
        cases k with
        | zero => simp only [List.getElem?_cons_zero, Option.some.injEq] at hk; subst hk; simpa using hc
        | succ k => simp only [List.getElem?_cons_succ] at hk ⊢; exact h2 k i hk
theorem add_zero (a : Addr) : a.add 0 = a := by unfold Addr.add; rw [if_pos rfl]
theorem cells_row {w : World} {a : Addr} {n : Nat} {r : List Value} (hn : 0 < n) (h : w.cells? 0 a n = some r) : a.spot = none ∧ rowH w.heap a n = some r.toArray := by
  unfold World.cells? at h
  rw [if_pos (Nat.zero_le _)] at h
  obtain ⟨hl, hg⟩ := mapM_cells (H := w.heap) (a := a) (List.range n) r h
  rw [List.length_range] at hl
  have hat : ∀ k, k < n → cellH w.heap (a.add k) = r[k]? := fun k hk => hg k k (by rw [List.getElem?_range hk])
  have hsome : ∀ k, k < n → ∃ v, cellH w.heap (a.add k) = some v := fun k hk => by
    rw [hat k hk]; exact ⟨r[k]'(by omega), List.getElem?_eq_getElem (by omega)⟩
  have hsp : a.spot = none := by
    obtain ⟨v, hv⟩ := hsome 0 hn
    rw [add_zero] at hv
    unfold cellH at hv
    split at hv
    · split at hv
      · cases hv
      · rename_i h1; simpa using h1
    · cases hv
  refine ⟨hsp, ?_⟩
  obtain ⟨b, o, sp⟩ := a
  simp only at hsp
  subst hsp
  simp only [Addr.add_mk] at hat hsome
  have key : ∃ c T z, w.heap[b]? = some (.cells c T z) ∧ ∀ k, k < n → c[o + k]? = r[k]? := by
    obtain ⟨v, hv⟩ := hsome 0 hn
    unfold cellH at hv
    split at hv
    · rename_i c T z hb
      refine ⟨c, T, z, hb, fun k hk => ?_⟩
      rw [← hat k hk]
      unfold cellH
      simp only [hb]
      simp
    · cases hv
  obtain ⟨c, T, z, hb, hc⟩ := key
  have hsz : o + n ≤ c.size := by
    have h1 := hc (n - 1) (by omega)
    rw [List.getElem?_eq_getElem (show n - 1 < r.length by omega)] at h1
    rcases Nat.lt_or_ge (o + (n - 1)) c.size with h2 | h2
    · omega
    · rw [Array.getElem?_eq_none h2] at h1; cases h1
  unfold rowH
  simp only [hb]
  rw [if_pos ⟨trivial, hsz⟩]
  congr 1
  refine ext_of_get (by simpa using hl) hsz fun j hj => ?_
  rw [hc j hj]; simp

theorem trod_sr {K : Type} {enc : TypeId × Value → K} {P : Program} {w : World} {sp : Nat → Bool} {hd : Bool} {fuel n : Nat} {t e : TypeId} {s : Value} {x : DataW K × List MemPlace} (ht : P.underlying t = some (.slice e)) (hn : P.cellsOf e = n) (hp : 0 < n)
    (h : DataW.trod enc P w 0 sp hd fuel t [s] = some x) :
    ∃ (vs : List (Array Value)) (m : Nat) (ds : List (DataW K × List MemPlace)), Sr n w.heap s vs ∧ ds.length = vs.length ∧ (∀ (i : Nat) (v : Array Value), vs[i]? = some v → DataW.trod enc P w 0 sp hd m e v.toList = ds[i]?) ∧ vs.length ≤ maxLen ∧ (vs = [] ∧ ds = [] ∨ ∃ r, x.1 = .slice (ds.map (·.1)) r) := by
  rcases DataW.trod_slice ht h with ⟨h1, h2⟩ | ⟨a, len, cap, elems, rest, m, hf, hcs, hx, hb, hle, hcap, hel, hat, _⟩
  · injection h1 with h1; subst h1
    exact ⟨[], 0, [], Sr.nil n _, rfl, fun i v hi => by simp at hi, Nat.zero_le _, .inl ⟨rfl, rfl⟩⟩
  · injection hcs with hcs; subst hcs
    rw [hn] at hat
    have hsome : ∀ i, i < len → ∃ r, w.cells? 0 (a.add (i * n)) n = some r ∧ DataW.trod enc P w 0 sp hd m e r = elems[i]? := fun i hi => by
      have h1 := hat i hi
      rw [List.getElem?_eq_getElem (show i < elems.length by omega)] at h1 ⊢
      cases hc : w.cells? 0 (a.add (i * n)) n with
      | none => rw [hc] at h1; cases h1
      | some r => rw [hc] at h1; exact ⟨r, rfl, h1⟩
    refine ⟨(List.range len).map fun i => ((w.cells? 0 (a.add (i * n)) n).getD []).toArray, m, elems, ⟨some a, cap, by simp, by simpa using hle, fun hne => ?_⟩, by simpa using hel, fun i v hi => ?_, by simp; omega, .inr ⟨_, by rw [hx]⟩⟩
    · have hpos : 0 < len := by
        rcases Nat.eq_zero_or_pos len with h0 | h0
        · subst h0; exact absurd rfl hne
        · exact h0
      obtain ⟨r0, hr0, _⟩ := hsome 0 hpos
      rw [Nat.zero_mul, add_zero] at hr0
      have hsp := (cells_row hp hr0).1
      obtain ⟨b, o, s2⟩ := a
      simp only at hsp
      subst hsp
      refine ⟨b, o, rfl, fun i v hi => ?_⟩
      rw [List.getElem?_map] at hi
      cases hri : (List.range len)[i]? with
      | none => rw [hri] at hi; cases hi
      | some j =>
        rw [hri] at hi
        have hil : i < len := by
          rcases Nat.lt_or_ge i len with h1 | h1
          · exact h1
          · rw [List.getElem?_eq_none (by simpa using h1)] at hri; cases hri
        rw [List.getElem?_range hil] at hri
        injection hri with hri; subst hri
        obtain ⟨r, hr, _⟩ := hsome i hil
        simp only [Option.map_some, hr, Option.getD_some] at hi
        injection hi with hi; subst hi
        have := (cells_row hp hr).2
        rw [Addr.add_mk] at this
        exact this
    · rw [List.getElem?_map] at hi
      cases hri : (List.range len)[i]? with
      | none => rw [hri] at hi; cases hi
      | some j =>
        rw [hri] at hi
        have hil : i < len := by
          rcases Nat.lt_or_ge i len with h1 | h1
          · exact h1
          · rw [List.getElem?_eq_none (by simpa using h1)] at hri; cases hri
        rw [List.getElem?_range hil] at hri
        injection hri with hri; subst hri
        obtain ⟨r, hr, ht2⟩ := hsome i hil
        simp only [Option.map_some, hr, Option.getD_some] at hi
        injection hi with hi; subst hi
        simpa using ht2
end Go.Vc
