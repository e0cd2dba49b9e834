/- Xc, part E: slices. -/
import Derived.Test.YtacfcgoighnioaaGreatXcD
set_option linter.unusedVariables false
set_option linter.unusedSectionVars false
set_option linter.unusedSimpArgs false
namespace Go.Xc
open Go.Vc
variable [Sites]

/-- A block is added, a new one or one that no living number means. -/
theorem Rel.add {H0 : Hp} {m : M} {t t' : Tr CO} {n wp : Nat} {H H' : Hp} {o : CO} {O : Obj} {e : Nat × Nat} (hr : Rel H0 m (.mk t n wp) H) (h2 : t'.get n = some o) (h3 : ∀ j, j ≠ n → t'.get j = t.get j)
    (hO : H'[e.1]? = some O) (ho : Orel m e o O) (hnew : H0.size ≤ e.1) (hle : H.size ≤ H'.size) (hx : Ext H0 H') (hsame : ∀ k x (d : Nat × Nat), t.get k = some x → m[k]? = some d → d.1 ≠ e.1 ∧ H'[d.1]? = H[d.1]?) :
    Rel H0 (m ++ [e]) (.mk t' (n + 1) wp) H' ∧ Pre m (m ++ [e]) ∧ (m ++ [e])[n]? = some e := by
  have hl : m.length = n := hr.len
  have hpre := Pre.snoc m e
  have hlast : (m ++ [e])[n]? = some e := by rw [List.getElem?_append_right (by omega)]; simp [hl]
  have hget : ∀ j x, t'.get j = some x → j = n ∧ x = o ∨ j ≠ n ∧ t.get j = some x := fun j x hj => by
    by_cases hjn : j = n
    · subst hjn; rw [h2] at hj; injection hj with hj; exact .inl ⟨rfl, hj.symm⟩
    · exact .inr ⟨hjn, by rw [← h3 j hjn]; exact hj⟩
  have hold : ∀ (j : Nat) (d : Nat × Nat), j ≠ n → (m ++ [e])[j]? = some d → m[j]? = some d := fun j d hj hd => by
    rw [List.getElem?_append] at hd
    split at hd
    · exact hd
    · rw [List.getElem?_eq_none (by simp; omega)] at hd; cases hd
  refine ⟨⟨hx, by simp [hl, CH.n], fun k d hk => ?_, fun k x hkx => ?_, fun j k x y d d' hj hk hd he hde => ?_, fun k d hk => ?_⟩, hpre, hlast⟩
  · by_cases hkn : k = n
    · subst hkn; rw [hlast] at hk; injection hk with hk; subst hk; exact hnew
    · exact hr.new k d (hold k d hkn hk)
  · rcases hget k x hkx with ⟨rfl, rfl⟩ | ⟨hkn, hkx'⟩
    · exact ⟨_, O, hlast, hO, ho.mono hpre⟩
    · obtain ⟨d, O', h4, h5, h6⟩ := hr.obj k x hkx'
      exact ⟨d, O', hpre _ _ h4, by rw [(hsame k x d hkx' h4).2]; exact h5, h6.mono hpre⟩
  · rcases hget j x hj with ⟨rfl, rfl⟩ | ⟨hjn, hj'⟩ <;> rcases hget k y hk with ⟨rfl, rfl⟩ | ⟨hkn, hk'⟩
    · rfl
    · rw [hlast] at hd; injection hd with hd; subst hd
      exact absurd hde.symm (hsame k y d' hk' (hold _ _ hkn he)).1
    · rw [hlast] at he; injection he with he; subst he
      exact absurd hde (hsame j x d hj' (hold _ _ hjn hd)).1
    · exact hr.inj j k x y d d' hj' hk' (hold _ _ hjn hd) (hold _ _ hkn he) hde
  · by_cases hkn : k = n
    · subst hkn; rw [hlast] at hk; injection hk with hk; subst hk; exact Vc.lt_of_block hO
    · have := hr.low k d (hold k d hkn hk); omega

theorem Rel.kill {H0 : Hp} {m : M} {t t' : Tr CO} {n wp b : Nat} {H : Hp} (hr : Rel H0 m (.mk t n wp) H) (h2 : t'.get b = none) (h3 : ∀ j, j ≠ b → t'.get j = t.get j) : Rel H0 m (.mk t' n wp) H := by
  have hget : ∀ j x, t'.get j = some x → j ≠ b ∧ t.get j = some x := fun j x hj => by
    by_cases hjb : j = b
    · subst hjb; rw [h2] at hj; cases hj
    · exact ⟨hjb, by rw [← h3 j hjb]; exact hj⟩
  exact ⟨hr.ext, hr.len, hr.new, fun k o hk => hr.obj k o (hget k o hk).2, fun j k x y d e hj hk => hr.inj j k x y d e (hget j x hj).2 (hget k y hk).2, hr.low⟩

/-- A block that is named anew. -/
noncomputable def xMove (b : Nat) (o : CO) (h : CH) (k : Nat → CH → Bool) : Bool :=
  match h with
  | .mk t n wp => Bool.rec false (Tr.setK none 64 t b fun t1 => Tr.setK (some o) 64 t1 n fun t2 => forceN (n + 1) fun n' => k n (.mk t2 n' wp)) (Nat.ble wp b)

/-- What an append asks of the block that it leaves: whatever room there is behind. -/
def Grown (m : M) (T es : Nat) (o : CO) (old new : List Value) : Prop := ∀ (b : Nat) (C : Array Value), old.length + new.length ≤ C.size → C.toList.take (old.length + new.length) = old ++ new → Orel m (b, C.size) o (.cells C T)

/-- append into a new block. -/
theorem app_new {e : ElemI} {vs vx : Value} {H : Hp} {K : Value → Hp → Prop} {old new : Array Value} {len n cap : Nat} {base : Option Addr} (hs : vs = .slice base len cap) (hlx : lenS vx = n) (hcx : cellsS e.size vx H = some new) (hcs : cellsS e.size vs H = some old)
    (hol : old.size = len * e.size) (hnl : new.size = n * e.size) (hby : 0 < e.bytes) (hlim : (len + n) * e.bytes ≤ 2 ^ 47) (hz : e.zero.size = e.size)
    (hin : len + n ≤ cap → ∃ a, base = some a ∧ Pu (putH H (a.add (len * e.size)) new) fun H' => K (.slice base (len + n) cap) H')
    (hout : ∀ (c : Nat) (C : Array Value), len + n ≤ c → C.size = c * e.size → C.toList.take (old.toList.length + new.toList.length) = old.toList ++ new.toList → K (.slice (some ⟨H.size, 0, none⟩) (len + n) c) (H.push (.cells C e.type))) :
    AppS (some e) vs vx H K := by
  subst hs
  unfold AppS
  rw [Pu_some, hcx, Pu_some, hlx]
  unfold App
  simp only
  by_cases hc : len + n ≤ cap
  · rw [if_pos hc]
    obtain ⟨a, rfl, h⟩ := hin hc
    exact h
  · rw [if_neg hc]
    refine ⟨hby, hlim, ?_⟩
    rw [hcs, Pu_some]
    intro c hcap
    refine hout c _ hcap ?_ ?_
    · simp only [Array.size_append, hol, hnl, Builtin.zeroCells, Array.size_map, Array.size_range, hz]
      rw [← Nat.add_mul, ← Nat.add_mul]; congr 1; omega
    · rw [Array.toList_append, Array.toList_append, ← List.length_append, List.take_left]

/-- What a slice's cells are in the run's own memory: a list of elements, each in parts. -/
def Elems (m : M) (es : Nat) : List (List CV) → List Value → Prop
  | [], l => l = []
  | ps :: r, l => ∃ l1 l2, l = l1 ++ l2 ∧ l1.length = es ∧ Crel m ps l1 ∧ Elems m es r l2
theorem Elems.len {m : M} {es : Nat} : ∀ {r : List (List CV)} {l : List Value}, Elems m es r l → l.length = r.length * es
  | [], l, h => by simp only [Elems] at h; subst h; simp
  | ps :: r, l, h => by
    obtain ⟨l1, l2, rfl, h1, _, h2⟩ := h
    rw [List.length_append, h1, h2.len, List.length_cons, Nat.add_mul, Nat.one_mul]; omega

/-- The elements from number i on, n of them. -/
noncomputable def xElems (t : Tr (List CV)) (d : Option (List CV)) (n : Nat) : Nat → (List (List CV) → Bool) → Bool :=
  Nat.rec (motive := fun _ => Nat → (List (List CV) → Bool) → Bool) (fun _ k => k []) (fun _ ih i k => match elt t d i with | some ps => forceN (i + 1) fun i' => ih i' fun r => k (ps :: r) | none => false) n
theorem xElems_ok {t : Tr (List CV)} {d : Option (List CV)} : ∀ {n i : Nat} {k : List (List CV) → Bool}, xElems t d n i k = true → ∃ r, k r = true ∧ r.length = n ∧ ∀ {m : M} {es len : Nat} {c : Array Value}, i + n ≤ len → len * es ≤ c.size →
    (∀ i, i < len → ∃ ps, elt t d i = some ps ∧ Crel m ps (c.extract (i * es) (i * es + es)).toList) → Elems m es r (c.extract (i * es) (i * es + n * es)).toList
  | 0, i, k, h => ⟨[], h, rfl, fun {m es len c} _ _ _ => by simp [Elems]⟩
  | n + 1, i, k, h => by
    have h' : (match elt t d i with | some ps => forceN (i + 1) fun i' => xElems t d n i' fun r => k (ps :: r) | none => false) = true := h
    split at h'
    · rename_i ps hps
      rw [forceN_eq] at h'
      obtain ⟨r, h1, h2, h3⟩ := xElems_ok h'
      refine ⟨ps :: r, h1, by simp [h2], fun {m es len c} hi hl hc => ?_⟩
      obtain ⟨ps', h4, h5⟩ := hc i (by omega)
      rw [hps] at h4; injection h4 with h4; subst h4
      have h6 := h3 (by omega) hl hc
      have hb := Nat.mul_le_mul_right es hi
      rw [show i + (n + 1) = i + 1 + n by omega, Nat.add_mul, Nat.add_mul, Nat.one_mul] at hb
      rw [Nat.add_mul, Nat.one_mul] at h6
      refine ⟨_, _, ?_, ?_, h5, h6⟩
      · rw [Array.toList_extract, Array.toList_extract, Array.toList_extract, List.extract_eq_take_drop, List.extract_eq_take_drop, List.extract_eq_take_drop]
        rw [Nat.add_mul, Nat.one_mul, show i * es + (n * es + es) - i * es = es + n * es by omega, show i * es + es - i * es = es by omega, show i * es + es + n * es - (i * es + es) = n * es by omega]
        rw [List.take_add, List.drop_drop]
      · rw [Array.length_toList, Array.size_extract]; omega
    · cases h'

/-- Elements laid into a tree from number i on. -/
noncomputable def xPuts (r : List (List CV)) : Tr (List CV) → Nat → (Tr (List CV) → Bool) → Bool :=
  List.rec (motive := fun _ => Tr (List CV) → Nat → (Tr (List CV) → Bool) → Bool) (fun t _ k => k t) (fun ps _ ih t i k => Tr.setK (some ps) 64 t i fun t' => forceN (i + 1) fun i' => ih t' i' k) r
theorem xPuts_ok : ∀ {r : List (List CV)} {t : Tr (List CV)} {i : Nat} {k : Tr (List CV) → Bool}, xPuts r t i k = true → ∃ t', k t' = true ∧ (∀ j, j < i → t'.get j = t.get j) ∧ ∀ j ps, r[j]? = some ps → t'.get (i + j) = some ps
  | [], t, i, k, h => ⟨t, h, fun _ _ => rfl, fun j ps hj => by simp at hj⟩
  | ps :: r, t, i, k, h => by
    have h' : Tr.setK (some ps) 64 t i (fun t' => forceN (i + 1) fun i' => xPuts r t' i' k) = true := h
    obtain ⟨t1, h1, h2, h3⟩ := Tr.setK_ok h'
    rw [forceN_eq] at h1
    obtain ⟨t2, h4, h5, h6⟩ := xPuts_ok h1
    refine ⟨t2, h4, fun j hj => by rw [h5 j (by omega), h3 j (by omega)], fun j qs hj => ?_⟩
    cases j with
    | zero =>
      simp only [List.getElem?_cons_zero, Option.some.injEq] at hj
      subst hj
      rw [Nat.add_zero, h5 i (by omega)]; exact h2
    | succ j =>
      rw [List.getElem?_cons_succ] at hj
      have := h6 j qs hj
      rw [show i + (j + 1) = i + 1 + j by omega]; exact this
theorem Elems.get {m : M} {es : Nat} : ∀ {r : List (List CV)} {l : List Value} {j : Nat} {ps : List CV}, Elems m es r l → r[j]? = some ps → Crel m ps ((l.drop (j * es)).take es)
  | [], _, _, _, _, h => by simp at h
  | qs :: r, l, 0, ps, h, hj => by
    obtain ⟨l1, l2, rfl, h1, h2, _⟩ := h
    simp only [List.getElem?_cons_zero, Option.some.injEq] at hj
    subst hj
    rw [Nat.zero_mul, List.drop_zero, ← h1, List.take_left]; exact h2
  | qs :: r, l, j + 1, ps, h, hj => by
    obtain ⟨l1, l2, rfl, h1, _, h2⟩ := h
    rw [List.getElem?_cons_succ] at hj
    have := h2.get hj
    rw [Nat.add_mul, Nat.one_mul, Nat.add_comm, ← List.drop_drop, ← h1, List.drop_left]
    rw [h1]; exact this

theorem grown_tree {m : M} {T es len : Nat} {d : Option (List CV)} {t t' : Tr (List CV)} {r : List (List CV)} {c : Array Value} {new : List Value} (hl : len * es ≤ c.size) (hold : ∀ i, i < len → ∃ ps, elt t d i = some ps ∧ Crel m ps (c.extract (i * es) (i * es + es)).toList)
    (h1 : ∀ j, j < len → t'.get j = t.get j) (h2 : ∀ j ps, r[j]? = some ps → t'.get (len + j) = some ps) (hn : Elems m es r new) : Grown m T es (.row T es (len + r.length) d t') (c.extract 0 (len * es)).toList new := by
  intro b C hC hpre
  have hol : (c.extract 0 (len * es)).toList.length = len * es := by rw [Array.length_toList, Array.size_extract]; omega
  have hnl := hn.len
  rw [hol] at hC hpre
  refine ⟨C, rfl, rfl, by rw [Nat.add_mul]; omega, fun i hi => ?_⟩
  have hCe : ∀ o, o + es ≤ len * es + new.length → (C.extract o (o + es)).toList = (((c.extract 0 (len * es)).toList ++ new).drop o).take es := by
    intro o ho
    rw [Array.toList_extract, List.extract_eq_take_drop, show o + es - o = es by omega, ← hpre, List.drop_take, List.take_take, show min es (len * es + new.length - o) = es by omega]
  by_cases hil : i < len
  · obtain ⟨ps, h3, h4⟩ := hold i hil
    refine ⟨ps, by unfold elt at h3 ⊢; rw [h1 i hil]; exact h3, ?_⟩
    have hb := Nat.mul_le_mul_right es (show i + 1 ≤ len from hil)
    rw [Nat.add_mul, Nat.one_mul] at hb
    rw [hCe _ (by omega), List.drop_append_of_le_length (by omega), List.take_append_of_le_length (by rw [List.length_drop]; omega)]
    have : (c.extract (i * es) (i * es + es)).toList = ((c.extract 0 (len * es)).toList.drop (i * es)).take es := by
      rw [Array.toList_extract, Array.toList_extract, List.extract_eq_take_drop, List.extract_eq_take_drop, Nat.sub_zero, List.drop_zero, show i * es + es - i * es = es by omega, List.drop_take, List.take_take, show min es (len * es - i * es) = es by omega]
    rw [← this]; exact h4
  · have hj : r[i - len]? = some (r[i - len]'(by omega)) := List.getElem?_eq_getElem (by omega)
    refine ⟨_, by unfold elt; rw [show i = len + (i - len) by omega, h2 _ _ hj], ?_⟩
    have hb := Nat.mul_le_mul_right es (show i - len + 1 ≤ r.length by omega)
    rw [Nat.add_mul, Nat.one_mul] at hb
    have e : i * es = len * es + (i - len) * es := by rw [← Nat.add_mul]; congr 1; omega
    rw [e, hCe _ (by omega), ← List.drop_drop, List.drop_left' hol]
    exact hn.get hj
end Go.Xc
