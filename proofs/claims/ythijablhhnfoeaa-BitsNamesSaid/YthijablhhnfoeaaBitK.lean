/- Bits: All stopped and gone over again. -/
import Derived.Test.YthijablhhnfoeaaBitI
set_option linter.unusedVariables false
set_option linter.unusedSimpArgs false
namespace Go.Vc
open Go.Proofs

theorem bl_split (c : Array Value) (a : Int) (m : Nat) : ∀ n, bl c a (m + n) = bl c a m ++ bl c (a + m) n
  | 0 => by simp [bl]
  | n + 1 => by
    rw [← Nat.add_assoc, bl, bl_split c a m n, bl, List.append_assoc]
    have : a + ((m + n : Nat) : Int) = a + m + n := by omega
    rw [this]
theorem bl_at {c : Array Value} {lo hi i : Int} (h1 : lo ≤ i) (h2 : i < hi) (hb : hasB c i = true) :
    (bl c lo (hi - lo).toNat)[(bl c lo (i - lo).toNat).length]? = some i ∧ (bl c lo (i - lo).toNat).length < (bl c lo (hi - lo).toNat).length := by
  have e : (hi - lo).toNat = (i - lo).toNat + (1 + (hi - i - 1).toNat) := by omega
  have e2 : lo + (((i - lo).toNat : Nat) : Int) = i := by omega
  have e3 : bl c i 1 = [i] := by simp [bl, hb]
  rw [e, bl_split, e2, bl_split, e3]
  simp

/-- Where the variables of 'again' lie. -/
structure AgO (H0 : Hp) (bm bw bo bn bf bt bb : Nat) (s : Value) : Prop where
  h : H0.size ≤ bo ∧ bo < bn ∧ bm < bn ∧ bw < bn ∧ bf < bn ∧ bt < bn ∧ bb < bn ∧ H0.size ≤ bn
  s : ∀ b, blkOf s = some b → b < bn ∧ b ≠ bo
  d : bm ≠ bo ∧ bw ≠ bo ∧ bf ≠ bo ∧ bt ≠ bo ∧ bb ≠ bo
structure AgS (H0 : Hp) (bm bw bo bn bf bt bb : Nat) (most lo hi : Int) (n : Nat) (c : Array Value) (s : Value) (w : List Int) (H' : Hp) : Prop where
  ext : Ext H0 H'
  it : ItB bf bt bb lo hi c H'
  m : H'[bm]? = some (.cells #[.int .i64 most] 3)
  ws : H'[bw]? = some (.cells #[s] 31)
  o : H'[bo]? = some (.cells #[.bool false] 4)
  n : H'[bn]? = some (.cells #[.int .i64 n] 3)
  sl : Sl 3 H' s (vals w)
section
variable {H0 : Hp} {bm bw bo bn bf bt bb : Nat} {most lo hi : Int} {n n' : Nat} {c : Array Value} {s : Value} {w : List Int} {H' H'' : Hp}
theorem AgS.of (o : AgO H0 bm bw bo bn bf bt bb s) (h : AgS H0 bm bw bo bn bf bt bb most lo hi n c s w H') (hle : H'.size ≤ H''.size) (low : ∀ b, b < bn → H''[b]? = H'[b]?) (hn : H''[bn]? = some (.cells #[.int .i64 n'] 3)) :
    AgS H0 bm bw bo bn bf bt bb most lo hi n' c s w H'' := by
  have ho := o.h
  refine ⟨⟨by have := h.ext.le; omega, fun b hb => by rw [low b (by omega)]; exact h.ext.same b hb⟩, ⟨by rw [low _ (by omega)]; exact h.it.f, by rw [low _ (by omega)]; exact h.it.t, by rw [low _ (by omega)]; exact h.it.b⟩,
    by rw [low _ (by omega)]; exact h.m, by rw [low _ (by omega)]; exact h.ws, by rw [low _ (by omega)]; exact h.o, hn, h.sl.of fun b hb => low b (o.s b hb).1⟩
theorem AgS.set (o : AgO H0 bm bw bo bn bf bt bb s) (h : AgS H0 bm bw bo bn bf bt bb most lo hi n c s w H') {b : Nat} {x : Obj} (hb : bn < b) : AgS H0 bm bw bo bn bf bt bb most lo hi n c s w (H'.setIfInBounds b x) :=
  h.of o (by simp) (fun k hk => get_set_other (by omega)) (by rw [get_set_other (by omega)]; exact h.n)
theorem AgS.ext' (o : AgO H0 bm bw bo bn bf bt bb s) (h : AgS H0 bm bw bo bn bf bt bb most lo hi n c s w H') (hx : Ext H' H'') : AgS H0 bm bw bo bn bf bt bb most lo hi n c s w H'' :=
  h.of o hx.le (fun k hk => hx.same k (by have := lt_of_block h.n; omega)) (hx.at h.n)
end

def agBody (x3 x5 x11 v : Value) (K : Jmp → Hp → Prop) (H : Hp) : Prop :=
  Join (n := 1) (fun s H11 => Any fun _ => Ite s.1 (Pu (storeE (some 1) x5 (.bool false) H11) fun H12 => K (some none) H12)
    (Pu (loadE (some none) x11 H11) fun x20 => Pu (binE (some (.int .i64)) .add x20 (.int .i64 1)) fun x21 => Pu (storeE (some 1) x11 x21 H11) fun H13 => K none H13))
  (fun K21 => Pu (loadE (some none) x11 H) fun x23 => Pu (loadE (some none) x3 H) fun x24 => Pu (lenE Try.prog 31 x24) fun x25 => Pu (binE (some (.int .i64)) .geq x23 x25) fun x26 =>
    Ite x26 (K21 ((.bool true), ()) H) (Pu (loadE (some none) x3 H) fun x27 => Pu (loadE (some none) x11 H) fun x28 => Pu (idxAddrE (some (none, 1)) x27 x28) fun x29 => Pu (loadE (some none) x29 H) fun x30 =>
      Pu (binE (some (.int .i64)) .neq v x30) fun x31 => K21 (x31, ()) H))

theorem agBody_ok {H0 : Hp} {bm bw bo bn bf bt bb : Nat} {most lo hi i : Int} {n : Nat} {c : Array Value} {s : Value} {w : List Int} {H : Hp} {K : Jmp → Hp → Prop} (h : AgS H0 bm bw bo bn bf bt bb most lo hi n c s w H)
    (hw : w[n]? = some i) (hlen : w.length ≤ 8192) (hk : K none (H.setIfInBounds bn (.cells #[.int .i64 ((n + 1 : Nat) : Int)] 3))) : agBody (ptrV bw) (ptrV bo) (ptrV bn) (.int .i64 i) K H := by
  have hlt : n < w.length := by
    rcases Nat.lt_or_ge n w.length with h1 | h1
    · exact h1
    · rw [List.getElem?_eq_none h1] at hw; cases hw
  unfold agBody
  refine Join.mk (fun s' H' => H' = H ∧ s'.1 = .bool false) ?_ ?_
  · rintro ⟨s', u⟩ H1 ⟨rfl, hs⟩
    simp only at hs
    subst hs
    simp only [Any_const, Ite_false, ptrV, load_cell h.n, List.getElem?_toArray, List.getElem?_cons_zero, Pu_some, binE_add]
    rw [i64wrap_id (by omega) (by omega), store_cell (v := .int .i64 ((n : Int) + 1)) h.n (by simp) rfl rfl, Pu_some]
    simpa using hk
  · obtain ⟨sb, scap, hse⟩ := h.sl.len
    have hl : lenE Try.prog 31 s = some (.int .i64 w.length) := by rw [hse, vals_len]; exact len_slice und31
    obtain ⟨a, ha, hld⟩ := h.sl.load (k := .i64) (i := n) (by rw [vals_len]; exact hlt)
    rw [vals_get, hw] at hld
    simp only [ptrV, load_cell h.n, load_cell h.ws, List.getElem?_toArray, List.getElem?_cons_zero, Pu_some, hl, binE_geq, Ite_dec]
    refine ⟨fun h1 => absurd h1 (by omega), fun _ => ?_⟩
    rw [ha, Pu_some, hld]
    simp only [Option.map_some, Pu_some, binE_neq]
    exact ⟨trivial, by simp⟩

theorem ag_run {H0 : Hp} {bm bw bo bn bf bt bb D l e : Nat} {most f t : Int} {c : Array Value} {s : Value} {rec : Loop} {y : Value} {H1 : Hp} {round : Tup 1 → Hp → (Hp → (Hp → Prop) → Prop) → (Jmp → Hp → Prop) → Prop} {Q : Value → Hp → Prop} (stop : Prop)
    (X : Value → (Jmp → Hp → Prop) → Hp → Prop) (hround : round = fun s H B K => B H fun H' => X s.1 K H') (hb : IsB c) (hf : f ≤ 9223372036854775807)
    (o : AgO H0 bm bw bo bn bf bt bb s) (hs : AgS H0 bm bw bo bn bf bt bb most (max f 0) (min t 8192) 0 c s (bsOf c f t) H1) (hD : bn < D) (hDl : D < l) (hl : l < H1.size) (he : bn < e ∧ e ≠ l) (hdf : H1[D]? = some (.deferred (some []))) (hde : H1[e]? = some (.deferred (some []))) (hlp : LpAt rec l .ready none H1)
    (hy : ∀ (s : Tup 1) (H2 : Hp) (K : Value → Hp → Prop), LpAt rec l .ready none H2 →
        round s H2 (fun H3 X => LpAt rec l .ready none H3 ∧ X (setLp rec l .busy none H3))
          (fun j H4 => LpAt rec l .busy none H4 ∧ K (.bool j.isNone) (setLp rec l (if j.isNone then .ready else .done) j H4)) → CallV Try.prog y (tupL 1 s).toArray H2 K)
    (hX : ∀ (i : Int) (n : Nat) (H : Hp) (K : Jmp → Hp → Prop), AgS H0 bm bw bo bn bf bt bb most (max f 0) (min t 8192) n c s (bsOf c f t) H → (bsOf c f t)[n]? = some i → K none (H.setIfInBounds bn (.cells #[.int .i64 ((n + 1 : Nat) : Int)] 3)) → (stop → K (some (some 0)) H) → X (.int .i64 i) K H)
    (hafter : ∀ st j n H5, st ≠ .busy → LpAt rec l st j H5 → AgS H0 bm bw bo bn bf bt bb most (max f 0) (min t 8192) n c s (bsOf c f t) (setLp rec l .exhausted j H5) → (setLp rec l .exhausted j H5)[D]? = some (.deferred (some [])) → (setLp rec l .exhausted j H5)[e]? = some (.deferred (some [])) → (j = none ∧ n = (bsOf c f t).length ∨ j = some (some 0) ∧ stop) → Q (.tuple #[]) H5) :
    CallV Try.prog (.func (.func 24) #[] #[ptrV bf, ptrV bt, ptrV bb]) #[y] H1 Q := by
  refine ⟨enter24, ?_⟩
  have hcs : ∀ i, max f 0 ≤ i → i < min t 8192 → hasB c i = true → (bsOf c f t)[(bl c (max f 0) (i - max f 0).toNat).length]? = some i := fun i h1 h2 h3 => (bl_at h1 h2 h3).1
  refine all1_ok hb (by omega) (by omega) (by omega) (fun i H' => AgS H0 bm bw bo bn bf bt bb most (max f 0) (min t 8192) (bl c (max f 0) (i - max f 0).toNat).length c s (bsOf c f t) H' ∧ LpAt rec l .ready none H' ∧ H'[D]? = some (.deferred (some [])) ∧ H'[e]? = some (.deferred (some [])))
    (fun i H' w => w.1.it) (fun i H' H'' w hx => ⟨w.1.ext' o hx, w.2.1.ext hx, hx.at w.2.2.1, hx.at w.2.2.2⟩) ?_ ?_ ?_ ?_
  · have e0 : (max f 0 - max f 0).toNat = 0 := by omega
    rw [e0]
    exact ⟨hs, hlp, hdf, hde⟩
  · intro i H' w hil hih hno
    rw [bl_step hil, hno]
    simpa using w
  · intro i H' ⟨w, wl, wd, we⟩ hil hih hyes
    refine hy (.int .i64 i, ()) H' _ wl ?_
    rw [hround]
    refine ⟨wl, ?_⟩
    have w6 : AgS H0 bm bw bo bn bf bt bb most (max f 0) (min t 8192) (bl c (max f 0) (i - max f 0).toNat).length c s (bsOf c f t) (setLp rec l .busy none H') := by unfold setLp; exact w.set o (by omega)
    have l6 : LpAt rec l .busy none (setLp rec l .busy none H') := wl.set
    have d6 : (setLp rec l .busy none H')[D]? = some (.deferred (some [])) := by unfold setLp; rw [get_set_other (by omega)]; exact wd
    have e6 : (setLp rec l .busy none H')[e]? = some (.deferred (some [])) := by unfold setLp; rw [get_set_other (fun h => he.2 h.symm)]; exact we
    generalize setLp rec l .busy none H' = H6 at w6 l6 d6 e6
    refine hX i _ H6 _ w6 (hcs i hil hih hyes) ?_ ?_
    · have w7 : AgS H0 bm bw bo bn bf bt bb most (max f 0) (min t 8192) ((bl c (max f 0) (i - max f 0).toNat).length + 1) c s (bsOf c f t) (H6.setIfInBounds bn (.cells #[.int .i64 (((bl c (max f 0) (i - max f 0).toNat).length + 1 : Nat) : Int)] 3)) :=
        w6.of o (by simp) (fun b hb => get_set_other (by omega)) (get_set_same w6.n)
      have l7 : LpAt rec l .busy none (H6.setIfInBounds bn (.cells #[.int .i64 (((bl c (max f 0) (i - max f 0).toNat).length + 1 : Nat) : Int)] 3)) := by unfold LpAt; rw [get_set_other (by omega)]; exact l6
      refine ⟨l7, .inl ⟨rfl, ?_, l7.set, ?_, ?_⟩⟩
      · rw [bl_step hil, hyes, if_pos rfl, List.length_append]
        unfold setLp; exact w7.set o (by omega)
      · unfold setLp; rw [get_set_other (by omega), get_set_other (by omega)]; exact d6
      · unfold setLp; rw [get_set_other (fun h => he.2 h.symm), get_set_other (by omega)]; exact e6
    · intro hstop
      refine ⟨l6, .inr ⟨rfl, ?_⟩⟩
      refine hafter .done (some (some 0)) (bl c (max f 0) (i - max f 0).toNat).length _ (by decide) l6.set ?_ ?_ ?_ (.inr ⟨rfl, hstop⟩)
      · unfold setLp; exact (w6.set o (by omega)).set o (by omega)
      · unfold setLp; rw [get_set_other (by omega), get_set_other (by omega)]; exact d6
      · unfold setLp; rw [get_set_other (fun h => he.2 h.symm), get_set_other (fun h => he.2 h.symm)]; exact e6
  · intro i H' ⟨w, wl, wd, we⟩ hil hih hor
    refine hafter .ready none (bl c (max f 0) (i - max f 0).toNat).length _ (by decide) wl ?_ ?_ ?_ (.inl ⟨rfl, ?_⟩)
    · unfold setLp; exact w.set o (by omega)
    · unfold setLp; rw [get_set_other (by omega)]; exact wd
    · unfold setLp; rw [get_set_other (fun h => he.2 h.symm)]; exact we
    · unfold bsOf
      have e1 : (min t 8192 - max f 0).toNat = (i - max f 0).toNat := by omega
      rw [e1]

def agEnd (x3 x5 x11 : Value) (D52 D32 : Nat) (R : Value → Hp → Prop) (H21 : Hp) : Prop :=
    Pu (loadE (some none) x11 H21) fun x55 =>
    Pu (loadE (some none) x3 H21) fun x56 =>
    Pu (lenE Try.prog 31 x56) fun x57 =>
    Pu (binE (some (.int .i64)) .eql x55 x57) fun x58 =>
    Pu (storeE (some 1) x5 x58 H21) fun H22 =>
    TakeD D52 H22 fun H23 =>
    TakeD D32 H23 fun H24 =>
    Pu (loadE (some none) x5 H24) fun x59 =>
    R x59 H24
def agTwo (x3 x5 x7 x11 : Value) (D32 : Nat) (R : Value → Hp → Prop) (H14 : Hp) : Prop :=
   Pu (storeE (some 1) x11 (.int .i64 0) H14) fun H15 =>
   RangeF Try.prog x7 1 H15 (fun s34 H16 B35 K36 => B35 H16 fun H17 => agBody x3 x5 x11 s34.1 K36 H17)
   (fun j51 D52 H21 => onJ j51 (agEnd x3 x5 x11 D52 D32 R H21)
    (TakeD D52 H21 fun H25 => TakeD D32 H25 fun H26 => Pu (loadE (some none) x5 H26) fun x60 => R x60 H26)
    (fun id53 => isX id53 2 (agEnd x3 x5 x11 D52 D32 R H21) False))

theorem agTwo_ok {H0 : Hp} {bm bw bo bn bf bt bb D n : Nat} {most f t : Int} {c : Array Value} {s : Value} {H : Hp} {R : Value → Hp → Prop} (hb : IsB c) (hf : f ≤ 9223372036854775807) (o : AgO H0 bm bw bo bn bf bt bb s)
    (hs : AgS H0 bm bw bo bn bf bt bb most (max f 0) (min t 8192) n c s (bsOf c f t) H) (hD : bn < D) (hdf : H[D]? = some (.deferred (some []))) (h : ∀ H', Ext H0 H' → R (.bool true) H') :
    agTwo (ptrV bw) (ptrV bo) (.func (.func 24) #[] #[ptrV bf, ptrV bt, ptrV bb]) (ptrV bn) D R H := by
  unfold agTwo
  have hlen : (bsOf c f t).length ≤ 8192 := by have := bsOf_len c f t; have := cntI_le c f t; omega
  simp only [ptrV]
  rw [store_cell (v := .int .i64 0) hs.n (by simp) rfl rfl, Pu_some]
  have w2 : AgS H0 bm bw bo bn bf bt bb most (max f 0) (min t 8192) 0 c s (bsOf c f t) (H.setIfInBounds bn (.cells (#[Value.int .i64 n].setIfInBounds 0 (.int .i64 0)) 3)) :=
    hs.of o (by simp) (fun b hb => get_set_other (by omega)) (get_set_same hs.n)
  have d2 : (H.setIfInBounds bn (.cells (#[Value.int .i64 n].setIfInBounds 0 (.int .i64 0)) 3))[D]? = some (.deferred (some [])) := by rw [get_set_other (by omega)]; exact hdf
  generalize H.setIfInBounds bn (.cells (#[Value.int .i64 n].setIfInBounds 0 (.int .i64 0)) 3) = H2 at w2 d2
  refine RangeF.mk ⟨_, _, _, rfl⟩ ?_
  intro rec l D2 y H1 hx1 hD2 hDl hl hdf2 hlp hy
  have hDH := lt_of_block d2
  refine ag_run (e := D) False (fun v K H' => agBody (ptrV bw) (ptrV bo) (ptrV bn) v K H') rfl hb hf o (w2.ext' o hx1) (by omega) hDl hl ⟨hD, by omega⟩ hdf2 (hx1.at d2) hlp hy (fun i n H K w hw hk _ => agBody_ok w hw hlen hk) ?_
  intro st j n H5 hst hlp5 w wd we hj
  rcases hj with ⟨rfl, hn⟩ | ⟨_, hn⟩
  · refine ⟨st, none, hst, hlp5, ?_⟩
    show agEnd _ _ _ _ _ _ _
    generalize setLp rec l .exhausted none H5 = H5 at w wd we ⊢
    unfold agEnd
    obtain ⟨sb, scap, hse⟩ := w.sl.len
    have hl : lenE Try.prog 31 s = some (.int .i64 (bsOf c f t).length) := by rw [hse, vals_len]; exact len_slice und31
    simp only [load_cell w.n, load_cell w.ws, List.getElem?_toArray, List.getElem?_cons_zero, Pu_some, hl, binE_eql, hn]
    have ho := o.h
    rw [store_cell (v := .bool _) w.o (by simp) rfl rfl, Pu_some]
    refine ⟨?_, ?_, ?_⟩
    · rw [get_set_other (by omega)]; exact wd
    · rw [get_set_other (by omega), get_set_other (by omega)]; exact we
    · have k1 : ∀ x, (((H5.setIfInBounds bo x).setIfInBounds D2 (.deferred none)).setIfInBounds D (.deferred none))[bo]? = some x := fun x => by
        rw [get_set_other (by omega), get_set_other (by omega)]; exact get_set_same w.o
      show Pu (loadE (some none) (.pointer (some ⟨bo, 0, none⟩)) _) _
      rw [load_cell (k1 _)]
      simp only [decide_true, show (#[Value.bool false].setIfInBounds 0 (Value.bool true))[0]? = some (.bool true) from rfl, Pu_some]
      exact h _ (((w.ext.set (b := bo) (by omega)).set (b := D2) (by omega)).set (b := D) (by omega))
  · exact hn.elim

set_option maxHeartbeats 4000000 in
theorem again_ok {c : Array Value} {f t most : Int} {s : Value} {H : Hp} {R : Value → Hp → Prop} (hb : IsB c) (hf : f ≤ 9223372036854775807) (hsl : Sl 3 H s (vals (bsOf c f t)))
    (h : ∀ H', Ext H H' → R (.bool true) H') : Fc Try.prog 18 #[.agg c, .int .i64 f, .int .i64 t, .int .i64 most, s] H R := by
  refine fn18 ?_
  have hlen : (bsOf c f t).length ≤ 8192 := by have := bsOf_len c f t; have := cntI_le c f t; omega
  obtain ⟨sb, scap, hse⟩ := hsl.len
  have hcs : s.cells = #[s] := by rw [hse]; rfl
  have z4 : zeroE Try.prog 4 = some (.bool false) := by kernel_rfl
  have z3 : zeroE Try.prog 3 = some (.int .i64 0) := by kernel_rfl
  simp only [sh18, Box, cells_agg, cells_int, hcs, z4, z3, Pu_some, cells_bool]
  have g1 := get_push_new H (.cells c 23)
  have e1 := Ext.push H (.cells c 23)
  have n1 : (H.push (.cells c 23)).size = H.size + 1 := by simp
  generalize H.push (.cells c 23) = H1 at g1 e1 n1 ⊢
  have g2 := get_push_new H1 (.cells #[.int .i64 most] 3)
  have e2 := Ext.push H1 (.cells #[.int .i64 most] 3)
  have n2 : (H1.push (.cells #[.int .i64 most] 3)).size = H1.size + 1 := by simp
  generalize H1.push (.cells #[.int .i64 most] 3) = H2 at g2 e2 n2 ⊢
  have g3 := get_push_new H2 (.cells #[s] 31)
  have e3 := Ext.push H2 (.cells #[s] 31)
  have n3 : (H2.push (.cells #[s] 31)).size = H2.size + 1 := by simp
  generalize H2.push (.cells #[s] 31) = H3 at g3 e3 n3 ⊢
  have g4 := get_push_new H3 (.cells #[.bool false] 4)
  have e4 := Ext.push H3 (.cells #[.bool false] 4)
  have n4 : (H3.push (.cells #[.bool false] 4)).size = H3.size + 1 := by simp
  generalize H3.push (.cells #[.bool false] 4) = H4 at g4 e4 n4 ⊢
  rw [load_all (((e2.trans e3).trans e4).at g1) hb.size, Pu_some]
  refine all_ok hb fun H5 e5 hit => ?_
  rw [func_nil fun41, Pu_some, Ite_false]
  have n5 := lt_of_block hit.t
  have g6 := get_push_new H5 (.cells #[.int .i64 0] 3)
  have e6 := Ext.push H5 (.cells #[.int .i64 0] 3)
  generalize H5.push (.cells #[.int .i64 0] 3) = H6 at g6 e6 ⊢
  rw [store_cell (v := .int .i64 0) g6 (by simp) rfl rfl, Pu_some]
  have e7 : H6.setIfInBounds H5.size (.cells (#[Value.int .i64 0].setIfInBounds 0 (.int .i64 0)) 3) = H6 := by
    rw [show (#[Value.int .i64 0].setIfInBounds 0 (.int .i64 0)) = #[.int .i64 0] from rfl]; exact setIf_self g6
  rw [e7]
  have hx46 := e5.trans e6
  have o : AgO H H1.size H2.size H3.size H5.size (H4.size + 1) (H4.size + 2) H4.size s :=
    ⟨by omega, fun b hb => by have := hsl.lt hb; omega, by omega⟩
  have w : AgS H H1.size H2.size H3.size H5.size (H4.size + 1) (H4.size + 2) H4.size most (max f 0) (min t 8192) 0 c s (bsOf c f t) H6 :=
    ⟨e1.trans (e2.trans (e3.trans (e4.trans hx46))), hit.ext e6, (e3.trans (e4.trans hx46)).at g2, (e4.trans hx46).at g3, hx46.at g4, g6, hsl.ext (e1.trans (e2.trans (e3.trans (e4.trans hx46))))⟩
  have hsz6 := lt_of_block g6
  refine RangeF.mk ⟨_, _, _, rfl⟩ ?_
  intro rec l D y H7 hx7 hD hDl hl hdf hlp hy
  refine ag_run (e := D) True (fun v K H10 => Pu (loadE (some none) (ptrV H5.size) H10) fun x15 => Pu (loadE (some none) (ptrV H1.size) H10) fun x16 => Pu (binE (some (.int .i64)) .eql x15 x16) fun x17 =>
    Ite x17 (K (some (some 0)) H10) (agBody (ptrV H2.size) (ptrV H3.size) (ptrV H5.size) v K H10)) rfl hb hf o (w.ext' o hx7) (by omega) hDl hl ⟨by omega, by omega⟩ hdf hdf hlp hy ?_ ?_
  · intro i n H10 K w hw hk hst
    simp only [ptrV, load_cell w.n, load_cell w.m, List.getElem?_toArray, List.getElem?_cons_zero, Pu_some, binE_eql, Ite_dec]
    exact ⟨fun _ => hst trivial, fun _ => agBody_ok w hw hlen hk⟩
  · intro st j n H8 hst hlp8 w wd _ hj
    have two := agTwo_ok hb hf o w (by omega) wd h
    rcases hj with ⟨rfl, hn⟩ | ⟨rfl, _⟩
    · exact ⟨st, _, hst, hlp8, two⟩
    · exact ⟨st, _, hst, hlp8, two⟩
end Go.Vc
