/- Bits: the list of the set bits of a span, collected by a range over the iterator. -/
import Derived.Test.YthijablhhnfoeaaBitH
set_option linter.unusedVariables false
set_option linter.unusedSimpArgs false
namespace Go.Vc
open Go.Proofs

/-- The set bits of a, a+1, .., a+n-1, rising. -/
def bl (c : Array Value) (a : Int) : Nat → List Int
  | 0 => []
  | n + 1 => bl c a n ++ (if hasB c (a + n) then [a + n] else [])
theorem bl_len (c : Array Value) (a : Int) : ∀ n, (bl c a n).length = cnt c a n
  | 0 => rfl
  | n + 1 => by simp only [bl, cnt, List.length_append, bl_len c a n]; split <;> rfl
theorem bl_step {c : Array Value} {a i : Int} (h : a ≤ i) : bl c a (i + 1 - a).toNat = bl c a (i - a).toNat ++ (if hasB c i then [i] else []) := by
  have e : (i + 1 - a).toNat = (i - a).toNat + 1 := by omega
  have e2 : a + (((i - a).toNat : Nat) : Int) = i := by omega
  rw [e, bl, e2]
theorem bl_mem {c : Array Value} {a : Int} : ∀ {n : Nat} {x : Int}, x ∈ bl c a n → a ≤ x ∧ x < a + n ∧ hasB c x = true
  | 0, x, h => by simp [bl] at h
  | n + 1, x, h => by
    simp only [bl, List.mem_append] at h
    rcases h with h | h
    · obtain ⟨h1, h2, h3⟩ := bl_mem h; exact ⟨h1, by omega, h3⟩
    · split at h
      · rw [List.mem_singleton] at h; subst h; rename_i hh; exact ⟨by omega, by omega, hh⟩
      · simp at h
/-- The set bits of a span, cut to the block. -/
def bsOf (c : Array Value) (f t : Int) : List Int := bl c (max f 0) (min t 8192 - max f 0).toNat
theorem bsOf_len (c : Array Value) (f t : Int) : ((bsOf c f t).length : Int) = cntI c f t := by
  unfold bsOf cntI; rw [bl_len]

theorem zero31 : zeroE Try.prog 31 = some (.slice none 0 0) := by kernel_rfl
theorem func_nil {td : Option TypeDesc} {fn : Fn} {a b : Array Value} (h : ∃ p r v, td = some (.func p r v)) : binE td .eql (.func fn a b) .nilFunc = some (.bool false) := by
  obtain ⟨p, r, v, rfl⟩ := h; rfl
theorem fun41 : ∃ p r v, Program.underlying Try.prog 41 = some (.func p r v) := ⟨_, _, _, Try.underlying41⟩
theorem enter24 : enterB Try.prog 24 = true := by kernel_rfl

theorem LpAt.ext {rec : Loop} {l : Nat} {st : LoopState} {j : Jmp} {H H' : Hp} (h : LpAt rec l st j H) (hx : Ext H H') : LpAt rec l st j H' := hx.at h
theorem LpAt.set {rec : Loop} {l : Nat} {st st' : LoopState} {j j' : Jmp} {H : Hp} (h : LpAt rec l st j H) : LpAt rec l st' j' (setLp rec l st' j' H) := get_set_same h

/-- What holds between two rounds of walk's loop. -/
structure WkI (H H1 : Hp) (rec : Loop) (l D bo bm bf bt bb : Nat) (most lo hi : Int) (c : Array Value) (i : Int) (H' : Hp) : Prop where
  ext : Ext H H'
  it : ItB bf bt bb lo hi c H'
  lp : LpAt rec l .ready none H'
  df : H'[D]? = some (.deferred (some []))
  most : H'[bm]? = some (.cells #[.int .i64 most] 3)
  size : H1.size ≤ H'.size
  out : ∃ s, H'[bo]? = some (.cells #[s] 31) ∧ Sl 3 H' s (vals (bl c lo (i - lo).toNat)) ∧ ∀ b, blkOf s = some b → H1.size ≤ b
theorem WkI.ext' {H H1 : Hp} {rec : Loop} {l D bo bm bf bt bb : Nat} {most lo hi : Int} {c : Array Value} {i : Int} {H' H'' : Hp} (h : WkI H H1 rec l D bo bm bf bt bb most lo hi c i H') (hx : Ext H' H'') : WkI H H1 rec l D bo bm bf bt bb most lo hi c i H'' := by
  obtain ⟨s, h1, h2, h3⟩ := h.out
  exact ⟨h.ext.trans hx, h.it.ext hx, h.lp.ext hx, hx.at h.df, hx.at h.most, Nat.le_trans h.size hx.le, s, hx.at h1, h2.ext hx, h3⟩

set_option maxHeartbeats 4000000 in
theorem walk_ok {c : Array Value} {f t : Int} {H : Hp} {R : Value → Hp → Prop} (hb : IsB c) (hf : f ≤ 9223372036854775807)
    (h : ∀ s H', Ext H H' → Sl 3 H' s (vals (bsOf c f t)) → R (.tuple #[s, .bool true]) H') : Fc Try.prog 20 #[.agg c, .int .i64 f, .int .i64 t, .int .i64 (-1)] H R := by
  refine fn20 ?_
  have g1 := get_push_new H (.cells c 23)
  have g2 := get_push_new (H.push (.cells c 23)) (.cells #[.int .i64 (-1)] 3)
  have g12 := get_push_old (o := .cells #[.int .i64 (-1)] 3) g1
  have hs1 : (H.push (.cells c 23)).size = H.size + 1 := by simp
  have hx2 := (Ext.push H (.cells c 23)).snoc (.cells #[.int .i64 (-1)] 3)
  rw [hs1] at g2
  have hs2 : ((H.push (.cells c 23)).push (.cells #[.int .i64 (-1)] 3)).size = H.size + 2 := by simp
  simp only [sh20, Box, cells_agg, cells_int, hs1]
  generalize (H.push (.cells c 23)).push (.cells #[.int .i64 (-1)] 3) = H2 at g2 g12 hx2 hs2
  simp only [load_all g12 hb.size, Pu_some]
  refine all_ok hb fun H3 hx3 hit => ?_
  rw [func_nil fun41, Pu_some, Ite_false, zero31, Pu_some]
  have hcs : (Value.slice none 0 0).cells = #[.slice none 0 0] := rfl
  rw [hcs]
  have hx4 := Ext.push H3 (.cells #[.slice none 0 0] 31)
  have g4 := get_push_new H3 (.cells #[.slice none 0 0] 31)
  have hs4 : (H3.push (.cells #[.slice none 0 0] 31)).size = H3.size + 1 := by simp
  have hle3 := hx3.le
  have hlt3 : H2.size + 2 < H3.size := lt_of_block hit.t
  generalize (H3.push (.cells #[.slice none 0 0] 31)) = H4 at hx4 g4 hs4
  refine RangeF.mk ⟨_, _, _, rfl⟩ ?_
  intro rec l D y H1 hx1 hD hDl hl hdf hlp hy
  have hle1 := hx1.le
  refine ⟨enter24, ?_⟩
  have hmax : (max f 0 = 0 ∨ max f 0 = f) := by omega
  have hrR : ∀ H', WkI H H1 rec l D H3.size (H.size + 1) (H2.size + 1) (H2.size + 2) H2.size (-1) (max f 0) (min t 8192) c (max (max f 0) (min t 8192)) H' →
      ∃ st j, st ≠ LoopState.busy ∧ LpAt rec l st j H' ∧ onJ j
        (Pu (loadE (some none) (.pointer (some ⟨H3.size, 0, none⟩)) (setLp rec l .exhausted j H')) fun x23 => TakeD D (setLp rec l .exhausted j H') fun H11 => R (.tuple #[x23, .bool true]) H11)
        (TakeD D (setLp rec l .exhausted j H') fun H12 => R (.tuple #[.slice none 0 0, .bool false]) H12)
        (fun id21 => isX id21 0 (Pu (loadE (some none) (.pointer (some ⟨H3.size, 0, none⟩)) (setLp rec l .exhausted j H')) fun x24 => TakeD D (setLp rec l .exhausted j H') fun H13 => R (.tuple #[x24, .bool true]) H13) False) := by
    intro H' w
    obtain ⟨s, o1, o2, o3⟩ := w.out
    refine ⟨.ready, none, by decide, w.lp, ?_⟩
    have o4 : (setLp rec l .exhausted none H')[H3.size]? = some (.cells #[s] 31) := by unfold setLp; rw [get_set_other (by omega)]; exact o1
    have o5 : (setLp rec l .exhausted none H')[D]? = some (.deferred (some [])) := by unfold setLp; rw [get_set_other (by omega)]; exact w.df
    show Pu _ _
    rw [load_cell o4]
    simp only [List.getElem?_toArray, List.getElem?_cons_zero, Pu_some]
    refine ⟨o5, h s _ ?_ ?_⟩
    · unfold setLp; exact (w.ext.set (by omega)).set (by omega)
    · have hsp : (min t 8192 - max f 0).toNat = (max (max f 0) (min t 8192) - max f 0).toNat := by omega
      unfold bsOf; rw [hsp]
      refine o2.of fun b hb => ?_
      have := o3 b hb
      unfold setLp
      rw [get_set_other (by omega), get_set_other (by omega)]
  refine all1_ok hb (by omega) (by omega) (by omega) (fun i H' => WkI H H1 rec l D H3.size (H.size + 1) (H2.size + 1) (H2.size + 2) H2.size (-1) (max f 0) (min t 8192) c i H') (fun i H' w => w.it) (fun i H' H'' w hx => w.ext' hx)
    ⟨hx2.trans (hx3.trans (hx4.trans hx1)), (hit.ext hx4).ext hx1, hlp, hdf, (hx3.trans (hx4.trans hx1)).at g2, Nat.le_refl _, _, hx1.at g4, by
      have e : (max f 0 - max f 0).toNat = 0 := by omega
      rw [e]; exact Sl.nil 3 H1, fun b hb => by cases hb⟩ ?_ ?_ ?_
  · intro i H' w hil hih hno
    obtain ⟨s, o1, o2, o3⟩ := w.out
    refine ⟨w.ext, w.it, w.lp, w.df, w.most, w.size, s, o1, ?_, o3⟩
    rw [bl_step hil, hno]; simpa using o2
  · intro i H' w hil hih hyes
    obtain ⟨s, o1, o2, o3⟩ := w.out
    have hi8 : 0 ≤ i ∧ i < 8192 := by omega
    have hsz := w.size
    refine hy (.int .i64 i, ()) H' _ w.lp ⟨w.lp, ?_⟩
    have p1 : (setLp rec l .busy none H')[H3.size]? = some (.cells #[s] 31) := by unfold setLp; rw [get_set_other (by omega)]; exact o1
    have p2 : (setLp rec l .busy none H')[H.size + 1]? = some (.cells #[.int .i64 (-1)] 3) := by unfold setLp; rw [get_set_other (by omega)]; exact w.most
    have p3 : Sl 3 (setLp rec l .busy none H') s (vals (bl c (max f 0) (i - max f 0).toNat)) := o2.of fun b hb => by
      have hbb := o3 b hb
      unfold setLp
      rw [get_set_other (b := l) (c := b) (by omega)]
    have p4 : LpAt rec l .busy none (setLp rec l .busy none H') := w.lp.set
    have p5 : ItB (H2.size + 1) (H2.size + 2) H2.size (max f 0) (min t 8192) c (setLp rec l .busy none H') := by
      obtain ⟨q1, q2, q3⟩ := w.it
      unfold setLp
      exact ⟨by rw [get_set_other (by omega)]; exact q1, by rw [get_set_other (by omega)]; exact q2, by rw [get_set_other (by omega)]; exact q3⟩
    have p6 : (setLp rec l .busy none H')[D]? = some (.deferred (some [])) := by unfold setLp; rw [get_set_other (by omega)]; exact w.df
    have p7 : Ext H (setLp rec l .busy none H') := by unfold setLp; exact w.ext.set (by omega)
    have p8 : H1.size ≤ (setLp rec l .busy none H').size := by unfold setLp; simpa using hsz
    generalize setLp rec l .busy none H' = H6 at p1 p2 p3 p4 p5 p6 p7 p8
    obtain ⟨sb, scap, hsl⟩ := p3.len
    have hlen : lenE Try.prog 31 s = some (.int .i64 (bl c (max f 0) (i - max f 0).toNat).length) := by
      rw [hsl, vals_len]; exact len_slice und31
    have hcn := cnt_le c (max f 0) (i - max f 0).toNat
    rw [← bl_len] at hcn
    have q1 := load_cell (i := 0) p1
    have q2 := load_cell (i := 0) p2
    simp only [q1, q2, List.getElem?_toArray, List.getElem?_cons_zero, Pu_some, hlen, binE_eql, Ite_dec]
    refine ⟨fun he => absurd he (by omega), fun _ => ?_⟩
    have hne : newSliceE (some ⟨3, 1, 8, #[.int .i64 0]⟩) 1 [(0, .int .i64 i)] = some #[.int .i64 i] := newOne i _ rfl
    simp only [elemI31, hne, Pu_some, NewS]
    have hp := Ext.push H6 (.cells #[.int .i64 i] 3)
    have hpsz : (H6.push (.cells #[.int .i64 i] 3)).size = H6.size + 1 := by simp
    refine app_one (T := 3) rfl rfl rfl (by decide) (p3.ext hp) (get_push_new H6 _) (xs := #[.int .i64 i]) rfl rfl ?_ ?_
    · rw [vals_len]; show ((bl c (max f 0) (i - max f 0).toNat).length + 1) * 8 ≤ 2 ^ 47; omega
    · intro s' H8 hs' hle' hsame hnew
      have low : ∀ b, b < H1.size → H8[b]? = H6[b]? := fun b hb => by
        rw [hsame b (by omega) (fun e => by have := o3 b e; omega), hp.same b (by omega)]
      have r1 : H8[H3.size]? = some (.cells #[s] 31) := by rw [low _ (by omega)]; exact p1
      rw [store_cell (v := s') r1 (by simp) (by obtain ⟨_, _, e⟩ := hs'.len; rw [e]; rfl) (by obtain ⟨_, _, e⟩ := hs'.len; rw [e]; rfl), Pu_some]
      have e1 : (#[s].setIfInBounds 0 s') = #[s'] := by simp
      rw [e1]
      have lows : ∀ b, b < H1.size → b ≠ H3.size → (H8.setIfInBounds H3.size (.cells #[s'] 31))[b]? = H6[b]? := fun b hb hne => by
        rw [get_set_other (fun e => hne e.symm)]; exact low b hb
      have r2 := get_set_same (o := .cells #[s'] 31) r1
      have r3 : (H8.setIfInBounds H3.size (.cells #[s'] 31)).size = H8.size := by simp
      have r4 : Sl 3 (H8.setIfInBounds H3.size (.cells #[s'] 31)) s' (vals (bl c (max f 0) (i - max f 0).toNat) ++ [.int .i64 i]) := hs'.of fun b hb => by
        rw [get_set_other]
        rcases hnew b hb with h1 | h1
        · have := o3 b h1; omega
        · omega
      generalize H8.setIfInBounds H3.size (.cells #[s'] 31) = H9 at lows r2 r3 r4
      have lp9 : LpAt rec l .busy none H9 := by unfold LpAt; rw [lows l hl (by omega)]; exact p4
      refine ⟨lp9, .inl ⟨rfl, ⟨?_, ⟨?_, ?_, ?_⟩, lp9.set, ?_, ?_, ?_, s', ?_, ?_, ?_⟩⟩⟩
      · unfold setLp
        refine (Ext.set ⟨by have := p7.le; omega, fun b hb => ?_⟩ (by omega))
        rw [lows b (by omega) (by omega)]; exact p7.same b hb
      · unfold setLp; rw [get_set_other (by omega), lows _ (by omega) (by omega)]; exact p5.f
      · unfold setLp; rw [get_set_other (by omega), lows _ (by omega) (by omega)]; exact p5.t
      · unfold setLp; rw [get_set_other (by omega), lows _ (by omega) (by omega)]; exact p5.b
      · unfold setLp; rw [get_set_other (by omega), lows _ (by omega) (by omega)]; exact p6
      · unfold setLp; rw [get_set_other (by omega), lows _ (by omega) (by omega)]; exact p2
      · unfold setLp; simp; omega
      · unfold setLp; rw [get_set_other (by omega)]; exact r2
      · rw [bl_step hil, hyes, if_pos rfl, vals_snoc]
        refine r4.of fun b hb => ?_
        unfold setLp
        rw [get_set_other]
        rcases hnew b hb with h1 | h1
        · have := o3 b h1; omega
        · omega
      · intro b hb
        rcases hnew b hb with h1 | h1
        · exact o3 b h1
        · omega
  · intro i H' w hil hih hor
    refine hrR H' ?_
    have : max (max f 0) (min t 8192) = i := by omega
    rw [this]; exact w
end Go.Vc
