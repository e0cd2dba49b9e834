/- CachePlays, in the second form: whatever blocks, whatever two sizes and whatever steps, their bulk being at most 1,048,576: the law returns true, and the input reads behind the call as it read before. -/
import Derived.Test.YtacfcgoighnioaaP250672b4ea
import Derived.Test.YtacfcgoighnioaaP191bc1067b
import Derived.SizedLaws
import Derived.JoinedCond
/- What the closings of the laws on two caches need: their arguments, read out of memory. -/
set_option linter.unusedVariables false
set_option linter.unusedSimpArgs false
namespace Go.Vc
open Go.Proofs
theorem list_of {α : Type} {f : α → Array Value} {Q : α → Prop} : ∀ {vs : List (Array Value)}, (∀ v ∈ vs, ∃ a, v = f a ∧ Q a) → ∃ l : List α, vs = l.map f ∧ ∀ a ∈ l, Q a
  | [], _ => ⟨[], rfl, fun a h => by cases h⟩
  | v :: vs, h => by
    obtain ⟨a, h1, h2⟩ := h v List.mem_cons_self
    obtain ⟨l, h3, h4⟩ := list_of fun w hw => h w (List.mem_cons_of_mem _ hw)
    refine ⟨a :: l, by rw [h1, h3]; rfl, fun b hb => ?_⟩
    rcases List.mem_cons.1 hb with rfl | hb
    · exact h2
    · exact h4 b hb
def fieldsD : Option TypeDesc → Array Field
  | some (.struct fs) => fs
  | _ => #[]
/-- A field's reading. -/
theorem trod_field {K : Type} {enc : TypeId × Value → K} {P : Program} {w : World} {sp : Nat → Bool} {hd : Bool} {m i o : Nat} {t : TypeId} {fs : Array Field} {cs : List Value} {xs : List (DataW K × List MemPlace)} (hl : xs.length = fs.size)
    (h : ∀ (i : Nat) (f : Field), fs[i]? = some f → DataW.trod enc P w 0 sp hd m f.type ((cs.drop f.offset).take (P.cellsOf f.type)) = xs[i]?) (hf : (fs[i]?).map (fun f => (f.type, f.offset)) = some (t, o)) : ∃ x, DataW.trod enc P w 0 sp hd m t ((cs.drop o).take (P.cellsOf t)) = some x ∧ xs[i]? = some x := by
  cases hq : fs[i]? with
  | none => rw [hq] at hf; cases hf
  | some f =>
    rw [hq] at hf
    simp only [Option.map_some, Option.some.injEq, Prod.mk.injEq] at hf
    obtain ⟨rfl, rfl⟩ := hf
    have hlt : i < xs.length := by
      rw [hl]
      exact (Array.getElem?_eq_some_iff.1 hq).1
    have := h i f hq
    rw [List.getElem?_eq_getElem hlt] at this ⊢
    exact ⟨_, this, rfl⟩
theorem wf_i64 {n : Int} (h : (Lit.int .i64 n).wf = true) : -9223372036854775808 ≤ n ∧ n ≤ 9223372036854775807 := by
  have h10 : (decide (IntKind.i64.min ≤ n ∧ n ≤ IntKind.i64.max)) = true := by simpa [Lit.wf, IntKind.has] using h
  have h11 := of_decide_eq_true h10
  rw [min_i64, max_i64] at h11
  exact h11
set_option maxRecDepth 100000 in
theorem undSp : Try.prog.underlying 44 = some (.struct (fieldsD (Try.prog.underlying 44))) := by kernel_rfl
set_option maxRecDepth 100000 in
theorem sp_of {K : Type} {enc : TypeId × Value → K} {w : World} {sp : Nat → Bool} {hd : Bool} {m : Nat} {v : Array Value} {x : DataW K × List MemPlace} (hU8 : Try.prog.underlying 5 = some (.int .u8)) (hU16 : Try.prog.underlying 42 = some (.int .u16)) (hI : Try.prog.underlying 3 = some (.int .i64)) (hB : Try.prog.underlying 4 = some .bool)
    (h : DataW.trod enc Try.prog w 0 sp hd m 44 v.toList = some x) : ∃ st : Sp, v = st.c ∧ st.at_ ≤ 9223372036854775807 := by
  obtain ⟨xs, n, rfl, _, h1, h2, h3⟩ := DataW.trod_struct undSp h
  rw [show Try.prog.cellsOf 44 = 4 by kernel_rfl] at h1
  obtain ⟨y0, a0, _⟩ := trod_field (i := 0) (o := 0) (t := 5) h2 h3 (by kernel_rfl)
  obtain ⟨y1, a1, _⟩ := trod_field (i := 1) (o := 1) (t := 4) h2 h3 (by kernel_rfl)
  obtain ⟨y2, a2, _⟩ := trod_field (i := 2) (o := 2) (t := 3) h2 h3 (by kernel_rfl)
  obtain ⟨y3, a3, _⟩ := trod_field (i := 3) (o := 3) (t := 42) h2 h3 (by kernel_rfl)
  rw [show Try.prog.cellsOf 5 = 1 by kernel_rfl] at a0
  rw [show Try.prog.cellsOf 4 = 1 by kernel_rfl] at a1
  rw [show Try.prog.cellsOf 3 = 1 by kernel_rfl] at a2
  rw [show Try.prog.cellsOf 42 = 1 by kernel_rfl] at a3
  obtain ⟨q0, b0, _, w0⟩ := DataW.trod_int hU8 a0
  obtain ⟨q1, b1, _⟩ := DataW.trod_bool hB a1
  obtain ⟨q2, b2, _, w2⟩ := DataW.trod_int hI a2
  obtain ⟨q3, b3, _, _⟩ := DataW.trod_int hU16 a3
  refine ⟨⟨q0, q1, q2, q3⟩, ?_, (wf_i64 w2).2⟩
  obtain ⟨l⟩ := v
  simp only at h1 b0 b1 b2 b3
  match l, h1 with
  | [c0, c1, c2, c3], _ =>
    simp only [List.drop_zero, List.drop_succ_cons, List.take_succ_cons, List.take_zero, List.cons.injEq, and_true] at b0 b1 b2 b3
    rw [b0, b1, b2, b3]; rfl
/-- An argument that is a list of steps. -/
theorem open_sps {K : Type} {enc : TypeId × Value → K} {w : World} {sp : Nat → Bool} {hd : Bool} {s : Value} {d : DataW K} {ps : List MemPlace} (hU8 : Try.prog.underlying 5 = some (.int .u8)) (hU16 : Try.prog.underlying 42 = some (.int .u16)) (hI : Try.prog.underlying 3 = some (.int .i64)) (hB : Try.prog.underlying 4 = some .bool)
    (hs : s.cells = #[s]) (h : DataW.Trod enc Try.prog w 0 sp hd 23 s d ps) : ∃ ss : List Sp, Sr 4 w.heap s (ss.map Sp.c) ∧ (∀ m ∈ ss, m.at_ ≤ 9223372036854775807) ∧ (ss = [] ∨ ∃ elems r, d = .slice elems r ∧ elems.length = ss.length) := by
  obtain ⟨fuel, h⟩ := h
  rw [hs] at h
  obtain ⟨vs, m, ds, h1, h2, h3, _, h4⟩ := trod_sr undSps (by kernel_rfl : Try.prog.cellsOf 44 = 4) (by decide) h
  obtain ⟨ss, rfl, h5⟩ := list_of (f := Sp.c) (Q := fun x => x.at_ ≤ 9223372036854775807) (vs := vs) fun v hv => by
    obtain ⟨i, hi⟩ := List.mem_iff_getElem?.1 hv
    have h6 := h3 i v hi
    have hil : i < vs.length := by
      rcases Nat.lt_or_ge i vs.length with h | h
      · exact h
      · rw [List.getElem?_eq_none h] at hi; cases hi
    rw [List.getElem?_eq_getElem (by omega)] at h6
    exact sp_of hU8 hU16 hI hB h6
  refine ⟨ss, h1, h5, ?_⟩
  rcases h4 with ⟨h4, _⟩ | ⟨r, h4⟩
  · exact .inl (List.map_eq_nil_iff.1 h4)
  · exact .inr ⟨_, r, h4, by rw [List.length_map, h2, List.length_map]⟩
/-- An argument that is a list of numbers. -/
theorem open_u16s {K : Type} {enc : TypeId × Value → K} {w : World} {sp : Nat → Bool} {hd : Bool} {s : Value} {d : DataW K} {ps : List MemPlace} (he : Try.prog.underlying 42 = some (.int .u16))
    (hs : s.cells = #[s]) (h : DataW.Trod enc Try.prog w 0 sp hd 22 s d ps) : ∃ ns, Sr 1 w.heap s (u16s ns) := by
  obtain ⟨fuel, h⟩ := h
  rw [hs] at h
  obtain ⟨vs, m, ds, h1, h2, h3, _, h4⟩ := trod_sr undU16s (by kernel_rfl : Try.prog.cellsOf 42 = 1) (by decide) h
  obtain ⟨ns, rfl, h5⟩ := list_of (f := fun x => #[.int .u16 x]) (Q := fun _ => True) (vs := vs) fun v hv => by
    obtain ⟨i, hi⟩ := List.mem_iff_getElem?.1 hv
    have h6 := h3 i v hi
    have hil : i < vs.length := by
      rcases Nat.lt_or_ge i vs.length with h | h
      · exact h
      · rw [List.getElem?_eq_none h] at hi; cases hi
    rw [List.getElem?_eq_getElem (by omega)] at h6
    obtain ⟨n, h7, h8, h9⟩ := DataW.trod_int he h6
    exact ⟨n, by rw [← Array.toList_inj, h7], trivial⟩
  exact ⟨ns, h1⟩
end Go.Vc

namespace Go.Proofs.Ytacfcgoighnioaa.bulks
theorem one_le {H : Type} (d : DataW H) : 1 ≤ Rows.uptoBulk d := by
  cases d with
  | lit l => cases l <;> simp [Rows.uptoBulk]
  | nil => simp [Rows.uptoBulk]
  | ptr d => simp [Rows.uptoBulk]
  | slice elems spare => simp [Rows.uptoBulk]
  | agg parts => simp [Rows.uptoBulk]
  | iface t d => simp [Rows.uptoBulk]
  | map entries => simp [Rows.uptoBulk]
  | held h => simp [Rows.uptoBulk]
theorem part_le {H : Type} {d : DataW H} {l : List (DataW H)} (h : d ∈ l) : Rows.uptoBulk d ≤ Rows.uptoBulkAll l := by
  induction l with
  | nil => cases h
  | cons x r ih =>
    simp only [Rows.uptoBulkAll]
    cases List.mem_cons.1 h with
    | inl e => subst e; omega
    | inr e => have := ih e; omega
theorem length_le {H : Type} (l : List (DataW H)) : l.length ≤ Rows.uptoBulkAll l := by
  induction l with
  | nil => simp [Rows.uptoBulkAll]
  | cons x r ih => have := one_le x; simp only [Rows.uptoBulkAll, List.length_cons]; omega
theorem slice_le {H : Type} (elems spare : List (DataW H)) : elems.length + spare.length + 1 ≤ Rows.uptoBulk (.slice elems spare) := by
  have h1 := length_le elems
  have h2 := length_le spare
  simp only [Rows.uptoBulk]
  omega
end Go.Proofs.Ytacfcgoighnioaa.bulks

/- CachePlays, in the second form: whatever blocks, whatever two sizes and whatever steps, their bulk being at most 1,048,576: the law returns true, and the input reads behind the call as it read before. -/
set_option linter.unusedVariables false
set_option linter.unusedSimpArgs false
namespace Go.Proofs.Ytacfcgoighnioaa
open Go.Vc Go.Xc
set_option maxRecDepth 100000 in
theorem cachePlays_lifted (os : Os) (started : os.Started) (H : Type) (enc : TypeId × Value → H) (F : Stop.Interp) :
    ReturnsInHanded {} Try.checked os 4 .any ((Rows.OpenSpec.upto Rows.cachePlaysSpec).pre6 enc Try.prog Try.f4 Rows.cachePlaysUptoRow.domain false) (((Rows.OpenSpec.upto Rows.cachePlaysSpec).at F).post enc Try.prog Try.f4 false true false false) := by
  refine returnsInHanded_of_cond (C := Try.checked) (s := Rows.OpenSpec.upto Rows.cachePlaysSpec) (k := Rows.uptoSmall) rfl own started (by kernel_rfl) Try.func4
    (OpenSpec.witness (enc := enc) (C := Try.checked) (s := Rows.OpenSpec.upto Rows.cachePlaysSpec) (k := Rows.uptoSmall) rfl false ⟨#[], #[.slice none 0 0, .int .i64 0, .int .i64 0, .slice none 0 0], []⟩ 8 (by kernel_rfl) (by kernel_rfl) (by kernel_rfl)
      (x := ([.nil, .lit (.int .i64 0), .lit (.int .i64 0), .nil], [], [])) (by kernel_rfl) rfl (by kernel_rfl)) ?_
  intro W base args ds gs before hval0 hW hcnd hk _
  have hW' := hW
  obtain ⟨p, q, hA, hV, rfl, hfz, hnd⟩ := hW
  obtain ⟨v, w, y, z, rfl⟩ := args4 hA
  have hv1 : v.cells = #[v] := by
    rcases slice_of undU16s (hval0 0 22 v (by kernel_rfl) rfl) with rfl | ⟨a, len, cap, c, T, z, rfl, hb⟩ <;> rfl
  obtain ⟨x, rfl, _, _⟩ := open_int undInt (hval0 1 3 w (by kernel_rfl) rfl)
  obtain ⟨x2, rfl, _, _⟩ := open_int undInt (hval0 2 3 y (by kernel_rfl) rfl)
  have hw1 : z.cells = #[z] := by
    rcases slice_of undSps (hval0 3 23 z (by kernel_rfl) rfl) with rfl | ⟨a, len, cap, c, T, z, rfl, hb⟩ <;> rfl
  have key : Fc Try.prog 4 #[v, .int .i64 x, .int .i64 x2, z] W.heap (fun v H' => v = .bool true ∧ Ext W.heap H') := by
    match ds, hA, hk with
    | [d1, d2, d3, d4], hA, hk =>
      obtain ⟨p1, q1, h1, ⟨p2, q2, h2, ⟨p3, q3, h3, ⟨p4, q4, h4', _⟩, _⟩, _⟩, _⟩ := hA
      obtain ⟨fs, hfs⟩ := open_u16s undU16 hv1 h1
      obtain ⟨ss, hs, hb, hl⟩ := open_sps undU8 undU16 undInt undBool hw1 h4'
      refine law_plays hfs hs hb ?_ fun H' hx => ⟨rfl, hx⟩
      rcases hl with rfl | ⟨elems, r, rfl, hl⟩
      · exact Nat.zero_le _
      · have h4 : Rows.uptoBulkAll ([d1, d2, d3, .slice elems r] ++ gs) ≤ 1048576 := of_decide_eq_true hk
        have h5 := bulks.part_le (l := [d1, d2, d3, .slice elems r] ++ gs) (d := .slice elems r) (by simp)
        have h6 := bulks.slice_le elems r
        omega
  refine (Fc.calls key).mono fun e W' ⟨v, he, ⟨hv, hx⟩, hs⟩ => ?_
  subst hv
  exact ⟨_, he, law_post (s := Rows.cachePlaysSpec) laidOut undBool rfl (by kernel_rfl) (by kernel_rfl) hW' (fun e1 e2 => by
    match ds, gs, e1, e2 with
    | [d0, d1, d2, d3], [], _, _ => rfl) hs hx⟩

set_option maxRecDepth 100000 in
set_option maxHeartbeats 4000000 in
theorem cachePlays_joined : joinedFacts Try.pinned.checked.prog 4 Try.f4 (Rows.OpenSpec.upto Rows.cachePlaysSpec).bare Rows.cachePlaysUptoRow = true := by
  unfold joinedFacts
  simp only [Bool.and_eq_true]
  repeat' apply And.intro
  all_goals (as_aux_lemma => kernel_rfl)
set_option maxRecDepth 100000 in
theorem cachePlays_named : Try.pinned.checked.prog.funcNamed Rows.cachePlaysUptoRow.func = some 4 := by kernel_rfl
set_option maxRecDepth 100000 in
theorem cachePlays_inst : Try.f4.isInstance Try.pinned.checked.prog Rows.cachePlaysUptoRow.origin Rows.cachePlaysUptoRow.targs := of_decide_eq_true (by kernel_rfl)
set_option maxRecDepth 100000 in
theorem cachePlays_wrap : Try.f4.isWrapper Try.pinned.checked.prog Rows.cachePlaysUptoRow.wrapper Rows.cachePlaysUptoRow.mainSum := by
  unfold Func.isWrapper
  first | (rw [if_pos (by decide +kernel)]; kernel_rfl) | (rw [if_neg (by decide +kernel)]; exact ⟨rfl, rfl⟩)
set_option maxRecDepth 100000 in
theorem cachePlays_over : Rows.cachePlaysUptoRow.holds Try.pinned (Rows.OpenSpec.upto Rows.cachePlaysSpec) :=
  OpenClaim.holds_of_cond 4 Try.f4 rfl rfl rfl rfl rfl rfl rfl ⟨rfl, rfl, rfl, rfl, rfl⟩ rfl rfl rfl rfl rfl cachePlays_named Try.func4 cachePlays_joined cachePlays_inst cachePlays_wrap
    (fun os started H enc _ F => cachePlays_lifted os started H enc F)
theorem cachePlays : Rows.CachePlaysUptoSaid := cachePlays_over
end Go.Proofs.Ytacfcgoighnioaa
