/- Parts of a proof, joined in build order: a calculus of contracts, an executor, contracts of functions. -/
import Derived.Test.YtmafmkiaiiddnaaRRFwE
import Derived.WalkKit
import Derived.ProofKit
import Derived.OpenShut
import Derived.OpenVars
import Derived.Test.YtmafmkiaiiddnaaRRFwG
import Derived.Test.YtmafmkiaiiddnaaRRFwH
import Derived.Test.YtmafmkiaiiddnaaRRFwJ
/- Vc, part K: from a function's contract to the row of a law that comes out true and leaves its input as it was. -/
set_option linter.unusedVariables false
set_option linter.unusedSimpArgs false
namespace Go.Vc
open Go.ChangeShapes Go.WideShapes Go.ChangeAt Go.RowKit

theorem Fc.calls {P : Program} {f : FuncId} {args : Array Value} {W : World} {R : Value → Hp → Prop} (h : Fc P f args W.heap R) :
    Calls P f args W fun e W' => ∃ v, e = .returned v ∧ R v W'.heap ∧ Sm W W' :=
  callsIn_wide.1 (h W rfl)

theorem below_of {W W' : World} (hs : Sm W W') (hx : Ext W.heap W'.heap) : Below W.heap.size W W' :=
  ⟨hs.os, hs.tape, hs.out, hx.le, hx.same⟩

section
variable {H : Type} {enc : TypeId × Value → H} {P : Program}
theorem trodAll_below (hl : laidOutB P = true) {W W' : World} (hb : Below W.heap.size W W') : ∀ {ts : List TypeId} {vs : List Value} {ds : List (DataW H)} {ps : List MemPlace},
    (ts.all fun t => P.readableRec t && decide (t < P.types.size)) = true → DataW.TrodAll enc P W 0 (fun _ => true) true ts vs ds ps → (∀ x ∈ ps, x.block < W.heap.size) →
    DataW.TrodAll enc P W' 0 (fun b => decide (b < W.heap.size)) true ts vs ds ps
  | [], vs, ds, ps, _, h, _ => by
    cases vs <;> cases ds <;> first | exact h | exact h.elim
  | t :: ts, [], _, _, _, h, _ => by simp [DataW.TrodAll] at h
  | t :: ts, v :: vs, [], _, _, h, _ => by simp [DataW.TrodAll] at h
  | t :: ts, v :: vs, d :: ds, ps, hr, h, hlt => by
    obtain ⟨p, p', h1, h2, rfl⟩ := h
    simp only [List.all_cons, Bool.and_eq_true, decide_eq_true_eq] at hr
    exact ⟨p, p', Below.trod hl hr.1.1 hr.1.2 h1 hb (fun x hx => hlt x (by simp [hx])), trodAll_below hl hb hr.2 h2 (fun x hx => hlt x (by simp [hx])), rfl⟩

theorem trodAll_len {w : World} {b : Nat} {sp : Nat → Bool} {hd : Bool} : ∀ {ts : List TypeId} {vs : List Value} {ds : List (DataW H)} {ps : List MemPlace}, DataW.TrodAll enc P w b sp hd ts vs ds ps → ds.length = ts.length
  | [], [], [], _, _ => rfl
  | [], [], _ :: _, _, h => by simp [DataW.TrodAll] at h
  | [], _ :: _, _, _, h => by simp [DataW.TrodAll] at h
  | _ :: _, [], _, _, h => by simp [DataW.TrodAll] at h
  | _ :: _, _ :: _, [], _, h => by simp [DataW.TrodAll] at h
  | _ :: ts, _ :: vs, _ :: ds, _, h => by
    obtain ⟨_, _, _, hs, _⟩ := h
    simp [trodAll_len hs]
theorem trodVars_len {w : World} {sp : Nat → Bool} : ∀ {ns : List String} {gs : List (DataW H)} {ps : List MemPlace}, DataW.TrodVars enc P w sp ns gs ps → gs.length = ns.length
  | [], [], _, _ => rfl
  | [], _ :: _, _, h => by simp [DataW.TrodVars] at h
  | _ :: _, [], _, h => by simp [DataW.TrodVars] at h
  | _ :: ns, _ :: gs, _, h => by
    obtain ⟨_, _, _, _, _, _, _, _, _, _, hs, _⟩ := h
    simp [trodVars_len hs]

/-- The law's post: true, the arguments and variables as they were. -/
theorem law_post {f : Func} {s : ChangeSpec} {fresh handsOn : Bool} {W W' : World} {args : Array Value} {ds gs : List (DataW H)} {before : List MemPlace} {t : TypeId}
    (hl : laidOutB P = true) (ht : P.underlying t = some .bool) (hr : f.resultTypes = #[t])
    (hps : (f.params.toList.all fun t => P.readableRec t && decide (t < P.types.size)) = true) (hvs : varsRowed P s.vars = true)
    (hW : DataW.Whole enc P f.params.toList s.vars false W args.toList ds gs before)
    (hspec : ds.length = f.params.size → gs.length = s.vars.length → s.fn H (ds ++ gs) = { results := [.lit (.bool true)], args := ds, vars := gs })
    (hs : Sm W W') (hx : Ext W.heap W'.heap) : s.post enc P f false fresh handsOn false W args (.bool true) W' := by
  have hb := below_of hs hx
  have hlt := hW.lt
  have hW0 := hW
  obtain ⟨p, q, hA, hV, rfl, hz, hn⟩ := hW0
  have e1 : ds.length = f.params.size := by rw [trodAll_len hA]; simp
  have e2 : gs.length = s.vars.length := trodVars_len hV
  have e := hspec e1 e2
  refine ⟨ds, gs, p ++ q, [], p, q, hW, ?_, ?_, ?_, hb.frame _, fun h => by cases h⟩
  · rw [e, hr]
    exact trodAll_mk1 (shut_bool ht true)
  · rw [e]
    exact trodAll_below hl hb hps hA (fun x hx => hlt x (by simp [hx]))
  · rw [e]
    exact hb.trodVars hl hvs hV

/-- The cells of an argument that is a struct or an array. -/
theorem cells_of {W : World} {r : Reach} {base n : Nat} {t : TypeId} {v : Value} {d : TypeDesc} {ts : List TypeId} (ht : P.underlying t = some d) (hd : (match d with | .struct _ | .array _ _ => true | _ => false) = true)
    (hc : P.cellsOf t = n) (hts : P.cellTypes P.depth t = some ts) (hn : ts.length = n) (h : Value.okWide P W r base t v) :
    ∃ cs : Array Value, v = .agg cs ∧ cs.size = n ∧ ∀ (i : Nat) (u : TypeId), ts[i]? = some u → ∃ x, cs[i]? = some x ∧ Cell.okWide P W r base u x := by
  have h' : ∃ cs, v = .agg cs ∧ cs.size = P.cellsOf t ∧ Row.okWide P W r base t cs := by
    unfold Value.okWide at h
    rw [ht] at h
    cases d <;> first | exact h | cases hd
  obtain ⟨cs, rfl, hsz, ts', hts', _, hcell⟩ := h'
  have e : ts' = ts := Option.some.inj (hts'.symm.trans hts)
  subst e
  refine ⟨cs, rfl, by rw [hsz, hc], fun i u hu => ?_⟩
  have hi : i < ts'.length := by
    rcases Nat.lt_or_ge i ts'.length with h1 | h1
    · exact h1
    · rw [List.getElem?_eq_none h1] at hu; cases hu
  have hi2 : i < cs.size := by rw [hsz, hc, ← hn]; exact hi
  refine ⟨cs[i], Array.getElem?_eq_getElem hi2, ?_⟩
  obtain ⟨u', hu', hok⟩ := hcell i _ (Array.getElem?_eq_getElem hi2)
  rw [Nat.mod_eq_of_lt hi, hu] at hu'
  injection hu' with hu'
  subst hu'
  exact hok
theorem okWide_cells {W : World} {r : Reach} {base n : Nat} {t : TypeId} {d : TypeDesc} {ts : List TypeId} {cs : Array Value} (ht : P.underlying t = some d) (hd : (match d with | .struct _ | .array _ _ => true | _ => false) = true)
    (hc : P.cellsOf t = n) (hts : P.cellTypes P.depth t = some ts) (hn : ts.length = n) (hsz : cs.size = n) (hcell : ∀ (i : Nat) (u : TypeId), ts[i]? = some u → ∃ x, cs[i]? = some x ∧ Cell.okWide P W r base u x) : Value.okWide P W r base t (.agg cs) := by
  have h' : ∃ cs', Value.agg cs = .agg cs' ∧ cs'.size = P.cellsOf t ∧ Row.okWide P W r base t cs' := by
    refine ⟨cs, rfl, by rw [hsz, hc], ts, hts, ⟨1, by rw [hsz, hn, Nat.one_mul]⟩, fun i v hv => ?_⟩
    have hi : i < cs.size := by
      rcases Nat.lt_or_ge i cs.size with h1 | h1
      · exact h1
      · rw [Array.getElem?_eq_none h1] at hv; cases hv
    have hi2 : i < ts.length := by rw [hn, ← hsz]; exact hi
    obtain ⟨x, hx, hok⟩ := hcell i ts[i] (List.getElem?_eq_getElem hi2)
    rw [hv] at hx
    injection hx with hx
    subst hx
    exact ⟨ts[i], by rw [Nat.mod_eq_of_lt hi2]; exact List.getElem?_eq_getElem hi2, hok⟩
  unfold Value.okWide
  rw [ht]
  cases d <;> first | exact h' | cases hd
theorem cell_int_ok {W : World} {r : Reach} {base : Nat} {u : TypeId} {k : IntKind} {n : Int} (hu : P.underlying u = some (.int k)) (h0 : k.min ≤ n) (h1 : n ≤ k.max) : Cell.okWide P W r base u (.int k n) := by
  simp [Cell.okWide, hu, Cell.ok, IntKind.has, h0, h1]
theorem cell_bool_ok {W : World} {r : Reach} {base : Nat} {u : TypeId} {b : Bool} (hu : P.underlying u = some .bool) : Cell.okWide P W r base u (.bool b) := by
  simp [Cell.okWide, hu, Cell.ok]

/-- A world in which the row's conditions are met, the arguments' fitness given by hand. -/
theorem witness_hand {C : Checked} {os : Os} {f : FuncId} {fn : Func} {s : ChangeSpec} {conds : List PathCond} {apart : Bool} (args : Array Value) (fuel : Nat)
    (hv : (World.plainHolding C.prog os ⟨#[], args, []⟩).variablesB C.prog = true)
    (hr : ((World.plainHolding C.prog os ⟨#[], args, []⟩).heap.toList.drop C.prog.globals.size).take ((begin C.prog (fun _ _ => 0) default).world.heap.size - C.prog.globals.size) =
      (begin C.prog (fun _ _ => 0) default).world.heap.toList.drop C.prog.globals.size)
    (hfn : C.prog.funcs[f]? = some fn) (h1 : C.prog.inits.idxOf? f = none) (h2 : fn.body.isSome = true ∧ fn.ours = false ∧ fn.nfree = 0 ∧ args.size = fn.params.size)
    (hargs : ∀ (W : World) (base : Nat) (j : Nat) (t : TypeId) (v : Value), fn.params[j]? = some t → args[j]? = some v → Value.okWide C.prog W .any base t v)
    (hpre : s.preB enc C.prog fn conds apart (World.plainHolding C.prog os ⟨#[], args, []⟩).memory args fuel = true)
    (hsz : s.sizedB enc C.prog fn apart (World.plainHolding C.prog os ⟨#[], args, []⟩).memory args fuel = true) :
    ∃ (w : World) (tape : Tape) (i : Input), w.os = os ∧ (w.forCall tape i).Shaped C.prog ∧ i.vars = [] ∧ Input.okWide C.prog (w.forCall tape i) .any w.heap.size f i ∧
      s.pre6 enc C.prog fn conds apart (w.forCall tape i).memory i.args ∧ ({} : Assume).holds C.prog (lone (Frame.enter C.prog f i.args .normal) [] (w.forCall tape i)) :=
  ⟨World.holding C.prog os ⟨#[], args, []⟩, fun _ _ => 0, ⟨#[], args, []⟩, rfl, World.shaped_of_B hv hr, rfl,
    ⟨fun o ho => by simp at ho, fun gv hgv => by simp at hgv, h1, fn, hfn, h2.1, h2.2.1, h2.2.2.1, h2.2.2.2, hargs _ _⟩, ⟨ChangeSpec.pre_of_preB hpre, sizedMet_of_sizedB hsz⟩, by
    simp only [Assume.holds]
    exact ⟨by simp, by simp, fun _ => Modest.zero, by simp, by simp⟩⟩
theorem cell_int {W : World} {r : Reach} {base : Nat} {u : TypeId} {k : IntKind} {x : Value} (hu : P.underlying u = some (.int k)) (h : Cell.okWide P W r base u x) : ∃ n, x = .int k n ∧ k.min ≤ n ∧ n ≤ k.max := by
  simp only [Cell.okWide, hu] at h
  cases x <;> simp_all [Cell.ok, IntKind.has]
theorem cell_bool {W : World} {r : Reach} {base : Nat} {u : TypeId} {x : Value} (hu : P.underlying u = some .bool) (h : Cell.okWide P W r base u x) : ∃ b, x = .bool b := by
  simp only [Cell.okWide, hu] at h
  cases x <;> simp_all [Cell.ok]
end
theorem min_i64 : IntKind.i64.min = -9223372036854775808 := by decide
theorem max_i64 : IntKind.i64.max = 9223372036854775807 := by decide
theorem min_u8 : IntKind.u8.min = 0 := by decide
theorem max_u8 : IntKind.u8.max = 255 := by decide
end Go.Vc

/- Ft, part D: CacheFew: the walk. -/
set_option linter.unusedVariables false
set_option linter.unusedSimpArgs false
namespace Go.Vc
open Go.Proofs

def byts (l : List Int) : List (Array Value) := l.map fun x => #[.int .u8 x]
theorem byts_len (l : List Int) : (byts l).length = l.length := by unfold byts; rw [List.length_map]
theorem byts_get {l : List Int} {i : Nat} {x : Int} (h : l[i]? = some x) : (byts l)[i]? = some #[.int .u8 x] := by unfold byts; rw [List.getElem?_map, h]; rfl
theorem undByts : Try.prog.underlying 22 = some (.slice 5) := by kernel_rfl
/-- Twenty numbers. -/
def usedA (f : Int → Int) : Array Value := ((List.range 20).map fun (i : Nat) => Value.int .i64 (f i)).toArray
theorem zeroU : zeroE Try.prog 36 = some (.agg (usedA fun _ => 0)) := by kernel_rfl
theorem usedA_size (f : Int → Int) : (usedA f).size = 20 := by simp [usedA]
theorem usedA_get (f : Int → Int) {i : Nat} (h : i < 20) : (usedA f)[i]? = some (.int .i64 (f i)) := by
  simp [usedA, h]
theorem usedA_congr {f g : Int → Int} (h : ∀ i : Nat, i < 20 → f i = g i) : usedA f = usedA g := by
  unfold usedA
  rw [List.map_congr_left fun a ha => by rw [h a (List.mem_range.1 ha)]]
theorem usedA_set (f : Int → Int) {i : Nat} {x : Int} (h : i < 20) : (usedA f).setIfInBounds i (.int .i64 x) = usedA (fun k => if k = i then x else f k) := by
  apply Array.ext_getElem?
  intro j
  rw [Array.getElem?_setIfInBounds, usedA_size]
  by_cases hj : j < 20
  · rw [usedA_get _ hj]
    by_cases hij : i = j
    · subst hij; rw [if_pos rfl, if_pos h, usedA_get _ hj]; simp
    · have : ¬ (j : Int) = i := by omega
      rw [if_neg hij, usedA_get _ hj]; simp [this]
  · have e : ∀ f, (usedA f)[j]? = none := fun f => Array.getElem?_eq_none (by rw [usedA_size]; omega)
    rw [e, e]
    split
    · rename_i h1; omega
    · rfl
theorem Few.congr {cs : List Pl} {n : Nat} {f g : Int → Int} (h : Few cs n f) (hg : ∀ y ∈ cs, g y.at_ = f y.at_) : Few cs n g :=
  ⟨h.len, h.slow, h.rng, (List.map_congr_left hg : (cs.map fun y => g y.at_) = cs.map fun y => f y.at_) ▸ h.up⟩
theorem CW.isB {F : Nat → Prop} {H : Hp} {p cb : Nat} {size : Int} {s : DS} {cs : List Pl} (h : CW F H p cb size s cs) : ∀ x ∈ cs, IsB x.data := by
  obtain ⟨Od, Oc, hd, ⟨⟨row, mp, hC, rfl, _⟩, _⟩, dis, hF⟩ := h
  intro x hx
  obtain ⟨y, hy, rfl⟩ := List.mem_map.1 hx
  obtain ⟨c, _, ky⟩ := hC.ring.lks y hy
  exact ky.isB
theorem d00 : decide ((0 : Int) ≠ 0) = false := rfl

set_option maxHeartbeats 4000000 in
theorem law_few {x : Int} {v : Value} {ns : List Int} {H : Hp} {R : Value → Hp → Prop} (hs : Sr 1 H v (byts ns)) (hb : ∀ m ∈ ns, 0 ≤ m ∧ m < 256) (hl : ns.length ≤ 4611686018427387904) (k : ∀ H', Ext H H' → R (.bool true) H') :
    Fc Try.prog 3 #[.int .i64 x, v] H R := by
  refine fn3 ?_
  simp only [sh3, Any_const]
  refine place_ok (by decide) (by decide) fun r r0 r1 => ?_
  simp only [binE_add, Pu_some]
  rw [i64wrap_id (by omega) (by omega)]
  obtain ⟨n, hn⟩ : ∃ n : Nat, (1 + r) = (n : Int) := ⟨(1 + r).toNat, by omega⟩
  rw [hn]
  have hn1 : 1 ≤ n ∧ n ≤ 12 := by omega
  refine disk_new (n := 20) (by decide) (by decide) fun H2 p e2 hd => ?_
  have hw := DW.of e2 hd
  simp only [extractE, List.getElem?_toArray, List.getElem?_cons_zero, List.getElem?_cons_succ, Pu_some]
  refine Join.mk (fun t H' => t.1 = .bool false ∧ Ext H2 H') ?_ ?_
  · rintro ⟨t, u⟩ H3 ⟨ht, e3⟩
    simp only at ht
    subst ht
    simp only [Ite_false]
    refine (hw.ext e3).cache (size := n) (by omega) (by omega) fun H4 cb e4 hc4 => ?_
    simp only [List.getElem?_toArray, List.getElem?_cons_zero, List.getElem?_cons_succ, Pu_some]
    have E4 : Ext H H4 := e2.trans (e3.trans e4)
    refine Join.mk (fun t H' => t.1 = .bool false ∧ H' = H4) ?_ ?_
    · rintro ⟨t, u⟩ H5 ⟨ht, rfl⟩
      simp only at ht
      subst ht
      simp only [Ite_false]
      refine LoopP.mk (fun t H' => ∃ (i : Nat) (s : DS) (cs : List Pl), t.1 = .int .i64 i ∧ i ≤ n ∧ Ext H H' ∧ CW (· < H.size) H' p cb n s cs ∧ s.Qt 20 i ∧ Few cs i (fun k => k))
        (fun t _ => match t.1 with | .int _ i => ((n : Int) - i).toNat | _ => 0) ⟨0, _, [], rfl, by omega, E4, hc4, ⟨rfl, rfl, rfl⟩, ⟨rfl, fun y hy => (by cases hy), fun y hy => (by cases hy), List.Pairwise.nil⟩⟩ ?_
      rintro ⟨t, u⟩ H6 ⟨i, s, cs, ht, hi, e6, hc6, hq, hf⟩
      simp only at ht
      subst ht
      simp only [binE_lss, Pu_some, Ite_dec]
      refine ⟨fun hlt => ?_, fun hge => ?_⟩
      · obtain ⟨d, hrd, hfew⟩ := hf.fill (size := n) hq (by omega) (by omega)
        have hqr := hq.r
        refine hc6.read ⟨by omega, by omega⟩ (by omega) fun H7 f7 hc7 => ?_
        rw [hrd] at hc7 ⊢
        have hB : IsB d := hc7.isB ⟨i, d, false⟩ (by simp)
        simp only [extractE, List.getElem?_toArray, List.getElem?_cons_zero, List.getElem?_cons_succ, Pu_some, zeroB]
        refine box_i fun b8 H8 hb8 e8 s8 g8 => ?_
        simp only [cells_agg] at g8
        refine storeAll_i g8 zB_size hB.size hB.ok fun H9 k9 s9 g9 => ?_
        have e79 : Ext H7 H9 := e8.kpn k9 (by omega)
        simp only [binE_neq, d00, Pu_some, Ite_false, binE_add]
        rw [i64wrap_id (by omega) (by omega)]
        refine ⟨⟨i + 1, _, _, rfl, by omega, (f7.ext_of e6 fun b hb => hb).trans e79, hc7.ext e79, ?_, hfew⟩, by show ((n : Int) - (i + 1)).toNat < ((n : Int) - i).toNat; omega⟩
        have := hq.read (a := i) (by omega) (by omega)
        exact this
      · have hin : i = n := by omega
        subst hin
        simp only [zeroU, Pu_some]
        refine box_i fun b10 H10 hb10 e10 s10 g10 => ?_
        simp only [cells_agg] at g10
        have hc10 : CW (fun b => b < H.size ∨ b = b10) H10 p cb i s cs := hc6.grow e10 fun b hb => hb.elim .inl fun h => .inr (by omega)
        have hb10n : ¬ b10 < H.size := by have := e6.le; omega
        refine LoopP.mk (fun t H' => ∃ (j : Nat), t.1 = .int .i64 j ∧ j ≤ i ∧ Kp (· = b10) H10 H' ∧ H'[b10]? = some (.cells (usedA fun k => if k < j then k else 0) 36))
          (fun t _ => match t.1 with | .int _ j => ((i : Int) - j).toNat | _ => 0) ⟨0, rfl, by omega, Kp.refl _ _, ?_⟩ ?_
        · rw [usedA_congr (g := fun _ => 0) fun a _ => if_neg (by omega)]; exact g10
        rintro ⟨t, u⟩ H11 ⟨j, ht, hj, k11, g11⟩
        simp only at ht
        subst ht
        simp only [binE_lss, Pu_some, Ite_dec]
        refine ⟨fun hlt => ?_, fun hge => ?_⟩
        · rw [idx_arr (by omega) (by omega), Pu_some]
          simp only [Nat.zero_add, Int.toNat_natCast, Nat.mul_one]
          refine store_i g11 (by rw [usedA_size]; omega) rfl rfl fun H12 k12 s12 g12 => ?_
          rw [usedA_set _ (show j < 20 by omega)] at g12
          simp only [binE_add, Pu_some]
          rw [i64wrap_id (by omega) (by omega)]
          refine ⟨⟨j + 1, rfl, by omega, k11.trans k12, ?_⟩, by show ((i : Int) - (j + 1)).toNat < ((i : Int) - j).toNat; omega⟩
          rw [g12, usedA_congr fun a _ => ?_]
          show (if (a : Int) = j then (j : Int) else if (a : Int) < j then (a : Int) else 0) = if (a : Int) < (j + 1 : Nat) then (a : Int) else 0
          by_cases h1 : (a : Int) = j
          · rw [if_pos h1, if_pos (by omega), h1]
          · rw [if_neg h1]
            by_cases h2 : (a : Int) < j
            · rw [if_pos h2, if_pos (by omega)]
            · rw [if_neg h2, if_neg (by omega)]
        · have hji : j = i := by omega
          subst hji
          have hc11 := hc10.kp k11 fun b hb => .inr hb
          have E11 : Ext H H11 := (e6.trans e10).kpn k11 (by omega)
          have hf0 : Few cs j fun k => if k < j then k else 0 := hf.congr fun y hy => by rw [if_pos (hf.rng y hy).2]
          refine LoopP.mk (fun t H' => ∃ (m : Nat) (s : DS) (cs : List Pl) (f : Int → Int), t.1 = .int .i64 m ∧ m ≤ ns.length ∧ Ext H H' ∧ CW (fun b => b < H.size ∨ b = b10) H' p cb j s cs ∧ s.Qt 20 j ∧ Few cs j f ∧ (∀ y ∈ cs, f y.at_ < 100 + m) ∧ H'[b10]? = some (.cells (usedA f) 36))
            (fun t _ => match t.1 with | .int _ m => ((ns.length : Int) - m).toNat | _ => 0) ⟨0, s, cs, _, rfl, by omega, E11, hc11, hq, hf0, fun y hy => by have := hf.rng y hy; rw [if_pos this.2]; omega, g11⟩ ?_
          clear hq hf hf0 hc11 hc10 hc6 g11 k11 hc4
          rintro ⟨t, u⟩ H13 ⟨m, s, cs, f, ht, hm, e13, hc13, hq, hf, hfu, g13⟩
          simp only at ht
          subst ht
          rw [hs.lenE undByts]
          simp only [byts_len, binE_lss, Pu_some, Ite_dec]
          have hqr := hq.r
          refine ⟨fun hlt => ?_, fun hge => ?_⟩
          · have hml : m < ns.length := by omega
            have hx := List.getElem?_eq_getElem hml
            have hxb := hb _ (List.getElem_mem hml)
            generalize ns[m] = a at hx hxb
            obtain ⟨bs, os, hadr, hld0⟩ := (hs.ext e13).cell (i := m) (j := 0) (byts_get hx) (by decide)
            have hld : loadE (some none) (.pointer (some ⟨bs, os, none⟩)) H13 = some (.int .u8 a) := hld0
            simp only [hadr, Pu_some, hld]
            rw [conv_int, i64wrap_id (by omega) (by omega), Pu_some, binE_rem (by omega), Pu_some, tmod_pos hxb.1]
            have h0 : 0 ≤ a % j := Int.emod_nonneg _ (by omega)
            have h1 : a % j < j := Int.emod_lt_of_pos _ (by omega)
            generalize a % (j : Int) = w at h0 h1
            obtain ⟨y, hrd, hfew⟩ := hf.hit hq h0 h1 (by omega) hfu
            refine hc13.read ⟨by omega, by omega⟩ (by omega) fun H14 f14 hc14 => ?_
            rw [hrd] at hc14 ⊢
            have hB : IsB y.data := hc14.isB y (by simp)
            simp only [extractE, List.getElem?_toArray, List.getElem?_cons_zero, List.getElem?_cons_succ, Pu_some, zeroB]
            refine box_i fun b15 H15 hb15 e15 s15 g15 => ?_
            simp only [cells_agg] at g15
            refine storeAll_i g15 zB_size hB.size hB.ok fun H16 k16 s16 g16 => ?_
            have e1416 : Ext H14 H16 := e15.kpn k16 (by omega)
            have hc16 := hc14.ext e1416
            have E16 := (f14.ext_of e13 fun b hb => .inl hb).trans e1416
            have gu16 := e1416.at (f14.at g13 (.inr rfl))
            refine Join.mk (fun t H' => t.1 = .bool false ∧ H' = H16) ?_ ?_
            · rintro ⟨t, u⟩ H17 ⟨ht, rfl⟩
              simp only at ht
              subst ht
              simp only [Ite_false, binE_add, Pu_some]
              rw [idx_arr h0 (by omega), Pu_some]
              obtain ⟨wn, hwn⟩ : ∃ wn : Nat, w = (wn : Int) := ⟨w.toNat, by omega⟩
              subst hwn
              simp only [Nat.zero_add, Int.toNat_natCast, Nat.mul_one]
              refine store_i gu16 (by rw [usedA_size]; omega) rfl rfl fun H18 k18 s18 g18 => ?_
              rw [i64wrap_id (show -9223372036854775808 ≤ (100 + m : Int) by omega) (by omega), usedA_set _ (show wn < 20 by omega)] at g18
              rw [i64wrap_id (by omega) (by omega)]
              refine ⟨⟨m + 1, s, _, _, rfl, by omega, E16.kpn k18 (by omega), hc16.kp k18 fun b hb => .inr hb, hq, hfew, fun z hz => ?_, g18⟩, by show ((ns.length : Int) - (m + 1)).toNat < ((ns.length : Int) - m).toNat; omega⟩
              show (if z.at_ = (wn : Int) then (100 + (m : Int)) else f z.at_) < 100 + ((m + 1 : Nat) : Int)
              split
              · omega
              · rename_i hzw
                rcases List.mem_append.1 hz with h2 | h2
                · have := hfu z (outP_mem h2); omega
                · exfalso
                  simp only [List.mem_singleton] at h2
                  subst h2
                  have hrd2 := congrArg (fun q => q.2.1) hrd
                  unfold readC at hrd2
                  rw [hq.wrong h0 (by omega), if_neg (fun h => h rfl)] at hrd2
                  cases hfp : findP cs wn with
                  | none =>
                    obtain ⟨q, hq1, hq2⟩ := hf.mem h0 h1
                    exact findP_none.1 hfp q hq1 hq2
                  | some q =>
                    rw [hfp] at hrd2
                    have : q = z := by
                      have := List.append_inj_right' hrd2 rfl
                      simpa using this
                    obtain ⟨_, _, _, hqa, _⟩ := findP_some hfp
                    rw [this] at hqa
                    exact hzw hqa
            · simp only [binE_neq, d00, Pu_some, Ite_false]
              refine hc16.reads ?_
              simp only [hqr, binE_neq, ne_eq, not_true_eq_false, decide_false, Pu_some, and_self]
          · clear hge
            refine hc13.order (by rw [hf.len]; omega) fun l H20 e20 hsl hnl => ?_
            have hcl : (cs.map (·.at_)).length = j := by rw [List.length_map, hf.len]
            have hc20 : CW (fun b => (b < H.size ∨ b = b10) ∨ blkOf l = some b) H20 p cb j s cs := hc13.grow e20 fun b hb => hb.elim .inl fun h => .inr ⟨hnl b h, hsl.lt h⟩
            have gu20 := e20.at g13
            refine Join.mk (fun t H' => t.1 = .bool false ∧ H' = H20) ?_ ?_
            · rintro ⟨t, u⟩ H21 ⟨ht, rfl⟩
              simp only at ht
              subst ht
              simp only [Ite_false]
              have elm : ∀ {i : Nat} {y : Pl}, cs[i]? = some y → ∃ b o, (∀ k, idxAddrE (some (none, 1)) l (.int k i) = some (.pointer (some ⟨b, o, none⟩))) ∧ loadE (some none) (.pointer (some ⟨b, o, none⟩)) H21 = some (.int .i64 y.at_) := fun {i y} hy => by
                obtain ⟨b, o, h1, h2⟩ := hsl.cell (i := i) (j := 0) (ints_get (x := y.at_) (by rw [List.getElem?_map, hy]; rfl)) (by decide)
                exact ⟨b, o, h1, h2⟩
              refine LoopP.mk (fun t H' => ∃ (q : Nat), t.1 = .int .i64 q ∧ q ≤ j ∧ H' = H21) (fun t _ => match t.1 with | .int _ q => ((j : Int) - q).toNat | _ => 0) ⟨0, rfl, by omega, rfl⟩ ?_
              rintro ⟨t, u⟩ H22 ⟨q, ht, hqj, rfl⟩
              simp only at ht
              subst ht
              simp only [binE_lss, Pu_some, Ite_dec]
              refine ⟨fun hlt => ?_, fun hge => ?_⟩
              · have hql : q < cs.length := by rw [hf.len]; omega
                have hy := List.getElem?_eq_getElem hql
                have hym := List.getElem_mem hql
                have hyr := hf.rng _ hym
                refine Join.mk (fun t H' => t.1 = .bool false ∧ H' = H22) ?_ ?_
                · rintro ⟨t, u⟩ H23 ⟨ht, rfl⟩
                  simp only at ht
                  subst ht
                  simp only [Ite_false, binE_add, Pu_some]
                  rw [i64wrap_id (by omega) (by omega)]
                  exact ⟨⟨q + 1, rfl, by omega, trivial⟩, by show ((j : Int) - (q + 1)).toNat < ((j : Int) - q).toNat; omega⟩
                · obtain ⟨b1, o1, ha1, hl1⟩ := elm hy
                  simp only [ha1, hl1, Pu_some, Ite_dec, binE_lss, binE_geq, binE_gtr]
                  refine ⟨fun h => absurd h (by omega), fun _ => ⟨fun h => absurd h (by omega), fun _ => ⟨fun hq0 => ?_, fun _ => ⟨trivial, trivial⟩⟩⟩⟩
                  rw [idx_arr hyr.1 (by omega), Pu_some, load_cell gu20]
                  obtain ⟨y1, hy1⟩ : ∃ y1 : Nat, (cs[q]).at_ = (y1 : Int) := ⟨(cs[q]).at_.toNat, by omega⟩
                  simp only [hy1, Nat.zero_add, Int.toNat_natCast, Nat.mul_one]
                  rw [usedA_get _ (by omega), Pu_some, binE_sub, i64wrap_id (by omega) (by omega), Pu_some]
                  obtain ⟨q', rfl⟩ : ∃ q' : Nat, q = q' + 1 := ⟨q - 1, by omega⟩
                  rw [show ((q' + 1 : Nat) : Int) - 1 = (q' : Int) by omega]
                  have hql' : q' < cs.length := by omega
                  have hy' := List.getElem?_eq_getElem hql'
                  have hyr' := hf.rng _ (List.getElem_mem hql')
                  obtain ⟨b2, o2, ha2, hl2⟩ := elm hy'
                  simp only [ha2, hl2, Pu_some]
                  rw [idx_arr hyr'.1 (by omega), Pu_some, load_cell gu20]
                  obtain ⟨y2, hy2⟩ : ∃ y2 : Nat, (cs[q']).at_ = (y2 : Int) := ⟨(cs[q']).at_.toNat, by omega⟩
                  simp only [hy2, Nat.zero_add, Int.toNat_natCast, Nat.mul_one]
                  rw [usedA_get _ (by omega), Pu_some, binE_leq, Pu_some]
                  have hup := List.pairwise_iff_getElem.1 hf.up q' (q' + 1) (by simpa using hql') (by simpa using hql) (by omega)
                  simp only [List.getElem_map, hy1, hy2] at hup
                  exact ⟨by rw [decide_eq_false (by omega)], trivial⟩
              · clear hge
                cases cs with
                | nil => have := hf.len; simp at this; omega
                | cons y cs =>
                  obtain ⟨d, hr1, d', hr2⟩ := hf.over hq (by omega)
                  have hyr := hf.rng y List.mem_cons_self
                  have hq1 := hq.read (a := 19) (by omega) (by omega)
                  have hq2 := hq1.read (a := y.at_) (by omega) (by omega)
                  have hqr1 := hq1.r
                  have hqr2 := hq2.r
                  refine hc20.read ⟨by omega, by omega⟩ (by omega) fun H24 f24 hc24 => ?_
                  rw [hr1] at hc24 ⊢
                  simp only [extractE, List.getElem?_toArray, List.getElem?_cons_zero, List.getElem?_cons_succ, Pu_some]
                  have hsl24 : Sv 3 1 H24 l (ints ((y :: cs).map (·.at_))) := hsl.of fun b hb => f24.same b (.inr hb)
                  obtain ⟨b3, o3, ha3, hl3⟩ := hsl24.cell (i := 0) (j := 0) (v := #[.int .i64 y.at_]) rfl (by decide)
                  have hl3' : loadE (some none) (.pointer (some ⟨b3, o3, none⟩)) H24 = some (.int .i64 y.at_) := hl3
                  have ha3' : idxAddrE (some (none, 1)) l (.int .i64 0) = some (.pointer (some ⟨b3, o3, none⟩)) := ha3 .i64
                  simp only [ha3', hl3', Pu_some]
                  refine hc24.read ⟨by show (s.read 19).1.reads < _; omega, by show _ ≤ (s.read 19).1.reads; omega⟩ (by omega) fun H25 f25 hc25 => ?_
                  rw [hr2] at hc25 ⊢
                  have hB : IsB d' := hc25.isB ⟨y.at_, d', false⟩ (by simp)
                  simp only [extractE, List.getElem?_toArray, List.getElem?_cons_zero, List.getElem?_cons_succ, Pu_some, zeroB]
                  refine box_i fun b26 H26 hb26 e26 s26 g26 => ?_
                  simp only [cells_agg] at g26
                  refine storeAll_i g26 zB_size hB.size hB.ok fun H27 k27 s27 g27 => ?_
                  have e2527 : Ext H25 H27 := e26.kpn k27 (by omega)
                  simp only [binE_eql, decide_true, Pu_some, Ite_true, binE_add]
                  refine (hc25.ext e2527).reads ?_
                  simp only [hqr2, Pu_some]
                  rw [i64wrap_id (by omega) (by omega), binE_eql, show decide ((j : Int) + 1 + 1 = j + 2) = true from decide_eq_true (by omega), Pu_some]
                  exact k _ (((f25.mono fun b hb => hb).ext_of ((f24.mono fun b hb => hb).ext_of (e13.trans e20) fun b hb => .inl (.inl hb)) fun b hb => .inl (.inl hb)).trans e2527)
            · rw [hsl.lenE undInts]
              simp only [ints_len, hcl, binE_neq, Pu_some, ne_eq, not_true_eq_false, decide_false, Ite_false]
              refine hc20.reads ?_
              simp only [hqr, binE_neq, ne_eq, not_true_eq_false, decide_false, Pu_some, and_self]
    · simp only [binE_neq, d00, Pu_some, Ite_false]
      rw [eqX_ptr undCa]
      simp only [Pu_some, and_self]
  · simp only [binE_neq, d00, Pu_some, Ite_false]
    rw [eqX_ptr undDk]
    simp only [Pu_some, Ite_false]
    refine Xc.closedG simg7 ok7 fun H28 e28 => ?_
    simp only [unE_not, Pu_some, Bool.not_true]
    exact ⟨trivial, e28⟩
end Go.Vc
