/- Parts of a proof, joined in build order: a calculus of contracts, an executor, contracts of functions. -/
import Derived.Test.YtacfcgoighnioaaP487d9a41f5
import Derived.WalkKit
import Derived.ProofKit
import Derived.OpenShut
import Derived.OpenVars
import Derived.Test.YtacfcgoighnioaaP80d2e70d08
import Derived.Test.YtacfcgoighnioaaP736fb1b5bb
/- Vc, part K: from a function's contract to the row of a law that comes out true and leaves its input as it was. -/
set_option linter.unusedVariables false
set_option linter.unusedSimpArgs false
namespace Go.Vc
open Go.ChangeShapes Go.WideShapes Go.ChangeAt Go.RowKit

theorem Fc.calls {P : Program} {f : FuncId} {args : Array Value} {W : World} {R : Value → Hp → Prop} (h : Fc P f args W.heap R) :
    Calls P f args W fun e W' => ∃ v, e = .returned v ∧ R v W'.heap ∧ Sm W W' :=
  callsIn_wide.1 (h W rfl)

theorem below_of {W W' : World} (hs : Sm W W') (hx : Ext W.heap W'.heap) : Below W.heap.size W W' :=
  ⟨hs.os, hs.tape, hs.out, hx.le, hx.same⟩

section
variable {H : Type} {enc : TypeId × Value → H} {P : Program}
theorem trodAll_below (hl : laidOutB P = true) {W W' : World} (hb : Below W.heap.size W W') : ∀ {ts : List TypeId} {vs : List Value} {ds : List (DataW H)} {ps : List MemPlace},
    (ts.all fun t => P.readableRec t && decide (t < P.types.size)) = true → DataW.TrodAll enc P W 0 (fun _ => true) true ts vs ds ps → (∀ x ∈ ps, x.block < W.heap.size) →
    DataW.TrodAll enc P W' 0 (fun b => decide (b < W.heap.size)) true ts vs ds ps
  | [], vs, ds, ps, _, h, _ => by
    cases vs <;> cases ds <;> first | exact h | exact h.elim
  | t :: ts, [], _, _, _, h, _ => by simp [DataW.TrodAll] at h
  | t :: ts, v :: vs, [], _, _, h, _ => by simp [DataW.TrodAll] at h
  | t :: ts, v :: vs, d :: ds, ps, hr, h, hlt => by
    obtain ⟨p, p', h1, h2, rfl⟩ := h
    simp only [List.all_cons, Bool.and_eq_true, decide_eq_true_eq] at hr
    exact ⟨p, p', Below.trod hl hr.1.1 hr.1.2 h1 hb (fun x hx => hlt x (by simp [hx])), trodAll_below hl hb hr.2 h2 (fun x hx => hlt x (by simp [hx])), rfl⟩

theorem trodAll_len {w : World} {b : Nat} {sp : Nat → Bool} {hd : Bool} : ∀ {ts : List TypeId} {vs : List Value} {ds : List (DataW H)} {ps : List MemPlace}, DataW.TrodAll enc P w b sp hd ts vs ds ps → ds.length = ts.length
  | [], [], [], _, _ => rfl
  | [], [], _ :: _, _, h => by simp [DataW.TrodAll] at h
  | [], _ :: _, _, _, h => by simp [DataW.TrodAll] at h
  | _ :: _, [], _, _, h => by simp [DataW.TrodAll] at h
  | _ :: _, _ :: _, [], _, h => by simp [DataW.TrodAll] at h
  | _ :: ts, _ :: vs, _ :: ds, _, h => by
    obtain ⟨_, _, _, hs, _⟩ := h
    simp [trodAll_len hs]
theorem trodVars_len {w : World} {sp : Nat → Bool} : ∀ {ns : List String} {gs : List (DataW H)} {ps : List MemPlace}, DataW.TrodVars enc P w sp ns gs ps → gs.length = ns.length
  | [], [], _, _ => rfl
  | [], _ :: _, _, h => by simp [DataW.TrodVars] at h
  | _ :: _, [], _, h => by simp [DataW.TrodVars] at h
  | _ :: ns, _ :: gs, _, h => by
    obtain ⟨_, _, _, _, _, _, _, _, _, _, hs, _⟩ := h
    simp [trodVars_len hs]

/-- The law's post: true, the arguments and variables as they were. -/
theorem law_post {f : Func} {s : ChangeSpec} {fresh handsOn : Bool} {W W' : World} {args : Array Value} {ds gs : List (DataW H)} {before : List MemPlace} {t : TypeId}
    (hl : laidOutB P = true) (ht : P.underlying t = some .bool) (hr : f.resultTypes = #[t])
    (hps : (f.params.toList.all fun t => P.readableRec t && decide (t < P.types.size)) = true) (hvs : varsRowed P s.vars = true)
    (hW : DataW.Whole enc P f.params.toList s.vars false W args.toList ds gs before)
    (hspec : ds.length = f.params.size → gs.length = s.vars.length → s.fn H (ds ++ gs) = { results := [.lit (.bool true)], args := ds, vars := gs })
    (hs : Sm W W') (hx : Ext W.heap W'.heap) : s.post enc P f false fresh handsOn false W args (.bool true) W' := by
  have hb := below_of hs hx
  have hlt := hW.lt
  have hW0 := hW
  obtain ⟨p, q, hA, hV, rfl, hz, hn⟩ := hW0
  have e1 : ds.length = f.params.size := by rw [trodAll_len hA]; simp
  have e2 : gs.length = s.vars.length := trodVars_len hV
  have e := hspec e1 e2
  refine ⟨ds, gs, p ++ q, [], p, q, hW, ?_, ?_, ?_, hb.frame _, fun h => by cases h⟩
  · rw [e, hr]
    exact trodAll_mk1 (shut_bool ht true)
  · rw [e]
    exact trodAll_below hl hb hps hA (fun x hx => hlt x (by simp [hx]))
  · rw [e]
    exact hb.trodVars hl hvs hV

/-- The cells of an argument that is a struct or an array. -/
theorem cells_of {W : World} {r : Reach} {base n : Nat} {t : TypeId} {v : Value} {d : TypeDesc} {ts : List TypeId} (ht : P.underlying t = some d) (hd : (match d with | .struct _ | .array _ _ => true | _ => false) = true)
    (hc : P.cellsOf t = n) (hts : P.cellTypes P.depth t = some ts) (hn : ts.length = n) (h : Value.okWide P W r base t v) :
    ∃ cs : Array Value, v = .agg cs ∧ cs.size = n ∧ ∀ (i : Nat) (u : TypeId), ts[i]? = some u → ∃ x, cs[i]? = some x ∧ Cell.okWide P W r base u x := by
  have h' : ∃ cs, v = .agg cs ∧ cs.size = P.cellsOf t ∧ Row.okWide P W r base t cs := by
    unfold Value.okWide at h
    rw [ht] at h
    cases d <;> first | exact h | cases hd
  obtain ⟨cs, rfl, hsz, ts', hts', _, hcell⟩ := h'
  have e : ts' = ts := Option.some.inj (hts'.symm.trans hts)
  subst e
  refine ⟨cs, rfl, by rw [hsz, hc], fun i u hu => ?_⟩
  have hi : i < ts'.length := by
    rcases Nat.lt_or_ge i ts'.length with h1 | h1
    · exact h1
    · rw [List.getElem?_eq_none h1] at hu; cases hu
  have hi2 : i < cs.size := by rw [hsz, hc, ← hn]; exact hi
  refine ⟨cs[i], Array.getElem?_eq_getElem hi2, ?_⟩
  obtain ⟨u', hu', hok⟩ := hcell i _ (Array.getElem?_eq_getElem hi2)
  rw [Nat.mod_eq_of_lt hi, hu] at hu'
  injection hu' with hu'
  subst hu'
  exact hok
theorem okWide_cells {W : World} {r : Reach} {base n : Nat} {t : TypeId} {d : TypeDesc} {ts : List TypeId} {cs : Array Value} (ht : P.underlying t = some d) (hd : (match d with | .struct _ | .array _ _ => true | _ => false) = true)
    (hc : P.cellsOf t = n) (hts : P.cellTypes P.depth t = some ts) (hn : ts.length = n) (hsz : cs.size = n) (hcell : ∀ (i : Nat) (u : TypeId), ts[i]? = some u → ∃ x, cs[i]? = some x ∧ Cell.okWide P W r base u x) : Value.okWide P W r base t (.agg cs) := by
  have h' : ∃ cs', Value.agg cs = .agg cs' ∧ cs'.size = P.cellsOf t ∧ Row.okWide P W r base t cs' := by
    refine ⟨cs, rfl, by rw [hsz, hc], ts, hts, ⟨1, by rw [hsz, hn, Nat.one_mul]⟩, fun i v hv => ?_⟩
    have hi : i < cs.size := by
      rcases Nat.lt_or_ge i cs.size with h1 | h1
      · exact h1
      · rw [Array.getElem?_eq_none h1] at hv; cases hv
    have hi2 : i < ts.length := by rw [hn, ← hsz]; exact hi
    obtain ⟨x, hx, hok⟩ := hcell i ts[i] (List.getElem?_eq_getElem hi2)
    rw [hv] at hx
    injection hx with hx
    subst hx
    exact ⟨ts[i], by rw [Nat.mod_eq_of_lt hi2]; exact List.getElem?_eq_getElem hi2, hok⟩
  unfold Value.okWide
  rw [ht]
  cases d <;> first | exact h' | cases hd
theorem cell_int_ok {W : World} {r : Reach} {base : Nat} {u : TypeId} {k : IntKind} {n : Int} (hu : P.underlying u = some (.int k)) (h0 : k.min ≤ n) (h1 : n ≤ k.max) : Cell.okWide P W r base u (.int k n) := by
  simp [Cell.okWide, hu, Cell.ok, IntKind.has, h0, h1]
theorem cell_bool_ok {W : World} {r : Reach} {base : Nat} {u : TypeId} {b : Bool} (hu : P.underlying u = some .bool) : Cell.okWide P W r base u (.bool b) := by
  simp [Cell.okWide, hu, Cell.ok]

/-- A world in which the row's conditions are met, the arguments' fitness given by hand. -/
theorem witness_hand {C : Checked} {os : Os} {f : FuncId} {fn : Func} {s : ChangeSpec} {conds : List PathCond} {apart : Bool} (args : Array Value) (fuel : Nat)
    (hv : (World.plainHolding C.prog os ⟨#[], args, []⟩).variablesB C.prog = true)
    (hr : ((World.plainHolding C.prog os ⟨#[], args, []⟩).heap.toList.drop C.prog.globals.size).take ((begin C.prog (fun _ _ => 0) default).world.heap.size - C.prog.globals.size) =
      (begin C.prog (fun _ _ => 0) default).world.heap.toList.drop C.prog.globals.size)
    (hfn : C.prog.funcs[f]? = some fn) (h1 : C.prog.inits.idxOf? f = none) (h2 : fn.body.isSome = true ∧ fn.ours = false ∧ fn.nfree = 0 ∧ args.size = fn.params.size)
    (hargs : ∀ (W : World) (base : Nat) (j : Nat) (t : TypeId) (v : Value), fn.params[j]? = some t → args[j]? = some v → Value.okWide C.prog W .any base t v)
    (hpre : s.preB enc C.prog fn conds apart (World.plainHolding C.prog os ⟨#[], args, []⟩).memory args fuel = true)
    (hsz : s.sizedB enc C.prog fn apart (World.plainHolding C.prog os ⟨#[], args, []⟩).memory args fuel = true) :
    ∃ (w : World) (tape : Tape) (i : Input), w.os = os ∧ (w.forCall tape i).Shaped C.prog ∧ i.vars = [] ∧ Input.okWide C.prog (w.forCall tape i) .any w.heap.size f i ∧
      s.pre6 enc C.prog fn conds apart (w.forCall tape i).memory i.args ∧ ({} : Assume).holds C.prog (lone (Frame.enter C.prog f i.args .normal) [] (w.forCall tape i)) :=
  ⟨World.holding C.prog os ⟨#[], args, []⟩, fun _ _ => 0, ⟨#[], args, []⟩, rfl, World.shaped_of_B hv hr, rfl,
    ⟨fun o ho => by simp at ho, fun gv hgv => by simp at hgv, h1, fn, hfn, h2.1, h2.2.1, h2.2.2.1, h2.2.2.2, hargs _ _⟩, ⟨ChangeSpec.pre_of_preB hpre, sizedMet_of_sizedB hsz⟩, by
    simp only [Assume.holds]
    exact ⟨by simp, by simp, fun _ => Modest.zero, by simp, by simp⟩⟩
theorem cell_int {W : World} {r : Reach} {base : Nat} {u : TypeId} {k : IntKind} {x : Value} (hu : P.underlying u = some (.int k)) (h : Cell.okWide P W r base u x) : ∃ n, x = .int k n ∧ k.min ≤ n ∧ n ≤ k.max := by
  simp only [Cell.okWide, hu] at h
  cases x <;> simp_all [Cell.ok, IntKind.has]
theorem cell_bool {W : World} {r : Reach} {base : Nat} {u : TypeId} {x : Value} (hu : P.underlying u = some .bool) (h : Cell.okWide P W r base u x) : ∃ b, x = .bool b := by
  simp only [Cell.okWide, hu] at h
  cases x <;> simp_all [Cell.ok]
end
theorem min_i64 : IntKind.i64.min = -9223372036854775808 := by decide
theorem max_i64 : IntKind.i64.max = 9223372036854775807 := by decide
theorem min_u8 : IntKind.u8.min = 0 := by decide
theorem max_u8 : IntKind.u8.max = 255 := by decide
end Go.Vc

/- Ft, part O: CacheHeld, CachePlays: the walks. -/
set_option linter.unusedVariables false
set_option linter.unusedSimpArgs false
namespace Go.Vc
open Go.Proofs
open Classical

theorem Wd.of_rank {H : Hp} {l : List Ob} (lo : Nat) (rk : Nat → Nat) (h : ∀ i X, l[i]? = some X → ∃ O, X.at_ H O ∧ ∀ b, O b → lo ≤ b ∧ rk b = i) : Wd (fun b => if lo ≤ b ∧ b < H.size then rk b + 1 else 0) H l := by
  refine ⟨fun i X hX => ?_, fun b hb => if_neg (by omega)⟩
  obtain ⟨O, hO, hr⟩ := h i X hX
  refine X.frame hO (fun _ _ => rfl) (Nat.le_refl _) (fun b hb => ?_) fun b hb => ?_
  · show (if lo ≤ b ∧ b < H.size then rk b + 1 else 0) = i + 1
    rw [if_pos ⟨(hr b hb).1, X.own hO b hb⟩, (hr b hb).2]
  · have hb : (if lo ≤ b ∧ b < H.size then rk b + 1 else 0) = i + 1 := hb
    split at hb
    · rename_i h1; exact h1.2
    · omega
theorem build_w (p r : Nat) : buildE Try.prog 41 [(0, ptrV p), (1, ptrV r)] = some (.agg (wdC p r none none (.slice none 0 0) (.slice none 0 0))) := by kernel_rfl
theorem build_s1 (x : Int) : buildE Try.prog 44 [(0, .int .u8 0), (2, .int .i64 x)] = some (.agg (Sp.c ⟨0, false, x, 0⟩)) := by kernel_rfl
theorem build_s2 : buildE Try.prog 44 [(0, .int .u8 4)] = some (.agg (Sp.c ⟨4, false, 0, 0⟩)) := by kernel_rfl
theorem build_s4 : buildE Try.prog 44 [(0, .int .u8 3)] = some (.agg (Sp.c ⟨3, false, 0, 0⟩)) := by kernel_rfl
theorem build_s3 (d x f : Int) : buildE Try.prog 44 [(0, .int .u8 d), (2, .int .i64 x), (3, .int .u16 f)] = some (.agg (Sp.c ⟨d, false, x, f⟩)) := by kernel_rfl
theorem zero_s : zeroE Try.prog 44 = some (.agg (Sp.c ⟨0, false, 0, 0⟩)) := by kernel_rfl
theorem undRc : Try.prog.underlying 33 = some (.pointer 86) := by kernel_rfl
theorem undSps : Try.prog.underlying 23 = some (.slice 44) := by kernel_rfl

theorem light_dead (s : DS) (h : s.stopped = false → True) : (s.light 0).barrier.2 = 3 ∧ (s.light 0).barrier.1.stopped = true := by
  unfold DS.light DS.barrier
  cases hs : s.stopped with
  | true => simp [hs]
  | false => simp [hs, show max (0 : Int) (-1) = 0 from rfl]
theorem readC_dead {size : Int} {s : DS} {cs : List Pl} {a : Int} (h : s.stopped = true) : readC size s cs a = (s, cs, zB, 3) := by
  unfold readC DS.wrong; simp [h]
theorem putC_dead {size : Int} {s : DS} {cs : List Pl} {a : Int} {d : Blk} (h : s.stopped = true) : putC size s cs a d = (cs, 3) := by
  unfold putC DS.wrong; simp [h]
theorem flushC_dead {s : DS} {cs : List Pl} {a : Int} (h : s.stopped = true) : flushC s cs a = (s, cs, 3) := by
  unfold flushC DS.wrong; simp [h]
theorem updQ_self {a : Nat → Option C2} {n : Nat} {q : C2} (h : a n = some q) : updQ a n q = a := by
  funext j
  unfold updQ
  split
  · rename_i e; rw [e, h]
  · rfl

section
variable {col : Nat → Nat} {H : Hp} {x p r kf n : Nat} {s : DS} {a : Nat → Option C2} {w0 w1 : Option C2} {tl : List Td} {q : C2} {R : Value → Hp → Prop}
theorem dead_read (hw : WS col H x p r s a w0 w1 tl kf) (hst : s.stopped = true) (hn : n = 0 ∨ n = 1) (ha : a n = some q) {at_ : Int} (k : ∀ H' col', WS col' H' x p r s a w0 w1 tl kf → Qs H col H' col' → R (.tuple #[.agg zB, .int .i64 3]) H') : Fc Try.prog 15 #[ptrV q.cb, .int .i64 at_] H R := by
  obtain ⟨hR, hsz⟩ := hw.rw n q ha
  obtain ⟨f1, f2, f3, f4, f5⟩ := hw.fit
  have hlim := hw.lim
  refine pw_read hw.wd hn ha ⟨by omega, by omega⟩ hsz fun H' col' w' q' => ?_
  rw [readC_dead hst] at w' ⊢
  have w' : Wd col' H' (baseL x p r s s (updQ a n q) a w0 w1 tl) := w'
  rw [updQ_self ha] at w'
  exact k H' col' { hw with wd := w' } q'
theorem dead_put (hw : WS col H x p r s a w0 w1 tl kf) (hst : s.stopped = true) (hn : n = 0 ∨ n = 1) (ha : a n = some q) {at_ : Int} (k : ∀ H' col', WS col' H' x p r s a w0 w1 tl kf → Qs H col H' col' → R (.int .i64 3) H') : Fc Try.prog 16 #[ptrV q.cb, .int .i64 at_, .agg zB] H R := by
  obtain ⟨hR, hsz⟩ := hw.rw n q ha
  have := hR.len
  refine pw_put hw.wd hn ha hsz (by omega) zB_is fun H' col' w' q' => ?_
  rw [putC_dead hst] at w' ⊢
  have w' : Wd col' H' (baseL x p r s s (updQ a n q) a w0 w1 tl) := w'
  rw [updQ_self ha] at w'
  exact k H' col' { hw with wd := w' } q'
theorem dead_flush (hw : WS col H x p r s a w0 w1 tl kf) (hst : s.stopped = true) (hn : n = 0 ∨ n = 1) (ha : a n = some q) {at_ : Int} (k : ∀ H' col', WS col' H' x p r s a w0 w1 tl kf → Qs H col H' col' → R (.int .i64 3) H') : Fc Try.prog 17 #[ptrV q.cb, .int .i64 at_] H R := by
  obtain ⟨hR, hsz⟩ := hw.rw n q ha
  have := hR.len
  have hlim := hw.lim
  refine pw_flush hw.wd hn ha hw.fit (by omega) (by omega) fun H' col' w' q' => ?_
  rw [flushC_dead hst] at w' ⊢
  have w' : Wd col' H' (baseL x p r s s (updQ a n q) a w0 w1 tl) := w'
  rw [updQ_self ha] at w'
  exact k H' col' { hw with wd := w' } q'
theorem WS.still (hw : WS col H x p r s a w0 w1 tl kf) (k : ∀ H' col', Qs H col H' col' → R (.bool true) H') {l kk : Value} (hl : loadE (some none) (.pointer (some ⟨x, 6, none⟩)) H = some l) (hk : loadE (some none) (.pointer (some ⟨x, 7, none⟩)) H = some kk) : Fc Try.prog 25 #[l, kk] H R := by
  obtain ⟨L, K, hc, o1, o2, o3⟩ := w_top hw.wd
  rw [load_cell hc.top] at hl hk
  have e1 : L = l := by
    have := wd_get (p := p) (r := r) (a := w0) (b := w1) (l := L) (k := K)
    rw [this.2.2.2.2.2.2.1] at hl; injection hl
  have e2 : K = kk := by
    have := wd_get (p := p) (r := r) (a := w0) (b := w1) (l := L) (k := K)
    rw [this.2.2.2.2.2.2.2.1] at hk; injection hk
  subst e1 e2
  refine still_ok hc.ls hc.ks o2 (fun j t ht => ?_) hw.wd.out (by have := hw.tn; have := hw.lim; omega) hw.tx k
  have h1 := hw.wd.get (base_l ht)
  have h2 := hw.wd.get (base_k ht)
  refine ⟨h1.1, fun b hb => ?_, h2.1⟩
  have : col b = 7 + 2 * j + 1 := h1.2.1 b hb
  omega
theorem WS.l (hw : WS col H x p r s a w0 w1 tl kf) : ∃ l kk, loadE (some none) (.pointer (some ⟨x, 6, none⟩)) H = some l ∧ loadE (some none) (.pointer (some ⟨x, 7, none⟩)) H = some kk := by
  obtain ⟨L, K, hc, o1, o2, o3⟩ := w_top hw.wd
  exact ⟨L, K, by rw [load_cell hc.top]; exact wd_get.2.2.2.2.2.2.1, by rw [load_cell hc.top]; exact wd_get.2.2.2.2.2.2.2.1⟩
end
theorem load_fit {n : Int} {l : List (Int × Blk)} : (DS.load n l).fit 0 := ⟨⟨Int.le_refl _, Int.le_refl _⟩, ⟨Int.le_refl _, Int.le_refl _⟩, ⟨Int.le_refl _, by show (-1 : Int) ≤ _; omega⟩, Nat.le_refl _, Nat.le_refl _⟩
theorem rd_load {H : Hp} {r : Nat} {fs : List Int} {s1 s2 : Value} (gr : H[r]? = some (.cells (rdC s1 s2 (-1) false 0 0) 65)) (h1 : Sv 51 1024 H s1 (fs.map filB)) (h2 : Sv 51 1024 H s2 (fs.map filB)) (d1 : ∀ b, blkOf s1 = some b → r < b) (d2 : ∀ b, blkOf s2 = some b → r < b ∧ blkOf s1 ≠ some b) :
    RD H r (DS.load fs.length (ldP fs)) (fun b => r ≤ b ∧ b < H.size) := by
  have key : ∀ (i : Nat) y, (fs.map filB)[i]? = some y → heldL (ldP fs) (i : Nat) = y ∧ IsB y := fun i y hy => by
    rw [List.getElem?_map] at hy
    cases hf : fs[i]? with
    | none => rw [hf] at hy; cases hy
    | some z =>
      rw [hf] at hy
      injection hy with hy
      subst hy
      exact ⟨ldP_held fs i z hf, filB_is z⟩
  refine ⟨⟨s1, s2, fs.map filB, fs.map filB, ⟨gr, h1, h2, by rw [List.length_map]; rfl, by rw [List.length_map]; rfl, key, key, fun y hy => by have := d1 y hy; omega, fun y hy => ⟨by have := (d2 y hy).1; omega, (d2 y hy).2⟩⟩, ⟨Nat.le_refl _, Go.Vc.lt_of_block gr⟩, fun y hy => ⟨by have := d1 y hy; omega, h1.lt hy⟩, fun y hy => ⟨by have := (d2 y hy).1; omega, h2.lt hy⟩⟩, fun b hb => hb.2⟩
end Go.Vc

/- Ft, part P: CacheHeld: the walk. -/
set_option linter.unusedVariables false
set_option linter.unusedSimpArgs false
namespace Go.Vc
open Go.Proofs

/-- From a start whose old blocks are nobody's. -/
theorem Qs.ext {H0 H H' : Hp} {col col' : Nat → Nat} (e : Ext H0 H) (h0 : ∀ b, b < H0.size → col b = 0) (q : Qs H col H' col') : Ext H0 H' :=
  ⟨Nat.le_trans e.le q.le, fun b hb => (q.same b (Nat.lt_of_lt_of_le hb e.le) (h0 b hb)).trans (e.same b hb)⟩

set_option maxHeartbeats 8000000 in
theorem law_held {v0 v2 : Value} {fs : List Int} {ss : List Sp} {size at_ : Int} {H : Hp} {R : Value → Hp → Prop} (hfs : Sr 1 H v0 (u16s fs)) (hs : Sr 4 H v2 (ss.map Sp.c)) (hb : ∀ m ∈ ss, m.at_ ≤ 9223372036854775807) (hl : ss.length ≤ 1048576) (hat : at_ ≤ 9223372036854775807) (k : ∀ H', Ext H H' → R (.bool true) H') :
    Fc Try.prog 3 #[v0, .int .i64 size, v2, .int .i64 at_] H R := by
  refine fn3 ?_
  simp only [sh3, Any_const]
  rw [hfs.lenE undU16s, u16s_len]
  refine Join.mk (fun t H' => t.1 = .bool (decide (¬ (1 ≤ fs.length ∧ fs.length ≤ 64))) ∧ H' = H) ?_ ?_
  · rintro ⟨t, u⟩ H0 ⟨ht, rfl⟩
    simp only at ht
    subst ht
    simp only [Ite_dec]
    refine ⟨fun _ => Xc.closedG simg5 ok5 fun H' e => k H' e, fun h => ?_⟩
    have hfl := Classical.not_not.1 h
    refine disks_ok hfs hfl.1 hfl.2 fun H1 p r s1 s2 Od e1 hd hOd gr hs1 hs2 hr0 hr1 hr2 => ?_
    have hrd := rd_load gr hs1 hs2 hr1 hr2
    have hrl := Go.Vc.lt_of_block gr
    clear gr hs1 hs2 hr1 hr2
    simp only [extractE, List.getElem?_toArray, List.getElem?_cons_zero, List.getElem?_cons_succ, Pu_some]
    refine Join.mk (fun t H' => t.1 = .bool false ∧ Ext H1 H') ?_ ?_
    · rintro ⟨t, u⟩ H2 ⟨ht, e2⟩
      simp only at ht
      subst ht
      simp only [Ite_false]
      have hd2 := hd.ext e2
      have hrd2 := hrd.ext e2
      by_cases hz : 1 ≤ size ∧ size ≤ 4096
      · refine cache_new hd2 hz.1 hz.2 fun H3 cb e3 hc3 => ?_
        simp only [extractE, List.getElem?_toArray, List.getElem?_cons_zero, List.getElem?_cons_succ, Pu_some]
        refine rc_new (fun _ _ H4 c e4 hc4 => ?_) (fun hbad => absurd hz hbad)
        simp only [extractE, List.getElem?_toArray, List.getElem?_cons_zero, List.getElem?_cons_succ, Pu_some]
        refine Join.mk (fun t H' => t.1 = .bool false ∧ H' = H4) ?_ ?_
        · rintro ⟨t, u⟩ H5 ⟨ht, rfl⟩
          simp only at ht
          subst ht
          simp only [Ite_false, build_w, Pu_some]
          refine box_i fun x H6 hx e6 t6 g6 => ?_
          simp only [cells_agg] at g6
          simp only [nilCheckE, Pu_some, addr_ptr, Nat.zero_add]
          rw [idx_arr (by omega) (by omega)]
          simp only [Pu_some]
          refine store_i g6 (by show _ < 8; decide) rfl rfl fun H7 k7 t7 g7 => ?_
          rw [idx_arr (by omega) (by omega)]
          simp only [Pu_some]
          refine store_i g7 (by show _ < 8; decide) rfl rfl fun H8 k8 t8 g8 => ?_
          have g8 : H8[x]? = some (.cells (wdC p r (some ⟨cb, c, size, []⟩) none (.slice none 0 0) (.slice none 0 0)) 41) := g8
          have e57 : Ext H5 H7 := e6.kpn k7 (by omega)
          have e58 : Ext H5 H8 := e57.kpn k8 (by omega)
          have e25 : Ext H2 H5 := e3.trans e4
          have l2 := e2.le
          have l3 := e3.le
          have l4 := e4.le
          have l1 := e1.le
          have hlt8 := Go.Vc.lt_of_block g8
          have w8 := Wd.of_rank (H := H8) (l := baseL x p r (DS.load fs.length (ldP fs)) (DS.load fs.length (ldP fs)) (fun j => if j = 0 then some ⟨cb, c, size, []⟩ else none) (fun j => if j = 0 then some ⟨cb, c, size, []⟩ else none) (some ⟨cb, c, size, []⟩) none []) H0.size (fun b => if b < r then 1 else if b < H2.size then 2 else if b < H3.size then 3 else if b < H5.size then 5 else 0) fun i X hX => by
            match i, hX with
            | 0, hX =>
              injection hX with hX; subst hX
              exact ⟨fun b => b = x, ⟨⟨_, _, ⟨g8, Sv.nil _ _ _, Sv.nil _ _ _, fun y e => (by cases e), fun y e => (by cases e)⟩, rfl, fun y e => (by cases e), fun y e => (by cases e)⟩, fun y e => by rw [e]; exact hlt8⟩, fun b e => ⟨by omega, by rw [if_neg (by omega), if_neg (by omega), if_neg (by omega), if_neg (by omega)]⟩⟩
            | 1, hX =>
              injection hX with hX; subst hX
              exact ⟨Od, hd2.ext (e25.trans e58), fun b e => ⟨(hOd b e).1, if_pos (hOd b e).2⟩⟩
            | 2, hX =>
              injection hX with hX; subst hX
              exact ⟨_, hrd2.ext (e25.trans e58), fun b e => ⟨by omega, by rw [if_neg (by omega), if_pos (by omega)]⟩⟩
            | 3, hX =>
              injection hX with hX; subst hX
              exact ⟨_, hc3.of (fun b hb => (e4.trans e58).same b (by omega)) (e4.trans e58).le, fun b e => ⟨by omega, by rw [if_neg (by omega), if_neg (by omega), if_pos (by omega)]⟩⟩
            | 4, hX =>
              injection hX with hX; subst hX
              exact ⟨fun _ => False, fun b e => e.elim, fun b e => e.elim⟩
            | 5, hX =>
              injection hX with hX; subst hX
              exact ⟨_, hc4.ext e58, fun b e => ⟨by omega, by rw [if_neg (by omega), if_neg (by omega), if_neg (by omega), if_pos (by omega)]⟩⟩
            | 6, hX =>
              injection hX with hX; subst hX
              exact ⟨fun _ => False, fun b e => e.elim, fun b e => e.elim⟩
            | i + 7, hX => simp [baseL, tdL] at hX
          generalize hcol : (fun b => if H0.size ≤ b ∧ b < H8.size then (if b < r then 1 else if b < H2.size then 2 else if b < H3.size then 3 else if b < H5.size then 5 else 0) + 1 else 0) = col8 at w8
          have z8 : ∀ b, b < H0.size → col8 b = 0 := fun b hb => by rw [← hcol]; exact if_neg (by omega)
          have E8 : Ext H0 H8 := (e1.trans e2).trans (e25.trans e58)
          have W8 : WS col8 H8 x p r (DS.load fs.length (ldP fs)) (fun j => if j = 0 then some ⟨cb, c, size, []⟩ else none) (some ⟨cb, c, size, []⟩) none [] 0 := by
            refine ⟨w8, load_fit, by omega, by show (fs.length : Int) ≤ _; omega, fun j y hy => ?_, ⟨rfl, rfl⟩, ⟨rfl, rfl⟩, Nat.le_refl _, fun t ht => (by cases ht)⟩
            split at hy
            · injection hy with hy; subst hy
              exact ⟨Rw.nil hz.1, hz.2⟩
            · cases hy
          clear hcol w8 g8 g7 g6 k7 k8 hc3 hc4 hrd hrd2 hd hd2
          rw [hs.lenE undSps, List.length_map]
          simp only [Pu_some]
          refine LoopP.mk (fun t H' => ∃ (i : Nat) (s : DS) (a : Nat → Option C2) (tl : List Td) (col : Nat → Nat), t.1 = .int .i64 i ∧ i ≤ ss.length ∧ WS col H' x p r s a (some ⟨cb, c, size, []⟩) none tl i ∧ Qs H8 col8 H' col) (fun t _ => match t.1 with | .int _ i => ((ss.length : Int) - i).toNat | _ => 0) ⟨0, _, _, _, _, rfl, by omega, W8, Qs.refl _ _⟩ ?_
          rintro ⟨t1, u1⟩ H11 ⟨i, s, a, tl, col, ht, hi, W, Q⟩
          simp only at ht
          subst ht
          simp only [binE_lss, Pu_some, Ite_dec]
          refine ⟨fun hlt => ?_, fun hge => ?_⟩
          · have hx := List.getElem?_eq_getElem (l := ss) (i := i) (by omega)
            have hxb := hb _ (List.getElem_mem (l := ss) (n := i) (by omega))
            generalize ss[i]'_ = m at hx hxb
            have hsx : (ss.map Sp.c)[i]? = some m.c := by rw [List.getElem?_map, hx]; rfl
            obtain ⟨bs, os, hrow, hadr⟩ := hs.elem hsx
            have E11 := Qs.ext E8 z8 Q
            have hld : ∀ j, j < 4 → loadE (some none) (.pointer (some ⟨bs, os + j, none⟩)) H11 = m.c[j]? := fun j hj => rowH_cell (rowH_ext E11 hrow) hj
            simp only [hadr, Pu_some, addr_ptr, hld 0 (by decide), hld 2 (by decide), hld 3 (by decide), sp_get, binE_leq, Ite_dec, build_s3]
            refine ⟨fun hle => ?_, fun hgt => ?_⟩
            · simp only [ForX_true]
              intro H12 e12
              simp only [zero_s, Pu_some]
              refine box_i fun b13 H13 hb13 e13 t13 g13 => ?_
              simp only [cells_agg] at g13
              intro H14 e14
              refine storeAll_i (e14.at g13) rfl rfl (by simp [Sp.c, Value.oneCell']) fun H15 k15 t15 g15 => ?_
              intro H16 e16
              rw [load_all (n := 4) (e16.at g15) rfl, Pu_some]
              have eB : Ext H11 H16 := ((e12.trans (e13.trans e14)).kpn k15 (by have := e12.le; omega)).trans e16
              refine step_ok (m := ⟨m.do_, false, m.at_, m.fill⟩) (W.ext eB) (by omega) hxb fun H' col' s' a' tl' W' Q' => ?_
              simp only [unE_not, Pu_some, Bool.not_true, Ite_false]
              rw [binE_add, i64wrap_id (by omega) (by omega), Pu_some]
              exact ⟨⟨i + 1, s', a', tl', col', rfl, by omega, W', Q.trans ((eB.qs col).trans Q')⟩, by show ((ss.length : Int) - (i + 1)).toNat < ((ss.length : Int) - i).toNat; omega⟩
            · rw [binE_add, i64wrap_id (by omega) (by omega), Pu_some]
              exact ⟨⟨i + 1, s, a, tl, col, rfl, by omega, W.grow (by omega) (by omega), Q⟩, by show ((ss.length : Int) - (i + 1)).toNat < ((ss.length : Int) - i).toNat; omega⟩
          · have hcv := W.c0
            cases ha : a 0 with
            | none => rw [ha] at hcv; cases hcv.1
            | some q =>
              rw [ha] at hcv
              obtain ⟨cb', rc', sz, cs⟩ := q
              have h1 : ptrV cb = ptrV cb' := hcv.1
              have h2 : ptrV c = ptrV rc' := hcv.2
              injection h1 with h1; injection h1 with h1; injection h1 with h1
              injection h2 with h2; injection h2 with h2; injection h2 with h2
              subst h1 h2
              clear hcv
              obtain ⟨hR, hsz⟩ := W.rw 0 _ ha
              have hlen := hR.len
              simp only at hR hsz hlen
              have hfit := W.fit
              refine rc_order (W.wd.get (base_r (.inl rfl) ha)) (by simp only; omega) fun row H18 e18 hrow nrow => ?_
              simp only at hrow
              have W18 := W.ext e18
              refine disk_fuse (W18.wd.get (base_disk x p r _ _ _ _ _ _ _)) fun H19 k19 hd19 => ?_
              obtain ⟨c19, w19, q19⟩ := pw_disk W18.wd k19 hd19 fun b hb => .inl hb
              refine rd_light (w19.get (base_rd x p r _ _ _ _ _ _ _)) fun H20 k20 hd20 => ?_
              obtain ⟨c20, w20, q20⟩ := pr_disk w19 k20 hd20 fun b hb => .inl hb
              have hf20 := DS.light_fit hfit (n := 0) (by omega)
              have W20 : WS c20 H20 x p r (s.light 0) a (some ⟨cb, c, size, []⟩) none tl i := { W with wd := w20, fit := hf20, n := by rw [light_n]; exact W.n }
              obtain ⟨hd1, hd2⟩ := light_dead s fun _ => trivial
              have hbn := barrier_n (s.light 0)
              have hbf := DS.barrier_fit hf20
              have Q20 : Qs H18 col H20 c20 := q19.trans q20
              have fin : ∀ {H' : Hp} {col' : Nat → Nat}, Qs H20 c20 H' col' → Sv 3 1 H' row (ints (cs.map (·.at_))) := fun q' => hrow.of fun b hb => (Q20.trans q').same b (hrow.lt hb) (W.wd.zero (nrow b hb))
              have hB3 := hd1
              generalize hs2 : (s.light 0).barrier = sb at hd1 hd2 hbn hbf
              obtain ⟨s2, rr⟩ := sb
              simp only at hd1 hd2 hbn hbf
              subst hd1
              refine Join.mk (fun t H' => t.1 = .bool false ∧ ∃ col', WS col' H' x p r s2 a (some ⟨cb, c, size, []⟩) none tl (i + 1) ∧ Qs H20 c20 H' col') ?_ ?_
              · rintro ⟨t, u⟩ H21 ⟨ht, c21, W21, Q21⟩
                simp only at ht
                subst ht
                simp only [Ite_false]
                refine dead_read W21 hd2 (.inl rfl) ha fun H22 c22 W22 Q22 => ?_
                simp only [extractE, List.getElem?_toArray, List.getElem?_cons_zero, List.getElem?_cons_succ, Pu_some]
                refine Join.mk (fun t H' => t.1 = .bool false ∧ ∃ col', WS col' H' x p r s2 a (some ⟨cb, c, size, []⟩) none tl (i + 1) ∧ Qs H20 c20 H' col') ?_ ?_
                · rintro ⟨t, u⟩ H23 ⟨ht, c23, W23, Q23⟩
                  simp only at ht
                  subst ht
                  simp only [Ite_false]
                  have hpl := W23.fit.pl
                  refine disk_crash (W23.wd.get (base_disk x p r _ _ _ _ _ _ _)) (by omega) fun H24 k24 hd24 => ?_
                  obtain ⟨c24, w24, q24⟩ := pw_disk W23.wd k24 hd24 fun b hb => .inl hb
                  simp only [binE_neq, Pu_some, Ite_dec]
                  refine ⟨fun h => absurd rfl h, fun _ => ?_⟩
                  refine rd_crash (w24.get (base_rd x p r _ _ _ _ _ _ _)) W23.n fun H25 k25 hd25 => ?_
                  obtain ⟨c25, w25, q25⟩ := pr_disk w24 k25 hd25 fun b hb => .inl hb
                  have W25 : WS c25 H25 x p r s2.crash a (some ⟨cb, c, size, []⟩) none tl (i + 1) := { W23 with wd := w25, fit := DS.crash_fit W23.fit, n := by rw [crash_n]; exact W23.n }
                  simp only [build_s1, build_s2, Pu_some]
                  refine step_ok W25 (by omega) hat fun H26 c26 s26 a26 tl26 W26 Q26 => ?_
                  simp only [Ite_true, Pu_some]
                  refine step_ok W26 (by omega) (by show (0 : Int) ≤ _; omega) fun H27 c27 s27 a27 tl27 W27 Q27 => ?_
                  obtain ⟨l, kk, hl1, hk1⟩ := W27.l
                  simp only [Ite_true, nilCheckE, addr_ptr, Nat.zero_add, hl1, hk1, Pu_some]
                  refine W27.still (fun H28 c28 Q28 => ?_) hl1 hk1
                  exact k H28 (Qs.ext E8 z8 (Q.trans ((e18.qs col).trans (Q20.trans (Q23.trans (q24.trans (q25.trans (Q26.trans (Q27.trans Q28)))))))))
                · simp only [binE_neq, Pu_some, Ite_dec, buildB]
                  refine ⟨fun h => absurd rfl h, fun _ => ?_⟩
                  refine dead_put W22 hd2 (.inl rfl) ha fun H29 c29 W29 Q29 => ?_
                  simp only [binE_neq, Pu_some, Ite_dec]
                  refine ⟨fun h => absurd rfl h, fun _ => ?_⟩
                  refine dead_flush W29 hd2 (.inl rfl) ha fun H30 c30 W30 Q30 => ?_
                  simp only [binE_neq, Pu_some, Ite_dec]
                  refine ⟨fun h => absurd rfl h, fun _ => ?_⟩
                  refine cache_fast (W30.wd.get (base_c (.inl rfl) ha)) ?_
                  obtain ⟨⟨sl, hc, o1, o2⟩, hlt3⟩ : RC H30 c r sz cs _ := W30.wd.get (base_r (.inl rfl) ha)
                  refine rc_fast hc (by omega) ?_
                  simp only [binE_neq, Pu_some, Ite_dec]
                  refine ⟨fun h => absurd rfl h, fun _ => ?_⟩
                  refine cache_len (W30.wd.get (base_c (.inl rfl) ha)) ?_
                  rw [hrow.lenE undInts, ints_len, List.length_map]
                  simp only [binE_neq, Pu_some, Ite_dec]
                  refine ⟨fun h => absurd rfl h, fun _ => ?_⟩
                  refine cache_order (W30.wd.get (base_c (.inl rfl) ha)) (by show cs.length < _; omega) fun l H31 e31 hl nl => ?_
                  have Q31 : Qs H20 c20 H31 c30 := Q21.trans (Q22.trans (Q29.trans (Q30.trans (e31.qs c30))))
                  refine same_ok hl (fin Q31) (by rw [List.length_map]; show cs.length < _; omega) ?_
                  simp only [unE_not, Pu_some, Bool.not_true]
                  exact ⟨trivial, c30, W30.ext e31, Q31⟩
              · refine disk_barrier (W20.wd.get (base_disk x p r _ _ _ _ _ _ _)) hf20 (by omega) fun H21 O21 st21 hd21 => ?_
                rw [hs2] at hd21 ⊢
                obtain ⟨c21, w21, q21⟩ := pw_disk W20.wd st21.kp hd21 st21.new
                simp only [binE_neq, Pu_some, Ite_dec]
                refine ⟨fun h => absurd rfl h, fun _ => ?_⟩
                obtain ⟨f1, f2, f3, f4, f5⟩ := hf20
                refine rd_barrier (w21.get (base_rd x p r _ _ _ _ _ _ _)) ⟨by omega, by omega⟩ ⟨by omega, by omega⟩ W20.n fun H22 k22 hd22 => ?_
                rw [hs2] at hd22 ⊢
                obtain ⟨c22, w22, q22⟩ := pr_disk w21 k22 hd22 fun b hb => .inl hb
                simp only [binE_neq, Pu_some]
                exact ⟨by rw [decide_eq_false fun h => h rfl], c22, W20.disk w22 hbf (by omega) hbn, q21.trans q22⟩
        · simp only [binE_neq, Pu_some, Ite_dec]
          refine ⟨fun h => absurd rfl h, fun _ => ?_⟩
          rw [eqX_ptr undCa, Pu_some, Ite_false, eqX_ptr undRc, Pu_some]
          exact ⟨rfl, trivial⟩
      · refine cache_bad hd2 hz ?_
        simp only [extractE, List.getElem?_toArray, List.getElem?_cons_zero, List.getElem?_cons_succ, Pu_some]
        refine rc_new (fun z1 z2 _ _ _ _ => absurd ⟨z1, z2⟩ hz) (fun _ => ?_)
        simp only [extractE, List.getElem?_toArray, List.getElem?_cons_zero, List.getElem?_cons_succ, Pu_some]
        refine Join.mk (fun t H' => t.1 = .bool true ∧ H' = H2) ?_ ?_
        · rintro ⟨t, u⟩ H5 ⟨ht, rfl⟩
          simp only at ht
          subst ht
          simp only [Ite_true, binE_eql, Pu_some, decide_true]
          rw [eqX_nil undCa, Pu_some, Ite_true, eqX_nil undRc, Pu_some]
          exact k _ (e1.trans e2)
        · simp only [binE_neq, Pu_some, Ite_dec]
          refine ⟨fun h => absurd rfl h, fun _ => ?_⟩
          rw [eqX_nil undCa, Pu_some, Ite_true]
          exact ⟨trivial, trivial⟩
    · simp only [unE_not, Pu_some, Bool.not_true, Ite_false]
      refine Xc.closedG simg5 ok5 fun H28 e28 => ?_
      simp only [unE_not, Pu_some, Bool.not_true]
      exact ⟨trivial, e28⟩
  · simp only [Pu_some, binE_gtr, binE_eql, Ite_dec]
    refine ⟨fun h => ⟨by rw [decide_eq_true (by omega)], trivial⟩, fun h => ⟨?_, trivial⟩⟩
    congr 1
    rw [decide_eq_decide]; omega
end Go.Vc

/- Ft, part Q: CachePlays: the walk. -/
set_option linter.unusedVariables false
set_option linter.unusedSimpArgs false
namespace Go.Vc
open Go.Proofs

theorem build_two (a b : Int) : buildE Try.prog 61 [(0, .int .i64 a), (1, .int .i64 b)] = some (.agg #[.int .i64 a, .int .i64 b]) := by kernel_rfl
theorem zero_two : zeroE Try.prog 61 = some (.agg #[.int .i64 0, .int .i64 0]) := by kernel_rfl
def sizeN (one two : Int) (i : Nat) : Int := if i = 0 then one else two
theorem sz_get {one two : Int} {i : Nat} (h : i = 0 ∨ i = 1) : (#[Value.int .i64 one, .int .i64 two] : Array Value)[i]? = some (.int .i64 (sizeN one two i)) := by
  rcases h with rfl | rfl <;> rfl
theorem neb (x y : Bool) : binE (some .bool) .neq (.bool x) (.bool y) = some (.bool (!(x == y))) := rfl

section
variable {col : Nat → Nat} {H : Hp} {x p r : Nat} {s : DS} {a : Nat → Option C2} {i : Nat}
/-- A cache is put into the world. -/
theorem new_step {H1 H2 H3 H4 : Hp} (W : WS col H x p r s a (a 0) (a 1) [] 0) (hi : i = 0 ∨ i = 1) (hno : ∀ j, i ≤ j → a j = none) {size : Int} (hz : 1 ≤ size ∧ size ≤ 4096) {cb c : Nat} (e1 : Ext H H1) (hc : CacheAt H1 cb p size [] (fun b => H.size ≤ b ∧ b < H1.size)) (e2 : Ext H1 H2) (hr : RC H2 c r size [] (fun b => H1.size ≤ b ∧ b < H2.size))
    {L K : Value} (top : H2[x]? = some (.cells (wdC p r (a 0) (a 1) L K) 41)) (k3 : Kp (· = x) H2 H3) (t3 : H3.size = H2.size) (k4 : Kp (· = x) H3 H4) (t4 : H4.size = H3.size)
    (g4 : H4[x]? = some (.cells (((wdC p r (a 0) (a 1) L K).setIfInBounds (2 + i) (ptrV cb)).setIfInBounds (4 + i) (ptrV c)) 41)) :
    ∃ col', WS col' H4 x p r s (updQ a i ⟨cb, c, size, []⟩) (updQ a i ⟨cb, c, size, []⟩ 0) (updQ a i ⟨cb, c, size, []⟩ 1) [] 0 ∧ Qs H col H4 col' := by
  have hai := hno i (Nat.le_refl _)
  have b3 : (baseL x p r s s a a (a 0) (a 1) [])[3 + i]? = some noOb := by
    rcases hi with rfl | rfl
    · show some (cObj p (a 0)) = _; rw [hai]; rfl
    · show some (cObj p (a 1)) = _; rw [hai]; rfl
  obtain ⟨c1, w1, g1⟩ := W.wd.step b3 (e1.kp _) (x' := cacheOb cb p size []) hc fun b hb => .inr hb.1
  have b5 : ((baseL x p r s s a a (a 0) (a 1) []).set (3 + i) (cacheOb cb p size []))[5 + i]? = some noOb := by
    rw [List.getElem?_set_ne (by omega)]
    rcases hi with rfl | rfl
    · show some (rObj r (a 0)) = _; rw [hai]; rfl
    · show some (rObj r (a 1)) = _; rw [hai]; rfl
  obtain ⟨c2, w2, g2⟩ := w1.step b5 (e2.kp _) (x' := rcOb c r size []) hr fun b hb => .inr hb.1
  have b0 : (((baseL x p r s s a a (a 0) (a 1) []).set (3 + i) (cacheOb cb p size [])).set (5 + i) (rcOb c r size []))[0]? = some (wOb x p r (a 0) (a 1) []) := by
    rw [List.getElem?_set_ne (by omega), List.getElem?_set_ne (by omega)]; rfl
  obtain ⟨⟨L', K', hc', o1, o2, o3⟩, _⟩ := w2.get b0
  have hLK := hc'.top
  rw [top] at hLK
  injection hLK with hLK
  injection hLK with hLK
  have eL : L = L' := by
    have h1 := (wd_get (p := p) (r := r) (a := a 0) (b := a 1) (l := L) (k := K)).2.2.2.2.2.2.1
    rw [hLK, (wd_get (p := p) (r := r) (a := a 0) (b := a 1) (l := L') (k := K')).2.2.2.2.2.2.1] at h1
    injection h1 with h1; exact h1.symm
  have eK : K = K' := by
    have h1 := (wd_get (p := p) (r := r) (a := a 0) (b := a 1) (l := L) (k := K)).2.2.2.2.2.2.2.1
    rw [hLK, (wd_get (p := p) (r := r) (a := a 0) (b := a 1) (l := L') (k := K')).2.2.2.2.2.2.2.1] at h1
    injection h1 with h1; exact h1.symm
  subst eL eK
  simp only [Nat.zero_add] at o1 o2 o3
  have hwd : (((wdC p r (a 0) (a 1) L K).setIfInBounds (2 + i) (ptrV cb)).setIfInBounds (4 + i) (ptrV c)) = wdC p r (updQ a i ⟨cb, c, size, []⟩ 0) (updQ a i ⟨cb, c, size, []⟩ 1) L K := by
    rcases hi with rfl | rfl <;> rfl
  rw [hwd] at g4
  have k24 : Kp (· = x) H2 H4 := k3.trans k4
  obtain ⟨c4, w4, g4'⟩ := w2.step b0 (H' := H4) (k24.mono fun b _ e => by rw [e]; exact o1) (x' := wOb x p r (updQ a i ⟨cb, c, size, []⟩ 0) (updQ a i ⟨cb, c, size, []⟩ 1) []) (O' := fun b => b = x ∨ blkOf L = some b ∨ blkOf K = some b)
    ⟨⟨L, K, ⟨g4, hc'.ls.kp k24 fun b hb e => hc'.d1 b hb e, hc'.ks.kp k24 fun b hb e => (hc'.d2 b hb).1 e, hc'.d1, hc'.d2⟩, .inl rfl, fun y e => .inr (.inl e), fun y e => .inr (.inr e)⟩, fun y hy => by
      rcases hy with h | h | h
      · rw [h]; exact Go.Vc.lt_of_block g4
      · have := hc'.ls.lt h; omega
      · have := hc'.ks.lt h; omega⟩ fun y hy => by
      rcases hy with h | h | h
      · rw [h]; exact .inl o1
      · exact .inl (o2 y h)
      · exact .inl (o3 y h)
  have hl : ((((baseL x p r s s a a (a 0) (a 1) []).set (3 + i) (cacheOb cb p size [])).set (5 + i) (rcOb c r size [])).set 0 (wOb x p r (updQ a i ⟨cb, c, size, []⟩ 0) (updQ a i ⟨cb, c, size, []⟩ 1) [])) = baseL x p r s s (updQ a i ⟨cb, c, size, []⟩) (updQ a i ⟨cb, c, size, []⟩) (updQ a i ⟨cb, c, size, []⟩ 0) (updQ a i ⟨cb, c, size, []⟩ 1) [] := by
    rcases hi with rfl | rfl <;> rfl
  rw [hl] at w4
  refine ⟨c4, ⟨w4, W.fit, W.lim, W.n, fun j y hy => ?_, ⟨rfl, rfl⟩, ⟨rfl, rfl⟩, Nat.le_refl _, fun t ht => (by cases ht)⟩, (g1.trans g2 e1.le).trans g4' (e1.trans e2).le, by have := e1.le; have := e2.le; omega, fun b hb h0 => ?_⟩
  · unfold updQ at hy
    split at hy
    · injection hy with hy; subst hy; exact ⟨Rw.nil hz.1, hz.2⟩
    · exact W.rw j y hy
  · have h2 : c2 b = 0 := by rw [g2 b (Nat.lt_of_lt_of_le hb e1.le), g1 b hb]; exact h0
    rw [k24.same b (Nat.lt_of_lt_of_le hb (e1.trans e2).le) fun e => by rw [e] at h2; omega]
    exact (e1.trans e2).same b hb
/-- None could be made: the world's cells are written with what stands there. -/
theorem none_step {H3 H4 : Hp} (W : WS col H x p r s a (a 0) (a 1) [] 0) (hi : i = 0 ∨ i = 1) (hai : a i = none) {L K : Value} (top : H[x]? = some (.cells (wdC p r (a 0) (a 1) L K) 41)) (k3 : Kp (· = x) H H3) (t3 : H3.size = H.size) (k4 : Kp (· = x) H3 H4) (t4 : H4.size = H3.size)
    (g4 : H4[x]? = some (.cells (((wdC p r (a 0) (a 1) L K).setIfInBounds (2 + i) (.pointer none)).setIfInBounds (4 + i) (.pointer none)) 41)) : Ext H H4 := by
  have hwd : (((wdC p r (a 0) (a 1) L K).setIfInBounds (2 + i) (.pointer none)).setIfInBounds (4 + i) (.pointer none)) = wdC p r (a 0) (a 1) L K := by
    rcases hi with rfl | rfl
    · rw [hai]; rfl
    · rw [hai]; rfl
  rw [hwd] at g4
  refine ⟨by omega, fun b hb => ?_⟩
  by_cases hbx : b = x
  · rw [hbx, g4, top]
  · exact (k3.trans k4).same b hb hbx
end

set_option maxHeartbeats 8000000 in
theorem law_plays {v0 v3 : Value} {fs : List Int} {ss : List Sp} {one two : Int} {H : Hp} {R : Value → Hp → Prop} (hfs : Sr 1 H v0 (u16s fs)) (hs : Sr 4 H v3 (ss.map Sp.c)) (hb : ∀ m ∈ ss, m.at_ ≤ 9223372036854775807) (hl : ss.length ≤ 1048576) (k : ∀ H', Ext H H' → R (.bool true) H') :
    Fc Try.prog 4 #[v0, .int .i64 one, .int .i64 two, v3] H R := by
  refine fn4 ?_
  simp only [sh4, Any_const]
  rw [hfs.lenE undU16s, u16s_len]
  refine Join.mk (fun t H' => t.1 = .bool (decide (¬ (1 ≤ fs.length ∧ fs.length ≤ 64))) ∧ H' = H) ?_ ?_
  · rintro ⟨t, u⟩ H0 ⟨ht, rfl⟩
    simp only at ht
    subst ht
    simp only [Ite_dec]
    refine ⟨fun _ => Xc.closedG simg5 ok5 fun H' e => k H' e, fun h => ?_⟩
    have hfl := Classical.not_not.1 h
    refine disks_ok hfs hfl.1 hfl.2 fun H1 p r s1 s2 Od e1 hd hOd gr hs1 hs2 hr0 hr1 hr2 => ?_
    have hrd := rd_load gr hs1 hs2 hr1 hr2
    have hrl := Go.Vc.lt_of_block gr
    clear gr hs1 hs2 hr1 hr2
    simp only [extractE, List.getElem?_toArray, List.getElem?_cons_zero, List.getElem?_cons_succ, Pu_some]
    refine Join.mk (fun t H' => t.1 = .bool false ∧ Ext H1 H') ?_ ?_
    · rintro ⟨t, u⟩ H2 ⟨ht, e2⟩
      simp only at ht
      subst ht
      simp only [Ite_false, build_w, build_two, zero_two, Pu_some]
      refine box_i fun x H3 hx e3 t3 g3 => ?_
      simp only [cells_agg] at g3
      have l1 := e1.le
      have l2 := e2.le
      have hlt3 := Go.Vc.lt_of_block g3
      have w3 := Wd.of_rank (H := H3) (l := baseL x p r (DS.load fs.length (ldP fs)) (DS.load fs.length (ldP fs)) (fun _ => none) (fun _ => none) none none []) H0.size (fun b => if b < r then 1 else if b < H2.size then 2 else 0) fun i X hX => by
        match i, hX with
        | 0, hX =>
          injection hX with hX; subst hX
          exact ⟨fun b => b = x, ⟨⟨_, _, ⟨g3, Sv.nil _ _ _, Sv.nil _ _ _, fun y e => (by cases e), fun y e => (by cases e)⟩, rfl, fun y e => (by cases e), fun y e => (by cases e)⟩, fun y e => by rw [e]; exact hlt3⟩, fun b e => ⟨by omega, by rw [if_neg (by omega), if_neg (by omega)]⟩⟩
        | 1, hX =>
          injection hX with hX; subst hX
          exact ⟨Od, hd.ext (e2.trans e3), fun b e => ⟨(hOd b e).1, if_pos (hOd b e).2⟩⟩
        | 2, hX =>
          injection hX with hX; subst hX
          exact ⟨_, hrd.ext (e2.trans e3), fun b e => ⟨by omega, by rw [if_neg (by omega), if_pos (by omega)]⟩⟩
        | 3, hX =>
          injection hX with hX; subst hX
          exact ⟨fun _ => False, fun b e => e.elim, fun b e => e.elim⟩
        | 4, hX =>
          injection hX with hX; subst hX
          exact ⟨fun _ => False, fun b e => e.elim, fun b e => e.elim⟩
        | 5, hX =>
          injection hX with hX; subst hX
          exact ⟨fun _ => False, fun b e => e.elim, fun b e => e.elim⟩
        | 6, hX =>
          injection hX with hX; subst hX
          exact ⟨fun _ => False, fun b e => e.elim, fun b e => e.elim⟩
        | i + 7, hX => simp [baseL, tdL] at hX
      generalize hcol : (fun b => if H0.size ≤ b ∧ b < H3.size then (if b < r then 1 else if b < H2.size then 2 else 0) + 1 else 0) = col3 at w3
      have z3 : ∀ b, b < H0.size → col3 b = 0 := fun b hb => by rw [← hcol]; exact if_neg (by omega)
      have E3 : Ext H0 H3 := (e1.trans e2).trans e3
      have W3 : WS col3 H3 x p r (DS.load fs.length (ldP fs)) (fun _ => none) none none [] 0 :=
        ⟨w3, load_fit, by omega, by show (fs.length : Int) ≤ _; omega, fun j y hy => (by cases hy), ⟨rfl, rfl⟩, ⟨rfl, rfl⟩, Nat.le_refl _, fun t ht => (by cases ht)⟩
      clear hcol w3 g3 hrd hd
      refine box_i fun y H4 hy e4 t4 g4 => ?_
      simp only [cells_agg] at g4
      refine storeAll_i g4 rfl rfl (by simp [Value.oneCell']) fun H5 k5 t5 g5 => ?_
      have e35 : Ext H3 H5 := e4.kpn k5 (by omega)
      have zy : col3 y = 0 := W3.wd.zero (by omega)
      have W5 := W3.ext e35
      have E5 : Ext H0 H5 := E3.trans e35
      refine LoopP.mk (fun t H' => ∃ (i : Nat) (a : Nat → Option C2) (col : Nat → Nat), t.1 = .int .i64 i ∧ i ≤ 2 ∧ WS col H' x p r (DS.load fs.length (ldP fs)) a (a 0) (a 1) [] 0 ∧ (∀ j, i ≤ j → a j = none) ∧ Qs H5 col3 H' col) (fun t _ => match t.1 with | .int _ i => ((2 : Int) - i).toNat | _ => 0) ⟨0, _, _, rfl, by omega, W5, fun _ _ => rfl, Qs.refl _ _⟩ ?_
      rintro ⟨t1, u1⟩ H8 ⟨i, a, col, ht, hi, W, hno, Q⟩
      simp only at ht
      subst ht
      simp only [binE_lss, Pu_some, Ite_dec]
      refine ⟨fun hlt => ?_, fun hge => ?_⟩
      · have hi2 : i = 0 ∨ i = 1 := by omega
        have hai := hno i (Nat.le_refl _)
        have g8 := Q.at g5 zy
        rw [idx_arr (by omega) (by omega)]
        simp only [Pu_some, Nat.zero_add, Int.toNat_natCast, Nat.mul_one, load_cell g8, sz_get hi2]
        have hnext : ∀ {H' : Hp} {a' : Nat → Option C2} {col' : Nat → Nat}, WS col' H' x p r (DS.load fs.length (ldP fs)) a' (a' 0) (a' 1) [] 0 → (∀ j, i + 1 ≤ j → a' j = none) → Qs H8 col H' col' → _ := fun {H' a' col'} w n q => (⟨i + 1, a', col', rfl, by omega, w, n, Q.trans q⟩ : ∃ (i' : Nat) (a : Nat → Option C2) (col : Nat → Nat), (Value.int .i64 ((i : Int) + 1)) = .int .i64 i' ∧ i' ≤ 2 ∧ WS col H' x p r (DS.load fs.length (ldP fs)) a (a 0) (a 1) [] 0 ∧ (∀ j, i' ≤ j → a j = none) ∧ Qs H5 col3 H' col)
        have hdec : ((2 : Int) - ((i : Int) + 1)).toNat < ((2 : Int) - i).toNat := by omega
        have hsg := sz_get (one := one) (two := two) hi2
        generalize sizeN one two i = size at hsg ⊢
        obtain ⟨L, K, hc, _, _, _⟩ := w_top W.wd
        have top := hc.top
        by_cases hz : 1 ≤ size ∧ size ≤ 4096
        · refine cache_new (W.wd.get (base_disk x p r _ _ _ _ _ _ _)) hz.1 hz.2 fun H9 cb e9 hc9 => ?_
          simp only [extractE, List.getElem?_toArray, List.getElem?_cons_zero, List.getElem?_cons_succ, Pu_some]
          simp only [Pu_some, Nat.zero_add, Int.toNat_natCast, Nat.mul_one, load_cell (e9.at g8), hsg]
          refine rc_new (fun _ _ H10 c e10 hc10 => ?_) (fun hbad => absurd hz hbad)
          simp only [extractE, List.getElem?_toArray, List.getElem?_cons_zero, List.getElem?_cons_succ, Pu_some]
          refine Join.mk (fun t H' => t.1 = .bool false ∧ H' = H10) ?_ ?_
          · rintro ⟨t, u⟩ H11 ⟨ht, rfl⟩
            simp only at ht
            subst ht
            have top10 := (e9.trans e10).at top
            simp only [Ite_false, nilCheckE, Pu_some, addr_ptr, Nat.zero_add]
            rw [idx_arr (by omega) (by omega)]
            simp only [Pu_some, Int.toNat_natCast, Nat.mul_one]
            refine store_i top10 (by show 2 + i < 8; omega) rfl rfl fun H12 k12 t12 g12 => ?_
            rw [idx_arr (by omega) (by omega)]
            simp only [Pu_some, Int.toNat_natCast, Nat.mul_one]
            refine store_i g12 (by rw [Array.size_setIfInBounds]; show 4 + i < 8; omega) rfl rfl fun H13 k13 t13 g13 => ?_
            rw [binE_add, i64wrap_id (by omega) (by omega), Pu_some]
            obtain ⟨col', W', Q'⟩ := new_step W hi2 hno hz e9 hc9 e10 hc10 top10 k12 t12 k13 t13 g13
            exact ⟨hnext W' (fun j hj => by unfold updQ; rw [if_neg (by omega)]; exact hno j (by omega)) Q', hdec⟩
          · simp only [binE_neq, Pu_some, Ite_dec]
            refine ⟨fun h => absurd rfl h, fun _ => ?_⟩
            rw [eqX_ptr undCa, Pu_some, eqX_ptr undRc, Pu_some, neb, Pu_some]
            exact ⟨rfl, trivial⟩
        · refine cache_bad (W.wd.get (base_disk x p r _ _ _ _ _ _ _)) hz ?_
          simp only [extractE, List.getElem?_toArray, List.getElem?_cons_zero, List.getElem?_cons_succ, Pu_some]
          simp only [Pu_some, Nat.zero_add, Int.toNat_natCast, Nat.mul_one, load_cell g8, hsg]
          refine rc_new (fun y1 y2 _ _ _ _ => absurd ⟨y1, y2⟩ hz) (fun _ => ?_)
          simp only [extractE, List.getElem?_toArray, List.getElem?_cons_zero, List.getElem?_cons_succ, Pu_some]
          refine Join.mk (fun t H' => t.1 = .bool false ∧ H' = H8) ?_ ?_
          · rintro ⟨t, u⟩ H11 ⟨ht, rfl⟩
            simp only at ht
            subst ht
            simp only [Ite_false, nilCheckE, Pu_some, addr_ptr, Nat.zero_add]
            rw [idx_arr (by omega) (by omega)]
            simp only [Pu_some, Int.toNat_natCast, Nat.mul_one]
            refine store_i top (by show 2 + i < 8; omega) rfl rfl fun H12 k12 t12 g12 => ?_
            rw [idx_arr (by omega) (by omega)]
            simp only [Pu_some, Int.toNat_natCast, Nat.mul_one]
            refine store_i g12 (by rw [Array.size_setIfInBounds]; show 4 + i < 8; omega) rfl rfl fun H13 k13 t13 g13 => ?_
            rw [binE_add, i64wrap_id (by omega) (by omega), Pu_some]
            have e13 := none_step W hi2 hai top k12 t12 k13 t13 g13
            exact ⟨hnext (W.ext e13) (fun j hj => hno j (by omega)) (e13.qs col), hdec⟩
          · simp only [binE_neq, Pu_some, Ite_dec]
            refine ⟨fun h => absurd rfl h, fun _ => ?_⟩
            rw [eqX_nil undCa, Pu_some, eqX_nil undRc, Pu_some, neb, Pu_some]
            exact ⟨rfl, trivial⟩
      · obtain rfl : i = 2 := by omega
        clear hno hge hlt3 g4 g5 k5
        generalize a 0 = w0 at W
        generalize a 1 = w1 at W
        rw [hs.lenE undSps, List.length_map]
        simp only [Pu_some]
        refine LoopP.mk (fun t H' => ∃ (i : Nat) (s : DS) (a : Nat → Option C2) (tl : List Td) (col : Nat → Nat), t.1 = .int .i64 i ∧ i ≤ ss.length ∧ WS col H' x p r s a w0 w1 tl i ∧ Qs H5 col3 H' col) (fun t _ => match t.1 with | .int _ i => ((ss.length : Int) - i).toNat | _ => 0) ⟨0, _, _, _, _, rfl, by omega, W, Q⟩ ?_
        clear W Q
        rintro ⟨t1, u1⟩ H14 ⟨i, s, a, tl, col, ht, hi, W, Q⟩
        simp only at ht
        subst ht
        simp only [binE_lss, Pu_some, Ite_dec]
        refine ⟨fun hlt => ?_, fun hge => ?_⟩
        · have hx := List.getElem?_eq_getElem (l := ss) (i := i) (by omega)
          have hxb := hb _ (List.getElem_mem (l := ss) (n := i) (by omega))
          generalize ss[i]'_ = m at hx hxb
          have hsx : (ss.map Sp.c)[i]? = some m.c := by rw [List.getElem?_map, hx]; rfl
          obtain ⟨bs, os, hadr, hrow⟩ := (hs.ext (Qs.ext E5 z3 Q)).row hsx
          simp only [hadr, hrow, Pu_some]
          refine step_ok W (by omega) hxb fun H' col' s' a' tl' W' Q' => ?_
          simp only [unE_not, Pu_some, Bool.not_true, Ite_false]
          rw [binE_add, i64wrap_id (by omega) (by omega), Pu_some]
          exact ⟨⟨i + 1, s', a', tl', col', rfl, by omega, W', Q.trans Q'⟩, by show ((ss.length : Int) - (i + 1)).toNat < ((ss.length : Int) - i).toNat; omega⟩
        · refine LoopP.mk (fun t H' => ∃ (j : Nat) (s : DS) (a : Nat → Option C2) (tl : List Td) (kf : Nat) (col : Nat → Nat), t.1 = .int .i64 j ∧ j ≤ 2 ∧ kf ≤ 1048576 + 2 * j ∧ WS col H' x p r s a w0 w1 tl kf ∧ Qs H5 col3 H' col) (fun t _ => match t.1 with | .int _ i => ((2 : Int) - i).toNat | _ => 0) ⟨0, _, _, _, i, _, rfl, by omega, by omega, W, Q⟩ ?_
          clear W Q
          rintro ⟨t1, u1⟩ H16 ⟨j, s, a, tl, kf, col, ht, hj, hkf, W, Q⟩
          simp only at ht
          subst ht
          simp only [binE_lss, Pu_some, Ite_dec]
          refine ⟨fun hlt => ?_, fun hge => ?_⟩
          · have hn : j = 0 ∨ j = 1 := by omega
            refine Join.mk (fun t H' => t.1 = .bool false ∧ ∃ (s : DS) (a : Nat → Option C2) (tl : List Td) (kf : Nat) (col : Nat → Nat), kf ≤ 1048576 + 2 * (j + 1) ∧ WS col H' x p r s a w0 w1 tl kf ∧ Qs H5 col3 H' col) ?_ ?_
            · rintro ⟨t, u⟩ H17 ⟨ht, s', a', tl', kf', col', hk', W', Q'⟩
              simp only at ht
              subst ht
              simp only [Ite_false]
              rw [binE_add, i64wrap_id (by omega) (by omega), Pu_some]
              exact ⟨⟨j + 1, s', a', tl', kf', col', rfl, by omega, hk', W', Q'⟩, by show ((2 : Int) - (j + 1)).toNat < ((2 : Int) - j).toNat; omega⟩
            · simp only [nilCheckE, Pu_some, addr_ptr, Nat.zero_add]
              rw [idx_arr (by omega) (by omega)]
              simp only [Pu_some, Int.toNat_natCast, Nat.mul_one, W.c hn]
              cases ha : a j with
              | none =>
                simp only [cVal]
                rw [neX_nil undCa, Pu_some, Ite_false]
                exact ⟨trivial, s, a, tl, kf, col, by omega, W, Q⟩
              | some q =>
                simp only [cVal]
                rw [neX_ptr undCa, Pu_some, Ite_true, build_s2, Pu_some]
                refine ask_ok W (by omega) hn ha fun H18 c18 s18 a18 tl18 W18 Q18 => ?_
                simp only [unE_not, Pu_some, Bool.not_true, Ite_false, build_s4]
                have hcv : cVal (a18 j) = cVal (a j) := by
                  rcases hn with rfl | rfl
                  · rw [← W18.c0.1, W.c0.1]
                  · rw [← W18.c1.1, W.c1.1]
                cases ha2 : a18 j with
                | none => rw [ha2, ha] at hcv; cases hcv
                | some q2 =>
                  refine ask_ok W18 (by omega) hn ha2 fun H19 c19 s19 a19 tl19 W19 Q19 => ?_
                  simp only [unE_not, Pu_some, Bool.not_true]
                  exact ⟨trivial, s19, a19, tl19, _, c19, by omega, W19, Q.trans (Q18.trans Q19)⟩
          · obtain ⟨⟨ra, rb, nows, helds, hrc, _⟩, _⟩ : RD H16 r s _ := W.wd.get (base_rd x p r _ _ _ _ _ _ _)
            have rtop := hrc.top
            obtain ⟨L, K, hcW, _⟩ := w_top W.wd
            have wtop := hcW.top
            clear hrc hcW
            simp only [nilCheckE, Pu_some, addr_ptr, Nat.zero_add, load_cell rtop, rd_get, ForX_true]
            repeat' first | exact trivial | apply And.intro
            all_goals
              intro H17 e17
              refine disk_reads ((W.wd.ext e17).get (base_disk x p r _ _ _ _ _ _ _)) ?_
              simp only [load_cell (e17.at rtop), rd_get, binE_eql, Pu_some, decide_true, Ite_true, nilCheckE, addr_ptr, Nat.zero_add]
              repeat' first | exact trivial | apply And.intro
              all_goals
                intro H18 e18
                have e28 := e17.trans e18
                refine disk_made ((W.wd.ext e28).get (base_disk x p r _ _ _ _ _ _ _)) ?_
                simp only [load_cell (e28.at rtop), rd_get, binE_eql, Pu_some, decide_true, Ite_true, nilCheckE, addr_ptr, Nat.zero_add]
                repeat' first | exact trivial | apply And.intro
                all_goals
                  intro H19 e19
                  have e29 := e28.trans e19
                  refine disk_stopped ((W.wd.ext e29).get (base_disk x p r _ _ _ _ _ _ _)) ?_
                  simp only [load_cell (e29.at rtop), load_cell (e29.at wtop), rd_get, wd_get, binE_eqb, beq_self_eq_true, Pu_some, Ite_true, nilCheckE, addr_ptr, Nat.zero_add]
                  intro H20 e20
                  have e30 := e29.trans e20
                  refine (W.ext e30).still (fun H21 c21 Q21 => ?_) (by rw [load_cell (e30.at wtop)]; exact wd_get.2.2.2.2.2.2.1) (by rw [load_cell (e30.at wtop)]; exact wd_get.2.2.2.2.2.2.2.1)
                  intro H22 e22
                  exact k H22 ((Qs.ext E5 z3 (Q.trans ((e30.qs col).trans Q21))).trans e22)
    · simp only [unE_not, Pu_some, Bool.not_true, Ite_false]
      refine Xc.closedG simg5 ok5 fun H28 e28 => ?_
      simp only [unE_not, Pu_some, Bool.not_true]
      exact ⟨trivial, e28⟩
  · simp only [Pu_some, binE_gtr, binE_eql, Ite_dec]
    refine ⟨fun h => ⟨by rw [decide_eq_true (by omega)], trivial⟩, fun h => ⟨?_, trivial⟩⟩
    congr 1
    rw [decide_eq_decide]; omega
end Go.Vc
