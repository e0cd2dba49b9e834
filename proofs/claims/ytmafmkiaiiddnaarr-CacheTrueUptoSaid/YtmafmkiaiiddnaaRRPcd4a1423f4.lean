/- Parts of a proof, joined in build order: a calculus of contracts, an executor, contracts of functions. -/
import Derived.Test.YtmafmkiaiiddnaaRRP40b9f8b5b9
import Derived.WalkKit
import Derived.ProofKit
import Derived.OpenShut
import Derived.OpenVars
import Derived.Test.YtmafmkiaiiddnaaRRP04bc573cfb
import Derived.Test.YtmafmkiaiiddnaaRRPf8dad8765c
import Derived.Test.YtmafmkiaiiddnaaRRPa13c0b7adc
/- Vc, part K: from a function's contract to the row of a law that comes out true and leaves its input as it was. -/
set_option linter.unusedVariables false
set_option linter.unusedSimpArgs false
namespace Go.Vc
open Go.ChangeShapes Go.WideShapes Go.ChangeAt Go.RowKit

theorem Fc.calls {P : Program} {f : FuncId} {args : Array Value} {W : World} {R : Value → Hp → Prop} (h : Fc P f args W.heap R) :
    Calls P f args W fun e W' => ∃ v, e = .returned v ∧ R v W'.heap ∧ Sm W W' :=
  callsIn_wide.1 (h W rfl)

theorem below_of {W W' : World} (hs : Sm W W') (hx : Ext W.heap W'.heap) : Below W.heap.size W W' :=
  ⟨hs.os, hs.tape, hs.out, hx.le, hx.same⟩

section
variable {H : Type} {enc : TypeId × Value → H} {P : Program}
theorem trodAll_below (hl : laidOutB P = true) {W W' : World} (hb : Below W.heap.size W W') : ∀ {ts : List TypeId} {vs : List Value} {ds : List (DataW H)} {ps : List MemPlace},
    (ts.all fun t => P.readableRec t && decide (t < P.types.size)) = true → DataW.TrodAll enc P W 0 (fun _ => true) true ts vs ds ps → (∀ x ∈ ps, x.block < W.heap.size) →
    DataW.TrodAll enc P W' 0 (fun b => decide (b < W.heap.size)) true ts vs ds ps
  | [], vs, ds, ps, _, h, _ => by
    cases vs <;> cases ds <;> first | exact h | exact h.elim
  | t :: ts, [], _, _, _, h, _ => by simp [DataW.TrodAll] at h
  | t :: ts, v :: vs, [], _, _, h, _ => by simp [DataW.TrodAll] at h
  | t :: ts, v :: vs, d :: ds, ps, hr, h, hlt => by
    obtain ⟨p, p', h1, h2, rfl⟩ := h
    simp only [List.all_cons, Bool.and_eq_true, decide_eq_true_eq] at hr
    exact ⟨p, p', Below.trod hl hr.1.1 hr.1.2 h1 hb (fun x hx => hlt x (by simp [hx])), trodAll_below hl hb hr.2 h2 (fun x hx => hlt x (by simp [hx])), rfl⟩

theorem trodAll_len {w : World} {b : Nat} {sp : Nat → Bool} {hd : Bool} : ∀ {ts : List TypeId} {vs : List Value} {ds : List (DataW H)} {ps : List MemPlace}, DataW.TrodAll enc P w b sp hd ts vs ds ps → ds.length = ts.length
  | [], [], [], _, _ => rfl
  | [], [], _ :: _, _, h => by simp [DataW.TrodAll] at h
  | [], _ :: _, _, _, h => by simp [DataW.TrodAll] at h
  | _ :: _, [], _, _, h => by simp [DataW.TrodAll] at h
  | _ :: _, _ :: _, [], _, h => by simp [DataW.TrodAll] at h
  | _ :: ts, _ :: vs, _ :: ds, _, h => by
    obtain ⟨_, _, _, hs, _⟩ := h
    simp [trodAll_len hs]
theorem trodVars_len {w : World} {sp : Nat → Bool} : ∀ {ns : List String} {gs : List (DataW H)} {ps : List MemPlace}, DataW.TrodVars enc P w sp ns gs ps → gs.length = ns.length
  | [], [], _, _ => rfl
  | [], _ :: _, _, h => by simp [DataW.TrodVars] at h
  | _ :: _, [], _, h => by simp [DataW.TrodVars] at h
  | _ :: ns, _ :: gs, _, h => by
    obtain ⟨_, _, _, _, _, _, _, _, _, _, hs, _⟩ := h
    simp [trodVars_len hs]

/-- The law's post: true, the arguments and variables as they were. -/
theorem law_post {f : Func} {s : ChangeSpec} {fresh handsOn : Bool} {W W' : World} {args : Array Value} {ds gs : List (DataW H)} {before : List MemPlace} {t : TypeId}
    (hl : laidOutB P = true) (ht : P.underlying t = some .bool) (hr : f.resultTypes = #[t])
    (hps : (f.params.toList.all fun t => P.readableRec t && decide (t < P.types.size)) = true) (hvs : varsRowed P s.vars = true)
    (hW : DataW.Whole enc P f.params.toList s.vars false W args.toList ds gs before)
    (hspec : ds.length = f.params.size → gs.length = s.vars.length → s.fn H (ds ++ gs) = { results := [.lit (.bool true)], args := ds, vars := gs })
    (hs : Sm W W') (hx : Ext W.heap W'.heap) : s.post enc P f false fresh handsOn false W args (.bool true) W' := by
  have hb := below_of hs hx
  have hlt := hW.lt
  have hW0 := hW
  obtain ⟨p, q, hA, hV, rfl, hz, hn⟩ := hW0
  have e1 : ds.length = f.params.size := by rw [trodAll_len hA]; simp
  have e2 : gs.length = s.vars.length := trodVars_len hV
  have e := hspec e1 e2
  refine ⟨ds, gs, p ++ q, [], p, q, hW, ?_, ?_, ?_, hb.frame _, fun h => by cases h⟩
  · rw [e, hr]
    exact trodAll_mk1 (shut_bool ht true)
  · rw [e]
    exact trodAll_below hl hb hps hA (fun x hx => hlt x (by simp [hx]))
  · rw [e]
    exact hb.trodVars hl hvs hV

/-- The cells of an argument that is a struct or an array. -/
theorem cells_of {W : World} {r : Reach} {base n : Nat} {t : TypeId} {v : Value} {d : TypeDesc} {ts : List TypeId} (ht : P.underlying t = some d) (hd : (match d with | .struct _ | .array _ _ => true | _ => false) = true)
    (hc : P.cellsOf t = n) (hts : P.cellTypes P.depth t = some ts) (hn : ts.length = n) (h : Value.okWide P W r base t v) :
    ∃ cs : Array Value, v = .agg cs ∧ cs.size = n ∧ ∀ (i : Nat) (u : TypeId), ts[i]? = some u → ∃ x, cs[i]? = some x ∧ Cell.okWide P W r base u x := by
  have h' : ∃ cs, v = .agg cs ∧ cs.size = P.cellsOf t ∧ Row.okWide P W r base t cs := by
    unfold Value.okWide at h
    rw [ht] at h
    cases d <;> first | exact h | cases hd
  obtain ⟨cs, rfl, hsz, ts', hts', _, hcell⟩ := h'
  have e : ts' = ts := Option.some.inj (hts'.symm.trans hts)
  subst e
  refine ⟨cs, rfl, by rw [hsz, hc], fun i u hu => ?_⟩
  have hi : i < ts'.length := by
    rcases Nat.lt_or_ge i ts'.length with h1 | h1
    · exact h1
    · rw [List.getElem?_eq_none h1] at hu; cases hu
  have hi2 : i < cs.size := by rw [hsz, hc, ← hn]; exact hi
  refine ⟨cs[i], Array.getElem?_eq_getElem hi2, ?_⟩
  obtain ⟨u', hu', hok⟩ := hcell i _ (Array.getElem?_eq_getElem hi2)
  rw [Nat.mod_eq_of_lt hi, hu] at hu'
  injection hu' with hu'
  subst hu'
  exact hok
theorem okWide_cells {W : World} {r : Reach} {base n : Nat} {t : TypeId} {d : TypeDesc} {ts : List TypeId} {cs : Array Value} (ht : P.underlying t = some d) (hd : (match d with | .struct _ | .array _ _ => true | _ => false) = true)
    (hc : P.cellsOf t = n) (hts : P.cellTypes P.depth t = some ts) (hn : ts.length = n) (hsz : cs.size = n) (hcell : ∀ (i : Nat) (u : TypeId), ts[i]? = some u → ∃ x, cs[i]? = some x ∧ Cell.okWide P W r base u x) : Value.okWide P W r base t (.agg cs) := by
  have h' : ∃ cs', Value.agg cs = .agg cs' ∧ cs'.size = P.cellsOf t ∧ Row.okWide P W r base t cs' := by
    refine ⟨cs, rfl, by rw [hsz, hc], ts, hts, ⟨1, by rw [hsz, hn, Nat.one_mul]⟩, fun i v hv => ?_⟩
    have hi : i < cs.size := by
      rcases Nat.lt_or_ge i cs.size with h1 | h1
      · exact h1
      · rw [Array.getElem?_eq_none h1] at hv; cases hv
    have hi2 : i < ts.length := by rw [hn, ← hsz]; exact hi
    obtain ⟨x, hx, hok⟩ := hcell i ts[i] (List.getElem?_eq_getElem hi2)
    rw [hv] at hx
    injection hx with hx
    subst hx
    exact ⟨ts[i], by rw [Nat.mod_eq_of_lt hi2]; exact List.getElem?_eq_getElem hi2, hok⟩
  unfold Value.okWide
  rw [ht]
  cases d <;> first | exact h' | cases hd
theorem cell_int_ok {W : World} {r : Reach} {base : Nat} {u : TypeId} {k : IntKind} {n : Int} (hu : P.underlying u = some (.int k)) (h0 : k.min ≤ n) (h1 : n ≤ k.max) : Cell.okWide P W r base u (.int k n) := by
  simp [Cell.okWide, hu, Cell.ok, IntKind.has, h0, h1]
theorem cell_bool_ok {W : World} {r : Reach} {base : Nat} {u : TypeId} {b : Bool} (hu : P.underlying u = some .bool) : Cell.okWide P W r base u (.bool b) := by
  simp [Cell.okWide, hu, Cell.ok]

/-- A world in which the row's conditions are met, the arguments' fitness given by hand. -/
theorem witness_hand {C : Checked} {os : Os} {f : FuncId} {fn : Func} {s : ChangeSpec} {conds : List PathCond} {apart : Bool} (args : Array Value) (fuel : Nat)
    (hv : (World.plainHolding C.prog os ⟨#[], args, []⟩).variablesB C.prog = true)
    (hr : ((World.plainHolding C.prog os ⟨#[], args, []⟩).heap.toList.drop C.prog.globals.size).take ((begin C.prog (fun _ _ => 0) default).world.heap.size - C.prog.globals.size) =
      (begin C.prog (fun _ _ => 0) default).world.heap.toList.drop C.prog.globals.size)
    (hfn : C.prog.funcs[f]? = some fn) (h1 : C.prog.inits.idxOf? f = none) (h2 : fn.body.isSome = true ∧ fn.ours = false ∧ fn.nfree = 0 ∧ args.size = fn.params.size)
    (hargs : ∀ (W : World) (base : Nat) (j : Nat) (t : TypeId) (v : Value), fn.params[j]? = some t → args[j]? = some v → Value.okWide C.prog W .any base t v)
    (hpre : s.preB enc C.prog fn conds apart (World.plainHolding C.prog os ⟨#[], args, []⟩).memory args fuel = true)
    (hsz : s.sizedB enc C.prog fn apart (World.plainHolding C.prog os ⟨#[], args, []⟩).memory args fuel = true) :
    ∃ (w : World) (tape : Tape) (i : Input), w.os = os ∧ (w.forCall tape i).Shaped C.prog ∧ i.vars = [] ∧ Input.okWide C.prog (w.forCall tape i) .any w.heap.size f i ∧
      s.pre6 enc C.prog fn conds apart (w.forCall tape i).memory i.args ∧ ({} : Assume).holds C.prog (lone (Frame.enter C.prog f i.args .normal) [] (w.forCall tape i)) :=
  ⟨World.holding C.prog os ⟨#[], args, []⟩, fun _ _ => 0, ⟨#[], args, []⟩, rfl, World.shaped_of_B hv hr, rfl,
    ⟨fun o ho => by simp at ho, fun gv hgv => by simp at hgv, h1, fn, hfn, h2.1, h2.2.1, h2.2.2.1, h2.2.2.2, hargs _ _⟩, ⟨ChangeSpec.pre_of_preB hpre, sizedMet_of_sizedB hsz⟩, by
    simp only [Assume.holds]
    exact ⟨by simp, by simp, fun _ => Modest.zero, by simp, by simp⟩⟩
theorem cell_int {W : World} {r : Reach} {base : Nat} {u : TypeId} {k : IntKind} {x : Value} (hu : P.underlying u = some (.int k)) (h : Cell.okWide P W r base u x) : ∃ n, x = .int k n ∧ k.min ≤ n ∧ n ≤ k.max := by
  simp only [Cell.okWide, hu] at h
  cases x <;> simp_all [Cell.ok, IntKind.has]
theorem cell_bool {W : World} {r : Reach} {base : Nat} {u : TypeId} {x : Value} (hu : P.underlying u = some .bool) (h : Cell.okWide P W r base u x) : ∃ b, x = .bool b := by
  simp only [Cell.okWide, hu] at h
  cases x <;> simp_all [Cell.ok]
end
theorem min_i64 : IntKind.i64.min = -9223372036854775808 := by decide
theorem max_i64 : IntKind.i64.max = 9223372036854775807 := by decide
theorem min_u8 : IntKind.u8.min = 0 := by decide
theorem max_u8 : IntKind.u8.max = 255 := by decide
end Go.Vc

/- Ft, part F: CacheTrue: the walk. -/
set_option linter.unusedVariables false
set_option linter.unusedSimpArgs false
namespace Go.Vc
open Go.Proofs

/-- A step. -/
structure St where
  do_ : Int
  sec : Bool
  at_ : Int
  fill : Int
def St.c (x : St) : Array Value := #[.int .u8 x.do_, .bool x.sec, .int .i64 x.at_, .int .u16 x.fill]
theorem undSts : Try.prog.underlying 43 = some (.slice 50) := by kernel_rfl
def u16A (f : Int → Int) : Array Value := ((List.range 16).map fun (i : Nat) => Value.int .u16 (f i)).toArray
def boolA (f : Int → Bool) : Array Value := ((List.range 16).map fun (i : Nat) => Value.bool (f i)).toArray
theorem u16A_size (f : Int → Int) : (u16A f).size = 16 := by simp [u16A]
theorem boolA_size (f : Int → Bool) : (boolA f).size = 16 := by simp [boolA]
theorem u16A_get (f : Int → Int) {i : Nat} (h : i < 16) : (u16A f)[i]? = some (.int .u16 (f i)) := by simp [u16A, h]
theorem boolA_get (f : Int → Bool) {i : Nat} (h : i < 16) : (boolA f)[i]? = some (.bool (f i)) := by simp [boolA, h]
theorem u16A_set (f : Int → Int) {i : Nat} {x : Int} (h : i < 16) : (u16A f).setIfInBounds i (.int .u16 x) = u16A (updI f i x) := by
  apply Array.ext_getElem?
  intro j
  rw [Array.getElem?_setIfInBounds, u16A_size]
  by_cases hj : j < 16
  · rw [u16A_get _ hj, u16A_get _ hj]
    unfold updI
    by_cases hij : i = j
    · subst hij; rw [if_pos rfl, if_pos h, if_pos rfl]
    · rw [if_neg hij, if_neg (by omega)]
  · have e : ∀ f, (u16A f)[j]? = none := fun f => Array.getElem?_eq_none (by rw [u16A_size]; omega)
    rw [e, e]
    split
    · omega
    · rfl
theorem boolA_set (f : Int → Bool) {i : Nat} {x : Bool} (h : i < 16) : (boolA f).setIfInBounds i (.bool x) = boolA (updI f i x) := by
  apply Array.ext_getElem?
  intro j
  rw [Array.getElem?_setIfInBounds, boolA_size]
  by_cases hj : j < 16
  · rw [boolA_get _ hj, boolA_get _ hj]
    unfold updI
    by_cases hij : i = j
    · subst hij; rw [if_pos rfl, if_pos h, if_pos rfl]
    · rw [if_neg hij, if_neg (by omega)]
  · have e : ∀ f, (boolA f)[j]? = none := fun f => Array.getElem?_eq_none (by rw [boolA_size]; omega)
    rw [e, e]
    split
    · omega
    · rfl
theorem zero16 : zeroE Try.prog 42 = some (.agg (u16A fun _ => 0)) := by kernel_rfl
theorem zero16b : zeroE Try.prog 48 = some (.agg (boolA fun _ => false)) := by kernel_rfl
theorem slice16 (b : Nat) : sliceE Try.prog 42 (.pointer (some ⟨b, 0, none⟩)) none none none = some (.slice (some ⟨b, 0, none⟩) 16 16) := by kernel_rfl
theorem u16A_ok (f : Int → Int) : cellsOk (u16A f) := by
  unfold cellsOk
  rw [Array.all_eq_true]
  intro i hi
  have h1 := u16A_get f (i := i) (by rw [u16A_size] at hi; exact hi)
  rw [Array.getElem?_eq_getElem hi] at h1
  injection h1 with h1
  rw [h1]; rfl

section
variable {F : Nat → Prop} {H : Hp} {p cb : Nat} {size : Int} {s : DS} {cs : List Pl} {R : Value → Hp → Prop}
theorem CW.dread (h : CW F H p cb size s cs) (hr : s.reads < 4611686018427387904 ∧ 0 ≤ s.reads) {a : Int}
    (k : ∀ H', Frm F H H' → CW F H' p cb size (s.read a).1 cs → R (.tuple #[.agg (s.read a).2.1, .int .i64 (s.read a).2.2]) H') :
    Fc Try.prog 19 #[ptrV p, .int .i64 a] H R := by
  obtain ⟨Od, Oc, hd, hc, dis, hF⟩ := h
  refine disk_read hd hr fun H' st hd' => k H' ⟨st.kp.le, fun b hb => st.kp.same b (hF b hb).1 (hF b hb).2.1⟩ ⟨Od, Oc, hd', hc.of (fun b hb => st.kp.same b (hc.lt b hb) fun ho => dis b ho hb) st.kp.le, dis, fun b hb => ⟨Nat.lt_of_lt_of_le (hF b hb).1 st.kp.le, (hF b hb).2⟩⟩
theorem CW.nowB (h : CW F H p cb size s cs) (k : Int) : IsB (s.now k) := by
  obtain ⟨Od, Oc, hd, hc, dis, hF⟩ := h
  exact hd.now_is k
end

/-- What stands at a step's beginning, and behind it. -/
structure TW (H0 H : Hp) (p cb b1 b2 b3 : Nat) (size : Nat) (s : DS) (cs : List Pl) (book out : Int → Int) (fast : Int → Bool) (held writes : Int) (n : Nat) : Prop where
  inv : TInv filB size s cs book out fast held writes
  w : CW (fun b => ((b < H0.size ∨ b = b1) ∨ b = b2) ∨ b = b3) H p cb size s cs
  e : Ext H0 H
  g1 : H[b1]? = some (.cells (u16A book) 42)
  g2 : H[b2]? = some (.cells (u16A out) 42)
  g3 : H[b3]? = some (.cells (boolA fast) 48)
  ne : H0.size ≤ b1 ∧ b1 < b2 ∧ b2 < b3
  wr : 0 ≤ writes ∧ writes ≤ n
  rd : 0 ≤ s.reads ∧ s.reads ≤ n
  pl : s.pl ≤ n ∧ s.hl ≤ n
section
variable {H0 H H' : Hp} {p cb b1 b2 b3 size n : Nat} {s : DS} {cs : List Pl} {book out : Int → Int} {fast : Int → Bool} {held writes : Int}
theorem TW.ext (h : TW H0 H p cb b1 b2 b3 size s cs book out fast held writes n) (e : Ext H H') : TW H0 H' p cb b1 b2 b3 size s cs book out fast held writes n :=
  { h with w := h.w.ext e, e := h.e.trans e, g1 := e.at h.g1, g2 := e.at h.g2, g3 := e.at h.g3 }
theorem TW.mono (h : TW H0 H p cb b1 b2 b3 size s cs book out fast held writes n) {m : Nat} (hm : n ≤ m) : TW H0 H p cb b1 b2 b3 size s cs book out fast held writes m :=
  { h with wr := ⟨h.wr.1, by have := h.wr.2; omega⟩, rd := ⟨h.rd.1, by have := h.rd.2; omega⟩, pl := ⟨by have := h.pl.1; omega, by have := h.pl.2; omega⟩ }
theorem TW.frm (h : TW H0 H p cb b1 b2 b3 size s cs book out fast held writes n) (f : Frm (fun b => ((b < H0.size ∨ b = b1) ∨ b = b2) ∨ b = b3) H H') {s' : DS} {cs' : List Pl} (w : CW (fun b => ((b < H0.size ∨ b = b1) ∨ b = b2) ∨ b = b3) H' p cb size s' cs') {fast' : Int → Bool} {book' out' : Int → Int} {held' writes' : Int}
    (i : TInv filB size s' cs' book' out' fast' held' writes') {m : Nat} (wr : 0 ≤ writes' ∧ writes' ≤ m) (rd : 0 ≤ s'.reads ∧ s'.reads ≤ m) (pl : s'.pl ≤ m ∧ s'.hl ≤ m) (hb : book' = book) (ho : out' = out) (hf : fast' = fast) : TW H0 H' p cb b1 b2 b3 size s' cs' book' out' fast' held' writes' m := by
  subst hb ho hf
  exact ⟨i, w, f.ext_of h.e fun b hb => .inl (.inl (.inl hb)), f.at h.g1 (.inl (.inl (.inr rfl))), f.at h.g2 (.inl (.inr rfl)), f.at h.g3 (.inr rfl), h.ne, wr, rd, pl⟩
end
theorem deq {a : Int} : decide (a = a) = true := decide_eq_true rfl
theorem dne {a : Int} : decide (a ≠ a) = false := decide_eq_false fun h => h rfl
theorem zq1 : decide ((0 : Int) = 160) = false := rfl
theorem zq2 : decide ((160 : Int) = 0) = false := rfl
theorem zq3 : decide ((160 : Int) ≠ 0) = true := rfl
theorem zq4 : decide ((0 : Int) ≠ 160) = true := rfl
theorem binE_neb' (x y : Bool) : binE (some .bool) .neq (.bool x) (.bool y) = some (.bool (!(x == y))) := rfl
theorem bb1 : (!(true == true)) = false := rfl
theorem bb2 : (!(false == false)) = false := rfl
theorem eqBlk {c : Blk} (hc : IsB c) {lit : Bool} {H : Hp} : eqXE Try.prog 33 lit .neq (.agg c) (.agg c) H = some (.bool false) := by
  rw [eqXE_neq, eqB_true rowB hc]; rfl

set_option maxHeartbeats 8000000 in
theorem law_true {x : Int} {v : Value} {fs : List Int} {ss : List St} {H : Hp} {R : Value → Hp → Prop} (hfs : fs.length = 16) (hs : Sr 4 H v (ss.map St.c)) (hb : ∀ m ∈ ss, 0 ≤ m.do_ ∧ m.do_ < 256) (hl : ss.length ≤ 1048576) (k : ∀ H', Ext H H' → R (.bool true) H') :
    Fc Try.prog 4 #[.agg (u16A fun k => fs.getD k.toNat 0), .int .i64 x, v] H R := by
  refine fn4 ?_
  simp only [sh4, Any_const]
  refine box_i fun b1 H1 hb1 e1 t1 g1 => ?_
  simp only [cells_agg] at g1
  simp only [slice16, Pu_some]
  have hsr : Sr 1 H1 (.slice (some ⟨b1, 0, none⟩) 16 16) (u16s fs) := by
    refine ⟨some ⟨b1, 0, none⟩, 16, by rw [u16s_len, hfs], by rw [u16s_len, hfs]; exact Nat.le_refl _, fun _ => ⟨b1, 0, rfl, fun i w hi => ?_⟩⟩
    have hil : i < 16 := by
      rcases Nat.lt_or_ge i (u16s fs).length with h1 | h1
      · rw [u16s_len, hfs] at h1; exact h1
      · rw [List.getElem?_eq_none h1] at hi; cases hi
    have hfi := List.getElem?_eq_getElem (l := fs) (i := i) (by omega)
    rw [u16s_get hfi] at hi
    injection hi with hi
    subst hi
    unfold rowH
    simp only [g1]
    rw [if_pos ⟨trivial, by rw [u16A_size]; omega⟩]
    congr 1
    refine ext_of_get rfl (by rw [u16A_size]; omega) fun j hj => ?_
    obtain rfl : j = 0 := by omega
    rw [show 0 + i * 1 + 0 = i by omega, u16A_get _ hil]
    simp only [Int.toNat_natCast, List.getD_eq_getElem?_getD, hfi, Option.getD_some]
    rfl
  refine disks_ok hsr (by omega) (by omega) fun H2 p r s1 s2 Od e2 hd hOd gr hs1 hs2 hr0 hr1 hr2 => ?_
  rw [hfs] at hd
  have e12 := e1.trans e2
  have g12 := e2.at g1
  simp only [extractE, List.getElem?_toArray, List.getElem?_cons_zero, List.getElem?_cons_succ, Pu_some]
  refine place_ok (by decide) (by decide) fun q q0 q1 => ?_
  simp only [binE_add, Pu_some]
  rw [i64wrap_id (by omega) (by omega)]
  obtain ⟨n, hn⟩ : ∃ n : Nat, (1 + q) = (n : Int) := ⟨(1 + q).toNat, by omega⟩
  rw [hn]
  have hn1 : 1 ≤ n ∧ n ≤ 8 := by omega
  have hw : DW (fun b => b < H1.size) H2 p (DS.load 16 (ldP fs)) := ⟨Od, hd, fun b hb => ⟨Nat.lt_of_lt_of_le hb e2.le, fun h => by have := (hOd b h).1; omega⟩⟩
  refine Join.mk (fun t H' => t.1 = .bool false ∧ Ext H2 H') ?_ ?_
  · rintro ⟨t, u⟩ H3 ⟨ht, e3⟩
    simp only at ht
    subst ht
    simp only [Ite_false]
    refine (hw.ext e3).cache (size := n) (by omega) (by omega) fun H4 cb e4 hc4 => ?_
    simp only [List.getElem?_toArray, List.getElem?_cons_zero, List.getElem?_cons_succ, Pu_some]
    refine Join.mk (fun t H' => t.1 = .bool false ∧ H' = H4) ?_ ?_
    · rintro ⟨t, u⟩ H5 ⟨ht, rfl⟩
      simp only at ht
      subst ht
      have e5 : Ext H H5 := e12.trans (e3.trans e4)
      have g5 := (e3.trans e4).at g12
      have hl5 := load_all g5 (u16A_size _)
      simp only [Ite_false, hl5, Pu_some, zero16]
      refine box_i fun b6 H6 hb6 e6 t6 g6 => ?_
      simp only [cells_agg] at g6
      refine storeAll_i g6 (u16A_size _) (u16A_size _) (u16A_ok _) fun H7 k7 t7 g7 => ?_
      have e57 : Ext H5 H7 := e6.kpn k7 (by omega)
      have hl7 := load_all (e57.at g5) (u16A_size _)
      simp only [hl7, Pu_some]
      refine box_i fun b8 H8 hb8 e8 t8 g8 => ?_
      simp only [cells_agg] at g8
      refine storeAll_i g8 (u16A_size _) (u16A_size _) (u16A_ok _) fun H9 k9 t9 g9 => ?_
      have e79 : Ext H7 H9 := e8.kpn k9 (by omega)
      simp only [zero16b, Pu_some]
      refine box_i fun b10 H10 hb10 e10 t10 g10 => ?_
      simp only [cells_agg] at g10
      have e510 := e57.trans (e79.trans e10)
      have hfil : ∀ a : Int, 0 ≤ a → a < 16 → heldL (ldP fs) a = filB (fs.getD a.toNat 0) := fun a h0 h1 => by
        have hfi := List.getElem?_eq_getElem (l := fs) (i := a.toNat) (by omega)
        have := ldP_held fs a.toNat _ hfi
        rw [show ((a.toNat : Nat) : Int) = a by omega] at this
        rw [this, List.getD_eq_getElem?_getD, hfi, Option.getD_some]
      have T0 : TW H H10 p cb b6 b8 b10 n (DS.load 16 (ldP fs)) [] (fun k => fs.getD k.toNat 0) (fun k => fs.getD k.toNat 0) (fun _ => false) 0 0 0 :=
        { inv := { n := rfl, st := rfl, fuse := rfl, made := rfl, now := hfil, nod := List.nodup_nil, rng := fun y hy => (by cases hy), data := fun y hy => (by cases hy), gone := fun _ _ _ _ => rfl, clean := fun _ _ _ _ => rfl, held := rfl, len := Nat.zero_le _ }
          w := hc4.grow e510 fun b hb => by
            rcases hb with ((hb | hb) | hb) | hb
            · have := e1.le; exact .inl (by omega)
            · exact .inr (by omega)
            · exact .inr (by omega)
            · exact .inr (by omega)
          e := e5.trans e510
          g1 := (e79.trans e10).at g7
          g2 := e10.at g9
          g3 := g10
          ne := by have := e5.le; exact ⟨by omega, by omega, by omega⟩
          wr := ⟨by omega, by omega⟩
          rd := ⟨Int.le_refl _, Int.le_refl _⟩
          pl := ⟨Nat.le_refl _, Nat.le_refl _⟩ }
      refine LoopP.mk (fun t H' => ∃ (i : Nat) (s : DS) (cs : List Pl) (book out : Int → Int) (fast : Int → Bool) (held writes : Int), t.1 = .int .i64 held ∧ t.2.1 = .int .i64 writes ∧ t.2.2.1 = .int .i64 i ∧ i ≤ ss.length ∧ TW H H' p cb b6 b8 b10 n s cs book out fast held writes i)
        (fun t _ => match t.2.2.1 with | .int _ i => ((ss.length : Int) - i).toNat | _ => 0) ⟨0, _, _, _, _, _, 0, 0, rfl, rfl, rfl, Nat.zero_le _, T0⟩ ?_
      clear T0 hfil g10 g9 g7 g8 g6 hc4 hw hd hs1 hs2 gr hr1 hr2 hsr g12 g1 g5 k7 k9
      rintro ⟨t1', t2', t3', u⟩ H12 ⟨i, s, cs, book, out, fast, held, writes, ht1, ht2, ht3, hi, T⟩
      simp only at ht1 ht2 ht3
      subst ht1 ht2 ht3
      rw [hs.lenE undSts]
      simp only [List.length_map, binE_lss, Pu_some, Ite_dec]
      refine ⟨fun hlt => ?_, fun hge => ?_⟩
      · have hil : i < ss.length := by omega
        have hx := List.getElem?_eq_getElem hil
        have hxb := hb _ (List.getElem_mem hil)
        generalize ss[i] = st at hx hxb
        have hsx : (ss.map St.c)[i]? = some st.c := by rw [List.getElem?_map, hx]; rfl
        obtain ⟨bs, os, hrow, hadr⟩ := hs.elem hsx
        have hldx : ∀ {H'' : Hp}, Ext H H'' → ∀ j, j < 4 → loadE (some none) (.pointer (some ⟨bs, os + j, none⟩)) H'' = st.c[j]? := fun hx j hj => rowH_cell (rowH_ext hx hrow) hj
        have hld := @hldx _ T.e
        simp only [hadr, Pu_some, addr_ptr, hld 2 (by decide)]
        rw [show st.c[2]? = some (.int .i64 st.at_) from rfl, Pu_some]
        refine place_ok (by decide) (by decide) fun a a0 a1 => ?_
        obtain ⟨an, rfl⟩ : ∃ an : Nat, a = (an : Int) := ⟨a.toNat, by omega⟩
        have ha16 : an < 16 := by omega
        refine Join.mk (fun t H' => t.1 = .bool (decide (held = n ∧ fast an = false)) ∧ H' = H12) ?_ ?_
        · rintro ⟨t, u⟩ H14 ⟨ht, rfl⟩
          simp only at ht
          subst ht
          refine Join.mk (fun t H' => ∃ (s : DS) (cs : List Pl) (book out : Int → Int) (fast : Int → Bool) (held writes : Int), t.1 = .int .i64 held ∧ t.2.1 = .int .i64 writes ∧ TW H H' p cb b6 b8 b10 n s cs book out fast held writes (i + 1)) ?_ ?_
          · rintro ⟨t1, t2, u⟩ H15 ⟨s', cs', book', out', fast', held', writes', ht1, ht2, T'⟩
            simp only at ht1 ht2
            subst ht1 ht2
            refine Join.mk (fun t H' => t.1 = .bool false ∧ Ext H15 H') ?_ ?_
            · rintro ⟨t, u⟩ H16 ⟨ht, e16⟩
              simp only at ht
              subst ht
              simp only [Ite_false, binE_add, Pu_some]
              rw [i64wrap_id (by omega) (by omega)]
              exact ⟨⟨i + 1, s', cs', book', out', fast', held', writes', rfl, rfl, rfl, by omega, T'.ext e16⟩, by show ((ss.length : Int) - (i + 1)).toNat < ((ss.length : Int) - i).toNat; omega⟩
            · have hfl := fastP_le cs'
              have hlen := T'.inv.len
              refine T'.w.fast ?_
              rw [← T'.inv.held]
              simp only [binE_eql, binE_neq, deq, dne, zq1, zq2, zq3, zq4, decide_true, decide_false, Pu_some, Ite_true, Ite_false, unE_not, Bool.not_true, Bool.not_false, binE_neb', bb1, bb2]
              refine T'.w.len ?_
              simp only [binE_gtr, Pu_some, Ite_dec]
              refine ⟨fun h => absurd h (by omega), fun _ => ?_⟩
              refine T'.w.len ?_
              simp only [binE_lss, Pu_some, Ite_dec]
              refine ⟨fun h => absurd h (by have := T'.inv.held; omega), fun _ => ?_⟩
              refine T'.w.order (by omega) fun l H20 e20 hsl hnl => ?_
              rw [hsl.lenE undInts, Pu_some]
              refine (T'.w.ext e20).len ?_
              simp only [binE_eql, binE_neq, deq, dne, zq1, zq2, zq3, zq4, decide_true, decide_false, Pu_some, Ite_true, Ite_false, unE_not, Bool.not_true, Bool.not_false, binE_neb', bb1, bb2, ints_len, List.length_map]
              refine (T'.w.ext e20).made ?_
              rw [T'.inv.made]
              simp only [binE_eql, binE_neq, deq, dne, zq1, zq2, zq3, zq4, decide_true, decide_false, Pu_some, Ite_true, Ite_false, unE_not, Bool.not_true, Bool.not_false, binE_neb', bb1, bb2]
              exact ⟨trivial, e20⟩
          · simp only [hadr, Pu_some, addr_ptr, hld 0 (by decide)]
            rw [show st.c[0]? = some (.int .u8 st.do_) from rfl, Pu_some, binE_rem (by decide), Pu_some, tmod_pos hxb.1]
            have hm0 := Int.emod_nonneg st.do_ (show (3 : Int) ≠ 0 by decide)
            have hm1 := Int.emod_lt_of_pos st.do_ (show (0 : Int) < 3 by decide)
            generalize st.do_ % 3 = w at hm0 hm1
            obtain ⟨tr1, tr2⟩ := T.inv.read a0 a1
            simp only [binE_eql, Pu_some, Ite_dec]
            refine ⟨fun hw0 => ?_, fun hw0 => ⟨fun hw1 => ?_, fun hw1 => ⟨fun hw2 => ?_, fun hw2 => absurd hw2 (by omega)⟩⟩⟩
            · -- Read
              refine T.w.len ?_
              refine T.w.read ⟨by have := T.rd; omega, T.rd.1⟩ (by omega) fun H24 f24 w24 => ?_
              have Tb : ∀ {H' : Hp}, Ext H24 H' → ∀ s' cs', CW _ H24 p cb n s' cs' → TInv filB n s' cs' book out fast held writes → s'.reads ≤ s.reads + 1 → s.reads ≤ s'.reads → s'.pl = s.pl → s'.hl = s.hl → TW H H' p cb b6 b8 b10 n s' cs' book out fast held writes (i + 1) := fun e s' cs' hw hi r1 r2 r3 r4 => by
                refine (T.frm f24 hw hi ⟨T.wr.1, by have := T.wr.2; omega⟩ ⟨by have := T.rd.1; omega, by have := T.rd.2; omega⟩ ⟨by have := T.pl.1; omega, by have := T.pl.2; omega⟩ rfl rfl rfl).ext e
              by_cases hfull : held = n ∧ fast an = false
              · rw [tr1 hfull] at w24 ⊢
                simp only [extractE, List.getElem?_toArray, List.getElem?_cons_zero, List.getElem?_cons_succ, Pu_some, zeroB]
                refine box_i fun b25 H25 hb25 e25 t25 g25 => ?_
                simp only [cells_agg] at g25
                refine storeAll_i g25 zB_size zB_size zB_is.ok fun H26 k26 t26 g26 => ?_
                have e26 : Ext H24 H26 := e25.kpn k26 (by omega)
                refine Join.mk (fun t H' => t.1 = .bool false ∧ Ext H26 H') ?_ ?_
                · rintro ⟨t, u⟩ H27 ⟨ht, e27⟩
                  simp only at ht
                  subst ht
                  simp only [Ite_false]
                  exact ⟨s, cs, book, out, fast, held, writes, rfl, rfl, Tb (e26.trans e27) s cs w24 T.inv (by omega) (by omega) rfl rfl⟩
                · have hl26 := load_all g26 zB_size
                  have w26 := w24.ext e26
                  simp only [binE_eql, binE_neq, deq, dne, zq1, zq2, zq3, zq4, decide_true, decide_false, Pu_some, Ite_true, Ite_false, unE_not, Bool.not_true, Bool.not_false, binE_neb', bb1, bb2, decide_eq_true hfull, hl26, buildB, eqBlk zB_is, ForX_true]
                  intro H32 e32
                  refine (w26.ext e32).len ?_
                  simp only [binE_eql, binE_neq, deq, dne, zq1, zq2, zq3, zq4, decide_true, decide_false, Pu_some, Ite_true, Ite_false, unE_not, Bool.not_true, Bool.not_false, binE_neb', bb1, bb2]
                  exact ⟨fun H' e' => ⟨trivial, e32.trans e'⟩, fun H' e' => ⟨trivial, e32.trans e'⟩, trivial⟩
              · obtain ⟨s', cs', hr, hi', r1, r2, r3, r4⟩ := tr2 hfull
                rw [hr] at w24 ⊢
                have hB := filB_is (book an)
                simp only [extractE, List.getElem?_toArray, List.getElem?_cons_zero, List.getElem?_cons_succ, Pu_some, zeroB]
                refine box_i fun b25 H25 hb25 e25 t25 g25 => ?_
                simp only [cells_agg] at g25
                refine storeAll_i g25 zB_size hB.size hB.ok fun H26 k26 t26 g26 => ?_
                have g26 : H26[b25]? = some (.cells (filB (book an)) 33) := g26
                have e26 : Ext H24 H26 := e25.kpn k26 (by omega)
                have TT : ∀ {H' : Hp}, Ext H26 H' → TW H H' p cb b6 b8 b10 n s' cs' book out fast held writes (i + 1) := fun e => Tb (e26.trans e) s' cs' w24 hi' r1 r2 r3 r4
                refine Join.mk (fun t H' => t.1 = .bool false ∧ Ext H26 H') ?_ ?_
                · rintro ⟨t, u⟩ H27 ⟨ht, e27⟩
                  simp only at ht
                  subst ht
                  simp only [Ite_false]
                  exact ⟨s', cs', book, out, fast, held, writes, rfl, rfl, TT e27⟩
                · have hl26 : ∀ {H' : Hp}, Ext H26 H' → loadE (some (some 1024)) (.pointer (some ⟨b25, 0, none⟩)) H' = some (.agg (filB (book an))) := fun e => load_all (e.at g26) hB.size
                  have gb := (TT (Ext.refl H26)).g1
                  simp only [binE_eql, binE_neq, deq, dne, zq1, zq2, zq3, zq4, decide_true, decide_false, Pu_some, Ite_true, Ite_false, unE_not, Bool.not_true, Bool.not_false, binE_neb', bb1, bb2]
                  rw [idx_arr a0 (by omega), Pu_some, load_cell gb]
                  simp only [Nat.zero_add, Int.toNat_natCast, Nat.mul_one]
                  rw [u16A_get _ ha16, Pu_some]
                  simp only [hl26 (Ext.refl _), Pu_some, ForX_true]
                  refine ⟨fun H' e' => ?_, fun H' e' => ?_, trivial⟩
                  · refine filled_ok fun H'' e'' => ?_
                    simp only [binE_eql, binE_neq, deq, dne, zq1, zq2, zq3, zq4, decide_true, decide_false, Pu_some, Ite_true, Ite_false, unE_not, Bool.not_true, Bool.not_false, binE_neb', bb1, bb2, eqBlk hB, decide_eq_false hfull]
                    exact fun H3 e3 => ⟨trivial, e'.trans (e''.trans e3)⟩
                  · refine filled_ok fun H'' e'' => ?_
                    simp only [binE_eql, binE_neq, deq, dne, zq1, zq2, zq3, zq4, decide_true, decide_false, Pu_some, Ite_true, Ite_false, unE_not, Bool.not_true, Bool.not_false, binE_neb', bb1, bb2, hl26 (e'.trans e''), eqBlk hB, decide_eq_false hfull]
                    exact fun H3 e3 => ⟨trivial, e'.trans (e''.trans e3)⟩
            · -- Put
              simp only [hadr, Pu_some, addr_ptr, hld 3 (by decide)]
              rw [show st.c[3]? = some (.int .u16 st.fill) from rfl, Pu_some]
              refine filled_ok fun H72 e72 => ?_
              have T72 := T.ext e72
              have hB := filB_is st.fill
              obtain ⟨tp1, tp2⟩ := T.inv.put a0 a1 st.fill
              refine T72.w.put (by omega) (by have := T.inv.len; omega) hB fun H73 f73 w73 => ?_
              by_cases hfull : held = n ∧ fast an = false
              · rw [tp1 hfull] at w73 ⊢
                have T73 : TW H H73 p cb b6 b8 b10 n s cs book out fast held writes (i + 1) := T72.frm f73 w73 T.inv ⟨T.wr.1, by have := T.wr.2; omega⟩ ⟨T.rd.1, by have := T.rd.2; omega⟩ ⟨by have := T.pl.1; omega, by have := T.pl.2; omega⟩ rfl rfl rfl
                refine Join.mk (fun t H' => t.1 = .bool false ∧ H' = H73) ?_ ?_
                · rintro ⟨t, u⟩ H74 ⟨ht, rfl⟩
                  simp only at ht
                  subst ht
                  simp only [binE_eql, binE_neq, deq, dne, zq1, zq2, zq3, zq4, decide_true, decide_false, Pu_some, Ite_true, Ite_false, unE_not, Bool.not_true, Bool.not_false, binE_neb', bb1, bb2]
                  exact ⟨s, cs, book, out, fast, held, writes, rfl, rfl, T73⟩
                · simp only [binE_eql, binE_neq, deq, dne, zq1, zq2, zq3, zq4, decide_true, decide_false, Pu_some, Ite_true, Ite_false, unE_not, Bool.not_true, Bool.not_false, binE_neb', bb1, bb2, decide_eq_true hfull, and_self]
              · obtain ⟨cs', hp, hi'⟩ := tp2 hfull
                rw [hp] at w73 ⊢
                refine Join.mk (fun t H' => t.1 = .bool false ∧ H' = H73) ?_ ?_
                · rintro ⟨t, u⟩ H74 ⟨ht, rfl⟩
                  simp only at ht
                  subst ht
                  have gb1 := f73.at T72.g1 (.inl (.inl (.inr rfl)))
                  have gb2 := f73.at T72.g2 (.inl (.inr rfl))
                  have gb3 := f73.at T72.g3 (.inr rfl)
                  have e74 : Ext H H74 := f73.ext_of T72.e fun b hb => .inl (.inl (.inl hb))
                  have hne := T.ne
                  have hld2 := @hldx _ e74
                  simp only [binE_eql, binE_neq, deq, dne, zq1, zq2, zq3, zq4, decide_true, decide_false, Pu_some, Ite_true, Ite_false, unE_not, Bool.not_true, Bool.not_false, binE_neb', bb1, bb2, addr_ptr, hld2 3 (by decide)]
                  rw [show st.c[3]? = some (.int .u16 st.fill) from rfl, Pu_some, idx_arr a0 (by omega), Pu_some]
                  simp only [Nat.zero_add, Int.toNat_natCast, Nat.mul_one]
                  refine store_i gb1 (by rw [u16A_size]; omega) rfl rfl fun H75 k75 t75 g75 => ?_
                  rw [u16A_set _ ha16] at g75
                  have gc3 := k75.at gb3 (by omega)
                  have gc2 := k75.at gb2 (by omega)
                  have w75 := w73.kp k75 fun b hb => .inl (.inl (.inr hb))
                  have e75 := e74.kpn k75 (by omega)
                  rw [idx_arr a0 (by omega), Pu_some, load_cell gc3]
                  simp only [Nat.zero_add, Int.toNat_natCast, Nat.mul_one]
                  rw [boolA_get _ ha16, Pu_some, unE_not, Pu_some]
                  have hhb : 0 ≤ held ∧ held ≤ 8 := by have h1 := fastP_le cs; have h2 := T.inv.held; have h3 := T.inv.len; omega
                  have fin : ∀ H76, Kp (· = b10) H75 H76 → H76.size = H75.size → H76[b10]? = some (.cells (boolA (updI fast an true)) 48) → TW H H76 p cb b6 b8 b10 n s cs' (updI book an st.fill) out (updI fast an true) (if fast an then held else held + 1) writes (i + 1) := fun H76 k76 t76 g76 =>
                    { inv := hi', w := w75.kp k76 fun b hb => .inr hb, e := e75.kpn k76 (by omega), g1 := k76.at g75 (by omega), g2 := k76.at gc2 (by omega), g3 := g76, ne := hne, wr := ⟨T.wr.1, by have := T.wr.2; omega⟩, rd := ⟨T.rd.1, by have := T.rd.2; omega⟩, pl := ⟨by have := T.pl.1; omega, by have := T.pl.2; omega⟩ }
                  rw [Ite_not]
                  refine ⟨fun hfa => ?_, fun hfa => ?_⟩
                  · rw [binE_add, i64wrap_id (by omega) (by omega), Pu_some, Pu_some]
                    refine store_i gc3 (by rw [boolA_size]; omega) rfl rfl fun H76 k76 t76 g76 => ?_
                    rw [boolA_set _ ha16] at g76
                    have := fin H76 k76 t76 g76
                    rw [hfa] at this
                    exact ⟨s, cs', _, out, _, held + 1, writes, rfl, rfl, this⟩
                  · rw [Pu_some]
                    refine store_i gc3 (by rw [boolA_size]; omega) rfl rfl fun H76 k76 t76 g76 => ?_
                    rw [boolA_set _ ha16] at g76
                    have := fin H76 k76 t76 g76
                    rw [hfa] at this
                    exact ⟨s, cs', _, out, _, held, writes, rfl, rfl, this⟩
                · simp only [binE_eql, binE_neq, deq, dne, zq1, zq2, zq3, zq4, decide_true, decide_false, Pu_some, Ite_true, Ite_false, unE_not, Bool.not_true, Bool.not_false, binE_neb', bb1, bb2, decide_eq_false hfull, and_self]
            · -- Flush
              obtain ⟨s', cs', hfl, hi', r2, r3, r4⟩ := T.inv.flush a0 a1
              refine T.w.flush (kf := i) ⟨⟨by have := T.inv.made; have := T.wr; omega, by have := T.inv.made; have := T.wr; omega⟩, T.rd, by have := T.inv.fuse; omega, T.pl.1, T.pl.2⟩ (by omega) (by have := T.inv.len; omega) fun H78 f78 w78 => ?_
              rw [hfl] at w78 ⊢
              have gb1 := f78.at T.g1 (.inl (.inl (.inr rfl)))
              have gb2 := f78.at T.g2 (.inl (.inr rfl))
              have gb3 := f78.at T.g3 (.inr rfl)
              have e78 : Ext H H78 := f78.ext_of T.e fun b hb => .inl (.inl (.inl hb))
              have hne := T.ne
              have hwr := T.wr
              have hhb : 0 ≤ held ∧ held ≤ 8 := by have h1 := fastP_le cs; have h2 := T.inv.held; have h3 := T.inv.len; omega
              simp only [binE_eql, binE_neq, deq, dne, zq1, zq2, zq3, zq4, decide_true, decide_false, Pu_some, Ite_true, Ite_false, unE_not, Bool.not_true, Bool.not_false, binE_neb', bb1, bb2]
              rw [idx_arr a0 (by omega), Pu_some, load_cell gb3]
              simp only [Nat.zero_add, Int.toNat_natCast, Nat.mul_one]
              rw [boolA_get _ ha16, Pu_some, Ite_bool]
              refine ⟨fun hfa => ?_, fun hfa => ?_⟩
              · rw [hfa] at hi'
                simp only [if_true] at hi'
                rw [binE_sub, i64wrap_id (by omega) (by omega), Pu_some, binE_add, i64wrap_id (by omega) (by omega), Pu_some, idx_arr a0 (by omega), Pu_some, load_cell gb1]
                simp only [Nat.zero_add, Int.toNat_natCast, Nat.mul_one]
                rw [u16A_get _ ha16, Pu_some, idx_arr a0 (by omega), Pu_some]
                simp only [Nat.zero_add, Int.toNat_natCast, Nat.mul_one]
                refine store_i gb2 (by rw [u16A_size]; omega) rfl rfl fun H79 k79 t79 g79 => ?_
                rw [u16A_set _ ha16] at g79
                rw [Pu_some]
                refine store_i (k79.at gb3 (by omega)) (by rw [boolA_size]; omega) rfl rfl fun H80 k80 t80 g80 => ?_
                rw [boolA_set _ ha16] at g80
                refine ⟨s', cs', book, updI out an (book an), updI fast an false, held - 1, writes + 1, rfl, rfl, ?_⟩
                exact { inv := hi', w := (w78.kp k79 fun b hb => .inl (.inr hb)).kp k80 fun b hb => .inr hb, e := (e78.kpn k79 (by omega)).kpn k80 (by omega), g1 := k80.at (k79.at gb1 (by omega)) (by omega), g2 := k80.at g79 (by omega), g3 := g80, ne := hne, wr := ⟨by omega, by omega⟩, rd := ⟨by have := T.rd.1; omega, by have := T.rd.2; omega⟩, pl := ⟨by have := T.pl.1; omega, by have := T.pl.2; omega⟩ }
              · rw [hfa] at hi'
                simp only [Bool.false_eq_true, if_false] at hi'
                rw [Pu_some]
                refine store_i gb3 (by rw [boolA_size]; omega) rfl rfl fun H80 k80 t80 g80 => ?_
                rw [boolA_set _ ha16] at g80
                refine ⟨s', cs', book, out, updI fast an false, held, writes, rfl, rfl, ?_⟩
                exact { inv := hi', w := w78.kp k80 fun b hb => .inr hb, e := e78.kpn k80 (by omega), g1 := k80.at gb1 (by omega), g2 := k80.at gb2 (by omega), g3 := g80, ne := hne, wr := ⟨by omega, by omega⟩, rd := ⟨by have := T.rd.1; omega, by have := T.rd.2; omega⟩, pl := ⟨by have := T.pl.1; omega, by have := T.pl.2; omega⟩ }
        · simp only [binE_eql, Pu_some, Ite_dec]
          refine ⟨fun hh => ?_, fun hh => ⟨by rw [decide_eq_false (fun e => hh e.1)], trivial⟩⟩
          rw [idx_arr a0 (by omega), Pu_some, load_cell T.g3]
          simp only [Nat.zero_add, Int.toNat_natCast, Nat.mul_one]
          rw [boolA_get _ ha16, Pu_some, unE_not, Pu_some]
          refine ⟨?_, trivial⟩
          cases fast an <;> simp [hh]
      · clear hge
        refine LoopP.mk (fun t H' => ∃ (j : Nat) (s' : DS), t.1 = .int .i64 j ∧ j ≤ 16 ∧ Ext H H' ∧ CW (fun b => ((b < H.size ∨ b = b6) ∨ b = b8) ∨ b = b10) H' p cb n s' cs ∧ H'[b8]? = some (.cells (u16A out) 42) ∧ s'.n = 16 ∧ s'.stopped = false ∧ s'.now = s.now ∧ s'.reads = s.reads + j)
          (fun t _ => match t.1 with | .int _ i => ((16 : Int) - i).toNat | _ => 0) ⟨0, s, rfl, by omega, T.e, T.w, T.g2, T.inv.n, T.inv.st, rfl, by omega⟩ ?_
        rintro ⟨t, u⟩ H82 ⟨j, s', ht, hj, e82, w82, g82, q1, q2, q3, q4⟩
        simp only at ht
        subst ht
        simp only [binE_lss, Pu_some, Ite_dec]
        refine ⟨fun hlt => ?_, fun hge => k H82 e82⟩
        have hj16 : j < 16 := by omega
        have hrd : s'.read j = ({ s' with reads := s'.reads + 1 }, s'.now j, 0) := by
          unfold DS.read
          rw [q2, if_neg (by decide), q1, if_neg (by omega)]
        refine w82.dread ⟨by have := T.rd; omega, by have := T.rd; omega⟩ fun H83 f83 w83 => ?_
        rw [hrd] at w83 ⊢
        have hnow : s'.now j = filB (out j) := by rw [q3]; exact T.inv.now j (by omega) (by omega)
        rw [hnow] at ⊢
        have hB := filB_is (out j)
        simp only [extractE, List.getElem?_toArray, List.getElem?_cons_zero, List.getElem?_cons_succ, Pu_some, zeroB]
        refine box_i fun b84 H84 hb84 e84 t84 g84 => ?_
        simp only [cells_agg] at g84
        refine storeAll_i g84 zB_size hB.size hB.ok fun H85 k85 t85 g85 => ?_
        have g85 : H85[b84]? = some (.cells (filB (out j)) 33) := g85
        have e85 : Ext H83 H85 := e84.kpn k85 (by omega)
        have e83 : Ext H H83 := f83.ext_of e82 fun b hb => .inl (.inl (.inl hb))
        have g83 := f83.at g82 (.inl (.inr rfl))
        refine Join.mk (fun t H' => t.1 = .bool false ∧ Ext H85 H') ?_ ?_
        · rintro ⟨t, u⟩ H86 ⟨ht, e86⟩
          simp only at ht
          subst ht
          simp only [Ite_false, binE_add, Pu_some]
          rw [i64wrap_id (by omega) (by omega)]
          exact ⟨⟨j + 1, _, rfl, by omega, e83.trans (e85.trans e86), w83.ext (e85.trans e86), (e85.trans e86).at g83, q1, q2, q3, by show s'.reads + 1 = s.reads + ((j + 1 : Nat) : Int); omega⟩, by show ((16 : Int) - (j + 1)).toNat < ((16 : Int) - j).toNat; omega⟩
        · simp only [binE_eql, binE_neq, deq, dne, zq1, zq2, zq3, zq4, decide_true, decide_false, Pu_some, Ite_true, Ite_false, unE_not, Bool.not_true, Bool.not_false, binE_neb', bb1, bb2]
          rw [idx_arr (by omega) (by omega), Pu_some, load_cell (e85.at g83)]
          simp only [Nat.zero_add, Int.toNat_natCast, Nat.mul_one]
          rw [u16A_get _ hj16, Pu_some]
          have hl85 : ∀ {H' : Hp}, Ext H85 H' → loadE (some (some 1024)) (.pointer (some ⟨b84, 0, none⟩)) H' = some (.agg (filB (out j))) := fun e => load_all (e.at g85) hB.size
          simp only [hl85 (Ext.refl _), Pu_some, ForX_true]
          refine ⟨fun H' e' => ?_, fun H' e' => ?_, trivial⟩
          · refine filled_ok fun H'' e'' => ?_
            simp only [eqBlk hB, Pu_some]
            exact fun H3 e3 => ⟨trivial, e'.trans (e''.trans e3)⟩
          · refine filled_ok fun H'' e'' => ?_
            simp only [hl85 (e'.trans e''), eqBlk hB, Pu_some]
            exact fun H3 e3 => ⟨trivial, e'.trans (e''.trans e3)⟩
    · simp only [binE_eql, binE_neq, deq, dne, zq1, zq2, zq3, zq4, decide_true, decide_false, Pu_some, Ite_true, Ite_false, unE_not, Bool.not_true, Bool.not_false, binE_neb', bb1, bb2]
      rw [eqX_ptr undCa]
      simp only [Pu_some, and_self]
  · simp only [unE_not, Pu_some, Bool.not_true, Ite_false]
    refine Xc.closedG simg7 ok7 fun H28 e28 => ?_
    simp only [unE_not, Pu_some, Bool.not_true]
    exact ⟨trivial, e28⟩
end Go.Vc
