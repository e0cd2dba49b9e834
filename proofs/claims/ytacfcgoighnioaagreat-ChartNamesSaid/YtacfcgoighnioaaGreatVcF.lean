/- Vc, part F: each operation of the model as a condition on what follows it. -/
import Derived.Test.YtacfcgoighnioaaGreatVcEb
set_option linter.unusedVariables false
set_option linter.unusedSimpArgs false
namespace Go.Vc

def isMapT (td : Option TypeDesc) : Bool := match td with | some (.map _ _) => true | _ => false

def vcBuiltin (P : Program) (q : Bool) (b : Builtin) (ts : List TypeId) (xs : List Value) (H : Hp) (K : Value → Hp → Prop) : Prop :=
  match b, ts, xs with
  | .len, [T], [x] => (match isMapT (P.underlying T) with
    | true => Pu (mapLenE x H) fun v => K v H
    | false => Pu (lenE P T x) fun v => K v H)
  | .min, _, [x, y] => Pu (minE x y) fun v => K v H
  | .max, _, [x, y] => Pu (maxE x y) fun v => K v H
  | .append, [T, T2], [s, x] => ForX q H fun H => match P.underlying T2 with
    | some (.slice _) => AppS (elemI P T) s x H K
    | _ => False
  | .delete, [T, _], [m, k] => ForX q H fun H => Pu (mapDelE (mapI P T) m k H) fun H' => K (.tuple #[]) H'
  | .clear, [T], [m] => ForX q H fun H => (match isMapT (P.underlying T) with
    | true => Pu (mapClrE m H) fun H' => K (.tuple #[]) H'
    | false => Pu (clrE (elemI P T) m H) fun H' => K (.tuple #[]) H')
  | .copy, [T, _], [d, s] => ForX q H fun H => Pu (copyE (elemI P T) d s H) fun y => K y.1 y.2
  | _, _, _ => False

def partsOf (ρ : Operand → Value) (parts : Array (Nat × Operand)) : List (Nat × Value) := parts.toList.map fun (i, x) => (i, ρ x)

def opsA (ρ : Operand → Value) (xs : Array Operand) : Array Value := (xs.toList.map ρ).toArray

def vcOp (P : Program) (qf : FuncId → Bool) (dr q : Bool) (o : Oper) (ρ : Operand → Value) (H : Hp) (K : Value → Hp → Prop) : Prop :=
  match o.op with
  | .move x | .assign x => K (ρ x) H
  | .pick c a b => Ite (ρ c) (K (ρ a) H) (K (ρ b) H)
  | .binOp op T x y _ => (match hardT (P.underlying T) with
    | true => Pu (eqXE P T (isConst x || isConst y) op (ρ x) (ρ y) H) fun v => K v H
    | false => Pu (binE (P.underlying T) op (ρ x) (ρ y)) fun v => K v H)
  | .unOp op _ x => Pu (unE op (ρ x)) fun v => K v H
  | .convert s d x => (match strT P s d with
    | true => ForX q H fun H => BytesS P s d (ρ x) H K
    | false => (match bytesT P s d with
      | true => Pu (strOfE (ρ x) H) fun v => K v H
      | false => Pu (convE (P.underlying s) (P.underlying d) (ρ x)) fun v => K v H))
  | .fieldAddr S x f => Pu (addrE (fieldO P S f) (ρ x)) fun v => K v H
  | .field S x f => Pu (fieldE P S (ρ x) f) fun v => K v H
  | .indexAddr T x i => Pu (idxAddrE (idxK P T) (ρ x) (ρ i)) fun v => K v H
  | .index T x i => Pu (idxE P T (ρ x) (ρ i)) fun v => K v H
  | .sliceToArrayPointer T x => Pu (arrE (arrK P T) (ρ x)) fun v => K v H
  | .extract t i => Pu (extractE (ρ t) i) fun v => K v H
  | .nilCheck x => Pu (nilCheckE (ρ x)) fun v => K v H
  | .makeFunc fn first cap => K (.func fn (opsA ρ first) (opsA ρ cap)) H
  | .build T parts => Pu (buildE P T (partsOf ρ parts)) fun v => K v H
  | .slice T x lo hi mx => Pu (sliceE P T (ρ x) (lo.map ρ) (hi.map ρ) (mx.map ρ)) fun v => K v H
  | .load T a => Pu (loadE (ldK P T) (ρ a) H) fun v => K v H
  | .store T a x => ForX q H fun H => Pu (storeE (szOf P T) (ρ a) (ρ x) H) fun H' => K undef H'
  | .box T x => ForX q H fun H => K (.pointer (some ⟨H.size, 0, none⟩)) (H.push (.cells (ρ x).cells T))
  | .alloc T => ForX q H fun H => Pu (zeroE P T) fun z => K (.pointer (some ⟨H.size, 0, none⟩)) (H.push (.cells z.cells T))
  | .buildSlice T n parts => ForX q H fun H => Pu (elemI P T) fun e => Pu (newSliceE (some e) n (partsOf ρ parts)) fun cs => K (.slice (some ⟨H.size, 0, none⟩) n n) (H.push (.cells cs e.type))
  | .lookup T x k ok => Pu (lookupE P (mapI P T) ok (ρ x) (ρ k) H) fun v => K v H
  | .mapUpdate T m k x => ForX q H fun H => (match mapW P T with
    | some kt => Pu (mapSetS P kt (ρ m) (ρ k) (ρ x) H) fun H' => K undef H'
    | none => Pu (mapSetE (mapI P T) (ρ m) (ρ k) (ρ x) H) fun H' => K undef H')
  | .insert T m k x => ForX q H fun H => Pu (mapSetE (mapI P T) (ρ m) (ρ k) (ρ x) H) fun H' => K undef H'
  | .makeMap _ none => ForX q H fun H => K (.map (some H.size)) (H.push (.map #[] 0))
  | .makeSlice T l c => ForX q H fun H => Pu (makeE (elemI P T) (ρ l) (ρ c) H) fun y => K y.1 y.2
  | .call c =>
    match c.callee with
    | .builtin b => vcBuiltin P q b c.argTypes.toList (c.args.toList.map ρ) H K
    | .value (.func f) =>
      if enterB P f then (if dr && qf f then ∃ v, QC q P f (opsA ρ c.args) H v ∧ K v H else ForX q H fun H => Fc P f (opsA ρ c.args) H K) else False
    | .value x => ForX q H fun H => CallV P (ρ x) (opsA ρ c.args) H K
    | .invoke _ _ => False
  | _ => False

def lenMap (P : Program) (ts : Array TypeId) : Bool := match ts.toList with | [T] => isMapT (P.underlying T) | _ => false
def clsOf (P : Program) (qf : FuncId → Bool) (o : Oper) : Cls :=
  match o.op with
  | .move _ | .assign _ | .pick _ _ _ | .unOp _ _ _ | .fieldAddr _ _ _ | .field _ _ _ | .indexAddr _ _ _ | .index _ _ _ | .extract _ _ | .nilCheck _ | .makeFunc _ _ _ | .build _ _ | .slice _ _ _ _ _ | .sliceToArrayPointer _ _ => .pure
  | .binOp _ T _ _ _ => match hardT (P.underlying T) with | true => .quiet | false => .pure
  | .convert s d _ => match strT P s d with | true => .eff | false => (match bytesT P s d with | true => .quiet | false => .pure)
  | .load _ _ | .lookup _ _ _ _ => .quiet
  | .call c =>
    match c.callee with
    | .builtin .len => match lenMap P c.argTypes with | true => .quiet | false => .pure
    | .builtin .min | .builtin .max => .pure
    | .value (.func f) => if qf f then .quiet else .eff
    | _ => .eff
  | _ => .eff

section
variable {P : Program} {qf : FuncId → Bool} {dr q : Bool} {o : Oper} {ρ : Operand → Value} {H : Hp} {K : Value → Hp → Prop}

theorem pv_val {s : Sem Value} {v : Value} (h : ∀ w, s.run P w = .ok v w) : Pv P (do pure (.value (← s))) v := fun w => by
  rw [Sem.run_bind, h w]; rfl

theorem map_ops (ρ : Operand → Value) (xs : Array Operand) : xs.map ρ = (xs.toList.map ρ).toArray := by
  apply Array.ext'; simp

theorem opsA_eq (ρ : Operand → Value) (xs : Array Operand) : opsA ρ xs = xs.map ρ := (map_ops ρ xs).symm

theorem enter_ok {f : FuncId} (h : enterB P f = true) (args : Array Value) (w : World) : (callFunc f args).run P w = .ok (.enter f args) w := by
  unfold enterB at h
  cases hf : P.funcs[f]? with
  | none => rw [hf] at h; cases h
  | some fn =>
    rw [hf] at h
    simp only [Bool.and_eq_true, Bool.not_eq_true'] at h
    have h1 : ¬ fn.name = "runtime.NumGoroutine" := by simpa using h.1
    have h2 : ¬ fn.body = none := by cases hb : fn.body <;> simp_all
    simp [callFunc, hf, h1, h2]

theorem buildE_ok {w : World} {T : TypeId} {parts : Array (Nat × Value)} {v : Value} (h : buildE P T parts.toList = some v) : (Instr.build T parts).run P w = .ok v w := by
  unfold buildE at h
  simp only [Option.map_eq_some_iff] at h
  obtain ⟨cs, h1, rfl⟩ := h
  exact run_build w T parts cs h1

theorem bound_ok {w : World} {x : Value} {y m : Nat} {code : BoundsCode} {d : Nat} (h : boundE (some x) d y = some m) : (Instr.sliceBound x y code).run P w = .ok m w := by
  cases x <;> simp only [boundE] at h <;> try (cases h; done)
  split at h
  · rename_i hc; injection h with h; subst h; simp [Instr.sliceBound, asIntOf, hc]
  · cases h

theorem slice_ok {w : World} {T : TypeId} {x v : Value} {lo hi mx : Option Value} (h : sliceE P T x lo hi mx = some v) : (Instr.sliceAt T x lo hi mx).run P w = .ok v w := by
  unfold sliceE at h
  split at h
  · rename_i e a n c hu
    simp only [Option.bind_eq_some_iff, Option.map_eq_some_iff] at h
    obtain ⟨m, hm, hh, hhh, l, hl, i, hi', rfl⟩ := h
    simp only [hiE] at hhh
    have hb : (Instr.sliceBounds true n c lo hi mx).run P w = .ok (l, hh, m) w := by
      unfold Instr.sliceBounds
      cases mx with
      | none =>
        simp only [boundE, Option.some.injEq] at hm; subst hm
        cases hi with
        | none =>
          simp only [boundE, Option.some.injEq] at hhh; subst hhh
          cases lo with
          | none => simp only [boundE, Option.some.injEq] at hl; subst hl; simp
          | some lv => simp [bound_ok hl]
        | some hv =>
          cases lo with
          | none => simp only [boundE, Option.some.injEq] at hl; subst hl; simp [bound_ok hhh]
          | some lv => simp [bound_ok hl, bound_ok hhh]
      | some mv =>
        cases hi with
        | none => simp at hhh
        | some hv =>
          cases lo with
          | none => simp only [boundE, Option.some.injEq] at hl; subst hl; simp [bound_ok hhh, bound_ok hm]
          | some lv => simp [bound_ok hl, bound_ok hhh, bound_ok hm]
    simp [Instr.sliceAt, Instr.slice, underlying, hu, hb, sizeOf, typeInfo, hi']
  · rename_i n e a hu
    simp only [Option.bind_eq_some_iff, Option.map_eq_some_iff] at h
    obtain ⟨m, hm, hh, hhh, l, hl, i, hi', rfl⟩ := h
    simp only [hiE] at hhh
    have hb : (Instr.sliceBounds false n n lo hi mx).run P w = .ok (l, hh, m) w := by
      unfold Instr.sliceBounds
      cases mx with
      | none =>
        simp only [boundE, Option.some.injEq] at hm; subst hm
        cases hi with
        | none =>
          simp only [boundE, Option.some.injEq] at hhh; subst hhh
          cases lo with
          | none => simp only [boundE, Option.some.injEq] at hl; subst hl; simp
          | some lv => simp [bound_ok hl]
        | some hv =>
          cases lo with
          | none => simp only [boundE, Option.some.injEq] at hl; subst hl; simp [bound_ok hhh]
          | some lv => simp [bound_ok hl, bound_ok hhh]
      | some mv =>
        cases hi with
        | none => simp at hhh
        | some hv =>
          cases lo with
          | none => simp only [boundE, Option.some.injEq] at hl; subst hl; simp [bound_ok hhh, bound_ok hm]
          | some lv => simp [bound_ok hl, bound_ok hhh, bound_ok hm]
    simp [Instr.sliceAt, underlying, hu, hb, sizeOf, typeInfo, hi', Instr.sureAddr]
  · rename_i s hu
    split at h
    · simp only [Option.bind_eq_some_iff, Option.map_eq_some_iff] at h
      obtain ⟨hh, hhh, l, hl, rfl⟩ := h
      have hb : (Instr.sliceBounds false s.size s.size lo hi none).run P w = .ok (l, hh, s.size) w := by
        unfold Instr.sliceBounds
        cases hi with
        | none =>
          simp only [boundE, Option.some.injEq] at hhh; subst hhh
          cases lo with
          | none => simp only [boundE, Option.some.injEq] at hl; subst hl; simp
          | some lv => simp [bound_ok hl]
        | some hv =>
          cases lo with
          | none => simp only [boundE, Option.some.injEq] at hl; subst hl; simp [bound_ok hhh]
          | some lv => simp [bound_ok hl, bound_ok hhh]
      simp [Instr.sliceAt, Instr.slice, underlying, hu, hb]
    · cases h
  · cases h
end
end Go.Vc
