/- Xc, part K: each operation of the program, run. -/
import Derived.Test.YtacfcgoighnioaaGreatXcJ
set_option linter.unusedVariables false
set_option linter.unusedSectionVars false
set_option linter.unusedSimpArgs false
namespace Go.Xc
open Go.Vc
variable [Sites]

/-- A function, run. -/
abbrev Ex := List CV → CH → (CV → CH → Bool) → Bool
/-- What it is worth. -/
def SimF (P : Program) (f : FuncId) (ex : Ex) : Prop :=
  ∀ args h k, ex args h k = true → ∃ z h', k z h' = true ∧ h'.wp = h.wp ∧ ∀ {H0 m H vargs} {K : Value → Hp → Prop}, Rel H0 m h H → Vrels m args vargs → Fin H0 m h H z h' K → Fc P f vargs.toArray H K

noncomputable def look {α : Type} (l : List (Nat × α)) (i : Nat) : Option α := List.rec (motive := fun _ => Option α) none (fun p _ ih => Bool.rec ih (some p.2) (Nat.beq p.1 i)) l
theorem look_ok {α : Type} {Q : Nat → α → Prop} : ∀ {l : List (Nat × α)} {i : Nat} {x : α}, (∀ p, p ∈ l → Q p.1 p.2) → look l i = some x → Q i x
  | [], _, _, _, h => by cases h
  | p :: l, i, x, hq, h => by
    have h' : (Bool.rec (motive := fun _ => Option α) (look l i) (some p.2) (Nat.beq p.1 i)) = some x := h
    cases hb : Nat.beq p.1 i with
    | true =>
      rw [hb] at h'
      have h2 : some p.2 = some x := h'
      injection h2 with h2; subst h2
      rw [← Nat.eq_of_beq_eq_true hb]; exact hq p List.mem_cons_self
    | false =>
      rw [hb] at h'
      exact look_ok (fun p hp => hq p (List.mem_cons_of_mem _ hp)) h'

/-- Rounds have numbers from here on. -/
abbrev RB : Nat := 1000000
/-- A round of loop n, run: it is handed what it is asked for by, the frame in which the loop was begun, and what the caller hands on. -/
def SimRd (P : Program) (n : Nat) (ex : Ex) : Prop :=
  ∀ b fr args h k, ex (.yv b :: .tup fr :: args) h k = true → (∃ st j, h.get b = some (.lp st j n fr)) → ∃ z h', k z h' = true ∧ h'.wp = h.wp ∧ ∀ {H0 m H vargs e} {K : Value → Hp → Prop}, Rel H0 m h H → Vrels m args vargs → m[b]? = some e → Fin H0 m h H z h' K → CallV P (.func (.yield e.1) #[] #[]) vargs.toArray H K
structure EnvOk (P : Program) (Z : List (Nat × CV)) (C : List (Nat × Ex)) : Prop where
  z : ∀ p, p ∈ Z → ZeroV P p.1 p.2
  c : ∀ p, p ∈ C → (Nat.ble RB p.1 = false → enterB P p.1 = true ∧ SimF P p.1 p.2) ∧ ∀ n, p.1 = RB + n → SimRd P n p.2

noncomputable def plainX (z : CV) : Option Value := Bool.rec none (some (valP z)) (plB z)
theorem plainX_ok {z : CV} {v : Value} (h : plainX z = some v) {m : M} {u : Value} (hu : Vrel m z u) : u = v := by
  unfold plainX at h
  cases hp : plB z with
  | false => rw [hp] at h; cases h
  | true => rw [hp] at h; injection h with h; rw [← h]; exact valP_ok z hp hu
theorem plainX_rel {z : CV} {v : Value} (h : plainX z = some v) (m : M) : Vrel m z v := by
  unfold plainX at h
  cases hp : plB z with
  | false => rw [hp] at h; cases h
  | true => rw [hp] at h; injection h with h; rw [← h]; exact valP_rel z hp m

theorem Fin.ext' {H0 : Hp} {m : M} {h : CH} {H H' : Hp} {z : CV} {h' : CH} {K : Value → Hp → Prop} (hf : Fin H0 m h H z h' K) (hx : Ext H H') : Fin H0 m h H' z h' K :=
  fun m' H'' v hr hs hv => hf m' H'' v hr ((Stp.ext hx).trans hs) hv
theorem forX {H0 : Hp} {m : M} {h : CH} {H : Hp} {z : CV} {h' : CH} {K : Value → Hp → Prop} {q : Bool} {X : Hp → Prop} (hr : Rel H0 m h H) (hf : Fin H0 m h H z h' K) (hX : ∀ H', Rel H0 m h H' → Fin H0 m h H' z h' K → X H') : ForX q H X := by
  cases q
  · exact hX H hr hf
  · exact fun H' hx => hX H' (hr.ext' hx) (hf.ext' hx)

noncomputable abbrev ifX (b A B : Bool) : Bool := Bool.rec B A b
theorem ifX_eq (b A B : Bool) : ifX b A B = if b then A else B := by cases b <;> rfl
noncomputable abbrev xIte (c : CV) (A B : Bool) : Bool :=
  match c with
  | .bool true => A
  | .bool false => B
  | _ => false
noncomputable abbrev xCall (ex : Option Ex) (args : List CV) (h : CH) (k : CV → CH → Bool) : Bool :=
  match ex with
  | some ex => ex args h k
  | none => false
noncomputable def xQuiet (ex : Option Ex) (args : List CV) (h : CH) (k : CV → CH → Bool) : Bool :=
  match ex, h with
  | some ex, .mk t n wp => ex args (.mk t n n) fun z _ => (match plainX z with | some _ => k z (.mk t n wp) | none => false)
  | none, _ => false
theorem Vrels_append {m : M} : ∀ {a b : List CV} {va vb : List Value}, Vrels m a va → Vrels m b vb → Vrels m (a ++ b) (va ++ vb)
  | [], _, _, _, h1, h2 => by simp only [Vrels] at h1; subst h1; exact h2
  | x :: a, b, va, vb, h1, h2 => by
    obtain ⟨v, l', rfl, h3, h4⟩ := h1
    exact ⟨v, l' ++ vb, rfl, h3, Vrels_append h4 h2⟩
noncomputable abbrev xCallF (C : List (Nat × Ex)) (f : Nat) (args : List CV) (h : CH) (k : CV → CH → Bool) : Bool := ifX (Nat.ble RB f) false (xCall (look C f) args h k)
noncomputable def xCallV (C : List (Nat × Ex)) (x : CV) (args : List CV) (h : CH) (k : CV → CH → Bool) : Bool :=
  match x with
  | .fn f a c => xCallF C f ((a ++ args) ++ c) h k
  | .yv b => (match h.get b with
    | some (.lp _ _ n fr) => xCall (look C (RB + n)) (.yv b :: .tup fr :: args) h k
    | _ => false)
  | _ => false
theorem xCallF_ok {P : Program} {Z : List (Nat × CV)} {C : List (Nat × Ex)} (he : EnvOk P Z C) {f : Nat} {args : List CV} {h : CH} {k : CV → CH → Bool} (hk : xCallF C f args h k = true) :
    enterB P f = true ∧ ∃ z h', k z h' = true ∧ h'.wp = h.wp ∧ ∀ {H0 m H vargs} {K : Value → Hp → Prop}, Rel H0 m h H → Vrels m args vargs → Fin H0 m h H z h' K → Fc P f vargs.toArray H K := by
  unfold xCallF at hk
  rw [ifX_eq] at hk
  split at hk
  · cases hk
  · rename_i hf
    unfold xCall at hk
    split at hk
    · rename_i ex hl
      obtain ⟨h1, _⟩ := look_ok (Q := fun f ex => (Nat.ble RB f = false → enterB P f = true ∧ SimF P f ex) ∧ ∀ n, f = RB + n → SimRd P n ex) he.c hl
      obtain ⟨hen, hsim⟩ := h1 (eq_false_of_ne_true hf)
      exact ⟨hen, hsim _ _ _ hk⟩
    · cases hk
theorem xCallV_ok {P : Program} {Z : List (Nat × CV)} {C : List (Nat × Ex)} (he : EnvOk P Z C) {x : CV} {args : List CV} {h : CH} {k : CV → CH → Bool} (hk : xCallV C x args h k = true) :
    ∃ z h', k z h' = true ∧ h'.wp = h.wp ∧ ∀ {H0 m H vx vargs} {K : Value → Hp → Prop}, Rel H0 m h H → Vrel m x vx → Vrels m args vargs → Fin H0 m h H z h' K → CallV P vx vargs.toArray H K := by
  unfold xCallV at hk
  split at hk
  · rename_i f a c
    obtain ⟨hen, z, h', h1, h2, h3⟩ := xCallF_ok he hk
    refine ⟨z, h', h1, h2, fun {H0 m H vx vargs K} hr hx ha hf => ?_⟩
    obtain ⟨va, vc, rfl, r1, r2⟩ := hx
    exact ⟨hen, h3 hr (Vrels_append (Vrels_append r1 ha) r2) hf⟩
  · rename_i b
    split at hk
    · rename_i st j n fr hg
      unfold xCall at hk
      split at hk
      · rename_i ex hl
        obtain ⟨_, h1⟩ := look_ok (Q := fun f ex => (Nat.ble RB f = false → enterB P f = true ∧ SimF P f ex) ∧ ∀ n, f = RB + n → SimRd P n ex) he.c hl
        obtain ⟨z, h', h2, h3, h4⟩ := h1 n rfl b fr args h k hk ⟨st, j, hg⟩
        refine ⟨z, h', h2, h3, fun {H0 m H vx vargs K} hr hx ha hf => ?_⟩
        obtain ⟨e, he', rfl⟩ := hx
        exact h4 hr ha he' hf
      · cases hk
    · cases hk
  · cases hk

def RhoRel (m : M) (ρ : Operand → CV) (ρv : Operand → Value) : Prop := ∀ o, Vrel m (ρ o) (ρv o)
theorem Vrels_map {m : M} {ρ : Operand → CV} {ρv : Operand → Value} (hρ : RhoRel m ρ ρv) : ∀ (l : List Operand), Vrels m (l.map ρ) (l.map ρv)
  | [] => rfl
  | o :: l => ⟨_, _, rfl, hρ o, Vrels_map hρ l⟩
theorem Prels_map {m : M} {ρ : Operand → CV} {ρv : Operand → Value} (hρ : RhoRel m ρ ρv) : ∀ (l : List (Nat × Operand)), Prels m (l.map fun (i, x) => (i, ρ x)) (l.map fun (i, x) => (i, ρv x))
  | [] => rfl
  | (i, o) :: l => ⟨_, _, rfl, hρ o, Prels_map hρ l⟩
theorem Orl_map {m : M} {ρ : Operand → CV} {ρv : Operand → Value} (hρ : RhoRel m ρ ρv) (o : Option Operand) : Orl m (o.map ρ) (o.map ρv) := by
  cases o with
  | none => trivial
  | some o => exact hρ o

noncomputable def elemZ (P : Program) (Z : List (Nat × CV)) (S : TypeId) : Option (List CV) :=
  match appK P S with
  | some (T, _, _, _) => (match look Z T with | some z => toP z | none => none)
  | none => none
theorem elemZ_ok {P : Program} {Z : List (Nat × CV)} {C : List (Nat × Ex)} (he : EnvOk P Z C) {S : TypeId} : ∀ e z, elemI P S = some e → elemZ P Z S = some z → ZeroOk P e.type z := by
  intro e z h1 h2
  unfold elemZ at h2
  split at h2
  · rename_i T es b u hq
    obtain ⟨e', h3, h4, _⟩ := appK_spec hq
    rw [h1] at h3; injection h3 with h3; subst h3
    split at h2
    · rename_i zv hl
      rw [h4]
      exact (look_ok he.z hl).ok h2
    · cases h2
  · cases h2
def mapET (mi : Option (TypeId × TypeDesc × TypeId)) : TypeId := match mi with | some (_, _, c) => c | none => 0

noncomputable def xBuiltin (P : Program) (Z : List (Nat × CV)) (b : Builtin) (ts : List TypeId) (xs : List CV) (h : CH) (k : CV → CH → Bool) : Bool :=
  match b, ts, xs with
  | .len, [T], [x] => (match isMapT (P.underlying T) with
    | true => xMapLen x h fun v => k v h
    | false => xLen (lenK P T) x fun v => k v h)
  | .min, _, [x, y] => xMin x y fun v => k v h
  | .max, _, [x, y] => xMax x y fun v => k v h
  | .append, [T, T2], [s, x] => (match P.underlying T2 with
    | some (.slice _) => xApp (appK P T) s x h k
    | _ => false)
  | .delete, [T, _], [m, key] => xMapDel (mapI P T) m key h fun h' => k (.tup []) h'
  | .clear, [T], [m] => (match isMapT (P.underlying T) with
    | true => xMapClr m h fun h' => k (.tup []) h'
    | false => xClr (appK P T) (elemZ P Z T) m h fun h' => k (.tup []) h')
  | .copy, [T, _], [d, s] => xCopy (appK P T) d s h k
  | _, _, _ => false

theorem map_one {α β : Type} {f : α → β} {l : List α} {x : β} (h : l.map f = [x]) : ∃ a, l = [a] ∧ f a = x := by
  match l, h with
  | [a], h => exact ⟨a, rfl, by simpa using h⟩
theorem map_two {α β : Type} {f : α → β} {l : List α} {x y : β} (h : l.map f = [x, y]) : ∃ a b, l = [a, b] ∧ f a = x ∧ f b = y := by
  match l, h with
  | [a, b], h => exact ⟨a, b, rfl, by simpa using h⟩

theorem unit_rel (m : M) : Vrel m (.tup []) (.tuple #[]) := ⟨#[], rfl, rfl⟩

theorem xBuiltin_ok {P : Program} {Z : List (Nat × CV)} {C : List (Nat × Ex)} (he : EnvOk P Z C) {b : Builtin} {ts : List TypeId} {l : List Operand} {ρ : Operand → CV} {h : CH} {k : CV → CH → Bool} (hk : xBuiltin P Z b ts (l.map ρ) h k = true) :
    ∃ z h', k z h' = true ∧ h'.wp = h.wp ∧ ∀ {H0 m H ρv q} {K : Value → Hp → Prop}, Rel H0 m h H → RhoRel m ρ ρv → Fin H0 m h H z h' K → vcBuiltin P q b ts (l.map ρv) H K := by
  unfold xBuiltin at hk
  split at hk
  · rename_i T x hxs
    obtain ⟨a, rfl, rfl⟩ := map_one hxs
    split at hk
    · rename_i hm
      obtain ⟨z, h1, h2⟩ := xMapLen_ok hk
      refine ⟨z, h, h1, rfl, fun {H0 m H ρv q K} hr hρ hf => ?_⟩
      obtain ⟨v, h3, h4⟩ := h2 hr (hρ a)
      show vcBuiltin P q .len [T] [ρv a] H K
      simp only [vcBuiltin, hm, h3, Pu_some]
      exact hf _ _ _ hr (Stp.refl _ _ _) h4
    · rename_i hm
      obtain ⟨z, h1, h2⟩ := xLen_ok hk
      refine ⟨z, h, h1, rfl, fun {H0 m H ρv q K} hr hρ hf => ?_⟩
      obtain ⟨v, h3, h4⟩ := h2 (hρ a)
      show vcBuiltin P q .len [T] [ρv a] H K
      simp only [vcBuiltin, hm, h3, Pu_some]
      exact hf _ _ _ hr (Stp.refl _ _ _) h4
  · rename_i x y hxs
    obtain ⟨a, b, rfl, rfl, rfl⟩ := map_two hxs
    obtain ⟨z, h1, h2⟩ := xMin_ok hk
    refine ⟨z, h, h1, rfl, fun {H0 m H ρv q K} hr hρ hf => ?_⟩
    obtain ⟨v, h3, h4⟩ := h2 (hρ a) (hρ b)
    show vcBuiltin P q .min _ [ρv a, ρv b] H K
    simp only [vcBuiltin, h3, Pu_some]
    exact hf _ _ _ hr (Stp.refl _ _ _) h4
  · rename_i x y hxs
    obtain ⟨a, b, rfl, rfl, rfl⟩ := map_two hxs
    obtain ⟨z, h1, h2⟩ := xMax_ok hk
    refine ⟨z, h, h1, rfl, fun {H0 m H ρv q K} hr hρ hf => ?_⟩
    obtain ⟨v, h3, h4⟩ := h2 (hρ a) (hρ b)
    show vcBuiltin P q .max _ [ρv a, ρv b] H K
    simp only [vcBuiltin, h3, Pu_some]
    exact hf _ _ _ hr (Stp.refl _ _ _) h4
  · rename_i T T2 s x hxs
    obtain ⟨a, b, rfl, rfl, rfl⟩ := map_two hxs
    split at hk
    · rename_i e2 hu
      obtain ⟨z, h', h1, h2, h3⟩ := xApp_ok hk
      refine ⟨z, h', h1, h2, fun {H0 m H ρv q K} hr hρ hf => ?_⟩
      show vcBuiltin P q .append [T, T2] [ρv a, ρv b] H K
      simp only [vcBuiltin, hu]
      exact forX hr hf fun H' hr' hf' => h3 hr' (hρ a) (hρ b) hf'
    · cases hk
  · rename_i T T2 m' key hxs
    obtain ⟨a, b, rfl, rfl, rfl⟩ := map_two hxs
    obtain ⟨h', h1, h2, h3⟩ := xMapDel_ok hk
    refine ⟨_, h', h1, h2, fun {H0 m H ρv q K} hr hρ hf => ?_⟩
    show vcBuiltin P q .delete [T, T2] [ρv a, ρv b] H K
    simp only [vcBuiltin]
    exact forX hr hf fun H' hr' hf' => h3 hr' (hρ a) (hρ b) fun H'' r1 r2 => hf' _ _ _ r1 r2 (unit_rel m)
  · rename_i T m' hxs
    obtain ⟨a, rfl, rfl⟩ := map_one hxs
    split at hk
    · rename_i hm
      obtain ⟨h', h1, h2, h3⟩ := xMapClr_ok hk
      refine ⟨_, h', h1, h2, fun {H0 m H ρv q K} hr hρ hf => ?_⟩
      show vcBuiltin P q .clear [T] [ρv a] H K
      simp only [vcBuiltin, hm]
      exact forX hr hf fun H' hr' hf' => h3 hr' (hρ a) fun H'' r1 r2 => hf' _ _ _ r1 r2 (unit_rel m)
    · rename_i hm
      obtain ⟨h', h1, h2, h3⟩ := xClr_ok (elemZ_ok he) hk
      refine ⟨_, h', h1, h2, fun {H0 m H ρv q K} hr hρ hf => ?_⟩
      show vcBuiltin P q .clear [T] [ρv a] H K
      simp only [vcBuiltin, hm]
      exact forX hr hf fun H' hr' hf' => h3 hr' (hρ a) fun H'' r1 r2 => hf' _ _ _ r1 r2 (unit_rel m)
  · rename_i T T2 d s hxs
    obtain ⟨a, b, rfl, rfl, rfl⟩ := map_two hxs
    obtain ⟨z, h', h1, h2, h3⟩ := xCopy_ok hk
    refine ⟨z, h', h1, h2, fun {H0 m H ρv q K} hr hρ hf => ?_⟩
    show vcBuiltin P q .copy [T, T2] [ρv a, ρv b] H K
    simp only [vcBuiltin]
    exact forX hr hf fun H' hr' hf' => h3 hr' (hρ a) (hρ b) hf'
  · cases hk

def opsX (ρ : Operand → CV) (xs : Array Operand) : List CV := xs.toList.map ρ
noncomputable def allocZ (Z : List (Nat × CV)) (T : TypeId) : Option (List CV) := match look Z T with | some z => toP z | none => none

noncomputable def xOp (P : Program) (qf : FuncId → Bool) (Z : List (Nat × CV)) (C : List (Nat × Ex)) (dr q : Bool) (o : Oper) (ρ : Operand → CV) (h : CH) (k : CV → CH → Bool) : Bool :=
  match o.op with
  | .move x | .assign x => k (ρ x) h
  | .pick c a b => xIte (ρ c) (k (ρ a) h) (k (ρ b) h)
  | .binOp op T x y _ => (match hardT (P.underlying T) with
    | true => xEq (eqK P T) op (ρ x) (ρ y) h fun v => k v h
    | false => xBin (P.underlying T) op (ρ x) (ρ y) fun v => k v h)
  | .unOp op _ x => xUn op (ρ x) fun v => k v h
  | .convert s d x => (match strT P s d with
    | true => xBytesOf (isStr (P.underlying s)) (appK P d) (ρ x) h k
    | false => (match bytesT P s d with
      | true => xStrOf (ρ x) h fun v => k v h
      | false => xConv (P.underlying s) (P.underlying d) (ρ x) fun v => k v h))
  | .fieldAddr S x f => xAddr (fieldO P S f) (ρ x) fun v => k v h
  | .field S x f => xField (fieldK P S f) (ρ x) fun v => k v h
  | .indexAddr T x i => xIdx (idxK P T) (ρ x) (ρ i) fun v => k v h
  | .index T x i => xIndex (idxVK P T) (ρ x) (ρ i) fun v => k v h
  | .sliceToArrayPointer T x => xArr (arrK P T) (ρ x) fun v => k v h
  | .extract t i => xExtract (ρ t) i fun v => k v h
  | .nilCheck x => xNilCheck (ρ x) fun v => k v h
  | .makeFunc fn first cap => (match fn with | .func f => k (.fn f (opsX ρ first) (opsX ρ cap)) h | _ => false)
  | .build T parts => xBuild (bldK P T) (look Z T) (parts.toList.map fun (i, x) => (i, ρ x)) fun v => k v h
  | .slice T x lo hi mx => (match strU P T with
    | true => xSliceS (ρ x) (lo.map ρ) (hi.map ρ) (mx.map ρ) fun v => k v h
    | false => xSlice (idxK P T) (ρ x) (lo.map ρ) (hi.map ρ) (mx.map ρ) fun v => k v h)
  | .load T a => xLoad (ldK P T) (ρ a) h fun v => k v h
  | .store T a x => xStore (szOf P T) (ρ a) (ρ x) h fun h' => k (.tup []) h'
  | .box T x => xBox T (ρ x) h k
  | .alloc T => (match allocZ Z T with | some ps => xBoxP T ps h k | none => false)
  | .buildSlice T n parts => xNewS (appK P T) (elemZ P Z T) n (parts.toList.map fun (i, x) => (i, ρ x)) h k
  | .lookup T x key ok => xLookup (mapI P T) (look Z (mapET (mapI P T))) ok (ρ x) (ρ key) h fun v => k v h
  | .mapUpdate T m key x => (match mapW P T with
    | some kt => xMapSetW P kt (ρ m) (ρ key) (ρ x) h fun h' => k (.tup []) h'
    | none => xMapSet (mapI P T) (ρ m) (ρ key) (ρ x) h fun h' => k (.tup []) h')
  | .insert T m key x => xMapSet (mapI P T) (ρ m) (ρ key) (ρ x) h fun h' => k (.tup []) h'
  | .makeMap _ none => xNewMap h k
  | .makeSlice T l c => xMake (appK P T) (elemZ P Z T) (ρ l) (ρ c) h k
  | .call c =>
    (match c.callee with
    | .builtin b => xBuiltin P Z b c.argTypes.toList (c.args.toList.map ρ) h k
    | .value (.func f) => (match dr && qf f with
      | true => (match q with | true => ifX (Nat.ble RB f) false (xQuiet (look C f) (opsX ρ c.args) h k) | false => false)
      | false => xCallF C f (opsX ρ c.args) h k)
    | .value x => xCallV C (ρ x) (opsX ρ c.args) h k
    | .invoke _ _ => false)
  | _ => false

theorem xOp_ok {P : Program} {qf : FuncId → Bool} {Z : List (Nat × CV)} {C : List (Nat × Ex)} {dr q : Bool} (he : EnvOk P Z C) {o : Oper} {ρ : Operand → CV} {h : CH} {k : CV → CH → Bool} (hk : xOp P qf Z C dr q o ρ h k = true) :
    ∃ z h', k z h' = true ∧ h'.wp = h.wp ∧ ∀ {H0 m H ρv} {K : Value → Hp → Prop}, Rel H0 m h H → RhoRel m ρ ρv → Fin H0 m h H z h' K → vcOp P qf dr q o ρv H K := by
  have pure1 : ∀ {z : CV} {X : (Operand → Value) → Hp → (Value → Hp → Prop) → Prop}, k z h = true → (∀ {H0 m H ρv} {K : Value → Hp → Prop}, Rel H0 m h H → RhoRel m ρ ρv → (∀ v, Vrel m z v → K v H) → X ρv H K) →
      ∃ z h', k z h' = true ∧ h'.wp = h.wp ∧ ∀ {H0 m H ρv} {K : Value → Hp → Prop}, Rel H0 m h H → RhoRel m ρ ρv → Fin H0 m h H z h' K → X ρv H K :=
    fun hz hX => ⟨_, h, hz, rfl, fun hr hρ hf => hX hr hρ fun v hv => hf _ _ _ hr (Stp.refl _ _ _) hv⟩
  obtain ⟨dst, op, type, pos, after, guard⟩ := o
  unfold xOp at hk
  unfold vcOp
  cases op <;> simp only at hk ⊢ <;> try (cases hk; done)
  case move x => exact pure1 hk fun hr hρ hK => hK _ (hρ x)
  case assign x => exact pure1 hk fun hr hρ hK => hK _ (hρ x)
  case pick c a b =>
    unfold xIte at hk
    split at hk
    · rename_i hc
      refine pure1 hk fun {H0 m H ρv K} hr hρ hK => ?_
      have h1 := hρ c
      rw [hc] at h1
      simp only [Vrel] at h1
      rw [h1]; exact hK _ (hρ a)
    · rename_i hc
      refine pure1 hk fun {H0 m H ρv K} hr hρ hK => ?_
      have h1 := hρ c
      rw [hc] at h1
      simp only [Vrel] at h1
      rw [h1]; exact hK _ (hρ b)
    · cases hk
  case binOp op T x y T2 =>
    cases hh : hardT (P.underlying T) with
    | true =>
      rw [hh] at hk
      obtain ⟨z, h1, h2⟩ := xEq_ok (lit := (isConst x || isConst y)) hk
      refine pure1 h1 fun {H0 m H ρv K} hr hρ hK => ?_
      obtain ⟨v, h3, h4⟩ := h2 hr (hρ x) (hρ y)
      rw [h3, Pu_some]; exact hK _ h4
    | false =>
      rw [hh] at hk
      obtain ⟨z, h1, h2⟩ := xBin_ok hk
      refine pure1 h1 fun {H0 m H ρv K} hr hρ hK => ?_
      obtain ⟨v, h3, h4⟩ := h2 (hρ x) (hρ y)
      rw [h3, Pu_some]; exact hK _ h4
  case unOp op T x =>
    obtain ⟨z, h1, h2⟩ := xUn_ok hk
    refine pure1 h1 fun {H0 m H ρv K} hr hρ hK => ?_
    obtain ⟨v, h3, h4⟩ := h2 (hρ x)
    rw [h3, Pu_some]; exact hK _ h4
  case convert s d x =>
    cases hst : strT P s d with
    | true =>
      rw [hst] at hk
      obtain ⟨z, h', h1, h2, h3⟩ := xBytesOf_ok hst hk
      refine ⟨z, h', h1, h2, fun {H0 m H ρv K} hr hρ hf => ?_⟩
      exact forX hr hf fun H' hr' hf' => h3 hr' (hρ x) hf'
    | false =>
    rw [hst] at hk
    simp only at hk ⊢
    cases hb : bytesT P s d with
    | true =>
      rw [hb] at hk
      obtain ⟨z, h1, h2⟩ := xStrOf_ok hk
      refine pure1 h1 fun {H0 m H ρv K} hr hρ hK => ?_
      obtain ⟨v, h3, h4⟩ := h2 hr (hρ x)
      rw [h3, Pu_some]; exact hK _ h4
    | false =>
      rw [hb] at hk
      obtain ⟨z, h1, h2⟩ := xConv_ok hk
      refine pure1 h1 fun {H0 m H ρv K} hr hρ hK => ?_
      obtain ⟨v, h3, h4⟩ := h2 (hρ x)
      rw [h3, Pu_some]; exact hK _ h4
  case fieldAddr S x f =>
    obtain ⟨z, h1, h2⟩ := xAddr_ok hk
    refine pure1 h1 fun {H0 m H ρv K} hr hρ hK => ?_
    obtain ⟨v, h3, h4⟩ := h2 (hρ x)
    rw [h3, Pu_some]; exact hK _ h4
  case field S x f =>
    obtain ⟨z, h1, h2⟩ := xField_ok hk
    refine pure1 h1 fun {H0 m H ρv K} hr hρ hK => ?_
    obtain ⟨v, h3, h4⟩ := h2 (hρ x)
    rw [h3, Pu_some]; exact hK _ h4
  case indexAddr T x i =>
    obtain ⟨z, h1, h2⟩ := xIdx_ok hk
    refine pure1 h1 fun {H0 m H ρv K} hr hρ hK => ?_
    obtain ⟨v, h3, h4⟩ := h2 (hρ x) (hρ i)
    rw [h3, Pu_some]; exact hK _ h4
  case index T x i =>
    obtain ⟨z, h1, h2⟩ := xIndex_ok hk
    refine pure1 h1 fun {H0 m H ρv K} hr hρ hK => ?_
    obtain ⟨v, h3, h4⟩ := h2 (hρ x) (hρ i)
    rw [h3, Pu_some]; exact hK _ h4
  case sliceToArrayPointer T x =>
    obtain ⟨z, h1, h2⟩ := xArr_ok hk
    refine pure1 h1 fun {H0 m H ρv K} hr hρ hK => ?_
    obtain ⟨v, h3, h4⟩ := h2 (hρ x)
    rw [h3, Pu_some]; exact hK _ h4
  case extract t i =>
    obtain ⟨z, h1, h2⟩ := xExtract_ok hk
    refine pure1 h1 fun {H0 m H ρv K} hr hρ hK => ?_
    obtain ⟨v, h3, h4⟩ := h2 (hρ t)
    rw [h3, Pu_some]; exact hK _ h4
  case nilCheck x =>
    obtain ⟨z, h1, h2⟩ := xNilCheck_ok hk
    refine pure1 h1 fun {H0 m H ρv K} hr hρ hK => ?_
    obtain ⟨v, h3, h4⟩ := h2 (hρ x)
    rw [h3, Pu_some]; exact hK _ h4
  case makeFunc fn first cap =>
    split at hk
    · rename_i f
      refine pure1 hk fun {H0 m H ρv K} hr hρ hK => hK _ ⟨_, _, rfl, ?_, ?_⟩
      · exact Vrels_map hρ first.toList
      · exact Vrels_map hρ cap.toList
    · cases hk
  case build T parts =>
    obtain ⟨z, h1, h2⟩ := xBuild_ok (fun z hz => look_ok he.z hz) hk
    refine pure1 h1 fun {H0 m H ρv K} hr hρ hK => ?_
    obtain ⟨v, h3, h4⟩ := h2 (Prels_map hρ parts.toList)
    unfold partsOf
    rw [h3, Pu_some]; exact hK _ h4
  case slice T x lo hi mx =>
    have hq : ∃ z, k z h = true ∧ ∀ {m vx vlo vhi vmx}, Vrel m (ρ x) vx → Orl m (lo.map ρ) vlo → Orl m (hi.map ρ) vhi → Orl m (mx.map ρ) vmx → ∃ v, sliceE P T vx vlo vhi vmx = some v ∧ Vrel m z v := by
      cases hsu : strU P T with
      | true => rw [hsu] at hk; exact xSliceS_ok hsu hk
      | false => rw [hsu] at hk; exact xSlice_ok hk
    obtain ⟨z, h1, h2⟩ := hq
    refine pure1 h1 fun {H0 m H ρv K} hr hρ hK => ?_
    obtain ⟨v, h3, h4⟩ := h2 (hρ x) (Orl_map hρ lo) (Orl_map hρ hi) (Orl_map hρ mx)
    rw [h3, Pu_some]; exact hK _ h4
  case load T a =>
    obtain ⟨z, h1, h2⟩ := xLoad_ok hk
    refine pure1 h1 fun {H0 m H ρv K} hr hρ hK => ?_
    obtain ⟨v, h3, h4⟩ := h2 hr (hρ a)
    rw [h3, Pu_some]; exact hK _ h4
  case store T a x =>
    obtain ⟨h', h1, h2, h3⟩ := xStore_ok hk
    refine ⟨_, h', h1, h2, fun {H0 m H ρv K} hr hρ hf => ?_⟩
    exact forX hr hf fun H' hr' hf' => h3 hr' (hρ a) (hρ x) fun H'' r1 r2 => hf' _ _ _ r1 r2 (unit_rel m)
  case box T x =>
    obtain ⟨z, h', h1, h2, h3⟩ := xBox_ok hk
    refine ⟨z, h', h1, h2, fun {H0 m H ρv K} hr hρ hf => ?_⟩
    exact forX hr hf fun H' hr' hf' => h3 hr' (hρ x) hf'
  case alloc T =>
    unfold allocZ at hk
    split at hk
    · rename_i ps hps
      split at hps
      · rename_i zv hz
        obtain ⟨z, h', h1, h2, h3⟩ := xBoxP_ok hk
        refine ⟨z, h', h1, h2, fun {H0 m H ρv K} hr hρ hf => ?_⟩
        obtain ⟨v, h4, h5⟩ := (look_ok he.z hz).ok hps
        refine forX hr hf fun H' hr' hf' => ?_
        rw [h4, Pu_some]
        exact h3 hr' (h5 m) hf'
      · cases hps
    · cases hk
  case buildSlice T n parts =>
    obtain ⟨z, h', h1, h2, h3⟩ := xNewS_ok (elemZ_ok he) hk
    refine ⟨z, h', h1, h2, fun {H0 m H ρv K} hr hρ hf => ?_⟩
    exact forX hr hf fun H' hr' hf' => h3 hr' (Prels_map hρ parts.toList) hf'
  case lookup T x key ok =>
    obtain ⟨z, h1, h2⟩ := xLookup_ok (P := P) (fun a b c z hm hz => by
      rw [hm] at hz
      exact look_ok he.z hz) hk
    refine pure1 h1 fun {H0 m H ρv K} hr hρ hK => ?_
    obtain ⟨v, h3, h4⟩ := h2 hr (hρ x) (hρ key)
    rw [h3, Pu_some]; exact hK _ h4
  case mapUpdate T m' key x =>
    cases hmw : mapW P T with
    | some kt =>
      rw [hmw] at hk
      obtain ⟨h', h1, h2, h3⟩ := xMapSetW_ok hk
      refine ⟨_, h', h1, h2, fun {H0 m H ρv K} hr hρ hf => ?_⟩
      exact forX hr hf fun H' hr' hf' => h3 hr' (hρ m') (hρ key) (hρ x) fun H'' r1 r2 => hf' _ _ _ r1 r2 (unit_rel m)
    | none =>
      rw [hmw] at hk
      obtain ⟨h', h1, h2, h3⟩ := xMapSet_ok hk
      refine ⟨_, h', h1, h2, fun {H0 m H ρv K} hr hρ hf => ?_⟩
      exact forX hr hf fun H' hr' hf' => h3 hr' (hρ m') (hρ key) (hρ x) fun H'' r1 r2 => hf' _ _ _ r1 r2 (unit_rel m)
  case insert T m' key x =>
    obtain ⟨h', h1, h2, h3⟩ := xMapSet_ok hk
    refine ⟨_, h', h1, h2, fun {H0 m H ρv K} hr hρ hf => ?_⟩
    exact forX hr hf fun H' hr' hf' => h3 hr' (hρ m') (hρ key) (hρ x) fun H'' r1 r2 => hf' _ _ _ r1 r2 (unit_rel m)
  case makeMap t r =>
    cases r with
    | some r => cases hk
    | none =>
      obtain ⟨z, h', h1, h2, h3⟩ := xNewMap_ok hk
      refine ⟨z, h', h1, h2, fun {H0 m H ρv K} hr hρ hf => ?_⟩
      exact forX hr hf fun H' hr' hf' => h3 hr' hf'
  case makeSlice T l c =>
    obtain ⟨z, h', h1, h2, h3⟩ := xMake_ok (elemZ_ok he) hk
    refine ⟨z, h', h1, h2, fun {H0 m H ρv K} hr hρ hf => ?_⟩
    exact forX hr hf fun H' hr' hf' => h3 hr' (hρ l) (hρ c) hf'
  case call c =>
    obtain ⟨callee, args, ats⟩ := c
    cases callee <;> simp only at hk ⊢ <;> try (cases hk; done)
    case builtin b =>
      obtain ⟨z, h', h1, h2, h3⟩ := xBuiltin_ok he hk
      exact ⟨z, h', h1, h2, fun {H0 m H ρv K} hr hρ hf => h3 hr hρ hf⟩
    case value x =>
      by_cases hx : ∃ f, x = .func f
      · obtain ⟨f, rfl⟩ := hx
        simp only at hk ⊢
        cases hq : (dr && qf f) with
        | true =>
          rw [hq] at hk
          cases q with
          | false => cases hk
          | true =>
            simp only at hk
            rw [ifX_eq] at hk
            split at hk
            · cases hk
            · rename_i hRB
              unfold xQuiet at hk
              split at hk
              · rename_i ex t n wp hl
                obtain ⟨h1, _⟩ := look_ok (Q := fun f ex => (Nat.ble RB f = false → enterB P f = true ∧ SimF P f ex) ∧ ∀ n, f = RB + n → SimRd P n ex) he.c hl
                obtain ⟨hen, hsim⟩ := h1 (eq_false_of_ne_true hRB)
                obtain ⟨z, h', h1, h2, h3⟩ := hsim _ _ _ hk
                split at h1
                · rename_i v hv
                  refine ⟨z, _, h1, rfl, fun {H0 m H ρv K} hr hρ hf => ?_⟩
                  rw [if_pos hen]
                  simp only [if_true]
                  refine ⟨v, fun H' hx => ?_, hf _ _ _ hr (Stp.refl _ _ _) (plainX_rel hv m)⟩
                  have hr' : Rel H0 m (.mk t n n) H' := by
                    have := hr.ext' hx
                    exact ⟨this.ext, this.len, this.new, this.obj, this.inj, this.low⟩
                  have := h3 (K := fun u H'' => u = v ∧ Ext H' H'') hr' (Vrels_map hρ args.toList) (fun m' H'' u r1 r2 r3 => ⟨plainX_ok hv r3, r2.kp.ext fun b hb hw => by
                    obtain ⟨i, e, hi, hge, _⟩ := hw
                    have hl2 : m.length = n := hr.len
                    simp only [CH.wp] at hge
                    rw [List.getElem?_eq_none (by omega)] at hi
                    cases hi⟩)
                  unfold opsA
                  exact this
                · cases h1
              · cases hk
        | false =>
          rw [hq] at hk
          simp only at hk
          obtain ⟨hen, z, h', h1, h2, h3⟩ := xCallF_ok he hk
          refine ⟨z, h', h1, h2, fun {H0 m H ρv K} hr hρ hf => ?_⟩
          rw [if_pos hen]
          simp only [Bool.false_eq_true, if_false]
          exact forX hr hf fun H' hr' hf' => h3 hr' (Vrels_map hρ args.toList) hf'
      · have hk' : xCallV C (ρ x) (opsX ρ args) h k = true := by
          cases x <;> first | exact hk | exact absurd ⟨_, rfl⟩ hx
        obtain ⟨z, h', h1, h2, h3⟩ := xCallV_ok he hk'
        refine ⟨z, h', h1, h2, fun {H0 m H ρv K} hr hρ hf => ?_⟩
        have hgoal : ForX q H fun H => CallV P (ρv x) (opsA ρv args) H K :=
          forX hr hf fun H' hr' hf' => h3 hr' (hρ x) (Vrels_map hρ args.toList) hf'
        cases x <;> first | exact hgoal | exact absurd ⟨_, rfl⟩ hx
end Go.Xc
