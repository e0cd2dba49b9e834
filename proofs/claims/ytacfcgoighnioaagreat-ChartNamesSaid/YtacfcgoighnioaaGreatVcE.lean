/- Vc, part E: single operations as conditions on what follows; that they are sound. -/
import Derived.Test.YtacfcgoighnioaaGreatVcD
set_option linter.unusedVariables false
set_option linter.unusedSimpArgs false
namespace Go.Vc

/-- What a partial function yields, K holds of. -/
inductive Pu {α : Type} (e : Option α) (K : α → Prop) : Prop
  | mk (v : α) (he : e = some v) (hk : K v)
def Ite (c : Value) (A B : Prop) : Prop :=
  match c with
  | .bool true => A
  | .bool false => B
  | _ => False
def ForX (q : Bool) (H : Hp) (K : Hp → Prop) : Prop :=
  match q with
  | true => ∀ H', Ext H H' → K H'
  | false => K H
/-- A quiet call. -/
def QC (q : Bool) (P : Program) (f : FuncId) (args : Array Value) (H : Hp) (v : Value) : Prop :=
  ∀ H', Ex q H H' → Fc P f args H' fun u H'' => u = v ∧ Ex q H' H''
def Yld (P : Program) (l : Nat) (args : Array Value) (H : Hp) (K : Value → Hp → Prop) : Prop :=
  match H[l]? with
  | some (.loop r) => args.size = r.params.size ∧ Rnd P l r.fn ((r.params.zip args).foldl (fun tmps (t, a) => tmps.setIfInBounds t a) r.tmps) r.assign r.body H K
  | _ => False
def enterB (P : Program) (f : FuncId) : Bool :=
  match P.funcs[f]? with
  | some fn => !(fn.name == "runtime.NumGoroutine") && fn.body.isSome
  | none => false
/-- A function value is called. -/
def CallV (P : Program) (y : Value) (args : Array Value) (H : Hp) (K : Value → Hp → Prop) : Prop :=
  match y with
  | .func (.func f) first cap => enterB P f = true ∧ Fc P f (((first.toList ++ args.toList) ++ cap.toList).toArray) H K
  | .func (.yield l) first _ => Yld P l ((first.toList ++ args.toList).toArray) H K
  | _ => False

theorem Pu.mono {α : Type} {e : Option α} {K K' : α → Prop} (hk : ∀ v, K v → K' v) (h : Pu e K) : Pu e K' := by
  obtain ⟨v, he, h⟩ := h; exact ⟨v, he, hk v h⟩
theorem Pu_some {α : Type} {v : α} {K : α → Prop} : Pu (some v) K = K v := by
  apply propext
  exact ⟨fun h => (by obtain ⟨u, hu, hk⟩ := h; injection hu with hu; subst hu; exact hk), fun h => ⟨v, rfl, h⟩⟩
theorem Pu_none {α : Type} {K : α → Prop} : Pu none K = False := by
  apply propext
  exact ⟨fun h => (by obtain ⟨u, hu, hk⟩ := h; cases hu), fun h => h.elim⟩
theorem Pu.get {α : Type} {e : Option α} {K : α → Prop} (h : Pu e K) : ∃ v, e = some v ∧ K v := by
  obtain ⟨v, he, h⟩ := h; exact ⟨v, he, h⟩
theorem Ite.mono {c : Value} {A B A' B' : Prop} (ha : A → A') (hb : B → B') (h : Ite c A B) : Ite c A' B' := by
  unfold Ite at *
  split at h
  · exact ha h
  · exact hb h
  · exact h.elim
theorem ForX.mono {q : Bool} {H : Hp} {K K' : Hp → Prop} (hk : ∀ H', K H' → K' H') (h : ForX q H K) : ForX q H K' := by
  cases q
  · exact hk _ h
  · exact fun H' hx => hk _ (h H' hx)
theorem ForX.ex {q : Bool} {H H' : Hp} {K : Hp → Prop} (h : ForX q H K) (hx : Ex q H H') : K H' := by
  cases q
  · cases hx; exact h
  · exact h H' hx

theorem loadE_ext {k : Option (Option Nat)} {p v : Value} {H H' : Hp} (hx : Ext H H') (h : loadE k p H = some v) : loadE k p H' = some v := by
  unfold loadE at *
  split at h
  · rename_i a
    unfold cellH at *
    split at h
    · rename_i c T fr hb; simp only [hx.at hb]; exact h
    · cases h
  · rename_i n a
    simp only [Option.map_eq_some_iff] at *
    obtain ⟨cs, h1, h2⟩ := h
    refine ⟨cs, ?_, h2⟩
    unfold rowH at *
    split at h1
    · rename_i c T fr hb; simp only [hx.at hb]; exact h1
    · cases h1
  · cases h

/-! ### Stores, new blocks -/
def szOf (P : Program) (T : TypeId) : Option Nat := (P.info? T).map fun i => i.size
def storeE (n : Option Nat) (p v : Value) (H : Hp) : Option Hp :=
  match p with
  | .pointer (some a) => if n = some v.cells.size then putH H a v.cells else none
  | _ => none
def zeroE (P : Program) (T : TypeId) : Option Value := (P.info? T).bind fun i => i.zero

theorem putH_ok {P : Program} {a : Addr} {vs : Array Value} {w : World} {H' : Hp} (h : putH w.heap a vs = some H') : ∃ w', (storeCells a vs.toList).run P w = .ok () w' ∧ Sm w w' ∧ w'.heap = H' := by
  unfold putH at h
  split at h
  · rename_i c U hb
    split at h
    · rename_i hc
      injection h with h
      have hall : ∀ u ∈ vs.toList, u.oneCell' = true := fun u hu => (Array.all_eq_true'.1 hc.2.2) u (by simpa using hu)
      obtain ⟨w', h1, h2, h3⟩ := storeCells_ok (P := P) a U hc.1 vs.toList 0 c w hb (by simp; omega) hall
      exact ⟨w', h1, h2, by rw [h3, ← h]; simp⟩
    · cases h
  · cases h

theorem storeVar_ok {P : Program} {T : TypeId} {a : Addr} {w : World} {v : Value} {H' : Hp} (h : storeE (szOf P T) (.pointer (some a)) v w.heap = some H') : ∃ w', (storeVar T a v).run P w = .ok () w' ∧ Sm w w' ∧ w'.heap = H' := by
  unfold storeE szOf at h
  simp only at h
  split at h
  · rename_i hs
    obtain ⟨w', h1, h2, h3⟩ := putH_ok (P := P) h
    refine ⟨w', ?_, h2, h3⟩
    simp only [Option.map_eq_some_iff] at hs
    obtain ⟨i, hi, hz⟩ := hs
    simp [storeVar, sizeOf, typeInfo, hi, ← hz, h1]
  · cases h

/-! ### append, literals of slices -/
/-- A slice's cells. -/
def cellsS (es : Nat) (s : Value) (H : Hp) : Option (Array Value) :=
  match s with
  | .slice (some a) n _ => rowH H a (n * es)
  | .slice none 0 _ => some #[]
  | _ => none
def lenS (s : Value) : Nat := match s with | .slice _ n _ => n | _ => 0
structure ElemI where
  type : TypeId
  size : Nat
  bytes : Nat
  zero : Array Value
def elemI (P : Program) (T : TypeId) : Option ElemI :=
  match P.underlying T with
  | some (.slice e) => match P.info? e with
    | some i => i.zero.map fun z => ⟨e, i.size, i.bytes, z.cells⟩
    | none => none
  | _ => none

/-- What an append leaves: written into the spare room, or in a new row of whatever capacity. -/
def App (e : ElemI) (s : Value) (new : Array Value) (n : Nat) (H : Hp) (K : Value → Hp → Prop) : Prop :=
  match s with
  | .slice base sLen sCap =>
    if sLen + n ≤ sCap then
      match base with
      | some a => Pu (putH H (a.add (sLen * e.size)) new) fun H' => K (.slice base (sLen + n) sCap) H'
      | none => new = #[] ∧ K (.slice base (sLen + n) sCap) H
    else 0 < e.bytes ∧ (sLen + n) * e.bytes ≤ 2 ^ 47 ∧ Pu (cellsS e.size s H) fun old =>
      ∀ cap, sLen + n ≤ cap → K (.slice (some ⟨H.size, 0, none⟩) (sLen + n) cap) (H.push (.cells (old ++ new ++ Builtin.zeroCells e.zero (cap - (sLen + n))) e.type))
  | _ => False

/-- append(s, x...), x a slice. -/
def AppS (e : Option ElemI) (s x : Value) (H : Hp) (K : Value → Hp → Prop) : Prop :=
  Pu e fun e => Pu (cellsS e.size x H) fun new => App e s new (lenS x) H K

def newSliceE (e : Option ElemI) (len : Nat) (parts : List (Nat × Value)) : Option (Array Value) :=
  match e with
  | some e => if len * e.size > 2 ^ 24 ∨ len * e.size = 0 then none else Instr.fill (fun i => some (i * e.size, e.size)) ((Array.range (len * e.size)).map (e.zero[· % e.zero.size]!)) parts
  | none => none

theorem elemI_spec {P : Program} {T : TypeId} {e : ElemI} (h : elemI P T = some e) : P.underlying T = some (.slice e.type) ∧ ∃ i z, P.info? e.type = some i ∧ i.size = e.size ∧ i.bytes = e.bytes ∧ i.zero = some z ∧ z.cells = e.zero := by
  unfold elemI at h
  split at h
  · rename_i t hu
    split at h
    · rename_i i hi
      simp only [Option.map_eq_some_iff] at h
      obtain ⟨z, hz, rfl⟩ := h
      exact ⟨hu, i, z, hi, rfl, rfl, hz, rfl⟩
    · cases h
  · cases h

theorem firstCells_ok {P : Program} {w : World} {es : Nat} {x : Value} {cs : Array Value} (h : cellsS es x w.heap = some cs) : (Builtin.firstCells es (lenS x) x).run P w = .ok cs w ∧ ∃ a c, x = .slice a (lenS x) c := by
  unfold cellsS at h
  split at h
  · rename_i a n c
    exact ⟨by simp [Builtin.firstCells, lenS, loadCells_ok h], some a, c, rfl⟩
  · injection h with h; subst h; exact ⟨by simp [Builtin.firstCells, lenS], none, _, rfl⟩
  · cases h

theorem nextslicecap_small {need old : Nat} (h : old < need) : Builtin.nextslicecap need old ≤ 2 * need := by
  have step : ∀ (r c : Nat), 256 ≤ c → c ≤ 2 * need → Builtin.growBy need r c ≤ 2 * need := by
    intro r
    induction r with
    | zero => intro c _ hc; simp only [Builtin.growBy]; omega
    | succ r ih =>
      intro c hc0 hc
      simp only [Builtin.growBy]
      split
      · omega
      · exact ih _ (by omega) (by omega)
  unfold Builtin.nextslicecap
  split
  · omega
  · split
    · omega
    · exact step 4 old (by omega) (by omega)

theorem append_ok {P : Program} {T T2 R : TypeId} {e : ElemI} (he : elemI P T = some e) (ht : ∃ e2, P.underlying T2 = some (.slice e2)) {s x : Value} {H : Hp} {K : Value → Hp → Prop}
    (h : AppS (some e) s x H K) {w : World} (hw : w.heap = H) : ∃ v w', (Builtin.append_ #[T, T2] R #[s, x]).run P w = .ok v w' ∧ Sm w w' ∧ K v w'.heap := by
  subst hw
  obtain ⟨hu, i, z, hi, hsz, hby, hz, hzc⟩ := elemI_spec he
  obtain ⟨e2, hu2⟩ := ht
  unfold AppS at h
  rw [Pu_some] at h
  obtain ⟨new, hnew, h⟩ := h
  · skip
    obtain ⟨hf, ax, cx, hx⟩ := firstCells_ok (P := P) hnew
    generalize lenS x = n at hf hx h
    subst hx
    unfold App at h
    cases s <;> simp only at h <;> try exact h.elim
    rename_i base sLen sCap
    by_cases hle : sLen + n ≤ sCap
    · rw [if_pos hle] at h
      cases base with
      | none =>
        obtain ⟨rfl, hk⟩ := h
        refine ⟨_, w, ?_, Sm.refl w, hk⟩
        simp [Builtin.append_, underlying, hu, hu2, sizeOf, typeInfo, hi, hsz, Builtin.lenOf, hle, hf]
      | some a =>
        obtain ⟨H', hp, h⟩ := h
        · skip
          obtain ⟨w', h1, h2, h3⟩ := putH_ok (P := P) hp
          refine ⟨_, w', ?_, h2, by rw [h3]; exact h⟩
          simp [Builtin.append_, underlying, hu, hu2, sizeOf, typeInfo, hi, hsz, Builtin.lenOf, hle, hf, h1]
    · rw [if_neg hle] at h
      obtain ⟨hb0, hb, h⟩ := h
      obtain ⟨old, hold, h⟩ := h
      · skip
        obtain ⟨ho, _⟩ := firstCells_ok (P := P) hold
        simp only [lenS] at ho
        have hn := nextslicecap_small (need := sLen + n) (old := sCap) (by omega)
        have h2 : ¬ 2 ^ 48 < Builtin.nextslicecap (sLen + n) sCap * i.bytes := by
          have h3 : Builtin.nextslicecap (sLen + n) sCap * i.bytes ≤ 2 * (sLen + n) * e.bytes := by rw [hby]; exact Nat.mul_le_mul_right _ hn
          have h4 : 2 * (sLen + n) * e.bytes = 2 * ((sLen + n) * e.bytes) := Nat.mul_assoc _ _ _
          omega
        have h5 : ¬ i.bytes = 0 := by omega
        have ho' : (Builtin.firstCells e.size sLen (.slice base sLen sCap)).run P w.drew = .ok old w.drew := by
          have := (firstCells_ok (P := P) (w := w.drew) (x := .slice base sLen sCap) hold).1
          simpa only [lenS] using this
        have hf' : (Builtin.firstCells e.size n (.slice ax n cx)).run P w.drew = .ok new w.drew := by
          have := (firstCells_ok (P := P) (w := w.drew) (x := .slice ax n cx) hnew).1
          simpa only [lenS] using this
        obtain ⟨cap, hcap⟩ : ∃ cap, cap = Question.cut (.appendCap (sLen + n) sCap e.type) (w.tape w.drawn (.appendCap (sLen + n) sCap e.type)) := ⟨_, rfl⟩
        have hle2 : sLen + n ≤ cap := by rw [hcap]; simp [Question.cut]
        refine ⟨_, w.drew.alloc (.cells (old ++ new ++ Builtin.zeroCells e.zero (cap - (sLen + n))) e.type), ?_, ⟨rfl, rfl, rfl⟩, h cap hle2⟩
        simp [Builtin.append_, underlying, hu, hu2, sizeOf, typeInfo, hi, hsz, Builtin.lenOf, hle, h2, h5, Question.forced, ho', hf', zeroValue, hz, hzc, newRow, ← hcap]
end Go.Vc
