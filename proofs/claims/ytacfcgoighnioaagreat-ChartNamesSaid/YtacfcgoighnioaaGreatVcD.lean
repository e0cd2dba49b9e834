/- Vc, part D: operations as plain partial functions; the model's operations come to just that. -/
import Derived.Test.YtacfcgoighnioaaGreatVcC
set_option linter.unusedVariables false
set_option linter.unusedSimpArgs false
namespace Go.Vc

/-! ### Numbers, bools, pointers against nil -/
def bitsE (op : BinOp) (k : IntKind) (a b : Int) : Int :=
  let x := BitVec.ofInt k.bits a
  let y := BitVec.ofInt k.bits b
  k.wrap ((match op with | .and => x &&& y | .or => x ||| y | .xor => x ^^^ y | _ => x &&& ~~~y).toNat)

def binI (op : BinOp) (k : IntKind) (a b : Int) : Option Value :=
  match op with
  | .add => some (.int k (k.wrap (a + b)))
  | .sub => some (.int k (k.wrap (a - b)))
  | .mul => some (.int k (k.wrap (a * b)))
  | .quo => if b = 0 then none else some (.int k (k.wrap (a.tdiv b)))
  | .rem => if b = 0 then none else some (.int k (a.tmod b))
  | .and => some (.int k (bitsE .and k a b))
  | .or => some (.int k (bitsE .or k a b))
  | .xor => some (.int k (bitsE .xor k a b))
  | .andNot => some (.int k (bitsE .andNot k a b))
  | .eql => some (.bool (a == b))
  | .neq => some (.bool (a != b))
  | .lss => some (.bool (a < b))
  | .leq => some (.bool (a ≤ b))
  | .gtr => some (.bool (a > b))
  | .geq => some (.bool (a ≥ b))
  | .shl => if b < 0 then none else some (.int k (k.wrap (a * 2 ^ (min b.toNat k.bits))))
  | .shr => if b < 0 then none else some (.int k (a.fdiv (2 ^ (min b.toNat k.bits))))

def isShift : BinOp → Bool
  | .shl | .shr => true
  | _ => false

def strE (op : BinOp) (x y : ByteArray) : Option Value :=
  match op with
  | .add => if ((x.size + y.size : Nat) : Int) > IntKind.i64.max then none else some (.string (x ++ y))
  | .eql => some (.bool (x.toList == y.toList))
  | .neq => some (.bool !(x.toList == y.toList))
  | .lss => some (.bool (Op.bytesLess x.toList y.toList))
  | .leq => some (.bool (Op.bytesLess x.toList y.toList || x.toList == y.toList))
  | .gtr => some (.bool !(Op.bytesLess x.toList y.toList || x.toList == y.toList))
  | .geq => some (.bool !(Op.bytesLess x.toList y.toList))
  | _ => none

/-- Against nil. -/
def nilE (td : Option TypeDesc) (x y : Value) : Option Bool :=
  match td, x, y with
  | some (.pointer _), .pointer none, .pointer b => some b.isNone
  | some (.pointer _), .pointer (some _), .pointer none => some false
  | some (.slice _), .slice none _ _, .slice b _ _ => some b.isNone
  | some (.slice _), .slice (some _) _ _, .slice none _ _ => some false
  | some (.map _ _), .map none, .map b => some b.isNone
  | some (.map _ _), .map (some _), .map none => some false
  | some (.func _ _ _), .nilFunc, .nilFunc => some true
  | some (.func _ _ _), .nilFunc, .func _ _ _ => some false
  | some (.func _ _ _), .func _ _ _, .nilFunc => some false
  | some .bool, .bool a, .bool b => some (a == b)
  | _, _, _ => none

def binE (td : Option TypeDesc) (op : BinOp) (x y : Value) : Option Value :=
  match x, y with
  | .int k a, .int k' b => if isShift op || k == k' then binI op k a b else none
  | .string a, .string b => strE op a b
  | _, _ =>
    match op with
    | .eql => (nilE td x y).map .bool
    | .neq => (nilE td x y).map fun b => .bool (!b)
    | _ => none

section
variable {P : Program} {w : World}

theorem eqGuard_plain {op : BinOp} {t : TypeId} {x y : Operand} {a b : Value} (h : ∀ xs ys, ¬ (a = .agg xs ∧ b = .agg ys)) (h' : ¬ (a = .nilIface ∧ b = .nilIface)) : (eqGuard op t x y a b).run P w = .ok () w := by
  unfold eqGuard
  cases op <;> simp <;> (split <;> simp_all)

theorem binI_ok {op : BinOp} {T : TypeId} {k k' : IntKind} {a b : Int} {v : Value} (hk : (isShift op || k == k') = true) (h : binI op k a b = some v) : (binOp op T (.int k a) (.int k' b)).run P w = .ok v w := by
  cases op <;> simp only [binI, isShift, Bool.false_or, beq_iff_eq, Option.some.injEq, Bool.true_or] at h hk <;> (try subst hk) <;>
    first
      | (subst h; simp [binOp, Op.intArith, Op.intBits, Op.intCmp, bitsE]; done)
      | (split at h
         · cases h
         · injection h with h; subst h; rename_i hb; simp [binOp, Op.intDiv, Op.shift, hb])

theorem strE_ok {op : BinOp} {T : TypeId} {a b : ByteArray} {v : Value} (h : strE op a b = some v) : (binOp op T (.string a) (.string b)).run P w = .ok v w := by
  cases op <;> simp only [strE, Option.some.injEq] at h <;>
    first
      | (cases h; done)
      | (subst h; simp [binOp, Op.stringOp]; done)
      | (split at h
         · cases h
         · injection h with h; subst h; rename_i hb; simp only [binOp, Op.stringOp]; rw [if_neg hb]; rfl)

theorem nilE_in {d : Nat} {T : TypeId} {x y : Value} {b : Bool} (h : nilE (P.underlying T) x y = some b) : (Op.equalIn (d + 1) T x y).run P w = .ok b w := by
  unfold nilE at h
  split at h <;> first
    | (cases h; done)
    | (rename_i hu; injection h with h; subst h; simp [Op.equalIn, underlying, hu]; done)
theorem nilE_ok {T : TypeId} {x y : Value} {b : Bool} (h : nilE (P.underlying T) x y = some b) : (Op.equal T x y).run P w = .ok b w := nilE_in (d := 9999) h
theorem nilE_plain {td : Option TypeDesc} {x y : Value} {b : Bool} (h : nilE td x y = some b) : (∀ xs ys, ¬ (x = .agg xs ∧ y = .agg ys)) ∧ ¬ (x = .nilIface ∧ y = .nilIface) := by
  unfold nilE at h
  split at h <;> first | (cases h; done) | exact ⟨by simp, by simp⟩

theorem binE_ok {op : BinOp} {T : TypeId} {xo yo : Operand} {x y v : Value} (h : binE (P.underlying T) op x y = some v) :
    (do eqGuard op T xo yo x y; binOp op T x y : Sem Value).run P w = .ok v w := by
  unfold binE at h
  split at h
  · rename_i k a k' b
    split at h
    · rename_i hk
      simp only [Sem.run_bind]; rw [eqGuard_plain (by simp) (by simp)]; simp only [Result.andThen_ok]; exact binI_ok hk h
    · cases h
  · simp only [Sem.run_bind]; rw [eqGuard_plain (by simp) (by simp)]; simp only [Result.andThen_ok]; exact strE_ok h
  · split at h
    · simp only [Option.map_eq_some_iff] at h
      obtain ⟨b, hb, rfl⟩ := h
      have hn := nilE_ok (w := w) hb
      have hp := nilE_plain hb
      simp only [Sem.run_bind]; rw [eqGuard_plain hp.1 hp.2]; simp only [Result.andThen_ok]
      have : binOp .eql T x y = (do pure (.bool (← Op.equal T x y)) : Sem Value) := by
        unfold nilE at hb
        split at hb <;> first | rfl | (cases hb; done)
      rw [this]; simp [hn]
    · simp only [Option.map_eq_some_iff] at h
      obtain ⟨b, hb, rfl⟩ := h
      have hn := nilE_ok (w := w) hb
      have hp := nilE_plain hb
      simp only [Sem.run_bind]; rw [eqGuard_plain hp.1 hp.2]; simp only [Result.andThen_ok]
      have : binOp .neq T x y = (do pure (.bool (!(← Op.equal T x y))) : Sem Value) := by
        unfold nilE at hb
        split at hb <;> first | rfl | (cases hb; done)
      rw [this]; simp [hn]
    · cases h
end

def unE (op : UnOp) (x : Value) : Option Value :=
  match op, x with
  | .not, .bool b => some (.bool !b)
  | .neg, .int k n => some (.int k (k.wrap (0 - n)))
  | .xor, .int k n => some (.int k (bitsE .xor k (if k.signed then -1 else k.max) n))
  | _, _ => none

theorem unE_ok {P : Program} {w : World} {op : UnOp} {x v : Value} (h : unE op x = some v) : (Op.unary op x).run P w = .ok v w := by
  unfold unE at h
  split at h <;> first | (cases h; done) | (injection h with h; subst h; simp [Op.unary, Op.intArith, Op.intBits, bitsE]; done)

/-- Conversions of numbers to numbers, of strings to strings. -/
def convE (s d : Option TypeDesc) (x : Value) : Option Value :=
  match s, d, x with
  | some (.int _), some (.int k), .int _ n => some (.int k (k.wrap n))
  | some .string, some .string, .string b => some (.string b)
  | _, _, _ => none

theorem convE_ok {P : Program} {w : World} {S D : TypeId} {x v : Value} (h : convE (P.underlying S) (P.underlying D) x = some v) : (convert S D x).run P w = .ok v w := by
  unfold convE at h
  split at h <;> first | (cases h; done) | (rename_i h1 h2; injection h with h; subst h; simp [convert, underlying, h1, h2, Conv.intToInt]; done)

/-! ### Addresses -/
def fieldO (P : Program) (S : TypeId) (f : Nat) : Option Nat :=
  match P.underlying S with
  | some (.struct fields) =>
    match fields[f]? with
    | some fd => match P.info? fd.type with
      | some i => if i.size = 0 then none else some fd.offset
      | none => none
    | none => none
  | _ => none
def addrE (off : Option Nat) (x : Value) : Option Value :=
  match off, x with
  | some o, .pointer (some a) => some (.pointer (some (a.add o)))
  | _, _ => none

theorem fieldAt_ok {P : Program} {w : World} {S : TypeId} {x v : Value} {f : Nat} (h : addrE (fieldO P S f) x = some v) : (Instr.fieldAt S x f).run P w = .ok v w := by
  unfold addrE at h
  split at h
  · rename_i o a ho
    injection h with h; subst h
    unfold fieldO at ho
    split at ho
    · rename_i fields hu
      split at ho
      · rename_i fd hf
        split at ho
        · rename_i i hi
          split at ho
          · cases ho
          · rename_i hz
            injection ho with ho; subst ho
            simp [Instr.fieldAt, underlying, hu, hf, Instr.sureAddr, fieldPlace, sizeOf, typeInfo, hi, hz]
        · cases ho
      · cases ho
    · cases ho
  · cases h

/-- Of an array or a slice: its length (an array's), the cells of an element. -/
def idxK (P : Program) (T : TypeId) : Option (Option Nat × Nat) :=
  match P.underlying T with
  | some (.array n e) => (P.info? e).map fun i => (some n, i.size)
  | some (.slice e) => (P.info? e).map fun i => (none, i.size)
  | _ => none
def idxAddrE (k : Option (Option Nat × Nat)) (x i : Value) : Option Value :=
  match k, x, i with
  | some (some n, s), .pointer (some a), .int _ j => if 0 ≤ j ∧ j < n then some (.pointer (some (a.add (j.toNat * s)))) else none
  | some (none, s), .slice (some a) n _, .int _ j => if 0 ≤ j ∧ j < n then some (.pointer (some (a.add (j.toNat * s)))) else none
  | _, _, _ => none

/-- A slice's array. -/
def arrK (P : Program) (T : TypeId) : Option Nat :=
  match P.underlying T with
  | some (.array n _) => some n
  | _ => none
def arrE (n : Option Nat) (x : Value) : Option Value :=
  match n, x with
  | some n, .slice (some a) l _ => if n ≤ l then some (.pointer (some a)) else none
  | _, _ => none
theorem arrayAt_ok {P : Program} {w : World} {T : TypeId} {x v : Value} (h : arrE (arrK P T) x = some v) : (Instr.arrayAt T x).run P w = .ok v w := by
  unfold arrE at h
  split at h
  · rename_i n a l c hk
    split at h
    · rename_i hl
      injection h with h; subst h
      unfold arrK at hk
      split at hk
      · rename_i m e hu
        injection hk with hk; subst hk
        have : ¬ l < m := by omega
        simp [Instr.arrayAt, underlying, hu, this]
      · cases hk
    · cases h
  · cases h

theorem indexAt_ok {P : Program} {w : World} {T : TypeId} {x i v : Value} (h : idxAddrE (idxK P T) x i = some v) : (Instr.indexAt T x i).run P w = .ok v w := by
  unfold idxAddrE at h
  split at h
  · rename_i n s a k j hk
    split at h
    · rename_i hj
      injection h with h; subst h
      unfold idxK at hk
      split at hk
      · rename_i m e hu
        simp only [Option.map_eq_some_iff, Prod.mk.injEq, Option.some.injEq] at hk
        obtain ⟨i, hi, rfl, rfl⟩ := hk
        simp [Instr.indexAt, asIntOf, underlying, hu, Instr.sureAddr, sizeOf, typeInfo, hi, hj]
      · simp at hk
      · cases hk
    · cases h
  · rename_i s a n c k j hk
    split at h
    · rename_i hj
      injection h with h; subst h
      unfold idxK at hk
      split at hk
      · simp at hk
      · rename_i e hu
        simp only [Option.map_eq_some_iff, Prod.mk.injEq, true_and] at hk
        obtain ⟨i, hi, rfl⟩ := hk
        simp [Instr.indexAt, asIntOf, underlying, hu, sizeOf, typeInfo, hi, hj]
      · cases hk
    · cases h
  · cases h

/-- An element of an array's value, a byte of a string's. -/
def idxE (P : Program) (T : TypeId) (x i : Value) : Option Value :=
  match P.underlying T, x, i with
  | some .string, .string s, .int _ j => if 0 ≤ j then (s[j.toNat]?).map fun b => .int .u8 b.toNat else none
  | some (.array n e), .agg cs, .int _ j => if 0 ≤ j ∧ j < n then
      (match ldK P e with
       | some none => match P.info? e with | some i => cs[j.toNat * i.size]? | none => none
       | some (some s) => some (.agg (cs.extract (j.toNat * s) (j.toNat * s + s)))
       | none => none) else none
  | _, _, _ => none

/-- A part of a struct's or an array's value. -/
def partE (k : Option (Option Nat)) (cs : Array Value) (off : Nat) : Option Value :=
  match k with
  | some none => cs[off]?
  | some (some s) => some (.agg (cs.extract off (off + s)))
  | none => none

theorem part_ok {P : Program} {w : World} {T : TypeId} {cs : Array Value} {off : Nat} {v : Value} (h : partE (ldK P T) cs off = some v) : (part T cs off).run P w = .ok v w := by
  unfold part isAgg underlying
  unfold ldK at h
  cases hu : P.underlying T with
  | none => rw [hu] at h; simp [partE] at h
  | some d =>
    rw [hu] at h
    cases d <;> simp only [partE] at h <;> first
      | (simp only [Sem.run_bind, run_program, Result.andThen_ok, hu, Sem.run_pure]; simp [h]; done)
      | (cases hi : P.info? T with
        | none => rw [hi] at h; simp at h
        | some i =>
          rw [hi] at h
          simp only [Option.map_some, Option.some.injEq] at h
          subst h
          simp only [Sem.run_bind, run_program, Result.andThen_ok, hu, Sem.run_pure]
          simp [sizeOf, typeInfo, hi])

theorem index_ok {P : Program} {w : World} {T : TypeId} {x i v : Value} (h : idxE P T x i = some v) : (Instr.index T x i).run P w = .ok v w := by
  unfold idxE at h
  split at h
  · rename_i s k j hu
    split at h
    · rename_i hj
      simp only [Option.map_eq_some_iff] at h
      obtain ⟨b, hb, rfl⟩ := h
      simp [Instr.index, asIntOf, underlying, hu, hj, hb]
    · cases h
  · rename_i n e cs k j hu
    split at h
    · rename_i hj
      have key : ∃ i, P.info? e = some i ∧ partE (ldK P e) cs (j.toNat * i.size) = some v := by
        cases hi : P.info? e with
        | none =>
          exfalso
          have : P.underlying e = none := by simp [Program.underlying, hi]
          simp [ldK, this] at h
        | some i =>
          refine ⟨i, rfl, ?_⟩
          cases hl : ldK P e with
          | none => simp [hl] at h
          | some o =>
            cases o with
            | none => simpa [hl, hi, partE] using h
            | some s =>
              have : s = i.size := by
                unfold ldK at hl
                split at hl <;> simp_all
              subst this
              simpa [hl, partE] using h
      obtain ⟨i, hi, hp⟩ := key
      simp [Instr.index, asIntOf, underlying, hu, hj, sizeOf, typeInfo, hi, part_ok hp]
    · cases h
  · cases h

def fieldE (P : Program) (S : TypeId) (x : Value) (f : Nat) : Option Value :=
  match P.underlying S, x with
  | some (.struct fields), .agg cs => match fields[f]? with
    | some fd => partE (ldK P fd.type) cs fd.offset
    | none => none
  | _, _ => none

theorem field_ok {P : Program} {w : World} {S : TypeId} {x v : Value} {f : Nat} (h : fieldE P S x f = some v) : (Instr.field S x f).run P w = .ok v w := by
  unfold fieldE at h
  split at h
  · rename_i fields cs hu
    split at h
    · rename_i fd hf
      simp [Instr.field, underlying, hu, hf, asAgg, part_ok h]
    · cases h
  · cases h

def extractE (t : Value) (i : Nat) : Option Value :=
  match t with
  | .tuple vs => vs[i]?
  | _ => none
theorem extract_ok {P : Program} {w : World} {t v : Value} {i : Nat} (h : extractE t i = some v) : (Instr.extract t i).run P w = .ok v w := by
  unfold extractE at h
  split at h
  · simp [Instr.extract, h]
  · cases h

/-- What is no nil. -/
def nilCheckE (x : Value) : Option Value :=
  match x with
  | .pointer (some a) => some (.pointer (some a))
  | .slice a n c => some (.slice a n c)
  | .map r => some (.map r)
  | .func (.func f) a b => some (.func (.func f) a b)
  | .func (.yield f) a b => some (.func (.yield f) a b)
  | _ => none

def lenE (P : Program) (T : TypeId) (x : Value) : Option Value :=
  match P.underlying T, x with
  | some .string, .string s => some (goInt s.size)
  | some (.array n _), _ => some (goInt n)
  | some (.slice _), .slice _ n _ => some (goInt n)
  | some (.pointer a), _ => match P.underlying a with | some (.array n _) => some (goInt n) | _ => none
  | _, _ => none
theorem len_ok {P : Program} {w : World} {T R : TypeId} {x v : Value} (h : lenE P T x = some v) : (Builtin.len_ #[T] R #[x]).run P w = .ok v w := by
  unfold lenE at h
  split at h <;> (try (cases h; done)) <;> (try (rename_i hu; injection h with h; subst h; simp [Builtin.len_, underlying, hu]; done))
  rename_i hu
  split at h
  · rename_i h2; injection h with h; subst h; simp [Builtin.len_, underlying, hu, h2]
  · cases h

def minE (x y : Value) : Option Value := match x, y with | .int k a, .int _ b => some (.int k (if b < a then b else a)) | _, _ => none
def maxE (x y : Value) : Option Value := match x, y with | .int k a, .int _ b => some (.int k (if b > a then b else a)) | _, _ => none
theorem min_ok {P : Program} {w : World} {ts : Array TypeId} {T : TypeId} {x y v : Value} (h : minE x y = some v) : (Builtin.min_ ts T #[x, y]).run P w = .ok v w := by
  unfold minE at h
  split at h
  · injection h with h; subst h; simp [Builtin.min_, Builtin.min2]
  · cases h
theorem max_ok {P : Program} {w : World} {ts : Array TypeId} {T : TypeId} {x y v : Value} (h : maxE x y = some v) : (Builtin.max_ ts T #[x, y]).run P w = .ok v w := by
  unfold maxE at h
  split at h
  · injection h with h; subst h; simp [Builtin.max_, Builtin.max2]
  · cases h

/-- The whole of a struct or an array out of its parts. -/
def buildE (P : Program) (T : TypeId) (parts : List (Nat × Value)) : Option Value := (P.built T parts).map .agg

/-- Slices of slices. -/
def boundE (x : Option Value) (d y : Nat) : Option Nat :=
  match x with
  | none => some d
  | some (.int _ i) => if 0 ≤ i ∧ i ≤ y then some i.toNat else none
  | _ => none
def hiE (mx hi : Option Value) (n m : Nat) : Option Nat :=
  match mx, hi with
  | some _, none => none
  | _, _ => boundE hi n m
def sliceE (P : Program) (T : TypeId) (x : Value) (lo hi mx : Option Value) : Option Value :=
  match P.underlying T, x with
  | some (.slice e), .slice a n c =>
    (boundE mx c c).bind fun m => (hiE mx hi n m).bind fun h => (boundE lo 0 h).bind fun l => (P.info? e).map fun i =>
      .slice (if m = l then a else a.map (·.add (l * i.size))) (h - l) (m - l)
  | some (.array n e), .pointer (some a) =>
    (boundE mx n n).bind fun m => (hiE mx hi n m).bind fun h => (boundE lo 0 h).bind fun l => (P.info? e).map fun i =>
      .slice (some (if m = l then a else a.add (l * i.size))) (h - l) (m - l)
  | some .string, .string s => match mx with
    | none => (boundE hi s.size s.size).bind fun h => (boundE lo 0 h).map fun l => .string (s.extract l h)
    | _ => none
  | _, _ => none
end Go.Vc
