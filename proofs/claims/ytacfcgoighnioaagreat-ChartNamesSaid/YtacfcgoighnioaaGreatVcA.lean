/- Vc, part A: contracts over heaps; a region of operations whose order is drawn, met by one walk in the order of the text. (A proof kit of this seat's own: plain lemmas over the library's calculus of fenced walks.) -/
import Derived.RangeFuncIn
import Derived.OrdersIn
import Derived.KernelRfl
set_option linter.unusedVariables false
set_option linter.unusedSimpArgs false
namespace Go.Vc

abbrev Hp := Array Obj

/-- Only the heap (and the count of draws) may have turned. -/
structure Sm (w w' : World) : Prop where
  os : w'.os = w.os
  out : w'.output = w.output
  tape : w'.tape = w.tape

theorem Sm.refl (w : World) : Sm w w := ⟨rfl, rfl, rfl⟩
theorem Sm.trans {a b c : World} (h : Sm a b) (h' : Sm b c) : Sm a c := ⟨h'.os.trans h.os, h'.out.trans h.out, h'.tape.trans h.tape⟩

/-- New blocks may have come; the old ones are as they were. -/
structure Ext (H H' : Hp) : Prop where
  le : H.size ≤ H'.size
  same : ∀ b, b < H.size → H'[b]? = H[b]?

theorem Ext.refl (H : Hp) : Ext H H := ⟨Nat.le_refl _, fun _ _ => rfl⟩
theorem Ext.trans {a b c : Hp} (h : Ext a b) (h' : Ext b c) : Ext a c :=
  ⟨Nat.le_trans h.le h'.le, fun k hk => (h'.same k (Nat.lt_of_lt_of_le hk h.le)).trans (h.same k hk)⟩
theorem Ext.push (H : Hp) (o : Obj) : Ext H (H.push o) :=
  ⟨by simp, fun k hk => by rw [Array.getElem?_push]; split <;> simp_all⟩
theorem Ext.at {H H' : Hp} (h : Ext H H') {b : Nat} {o : Obj} (hb : H[b]? = some o) : H'[b]? = some o := by
  have hlt : b < H.size := by
    rcases Nat.lt_or_ge b H.size with h1 | h1
    · exact h1
    · rw [Array.getElem?_eq_none h1] at hb; cases hb
  rw [h.same b hlt, hb]

/-- The fence that shuts nothing out, in a round or outside. -/
def wideR (r : Option Nat) : Fence := { Fence.wide with round := r }
theorem room_wideR (r : Option Nat) (n : Nat) : (wideR r).room n := fun _ h => by simp [wideR, Fence.wide] at h

/-- Called with these arguments in this heap, function f returns, R holding of its value and of the heap behind. -/
def Fc (P : Program) (f : FuncId) (args : Array Value) (H : Hp) (R : Value → Hp → Prop) : Prop :=
  ∀ w, w.heap = H → CallsIn (wideR none) 0 P f args w fun e w' => ∃ v, e = .returned v ∧ R v w'.heap ∧ Sm w w'

theorem Fc.mono {P : Program} {f : FuncId} {args : Array Value} {H : Hp} {R R' : Value → Hp → Prop} (h : Fc P f args H R) (hr : ∀ v H', R v H' → R' v H') : Fc P f args H R' :=
  fun w hw => (h w hw).mono fun _ _ ⟨v, he, h1, h2⟩ => ⟨v, he, hr _ _ h1, h2⟩

/-- A round of a loop over an iterator, entered by a call of its yield. -/
def Rnd (P : Program) (l : Nat) (f : FuncId) (tmps : Array Value) (assign body : Code) (H : Hp) (R : Value → Hp → Prop) : Prop :=
  ∀ w, w.heap = H → RoundIn (wideR none) 0 P l f tmps assign body w fun e w' => ∃ v, e = .returned v ∧ R v w'.heap ∧ Sm w w'

theorem Rnd.mono {P : Program} {l : Nat} {f : FuncId} {tmps : Array Value} {assign body : Code} {H : Hp} {R R' : Value → Hp → Prop} (h : Rnd P l f tmps assign body H R) (hr : ∀ v H', R v H' → R' v H') : Rnd P l f tmps assign body H R' :=
  fun w hw => (h w hw).mono fun _ _ ⟨v, he, h1, h2⟩ => ⟨v, he, hr _ _ h1, h2⟩

/-- What is asked of what an operation has come to. -/
def Up (P : Program) (w : World) (K : Value → Hp → Prop) : Result Next → Prop
  | .ok (.value v) w' => Sm w w' ∧ K v w'.heap
  | .ok .skip w' => Sm w w' ∧ K undef w'.heap
  | .ok (.enter f args) w' => Sm w w' ∧ Fc P f args w'.heap K
  | .ok (.round l f tmps assign body) w' => Sm w w' ∧ Rnd P l f tmps assign body w'.heap K
  | _ => False

/-- From whatever world that has this heap. -/
def Eff (P : Program) (s : Sem Next) (H : Hp) (K : Value → Hp → Prop) : Prop := ∀ w, w.heap = H → Up P w K (s.run P w)

theorem Up.mono {P : Program} {w : World} {K K' : Value → Hp → Prop} (hk : ∀ v H', K v H' → K' v H') {r : Result Next} (h : Up P w K r) : Up P w K' r := by
  cases r with
  | halt x w' => exact h
  | ok n w' => cases n <;> first | exact h | exact ⟨h.1, hk _ _ h.2⟩ | exact ⟨h.1, Fc.mono h.2 hk⟩ | exact ⟨h.1, Rnd.mono h.2 hk⟩

theorem Eff.mono {P : Program} {s : Sem Next} {H : Hp} {K K' : Value → Hp → Prop} (h : Eff P s H K) (hk : ∀ v H', K v H' → K' v H') : Eff P s H K' :=
  fun w hw => (h w hw).mono hk

/-- An operation that yields v in whatever world has this heap or more, and leaves it but for new blocks. -/
def Qv (P : Program) (s : Sem Next) (H : Hp) (v : Value) : Prop := ∀ H', Ext H H' → Eff P s H' fun u H'' => u = v ∧ Ext H' H''

/-- An operation that yields v wherever it stands. -/
def Pv (P : Program) (s : Sem Next) (v : Value) : Prop := ∀ w, s.run P w = .ok (.value v) w

theorem Pv.qv {P : Program} {s : Sem Next} {v : Value} (h : Pv P s v) (H : Hp) : Qv P s H v := fun H' _ w hw => by
  rw [h w]; exact ⟨Sm.refl w, rfl, by rw [hw]; exact Ext.refl H'⟩

/-! ### One operation under 'wpIn' -/
section
variable {P : Program} {r : Option Nat} {o : Oper} {a : Act} {w : World}

theorem wpIn_of_eff (hd : ∀ c, o.op ≠ .defer c) {next : Act → World → Prop} {Q : Exit → Act → World → Prop} {K : Value → Hp → Prop}
    (h : Eff P (execOp a.eval o) w.heap K) (hn : ∀ v w', K v w'.heap → Sm w w' → next (a.put o.dst v) w') : o.wpIn (wideR r) 0 P a w next Q := by
  refine ⟨fun _ _ => trivial, ?_⟩
  have hs : (wideR r).round = r := rfl
  rw [hs, Oper.semAt_eq r a.eval o hd]
  have h1 := h w rfl
  generalize (execOp a.eval o).run P w = res at h1
  cases res with
  | halt x w' => exact h1.elim
  | ok n w' =>
    cases n <;> simp only [Up] at h1 <;> try exact h1.elim
    case value v => exact hn v w' h1.2 h1.1
    case skip => exact hn undef w' h1.2 h1.1
    case enter f args =>
      refine ⟨fun hd => by simp [wideR, Fence.wide] at hd, ?_⟩
      refine CallsIn.mono (h1.2 w' rfl : CallsIn (wideR r) 0 P f args w' _) fun e w'' ⟨v, he, hk, hsm⟩ => ?_
      subst he
      exact hn v w'' hk (h1.1.trans hsm)
    case round l f tmps assign body =>
      refine ⟨fun hd => by simp [wideR, Fence.wide] at hd, ?_⟩
      refine RoundIn.mono (h1.2 w' rfl : RoundIn (wideR r) 0 P l f tmps assign body w' _) fun e w'' ⟨v, he, hk, hsm⟩ => ?_
      subst he
      exact hn v w'' hk (h1.1.trans hsm)
end

end Go.Vc
