/- Vc, part H: code as a condition on what follows it: regions, joins, loops; a function's contract out of its body's condition. -/
import Derived.Test.YtacfcgoighnioaaGreatVcG
set_option linter.unusedVariables false
set_option linter.unusedSimpArgs false
namespace Go.Vc

abbrev Fr := List Value
def slot (fr : Fr) (k : Nat) : Value := fr.getD k undef
def ev (fr : Fr) : Operand → Value
  | .tmp t => slot fr t
  | .const v => v
  | .global g => .pointer (some ⟨g, 0, none⟩)
  | .func f => .func (.func f) #[] #[]
def putF (fr : Fr) (d : Option Tmp) (v : Value) : Fr :=
  match d with
  | some d => fr.set d v
  | none => fr
def addSk (sk : List Nat) (d : Option Tmp) : List Nat :=
  match d with
  | some d => d :: sk
  | none => sk

/-- A list of operations, in the order of the text. -/
def vcOps (P : Program) (qf : FuncId → Bool) (dr q : Bool) (all : Array Oper) : List Oper → List Nat → Fr → Hp → (Fr → Hp → Prop) → Prop
  | [], _, fr, H, K => ForX q H (K fr)
  | o :: rest, sk, fr, H, K =>
    match o.guard with
    | none => vcOp P qf dr q o (ev fr) H fun v H' => vcOps P qf dr q all rest sk (putF fr o.dst v) H' K
    | some (j, want) =>
      match (all[j]?).bind (·.dst) with
      | none => False
      | some d =>
        if sk.contains d then
          (match slot fr d with
           | .tuple _ => vcOps P qf dr q all rest (addSk sk o.dst) (putF fr o.dst undef) H K
           | _ => False)
        else
          Ite (slot fr d)
            (if want then vcOp P qf dr q o (ev (fr.set d (.bool true))) H fun v H' => vcOps P qf dr q all rest sk (putF (fr.set d (.bool true)) o.dst v) H' K
             else vcOps P qf dr q all rest (addSk sk o.dst) (putF (fr.set d (.bool true)) o.dst undef) H K)
            (if want then vcOps P qf dr q all rest (addSk sk o.dst) (putF (fr.set d (.bool false)) o.dst undef) H K
             else vcOp P qf dr q o (ev (fr.set d (.bool false))) H fun v H' => vcOps P qf dr q all rest sk (putF (fr.set d (.bool false)) o.dst v) H' K)

/-- A frame that a's temporaries are. -/
def At (a : Act) (fr : Fr) : Prop := a.tmps = fr.toArray

theorem At.slot {a : Act} {fr : Fr} (h : At a fr) (k : Nat) : a.tmps.getD k undef = slot fr k := by
  rw [h]; simp [Vc.slot]
theorem At.ev {a : Act} {fr : Fr} (h : At a fr) : a.eval = ev fr := by
  funext x; cases x <;> first | rfl | exact h.slot _
theorem At.put {a : Act} {fr : Fr} (h : At a fr) (d : Option Tmp) (v : Value) : At (a.put d v) (putF fr d v) := by
  cases d with
  | none => exact h
  | some d =>
    have h1 : a.tmps = fr.toArray := h
    simp [At, Act.put, putF, h1]
theorem Good_ev (fr : Fr) : Good (ev fr) := fun _ => rfl

theorem set_same {fr : Fr} {d : Nat} {v : Value} (h : slot fr d = v) (hv : v ≠ undef) : fr.set d v = fr := by
  unfold slot at h
  apply List.ext_getElem?
  intro j
  rw [List.getElem?_set]
  by_cases hj : d = j
  · subst hj
    by_cases hl : d < fr.length
    · simp [hl] at h ⊢; exact h.symm
    · simp [hl] at h; exact absurd h.symm hv
  · simp [hj]

theorem yielded_slot {a : Act} {fr : Fr} (h : At a fr) {all : Array Oper} {j d : Nat} (hj : (all[j]?).bind (·.dst) = some d) :
    (∀ b, slot fr d = .bool b → yielded all a.tmps j = some b) ∧ (∀ vs, slot fr d = .tuple vs → yielded all a.tmps j = none) := by
  have h1 : a.tmps = fr.toArray := h
  constructor
  · intro b hb
    unfold yielded
    rw [hj, h1]
    unfold slot at hb
    by_cases hl : d < fr.length
    · simp [hl] at hb ⊢; rw [hb]
    · simp [hl, undef] at hb
  · intro vs hb
    unfold yielded
    rw [hj, h1]
    unfold slot at hb
    by_cases hl : d < fr.length
    · simp [hl] at hb ⊢; rw [hb]
    · simp [hl]

section
variable {P : Program} {qf : FuncId → Bool} {dr q : Bool} {all : Array Oper}

/-- Operations that do no more than lay a new block. -/
def freshOp (o : Oper) : Bool := match o.op with | .alloc _ | .box _ _ | .buildSlice _ _ _ | .makeMap _ none | .makeSlice _ _ _ => true | _ => false
theorem makeE_ext {e : Option ElemI} {l c : Value} {H : Hp} {y : Value × Hp} (h : makeE e l c H = some y) : Ext H y.2 := by
  unfold makeE at h
  split at h
  · split at h
    · injection h with h; subst h; exact Ext.push _ _
    · cases h
  · cases h
theorem fresh_op {o : Oper} {ρ : Operand → Value} {H : Hp} {K : Value → Hp → Prop} (hf : freshOp o = true) (h : vcOp P qf dr false o ρ H K) : vcOp P qf dr false o ρ H fun v H' => Ext H H' ∧ K v H' := by
  obtain ⟨dst, op, type, pos, after, guard⟩ := o
  unfold freshOp at hf
  unfold vcOp at h ⊢
  cases op <;> simp only [ForX] at hf h ⊢ <;> (try (cases hf; done))
  case alloc T =>
    obtain ⟨z, hz, hk⟩ := Pu.get h
    rw [hz, Pu_some]; exact ⟨Ext.push _ _, hk⟩
  case box T x => exact ⟨Ext.push _ _, h⟩
  case buildSlice T n parts =>
    obtain ⟨e, he, h⟩ := Pu.get h
    obtain ⟨cs, hcs, hk⟩ := Pu.get h
    rw [he, Pu_some, hcs, Pu_some]; exact ⟨Ext.push _ _, hk⟩
  case makeMap t r =>
    cases r with
    | some r => cases hf
    | none => exact ⟨Ext.push _ _, h⟩
  case makeSlice T l c =>
    obtain ⟨y, hy, hk⟩ := Pu.get h
    rw [hy, Pu_some]; exact ⟨makeE_ext hy, hk⟩

/-- The classes of a region's operations; fz: those that lay a new block have a class of their own. -/
def clAt (P : Program) (qf : FuncId → Bool) (dr fz : Bool) (all : Array Oper) (i : Nat) : Cls :=
  match dr with
  | true => match all[i]? with
    | some o => (match fz && freshOp o with | true => .fresh | false => clsOf P qf o)
    | none => .eff
  | false => .eff

theorem fresh_eff {o : Oper} (hf : freshOp o = true) : clsOf P qf o = .eff := by
  obtain ⟨dst, op, type, pos, after, guard⟩ := o
  unfold freshOp at hf
  unfold clsOf
  cases op <;> simp only at hf ⊢ <;> (try (cases hf; done))

theorem step_of_vcOp {fz : Bool} (hq : dr = false → q = false) (hz : fz = true → q = true) {i : Nat} {o : Oper} (ho : all[i]? = some o) {a : Act} {fr : Fr} (ha : At a fr) {H : Hp} {K : Value → Hp → Prop} {K' : Act → Hp → Prop}
    (hw : Region.wanted o (yielded all a.tmps) = true) (h : vcOp P qf dr q o (ev fr) H K) (hk : ∀ v H', K v H' → K' (a.put o.dst v) H') : stepD q P all (clAt P qf dr fz all) i K' a H := by
  unfold stepD
  simp only [ho, hw, if_true]
  rw [ha.ev]
  cases dr with
  | false =>
    have := hq rfl
    subst this
    simp only [clAt]
    intro H' hx
    cases hx
    exact (effS (Good_ev fr) (.inr rfl) h).mono hk
  | true =>
    simp only [clAt, ho]
    cases hzf : (fz && freshOp o) with
    | false =>
      simp only
      cases hc : clsOf P qf o with
      | pure => obtain ⟨v, hv, hK⟩ := pureS hc h; exact ⟨v, hv, hk _ _ hK⟩
      | quiet => obtain ⟨v, hv, hK⟩ := quietS (Good_ev fr) hc h; exact ⟨v, hv, hk _ _ hK⟩
      | eff => exact fun H' hx => (effS (Good_ev fr) (.inl hc) (forX_op hc h hx)).mono hk
      | fresh =>
        exact absurd hc (by
          unfold clsOf
          split <;> (try (intro h; cases h; done))
          · split <;> (intro h; cases h)
          · split <;> (try (intro h; cases h; done))
            · split <;> (intro h; cases h)
          · split <;> (try (intro h; cases h; done))
            · split <;> (intro h; cases h)
            · split <;> (intro h; cases h))
    | true =>
      simp only [Bool.and_eq_true] at hzf
      simp only
      have hc := fresh_eff (P := P) (qf := qf) hzf.2
      have hqt := hz hzf.1
      subst hqt
      exact fun H' hx => (effS (Good_ev fr) (.inl hc) (fresh_op hzf.2 (forX_op hc h hx))).mono fun v H'' hv => ⟨hv.1, hk _ _ hv.2⟩

theorem skip_of {fz : Bool} {i : Nat} {o : Oper} (ho : all[i]? = some o) {a : Act} {H : Hp} {K' : Act → Hp → Prop}
    (hw : Region.wanted o (yielded all a.tmps) = false) (h : K' (a.put o.dst undef) H) : stepD q P all (clAt P qf dr fz all) i K' a H := by
  unfold stepD
  simp only [ho, hw, Bool.false_eq_true, if_false]
  exact h

/-- What a region writes. -/
def dstsOf (ops : List Oper) : List Nat := ops.filterMap (·.dst)
def Agree (W : List Nat) (fr fr' : Fr) : Prop := fr'.length = fr.length ∧ ∀ k, k ∉ W → fr'[k]? = fr[k]?
theorem Agree.refl (W : List Nat) (fr : Fr) : Agree W fr fr := ⟨rfl, fun _ _ => rfl⟩
theorem Agree.trans {W : List Nat} {a b c : Fr} (h : Agree W a b) (h' : Agree W b c) : Agree W a c := ⟨h'.1.trans h.1, fun k hk => (h'.2 k hk).trans (h.2 k hk)⟩
theorem Agree.mono {W W' : List Nat} {a b : Fr} (h : Agree W a b) (hs : ∀ k ∈ W, k ∈ W') : Agree W' a b := ⟨h.1, fun k hk => h.2 k fun hm => hk (hs k hm)⟩
theorem Agree.put {W : List Nat} {fr : Fr} {d : Option Tmp} {v : Value} (h : ∀ k, d = some k → k ∈ W) : Agree W fr (putF fr d v) := by
  cases d with
  | none => exact Agree.refl W fr
  | some d => exact ⟨by simp [putF], fun k hk => by
      have : d ≠ k := fun e => hk (e ▸ h d rfl)
      simp [putF, List.getElem?_set, this]⟩

theorem run_of_vcOps {fz : Bool} (hq : dr = false → q = false) (hz : fz = true → q = true) {W : List Nat} {ds : List Deferred} {fr₀ : Fr} : ∀ (l : List Oper) (k : Nat) (sk : List Nat) (fr : Fr) (a : Act) (H : Hp) (K : Fr → Hp → Prop),
    (∀ j, l[j]? = all[k + j]?) → (∀ d ∈ dstsOf l, d ∈ W) → At a fr → a.defers = ds → Agree W fr₀ fr → vcOps P qf dr q all l sk fr H K →
    runD q P all (clAt P qf dr fz all) (fun a' H' => ∃ fr', At a' fr' ∧ a'.defers = ds ∧ Agree W fr₀ fr' ∧ K fr' H') (List.range' k l.length) a H
  | [], k, sk, fr, a, H, K, _, _, ha, hd, hA, h => fun H' hx => ⟨fr, ha, hd, hA, h.ex hx⟩
  | o :: rest, k, sk, fr, a, H, K, hl, hW, ha, hd, hA, h => by
    have ho : all[k]? = some o := by simpa using (hl 0).symm
    have hl' : ∀ j, rest[j]? = all[k + 1 + j]? := fun j => by have := hl (j + 1); simpa [Nat.add_assoc, Nat.add_comm 1 j] using this
    have hW' : ∀ d ∈ dstsOf rest, d ∈ W := fun d hd => hW d (by
      unfold dstsOf at *; rw [List.filterMap_cons]; split
      · exact hd
      · exact List.mem_cons_of_mem _ hd)
    have hWo : ∀ d, o.dst = some d → d ∈ W := fun d hdd => hW d (by unfold dstsOf; rw [List.filterMap_cons, hdd]; exact List.mem_cons_self)
    have hdp : ∀ v, (a.put o.dst v).defers = ds := fun v => by rw [← hd]; cases o.dst <;> rfl
    simp only [List.length_cons, List.range'_succ, runD]
    have next : ∀ (sk : List Nat) (v : Value) (H' : Hp), vcOps P qf dr q all rest sk (putF fr o.dst v) H' K → runD q P all (clAt P qf dr fz all) (fun a' H' => ∃ fr', At a' fr' ∧ a'.defers = ds ∧ Agree W fr₀ fr' ∧ K fr' H') (List.range' (k + 1) rest.length) (a.put o.dst v) H' :=
      fun sk v H' h' => run_of_vcOps hq hz rest (k + 1) sk (putF fr o.dst v) (a.put o.dst v) H' K hl' hW' (ha.put o.dst v) (hdp v) (hA.trans (Agree.put hWo)) h'
    simp only [vcOps] at h
    cases hg : o.guard with
    | none =>
      simp only [hg] at h
      exact step_of_vcOp hq hz ho ha (by simp [Region.wanted, hg]) h fun v H' h' => next sk v H' h'
    | some g =>
      obtain ⟨j, want⟩ := g
      simp only [hg] at h
      cases hjd : (all[j]?).bind (·.dst) with
      | none => simp only [hjd] at h
      | some d =>
        simp only [hjd] at h
        obtain ⟨hy1, hy2⟩ := yielded_slot ha hjd
        split at h
        · split at h
          · rename_i vs hv
            exact skip_of ho (by simp [Region.wanted, hg, hy2 _ hv]) (next _ undef H h)
          · exact h.elim
        · unfold Ite at h
          split at h
          · rename_i hv
            rw [set_same hv (by simp [undef])] at h
            have hyt := hy1 true hv
            cases want
            · simp only [Bool.false_eq_true, if_false] at h
              exact skip_of ho (by simp [Region.wanted, hg, hyt]) (next _ undef H h)
            · simp only [if_true] at h
              exact step_of_vcOp hq hz ho ha (by simp [Region.wanted, hg, hyt]) h fun v H' h' => next sk v H' h'
          · rename_i hv
            rw [set_same hv (by simp [undef])] at h
            have hyt := hy1 false hv
            cases want
            · simp only [Bool.false_eq_true, if_false] at h
              exact step_of_vcOp hq hz ho ha (by simp [Region.wanted, hg, hyt]) h fun v H' h' => next sk v H' h'
            · simp only [if_true] at h
              exact skip_of ho (by simp [Region.wanted, hg, hyt]) (next _ undef H h)
          · exact h.elim
end

/-! ### Code -/
def Tup : Nat → Type
  | 0 => Unit
  | n + 1 => Value × Tup n
def grab (fr : Fr) : (L : List Nat) → Tup L.length
  | [] => ()
  | k :: L => (slot fr k, grab fr L)
def lay : (L : List Nat) → Tup L.length → Fr → Fr
  | [], _, fr => fr
  | k :: L, s, fr => (lay L s.2 fr).set k s.1
def havoc (J : List Nat) (j : Nat → Value) (fr : Fr) : Fr :=
  match J with
  | [] => fr
  | k :: J => (havoc J j fr).set k (j k)

/-- Ways meet: what is known where they meet is said once. -/
inductive Join {n : Nat} (rest : Tup n → Hp → Prop) (first : (Tup n → Hp → Prop) → Prop) : Prop
  | mk (K : Tup n → Hp → Prop) (hr : ∀ s H, K s H → rest s H) (hf : first K)
/-- A loop, by what holds at each round's head and a number that every round lowers. -/
inductive LoopP {n : Nat} (s : Tup n) (H : Hp) (body : (Tup n → Hp → Prop) → Tup n → Hp → Prop) : Prop
  | mk (I : Tup n → Hp → Prop) (μ : Tup n → Hp → Nat) (h0 : I s H) (hb : ∀ s H, I s H → body (fun s' H' => I s' H' ∧ μ s' H' < μ s H) s H)
def Any (X : (Nat → Value) → Prop) : Prop := ∀ j, X j

inductive Ann where
  | nil
  | seq (l r : Ann)
  | join (L J : List Nat) (l r : Ann)
  | cond (l r : Ann)
  | loop (L J : List Nat) (b : Ann)

def writes : Code → List Nat
  | .region _ ops _ => dstsOf ops.toList
  | .seq a b => writes a ++ writes b
  | .cond _ a b => writes a ++ writes b
  | .block _ c => writes c
  | .loop c => writes c
  | .scope c => writes c
  | _ => []
def subB (xs ys : List Nat) : Bool := xs.all fun x => ys.contains x

abbrev Ks := Fr → List Deferred → Hp → Prop
def thn (K : Ks) (Q : Exit → Ks) : Exit → Ks
  | .normal, fr, ds, H => K fr ds H
  | e, fr, ds, H => Q e fr ds H
def isX (k id : Nat) (A B : Prop) : Prop := if k = id then A else B
def blk (id : Nat) (Q : Exit → Ks) : Exit → Ks
  | .exit k, fr, ds, H => isX k id (Q .normal fr ds H) (Q (.exit k) fr ds H)
  | e, fr, ds, H => Q e fr ds H

/-- Out of a scope no goto leads. -/
def scp (Q : Exit → Ks) : Exit → Ks
  | .goto _, _, _, _ => False
  | e, fr, ds, H => Q e fr ds H

/-- Code that leaves the deferred calls as they are. -/
def noDef : Code → Bool
  | .rangeFunc _ _ _ _ => false
  | .seq a b => noDef a && noDef b
  | .cond _ a b => noDef a && noDef b
  | .block _ c => noDef c
  | .loop c => noDef c
  | .scope c => noDef c
  | _ => true

/-! ### A range over a function -/
def tupL : (n : Nat) → Tup n → List Value
  | 0, _ => []
  | n + 1, s => s.1 :: tupL n s.2
/-- How a round has left: on with the next one (none), by a return, by an exit. -/
abbrev Jmp := Option (Option Nat)
def jmpCode : Jmp → Option Code
  | none => none
  | some none => some .ret
  | some (some id) => some (.exit id)
/-- The loop's record lies at l. -/
def LpAt (rec : Loop) (l : Nat) (st : LoopState) (j : Jmp) (H : Hp) : Prop := H[l]? = some (.loop { rec with state := st, pending := jmpCode j })
def setLp (rec : Loop) (l : Nat) (st : LoopState) (j : Jmp) (H : Hp) : Hp := H.setIfInBounds l (.loop { rec with state := st, pending := jmpCode j })
/-- The statement 'for .. := range g': 'round': a round's body, by what it is handed, the heap, how it begins, how it ends; 'after': what follows, by the jump that is pending, the block of the deferred calls, the heap. -/
inductive RangeF (P : Program) (g : Value) (n : Nat) (H : Hp) (round : Tup n → Hp → (Hp → (Hp → Prop) → Prop) → (Jmp → Hp → Prop) → Prop) (after : Jmp → Nat → Hp → Prop) : Prop
  | mk (hg : ∃ f first cap, g = .func (.func f) first cap) (h : ∀ (rec : Loop) (l D : Nat) (y : Value) (H1 : Hp), Ext H H1 → H.size ≤ D → D < l → l < H1.size → H1[D]? = some (.deferred (some [])) → LpAt rec l .ready none H1 →
      (∀ (s : Tup n) (H2 : Hp) (K : Value → Hp → Prop), LpAt rec l .ready none H2 →
        round s H2 (fun H3 X => LpAt rec l .ready none H3 ∧ X (setLp rec l .busy none H3))
          (fun j H4 => LpAt rec l .busy none H4 ∧ K (.bool j.isNone) (setLp rec l (if j.isNone then .ready else .done) j H4)) → CallV P y (tupL n s).toArray H2 K) →
      CallV P g #[y] H1 fun _ H5 => ∃ st j, st ≠ .busy ∧ LpAt rec l st j H5 ∧ after j D (setLp rec l .exhausted j H5)) : RangeF P g n H round after
def onJ (j : Jmp) (A B : Prop) (C : Nat → Prop) : Prop :=
  match j with
  | none => A
  | some none => B
  | some (some id) => C id
def rndQ (K : Jmp → Hp → Prop) : Exit → Ks
  | .normal, _, _, H => K none H
  | .ret, _, _, H => K (some none) H
  | .exit id, _, _, H => K (some (some id)) H
  | _, _, _, _ => False
def asgQ (B : Hp → (Hp → Prop) → Prop) (body : Ks) : Exit → Ks
  | .normal, fr, ds, H => B H fun H3 => body fr ds H3
  | _, _, _, _ => False
def setL (fr : Fr) : List (Nat × Value) → Fr
  | [] => fr
  | (t, v) :: l => setL (fr.set t v) l
def markD (D : Nat) : Deferred := { target := .collected D, args := #[] }

def anyQ (qf : FuncId → Bool) (ops : Array Oper) : Bool :=
  ops.toList.any fun o => match o.op with
    | .call c => match c.callee with
      | .value (.func f) => qf f
      | _ => false
    | _ => false

def vcReg (P : Program) (qf : FuncId → Bool) (ops : Array Oper) (dr : Bool) (fr : Fr) (H : Hp) (K : Fr → Hp → Prop) : Prop :=
  match dr with
  | false => if noSelB ops then vcOps P qf false false ops ops.toList [] fr H K else False
  | true => if P.follows .mixedOrders && drawB ops (clAt P qf true false ops) then vcOps P qf true (anyQ qf ops) ops ops.toList [] fr H K
    else if P.follows .mixedOrders && drawB ops (clAt P qf true true ops) then vcOps P qf true true ops ops.toList [] fr H K else False

def vc (P : Program) (qf : FuncId → Bool) : (top : Bool) → Code → Ann → (Exit → Ks) → Ks
  | _, .skip, _, Q, fr, ds, H => Q .normal fr ds H
  | _, .label _, _, Q, fr, ds, H => Q .normal fr ds H
  | _, .ret, _, Q, fr, ds, H => Q .ret fr ds H
  | _, .exit id, _, Q, fr, ds, H => Q (.exit id) fr ds H
  | _, .region _ ops dr, _, Q, fr, ds, H => vcReg P qf ops dr fr H fun fr' H' => Q .normal fr' ds H'
  | top, .seq a b, ann, Q, fr, ds, H =>
    match ann with
    | .join L J l r =>
      if subB (writes a) (L ++ J) && noDef a then
        Join (fun s H => Any fun j => vc P qf top b r Q (lay L s (havoc J j fr)) ds H) fun K => vc P qf top a l (thn (fun fr' _ H' => K (grab fr' L) H') Q) fr ds H
      else False
    | .seq l r => vc P qf top a l (thn (vc P qf top b r Q) Q) fr ds H
    | _ => vc P qf top a .nil (thn (vc P qf top b .nil Q) Q) fr ds H
  | top, .cond c a b, ann, Q, fr, ds, H =>
    match ann with
    | .cond l r => Ite (ev fr c) (vc P qf top a l Q fr ds H) (vc P qf top b r Q fr ds H)
    | _ => Ite (ev fr c) (vc P qf top a .nil Q fr ds H) (vc P qf top b .nil Q fr ds H)
  | top, .block id c, ann, Q, fr, ds, H => vc P qf top c ann (blk id Q) fr ds H
  | top, .scope c, ann, Q, fr, ds, H => vc P qf top c ann (scp Q) fr ds H
  | top, .loop c, ann, Q, fr, ds, H =>
    match ann with
    | .loop L J b =>
      if subB (writes c) (L ++ J) && noDef c then
        LoopP (grab fr L) H fun K s H => Any fun j => vc P qf top c b (thn (fun fr' _ H' => K (grab fr' L) H') Q) (lay L s (havoc J j fr)) ds H
      else False
    | _ => False
  | true, .rangeFunc g ps x y, ann, Q, fr, ds, H =>
    match ann with
    | .seq l r => RangeF P (ev fr g) ps.size H
        (fun s H2 B K => vc P qf false x l (asgQ B (vc P qf false y r (rndQ K))) (setL fr (ps.toList.zip (tupL ps.size s))) [] H2)
        (fun j D H' => onJ j (Q .normal fr (markD D :: ds) H') (Q .ret fr (markD D :: ds) H') fun id => Q (.exit id) fr (markD D :: ds) H')
    | _ => False
  | _, _, _, _, _, _, _ => False
end Go.Vc
