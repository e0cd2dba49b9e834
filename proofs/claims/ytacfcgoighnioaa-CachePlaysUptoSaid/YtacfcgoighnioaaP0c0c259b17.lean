/- Parts of a proof, joined in build order: a calculus of contracts, an executor, contracts of functions. -/
import Derived.Test.YtacfcgoighnioaaP3b40427ad2
import Derived.Test.YtacfcgoighnioaaP487d9a41f5
import Derived.LoopNIn
import Derived.RangeFuncLeaves
import Derived.Test.YtacfcgoighnioaaP4e46f7c441
import Derived.Test.YtacfcgoighnioaaP3655c5609e
/- Xc, part Kb: frames and regions, run. -/
set_option linter.unusedVariables false
set_option linter.unusedSectionVars false
set_option linter.unusedSimpArgs false
namespace Go.Xc
open Go.Vc
variable [Sites]

/-! ### Frames -/
def cvS : Value → CV
  | .int k n => .int k n
  | .bool b => .bool b
  | .string s => .str s
  | .pointer none => .nilp
  | .slice none 0 0 => .nils
  | .map none => .nilm
  | .nilFunc => .nilf
  | _ => .junk
theorem cvS_ok (m : M) (v : Value) : Vrel m (cvS v) v := by
  unfold cvS
  split <;> first | rfl | trivial
def packL : List Value → Option (List CV)
  | [] => some []
  | v :: l => (match toP (cvS v), packL l with
    | some [p], some r => some (consP p r)
    | _, _ => none)
theorem packL_ok (m : M) : ∀ {l : List Value} {ps : List CV}, packL l = some ps → Crel m ps l
  | [], ps, h => by simp only [packL, Option.some.injEq] at h; subst h; rfl
  | v :: l, ps, h => by
    unfold packL at h
    split at h
    · rename_i p r h1 h2
      injection h with h; subst h
      refine consP_ok ?_
      have hv := toP_ok (cvS_ok m v) h1
      have hl := packL_ok m h2
      have hone : v.cells.toList = [v] := by
        have : ∀ c, v = .agg c → False := fun c hc => by subst hc; simp [cvS, toP, scalar] at h1
        cases v <;> first | rfl | exact absurd rfl (this _)
      rw [hone] at hv
      rcases Crel_scalar hv with ⟨n, x, rfl⟩ | hs
      · obtain ⟨l', h3, h4⟩ := hv
        simp only [Crel] at h4; subst h4
        rw [List.append_nil] at h3
        exact ⟨l, by rw [← h3]; rfl, hl⟩
      · rw [Crel_cons hs] at hv ⊢
        obtain ⟨u, l', h3, _, h4, _⟩ := hv
        injection h3 with h3 _
        subst h3
        exact ⟨v, l, rfl, hs, h4, hl⟩
    · cases h
def cvOf : Value → CV
  | .agg c => (match packL c.toList with | some ps => .agg ps | none => .junk)
  | v => cvS v
theorem cvOf_ok (m : M) (v : Value) : Vrel m (cvOf v) v := by
  unfold cvOf
  split
  · rename_i c
    split
    · rename_i ps h; exact ⟨c, rfl, packL_ok m h⟩
    · trivial
  · exact cvS_ok m v

def slotX (fr : List CV) (k : Nat) : CV := fr.getD k (.tup [])
def evX (fr : List CV) : Operand → CV
  | .tmp t => slotX fr t
  | .const v => cvOf v
  | .global _ => .junk
  | .func f => .fn f [] []
def putX (fr : List CV) (d : Option Tmp) (v : CV) : List CV :=
  match d with
  | some d => fr.set d v
  | none => fr

theorem Vrels_len {m : M} : ∀ {xs : List CV} {l : List Value}, Vrels m xs l → xs.length = l.length
  | [], l, h => by simp only [Vrels] at h; subst h; rfl
  | x :: xs, l, h => by obtain ⟨v, l', rfl, _, h2⟩ := h; simp [Vrels_len h2]
theorem Vrels_of {m : M} : ∀ {xs : List CV} {l : List Value}, xs.length = l.length → (∀ (k : Nat) x, xs[k]? = some x → ∃ v, l[k]? = some v ∧ Vrel m x v) → Vrels m xs l
  | [], [], _, _ => rfl
  | [], _ :: _, h, _ => by simp at h
  | _ :: _, [], h, _ => by simp at h
  | x :: xs, v :: l, hl, h => by
    obtain ⟨u, h1, h2⟩ := h 0 x rfl
    simp only [List.getElem?_cons_zero, Option.some.injEq] at h1
    subst h1
    exact ⟨v, l, rfl, h2, Vrels_of (by simpa using hl) fun k y hk => by
      have := h (k + 1) y (by simpa using hk)
      simpa using this⟩
theorem slot_rel {m : M} {fr : List CV} {frv : Fr} (h : Vrels m fr frv) (k : Nat) : Vrel m (slotX fr k) (slot frv k) := by
  unfold slotX slot
  rw [List.getD_eq_getElem?_getD, List.getD_eq_getElem?_getD]
  cases hk : fr[k]? with
  | some x =>
    obtain ⟨v, h1, h2⟩ := Vrels_get h hk
    rw [h1]; exact h2
  | none =>
    have hl := Vrels_len h
    have : frv[k]? = none := by
      rw [List.getElem?_eq_none_iff] at hk ⊢; omega
    rw [this]; exact unit_rel m
theorem ev_rel {m : M} {fr : List CV} {frv : Fr} (h : Vrels m fr frv) : RhoRel m (evX fr) (ev frv) := by
  intro o
  cases o with
  | tmp t => exact slot_rel h t
  | const v => exact cvOf_ok m v
  | global g => trivial
  | func f => exact ⟨#[], #[], rfl, rfl, rfl⟩
theorem set_rel {m : M} {fr : List CV} {frv : Fr} (h : Vrels m fr frv) (d : Nat) {x : CV} {v : Value} (hx : Vrel m x v) : Vrels m (fr.set d x) (frv.set d v) := by
  have hl := Vrels_len h
  refine Vrels_of (by simp [hl]) fun k y hk => ?_
  rw [List.getElem?_set] at hk ⊢
  by_cases hd : d = k
  · subst hd
    rw [if_pos rfl] at hk ⊢
    split at hk
    · rename_i hlt
      injection hk with hk; subst hk
      exact ⟨v, by rw [if_pos (by omega)], hx⟩
    · cases hk
  · rw [if_neg hd] at hk ⊢
    exact Vrels_get h hk
theorem put_rel {m : M} {fr : List CV} {frv : Fr} (h : Vrels m fr frv) (d : Option Tmp) {x : CV} {v : Value} (hx : Vrel m x v) : Vrels m (putX fr d x) (putF frv d v) := by
  cases d with
  | none => exact h
  | some d => exact set_rel h d hx

def AgreeX (W : List Nat) (fr fr' : List CV) : Prop := fr'.length = fr.length ∧ ∀ k, k ∉ W → fr'[k]? = fr[k]?
theorem AgreeX.refl (W : List Nat) (fr : List CV) : AgreeX W fr fr := ⟨rfl, fun _ _ => rfl⟩
theorem AgreeX.trans {W : List Nat} {a b c : List CV} (h : AgreeX W a b) (h' : AgreeX W b c) : AgreeX W a c := ⟨h'.1.trans h.1, fun k hk => (h'.2 k hk).trans (h.2 k hk)⟩
theorem AgreeX.mono {W W' : List Nat} {a b : List CV} (h : AgreeX W a b) (hs : ∀ k ∈ W, k ∈ W') : AgreeX W' a b := ⟨h.1, fun k hk => h.2 k fun hm => hk (hs k hm)⟩
theorem AgreeX.put {W : List Nat} {fr : List CV} {d : Option Tmp} {v : CV} (h : ∀ k, d = some k → k ∈ W) : AgreeX W fr (putX fr d v) := by
  cases d with
  | none => exact AgreeX.refl W fr
  | some d => exact ⟨by simp [putX], fun k hk => by
      have : d ≠ k := fun e => hk (e ▸ h d rfl)
      simp [putX, List.getElem?_set, this]⟩
theorem set_sameX {fr : List CV} {d : Nat} {b : Bool} (h : slotX fr d = .bool b) : fr.set d (.bool b) = fr := by
  unfold slotX at h
  apply List.ext_getElem?
  intro j
  rw [List.getElem?_set]
  by_cases hj : d = j
  · subst hj
    rw [List.getD_eq_getElem?_getD] at h
    cases hk : fr[d]? with
    | some x =>
      rw [hk] at h
      have hlt : d < fr.length := by
        rcases Nat.lt_or_ge d fr.length with h1 | h1
        · exact h1
        · rw [List.getElem?_eq_none h1] at hk; cases hk
      simp only [Option.getD_some] at h
      simp [hlt, h]
    | none => rw [hk] at h; cases h
  · simp [hj]

/-! ### Regions -/
section
variable (P : Program) (qf : FuncId → Bool) (Z : List (Nat × CV)) (C : List (Nat × Ex))
noncomputable def xOps (dr q : Bool) (all : Array Oper) : List Oper → List Nat → List CV → CH → (List CV → CH → Bool) → Bool
  | [], _, fr, h, K => K fr h
  | o :: rest, sk, fr, h, K =>
    match o.guard with
    | none => xOp P qf Z C dr q o (evX fr) h fun v h' => xOps dr q all rest sk (putX fr o.dst v) h' K
    | some (j, want) =>
      match (all[j]?).bind (·.dst) with
      | none => false
      | some d =>
        ifX (sk.contains d)
          (match slotX fr d with
           | .tup _ => xOps dr q all rest (addSk sk o.dst) (putX fr o.dst (.tup [])) h K
           | _ => false)
          (xIte (slotX fr d)
            (ifX want (xOp P qf Z C dr q o (evX (fr.set d (.bool true))) h fun v h' => xOps dr q all rest sk (putX (fr.set d (.bool true)) o.dst v) h' K)
              (xOps dr q all rest (addSk sk o.dst) (putX (fr.set d (.bool true)) o.dst (.tup [])) h K))
            (ifX want (xOps dr q all rest (addSk sk o.dst) (putX (fr.set d (.bool false)) o.dst (.tup [])) h K)
              (xOp P qf Z C dr q o (evX (fr.set d (.bool false))) h fun v h' => xOps dr q all rest sk (putX (fr.set d (.bool false)) o.dst v) h' K)))
noncomputable def xReg (ops : Array Oper) (dr : Bool) (fr : List CV) (h : CH) (K : List CV → CH → Bool) : Bool :=
  match dr with
  | false => ifX (noSelB ops) (xOps P qf Z C false false ops ops.toList [] fr h K) false
  | true => ifX (P.follows .mixedOrders && drawB ops (clAt P qf true false ops)) (xOps P qf Z C true (anyQ qf ops) ops ops.toList [] fr h K)
    (ifX (P.follows .mixedOrders && drawB ops (clAt P qf true true ops)) (xOps P qf Z C true true ops ops.toList [] fr h K) false)
end

/-- What is asked of the way on, by the frame. -/
def FinF (H0 : Hp) (m : M) (h : CH) (H : Hp) (fr' : List CV) (h' : CH) (K : Fr → Hp → Prop) : Prop :=
  ∀ m' H' frv', Rel H0 m' h' H' → Stp h.wp m H m' H' → Vrels m' fr' frv' → K frv' H'

theorem xOps_ok {P : Program} {qf : FuncId → Bool} {Z : List (Nat × CV)} {C : List (Nat × Ex)} (he : EnvOk P Z C) {dr q : Bool} {all : Array Oper} : ∀ {l : List Oper} {sk : List Nat} {fr : List CV} {h : CH} {K : List CV → CH → Bool}, xOps P qf Z C dr q all l sk fr h K = true →
    ∃ fr' h', K fr' h' = true ∧ h'.wp = h.wp ∧ AgreeX (dstsOf l) fr fr' ∧ ∀ {H0 m H frv} {Kv : Fr → Hp → Prop}, Rel H0 m h H → Vrels m fr frv → FinF H0 m h H fr' h' Kv → vcOps P qf dr q all l sk frv H Kv
  | [], sk, fr, h, K, hk => ⟨fr, h, hk, rfl, AgreeX.refl _ _, fun {H0 m H frv Kv} hr hv hf => by
      unfold vcOps
      cases q
      · exact hf _ _ _ hr (Stp.refl _ _ _) hv
      · exact fun H' hx => hf _ _ _ (hr.ext' hx) (Stp.ext hx) hv⟩
  | o :: rest, sk, fr, h, K, hk => by
    have hWr : ∀ d ∈ dstsOf rest, d ∈ dstsOf (o :: rest) := fun d hd => by
      unfold dstsOf at *; rw [List.filterMap_cons]; split
      · exact hd
      · exact List.mem_cons_of_mem _ hd
    have hWo : ∀ d, o.dst = some d → d ∈ dstsOf (o :: rest) := fun d hdd => by unfold dstsOf; rw [List.filterMap_cons, hdd]; exact List.mem_cons_self
    have run : ∀ {fr : List CV}, (xOp P qf Z C dr q o (evX fr) h fun v h' => xOps P qf Z C dr q all rest sk (putX fr o.dst v) h' K) = true →
        ∃ fr' h', K fr' h' = true ∧ h'.wp = h.wp ∧ AgreeX (dstsOf (o :: rest)) fr fr' ∧ ∀ {H0 m H frv} {Kv : Fr → Hp → Prop}, Rel H0 m h H → Vrels m fr frv → FinF H0 m h H fr' h' Kv → vcOp P qf dr q o (ev frv) H fun v H' => vcOps P qf dr q all rest sk (putF frv o.dst v) H' Kv := by
      intro fr hk
      obtain ⟨z, h1, k1, w1, s1⟩ := xOp_ok he hk
      obtain ⟨fr', h2, k2, w2, a2, s2⟩ := xOps_ok he k1
      refine ⟨fr', h2, k2, w2.trans w1, (AgreeX.put hWo).trans (a2.mono hWr), fun {H0 m H frv Kv} hr hv hf => ?_⟩
      refine s1 hr (ev_rel hv) fun m' H' v hr' hs' hv' => ?_
      refine s2 hr' (put_rel (Vrels.mono hs'.pre _ hv) o.dst hv') fun m'' H'' frv' hr'' hs'' hv'' => ?_
      rw [w1] at hs''
      exact hf _ _ _ hr'' (hs'.trans hs'') hv''
    have skip : ∀ {fr : List CV}, xOps P qf Z C dr q all rest (addSk sk o.dst) (putX fr o.dst (.tup [])) h K = true →
        ∃ fr' h', K fr' h' = true ∧ h'.wp = h.wp ∧ AgreeX (dstsOf (o :: rest)) fr fr' ∧ ∀ {H0 m H frv} {Kv : Fr → Hp → Prop}, Rel H0 m h H → Vrels m fr frv → FinF H0 m h H fr' h' Kv → vcOps P qf dr q all rest (addSk sk o.dst) (putF frv o.dst undef) H Kv := by
      intro fr hk
      obtain ⟨fr', h2, k2, w2, a2, s2⟩ := xOps_ok he hk
      exact ⟨fr', h2, k2, w2, (AgreeX.put hWo).trans (a2.mono hWr), fun {H0 m H frv Kv} hr hv hf => s2 hr (put_rel hv o.dst (unit_rel m)) hf⟩
    unfold xOps at hk
    unfold vcOps
    cases hg : o.guard with
    | none =>
      simp only [hg] at hk ⊢
      exact run hk
    | some g =>
      obtain ⟨j, want⟩ := g
      simp only [hg] at hk ⊢
      cases hjd : (all[j]?).bind (·.dst) with
      | none => simp only [hjd] at hk; cases hk
      | some d =>
        simp only [hjd] at hk ⊢
        rw [ifX_eq] at hk
        by_cases hsk : sk.contains d = true
        · rw [if_pos hsk] at hk
          simp only [if_pos hsk]
          split at hk
          · rename_i vs hsl
            obtain ⟨fr', h2, k2, w2, a2, s2⟩ := skip hk
            refine ⟨fr', h2, k2, w2, a2, fun {H0 m H frv Kv} hr hv hf => ?_⟩
            have hs := slot_rel hv d
            rw [hsl] at hs
            obtain ⟨c, hc, _⟩ := hs
            rw [hc]
            exact s2 hr hv hf
          · cases hk
        · rw [if_neg hsk] at hk
          simp only [if_neg hsk]
          unfold xIte at hk
          split at hk
          · rename_i hsl
            rw [set_sameX hsl] at hk
            have hval : ∀ {m frv}, Vrels m fr frv → slot frv d = .bool true ∧ frv.set d (.bool true) = frv := fun {m frv} hv => by
              have hs := slot_rel hv d
              rw [hsl] at hs
              exact ⟨hs, set_same hs (by simp [undef])⟩
            cases want
            · simp only [ifX_eq, Bool.false_eq_true, if_false] at hk ⊢
              obtain ⟨fr', h2, k2, w2, a2, s2⟩ := skip hk
              refine ⟨fr', h2, k2, w2, a2, fun {H0 m H frv Kv} hr hv hf => ?_⟩
              obtain ⟨e1, e2⟩ := hval hv
              rw [e1, Ite_true, e2]
              exact s2 hr hv hf
            · simp only [ifX_eq, if_true] at hk ⊢
              obtain ⟨fr', h2, k2, w2, a2, s2⟩ := run hk
              refine ⟨fr', h2, k2, w2, a2, fun {H0 m H frv Kv} hr hv hf => ?_⟩
              obtain ⟨e1, e2⟩ := hval hv
              rw [e1, Ite_true, e2]
              exact s2 hr hv hf
          · rename_i hsl
            rw [set_sameX hsl] at hk
            have hval : ∀ {m frv}, Vrels m fr frv → slot frv d = .bool false ∧ frv.set d (.bool false) = frv := fun {m frv} hv => by
              have hs := slot_rel hv d
              rw [hsl] at hs
              exact ⟨hs, set_same hs (by simp [undef])⟩
            cases want
            · simp only [ifX_eq, Bool.false_eq_true, if_false] at hk ⊢
              obtain ⟨fr', h2, k2, w2, a2, s2⟩ := run hk
              refine ⟨fr', h2, k2, w2, a2, fun {H0 m H frv Kv} hr hv hf => ?_⟩
              obtain ⟨e1, e2⟩ := hval hv
              rw [e1, Ite_false, e2]
              exact s2 hr hv hf
            · simp only [ifX_eq, if_true] at hk ⊢
              obtain ⟨fr', h2, k2, w2, a2, s2⟩ := skip hk
              refine ⟨fr', h2, k2, w2, a2, fun {H0 m H frv Kv} hr hv hf => ?_⟩
              obtain ⟨e1, e2⟩ := hval hv
              rw [e1, Ite_false, e2]
              exact s2 hr hv hf
          · cases hk

section
variable (P : Program) (qf : FuncId → Bool) (Z : List (Nat × CV)) (C : List (Nat × Ex))
noncomputable def xA (dr q : Bool) (all : Array Oper) : List Oper → List Nat → List CV → CH → (List Nat → List CV → CH → Bool) → Bool
  | [], sk, fr, h, K => K sk fr h
  | o :: rest, sk, fr, h, K =>
    match o.guard with
    | none => xOp P qf Z C dr q o (evX fr) h fun v h' => xA dr q all rest sk (putX fr o.dst v) h' K
    | some (j, want) =>
      match (all[j]?).bind (·.dst) with
      | none => false
      | some d =>
        ifX (sk.contains d)
          (match slotX fr d with
           | .tup _ => xA dr q all rest (addSk sk o.dst) (putX fr o.dst (.tup [])) h K
           | _ => false)
          (xIte (slotX fr d)
            (ifX want (xOp P qf Z C dr q o (evX (fr.set d (.bool true))) h fun v h' => xA dr q all rest sk (putX (fr.set d (.bool true)) o.dst v) h' K)
              (xA dr q all rest (addSk sk o.dst) (putX (fr.set d (.bool true)) o.dst (.tup [])) h K))
            (ifX want (xA dr q all rest (addSk sk o.dst) (putX (fr.set d (.bool false)) o.dst (.tup [])) h K)
              (xOp P qf Z C dr q o (evX (fr.set d (.bool false))) h fun v h' => xA dr q all rest sk (putX (fr.set d (.bool false)) o.dst v) h' K)))
end
theorem xA_ok {P : Program} {qf : FuncId → Bool} {Z : List (Nat × CV)} {C : List (Nat × Ex)} (he : EnvOk P Z C) {dr q : Bool} {all : Array Oper} : ∀ {l : List Oper} {sk : List Nat} {fr : List CV} {h : CH} {K : List Nat → List CV → CH → Bool}, xA P qf Z C dr q all l sk fr h K = true →
    ∃ sk' fr' h', K sk' fr' h' = true ∧ h'.wp = h.wp ∧ AgreeX (dstsOf l) fr fr' ∧ ∀ {H0 m H frv} {Kv : List Nat → Fr → Hp → Prop}, Rel H0 m h H → Vrels m fr frv → FinF H0 m h H fr' h' (Kv sk') → vcA P qf dr q all l sk frv H Kv
  | [], sk, fr, h, K, hk => ⟨sk, fr, h, hk, rfl, AgreeX.refl _ _, fun {H0 m H frv Kv} hr hv hf => by
      unfold vcA
      exact hf _ _ _ hr (Stp.refl _ _ _) hv⟩
  | o :: rest, sk, fr, h, K, hk => by
    have hWr : ∀ d ∈ dstsOf rest, d ∈ dstsOf (o :: rest) := fun d hd => by
      unfold dstsOf at *; rw [List.filterMap_cons]; split
      · exact hd
      · exact List.mem_cons_of_mem _ hd
    have hWo : ∀ d, o.dst = some d → d ∈ dstsOf (o :: rest) := fun d hdd => by unfold dstsOf; rw [List.filterMap_cons, hdd]; exact List.mem_cons_self
    have run : ∀ {fr : List CV}, (xOp P qf Z C dr q o (evX fr) h fun v h' => xA P qf Z C dr q all rest sk (putX fr o.dst v) h' K) = true →
        ∃ sk' fr' h', K sk' fr' h' = true ∧ h'.wp = h.wp ∧ AgreeX (dstsOf (o :: rest)) fr fr' ∧ ∀ {H0 m H frv} {Kv : List Nat → Fr → Hp → Prop}, Rel H0 m h H → Vrels m fr frv → FinF H0 m h H fr' h' (Kv sk') → vcOp P qf dr q o (ev frv) H fun v H' => vcA P qf dr q all rest sk (putF frv o.dst v) H' Kv := by
      intro fr hk
      obtain ⟨z, h1, k1, w1, s1⟩ := xOp_ok he hk
      obtain ⟨sk', fr', h2, k2, w2, a2, s2⟩ := xA_ok he k1
      refine ⟨sk', fr', h2, k2, w2.trans w1, (AgreeX.put hWo).trans (a2.mono hWr), fun {H0 m H frv Kv} hr hv hf => ?_⟩
      refine s1 hr (ev_rel hv) fun m' H' v hr' hs' hv' => ?_
      refine s2 hr' (put_rel (Vrels.mono hs'.pre _ hv) o.dst hv') fun m'' H'' frv' hr'' hs'' hv'' => ?_
      rw [w1] at hs''
      exact hf _ _ _ hr'' (hs'.trans hs'') hv''
    have skip : ∀ {fr : List CV}, xA P qf Z C dr q all rest (addSk sk o.dst) (putX fr o.dst (.tup [])) h K = true →
        ∃ sk' fr' h', K sk' fr' h' = true ∧ h'.wp = h.wp ∧ AgreeX (dstsOf (o :: rest)) fr fr' ∧ ∀ {H0 m H frv} {Kv : List Nat → Fr → Hp → Prop}, Rel H0 m h H → Vrels m fr frv → FinF H0 m h H fr' h' (Kv sk') → vcA P qf dr q all rest (addSk sk o.dst) (putF frv o.dst undef) H Kv := by
      intro fr hk
      obtain ⟨sk', fr', h2, k2, w2, a2, s2⟩ := xA_ok he hk
      exact ⟨sk', fr', h2, k2, w2, (AgreeX.put hWo).trans (a2.mono hWr), fun {H0 m H frv Kv} hr hv hf => s2 hr (put_rel hv o.dst (unit_rel m)) hf⟩
    unfold xA at hk
    unfold vcA
    cases hg : o.guard with
    | none =>
      simp only [hg] at hk ⊢
      exact run hk
    | some g =>
      obtain ⟨j, want⟩ := g
      simp only [hg] at hk ⊢
      cases hjd : (all[j]?).bind (·.dst) with
      | none => simp only [hjd] at hk; cases hk
      | some d =>
        simp only [hjd] at hk ⊢
        rw [ifX_eq] at hk
        by_cases hsk : sk.contains d = true
        · rw [if_pos hsk] at hk
          simp only [if_pos hsk]
          split at hk
          · rename_i vs hsl
            obtain ⟨sk', fr', h2, k2, w2, a2, s2⟩ := skip hk
            refine ⟨sk', fr', h2, k2, w2, a2, fun {H0 m H frv Kv} hr hv hf => ?_⟩
            have hs := slot_rel hv d
            rw [hsl] at hs
            obtain ⟨c, hc, _⟩ := hs
            rw [hc]
            exact s2 hr hv hf
          · cases hk
        · rw [if_neg hsk] at hk
          simp only [if_neg hsk]
          unfold xIte at hk
          split at hk
          · rename_i hsl
            rw [set_sameX hsl] at hk
            have hval : ∀ {m frv}, Vrels m fr frv → slot frv d = .bool true ∧ frv.set d (.bool true) = frv := fun {m frv} hv => by
              have hs := slot_rel hv d
              rw [hsl] at hs
              exact ⟨hs, set_same hs (by simp [undef])⟩
            cases want
            · simp only [ifX_eq, Bool.false_eq_true, if_false] at hk ⊢
              obtain ⟨sk', fr', h2, k2, w2, a2, s2⟩ := skip hk
              refine ⟨sk', fr', h2, k2, w2, a2, fun {H0 m H frv Kv} hr hv hf => ?_⟩
              obtain ⟨e1, e2⟩ := hval hv
              rw [e1, Ite_true, e2]
              exact s2 hr hv hf
            · simp only [ifX_eq, if_true] at hk ⊢
              obtain ⟨sk', fr', h2, k2, w2, a2, s2⟩ := run hk
              refine ⟨sk', fr', h2, k2, w2, a2, fun {H0 m H frv Kv} hr hv hf => ?_⟩
              obtain ⟨e1, e2⟩ := hval hv
              rw [e1, Ite_true, e2]
              exact s2 hr hv hf
          · rename_i hsl
            rw [set_sameX hsl] at hk
            have hval : ∀ {m frv}, Vrels m fr frv → slot frv d = .bool false ∧ frv.set d (.bool false) = frv := fun {m frv} hv => by
              have hs := slot_rel hv d
              rw [hsl] at hs
              exact ⟨hs, set_same hs (by simp [undef])⟩
            cases want
            · simp only [ifX_eq, Bool.false_eq_true, if_false] at hk ⊢
              obtain ⟨sk', fr', h2, k2, w2, a2, s2⟩ := run hk
              refine ⟨sk', fr', h2, k2, w2, a2, fun {H0 m H frv Kv} hr hv hf => ?_⟩
              obtain ⟨e1, e2⟩ := hval hv
              rw [e1, Ite_false, e2]
              exact s2 hr hv hf
            · simp only [ifX_eq, if_true] at hk ⊢
              obtain ⟨sk', fr', h2, k2, w2, a2, s2⟩ := skip hk
              refine ⟨sk', fr', h2, k2, w2, a2, fun {H0 m H frv Kv} hr hv hf => ?_⟩
              obtain ⟨e1, e2⟩ := hval hv
              rw [e1, Ite_false, e2]
              exact s2 hr hv hf
          · cases hk


/-- What is deferred: marks of loops over functions, laid since, that no number means; and what was deferred before. -/
def Dfs (tp : Bool) (m : M) (n : Nat) (H : Hp) (ds ds0 : List Deferred) : Prop :=
  ∃ Ds : List Nat, ds = Ds.map markD ++ ds0 ∧ (Ds.Nodup ∧ (tp = false → Ds = [])) ∧ ∀ D ∈ Ds, H[D]? = some (.deferred (some [])) ∧ n ≤ D ∧ ∀ (k : Nat) (e : Nat × Nat), m[k]? = some e → e.1 ≠ D
theorem Dfs.refl (tp : Bool) (m : M) (n : Nat) (H : Hp) (ds : List Deferred) : Dfs tp m n H ds ds := ⟨[], rfl, ⟨List.nodup_nil, fun _ => rfl⟩, fun D hD => by cases hD⟩
theorem Dfs.of_eq {tp : Bool} {m : M} {n : Nat} {H : Hp} {ds ds0 : List Deferred} (h : ds = ds0) : Dfs tp m n H ds ds0 := by rw [h]; exact Dfs.refl _ _ _ _ _
theorem Dfs.trans {tp : Bool} {wp : Nat} {m1 m2 : M} {n : Nat} {H1 H2 : Hp} {ds ds1 ds0 : List Deferred} (h : Dfs tp m1 n H1 ds1 ds0) (hs : Stp wp m1 H1 m2 H2) (hn : n ≤ H1.size) (h' : Dfs tp m2 H1.size H2 ds ds1) : Dfs tp m2 n H2 ds ds0 := by
  obtain ⟨D1, rfl, ⟨q1, q0⟩, q2⟩ := h
  obtain ⟨D2, rfl, ⟨r1, r0⟩, r2⟩ := h'
  have lt : ∀ D ∈ D1, D < H1.size := fun D hD => Vc.lt_of_block (q2 D hD).1
  refine ⟨D2 ++ D1, by simp, ⟨?_, fun ht => by rw [q0 ht, r0 ht]; rfl⟩, fun D hD => ?_⟩
  · rw [List.nodup_append]
    refine ⟨r1, q1, fun a ha b hb e => ?_⟩
    subst e
    have := (r2 a ha).2.1
    have := lt a hb
    omega
  · rcases List.mem_append.1 hD with hD | hD
    · obtain ⟨h3, h4, h5⟩ := r2 D hD
      exact ⟨h3, by omega, h5⟩
    · obtain ⟨h3, h4, h5⟩ := q2 D hD
      have hl := lt D hD
      have hw : ¬ Wr m1 wp D := fun ⟨k, e, h6, _, h7⟩ => h5 k e h6 h7
      refine ⟨by rw [hs.kp.same D hl hw]; exact h3, h4, fun k e hk he => ?_⟩
      rcases hs.new k e hk with h6 | h6 | h6
      · exact h5 k e h6 he
      · omega
      · obtain ⟨j, d, h8, _, h9⟩ := h6
        exact h5 j d h8 (h9.trans he)

/-- What the run has come to. -/
def PostX (tp : Bool) (H0 : Hp) (m : M) (wp : Nat) (e : Exit) (fr' : List CV) (h' : CH) (a : Act) (w : World) : Exit → Act → World → Prop := fun e' a' w' =>
  e' = e ∧ ∃ m' frv', Rel H0 m' h' w'.heap ∧ Stp wp m w.heap m' w'.heap ∧ Vrels m' fr' frv' ∧ At a' frv' ∧ Dfs tp m' w.heap.size w'.heap a'.defers a.defers ∧ Sm w w'
/-- top: not within a round. -/
def SimC (P : Program) (top : Bool) (c : Code) (fr : List CV) (h : CH) (e : Exit) (fr' : List CV) (h' : CH) : Prop :=
  ∀ {H0 m frv a w} (r : Option Nat), (top = true → r = none) → Rel H0 m h w.heap → Vrels m fr frv → At a frv → c.wpIn (wideR r) 0 P (PostX top H0 m h.wp e fr' h' a w) a w

/-! ### Values that are the same -/
def sameI (n n' : Int) : Bool := match n, n' with | .ofNat a, .ofNat b => Nat.beq a b | .negSucc a, .negSucc b => Nat.beq a b | _, _ => false
theorem sameI_ok {n n' : Int} (h : sameI n n' = true) : n = n' := by
  unfold sameI at h
  split at h
  · rw [Nat.eq_of_beq_eq_true h]
  · rw [Nat.eq_of_beq_eq_true h]
  · cases h
mutual
def sameX : CV → CV → Bool
  | .int k n, y => (match y with | .int k' n' => decide (k = k') && sameI n n' | _ => false)
  | .bool b, y => (match y with | .bool b' => b == b' | _ => false)
  | .ptr k o, y => (match y with | .ptr k' o' => Nat.beq k k' && Nat.beq o o' | _ => false)
  | .nilp, y => (match y with | .nilp => true | _ => false)
  | .sl k o l c, y => (match y with | .sl k' o' l' c' => Nat.beq k k' && Nat.beq o o' && Nat.beq l l' && Nat.beq c c' | _ => false)
  | .nils, y => (match y with | .nils => true | _ => false)
  | .map k, y => (match y with | .map k' => Nat.beq k k' | _ => false)
  | .nilm, y => (match y with | .nilm => true | _ => false)
  | .nilf, y => (match y with | .nilf => true | _ => false)
  | .agg ps, y => (match y with | .agg qs => sameP ps qs | _ => false)
  | _, _ => false
def sameP : List CV → List CV → Bool
  | [], y => (match y with | [] => true | _ => false)
  | .bytes n x :: ps, y => (match y with | .bytes n' x' :: qs => Nat.beq n n' && Nat.beq x x' && sameP ps qs | _ => false)
  | p :: ps, y => (match y with | q :: qs => scalar p && sameX p q && sameP ps qs | _ => false)
end
theorem same_scalar {p q : CV} (hs : scalar p = true) (h : sameX p q = true) : scalar q = true := by
  cases p <;> cases q <;> first | rfl | (cases hs; done) | (simp [sameX] at h; done)
theorem sameP_cons {p : CV} {ps qs : List CV} (hs : scalar p = true) (h : sameP (p :: ps) qs = true) : ∃ q qs', qs = q :: qs' ∧ sameX p q = true ∧ sameP ps qs' = true := by
  cases qs with
  | nil =>
    have h' : sameP (p :: ps) [] = false := by cases p <;> first | (cases hs; done) | rfl
    rw [h'] at h; cases h
  | cons q qs =>
    have h' : sameP (p :: ps) (q :: qs) = (scalar p && sameX p q && sameP ps qs) := by cases p <;> first | (cases hs; done) | rfl
    rw [h'] at h
    simp only [Bool.and_eq_true] at h
    exact ⟨q, qs, rfl, h.1.2, h.2⟩
mutual
theorem same_ok : ∀ (z z' : CV), sameX z z' = true → ∀ {m m' : M}, Pre m m' → ∀ {v v' : Value}, Vrel m z v → Vrel m' z' v' → v = v'
  | .int k n, z', h, m, m', hp, v, v', hv, hv' => by
    simp only [sameX] at h
    split at h
    · simp only [Bool.and_eq_true, decide_eq_true_eq] at h
      simp only [Vrel] at hv hv'
      rw [hv, hv', h.1, sameI_ok h.2]
    · cases h
  | .bool b, z', h, m, m', hp, v, v', hv, hv' => by
    simp only [sameX] at h
    split at h
    · simp only [Vrel] at hv hv'
      rw [hv, hv', eq_of_beq h]
    · cases h
  | .ptr k o, z', h, m, m', hp, v, v', hv, hv' => by
    simp only [sameX] at h
    split at h
    · simp only [Bool.and_eq_true] at h
      obtain ⟨e, h1, rfl⟩ := hv
      obtain ⟨e', h2, rfl⟩ := hv'
      rw [← Nat.eq_of_beq_eq_true h.1, hp _ _ h1] at h2
      injection h2 with h2
      rw [h2, Nat.eq_of_beq_eq_true h.2]
    · cases h
  | .nilp, z', h, m, m', hp, v, v', hv, hv' => by
    simp only [sameX] at h
    split at h
    · simp only [Vrel] at hv hv'; rw [hv, hv']
    · cases h
  | .sl k o l c, z', h, m, m', hp, v, v', hv, hv' => by
    simp only [sameX] at h
    split at h
    · simp only [Bool.and_eq_true] at h
      obtain ⟨⟨⟨h0, h3⟩, h4⟩, h5⟩ := h
      obtain ⟨e, h1, rfl⟩ := hv
      obtain ⟨e', h2, rfl⟩ := hv'
      rw [← Nat.eq_of_beq_eq_true h0, hp _ _ h1] at h2
      injection h2 with h2
      rw [h2, Nat.eq_of_beq_eq_true h3, Nat.eq_of_beq_eq_true h4, Nat.eq_of_beq_eq_true h5]
    · cases h
  | .nils, z', h, m, m', hp, v, v', hv, hv' => by
    simp only [sameX] at h
    split at h
    · simp only [Vrel] at hv hv'; rw [hv, hv']
    · cases h
  | .map k, z', h, m, m', hp, v, v', hv, hv' => by
    simp only [sameX] at h
    split at h
    · obtain ⟨e, h1, rfl⟩ := hv
      obtain ⟨e', h2, rfl⟩ := hv'
      rw [← Nat.eq_of_beq_eq_true h, hp _ _ h1] at h2
      injection h2 with h2
      rw [h2]
    · cases h
  | .nilm, z', h, m, m', hp, v, v', hv, hv' => by
    simp only [sameX] at h
    split at h
    · simp only [Vrel] at hv hv'; rw [hv, hv']
    · cases h
  | .nilf, z', h, m, m', hp, v, v', hv, hv' => by
    simp only [sameX] at h
    split at h
    · simp only [Vrel] at hv hv'; rw [hv, hv']
    · cases h
  | .agg ps, z', h, m, m', hp, v, v', hv, hv' => by
    simp only [sameX] at h
    split at h
    · obtain ⟨c, rfl, h1⟩ := hv
      obtain ⟨c', rfl, h2⟩ := hv'
      rw [Array.toList_inj.1 (sameP_ok ps _ h hp h1 h2)]
    · cases h
  | .str _, z', h, _, _, _, _, _, _, _ | .so _ _ _ _, z', h, _, _, _, _, _, _, _ | .fn _ _ _, z', h, _, _, _, _, _, _, _ | .bytes _ _, z', h, _, _, _, _, _, _, _ | .tup _, z', h, _, _, _, _, _, _, _ | .yv _, z', h, _, _, _, _, _, _, _ | .junk, z', h, _, _, _, _, _, _, _ => by simp only [sameX] at h; cases h
theorem sameP_ok : ∀ (ps qs : List CV), sameP ps qs = true → ∀ {m m' : M}, Pre m m' → ∀ {l l' : List Value}, Crel m ps l → Crel m' qs l' → l = l'
  | [], qs, h, m, m', hp, l, l', hl, hl' => by
    simp only [sameP] at h
    split at h
    · simp only [Crel] at hl hl'; rw [hl, hl']
    · cases h
  | p :: ps, qs, h, m, m', hp, l, l', hl, hl' => by
    rcases Crel_scalar hl with ⟨n, x, rfl⟩ | hs
    · simp only [sameP] at h
      split at h
      · simp only [Bool.and_eq_true] at h
        obtain ⟨r, rfl, h1⟩ := hl
        obtain ⟨r', rfl, h2⟩ := hl'
        rw [sameP_ok ps _ h.2 hp h1 h2, Nat.eq_of_beq_eq_true h.1.1, Nat.eq_of_beq_eq_true h.1.2]
      · cases h
    · obtain ⟨q, qs', rfl, h1, h2⟩ := sameP_cons hs h
      have hq := same_scalar hs h1
      rw [Crel_cons hs] at hl
      rw [Crel_cons hq] at hl'
      obtain ⟨v, r, rfl, _, h3, h4⟩ := hl
      obtain ⟨v', r', rfl, _, h5, h6⟩ := hl'
      rw [same_ok p q h1 hp h3 h5, sameP_ok ps qs' h2 hp h4 h6]
end

/-! ### Two new blocks, whichever comes first -/
theorem xNew_raw {o : CO} {h : CH} {k : Nat → CH → Bool} (hk : xNew o h k = true) : ∃ h', k h.n h' = true ∧ h'.wp = h.wp ∧ h'.n = h.n + 1 ∧ h'.get h.n = some o ∧ ∀ j, j ≠ h.n → h'.get j = h.get j := by
  obtain ⟨t, n, wp⟩ := h
  unfold xNew at hk
  simp only [forceN_eq] at hk
  obtain ⟨t', h1, h2, h3⟩ := Tr.setK_ok hk
  exact ⟨.mk t' (n + 1) wp, h1, rfl, rfl, h2, h3⟩
theorem rel_two {H0 : Hp} {m : M} {h h2 : CH} {H HH : Hp} {o o' : CO} {O O' : Obj} {z z' x y : Nat} (hr : Rel H0 m h H) (hn : h2.n = h.n + 2) (hw : h2.wp = h.wp) (g1 : h2.get h.n = some o) (g2 : h2.get (h.n + 1) = some o') (g3 : ∀ j, j ≠ h.n → j ≠ h.n + 1 → h2.get j = h.get j)
    (ho : Orel m (x, z) o O) (ho' : Orel m (y, z') o' O') (hx : Ext H HH) (x1 : HH[x]? = some O) (y1 : HH[y]? = some O') (hxy : x ≠ y) (x2 : H.size ≤ x) (y2 : H.size ≤ y) :
    Rel H0 (m ++ [(x, z), (y, z')]) h2 HH ∧ Stp h.wp m H (m ++ [(x, z), (y, z')]) HH ∧ (m ++ [(x, z), (y, z')])[h.n]? = some (x, z) ∧ (m ++ [(x, z), (y, z')])[h.n + 1]? = some (y, z') := by
  have hl : m.length = h.n := hr.len
  have e1 : (m ++ [(x, z), (y, z')])[h.n]? = some (x, z) := by rw [List.getElem?_append_right (by omega)]; simp [hl]
  have e2 : (m ++ [(x, z), (y, z')])[h.n + 1]? = some (y, z') := by rw [List.getElem?_append_right (by omega)]; simp [hl]
  have hpre : Pre m (m ++ [(x, z), (y, z')]) := fun k e hk => by
    have hlt : k < m.length := by
      rcases Nat.lt_or_ge k m.length with h1 | h1
      · exact h1
      · rw [List.getElem?_eq_none h1] at hk; cases hk
    rw [List.getElem?_append_left hlt]; exact hk
  have hold : ∀ (j : Nat) (d : Nat × Nat), (m ++ [(x, z), (y, z')])[j]? = some d → (j = h.n ∧ d = (x, z)) ∨ (j = h.n + 1 ∧ d = (y, z')) ∨ (j ≠ h.n ∧ j ≠ h.n + 1 ∧ m[j]? = some d) := fun j d hd => by
    by_cases h1 : j = h.n
    · subst h1; rw [e1] at hd; injection hd with hd; exact .inl ⟨rfl, hd.symm⟩
    · by_cases h2 : j = h.n + 1
      · subst h2; rw [e2] at hd; injection hd with hd; exact .inr (.inl ⟨rfl, hd.symm⟩)
      · refine .inr (.inr ⟨h1, h2, ?_⟩)
        rw [List.getElem?_append] at hd
        split at hd
        · exact hd
        · rw [List.getElem?_eq_none (by simp; omega)] at hd; cases hd
  have hget : ∀ j w, h2.get j = some w → (j = h.n ∧ w = o) ∨ (j = h.n + 1 ∧ w = o') ∨ (j ≠ h.n ∧ j ≠ h.n + 1 ∧ h.get j = some w) := fun j w hj => by
    by_cases q1 : j = h.n
    · subst q1; rw [g1] at hj; injection hj with hj; exact .inl ⟨rfl, hj.symm⟩
    · by_cases q2 : j = h.n + 1
      · subst q2; rw [g2] at hj; injection hj with hj; exact .inr (.inl ⟨rfl, hj.symm⟩)
      · exact .inr (.inr ⟨q1, q2, by rw [← g3 j q1 q2]; exact hj⟩)
  have low : ∀ (q : Nat) (w : CO) (c : Nat × Nat), h.get q = some w → m[q]? = some c → c.1 < H.size := fun q w c hq hc => by
    obtain ⟨e', O2, h4, h5, _⟩ := hr.obj q w hq
    rw [hc] at h4; injection h4 with h4; subst h4
    exact Vc.lt_of_block h5
  refine ⟨⟨hr.ext.trans hx, by simp [hl, hn], fun k e hk => ?_, fun k w hkw => ?_, fun j k w w' d e hj hk hd he hde => ?_, fun k e hk => ?_⟩, ⟨hpre, by simp, hx.kp _, fun k e hk => ?_⟩, e1, e2⟩
  · rcases hold k e hk with ⟨_, rfl⟩ | ⟨_, rfl⟩ | ⟨_, _, h5⟩
    · exact Nat.le_trans hr.ext.le x2
    · exact Nat.le_trans hr.ext.le y2
    · exact hr.new k e h5
  · rcases hget k w hkw with ⟨rfl, rfl⟩ | ⟨rfl, rfl⟩ | ⟨_, _, h5⟩
    · exact ⟨_, O, e1, x1, ho.mono hpre⟩
    · exact ⟨_, O', e2, y1, ho'.mono hpre⟩
    · obtain ⟨e, O2, h6, h7, h8⟩ := hr.obj k w h5
      exact ⟨e, O2, hpre _ _ h6, hx.at h7, h8.mono hpre⟩
  · have mo : ∀ {q : Nat} {c : Nat × Nat}, q ≠ h.n → q ≠ h.n + 1 → (m ++ [(x, z), (y, z')])[q]? = some c → m[q]? = some c := fun q1 q2 hq => by
      rcases hold _ _ hq with ⟨h5, _⟩ | ⟨h5, _⟩ | ⟨_, _, h5⟩
      · exact absurd h5 q1
      · exact absurd h5 q2
      · exact h5
    rcases hget j w hj with ⟨rfl, rfl⟩ | ⟨rfl, rfl⟩ | ⟨j1, j2, j3⟩ <;> rcases hget k w' hk with ⟨rfl, rfl⟩ | ⟨rfl, rfl⟩ | ⟨k1, k2, k3⟩
    · rfl
    · rw [e1] at hd; rw [e2] at he; injection hd with hd; injection he with he; subst hd; subst he; exact absurd hde hxy
    · rw [e1] at hd; injection hd with hd; subst hd
      have := low _ _ _ k3 (mo k1 k2 he); simp only at hde; omega
    · rw [e2] at hd; rw [e1] at he; injection hd with hd; injection he with he; subst hd; subst he; exact absurd hde.symm hxy
    · rfl
    · rw [e2] at hd; injection hd with hd; subst hd
      have := low _ _ _ k3 (mo k1 k2 he); simp only at hde; omega
    · rw [e1] at he; injection he with he; subst he
      have := low _ _ _ j3 (mo j1 j2 hd); simp only at hde; omega
    · rw [e2] at he; injection he with he; subst he
      have := low _ _ _ j3 (mo j1 j2 hd); simp only at hde; omega
    · exact hr.inj j k w w' d e j3 k3 (mo j1 j2 hd) (mo k1 k2 he) hde
  · rcases hold k e hk with ⟨_, rfl⟩ | ⟨_, rfl⟩ | ⟨_, _, h5⟩
    · exact Vc.lt_of_block x1
    · exact Vc.lt_of_block y1
    · exact Nat.lt_of_lt_of_le (hr.low k e h5) hx.le
  · rcases hold k e hk with ⟨_, rfl⟩ | ⟨_, rfl⟩ | ⟨_, _, h5⟩
    · exact .inr (.inl x2)
    · exact .inr (.inl y2)
    · exact .inl h5

/-! ### Regions in another order than the text's -/
inductive Plan
  | ord (l : List Nat)
  | ld (t : Two)
  | f2 (t : Two)
  | two (t : Two)
  | tree (w : List Nat) (t : OT)
  | all (t : OT)
  | raw (w : List Nat)
def freeO (d : Option Tmp) (x : Operand) : Bool := match d, x with | some d, .tmp t => !(Nat.beq d t) | _, _ => true
theorem freeO_ev {d : Option Tmp} {x : Operand} (h : freeO d x = true) (fr : Fr) (v : Value) : ev (putF fr d v) x = ev fr x := by
  cases d with
  | none => rfl
  | some d =>
    cases x with
    | tmp t =>
      have hne : ¬ d = t := fun e => by subst e; simp [freeO] at h
      show slot (fr.set d v) t = slot fr t
      unfold slot
      rw [List.getD_eq_getElem?_getD, List.getD_eq_getElem?_getD, List.getElem?_set, if_neg hne]
    | const v => rfl
    | global g => rfl
    | func f => rfl
def unlike (d d' : Option Tmp) : Bool := match d, d' with | some d, some d' => !(Nat.beq d d') | _, _ => true
theorem unlike_put {d d' : Option Tmp} (h : unlike d d' = true) (fr : Fr) (v v' : Value) : putF (putF fr d v) d' v' = putF (putF fr d' v') d v := by
  cases d with
  | none => rfl
  | some d =>
    cases d' with
    | none => rfl
    | some d' =>
      have hne : ¬ d = d' := fun e => by subst e; simp [unlike] at h
      show (fr.set d v).set d' v' = (fr.set d' v').set d v
      exact List.set_comm v v' hne

section
variable (P : Program) (qf : FuncId → Bool) (Z : List (Nat × CV)) (C : List (Nat × Ex))
noncomputable def xLd (ops : Array Oper) (t : Two) (fr : List CV) (h : CH) (K : List CV → CH → Bool) : Bool :=
  xA P qf Z C true true ops (pick ops t.A) [] fr h fun sk fr h =>
    match ops[t.k]?, ops[t.i]? with
    | some ok, some oi => (match ok.op with
      | .load T a => ifX (ok.guard.isNone && oi.guard.isNone) (xLoad (ldK P T) (evX fr a) h fun z => xOp P qf Z C true true oi (evX fr) h fun u h' => xLoad (ldK P T) (evX fr a) h' fun z' =>
          ifX (sameX z z') (xOps P qf Z C true true ops (pick ops t.C) sk (putX (putX fr ok.dst z) oi.dst u) h' K) false) false
      | _ => false)
    | _, _ => false
noncomputable def xF2 (ops : Array Oper) (t : Two) (fr : List CV) (h : CH) (K : List CV → CH → Bool) : Bool :=
  xA P qf Z C true true ops (pick ops t.A) [] fr h fun sk fr h =>
    match ops[t.k]?, ops[t.i]? with
    | some ok, some oi => (match ok.op, oi.op with
      | .makeSlice T l c, .makeSlice T' l' c' => ifX (ok.guard.isNone && oi.guard.isNone && freeO ok.dst l' && freeO ok.dst c' && freeO oi.dst l && freeO oi.dst c && unlike ok.dst oi.dst)
          (xMkO (appK P T) (elemZ P Z T) (evX fr l) (evX fr c) fun o n1 c1 => xMkO (appK P T') (elemZ P Z T') (evX fr l') (evX fr c') fun o' n2 c2 =>
            xNew o h fun b h1 => xNew o' h1 fun b' h2 => xOps P qf Z C true true ops (pick ops t.C) sk (putX (putX fr ok.dst (.sl b 0 n1 c1)) oi.dst (.sl b' 0 n2 c2)) h2 K) false
      | _, _ => false)
    | _, _ => false
end

theorem pick_cons {ops : Array Oper} {x : Nat} {l : List Nat} {o : Oper} (h : ops[x]? = some o) : pick ops (x :: l) = o :: pick ops l := by
  unfold pick; rw [List.filterMap_cons, h]
theorem put_agree {ops : Array Oper} {x : Nat} {o : Oper} (h : ops[x]? = some o) (fr : List CV) (v : CV) : AgreeX (dstsOf ops.toList) fr (putX fr o.dst v) :=
  AgreeX.put fun d hd => by
    unfold dstsOf
    exact List.mem_filterMap.2 ⟨o, by simpa using Array.mem_of_getElem? h, hd⟩

theorem xLd_ok {P : Program} {qf : FuncId → Bool} {Z : List (Nat × CV)} {C : List (Nat × Ex)} (he : EnvOk P Z C) {ops : Array Oper} {t : Two} {fr : List CV} {h : CH} {K : List CV → CH → Bool} (hk : xLd P qf Z C ops t fr h K = true) :
    ∃ fr' h', K fr' h' = true ∧ h'.wp = h.wp ∧ AgreeX (dstsOf ops.toList) fr fr' ∧ ∀ {H0 m H frv} {Kv : Fr → Hp → Prop}, Rel H0 m h H → Vrels m fr frv → FinF H0 m h H fr' h' Kv → vcLd P qf ops t frv H Kv := by
  unfold xLd at hk
  obtain ⟨sk, fr1, h1, k1, w1, a1, s1⟩ := xA_ok he hk
  clear hk
  split at k1 <;> try (cases k1; done)
  rename_i ok oi hok hoi
  split at k1 <;> try (cases k1; done)
  rename_i T a hop
  rw [ifX_eq] at k1
  split at k1 <;> try (cases k1; done)
  rename_i hg
  simp only [Bool.and_eq_true, Option.isNone_iff_eq_none] at hg
  obtain ⟨z, k2, L1⟩ := xLoad_ok k1
  obtain ⟨u, h2, k3, w3, s3⟩ := xOp_ok he k2
  obtain ⟨z', k4, L2⟩ := xLoad_ok k3
  rw [ifX_eq] at k4
  split at k4 <;> try (cases k4; done)
  rename_i hsame
  obtain ⟨fr2, h3, k5, w5, a5, s5⟩ := xOps_ok he k4
  refine ⟨fr2, h3, k5, (w5.trans w3).trans w1, (((a1.mono pick_dsts).trans (put_agree hok _ _)).trans (put_agree hoi _ _)).trans (a5.mono pick_dsts), fun {H0 m H frv Kv} hr hv hf => ?_⟩
  refine s1 hr hv fun m1 H1 frv1 hr1 hs1 hv1 => ?_
  obtain ⟨v, e1, r1⟩ := L1 hr1 (ev_rel hv1 a)
  have ldv : ∀ {H2 : Hp}, loadE (ldK P T) (ev frv1 a) H2 = some v → vcOp P qf true true ok (ev frv1) H2 (fun u _ => u = v) := fun {H2} hl => by
    unfold vcOp
    rw [hop]
    simp only [hl, Pu_some]
  refine ⟨ok, oi, v, hok, hoi, hg.1, hg.2, ldv e1, s3 hr1 (ev_rel hv1) fun m2 H2 uv hr2 hs2 hu2 => ?_⟩
  obtain ⟨v', e2, r2⟩ := L2 hr2 (Vrel.mono hs2.pre _ (ev_rel hv1 a))
  have hvv := same_ok z z' hsame hs2.pre r1 r2
  subst hvv
  refine ⟨ldv e2, s5 hr2 (put_rel (put_rel (Vrels.mono hs2.pre _ hv1) ok.dst (Vrel.mono hs2.pre _ r1)) oi.dst hu2) fun m3 H3 frv3 hr3 hs3 hv3 => ?_⟩
  rw [w3, w1] at hs3
  rw [w1] at hs2
  exact hf _ _ _ hr3 ((hs1.trans hs2).trans hs3) hv3

theorem xF2_ok {P : Program} {qf : FuncId → Bool} {Z : List (Nat × CV)} {C : List (Nat × Ex)} (he : EnvOk P Z C) {ops : Array Oper} {t : Two} {fr : List CV} {h : CH} {K : List CV → CH → Bool} (hk : xF2 P qf Z C ops t fr h K = true) :
    ∃ fr' h', K fr' h' = true ∧ h'.wp = h.wp ∧ AgreeX (dstsOf ops.toList) fr fr' ∧ ∀ {H0 m H frv} {Kv : Fr → Hp → Prop}, Rel H0 m h H → Vrels m fr frv → FinF H0 m h H fr' h' Kv → vcTwo P qf ops t frv H Kv := by
  unfold xF2 at hk
  obtain ⟨sk, fr1, h1, k1, w1, a1, s1⟩ := xA_ok he hk
  clear hk
  split at k1 <;> try (cases k1; done)
  rename_i ok oi hok hoi
  split at k1 <;> try (cases k1; done)
  rename_i T l c T' l' c' hop hop'
  rw [ifX_eq] at k1
  split at k1 <;> try (cases k1; done)
  rename_i hg
  simp only [Bool.and_eq_true, Option.isNone_iff_eq_none] at hg
  obtain ⟨⟨⟨⟨⟨⟨hgk, hgi⟩, f1⟩, f2⟩, f3⟩, f4⟩, hun⟩ := hg
  obtain ⟨o, n1, c1, k2, M1⟩ := xMkO_ok (elemZ_ok he) k1
  obtain ⟨o', n2, c2, k3, M2⟩ := xMkO_ok (elemZ_ok he) k2
  obtain ⟨h2, k4, w2, n2', g2, o2⟩ := xNew_raw k3
  obtain ⟨h3, k5, w3, n3', g3, o3⟩ := xNew_raw k4
  obtain ⟨fr2, h4, k6, w4, a4, s4⟩ := xOps_ok he k5
  refine ⟨fr2, h4, k6, ((w4.trans w3).trans w2).trans w1, (((a1.mono pick_dsts).trans (put_agree hok _ _)).trans (put_agree hoi _ _)).trans (a4.mono pick_dsts), fun {H0 m H frv Kv} hr hv hf => ?_⟩
  refine s1 hr hv fun m1 H1 frv1 hr1 hs1 hv1 => ?_
  obtain ⟨O, z, m1e, ro⟩ := M1 (m := m1) (ev_rel hv1 l) (ev_rel hv1 c)
  obtain ⟨O', z', m2e, ro'⟩ := M2 (m := m1) (ev_rel hv1 l') (ev_rel hv1 c')
  have opk : ∀ {fr' : Fr} {H2 : Hp} {K : Value → Hp → Prop}, ev fr' l = ev frv1 l → ev fr' c = ev frv1 c → (∀ H3, Ext H2 H3 → K (.slice (some ⟨H3.size, 0, none⟩) n1 c1) (H3.push O)) → vcOp P qf true true ok (ev fr') H2 K := fun {fr' H2 K} q1 q2 hK => by
    unfold vcOp
    rw [hop]
    simp only [q1, q2]
    exact fun H3 hx => by
      show Pu (makeE (elemI P T) (ev frv1 l) (ev frv1 c) H3) (fun y => K y.1 y.2)
      rw [m1e, Pu_some]; exact hK H3 hx
  have opi : ∀ {fr' : Fr} {H2 : Hp} {K : Value → Hp → Prop}, ev fr' l' = ev frv1 l' → ev fr' c' = ev frv1 c' → (∀ H3, Ext H2 H3 → K (.slice (some ⟨H3.size, 0, none⟩) n2 c2) (H3.push O')) → vcOp P qf true true oi (ev fr') H2 K := fun {fr' H2 K} q1 q2 hK => by
    unfold vcOp
    rw [hop']
    simp only [q1, q2]
    exact fun H3 hx => by
      show Pu (makeE (elemI P T') (ev frv1 l') (ev frv1 c') H3) (fun y => K y.1 y.2)
      rw [m2e, Pu_some]; exact hK H3 hx
  have fin : ∀ {HH : Hp} {x y : Nat}, Ext H1 HH → HH[x]? = some O → HH[y]? = some O' → x ≠ y → H1.size ≤ x → H1.size ≤ y →
      vcOps P qf true true ops (pick ops t.C) sk (putF (putF frv1 ok.dst (.slice (some ⟨x, 0, none⟩) n1 c1)) oi.dst (.slice (some ⟨y, 0, none⟩) n2 c2)) HH Kv := fun {HH x y} hx x1 y1 hxy x2 y2 => by
    obtain ⟨R, S, e1, e2⟩ := rel_two (h2 := h3) (o := o) (o' := o') (z := z) (z' := z') hr1 (by rw [n3', n2']) (w3.trans w2) (by rw [o3 _ (by rw [n2']; omega)]; exact g2) (by rw [← n2']; exact g3) (fun j q1 q2 => by rw [o3 j (by rw [n2']; exact q2), o2 j q1]) (ro x) (ro' y) hx x1 y1 hxy x2 y2
    rw [n2'] at s4
    have q1 : Vrel (m1 ++ [(x, z), (y, z')]) (.sl h1.n 0 n1 c1) (.slice (some ⟨x, 0, none⟩) n1 c1) := ⟨_, e1, rfl⟩
    have q2 : Vrel (m1 ++ [(x, z), (y, z')]) (.sl (h1.n + 1) 0 n2 c2) (.slice (some ⟨y, 0, none⟩) n2 c2) := ⟨_, e2, rfl⟩
    refine s4 R (put_rel (put_rel (Vrels.mono S.pre _ hv1) ok.dst q1) oi.dst q2) fun m3 H3 frv3 hr3 hs3 hv3 => ?_
    rw [w3, w2, w1] at hs3
    rw [w1] at S
    exact hf _ _ _ hr3 ((hs1.trans S).trans hs3) hv3
  constructor
  · rw [pick_cons hok, pick_cons hoi]
    simp only [vcOps, hgk, hgi]
    refine opk rfl rfl fun H2 hx2 => ?_
    refine opi (freeO_ev f1 _ _) (freeO_ev f2 _ _) fun H3 hx3 => ?_
    have hp2 := Ext.push H2 O
    have hp3 := Ext.push H3 O'
    have l2 := hx2.le
    have l3 := hx3.le
    simp only [Array.size_push] at l3
    refine fin (x := H2.size) (y := H3.size) ((hx2.trans hp2).trans (hx3.trans hp3)) (hp3.at (hx3.at (get_push_new H2 O))) (get_push_new H3 O') (by omega) l2 (by omega)
  · rw [pick_cons hoi, pick_cons hok]
    simp only [vcOps, hgk, hgi]
    refine opi rfl rfl fun H2 hx2 => ?_
    refine opk (freeO_ev f3 _ _) (freeO_ev f4 _ _) fun H3 hx3 => ?_
    rw [← unlike_put hun]
    have hp2 := Ext.push H2 O'
    have hp3 := Ext.push H3 O
    have l2 := hx2.le
    have l3 := hx3.le
    simp only [Array.size_push] at l3
    refine fin (x := H3.size) (y := H2.size) ((hx2.trans hp2).trans (hx3.trans hp3)) (get_push_new H3 O) (hp3.at (hx3.at (get_push_new H2 O'))) (by omega) (by omega) l2

noncomputable abbrev both (A B : Bool) : Bool := Bool.rec false B A
theorem both_ok {A B : Bool} (h : both A B = true) : A = true ∧ B = true := by cases A <;> first | exact ⟨rfl, h⟩ | cases h
/-! ### The same memory -/
mutual
def eqC : CV → CV → Bool
  | .int k n, y => (match y with | .int k' n' => decide (k = k') && sameI n n' | _ => false)
  | .bool b, y => (match y with | .bool b' => b == b' | _ => false)
  | .str s, y => (match y with | .str s' => decide (s.data.toList = s'.data.toList) | _ => false)
  | .ptr k o, y => (match y with | .ptr k' o' => Nat.beq k k' && Nat.beq o o' | _ => false)
  | .nilp, y => (match y with | .nilp => true | _ => false)
  | .sl k o l c, y => (match y with | .sl k' o' l' c' => Nat.beq k k' && Nat.beq o o' && Nat.beq l l' && Nat.beq c c' | _ => false)
  | .so k o l c, y => (match y with | .so k' o' l' c' => Nat.beq k k' && Nat.beq o o' && Nat.beq l l' && Nat.beq c c' | _ => false)
  | .nils, y => (match y with | .nils => true | _ => false)
  | .map k, y => (match y with | .map k' => Nat.beq k k' | _ => false)
  | .nilm, y => (match y with | .nilm => true | _ => false)
  | .nilf, y => (match y with | .nilf => true | _ => false)
  | .fn f a c, y => (match y with | .fn f' a' c' => Nat.beq f f' && eqCs a a' && eqCs c c' | _ => false)
  | .bytes n x, y => (match y with | .bytes n' x' => Nat.beq n n' && Nat.beq x x' | _ => false)
  | .agg ps, y => (match y with | .agg qs => eqCs ps qs | _ => false)
  | .tup ps, y => (match y with | .tup qs => eqCs ps qs | _ => false)
  | .yv k, y => (match y with | .yv k' => Nat.beq k k' | _ => false)
  | .junk, y => (match y with | .junk => true | _ => false)
def eqCs : List CV → List CV → Bool
  | [], y => (match y with | [] => true | _ => false)
  | p :: ps, y => (match y with | q :: qs => eqC p q && eqCs ps qs | _ => false)
end
theorem eqN {a b : Nat} (h : Nat.beq a b = true) : a = b := Nat.eq_of_beq_eq_true h
mutual
theorem eqC_ok : ∀ (x y : CV), eqC x y = true → x = y
  | .int k n, y, h => by
    cases y <;> first | (simp [eqC] at h; done) | skip
    simp only [eqC, Bool.and_eq_true, decide_eq_true_eq] at h
    rw [h.1, sameI_ok h.2]
  | .bool b, y, h => by
    cases y <;> first | (simp [eqC] at h; done) | skip
    · simp only [eqC] at h; rw [eq_of_beq h]
  | .str s, y, h => by
    cases y <;> first | (simp [eqC] at h; done) | skip
    rename_i s'
    simp only [eqC, decide_eq_true_eq] at h
    cases s; cases s'
    simp only at h
    rw [Array.toList_inj.1 h]
  | .ptr k o, y, h => by
    cases y <;> first | (simp [eqC] at h; done) | skip
    simp only [eqC, Bool.and_eq_true] at h
    rw [eqN h.1, eqN h.2]
  | .nilp, y, h => by cases y <;> first | rfl | (simp [eqC] at h; done)
  | .sl k o l c, y, h => by
    cases y <;> first | (simp [eqC] at h; done) | skip
    simp only [eqC, Bool.and_eq_true] at h
    rw [eqN h.1.1.1, eqN h.1.1.2, eqN h.1.2, eqN h.2]
  | .so k o l c, y, h => by
    cases y <;> first | (simp [eqC] at h; done) | skip
    simp only [eqC, Bool.and_eq_true] at h
    rw [eqN h.1.1.1, eqN h.1.1.2, eqN h.1.2, eqN h.2]
  | .nils, y, h => by cases y <;> first | rfl | (simp [eqC] at h; done)
  | .map k, y, h => by
    cases y <;> first | (simp [eqC] at h; done) | skip
    simp only [eqC] at h; rw [eqN h]
  | .nilm, y, h => by cases y <;> first | rfl | (simp [eqC] at h; done)
  | .nilf, y, h => by cases y <;> first | rfl | (simp [eqC] at h; done)
  | .fn f a c, y, h => by
    cases y <;> first | (simp [eqC] at h; done) | skip
    simp only [eqC, Bool.and_eq_true] at h
    rw [eqN h.1.1, eqCs_ok a _ h.1.2, eqCs_ok c _ h.2]
  | .bytes n x, y, h => by
    cases y <;> first | (simp [eqC] at h; done) | skip
    simp only [eqC, Bool.and_eq_true] at h
    rw [eqN h.1, eqN h.2]
  | .agg ps, y, h => by
    cases y <;> first | (simp [eqC] at h; done) | skip
    simp only [eqC] at h; rw [eqCs_ok ps _ h]
  | .tup ps, y, h => by
    cases y <;> first | (simp [eqC] at h; done) | skip
    simp only [eqC] at h; rw [eqCs_ok ps _ h]
  | .yv k, y, h => by
    cases y <;> first | (simp [eqC] at h; done) | skip
    simp only [eqC] at h; rw [eqN h]
  | .junk, y, h => by cases y <;> first | rfl | (simp [eqC] at h; done)
theorem eqCs_ok : ∀ (x y : List CV), eqCs x y = true → x = y
  | [], y, h => by
    cases y with
    | nil => rfl
    | cons => simp [eqCs] at h
  | p :: ps, y, h => by
    cases y with
    | nil => simp [eqCs] at h
    | cons q qs =>
      simp only [eqCs, Bool.and_eq_true] at h
      rw [eqC_ok p q h.1, eqCs_ok ps qs h.2]
end
def eqO {α : Type} (f : α → α → Bool) : Option α → Option α → Bool
  | none, none => true
  | some a, some b => f a b
  | _, _ => false
theorem eqO_ok {α : Type} {f : α → α → Bool} (hf : ∀ a b, f a b = true → a = b) : ∀ {x y : Option α}, eqO f x y = true → x = y
  | none, none, _ => rfl
  | some a, some b, h => by rw [hf a b h]
  | none, some b, h => by cases h
  | some a, none, h => by cases h
def eqTr {α : Type} (f : α → α → Bool) : Tr α → Tr α → Bool
  | .lf, y => (match y with | .lf => true | _ => false)
  | .nd l v r, y => (match y with | .nd l' v' r' => eqTr f l l' && eqO f v v' && eqTr f r r' | _ => false)
theorem eqTr_ok {α : Type} {f : α → α → Bool} (hf : ∀ a b, f a b = true → a = b) : ∀ (x y : Tr α), eqTr f x y = true → x = y
  | .lf, y, h => by cases y <;> first | rfl | (simp [eqTr] at h; done)
  | .nd l v r, y, h => by
    cases y with
    | lf => simp [eqTr] at h
    | nd l' v' r' =>
      simp only [eqTr, Bool.and_eq_true] at h
      rw [eqTr_ok hf l l' h.1.1, eqO_ok hf h.1.2, eqTr_ok hf r r' h.2]
def eqEs : List (CV × CV) → List (CV × CV) → Bool
  | [], y => (match y with | [] => true | _ => false)
  | p :: ps, y => (match y with | q :: qs => eqC p.1 q.1 && eqC p.2 q.2 && eqEs ps qs | _ => false)
theorem eqEs_ok : ∀ (x y : List (CV × CV)), eqEs x y = true → x = y
  | [], y, h => by
    cases y with
    | nil => rfl
    | cons => simp [eqEs] at h
  | p :: ps, y, h => by
    cases y with
    | nil => simp [eqEs] at h
    | cons q qs =>
      simp only [eqEs, Bool.and_eq_true] at h
      obtain ⟨p1, p2⟩ := p
      obtain ⟨q1, q2⟩ := q
      rw [eqC_ok p1 q1 h.1.1, eqC_ok p2 q2 h.1.2, eqEs_ok ps qs h.2]
def eqCO : CO → CO → Bool
  | .row T es len d t, y => (match y with | .row T' es' len' d' t' => Nat.beq T T' && Nat.beq es es' && Nat.beq len len' && eqO eqCs d d' && eqTr eqCs t t' | _ => false)
  | .map es c, y => (match y with | .map es' c' => eqEs es es' && Nat.beq c c' | _ => false)
  | .fz T n x, y => (match y with | .fz T' n' x' => Nat.beq T T' && Nat.beq n n' && Nat.beq x x' | _ => false)
  | .lp st j n fr, y => (match y with | .lp st' j' n' fr' => Nat.beq st st' && eqO (eqO Nat.beq) j j' && Nat.beq n n' && eqCs fr fr' | _ => false)
theorem eqCO_ok : ∀ (x y : CO), eqCO x y = true → x = y
  | .row T es len d t, y, h => by
    cases y <;> first | (simp [eqCO] at h; done) | skip
    simp only [eqCO, Bool.and_eq_true] at h
    rw [eqN h.1.1.1.1, eqN h.1.1.1.2, eqN h.1.1.2, eqO_ok (fun a b => eqCs_ok a b) h.1.2, eqTr_ok (fun a b => eqCs_ok a b) _ _ h.2]
  | .map es c, y, h => by
    cases y <;> first | (simp [eqCO] at h; done) | skip
    simp only [eqCO, Bool.and_eq_true] at h
    rw [eqEs_ok es _ h.1, eqN h.2]
  | .fz T n x, y, h => by
    cases y <;> first | (simp [eqCO] at h; done) | skip
    simp only [eqCO, Bool.and_eq_true] at h
    rw [eqN h.1.1, eqN h.1.2, eqN h.2]
  | .lp st j n fr, y, h => by
    cases y <;> first | (simp [eqCO] at h; done) | skip
    simp only [eqCO, Bool.and_eq_true] at h
    rw [eqN h.1.1.1, eqO_ok (fun a b => eqO_ok fun a b => eqN) h.1.1.2, eqN h.1.2, eqCs_ok fr _ h.2]
def eqH : CH → CH → Bool
  | .mk t n wp, y => (match y with | .mk t' n' wp' => eqTr eqCO t t' && Nat.beq n n' && Nat.beq wp wp')
theorem eqH_ok {x y : CH} (h : eqH x y = true) : x = y := by
  cases x; cases y
  simp only [eqH, Bool.and_eq_true] at h
  rw [eqTr_ok eqCO_ok _ _ h.1.1, eqN h.1.2, eqN h.2]

section
variable (P : Program) (qf : FuncId → Bool) (Z : List (Nat × CV)) (C : List (Nat × Ex)) (ops : Array Oper) (K : List CV → CH → Bool)
mutual
noncomputable def xT : OT → List Nat → List CV → CH → Bool
  | .line l => fun sk fr h => xOps P qf Z C true true ops (pick ops l) sk fr h K
  | .fork A bs => fun sk fr h => xA P qf Z C true true ops (pick ops A) sk fr h (xB bs)
noncomputable def xB : OB → List Nat → List CV → CH → Bool
  | .nil => fun _ _ _ => true
  | .cons i t bs => fun sk fr h => both (xA P qf Z C true true ops (pick ops [i]) sk fr h (xT t)) (xB bs sk fr h)
end
end
mutual
theorem xT_ok {P : Program} {qf : FuncId → Bool} {Z : List (Nat × CV)} {C : List (Nat × Ex)} (he : EnvOk P Z C) {ops : Array Oper} {K : List CV → CH → Bool} : ∀ (t : OT) {sk : List Nat} {fr : List CV} {h : CH}, xT P qf Z C ops K t sk fr h = true →
    ∀ {H0 m H frv} {Kv : Fr → Hp → Prop}, Rel H0 m h H → Vrels m fr frv → (∀ fr' h', K fr' h' = true → h'.wp = h.wp → AgreeX (dstsOf ops.toList) fr fr' → FinF H0 m h H fr' h' Kv) → vcT P qf ops Kv t sk frv H
  | .line l, sk, fr, h, hk, H0, m, H, frv, Kv, hr, hv, hf => by
    simp only [xT] at hk
    simp only [vcT]
    obtain ⟨fr', h', k1, w1, a1, s1⟩ := xOps_ok he hk
    exact s1 hr hv (hf fr' h' k1 w1 (a1.mono pick_dsts))
  | .fork A bs, sk, fr, h, hk, H0, m, H, frv, Kv, hr, hv, hf => by
    simp only [xT] at hk
    simp only [vcT]
    obtain ⟨sk', fr', h', k1, w1, a1, s1⟩ := xA_ok he hk
    refine s1 hr hv fun m1 H1 frv1 hr1 hs1 hv1 => ?_
    exact xB_ok he bs k1 hr1 hv1 fun fr2 h2 k2 w2 a2 m2 H2 frv2 hr2 hs2 hv2 => by
      rw [w1] at hs2
      exact hf fr2 h2 k2 (w2.trans w1) ((a1.mono pick_dsts).trans a2) m2 H2 frv2 hr2 (hs1.trans hs2) hv2
theorem xB_ok {P : Program} {qf : FuncId → Bool} {Z : List (Nat × CV)} {C : List (Nat × Ex)} (he : EnvOk P Z C) {ops : Array Oper} {K : List CV → CH → Bool} : ∀ (bs : OB) {sk : List Nat} {fr : List CV} {h : CH}, xB P qf Z C ops K bs sk fr h = true →
    ∀ {H0 m H frv} {Kv : Fr → Hp → Prop}, Rel H0 m h H → Vrels m fr frv → (∀ fr' h', K fr' h' = true → h'.wp = h.wp → AgreeX (dstsOf ops.toList) fr fr' → FinF H0 m h H fr' h' Kv) → vcB P qf ops Kv bs sk frv H
  | .nil, sk, fr, h, hk, H0, m, H, frv, Kv, hr, hv, hf => by simp only [vcB]
  | .cons i t bs, sk, fr, h, hk, H0, m, H, frv, Kv, hr, hv, hf => by
    simp only [xB] at hk
    simp only [vcB]
    obtain ⟨k0, k9⟩ := both_ok hk
    refine ⟨?_, xB_ok he bs k9 hr hv hf⟩
    obtain ⟨sk', fr', h', k1, w1, a1, s1⟩ := xA_ok he k0
    refine s1 hr hv fun m1 H1 frv1 hr1 hs1 hv1 => ?_
    exact xT_ok he t k1 hr1 hv1 fun fr2 h2 k2 w2 a2 m2 H2 frv2 hr2 hs2 hv2 => by
      rw [w1] at hs2
      exact hf fr2 h2 k2 (w2.trans w1) ((a1.mono pick_dsts).trans a2) m2 H2 frv2 hr2 (hs1.trans hs2) hv2
end
/-- Each walk of the tree comes to the same. -/
noncomputable def xTree (P : Program) (qf : FuncId → Bool) (Z : List (Nat × CV)) (C : List (Nat × Ex)) (ops : Array Oper) (w : List Nat) (t : OT) (fr : List CV) (h : CH) (K : List CV → CH → Bool) : Bool :=
  xOps P qf Z C true true ops (pick ops w) [] fr h fun fr1 h1 => both (xT P qf Z C ops (fun fr2 h2 => eqCs fr1 fr2 && eqH h1 h2) t [] fr h) (K fr1 h1)
theorem xTree_ok {P : Program} {qf : FuncId → Bool} {Z : List (Nat × CV)} {C : List (Nat × Ex)} (he : EnvOk P Z C) {ops : Array Oper} {w : List Nat} {t : OT} {fr : List CV} {h : CH} {K : List CV → CH → Bool} (hk : xTree P qf Z C ops w t fr h K = true) :
    ∃ fr' h', K fr' h' = true ∧ h'.wp = h.wp ∧ AgreeX (dstsOf ops.toList) fr fr' ∧ ∀ {H0 m H frv} {Kv : Fr → Hp → Prop}, Rel H0 m h H → Vrels m fr frv → FinF H0 m h H fr' h' Kv → vcT P qf ops Kv t [] frv H := by
  unfold xTree at hk
  obtain ⟨fr1, h1, k1, w1, a1, _⟩ := xOps_ok he hk
  obtain ⟨k2, k3⟩ := both_ok k1
  refine ⟨fr1, h1, k3, w1, a1.mono pick_dsts, fun {H0 m H frv Kv} hr hv hf => ?_⟩
  refine xT_ok he t k2 hr hv fun fr2 h2 q1 q2 _ => ?_
  simp only [Bool.and_eq_true] at q1
  rw [← eqCs_ok _ _ q1.1, ← eqH_ok q1.2]
  exact hf

section
variable (P : Program) (qf : FuncId → Bool) (Z : List (Nat × CV)) (C : List (Nat × Ex))
noncomputable def xRegP (p : Option Plan) (ops : Array Oper) (dr : Bool) (fr : List CV) (h : CH) (K : List CV → CH → Bool) : Bool :=
  match p with
  | none => xReg P qf Z C ops dr fr h K
  | some (.ord l) => ifX (dr && (P.follows .mixedOrders && ordB ops (clAt P qf true true ops) l)) (xOps P qf Z C true true ops (pick ops l) [] fr h K) false
  | some (.ld t) => ifX (dr && (P.follows .mixedOrders && ldB ops (clAt P qf true true ops) t)) (xLd P qf Z C ops t fr h K) false
  | some (.f2 t) => ifX (dr && (P.follows .mixedOrders && twoB ops (clAt P qf true true ops) t)) (xF2 P qf Z C ops t fr h K) false
  | some (.tree w t) => ifX (dr && (P.follows .mixedOrders && treeB ops (clAt P qf true true ops) t)) (xTree P qf Z C ops w t fr h K) false
  | some (.two _) => false
  | some (.all _) => false
  | some (.raw _) => false
end
theorem sim_region {P : Program} {top : Bool} {id : Nat} {ops : Array Oper} {dr : Bool} {fr fr' : List CV} {h h' : CH} (hs : ∀ {Q : Exit → Ks} {frv : Fr} {a : Act} {w : World} {H0 : Hp} {m : M} (r : Option Nat), At a frv → Rel H0 m h w.heap → Vrels m fr frv → FinF H0 m h w.heap fr' h' (fun frv' H' => Q .normal frv' a.defers H') → (Code.region id ops dr).wpIn (wideR r) 0 P (Post (dstsOf ops.toList) true Q frv a w) a w) :
    SimC P top (.region id ops dr) fr h .normal fr' h' := by
  intro H0 m frv a w r _ hr hv ha
  refine wpIn_mono (hs (Q := fun e fr ds H' => e = .normal ∧ ∃ m', Rel H0 m' h' H' ∧ Stp h.wp m w.heap m' H' ∧ Vrels m' fr' fr) r ha hr hv fun m' H' frv' r1 r2 r3 => ⟨rfl, m', r1, r2, r3⟩) fun e a' w' hp => ?_
  obtain ⟨frv', p1, p2, _, ⟨p3, m', p4, p5, p6⟩, p7⟩ := hp
  exact ⟨p3, m', frv', p4, p5, p6, p1, Dfs.of_eq (p2 rfl), p7⟩

theorem regP_ok {P : Program} {top : Bool} {qf : FuncId → Bool} {Z : List (Nat × CV)} {C : List (Nat × Ex)} (he : EnvOk P Z C) {p : Option Plan} {id : Nat} {ops : Array Oper} {dr : Bool} {fr : List CV} {h : CH} {K : List CV → CH → Bool} (hk : xRegP P qf Z C p ops dr fr h K = true) :
    ∃ fr' h', K fr' h' = true ∧ h'.wp = h.wp ∧ AgreeX (dstsOf ops.toList) fr fr' ∧ SimC P top (.region id ops dr) fr h .normal fr' h' := by
  unfold xRegP at hk
  split at hk
  · have fin : ∃ fr' h', K fr' h' = true ∧ h'.wp = h.wp ∧ AgreeX (dstsOf ops.toList) fr fr' ∧ ∀ {H0 m H frv} {Kv : Fr → Hp → Prop}, Rel H0 m h H → Vrels m fr frv → FinF H0 m h H fr' h' Kv → vcReg P qf ops dr frv H Kv := by
      unfold xReg at hk
      simp only [ifX_eq] at hk
      unfold vcReg
      split at hk
      · split at hk
        · rename_i hn
          obtain ⟨fr', h', k1, k2, k3, k4⟩ := xOps_ok he hk
          exact ⟨fr', h', k1, k2, k3, fun {H0 m H frv Kv} hr hv hf => by
            simp only
            rw [if_pos hn]; exact k4 hr hv hf⟩
        · cases hk
      · split at hk
        · rename_i hn
          obtain ⟨fr', h', k1, k2, k3, k4⟩ := xOps_ok he hk
          exact ⟨fr', h', k1, k2, k3, fun {H0 m H frv Kv} hr hv hf => by
            simp only
            rw [if_pos hn]; exact k4 hr hv hf⟩
        · rename_i hn0
          split at hk
          · rename_i hn
            obtain ⟨fr', h', k1, k2, k3, k4⟩ := xOps_ok he hk
            exact ⟨fr', h', k1, k2, k3, fun {H0 m H frv Kv} hr hv hf => by
              simp only
              rw [if_neg hn0, if_pos hn]; exact k4 hr hv hf⟩
          · cases hk
    obtain ⟨fr', h', k1, k2, k3, k4⟩ := fin
    exact ⟨fr', h', k1, k2, k3, sim_region fun {Q frv a w H0 m} r ha hr hv hf => region_sound ha (k4 hr hv hf)⟩
  · rw [ifX_eq] at hk
    split at hk <;> try (cases hk; done)
    rename_i hb
    simp only [Bool.and_eq_true] at hb
    obtain ⟨rfl, hm, hB⟩ := hb
    obtain ⟨fr', h', k1, k2, k3, k4⟩ := xOps_ok he hk
    exact ⟨fr', h', k1, k2, k3.mono pick_dsts, sim_region fun {Q frv a w H0 m} r ha hr hv hf => ord_sound hm hB ha (k4 hr hv hf)⟩
  · rw [ifX_eq] at hk
    split at hk <;> try (cases hk; done)
    rename_i hb
    simp only [Bool.and_eq_true] at hb
    obtain ⟨rfl, hm, hB⟩ := hb
    obtain ⟨fr', h', k1, k2, k3, k4⟩ := xLd_ok he hk
    exact ⟨fr', h', k1, k2, k3, sim_region fun {Q frv a w H0 m} r ha hr hv hf => ld_sound hm hB ha (k4 hr hv hf)⟩
  · rw [ifX_eq] at hk
    split at hk <;> try (cases hk; done)
    rename_i hb
    simp only [Bool.and_eq_true] at hb
    obtain ⟨rfl, hm, hB⟩ := hb
    obtain ⟨fr', h', k1, k2, k3, k4⟩ := xF2_ok he hk
    exact ⟨fr', h', k1, k2, k3, sim_region fun {Q frv a w H0 m} r ha hr hv hf => two_sound hm hB ha (k4 hr hv hf)⟩
  · rw [ifX_eq] at hk
    split at hk <;> try (cases hk; done)
    rename_i hb
    simp only [Bool.and_eq_true] at hb
    obtain ⟨rfl, hm, hB⟩ := hb
    obtain ⟨fr', h', k1, k2, k3, k4⟩ := xTree_ok he hk
    exact ⟨fr', h', k1, k2, k3, sim_region fun {Q frv a w H0 m} r ha hr hv hf => tree_sound hm hB ha (k4 hr hv hf)⟩
  · cases hk
  · cases hk
  · cases hk

end Go.Xc

/- Xc, part L: code, run. -/
set_option linter.unusedVariables false
set_option linter.unusedSectionVars false
set_option linter.unusedSimpArgs false
namespace Go.Xc
open Go.Vc
variable [Sites]

/-! ### Code -/
def TupC : Nat → Type
  | 0 => Unit
  | n + 1 => CV × TupC n
def grabX (fr : List CV) : (L : List Nat) → TupC L.length
  | [] => ()
  | k :: L => (slotX fr k, grabX fr L)
def layX : (L : List Nat) → TupC L.length → List CV → List CV
  | [], _, fr => fr
  | k :: L, s, fr => (layX L s.2 fr).set k s.1
def junkX (J : List Nat) (fr : List CV) : List CV :=
  match J with
  | [] => fr
  | k :: J => (junkX J fr).set k .junk

theorem junkX_len (J : List Nat) (fr : List CV) : (junkX J fr).length = fr.length := by
  induction J with
  | nil => rfl
  | cons k J ih => simp [junkX, ih]
theorem junkX_get (J : List Nat) (fr : List CV) (k : Nat) : (junkX J fr)[k]? = if k ∈ J then (if k < fr.length then some .junk else none) else fr[k]? := by
  induction J with
  | nil => simp [junkX]
  | cons j J ih =>
    simp only [junkX, List.getElem?_set, junkX_len, ih, List.mem_cons]
    by_cases h1 : j = k
    · subst h1; simp
    · have h2 : ¬ k = j := fun e => h1 e.symm
      simp [h1, h2]
theorem layX_get (fr1 : List CV) : ∀ (L : List Nat) (fr : List CV) (k : Nat), (layX L (grabX fr1 L) fr)[k]? = if k ∈ L then (if k < fr.length then some (slotX fr1 k) else none) else fr[k]?
  | [], fr, k => by simp [layX]
  | j :: L, fr, k => by
    have hlen : ∀ (L : List Nat) (s : TupC L.length) (fr : List CV), (layX L s fr).length = fr.length := by
      intro L
      induction L with
      | nil => intro s fr; rfl
      | cons a L ih => intro s fr; simp [layX, ih]
    simp only [layX, grabX, List.getElem?_set, hlen, layX_get fr1 L fr k, List.mem_cons]
    by_cases h1 : j = k
    · subst h1; simp
    · have h2 : ¬ k = j := fun e => h1 e.symm
      simp [h1, h2]
/-- Behind code that writes W alone the frame is known as before, but for L, known anew, and J, no longer known. -/
theorem lay_rel {W L J : List Nat} {fr fr1 : List CV} {m : M} {frv : Fr} (h : AgreeX W fr fr1) (hs : subB W (L ++ J) = true) (hv : Vrels m fr1 frv) : Vrels m (layX L (grabX fr1 L) (junkX J fr)) frv := by
  have hl := Vrels_len hv
  have hlen : (layX L (grabX fr1 L) (junkX J fr)).length = fr.length := by
    have : ∀ (L : List Nat) (s : TupC L.length) (fr : List CV), (layX L s fr).length = fr.length := by
      intro L
      induction L with
      | nil => intro s fr; rfl
      | cons a L ih => intro s fr; simp [layX, ih]
    rw [this, junkX_len]
  refine Vrels_of (by rw [hlen, ← hl, h.1]) fun k x hk => ?_
  rw [layX_get, junkX_len, junkX_get] at hk
  by_cases hL : k ∈ L
  · rw [if_pos hL] at hk
    split at hk
    · rename_i hlt
      injection hk with hk; subst hk
      have h2 := slot_rel hv k
      have : k < frv.length := by rw [← hl, h.1]; exact hlt
      refine ⟨slot frv k, ?_, h2⟩
      simp [slot, this]
    · cases hk
  · rw [if_neg hL] at hk
    by_cases hJ : k ∈ J
    · rw [if_pos hJ] at hk
      split at hk
      · rename_i hlt
        injection hk with hk; subst hk
        have : k < frv.length := by rw [← hl, h.1]; exact hlt
        exact ⟨frv[k], List.getElem?_eq_getElem this, trivial⟩
      · cases hk
    · rw [if_neg hJ] at hk
      have : k ∉ W := fun hm => by
        have := subB_spec hs k hm
        simp [hL, hJ] at this
      rw [← h.2 k this] at hk
      exact Vrels_get hv hk
theorem lay_agree {W L J : List Nat} {fr fr1 : List CV} (h : AgreeX W fr fr1) (hJ : subB J W = true) : AgreeX W fr (layX L (grabX fr1 L) (junkX J fr)) := by
  have hlen : (layX L (grabX fr1 L) (junkX J fr)).length = fr.length := by
    have : ∀ (L : List Nat) (s : TupC L.length) (fr : List CV), (layX L s fr).length = fr.length := by
      intro L
      induction L with
      | nil => intro s fr; rfl
      | cons a L ih => intro s fr; simp [layX, ih]
    rw [this, junkX_len]
  refine ⟨hlen, fun k hk => ?_⟩
  rw [layX_get, junkX_len, junkX_get]
  by_cases hL : k ∈ L
  · rw [if_pos hL]
    have h1 := h.2 k hk
    by_cases hlt : k < fr.length
    · rw [if_pos hlt]
      have hlt1 : k < fr1.length := by rw [h.1]; exact hlt
      rw [← h1]
      simp [slotX, hlt1]
    · rw [if_neg hlt, List.getElem?_eq_none (by omega)]
  · rw [if_neg hL]
    have : k ∉ J := fun hm => hk (subB_spec hJ k hm)
    rw [if_neg this]

abbrev QX := Exit → List CV → CH → Bool
abbrev thnX (K : List CV → CH → Bool) (Q : QX) : QX
  | .normal, fr, h => K fr h
  | e, fr, h => Q e fr h
noncomputable abbrev isXX (k id : Nat) (A B : Bool) : Bool := Bool.rec B A (Nat.beq k id)
noncomputable abbrev blkX (id : Nat) (Q : QX) : QX
  | .exit k, fr, h => isXX k id (Q .normal fr h) (Q (.exit k) fr h)
  | e, fr, h => Q e fr h
abbrev scpX (Q : QX) : QX
  | .goto _, _, _ => false
  | e, fr, h => Q e fr h
noncomputable def xJoin {n : Nat} (rest : TupC n → CH → Bool) (first : (TupC n → CH → Bool) → Bool) : Bool := first rest
noncomputable def xLoop {n : Nat} (body : (TupC n → CH → Bool) → TupC n → CH → Bool) (N : Nat) : TupC n → CH → Bool :=
  Nat.rec (motive := fun _ => TupC n → CH → Bool) (fun _ _ => false) (fun _ ih s h => body ih s h) N

abbrev xJmp (j : Option (Option Nat)) (A B : Bool) (D : Nat → Bool) : Bool :=
  match j with
  | none => A
  | some none => B
  | some (some id) => D id
/-- A loop over a function: its record is laid, the function called with what asks for rounds; then the jump that is pending. -/
noncomputable def xRange (C : List (Nat × Ex)) (n : Nat) (fr : List CV) (g : CV) (h : CH) (K : Option (Option Nat) → CH → Bool) : Bool :=
  match g with
  | .fn f a c => xNew (.lp 0 none n fr) h fun b h1 => xCallF C f ((a ++ [.yv b]) ++ c) h1 fun _ h2 =>
      (match h2.get b with
      | some (.lp st j n' fr') => Bool.rec (xSet b (.lp 3 j n' fr') h2 fun h3 => K j h3) false (Nat.beq st 1)
      | _ => false)
  | _ => false
/-- The loops over functions in code are those of the numbers that it is annotated by; top: not within a round. -/
def SitesIn (top : Bool) : Code → Ann → Prop
  | .seq a b, ann => (match ann with
    | .join _ _ l r => SitesIn top a l ∧ SitesIn top b r
    | .seq l r => SitesIn top a l ∧ SitesIn top b r
    | _ => SitesIn top a .nil ∧ SitesIn top b .nil)
  | .cond _ a b, ann => (match ann with
    | .cond l r => SitesIn top a l ∧ SitesIn top b r
    | _ => SitesIn top a .nil ∧ SitesIn top b .nil)
  | .block _ c, ann => SitesIn top c ann
  | .scope c, ann => SitesIn top c ann
  | .loop c, ann => (match ann with
    | .loop _ _ b => SitesIn top c b
    | _ => True)
  | .rangeFunc _ ps x y, ann => (match ann with
    | .loop [n] _ _ => top = true ∧ Sites.ok n ps x y
    | _ => True)
  | _, _ => True

noncomputable def xc (P : Program) (qf : FuncId → Bool) (Z : List (Nat × CV)) (C : List (Nat × Ex)) (T : List (Nat × Plan)) : Code → Ann → QX → List CV → CH → Bool
  | .skip, _, Q, fr, h => Q .normal fr h
  | .label _, _, Q, fr, h => Q .normal fr h
  | .ret, _, Q, fr, h => Q .ret fr h
  | .exit id, _, Q, fr, h => Q (.exit id) fr h
  | .region id ops dr, _, Q, fr, h => xRegP P qf Z C (look T id) ops dr fr h fun fr' h' => Q .normal fr' h'
  | .seq a b, ann, Q, fr, h =>
    match ann with
    | .join L J l r =>
      ifX (subB (writes a) (L ++ J) && subB J (writes a))
        (xJoin (fun s h => xc P qf Z C T b r Q (layX L s (junkX J fr)) h) fun K => xc P qf Z C T a l (thnX (fun fr' h' => K (grabX fr' L) h') Q) fr h)
        false
    | .seq l r => xc P qf Z C T a l (thnX (xc P qf Z C T b r Q) Q) fr h
    | _ => xc P qf Z C T a .nil (thnX (xc P qf Z C T b .nil Q) Q) fr h
  | .cond c a b, ann, Q, fr, h =>
    match ann with
    | .cond l r => xIte (evX fr c) (xc P qf Z C T a l Q fr h) (xc P qf Z C T b r Q fr h)
    | _ => xIte (evX fr c) (xc P qf Z C T a .nil Q fr h) (xc P qf Z C T b .nil Q fr h)
  | .block id c, ann, Q, fr, h => xc P qf Z C T c ann (blkX id Q) fr h
  | .scope c, ann, Q, fr, h => xc P qf Z C T c ann (scpX Q) fr h
  | .loop c, ann, Q, fr, h =>
    match ann with
    | .loop L J b =>
      ifX (subB (writes c) (L ++ J) && subB J (writes c))
        (xLoop (n := L.length) (fun K s h => xc P qf Z C T c b (thnX (fun fr' h' => K (grabX fr' L) h') Q) (layX L s (junkX J fr)) h) 1000000 (grabX fr L) h)
        false
    | _ => false
  | .rangeFunc g _ _ _, ann, Q, fr, h =>
    match ann with
    | .loop [n] _ _ => xRange C n fr (evX fr g) h fun j h' => xJmp j (Q .normal fr h') (Q .ret fr h') fun id => Q (.exit id) fr h'
    | _ => false
  | _, _, _, _, _ => false

theorem PostX.trans {tp : Bool} {H0 : Hp} {m m1 : M} {wp : Nat} {e : Exit} {fr' : List CV} {h' : CH} {a a1 : Act} {w w1 : World} {e' : Exit} {a' : Act} {w' : World} (hs : Stp wp m w.heap m1 w1.heap) (hd : Dfs tp m1 w.heap.size w1.heap a1.defers a.defers) (hsm : Sm w w1) (h : PostX tp H0 m1 wp e fr' h' a1 w1 e' a' w') : PostX tp H0 m wp e fr' h' a w e' a' w' := by
  obtain ⟨h1, m', frv', h2, h3, h4, h5, h6, h7⟩ := h
  exact ⟨h1, m', frv', h2, hs.trans h3, h4, h5, hd.trans h3 hs.kp.le h6, hsm.trans h7⟩

theorem seq_ok {P : Program} {top : Bool} {x y : Code} {fr fr1 fr1' fr2 : List CV} {h h1 h2 : CH} {e : Exit} (hw : h1.wp = h.wp) (s1 : SimC P top x fr h .normal fr1 h1) (hfr : ∀ {m frv}, Vrels m fr1 frv → Vrels m fr1' frv) (s2 : SimC P top y fr1' h1 e fr2 h2) : SimC P top (.seq x y) fr h e fr2 h2 := by
  intro H0 m frv a w r ht hr hv ha
  refine wpIn_seq (wpIn_mono (s1 r ht hr hv ha) fun e' a' w' hp => ?_)
  obtain ⟨rfl, m', frv', k1, k2, k3, k4, k5, k6⟩ := hp
  refine wpIn_mono (s2 r ht k1 (hfr k3) k4) fun e'' a'' w'' hp => ?_
  rw [hw] at hp
  exact hp.trans k2 k5 k6
theorem seq_exit {P : Program} {top : Bool} {x y : Code} {fr fr1 : List CV} {h h1 : CH} {e : Exit} (hn : e ≠ .normal) (s1 : SimC P top x fr h e fr1 h1) : SimC P top (.seq x y) fr h e fr1 h1 := by
  intro H0 m frv a w r ht hr hv ha
  refine wpIn_seq (wpIn_mono (s1 r ht hr hv ha) fun e' a' w' hp => ?_)
  have he := hp.1
  subst he
  cases e' <;> first | exact absurd rfl hn | exact hp

theorem thnX_ok {K : List CV → CH → Bool} {Q : QX} {e : Exit} {fr : List CV} {h : CH} (hq : thnX K Q e fr h = true) : (e = .normal ∧ K fr h = true) ∨ (e ≠ .normal ∧ Q e fr h = true) := by
  cases e <;> first | exact .inl ⟨rfl, hq⟩ | exact .inr ⟨by simp, hq⟩

/-- A LOOP OVER A FUNCTION, RUN. -/
theorem range_ok {P : Program} {top : Bool} {Z : List (Nat × CV)} {C : List (Nat × Ex)} (he : EnvOk P Z C) {n : Nat} {g : Operand} {ps : Array Tmp} {x y : Code} (htop : top = true) (hok : Sites.ok n ps x y) {Q : QX} {fr : List CV} {h : CH} (hk : xRange C n fr (evX fr g) h (fun j h' => xJmp j (Q .normal fr h') (Q .ret fr h') fun id => Q (.exit id) fr h') = true) :
    ∃ e h', Q e fr h' = true ∧ h'.wp = h.wp ∧ SimC P top (.rangeFunc g ps x y) fr h e fr h' := by
  unfold xRange at hk
  split at hk <;> try (cases hk; done)
  rename_i f fa fc hg
  obtain ⟨h1, k1, w1, hnew⟩ := xNew_ok hk
  clear hk
  obtain ⟨hen, z, h2, k2, w2, s2⟩ := xCallF_ok he k1
  clear k1
  split at k2 <;> try (cases k2; done)
  rename_i st j n' fr' hlp
  cases hst : Nat.beq st 1 with
  | true => rw [hst] at k2; cases k2
  | false =>
    rw [hst] at k2
    obtain ⟨h3, k3, w3, hset⟩ := xSet_ok k2
    clear k2
    have hstne : stOf st ≠ .busy := by
      match st, hst with
      | 0, _ => simp [stOf]
      | 1, hst => cases hst
      | 2, _ => simp [stOf]
      | k + 3, _ => simp [stOf]
    have out : ∃ e, Q e fr h3 = true ∧ ((j = none ∧ e = .normal) ∨ (j = some none ∧ e = .ret) ∨ ∃ id, j = some (some id) ∧ e = .exit id) := by
      match j, k3 with
      | none, k3 => exact ⟨.normal, k3, .inl ⟨rfl, rfl⟩⟩
      | some none, k3 => exact ⟨.ret, k3, .inr (.inl ⟨rfl, rfl⟩)⟩
      | some (some id), k3 => exact ⟨.exit id, k3, .inr (.inr ⟨id, rfl, rfl⟩)⟩
    obtain ⟨e, hq, hje⟩ := out
    refine ⟨e, h3, hq, (w3.trans w2).trans w1, ?_⟩
    intro H0 m frv a w r ht hr hv ha
    have hrn := ht htop
    subst hrn
    have hgr := ev_rel hv g
    rw [hg] at hgr
    obtain ⟨va, vc, hgv, ra, rc⟩ := hgr
    have hga : a.eval g = .func (.func f) va vc := by rw [ha.ev]; exact hgv
    refine wpIn_rangeFunc fun fn _ => ?_
    let rec0 : Loop := { state := .ready, pending := none, fn := fn, tmps := a.tmps, params := ps, assign := x, body := y, defers := w.heap.size }
    let Hd : Hp := w.heap.push (.deferred (some []))
    let H1 : Hp := Hd.push (.loop rec0)
    let w1' : World := { w with heap := H1 }
    have hsd : Hd.size = w.heap.size + 1 := by simp [Hd]
    have hxd : Ext w.heap Hd := Ext.push _ _
    have hfr : Vrels m fr rec0.tmps.toList := by
      show Vrels m fr a.tmps.toList
      rw [show a.tmps = frv.toArray from ha]; exact hv
    obtain ⟨r1, r2, r3⟩ := hnew (z := 0) (O := .loop rec0) (hr.ext' hxd) ⟨rec0, rfl, hok, hfr⟩
    have hsz1 : H1.size = w.heap.size + 2 := by simp [H1, Hd]
    have hD1 : H1[w.heap.size]? = some (.deferred (some [])) := by
      simp only [H1, Hd]
      rw [Array.getElem?_push, if_neg (by simp), Array.getElem?_push, if_pos rfl]
    have hDm : ∀ (k : Nat) (e : Nat × Nat), (m ++ [(Hd.size, 0)])[k]? = some e → e.1 ≠ w.heap.size := fun k e hk => by
      rw [List.getElem?_append] at hk
      split at hk
      · have := hr.low k e hk; omega
      · cases hkk : k - m.length with
        | zero => rw [hkk] at hk; simp at hk; subst hk; simp [hsd]
        | succ q => rw [hkk] at hk; simp at hk
    have hyv : Vrels (m ++ [(Hd.size, 0)]) ((fa ++ [.yv h.n]) ++ fc) ((va.toList ++ [Value.func (.yield (w.heap.size + 1)) #[] #[]]) ++ vc.toList) := by
      refine Vrels_append (Vrels_append (Vrels.mono r2.pre fa ra) ⟨_, [], rfl, ⟨_, r3, ?_⟩, rfl⟩) (Vrels.mono r2.pre fc rc)
      rw [hsd]
    have hcall := s2 (K := fun _ H5 => ∃ m' Dm : M, Dm = m ∧ Rel H0 m' h2 H5 ∧ Stp h.wp m w.heap m' H5 ∧ H5[w.heap.size]? = some (.deferred (some [])) ∧ (∀ (k : Nat) (e : Nat × Nat), m'[k]? = some e → e.1 ≠ w.heap.size) ∧ m'[h.n]? = some (w.heap.size + 1, 0)) r1 hyv (fun m' H5 v q1 q2 q3 => by
      rw [w1] at q2
      refine ⟨m', m, rfl, q1, ((Stp.ext hxd).trans r2).trans q2, ?_, fun k e hk he' => ?_, by rw [← hsd]; exact q2.pre _ _ r3⟩
      · rw [q2.kp.same w.heap.size (by show w.heap.size < H1.size; omega) fun ⟨k, e, h4, _, h5⟩ => hDm k e h4 h5]
        exact hD1
      · rcases q2.new k e hk with h6 | h6 | h6
        · exact hDm k e h6 he'
        · have : H1.size ≤ e.1 := h6
          omega
        · obtain ⟨i, d, h8, _, h9⟩ := h6
          exact hDm i d h8 (h9.trans he'))
    refine ⟨w.heap.size + 1, [markD w.heap.size], w1', { target := .fn (.func f) vc, args := va ++ #[.func (.yield (w.heap.size + 1)) #[] #[]] }, w1', f, (va ++ #[.func (.yield (w.heap.size + 1)) #[] #[]]) ++ vc, w1', ?_, ?_, fun _ _ => trivial, ?_, fun h => by simp [wideR, Fence.wide] at h, ?_⟩
    · simp [Instr.enterLoop, newObj, wideR, Sem.run, markD, w1', H1, Hd, rec0]
      rfl
    · unfold resolve
      simp only [rangeCall, hga]
      simp [Deferred.ofValue, Act.eval]
    · have := enter_ok hen ((va ++ #[.func (.yield (w.heap.size + 1)) #[] #[]]) ++ vc) w1'
      simpa [invoke] using this
    · have e1 : ((va.toList ++ [Value.func (.yield (w.heap.size + 1)) #[] #[]]) ++ vc.toList).toArray = (va ++ #[.func (.yield (w.heap.size + 1)) #[] #[]]) ++ vc := by simp
      rw [e1] at hcall
      refine CallsIn.mono (hcall w1' rfl) fun e5 w5 ⟨v, hev, hpost, hsm⟩ => ?_
      subst hev
      obtain ⟨m', _, _, q1, q2, q3, q4, q5⟩ := hpost
      obtain ⟨e6, O, o1, o2, rec, rfl, o3, o4⟩ := q1.obj h.n _ hlp
      rw [q5] at o1; injection o1 with o1; subst o1
      have hlpj : LpAt rec (w.heap.size + 1) (stOf st) j w5.heap := o2
      refine ⟨_, _, endLoop_ok hstne hlpj, ?_⟩
      obtain ⟨t1, t2⟩ := hset (O := .loop { rec with state := .exhausted, pending := jmpCode j }) q1 hlp q5 ⟨rec, rfl, o3, o4⟩
      have hset' : setLp rec (w.heap.size + 1) .exhausted j w5.heap = w5.heap.setIfInBounds (w.heap.size + 1) (.loop { rec with state := .exhausted, pending := jmpCode j }) := rfl
      have hsm' : Sm w { w5 with heap := setLp rec (w.heap.size + 1) .exhausted j w5.heap } := ⟨hsm.os, hsm.out, hsm.tape⟩
      have fin : PostX top H0 m h.wp e fr h3 a w e { a with defers := [markD w.heap.size] ++ a.defers } { w5 with heap := setLp rec (w.heap.size + 1) .exhausted j w5.heap } := by
        rw [w2, w1] at t2
        refine ⟨rfl, m', frv, t1, q2.trans t2, Vrels.mono (q2.pre) fr hv, ha, ⟨[w.heap.size], rfl, ⟨by simp, fun ht => by rw [htop] at ht; cases ht⟩, fun D hD => ?_⟩, hsm'⟩
        rw [List.mem_singleton] at hD
        subst hD
        refine ⟨?_, Nat.le_refl _, q4⟩
        show (w5.heap.setIfInBounds (w.heap.size + 1) _)[w.heap.size]? = _
        rw [get_set_other (by omega)]
        exact q3
      rcases hje with ⟨rfl, rfl⟩ | ⟨rfl, rfl⟩ | ⟨id, rfl, rfl⟩
      · exact fin
      · exact wpIn_ret fin
      · exact wpIn_exit fin

theorem xc_ok {P : Program} {top : Bool} {qf : FuncId → Bool} {Z : List (Nat × CV)} {C : List (Nat × Ex)} {T : List (Nat × Plan)} (he : EnvOk P Z C) : ∀ (c : Code) (ann : Ann) (Q : QX) (fr : List CV) (h : CH), xc P qf Z C T c ann Q fr h = true → SitesIn top c ann →
    ∃ e fr' h', Q e fr' h' = true ∧ h'.wp = h.wp ∧ AgreeX (writes c) fr fr' ∧ SimC P top c fr h e fr' h' := by
  intro c
  have here : ∀ {c : Code} {e : Exit} {fr : List CV} {h : CH}, (∀ {r : Option Nat} {Q : Exit → Act → World → Prop} {a w}, Q e a w → c.wpIn (wideR r) 0 P Q a w) → SimC P top c fr h e fr h := by
    intro c e fr h hc H0 m frv a w r ht hr hv ha
    exact hc ⟨rfl, m, frv, hr, Stp.refl _ _ _, hv, ha, Dfs.refl _ _ _ _ _, Sm.refl w⟩
  induction c with
  | skip => intro ann Q fr h hk hS; exact ⟨.normal, fr, h, by cases ann <;> exact hk, rfl, AgreeX.refl _ _, here fun hq => wpIn_skip hq⟩
  | label l => intro ann Q fr h hk hS; exact ⟨.normal, fr, h, by cases ann <;> exact hk, rfl, AgreeX.refl _ _, here fun hq => wpIn_label hq⟩
  | ret => intro ann Q fr h hk hS; exact ⟨.ret, fr, h, by cases ann <;> exact hk, rfl, AgreeX.refl _ _, here fun hq => wpIn_ret hq⟩
  | exit id => intro ann Q fr h hk hS; exact ⟨.exit id, fr, h, by cases ann <;> exact hk, rfl, AgreeX.refl _ _, here fun hq => wpIn_exit hq⟩
  | region id ops dr =>
    intro ann Q fr h hk hS
    have hk : xRegP P qf Z C (look T id) ops dr fr h (fun fr' h' => Q .normal fr' h') = true := by cases ann <;> exact hk
    obtain ⟨fr', h', k1, k2, k3, k4⟩ := regP_ok (id := id) he hk
    exact ⟨.normal, fr', h', k1, k2, k3, k4⟩
  | block id c ih =>
    intro ann Q fr h hk hS
    have hk : xc P qf Z C T c ann (blkX id Q) fr h = true := by cases ann <;> exact hk
    obtain ⟨e, fr', h', k1, k2, k3, k4⟩ := ih ann (blkX id Q) fr h hk (by cases ann <;> exact hS)
    by_cases hex : e = .exit id
    · subst hex
      have k1 : isXX id id (Q .normal fr' h') (Q (.exit id) fr' h') = true := k1
      unfold isXX at k1
      rw [Nat.beq_refl] at k1
      refine ⟨.normal, fr', h', k1, k2, k3, fun {H0 m frv a w} r ht hr hv ha => ?_⟩
      refine wpIn_block (wpIn_mono (k4 r ht hr hv ha) fun e' a' w' hp => ?_)
      obtain ⟨rfl, hp⟩ := hp
      show (if id = id then _ else _)
      rw [if_pos rfl]
      exact ⟨rfl, hp⟩
    · refine ⟨e, fr', h', ?_, k2, k3, fun {H0 m frv a w} r ht hr hv ha => ?_⟩
      · cases e with
        | exit k =>
          have k1 : isXX k id (Q .normal fr' h') (Q (.exit k) fr' h') = true := k1
          have hne : Nat.beq k id = false := by
            cases hb : Nat.beq k id with
            | false => rfl
            | true => exact absurd (by rw [Nat.eq_of_beq_eq_true hb]) hex
          unfold isXX at k1
          rw [hne] at k1
          exact k1
        | normal => exact k1
        | goto l => exact k1
        | ret => exact k1
        | panic c => exact k1
        | outgrown => exact k1
      · refine wpIn_block (wpIn_mono (k4 r ht hr hv ha) fun e' a' w' hp => ?_)
        obtain ⟨rfl, hp⟩ := hp
        cases e' with
        | exit k =>
          have hne : ¬ k = id := fun hkid => hex (by rw [hkid])
          show (if k = id then _ else _)
          rw [if_neg hne]
          exact ⟨rfl, hp⟩
        | normal => exact ⟨rfl, hp⟩
        | goto l => exact ⟨rfl, hp⟩
        | ret => exact ⟨rfl, hp⟩
        | panic c => exact ⟨rfl, hp⟩
        | outgrown => exact ⟨rfl, hp⟩
  | cond c x y ihx ihy =>
    intro ann Q fr h hk hS
    have hk : ∃ l r', xIte (evX fr c) (xc P qf Z C T x l Q fr h) (xc P qf Z C T y r' Q fr h) = true ∧ SitesIn top x l ∧ SitesIn top y r' := by cases ann <;> exact ⟨_, _, hk, hS.1, hS.2⟩
    obtain ⟨l, r', hk, hS1, hS2⟩ := hk
    unfold xIte at hk
    split at hk
    · rename_i hc
      obtain ⟨e, fr', h', k1, k2, k3, k4⟩ := ihx l Q fr h hk hS1
      refine ⟨e, fr', h', k1, k2, k3.mono fun k hk => List.mem_append_left _ hk, fun {H0 m frv a w} r ht hr hv ha => ?_⟩
      have hcv := ev_rel hv c
      rw [hc] at hcv
      exact wpIn_cond_true (by rw [ha.ev]; exact hcv) (k4 r ht hr hv ha)
    · rename_i hc
      obtain ⟨e, fr', h', k1, k2, k3, k4⟩ := ihy r' Q fr h hk hS2
      refine ⟨e, fr', h', k1, k2, k3.mono fun k hk => List.mem_append_right _ hk, fun {H0 m frv a w} r ht hr hv ha => ?_⟩
      have hcv := ev_rel hv c
      rw [hc] at hcv
      exact wpIn_cond_false (by rw [ha.ev]; exact hcv) (k4 r ht hr hv ha)
    · cases hk
  | seq x y ihx ihy =>
    intro ann Q fr h hk hS
    have plain : ∀ l r', xc P qf Z C T x l (thnX (xc P qf Z C T y r' Q) Q) fr h = true → SitesIn top x l → SitesIn top y r' → ∃ e fr' h', Q e fr' h' = true ∧ h'.wp = h.wp ∧ AgreeX (writes (.seq x y)) fr fr' ∧ SimC P top (.seq x y) fr h e fr' h' := by
      intro l r' hk hS1 hS2
      obtain ⟨e, fr1, h1, k1, k2, k3, k4⟩ := ihx l _ fr h hk hS1
      rcases thnX_ok k1 with ⟨rfl, k1⟩ | ⟨hn, k1⟩
      · obtain ⟨e, fr2, h2, q1, q2, q3, q4⟩ := ihy r' Q fr1 h1 k1 hS2
        exact ⟨e, fr2, h2, q1, q2.trans k2, (k3.mono fun k hk => List.mem_append_left _ hk).trans (q3.mono fun k hk => List.mem_append_right _ hk), seq_ok k2 k4 (fun hv => hv) q4⟩
      · exact ⟨e, fr1, h1, k1, k2, k3.mono fun k hk => List.mem_append_left _ hk, seq_exit hn k4⟩
    have key : (∃ L J l r', (subB (writes x) (L ++ J) && subB J (writes x)) = true ∧ xc P qf Z C T x l (thnX (fun fr' h' => xc P qf Z C T y r' Q (layX L (grabX fr' L) (junkX J fr)) h') Q) fr h = true ∧ SitesIn top x l ∧ SitesIn top y r') ∨ ∃ l r', xc P qf Z C T x l (thnX (xc P qf Z C T y r' Q) Q) fr h = true ∧ SitesIn top x l ∧ SitesIn top y r' := by
      cases ann with
      | join L J l r' =>
        unfold xc at hk
        simp only at hk
        rw [ifX_eq] at hk
        split at hk
        · rename_i hs; exact .inl ⟨_, _, _, _, hs, hk, hS.1, hS.2⟩
        · cases hk
      | seq l r' => unfold xc at hk; exact .inr ⟨_, _, hk, hS.1, hS.2⟩
      | nil => unfold xc at hk; exact .inr ⟨_, _, hk, hS.1, hS.2⟩
      | cond l r' => unfold xc at hk; exact .inr ⟨_, _, hk, hS.1, hS.2⟩
      | loop L J b => unfold xc at hk; exact .inr ⟨_, _, hk, hS.1, hS.2⟩
    rcases key with ⟨L, J, l, r', hs, hk, hS1, hS2⟩ | ⟨l, r', hk, hS1, hS2⟩
    · simp only [Bool.and_eq_true] at hs
      obtain ⟨e, fr1, h1, k1, k2, k3, k4⟩ := ihx l _ fr h hk hS1
      rcases thnX_ok k1 with ⟨rfl, k1⟩ | ⟨hn, k1⟩
      · obtain ⟨e, fr2, h2, q1, q2, q3, q4⟩ := ihy r' Q _ h1 k1 hS2
        exact ⟨e, fr2, h2, q1, q2.trans k2, ((lay_agree k3 hs.2).mono fun k hk => List.mem_append_left _ hk).trans (q3.mono fun k hk => List.mem_append_right _ hk), seq_ok k2 k4 (fun hv => lay_rel k3 hs.1 hv) q4⟩
      · exact ⟨e, fr1, h1, k1, k2, k3.mono fun k hk => List.mem_append_left _ hk, seq_exit hn k4⟩
    · exact plain l r' hk hS1 hS2
  | loop c ih =>
    intro ann Q fr h hk hS
    have key : ∃ L J b, (subB (writes c) (L ++ J) && subB J (writes c)) = true ∧ xLoop (n := L.length) (fun K s h => xc P qf Z C T c b (thnX (fun fr' h' => K (grabX fr' L) h') Q) (layX L s (junkX J fr)) h) 1000000 (grabX fr L) h = true ∧ SitesIn top c b := by
      cases ann with
      | loop L J b =>
        unfold xc at hk
        simp only at hk
        rw [ifX_eq] at hk
        split at hk
        · rename_i hs; exact ⟨_, _, _, hs, hk, hS⟩
        · cases hk
      | nil => cases hk
      | seq l r => cases hk
      | join L J l r => cases hk
      | cond l r => cases hk
    obtain ⟨L, J, b, hs, hk, hS1⟩ := key
    simp only [Bool.and_eq_true] at hs
    have rounds : ∀ (N : Nat) (fr1 : List CV) (h1 : CH), h1.wp = h.wp → AgreeX (writes c) fr fr1 →
        xLoop (n := L.length) (fun K s h => xc P qf Z C T c b (thnX (fun fr' h' => K (grabX fr' L) h') Q) (layX L s (junkX J fr)) h) N (grabX fr1 L) h1 = true →
        ∃ e fr' h', Q e fr' h' = true ∧ h'.wp = h.wp ∧ AgreeX (writes c) fr fr' ∧ ∀ {H0 m frv a w} (r : Option Nat), (top = true → r = none) → Rel H0 m h1 w.heap → Vrels m fr1 frv → At a frv → Code.roundsIn (wideR r) 0 P c (PostX top H0 m h1.wp e fr' h' a w) N a w := by
      intro N
      induction N with
      | zero => intro fr1 h1 _ _ hk; cases hk
      | succ N ihN =>
        intro fr1 h1 hw1 ha1 hk
        have hk' : xc P qf Z C T c b (thnX (fun fr' h' => xLoop (n := L.length) (fun K s h => xc P qf Z C T c b (thnX (fun fr' h' => K (grabX fr' L) h') Q) (layX L s (junkX J fr)) h) N (grabX fr' L) h') Q) (layX L (grabX fr1 L) (junkX J fr)) h1 = true := hk
        obtain ⟨e, fr2, h2, k1, k2, k3, k4⟩ := ih b _ _ h1 hk' hS1
        have hag := (lay_agree (L := L) ha1 hs.2).trans k3
        rcases thnX_ok k1 with ⟨rfl, k1⟩ | ⟨hn, k1⟩
        · obtain ⟨e, fr3, h3, q1, q2, q3, q4⟩ := ihN fr2 h2 (k2.trans hw1) hag k1
          refine ⟨e, fr3, h3, q1, q2, q3, fun {H0 m frv a w} r ht hr hv ha => ?_⟩
          rw [roundsIn_succ]
          refine wpIn_mono (k4 r ht hr (lay_rel ha1 hs.1 hv) ha) fun e' a' w' hp => ?_
          obtain ⟨rfl, m', frv', p1, p2, p3, p4, p5, p6⟩ := hp
          have hq := q4 r ht p1 p3 p4
          rw [k2] at hq
          refine roundsIn_mono (fun e'' a'' w'' hp => ?_) _ _ _ hq
          exact hp.trans p2 p5 p6
        · refine ⟨e, fr2, h2, k1, k2.trans hw1, hag, fun {H0 m frv a w} r ht hr hv ha => ?_⟩
          rw [roundsIn_succ]
          refine wpIn_mono (k4 r ht hr (lay_rel ha1 hs.1 hv) ha) fun e' a' w' hp => ?_
          have hee := hp.1
          subst hee
          cases e' <;> first | exact absurd rfl hn | exact hp
    obtain ⟨e, fr', h', q1, q2, q3, q4⟩ := rounds 1000000 fr h rfl (AgreeX.refl _ _) hk
    exact ⟨e, fr', h', q1, q2, q3, fun {H0 m frv a w} r ht hr hv ha => wpIn_loop_rounds 1000000 (q4 r ht hr hv ha)⟩
  | scope c ih =>
    intro ann Q fr h hk hS
    have hk : xc P qf Z C T c ann (scpX Q) fr h = true := by cases ann <;> exact hk
    obtain ⟨e, fr', h', k1, k2, k3, k4⟩ := ih ann (scpX Q) fr h hk (by cases ann <;> exact hS)
    refine ⟨e, fr', h', ?_, k2, k3, fun {H0 m frv a w} r ht hr hv ha => ?_⟩
    · cases e <;> first | exact k1 | cases k1
    · refine wpIn_scope (wpIn_mono (k4 r ht hr hv ha) fun e' a' w' hp => ?_)
      obtain ⟨rfl, hp⟩ := hp
      cases e' <;> first | exact ⟨rfl, hp⟩ | cases k1
  | goto l => intro ann Q fr h hk hS; cases ann <;> cases hk
  | refuse why => intro ann Q fr h hk hS; cases ann <;> cases hk
  | rangeFunc g ps x y ihx ihy =>
    intro ann Q fr h hk hS
    have key : ∃ n, xRange C n fr (evX fr g) h (fun j h' => xJmp j (Q .normal fr h') (Q .ret fr h') fun id => Q (.exit id) fr h') = true ∧ top = true ∧ Sites.ok n ps x y := by
      cases ann with
      | loop L J b =>
        match L, hk, hS with
        | [n], hk, hS => exact ⟨n, hk, hS⟩
      | nil => cases hk
      | seq l r => cases hk
      | join L J l r => cases hk
      | cond l r => cases hk
    obtain ⟨n, hk, htop, hok⟩ := key
    obtain ⟨e, h', k1, k2, k3⟩ := range_ok he htop hok hk
    exact ⟨e, fr, h', k1, k2, AgreeX.refl _ _, k3⟩
where
  roundsIn_mono {P : Program} {r : Option Nat} {c : Code} {Q Q' : Exit → Act → World → Prop} (hq : ∀ e a w, Q e a w → Q' e a w) : ∀ (N : Nat) (a : Act) (w : World), Code.roundsIn (wideR r) 0 P c Q N a w → Code.roundsIn (wideR r) 0 P c Q' N a w
    | 0, _, _, h => h
    | N + 1, a, w, h => by
      rw [roundsIn_succ] at h ⊢
      refine wpIn_mono h fun e a' w' hp => ?_
      cases e <;> first | exact roundsIn_mono hq N _ _ hp | exact hq _ _ _ hp
end Go.Xc

/- Xc, part M: a function's run is worth a contract. -/
set_option linter.unusedVariables false
set_option linter.unusedSectionVars false
set_option linter.unusedSimpArgs false
namespace Go.Xc
open Go.Vc
variable [Sites]

def mkResX (vs : List CV) : CV :=
  match vs with
  | [v] => v
  | vs => .tup vs
noncomputable def xRes (P : Program) (fr : List CV) (h : CH) (k : CV → Bool) : List ResultVar → List CV → Bool
  | [], acc => k (mkResX acc.reverse)
  | .tmp t :: rs, acc => xRes P fr h k rs (slotX fr t :: acc)
  | .cell t T :: rs, acc => xLoad (ldK P T) (slotX fr t) h fun v => xRes P fr h k rs (v :: acc)
noncomputable abbrev retX (P : Program) (fn : Func) (k : CV → CH → Bool) : QX
  | .normal, fr, h => xRes P fr h (fun v => k v h) fn.results.toList []
  | .ret, fr, h => xRes P fr h (fun v => k v h) fn.results.toList []
  | _, _, _ => false
def padX (args : List CV) (n : Nat) : List CV := args ++ List.replicate (n - args.length) (.tup [])
noncomputable def xFnR (P : Program) (qf : FuncId → Bool) (Z : List (Nat × CV)) (C : List (Nat × Ex)) (T : List (Nat × Plan)) (fn : Func) (ann : Ann) (args : List CV) (h : CH) (k : CV → CH → Bool) : Bool :=
  match fn.body with
  | some c => xc P qf Z C T c ann (retX P fn k) (padX args fn.ntmps) h
  | none => false
noncomputable def xFn (P : Program) (qf : FuncId → Bool) (Z : List (Nat × CV)) (C : List (Nat × Ex)) (T : List (Nat × Plan)) (fn : Func) (ann : Ann) (args : List CV) (h : CH) (k : CV → CH → Bool) : Bool :=
  match fn.body with
  | some c => ifX (noDef c) (xc P qf Z C T c ann (retX P fn k) (padX args fn.ntmps) h) false
  | none => false
theorem sites_none {top : Bool} : ∀ (c : Code) (ann : Ann), noDef c = true → SitesIn top c ann
  | .seq a b, ann, h => by
    simp only [noDef, Bool.and_eq_true] at h
    cases ann <;> exact ⟨sites_none a _ h.1, sites_none b _ h.2⟩
  | .cond _ a b, ann, h => by
    simp only [noDef, Bool.and_eq_true] at h
    cases ann <;> exact ⟨sites_none a _ h.1, sites_none b _ h.2⟩
  | .block _ c, ann, h => by
    have := sites_none (top := top) c ann h
    cases ann <;> exact this
  | .scope c, ann, h => by
    have := sites_none (top := top) c ann h
    cases ann <;> exact this
  | .loop c, ann, h => by
    cases ann with
    | loop L J b => exact sites_none c b h
    | nil => trivial
    | seq l r => trivial
    | join L J l r => trivial
    | cond l r => trivial
  | .rangeFunc _ _ _ _, ann, h => by cases h
  | .skip, ann, _ => by cases ann <;> trivial
  | .label _, ann, _ => by cases ann <;> trivial
  | .ret, ann, _ => by cases ann <;> trivial
  | .exit _, ann, _ => by cases ann <;> trivial
  | .region _ _ _, ann, _ => by cases ann <;> trivial
  | .goto _, ann, _ => by cases ann <;> trivial
  | .refuse _, ann, _ => by cases ann <;> trivial

/-- At a function's end the marks of its loops are taken away. -/
theorem marks_end {H0 : Hp} {m m' : M} {h' : CH} {Hs : Hp} {wp : Nat} {K : Hp → Prop} (h0 : H0.size ≤ Hs.size) (hK : ∀ H', Rel H0 m' h' H' → Stp wp m Hs m' H' → K H') : ∀ (Ds : List Nat) (H : Hp), Ds.Nodup →
    (∀ D ∈ Ds, H[D]? = some (.deferred (some [])) ∧ Hs.size ≤ D ∧ ∀ (k : Nat) (e : Nat × Nat), m'[k]? = some e → e.1 ≠ D) → Rel H0 m' h' H → Stp wp m Hs m' H → VcEnd (Ds.map markD) H K
  | [], H, _, _, hr, hs => hK H hr hs
  | D :: Ds, H, hnd, hD, hr, hs => by
    obtain ⟨h1, h2, h3⟩ := hD D List.mem_cons_self
    have hnd' := List.nodup_cons.1 hnd
    have same : ∀ q, q ≠ D → (H.setIfInBounds D (.deferred none))[q]? = H[q]? := fun q hq => get_set_other fun e => hq e.symm
    refine ⟨h1, marks_end h0 hK Ds _ hnd'.2 (fun E hE => ?_) ?_ ?_⟩
    · obtain ⟨q1, q2, q3⟩ := hD E (List.mem_cons_of_mem _ hE)
      exact ⟨by rw [same E fun e => hnd'.1 (e ▸ hE)]; exact q1, q2, q3⟩
    · refine ⟨hr.ext.set (by omega), hr.len, hr.new, fun k o hk => ?_, hr.inj, fun k e hk => by simp; exact hr.low k e hk⟩
      obtain ⟨e, O, q1, q2, q3⟩ := hr.obj k o hk
      exact ⟨e, O, q1, by rw [same _ (h3 k e q1)]; exact q2, q3⟩
    · refine ⟨hs.pre, hs.len, ⟨by simp; exact hs.kp.le, fun b hb hn => ?_⟩, hs.new⟩
      rw [same b (by omega)]
      exact hs.kp.same b hb hn

theorem Vrels_rev {m : M} {a : List CV} {va : List Value} (h : Vrels m a va) : Vrels m a.reverse va.reverse := by
  induction a generalizing va with
  | nil => simp only [Vrels] at h; subst h; rfl
  | cons x a ih =>
    obtain ⟨v, l', rfl, h1, h2⟩ := h
    rw [List.reverse_cons, List.reverse_cons]
    exact Vrels_append (ih h2) ⟨v, [], rfl, h1, rfl⟩
theorem mkRes_rel {m : M} {a : List CV} {va : List Value} (h : Vrels m a va) : Vrel m (mkResX a) (mkRes va) := by
  match a, h with
  | [], h => simp only [Vrels] at h; subst h; exact ⟨#[], rfl, rfl⟩
  | [x], h =>
    obtain ⟨v, l', rfl, h1, h2⟩ := h
    simp only [Vrels] at h2; subst h2
    exact h1
  | x :: y :: l, h =>
    obtain ⟨v, l', rfl, h1, w, l2, rfl, h2, h3⟩ := h
    exact ⟨(v :: w :: l2).toArray, rfl, v, w :: l2, rfl, h1, w, l2, rfl, h2, h3⟩
theorem xRes_ok {P : Program} {fr : List CV} {h : CH} {k : CV → Bool} : ∀ {rs : List ResultVar} {acc : List CV}, xRes P fr h k rs acc = true → ∃ z, k z = true ∧ ∀ {H0 m H frv accv} {R : Value → Hp → Prop}, Rel H0 m h H → Vrels m fr frv → Vrels m acc accv → (∀ v, Vrel m z v → R v H) → resK P frv H R rs accv
  | [], acc, hk => ⟨_, hk, fun {H0 m H frv accv R} hr hf ha hR => hR _ (mkRes_rel (Vrels_rev ha))⟩
  | .tmp t :: rs, acc, hk => by
    obtain ⟨z, h1, h2⟩ := xRes_ok (rs := rs) hk
    exact ⟨z, h1, fun {H0 m H frv accv R} hr hf ha hR => h2 hr hf ⟨_, _, rfl, slot_rel hf t, ha⟩ hR⟩
  | .cell t T :: rs, acc, hk => by
    have hk : xLoad (ldK P T) (slotX fr t) h (fun v => xRes P fr h k rs (v :: acc)) = true := hk
    obtain ⟨v, hk1, hl⟩ := xLoad_ok hk
    obtain ⟨z, h1, h2⟩ := xRes_ok hk1
    refine ⟨z, h1, fun {H0 m H frv accv R} hr hf ha hR => ?_⟩
    obtain ⟨u, h3, h4⟩ := hl hr (slot_rel hf t)
    show Pu (loadE (ldK P T) (slot frv t) H) fun v => resK P frv H R rs (v :: accv)
    rw [h3, Pu_some]
    exact h2 hr hf ⟨_, _, rfl, h4, ha⟩ hR

theorem pad_rel {m : M} {args : List CV} {vargs : List Value} (h : Vrels m args vargs) (n : Nat) : Vrels m (padX args n) (padF vargs n) := by
  unfold padX padF
  refine Vrels_append h ?_
  rw [Vrels_len h]
  induction (n - vargs.length) with
  | zero => rfl
  | succ k ih => exact ⟨_, _, rfl, unit_rel m, ih⟩

/-- A FUNCTION's RUN IS WORTH A CONTRACT. -/
theorem simR_of {P : Program} {qf : FuncId → Bool} {Z : List (Nat × CV)} {C : List (Nat × Ex)} {T : List (Nat × Plan)} (he : EnvOk P Z C) {f : FuncId} {fn : Func} (ann : Ann) (hf : P.funcs[f]? = some fn) (hS : ∀ c, fn.body = some c → SitesIn true c ann) : SimF P f (xFnR P qf Z C T fn ann) := by
  intro args h k hk
  unfold xFnR at hk
  split at hk
  · rename_i c hb
    obtain ⟨e, fr', h', k1, k2, _, k4⟩ := xc_ok (top := true) he c ann _ _ h hk (hS c hb)
    have key : (e = .normal ∨ e = .ret) ∧ xRes P fr' h' (fun v => k v h') fn.results.toList [] = true := by
      cases e <;> first | exact ⟨.inl rfl, k1⟩ | exact ⟨.inr rfl, k1⟩ | cases k1
    obtain ⟨hex, hres⟩ := key
    obtain ⟨z, h1, h2⟩ := xRes_ok hres
    refine ⟨z, h', h1, k2, fun {H0 m H vargs K} hr hv hK => ?_⟩
    intro w hw
    subst hw
    refine callsIn_of_wp_marks hf hb trivial ?_ rfl
    have ha : At { tmps := vargs.toArray ++ Array.replicate (fn.ntmps - vargs.toArray.size) undef, defers := [] } (padF vargs fn.ntmps) := by
      simp [At, padF]
    refine wpIn_mono (k4 none (fun _ => rfl) hr (pad_rel hv fn.ntmps) ha) fun e' a' w' hp => ?_
    obtain ⟨rfl, m', frv', p1, p2, p3, p4, p5, p6⟩ := hp
    have ht : a'.tmps.toList = frv' := by rw [show a'.tmps = frv'.toArray from p4]
    obtain ⟨Ds, hd, d1, d2⟩ := p5
    have fin : LeavesInM (wideR none) 0 P fn a'.tmps (fun e w' => ∃ v, e = .returned v ∧ K v w'.heap ∧ Sm w w') a'.defers .returning w' := by
      refine ends_ok a'.defers w' p6 (fun w2 hs hr => ?_) ?_
      · rw [ht] at hr
        obtain ⟨v, hv, hR⟩ := results_ok p4 hr
        exact ⟨v, hv, v, rfl, hR, hs⟩
      · rw [ht, hd]
        simp only [List.append_nil]
        exact marks_end (K := fun H' => Res P fn.results.toList frv' H' K) hr.ext.le (fun H' q1 q2 => h2 q1 p3 rfl fun v hv => hK m' H' v q1 q2 hv) Ds w'.heap d1.1 d2 p1 p2
    rcases hex with rfl | rfl
    · exact fin
    · exact fin
  · cases hk
theorem sim_of {P : Program} {qf : FuncId → Bool} {Z : List (Nat × CV)} {C : List (Nat × Ex)} {T : List (Nat × Plan)} (he : EnvOk P Z C) {f : FuncId} {fn : Func} (ann : Ann) (hf : P.funcs[f]? = some fn) : SimF P f (xFn P qf Z C T fn ann) := by
  intro args h k hk
  unfold xFn at hk
  split at hk
  · rename_i c hb
    rw [ifX_eq] at hk
    split at hk
    · rename_i hn
      refine simR_of (qf := qf) (T := T) he ann hf (fun c' hb' => by rw [hb] at hb'; injection hb' with hb'; subst hb'; exact sites_none c ann hn) args h k ?_
      unfold xFnR
      rw [hb]; exact hk
    · cases hk
  · cases hk

/-! ### Zeros -/
def eqS (p : CV) (v : Value) : Bool :=
  match p, v with
  | .int q n, .int q' n' => decide (q = q') && n == n'
  | .bool b, .bool b' => b == b'
  | .str s, .string s' => s.data.toList == s'.data.toList
  | .nilp, .pointer none => true
  | .nils, .slice none 0 0 => true
  | .nilm, .map none => true
  | .nilf, .nilFunc => true
  | _, _ => false
theorem data_inj {a b : ByteArray} (h : a.data.toList = b.data.toList) : a = b := by
  cases a; cases b
  simp only at h
  rw [Array.toList_inj.1 h]
theorem eqS_ok {p : CV} {v : Value} (h : eqS p v = true) (m : M) : Vrel m p v ∧ (∀ n x, p ≠ .bytes n x) ∧ scalar p = true := by
  unfold eqS at h
  split at h <;> try (cases h; done)
  · simp only [Bool.and_eq_true, decide_eq_true_eq, beq_iff_eq] at h
    obtain ⟨rfl, rfl⟩ := h
    exact ⟨rfl, by simp, rfl⟩
  · simp only [beq_iff_eq] at h; subst h
    exact ⟨rfl, by simp, rfl⟩
  · simp only [beq_iff_eq] at h
    rw [data_inj h]
    exact ⟨rfl, by simp, rfl⟩
  · exact ⟨rfl, by simp, rfl⟩
  · exact ⟨rfl, by simp, rfl⟩
  · exact ⟨rfl, by simp, rfl⟩
  · exact ⟨rfl, by simp, rfl⟩
def byteB (v : Value) (x : Nat) : Bool :=
  match v with
  | .int .u8 n => n == ((x % 256 : Nat) : Int)
  | _ => false
theorem byteB_ok {v : Value} {x : Nat} (h : byteB v x = true) : v = .int .u8 ((x % 256 : Nat) : Int) := by
  unfold byteB at h
  split at h
  · rw [eq_of_beq h]
  · cases h
def bytesB : Nat → Nat → List Value → Option (List Value)
  | 0, _, l => some l
  | _ + 1, _, [] => none
  | n + 1, x, v :: l => if byteB v x then bytesB n (x / 256) l else none
theorem bytesB_ok : ∀ {n x : Nat} {l r : List Value}, bytesB n x l = some r → l = bytesL n x ++ r
  | 0, x, l, r, h => by simp only [bytesB, Option.some.injEq] at h; subst h; rfl
  | n + 1, x, [], r, h => by cases h
  | n + 1, x, v :: l, r, h => by
    simp only [bytesB] at h
    split at h
    · rename_i hb
      rw [bytesB_ok h, byteB_ok hb]; rfl
    · cases h
def relB1 (f : List Value → Bool) (p : CV) (l : List Value) : Bool :=
  match p with
  | .bytes n x => (match bytesB n x l with | some r => f r | none => false)
  | p => (match l with | v :: l => eqS p v && f l | [] => false)
def relB : List CV → List Value → Bool
  | [], l => l.isEmpty
  | p :: ps, l => relB1 (relB ps) p l
theorem relB1_ok {m : M} {p : CV} {ps : List CV} {f : List Value → Bool} (ih : ∀ l, f l = true → Crel m ps l) {l : List Value} (h : relB1 f p l = true) : Crel m (p :: ps) l := by
  unfold relB1 at h
  split at h
  · split at h
    · rename_i hr
      exact ⟨_, bytesB_ok hr, ih _ h⟩
    · cases h
  · split at h
    · simp only [Bool.and_eq_true] at h
      obtain ⟨h3, h4, h5⟩ := eqS_ok h.1 m
      rw [Crel_cons h5]
      exact ⟨_, _, rfl, h5, h3, ih _ h.2⟩
    · cases h
theorem relB_ok (m : M) : ∀ {ps : List CV} {l : List Value}, relB ps l = true → Crel m ps l
  | [], l, h => by
    cases l with
    | nil => rfl
    | cons => cases h
  | p :: ps, l, h => relB1_ok (fun l h => relB_ok m h) h
def zeroB (P : Program) (T : TypeId) (z : CV) : Bool :=
  match zeroE P T, z with
  | some (.agg c), .agg ps => relB ps c.toList
  | some v, z => eqS z v
  | none, _ => false
theorem zeroB_ok {P : Program} {T : TypeId} {z : CV} (h : zeroB P T z = true) : ZeroV P T z := by
  unfold zeroB at h
  split at h
  · rename_i hz
    exact ⟨_, hz, fun m => ⟨_, rfl, relB_ok m h⟩⟩
  · rename_i hz _
    exact ⟨_, by assumption, fun m => (eqS_ok h m).1⟩
  · cases h
def zerosB (P : Program) : List (Nat × CV) → Bool
  | [] => true
  | p :: l => zeroB P p.1 p.2 && zerosB P l
theorem zerosB_ok {P : Program} : ∀ {l : List (Nat × CV)}, zerosB P l = true → ∀ p, p ∈ l → ZeroV P p.1 p.2
  | [], _, p, hp => by cases hp
  | q :: l, h, p, hp => by
    simp only [zerosB, Bool.and_eq_true] at h
    rcases List.mem_cons.1 hp with rfl | hp
    · exact zeroB_ok h.1
    · exact zerosB_ok h.2 p hp

/-! ### The functions that are called -/
def ExOk (P : Program) (C : List (Nat × Ex)) : Prop := ∀ p, p ∈ C → (Nat.ble RB p.1 = false → enterB P p.1 = true ∧ SimF P p.1 p.2) ∧ ∀ n, p.1 = RB + n → SimRd P n p.2
theorem exNil {P : Program} : ExOk P [] := fun p hp => by cases hp
theorem exCons {P : Program} {f : Nat} {ex : Ex} {C : List (Nat × Ex)} (h1 : (enterB P f && !(Nat.ble RB f)) = true) (h2 : SimF P f ex) (h3 : ExOk P C) : ExOk P ((f, ex) :: C) := fun p hp => by
  simp only [Bool.and_eq_true] at h1
  rcases List.mem_cons.1 hp with rfl | hp
  · refine ⟨fun _ => ⟨h1.1, h2⟩, fun n hn => ?_⟩
    have h4 : f = RB + n := hn
    have h5 := h1.2
    have : Nat.ble RB f = true := by rw [h4]; exact Nat.ble_eq_true_of_le (Nat.le_add_right _ _)
    rw [this] at h5; cases h5
  · exact h3 p hp
theorem exRd {P : Program} {n : Nat} {ex : Ex} {C : List (Nat × Ex)} (h2 : SimRd P n ex) (h3 : ExOk P C) : ExOk P ((RB + n, ex) :: C) := fun p hp => by
  rcases List.mem_cons.1 hp with rfl | hp
  · refine ⟨fun hb => ?_, fun q hq => ?_⟩
    · have : Nat.ble RB (RB + n) = true := Nat.ble_eq_true_of_le (Nat.le_add_right _ _)
      rw [this] at hb; cases hb
    · have h4 : RB + n = RB + q := hq
      have h5 : n = q := by omega
      subst h5; exact h2
  · exact h3 p hp

/-- The run's own memory, empty. -/
def h0 : CH := .mk .lf 0 0
theorem rel0 (H : Hp) : Rel H [] h0 H :=
  ⟨Ext.refl H, rfl, fun k e h => (by simp at h), fun k o h => (by cases h), fun j k x y d e h => (by cases h), fun k e h => (by simp at h)⟩
/-- A run of a function without arguments that comes out true. -/
theorem closed_true {P : Program} {f : FuncId} {ex : Ex} (hs : SimF P f ex) (hk : (ex [] h0 fun z _ => match z with | .bool true => true | _ => false) = true) {H : Hp} {R : Value → Hp → Prop} (h : ∀ H', Ext H H' → R (.bool true) H') : Fc P f #[] H R := by
  obtain ⟨z, h', h1, _, h2⟩ := hs _ _ _ hk
  split at h1
  · exact h2 (rel0 H) (vargs := []) rfl fun m' H' v r1 r2 r3 => by
      simp only [Vrel] at r3; subst r3
      exact h H' r1.ext
  · cases h1
end Go.Xc

/- Xc, part N: arguments, by number. -/
set_option linter.unusedVariables false
set_option linter.unusedSectionVars false
namespace Go.Xc
open Go.Vc
variable [Sites]
noncomputable abbrev a0 (args : List CV) (f : Bool) : Bool := match args with | [] => f | _ => false
theorem a0_ok {args : List CV} {f : Bool} (h : a0 args f = true) : args = [] ∧ f = true := by
  unfold a0 at h
  split at h
  · exact ⟨rfl, h⟩
  · cases h
noncomputable abbrev a1 (args : List CV) (f : CV → Bool) : Bool := match args with | [v0] => f v0 | _ => false
theorem a1_ok {args : List CV} {f : CV → Bool} (h : a1 args f = true) : ∃ v0, args = [v0] ∧ f v0 = true := by
  unfold a1 at h
  split at h
  · exact ⟨_, rfl, h⟩
  · cases h
noncomputable abbrev a2 (args : List CV) (f : CV → CV → Bool) : Bool := match args with | [v0, v1] => f v0 v1 | _ => false
theorem a2_ok {args : List CV} {f : CV → CV → Bool} (h : a2 args f = true) : ∃ v0 v1, args = [v0, v1] ∧ f v0 v1 = true := by
  unfold a2 at h
  split at h
  · exact ⟨_, _, rfl, h⟩
  · cases h
noncomputable abbrev a3 (args : List CV) (f : CV → CV → CV → Bool) : Bool := match args with | [v0, v1, v2] => f v0 v1 v2 | _ => false
theorem a3_ok {args : List CV} {f : CV → CV → CV → Bool} (h : a3 args f = true) : ∃ v0 v1 v2, args = [v0, v1, v2] ∧ f v0 v1 v2 = true := by
  unfold a3 at h
  split at h
  · exact ⟨_, _, _, rfl, h⟩
  · cases h
noncomputable abbrev a4 (args : List CV) (f : CV → CV → CV → CV → Bool) : Bool := match args with | [v0, v1, v2, v3] => f v0 v1 v2 v3 | _ => false
theorem a4_ok {args : List CV} {f : CV → CV → CV → CV → Bool} (h : a4 args f = true) : ∃ v0 v1 v2 v3, args = [v0, v1, v2, v3] ∧ f v0 v1 v2 v3 = true := by
  unfold a4 at h
  split at h
  · exact ⟨_, _, _, _, rfl, h⟩
  · cases h
noncomputable abbrev a5 (args : List CV) (f : CV → CV → CV → CV → CV → Bool) : Bool := match args with | [v0, v1, v2, v3, v4] => f v0 v1 v2 v3 v4 | _ => false
theorem a5_ok {args : List CV} {f : CV → CV → CV → CV → CV → Bool} (h : a5 args f = true) : ∃ v0 v1 v2 v3 v4, args = [v0, v1, v2, v3, v4] ∧ f v0 v1 v2 v3 v4 = true := by
  unfold a5 at h
  split at h
  · exact ⟨_, _, _, _, _, rfl, h⟩
  · cases h
noncomputable abbrev a6 (args : List CV) (f : CV → CV → CV → CV → CV → CV → Bool) : Bool := match args with | [v0, v1, v2, v3, v4, v5] => f v0 v1 v2 v3 v4 v5 | _ => false
theorem a6_ok {args : List CV} {f : CV → CV → CV → CV → CV → CV → Bool} (h : a6 args f = true) : ∃ v0 v1 v2 v3 v4 v5, args = [v0, v1, v2, v3, v4, v5] ∧ f v0 v1 v2 v3 v4 v5 = true := by
  unfold a6 at h
  split at h
  · exact ⟨_, _, _, _, _, _, rfl, h⟩
  · cases h
noncomputable abbrev a7 (args : List CV) (f : CV → CV → CV → CV → CV → CV → CV → Bool) : Bool := match args with | [v0, v1, v2, v3, v4, v5, v6] => f v0 v1 v2 v3 v4 v5 v6 | _ => false
theorem a7_ok {args : List CV} {f : CV → CV → CV → CV → CV → CV → CV → Bool} (h : a7 args f = true) : ∃ v0 v1 v2 v3 v4 v5 v6, args = [v0, v1, v2, v3, v4, v5, v6] ∧ f v0 v1 v2 v3 v4 v5 v6 = true := by
  unfold a7 at h
  split at h
  · exact ⟨_, _, _, _, _, _, _, rfl, h⟩
  · cases h
noncomputable abbrev a8 (args : List CV) (f : CV → CV → CV → CV → CV → CV → CV → CV → Bool) : Bool := match args with | [v0, v1, v2, v3, v4, v5, v6, v7] => f v0 v1 v2 v3 v4 v5 v6 v7 | _ => false
theorem a8_ok {args : List CV} {f : CV → CV → CV → CV → CV → CV → CV → CV → Bool} (h : a8 args f = true) : ∃ v0 v1 v2 v3 v4 v5 v6 v7, args = [v0, v1, v2, v3, v4, v5, v6, v7] ∧ f v0 v1 v2 v3 v4 v5 v6 v7 = true := by
  unfold a8 at h
  split at h
  · exact ⟨_, _, _, _, _, _, _, _, rfl, h⟩
  · cases h
noncomputable abbrev a9 (args : List CV) (f : CV → CV → CV → CV → CV → CV → CV → CV → CV → Bool) : Bool := match args with | [v0, v1, v2, v3, v4, v5, v6, v7, v8] => f v0 v1 v2 v3 v4 v5 v6 v7 v8 | _ => false
theorem a9_ok {args : List CV} {f : CV → CV → CV → CV → CV → CV → CV → CV → CV → Bool} (h : a9 args f = true) : ∃ v0 v1 v2 v3 v4 v5 v6 v7 v8, args = [v0, v1, v2, v3, v4, v5, v6, v7, v8] ∧ f v0 v1 v2 v3 v4 v5 v6 v7 v8 = true := by
  unfold a9 at h
  split at h
  · exact ⟨_, _, _, _, _, _, _, _, _, rfl, h⟩
  · cases h
noncomputable abbrev a10 (args : List CV) (f : CV → CV → CV → CV → CV → CV → CV → CV → CV → CV → Bool) : Bool := match args with | [v0, v1, v2, v3, v4, v5, v6, v7, v8, v9] => f v0 v1 v2 v3 v4 v5 v6 v7 v8 v9 | _ => false
theorem a10_ok {args : List CV} {f : CV → CV → CV → CV → CV → CV → CV → CV → CV → CV → Bool} (h : a10 args f = true) : ∃ v0 v1 v2 v3 v4 v5 v6 v7 v8 v9, args = [v0, v1, v2, v3, v4, v5, v6, v7, v8, v9] ∧ f v0 v1 v2 v3 v4 v5 v6 v7 v8 v9 = true := by
  unfold a10 at h
  split at h
  · exact ⟨_, _, _, _, _, _, _, _, _, _, rfl, h⟩
  · cases h
noncomputable abbrev a11 (args : List CV) (f : CV → CV → CV → CV → CV → CV → CV → CV → CV → CV → CV → Bool) : Bool := match args with | [v0, v1, v2, v3, v4, v5, v6, v7, v8, v9, v10] => f v0 v1 v2 v3 v4 v5 v6 v7 v8 v9 v10 | _ => false
theorem a11_ok {args : List CV} {f : CV → CV → CV → CV → CV → CV → CV → CV → CV → CV → CV → Bool} (h : a11 args f = true) : ∃ v0 v1 v2 v3 v4 v5 v6 v7 v8 v9 v10, args = [v0, v1, v2, v3, v4, v5, v6, v7, v8, v9, v10] ∧ f v0 v1 v2 v3 v4 v5 v6 v7 v8 v9 v10 = true := by
  unfold a11 at h
  split at h
  · exact ⟨_, _, _, _, _, _, _, _, _, _, _, rfl, h⟩
  · cases h
noncomputable abbrev a12 (args : List CV) (f : CV → CV → CV → CV → CV → CV → CV → CV → CV → CV → CV → CV → Bool) : Bool := match args with | [v0, v1, v2, v3, v4, v5, v6, v7, v8, v9, v10, v11] => f v0 v1 v2 v3 v4 v5 v6 v7 v8 v9 v10 v11 | _ => false
theorem a12_ok {args : List CV} {f : CV → CV → CV → CV → CV → CV → CV → CV → CV → CV → CV → CV → Bool} (h : a12 args f = true) : ∃ v0 v1 v2 v3 v4 v5 v6 v7 v8 v9 v10 v11, args = [v0, v1, v2, v3, v4, v5, v6, v7, v8, v9, v10, v11] ∧ f v0 v1 v2 v3 v4 v5 v6 v7 v8 v9 v10 v11 = true := by
  unfold a12 at h
  split at h
  · exact ⟨_, _, _, _, _, _, _, _, _, _, _, _, rfl, h⟩
  · cases h
end Go.Xc

/- Xc, part O: runs of which two outcomes are followed. -/
set_option linter.unusedVariables false
set_option linter.unusedSectionVars false
set_option linter.unusedSimpArgs false
namespace Go.Xc
open Go.Vc
variable [Sites]

section
variable (P : Program) (qf : FuncId → Bool) (Z : List (Nat × CV)) (C : List (Nat × Ex))
noncomputable def xTwo (ops : Array Oper) (t : Two) (fr : List CV) (h : CH) (K : List CV → CH → Bool) : Bool :=
  xA P qf Z C true true ops (pick ops t.A) [] fr h fun sk fr h => both (xOps P qf Z C true true ops (pick ops (t.k :: t.i :: t.C)) sk fr h K) (xOps P qf Z C true true ops (pick ops (t.i :: t.k :: t.C)) sk fr h K)
noncomputable def xRegG (p : Option Plan) (ops : Array Oper) (dr : Bool) (fr : List CV) (h : CH) (K : List CV → CH → Bool) : Bool :=
  match p with
  | some (.two t) => ifX (dr && (P.follows .mixedOrders && twoB ops (clAt P qf true true ops) t)) (xTwo P qf Z C ops t fr h K) false
  | some (.all t) => ifX (dr && (P.follows .mixedOrders && treeB ops (clAt P qf true true ops) t)) (xT P qf Z C ops K t [] fr h) false
  | some (.raw w) => ifX dr (xOps P qf Z C true true ops (pick ops w) [] fr h K) false
  | p => xRegP P qf Z C p ops dr fr h K
end

theorem xTwo_ok {P : Program} {qf : FuncId → Bool} {Z : List (Nat × CV)} {C : List (Nat × Ex)} (he : EnvOk P Z C) {ops : Array Oper} {t : Two} {fr : List CV} {h : CH} {K : List CV → CH → Bool} (hk : xTwo P qf Z C ops t fr h K = true) {H0 : Hp} {m : M} {H : Hp} {frv : Fr} {Kv : Fr → Hp → Prop} (hr : Rel H0 m h H) (hv : Vrels m fr frv)
    (hf : ∀ fr' h', K fr' h' = true → h'.wp = h.wp → AgreeX (dstsOf ops.toList) fr fr' → FinF H0 m h H fr' h' Kv) : vcTwo P qf ops t frv H Kv := by
  unfold xTwo at hk
  obtain ⟨sk, fr1, h1, k1, w1, a1, s1⟩ := xA_ok he hk
  obtain ⟨k2, k3⟩ := both_ok k1
  refine s1 hr hv fun m1 H1 frv1 hr1 hs1 hv1 => ?_
  have go : ∀ {l : List Nat}, xOps P qf Z C true true ops (pick ops l) sk fr1 h1 K = true → vcOps P qf true true ops (pick ops l) sk frv1 H1 Kv := fun {l} hk => by
    obtain ⟨fr2, h2, q1, w2, a2, s2⟩ := xOps_ok he hk
    refine s2 hr1 hv1 fun m2 H2 frv2 hr2 hs2 hv2 => ?_
    rw [w1] at hs2
    exact hf fr2 h2 q1 (w2.trans w1) ((a1.mono pick_dsts).trans (a2.mono pick_dsts)) m2 H2 frv2 hr2 (hs1.trans hs2) hv2
  exact ⟨go k2, go k3⟩

/-- What the run has come to, one way or another. -/
def PostG (H0 : Hp) (m : M) (W : List Nat) (Q : QX) (fr : List CV) (h : CH) (a : Act) (w : World) : Exit → Act → World → Prop := fun e a' w' =>
  ∃ fr' h', Q e fr' h' = true ∧ h'.wp = h.wp ∧ AgreeX W fr fr' ∧ PostX false H0 m h.wp e fr' h' a w e a' w'

theorem regOne_ok {P : Program} {qf : FuncId → Bool} {Z : List (Nat × CV)} {C : List (Nat × Ex)} (he : EnvOk P Z C) {p : Option Plan} {id : Nat} {ops : Array Oper} {dr : Bool} {Q : QX} {fr : List CV} {h : CH} (hk : xRegP P qf Z C p ops dr fr h (fun fr' h' => Q .normal fr' h') = true) {H0 : Hp} {m : M} {frv : Fr} {a : Act} {w : World} (r : Option Nat) (hr : Rel H0 m h w.heap) (hv : Vrels m fr frv) (ha : At a frv) : (Code.region id ops dr).wpIn (wideR r) 0 P (PostG H0 m (dstsOf ops.toList) Q fr h a w) a w := by
  obtain ⟨fr', h', k1, k2, k3, k4⟩ := regP_ok (top := false) (id := id) he hk
  refine wpIn_mono (k4 r (fun h => by cases h) hr hv ha) fun e' a' w' hp => ?_
  have he' := hp.1
  subst he'
  exact ⟨fr', h', k1, k2, k3, hp⟩
theorem regTwo_ok {P : Program} {qf : FuncId → Bool} {Z : List (Nat × CV)} {C : List (Nat × Ex)} (he : EnvOk P Z C) {id : Nat} {ops : Array Oper} {t : Two} {Q : QX} {fr : List CV} {h : CH} (hm : P.follows .mixedOrders = true) (hB : twoB ops (clAt P qf true true ops) t = true) (hk : xTwo P qf Z C ops t fr h (fun fr' h' => Q .normal fr' h') = true) {H0 : Hp} {m : M} {frv : Fr} {a : Act} {w : World} (r : Option Nat) (hr : Rel H0 m h w.heap) (hv : Vrels m fr frv) (ha : At a frv) : (Code.region id ops true).wpIn (wideR r) 0 P (PostG H0 m (dstsOf ops.toList) Q fr h a w) a w := by
  have h1 := xTwo_ok he hk (Kv := fun frv' H' => Exit.normal = Exit.normal ∧ ∃ m' fr' h', Q .normal fr' h' = true ∧ h'.wp = h.wp ∧ AgreeX (dstsOf ops.toList) fr fr' ∧ Rel H0 m' h' H' ∧ Stp h.wp m w.heap m' H' ∧ Vrels m' fr' frv') hr hv (fun fr' h' q1 q2 q3 m' H' frv' r1 r2 r3 => ⟨rfl, m', fr', h', q1, q2, q3, r1, r2, r3⟩)
  refine wpIn_mono (two_sound (r := r) (id := id) (Q := fun e frv' ds H' => e = Exit.normal ∧ ∃ m' fr' h', Q .normal fr' h' = true ∧ h'.wp = h.wp ∧ AgreeX (dstsOf ops.toList) fr fr' ∧ Rel H0 m' h' H' ∧ Stp h.wp m w.heap m' H' ∧ Vrels m' fr' frv') hm hB ha h1) fun e a' w' hp => ?_
  obtain ⟨frv', p1, p2, _, ⟨p3, m', fr', h', q1, q2, q3, p4, p5, p6⟩, p7⟩ := hp
  subst p3
  exact ⟨fr', h', q1, q2, q3, rfl, m', frv', p4, p5, p6, p1, Dfs.of_eq (p2 rfl), p7⟩

def noRawB : List (Nat × Plan) → Bool
  | [] => true
  | (_, .raw _) :: _ => false
  | _ :: l => noRawB l
theorem noRaw_look : ∀ {T : List (Nat × Plan)} {i : Nat} {w : List Nat}, noRawB T = true → look T i ≠ some (.raw w)
  | [], _, _, _, h => by cases h
  | (j, p) :: l, i, w, hT, h => by
    have h' : (Bool.rec (motive := fun _ => Option Plan) (look l i) (some p) (Nat.beq j i)) = some (.raw w) := h
    cases hb : Nat.beq j i with
    | true =>
      rw [hb] at h'
      injection h' with h'; subst h'
      cases hT
    | false =>
      rw [hb] at h'
      refine noRaw_look (T := l) ?_ h'
      cases p <;> first | exact hT | cases hT
theorem regAll_ok {P : Program} {qf : FuncId → Bool} {Z : List (Nat × CV)} {C : List (Nat × Ex)} (he : EnvOk P Z C) {id : Nat} {ops : Array Oper} {t : OT} {Q : QX} {fr : List CV} {h : CH} (hm : P.follows .mixedOrders = true) (hB : treeB ops (clAt P qf true true ops) t = true) (hk : xT P qf Z C ops (fun fr' h' => Q .normal fr' h') t [] fr h = true) {H0 : Hp} {m : M} {frv : Fr} {a : Act} {w : World} (r : Option Nat) (hr : Rel H0 m h w.heap) (hv : Vrels m fr frv) (ha : At a frv) : (Code.region id ops true).wpIn (wideR r) 0 P (PostG H0 m (dstsOf ops.toList) Q fr h a w) a w := by
  have h1 := xT_ok he t hk (Kv := fun frv' H' => Exit.normal = Exit.normal ∧ ∃ m' fr' h', Q .normal fr' h' = true ∧ h'.wp = h.wp ∧ AgreeX (dstsOf ops.toList) fr fr' ∧ Rel H0 m' h' H' ∧ Stp h.wp m w.heap m' H' ∧ Vrels m' fr' frv') hr hv (fun fr' h' q1 q2 q3 m' H' frv' r1 r2 r3 => ⟨rfl, m', fr', h', q1, q2, q3, r1, r2, r3⟩)
  refine wpIn_mono (tree_sound (r := r) (id := id) (Q := fun e frv' ds H' => e = Exit.normal ∧ ∃ m' fr' h', Q .normal fr' h' = true ∧ h'.wp = h.wp ∧ AgreeX (dstsOf ops.toList) fr fr' ∧ Rel H0 m' h' H' ∧ Stp h.wp m w.heap m' H' ∧ Vrels m' fr' frv') hm hB ha h1) fun e a' w' hp => ?_
  obtain ⟨frv', p1, p2, _, ⟨p3, m', fr', h', q1, q2, q3, p4, p5, p6⟩, p7⟩ := hp
  subst p3
  exact ⟨fr', h', q1, q2, q3, rfl, m', frv', p4, p5, p6, p1, Dfs.of_eq (p2 rfl), p7⟩

noncomputable def xcG (P : Program) (qf : FuncId → Bool) (Z : List (Nat × CV)) (C : List (Nat × Ex)) (T : List (Nat × Plan)) : Code → Ann → QX → List CV → CH → Bool
  | .skip, _, Q, fr, h => Q .normal fr h
  | .label _, _, Q, fr, h => Q .normal fr h
  | .ret, _, Q, fr, h => Q .ret fr h
  | .exit id, _, Q, fr, h => Q (.exit id) fr h
  | .region id ops dr, _, Q, fr, h => xRegG P qf Z C (look T id) ops dr fr h fun fr' h' => Q .normal fr' h'
  | .seq a b, ann, Q, fr, h =>
    match ann with
    | .join L J l r =>
      ifX (subB (writes a) (L ++ J) && subB J (writes a))
        (xJoin (fun s h => xcG P qf Z C T b r Q (layX L s (junkX J fr)) h) fun K => xcG P qf Z C T a l (thnX (fun fr' h' => K (grabX fr' L) h') Q) fr h)
        false
    | .seq l r => xcG P qf Z C T a l (thnX (xcG P qf Z C T b r Q) Q) fr h
    | _ => xcG P qf Z C T a .nil (thnX (xcG P qf Z C T b .nil Q) Q) fr h
  | .cond c a b, ann, Q, fr, h =>
    match ann with
    | .cond l r => xIte (evX fr c) (xcG P qf Z C T a l Q fr h) (xcG P qf Z C T b r Q fr h)
    | _ => xIte (evX fr c) (xcG P qf Z C T a .nil Q fr h) (xcG P qf Z C T b .nil Q fr h)
  | .block id c, ann, Q, fr, h => xcG P qf Z C T c ann (blkX id Q) fr h
  | .scope c, ann, Q, fr, h => xcG P qf Z C T c ann (scpX Q) fr h
  | .loop c, ann, Q, fr, h =>
    match ann with
    | .loop L J b =>
      ifX (subB (writes c) (L ++ J) && subB J (writes c))
        (xLoop (n := L.length) (fun K s h => xcG P qf Z C T c b (thnX (fun fr' h' => K (grabX fr' L) h') Q) (layX L s (junkX J fr)) h) 1000000 (grabX fr L) h)
        false
    | _ => false
  | _, _, _, _, _ => false

theorem PostG.go {H0 : Hp} {m m1 : M} {W W1 W2 : List Nat} {Q : QX} {fr fr1 : List CV} {h h1 : CH} {a a1 : Act} {w w1 : World} {e : Exit} {a' : Act} {w' : World} (hw : h1.wp = h.wp) (hA : AgreeX W1 fr fr1) (hW1 : ∀ k ∈ W1, k ∈ W) (hW2 : ∀ k ∈ W2, k ∈ W) (hs : Stp h.wp m w.heap m1 w1.heap) (hd : Dfs false m1 w.heap.size w1.heap a1.defers a.defers) (hsm : Sm w w1) (hp : PostG H0 m1 W2 Q fr1 h1 a1 w1 e a' w') : PostG H0 m W Q fr h a w e a' w' := by
  obtain ⟨fr', h', q1, q2, q3, q4⟩ := hp
  rw [hw] at q4
  exact ⟨fr', h', q1, q2.trans hw, (hA.mono hW1).trans (q3.mono hW2), q4.trans hs hd hsm⟩
theorem PostG.mono {H0 : Hp} {m : M} {W W' : List Nat} {Q Q' : QX} {fr : List CV} {h : CH} {a : Act} {w : World} {e : Exit} {a' : Act} {w' : World} (hW : ∀ k ∈ W, k ∈ W') (hQ : ∀ fr' h', Q e fr' h' = true → Q' e fr' h' = true) (hp : PostG H0 m W Q fr h a w e a' w') : PostG H0 m W' Q' fr h a w e a' w' := by
  obtain ⟨fr', h', q1, q2, q3, q4⟩ := hp
  exact ⟨fr', h', hQ _ _ q1, q2, q3.mono hW, q4⟩

theorem xcG_ok {P : Program} {qf : FuncId → Bool} {Z : List (Nat × CV)} {C : List (Nat × Ex)} {T : List (Nat × Plan)} (he : EnvOk P Z C) (hT : noRawB T = true) : ∀ (c : Code) (ann : Ann) (Q : QX) (fr : List CV) (h : CH), xcG P qf Z C T c ann Q fr h = true →
    ∀ {H0 m frv a w} (r : Option Nat), Rel H0 m h w.heap → Vrels m fr frv → At a frv → c.wpIn (wideR r) 0 P (PostG H0 m (writes c) Q fr h a w) a w := by
  intro c
  have here : ∀ {Q : QX} {e : Exit} {fr : List CV} {h : CH} {W : List Nat}, Q e fr h = true → ∀ {H0 : Hp} {m : M} {frv : Fr} {a : Act} {w : World}, Rel H0 m h w.heap → Vrels m fr frv → At a frv → PostG H0 m W Q fr h a w e a w :=
    by intro Q e fr h W hk H0 m frv a w hr hv ha; exact ⟨_, _, hk, rfl, AgreeX.refl _ _, rfl, m, frv, hr, Stp.refl _ _ _, hv, ha, Dfs.refl _ _ _ _ _, Sm.refl w⟩
  induction c with
  | skip => intro ann Q fr h hk H0 m frv a w r hr hv ha; exact wpIn_skip (here (by cases ann <;> exact hk) hr hv ha)
  | label l => intro ann Q fr h hk H0 m frv a w r hr hv ha; exact wpIn_label (here (by cases ann <;> exact hk) hr hv ha)
  | ret => intro ann Q fr h hk H0 m frv a w r hr hv ha; exact wpIn_ret (here (by cases ann <;> exact hk) hr hv ha)
  | exit id => intro ann Q fr h hk H0 m frv a w r hr hv ha; exact wpIn_exit (here (by cases ann <;> exact hk) hr hv ha)
  | region id ops dr =>
    intro ann Q fr h hk H0 m frv a w r hr hv ha
    have hk2 : xRegG P qf Z C (look T id) ops dr fr h (fun fr' h' => Q .normal fr' h') = true := by cases ann <;> exact hk
    clear hk
    unfold xRegG at hk2
    split at hk2
    · rw [ifX_eq] at hk2
      split at hk2
      · rename_i hb
        simp only [Bool.and_eq_true] at hb
        obtain ⟨rfl, hm, hB⟩ := hb
        exact regTwo_ok he hm hB hk2 r hr hv ha
      · cases hk2
    · rw [ifX_eq] at hk2
      split at hk2
      · rename_i hb
        simp only [Bool.and_eq_true] at hb
        obtain ⟨rfl, hm, hB⟩ := hb
        exact regAll_ok he hm hB hk2 r hr hv ha
      · cases hk2
    · rename_i w hl
      exact absurd hl (noRaw_look hT)
    · exact regOne_ok he hk2 r hr hv ha
  | block id c ih =>
    intro ann Q fr h hk H0 m frv a w r hr hv ha
    have hk : xcG P qf Z C T c ann (blkX id Q) fr h = true := by cases ann <;> exact hk
    refine wpIn_block (wpIn_mono (ih ann (blkX id Q) fr h hk r hr hv ha) fun e' a' w' hp => ?_)
    obtain ⟨fr', h', k1, k2, k3, k4⟩ := hp
    have other : (∀ k, e' ≠ .exit k) → Q e' fr' h' = true := fun hne => by
      cases e' with
      | exit k => exact absurd rfl (hne k)
      | normal => exact k1
      | goto l => exact k1
      | ret => exact k1
      | panic c => exact k1
      | outgrown => exact k1
    cases e' with
    | exit k =>
      have k1 : isXX k id (Q .normal fr' h') (Q (.exit k) fr' h') = true := k1
      show (if k = id then _ else _)
      by_cases hki : k = id
      · subst hki
        rw [if_pos rfl]
        unfold isXX at k1
        rw [Nat.beq_refl] at k1
        exact ⟨fr', h', k1, k2, k3, rfl, k4.2⟩
      · rw [if_neg hki]
        have hne : Nat.beq k id = false := by
          cases hb : Nat.beq k id with
          | false => rfl
          | true => exact absurd (Nat.eq_of_beq_eq_true hb) hki
        unfold isXX at k1
        rw [hne] at k1
        exact ⟨fr', h', k1, k2, k3, k4⟩
    | normal => exact ⟨fr', h', other (by simp), k2, k3, k4⟩
    | goto l => exact ⟨fr', h', other (by simp), k2, k3, k4⟩
    | ret => exact ⟨fr', h', other (by simp), k2, k3, k4⟩
    | panic c => exact ⟨fr', h', other (by simp), k2, k3, k4⟩
    | outgrown => exact ⟨fr', h', other (by simp), k2, k3, k4⟩
  | cond c x y ihx ihy =>
    intro ann Q fr h hk H0 m frv a w r hr hv ha
    have hk : ∃ l r', xIte (evX fr c) (xcG P qf Z C T x l Q fr h) (xcG P qf Z C T y r' Q fr h) = true := by cases ann <;> exact ⟨_, _, hk⟩
    obtain ⟨l, r', hk⟩ := hk
    unfold xIte at hk
    have hcv := ev_rel hv c
    split at hk
    · rename_i hc
      rw [hc] at hcv
      exact wpIn_cond_true (by rw [ha.ev]; exact hcv) (wpIn_mono (ihx l Q fr h hk r hr hv ha) fun e a' w' hp => hp.mono (fun k hk => List.mem_append_left _ hk) fun _ _ h => h)
    · rename_i hc
      rw [hc] at hcv
      exact wpIn_cond_false (by rw [ha.ev]; exact hcv) (wpIn_mono (ihy r' Q fr h hk r hr hv ha) fun e a' w' hp => hp.mono (fun k hk => List.mem_append_right _ hk) fun _ _ h => h)
    · cases hk
  | seq x y ihx ihy =>
    intro ann Q fr h hk H0 m frv a w r hr hv ha
    have done : ∀ {l : Ann} {K : List CV → CH → Bool}, xcG P qf Z C T x l (thnX K Q) fr h = true →
        (∀ fr1 h1, h1.wp = h.wp → AgreeX (writes x) fr fr1 → K fr1 h1 = true → ∀ {m1 frv1 a1 w1}, Rel H0 m1 h1 w1.heap → Vrels m1 fr1 frv1 → At a1 frv1 → ∃ fr2, AgreeX (writes x) fr fr2 ∧ y.wpIn (wideR r) 0 P (PostG H0 m1 (writes y) Q fr2 h1 a1 w1) a1 w1) → (Code.seq x y).wpIn (wideR r) 0 P (PostG H0 m (writes (.seq x y)) Q fr h a w) a w := by
      intro l K hx hy
      refine wpIn_seq (wpIn_mono (ihx l _ fr h hx r hr hv ha) fun e' a' w' hp => ?_)
      obtain ⟨fr1, h1, k1, k2, k3, k4⟩ := hp
      rcases thnX_ok k1 with ⟨rfl, k1⟩ | ⟨hn, k1⟩
      · obtain ⟨_, m1, frv1, p1, p2, p3, p4, p5, p6⟩ := k4
        obtain ⟨fr2, ha2, hy⟩ := hy fr1 h1 k2 k3 k1 p1 p3 p4
        exact wpIn_mono hy fun e'' a'' w'' hp => hp.go k2 ha2 (fun k hk => List.mem_append_left _ hk) (fun k hk => List.mem_append_right _ hk) p2 p5 p6
      · have fin : PostG H0 m (writes (.seq x y)) Q fr h a w e' a' w' := ⟨fr1, h1, k1, k2, k3.mono fun k hk => List.mem_append_left _ hk, k4⟩
        cases e' <;> first | exact absurd rfl hn | exact fin
    have key : (∃ L J l r', (subB (writes x) (L ++ J) && subB J (writes x)) = true ∧ xcG P qf Z C T x l (thnX (fun fr' h' => xcG P qf Z C T y r' Q (layX L (grabX fr' L) (junkX J fr)) h') Q) fr h = true) ∨ ∃ l r', xcG P qf Z C T x l (thnX (xcG P qf Z C T y r' Q) Q) fr h = true := by
      unfold xcG at hk
      split at hk
      · rw [ifX_eq] at hk
        split at hk
        · rename_i hs; exact .inl ⟨_, _, _, _, hs, hk⟩
        · cases hk
      · exact .inr ⟨_, _, hk⟩
      · exact .inr ⟨_, _, hk⟩
    rcases key with ⟨L, J, l, r', hs, hk⟩ | ⟨l, r', hk⟩
    · simp only [Bool.and_eq_true] at hs
      exact done hk fun fr1 h1 hw1 hA hk1 {m1 frv1 a1 w1} hr1 hv1 ha1 => ⟨_, lay_agree hA hs.2, ihy r' Q _ h1 hk1 r hr1 (lay_rel hA hs.1 hv1) ha1⟩
    · exact done hk fun fr1 h1 hw1 hA hk1 {m1 frv1 a1 w1} hr1 hv1 ha1 => ⟨_, hA, ihy r' Q fr1 h1 hk1 r hr1 hv1 ha1⟩
  | loop c ih =>
    intro ann Q fr h hk H0 m frv a w r hr hv ha
    have key : ∃ L J b, (subB (writes c) (L ++ J) && subB J (writes c)) = true ∧ xLoop (n := L.length) (fun K s h => xcG P qf Z C T c b (thnX (fun fr' h' => K (grabX fr' L) h') Q) (layX L s (junkX J fr)) h) 1000000 (grabX fr L) h = true := by
      unfold xcG at hk
      split at hk
      · rw [ifX_eq] at hk
        split at hk
        · rename_i hs; exact ⟨_, _, _, hs, hk⟩
        · cases hk
      · cases hk
    obtain ⟨L, J, b, hs, hk⟩ := key
    simp only [Bool.and_eq_true] at hs
    have rounds : ∀ (N : Nat) (fr1 : List CV) (h1 : CH), h1.wp = h.wp → AgreeX (writes c) fr fr1 →
        xLoop (n := L.length) (fun K s h => xcG P qf Z C T c b (thnX (fun fr' h' => K (grabX fr' L) h') Q) (layX L s (junkX J fr)) h) N (grabX fr1 L) h1 = true →
        ∀ {m1 frv1 a1 w1}, Rel H0 m1 h1 w1.heap → Vrels m1 fr1 frv1 → At a1 frv1 → Code.roundsIn (wideR r) 0 P c (PostG H0 m1 (writes c) Q fr h1 a1 w1) N a1 w1 := by
      intro N
      induction N with
      | zero => intro fr1 h1 _ _ hk; cases hk
      | succ N ihN =>
        intro fr1 h1 hw1 ha1 hk m1 frv1 a1 w1 hr1 hv1 hat1
        have hk' : xcG P qf Z C T c b (thnX (fun fr' h' => xLoop (n := L.length) (fun K s h => xcG P qf Z C T c b (thnX (fun fr' h' => K (grabX fr' L) h') Q) (layX L s (junkX J fr)) h) N (grabX fr' L) h') Q) (layX L (grabX fr1 L) (junkX J fr)) h1 = true := hk
        rw [roundsIn_succ]
        refine wpIn_mono (ih b _ _ h1 hk' r hr1 (lay_rel ha1 hs.1 hv1) hat1) fun e' a' w' hp => ?_
        obtain ⟨fr2, h2, k1, k2, k3, k4⟩ := hp
        have hag := (lay_agree (L := L) ha1 hs.2).trans k3
        rcases thnX_ok k1 with ⟨rfl, k1⟩ | ⟨hn, k1⟩
        · obtain ⟨_, m2, frv2, p1, p2, p3, p4, p5, p6⟩ := k4
          refine xc_ok.roundsIn_mono (fun e'' a'' w'' hp => ?_) _ _ _ (ihN fr2 h2 (k2.trans hw1) hag k1 p1 p3 p4)
          exact hp.go k2 (AgreeX.refl (writes c) fr) (fun _ h => h) (fun _ h => h) p2 p5 p6
        · have fin : PostG H0 m1 (writes c) Q fr h1 a1 w1 e' a' w' := ⟨fr2, h2, k1, k2, hag, k4⟩
          cases e' <;> first | exact absurd rfl hn | exact fin
    exact wpIn_loop_rounds 1000000 (rounds 1000000 fr h rfl (AgreeX.refl _ _) hk hr hv ha)
  | scope c ih =>
    intro ann Q fr h hk H0 m frv a w r hr hv ha
    have hk : xcG P qf Z C T c ann (scpX Q) fr h = true := by cases ann <;> exact hk
    refine wpIn_scope (wpIn_mono (ih ann (scpX Q) fr h hk r hr hv ha) fun e' a' w' hp => ?_)
    obtain ⟨fr', h', k1, k2, k3, k4⟩ := hp
    cases e' <;> first | exact ⟨fr', h', k1, k2, k3, k4⟩ | cases k1
  | goto l => intro ann Q fr h hk; cases ann <;> cases hk
  | refuse why => intro ann Q fr h hk; cases ann <;> cases hk
  | rangeFunc g ps x y ihx ihy => intro ann Q fr h hk; cases ann <;> cases hk

/-! ### Functions -/
noncomputable def xFnG (P : Program) (qf : FuncId → Bool) (Z : List (Nat × CV)) (C : List (Nat × Ex)) (T : List (Nat × Plan)) (fn : Func) (ann : Ann) (args : List CV) (h : CH) (k : CV → CH → Bool) : Bool :=
  match fn.body with
  | some c => ifX (noRawB T) (xcG P qf Z C T c ann (retX P fn k) (padX args fn.ntmps) h) false
  | none => false
/-- What a run is worth, of which several outcomes are followed. -/
def SimG (P : Program) (f : FuncId) (ex : Ex) : Prop :=
  ∀ args h k, ex args h k = true → ∀ {H0 m H vargs} {K : Value → Hp → Prop}, Rel H0 m h H → Vrels m args vargs → (∀ z h', k z h' = true → h'.wp = h.wp → Fin H0 m h H z h' K) → Fc P f vargs.toArray H K
theorem simG_of {P : Program} {qf : FuncId → Bool} {Z : List (Nat × CV)} {C : List (Nat × Ex)} {T : List (Nat × Plan)} (he : EnvOk P Z C) {f : FuncId} {fn : Func} (ann : Ann) (hf : P.funcs[f]? = some fn) : SimG P f (xFnG P qf Z C T fn ann) := by
  intro args h k hk H0 m H vargs K hr hv hK
  unfold xFnG at hk
  split at hk
  · rename_i c hb
    rw [ifX_eq] at hk
    split at hk <;> try (cases hk; done)
    rename_i hT
    intro w hw
    subst hw
    refine callsIn_of_wp_marks hf hb trivial ?_ rfl
    have ha : At { tmps := vargs.toArray ++ Array.replicate (fn.ntmps - vargs.toArray.size) undef, defers := [] } (padF vargs fn.ntmps) := by
      simp [At, padF]
    refine wpIn_mono (xcG_ok he hT c ann _ _ h hk none hr (pad_rel hv fn.ntmps) ha) fun e a' w' hp => ?_
    obtain ⟨fr', h', k1, k2, _, _, m', frv', p1, p2, p3, p4, p5, p6⟩ := hp
    have key : (e = .normal ∨ e = .ret) ∧ xRes P fr' h' (fun v => k v h') fn.results.toList [] = true := by
      cases e <;> first | exact ⟨.inl rfl, k1⟩ | exact ⟨.inr rfl, k1⟩ | cases k1
    obtain ⟨hex, hres⟩ := key
    obtain ⟨z, h1, h2⟩ := xRes_ok hres
    have ht : a'.tmps.toList = frv' := by rw [show a'.tmps = frv'.toArray from p4]
    obtain ⟨Ds, hd, d1, d2⟩ := p5
    have fin : LeavesInM (wideR none) 0 P fn a'.tmps (fun e w' => ∃ v, e = .returned v ∧ K v w'.heap ∧ Sm w w') a'.defers .returning w' := by
      refine ends_ok a'.defers w' p6 (fun w2 hs hr => ?_) ?_
      · rw [ht] at hr
        obtain ⟨v, hv, hR⟩ := results_ok p4 hr
        exact ⟨v, hv, v, rfl, hR, hs⟩
      · rw [ht, hd]
        simp only [List.append_nil]
        exact marks_end (K := fun H' => Res P fn.results.toList frv' H' K) hr.ext.le (fun H' q1 q2 => h2 q1 p3 rfl fun v hv => hK z h' h1 k2 m' H' v q1 q2 hv) Ds w'.heap d1.1 d2 p1 p2
    rcases hex with rfl | rfl
    · exact fin
    · exact fin
  · cases hk

noncomputable def isTrue (z : CV) : Bool := match z with | .bool true => true | _ => false
theorem isTrue_ok {z : CV} (h : isTrue z = true) : z = .bool true := by
  unfold isTrue at h
  split at h
  · rfl
  · cases h
theorem closedG {P : Program} {f : FuncId} {ex : Ex} (hs : SimG P f ex) (hk : ex [] h0 (fun z _ => isTrue z) = true) {H : Hp} {R : Value → Hp → Prop} (h : ∀ H', Ext H H' → R (.bool true) H') : Fc P f #[] H R :=
  hs _ _ _ hk (rel0 H) (vargs := []) rfl fun z h' hz _ m' H' v r1 r2 r3 => by
    rw [isTrue_ok hz] at r3
    simp only [Vrel] at r3; subst r3
    exact h H' r1.ext
/-- A function without arguments that is known to answer true: nothing that it lays is looked at any more. -/
noncomputable def exTrue : Ex := fun args h k => match args with | [] => k (.bool true) h | _ => false
theorem simTrue {P : Program} {f : FuncId} (hc : ∀ {H : Hp} {R : Value → Hp → Prop}, (∀ H', Ext H H' → R (.bool true) H') → Fc P f #[] H R) : SimF P f exTrue := by
  intro args h k hk
  unfold exTrue at hk
  split at hk
  · refine ⟨_, h, hk, rfl, fun {H0 m H vargs K} hr hv hf => ?_⟩
    simp only [Vrels] at hv
    subst hv
    exact hc fun H' hx => hf m H' _ (hr.ext' hx) (Stp.ext hx) rfl
  · cases hk
/-- Runs that come out true, whatever arguments that are not known. -/
theorem closedF {P : Program} {f : FuncId} {ex : Ex} {xs : List CV} (hs : SimF P f ex) (hk : ex xs h0 (fun z _ => isTrue z) = true) {vs : List Value} (hv : Vrels [] xs vs) {H : Hp} {R : Value → Hp → Prop} (h : ∀ H', Ext H H' → R (.bool true) H') : Fc P f vs.toArray H R := by
  obtain ⟨z, h', h1, _, h2⟩ := hs _ _ _ hk
  rw [isTrue_ok h1] at h2
  exact h2 (rel0 H) hv fun m' H' v r1 r2 r3 => by
    simp only [Vrel] at r3; subst r3
    exact h H' r1.ext
theorem closedH {P : Program} {f : FuncId} {ex : Ex} {xs : List CV} (hs : SimG P f ex) (hk : ex xs h0 (fun z _ => isTrue z) = true) {vs : List Value} (hv : Vrels [] xs vs) {H : Hp} {R : Value → Hp → Prop} (h : ∀ H', Ext H H' → R (.bool true) H') : Fc P f vs.toArray H R :=
  hs _ _ _ hk (rel0 H) hv fun z h' hz _ m' H' v r1 r2 r3 => by
    rw [isTrue_ok hz] at r3
    simp only [Vrel] at r3; subst r3
    exact h H' r1.ext
/-- A function that writes nothing old and answers by a plain value: what it has laid is not looked at any more. -/
theorem simQ {P : Program} {f : FuncId} {ex : Ex} (hs : SimF P f ex) : SimF P f (fun args h k => xQuiet (some ex) args h k) := by
  intro args h k hk
  obtain ⟨t, n, wp⟩ := h
  have hk : ex args (.mk t n n) (fun z _ => (match plainX z with | some _ => k z (.mk t n wp) | none => false)) = true := hk
  obtain ⟨z, h', h1, h2, h3⟩ := hs _ _ _ hk
  split at h1
  · rename_i v hv
    refine ⟨z, _, h1, rfl, fun {H0 m H vargs K} hr hva hf => ?_⟩
    have hr' : Rel H0 m (.mk t n n) H := ⟨hr.ext, hr.len, hr.new, hr.obj, hr.inj, hr.low⟩
    refine h3 hr' hva fun m' H'' u r1 r2 r3 => ?_
    have hx : Ext H H'' := r2.kp.ext fun b hb hw => by
      obtain ⟨i, e, hi, hge, _⟩ := hw
      have hl2 : m.length = n := hr.len
      simp only [CH.wp] at hge
      rw [List.getElem?_eq_none (by omega)] at hi
      cases hi
    rw [plainX_ok hv r3]
    exact hf m H'' v (hr.ext' hx) (Stp.ext hx) (plainX_rel hv m)
  · cases h1
/-- A function whose outcomes are all one plain value: what it has laid is not looked at any more. ex1: one of its runs. -/
noncomputable def xQG (ex1 exg : Ex) (args : List CV) (h : CH) (k : CV → CH → Bool) : Bool :=
  match h with
  | .mk t n wp => ex1 args (.mk t n n) fun z _ => both (exg args (.mk t n n) fun z' _ => plB z' && eqC z' z) (k z (.mk t n wp))
/-- One of the runs is none but for its answer: nothing is asked of it. -/
def One (ex : Ex) : Prop := ∀ args h k, ex args h k = true → ∃ z h', k z h' = true
theorem simQG {P : Program} {f : FuncId} {ex1 exg : Ex} (h1 : One ex1) (hs : SimG P f exg) : SimF P f (fun args h k => xQG ex1 exg args h k) := by
  intro args h k hk
  obtain ⟨t, n, wp⟩ := h
  obtain ⟨z, _, hk1⟩ := h1 _ _ _ (show ex1 args (.mk t n n) (fun z _ => both (exg args (.mk t n n) fun z' _ => plB z' && eqC z' z) (k z (.mk t n wp))) = true from hk)
  obtain ⟨k1, k2⟩ := both_ok hk1
  refine ⟨z, .mk t n wp, k2, rfl, fun {H0 m H vargs K} hr hva hf => ?_⟩
  have hr' : Rel H0 m (.mk t n n) H := ⟨hr.ext, hr.len, hr.new, hr.obj, hr.inj, hr.low⟩
  refine hs args _ _ k1 hr' hva fun z' h' hz _ m' H'' u r1 r2 r3 => ?_
  simp only [Bool.and_eq_true] at hz
  have hx : Ext H H'' := r2.kp.ext fun b hb hw => by
    obtain ⟨i, e, hi, hge, _⟩ := hw
    have hl2 : m.length = n := hr.len
    simp only [CH.wp] at hge
    rw [List.getElem?_eq_none (by omega)] at hi
    cases hi
  have hzz := eqC_ok _ _ hz.2
  subst hzz
  rw [valP_ok z' hz.1 r3]
  exact hf m H'' _ (hr.ext' hx) (Stp.ext hx) (valP_rel z' hz.1 m)
/-- A tree that has a walk. -/
def walkB : OT → Bool
  | .line _ => true
  | .fork _ bs => (match bs with | .nil => false | .cons _ t _ => walkB t)
theorem xT_one {P : Program} {qf : FuncId → Bool} {Z : List (Nat × CV)} {C : List (Nat × Ex)} (he : EnvOk P Z C) {ops : Array Oper} {K : List CV → CH → Bool} : ∀ (t : OT) {sk : List Nat} {fr : List CV} {h : CH}, walkB t = true → xT P qf Z C ops K t sk fr h = true → ∃ fr' h', K fr' h' = true
  | .line l, sk, fr, h, _, hk => by
    simp only [xT] at hk
    obtain ⟨fr', h', k1, _⟩ := xOps_ok he hk
    exact ⟨fr', h', k1⟩
  | .fork A .nil, sk, fr, h, hw, hk => by cases hw
  | .fork A (.cons i t bs), sk, fr, h, hw, hk => by
    simp only [xT] at hk
    obtain ⟨sk', fr', h', k1, _⟩ := xA_ok he hk
    simp only [xB] at k1
    obtain ⟨k0, _⟩ := both_ok k1
    obtain ⟨sk2, fr2, h2, k2, _⟩ := xA_ok he k0
    exact xT_one he t hw k2
def walksB : List (Nat × Plan) → Bool
  | [] => true
  | (_, .all t) :: l => walkB t && walksB l
  | _ :: l => walksB l
theorem walks_look : ∀ {T : List (Nat × Plan)} {i : Nat} {t : OT}, walksB T = true → look T i = some (.all t) → walkB t = true
  | [], _, _, _, h => by cases h
  | (j, p) :: l, i, t, hw, h => by
    have h' : (Bool.rec (motive := fun _ => Option Plan) (look l i) (some p) (Nat.beq j i)) = some (.all t) := h
    cases hb : Nat.beq j i with
    | true =>
      rw [hb] at h'
      injection h' with h'; subst h'
      simp only [walksB, Bool.and_eq_true] at hw
      exact hw.1
    | false =>
      rw [hb] at h'
      refine walks_look (T := l) ?_ h'
      cases p <;> first | exact hw | (simp only [walksB, Bool.and_eq_true] at hw; exact hw.2)
/-- A run of several outcomes has one. -/
theorem xcG_one {P : Program} {qf : FuncId → Bool} {Z : List (Nat × CV)} {C : List (Nat × Ex)} {T : List (Nat × Plan)} (he : EnvOk P Z C) (hw : walksB T = true) : ∀ (c : Code) (ann : Ann) (Q : QX) (fr : List CV) (h : CH), xcG P qf Z C T c ann Q fr h = true → ∃ e fr' h', Q e fr' h' = true := by
  intro c
  induction c with
  | skip => intro ann Q fr h hk; exact ⟨.normal, fr, h, by cases ann <;> exact hk⟩
  | label l => intro ann Q fr h hk; exact ⟨.normal, fr, h, by cases ann <;> exact hk⟩
  | ret => intro ann Q fr h hk; exact ⟨.ret, fr, h, by cases ann <;> exact hk⟩
  | exit id => intro ann Q fr h hk; exact ⟨.exit id, fr, h, by cases ann <;> exact hk⟩
  | region id ops dr =>
    intro ann Q fr h hk
    have hk2 : xRegG P qf Z C (look T id) ops dr fr h (fun fr' h' => Q .normal fr' h') = true := by cases ann <;> exact hk
    clear hk
    unfold xRegG at hk2
    split at hk2
    · rw [ifX_eq] at hk2
      split at hk2 <;> try (cases hk2; done)
      unfold xTwo at hk2
      obtain ⟨sk, fr1, h1, k1, _⟩ := xA_ok he hk2
      obtain ⟨k2, _⟩ := both_ok k1
      obtain ⟨fr2, h2, k3, _⟩ := xOps_ok he k2
      exact ⟨.normal, fr2, h2, k3⟩
    · rename_i t hl
      rw [ifX_eq] at hk2
      split at hk2 <;> try (cases hk2; done)
      obtain ⟨fr2, h2, k3⟩ := xT_one he t (walks_look hw hl) hk2
      exact ⟨.normal, fr2, h2, k3⟩
    · rw [ifX_eq] at hk2
      split at hk2 <;> try (cases hk2; done)
      obtain ⟨fr2, h2, k3, _⟩ := xOps_ok he hk2
      exact ⟨.normal, fr2, h2, k3⟩
    · obtain ⟨fr2, h2, k3, _⟩ := regP_ok (top := false) (id := id) he hk2
      exact ⟨.normal, fr2, h2, k3⟩
  | block id c ih =>
    intro ann Q fr h hk
    have hk : xcG P qf Z C T c ann (blkX id Q) fr h = true := by cases ann <;> exact hk
    obtain ⟨e, fr', h', k1⟩ := ih ann (blkX id Q) fr h hk
    cases e with
    | exit k =>
      have k1 : isXX k id (Q .normal fr' h') (Q (.exit k) fr' h') = true := k1
      unfold isXX at k1
      cases hb : Nat.beq k id with
      | true => rw [hb] at k1; exact ⟨.normal, fr', h', k1⟩
      | false => rw [hb] at k1; exact ⟨.exit k, fr', h', k1⟩
    | normal => exact ⟨.normal, fr', h', k1⟩
    | goto l => exact ⟨.goto l, fr', h', k1⟩
    | ret => exact ⟨.ret, fr', h', k1⟩
    | panic c => exact ⟨.panic c, fr', h', k1⟩
    | outgrown => exact ⟨.outgrown, fr', h', k1⟩
  | cond c x y ihx ihy =>
    intro ann Q fr h hk
    have hk : ∃ l r', xIte (evX fr c) (xcG P qf Z C T x l Q fr h) (xcG P qf Z C T y r' Q fr h) = true := by cases ann <;> exact ⟨_, _, hk⟩
    obtain ⟨l, r', hk⟩ := hk
    unfold xIte at hk
    split at hk
    · exact ihx l Q fr h hk
    · exact ihy r' Q fr h hk
    · cases hk
  | seq x y ihx ihy =>
    intro ann Q fr h hk
    have key : ∃ l K, xcG P qf Z C T x l (thnX K Q) fr h = true ∧ ∀ fr1 h1, K fr1 h1 = true → ∃ e fr' h', Q e fr' h' = true := by
      unfold xcG at hk
      split at hk
      · rw [ifX_eq] at hk
        split at hk
        · exact ⟨_, _, hk, fun fr1 h1 k => ihy _ Q _ h1 k⟩
        · cases hk
      · exact ⟨_, _, hk, fun fr1 h1 k => ihy _ Q fr1 h1 k⟩
      · exact ⟨_, _, hk, fun fr1 h1 k => ihy _ Q fr1 h1 k⟩
    obtain ⟨l, K, hk, hy⟩ := key
    obtain ⟨e, fr1, h1, k1⟩ := ihx l _ fr h hk
    rcases thnX_ok k1 with ⟨rfl, k1⟩ | ⟨hn, k1⟩
    · exact hy fr1 h1 k1
    · exact ⟨e, fr1, h1, k1⟩
  | loop c ih =>
    intro ann Q fr h hk
    have key : ∃ (L : List Nat) (J : List Nat) (b : Ann), xLoop (n := L.length) (fun K s h => xcG P qf Z C T c b (thnX (fun fr' h' => K (grabX fr' L) h') Q) (layX L s (junkX J fr)) h) 1000000 (grabX fr L) h = true := by
      unfold xcG at hk
      split at hk
      · rw [ifX_eq] at hk
        split at hk
        · exact ⟨_, _, _, hk⟩
        · cases hk
      · cases hk
    obtain ⟨L, J, b, hk⟩ := key
    have rounds : ∀ (N : Nat) (s : TupC L.length) (h1 : CH), xLoop (n := L.length) (fun K s h => xcG P qf Z C T c b (thnX (fun fr' h' => K (grabX fr' L) h') Q) (layX L s (junkX J fr)) h) N s h1 = true → ∃ e fr' h', Q e fr' h' = true := by
      intro N
      induction N with
      | zero => intro s h1 hk; cases hk
      | succ N ihN =>
        intro s h1 hk
        have hk' : xcG P qf Z C T c b (thnX (fun fr' h' => xLoop (n := L.length) (fun K s h => xcG P qf Z C T c b (thnX (fun fr' h' => K (grabX fr' L) h') Q) (layX L s (junkX J fr)) h) N (grabX fr' L) h') Q) (layX L s (junkX J fr)) h1 = true := hk
        obtain ⟨e, fr2, h2, k1⟩ := ih b _ _ h1 hk'
        rcases thnX_ok k1 with ⟨rfl, k1⟩ | ⟨hn, k1⟩
        · exact ihN _ _ k1
        · exact ⟨e, fr2, h2, k1⟩
    exact rounds 1000000 _ h hk
  | scope c ih =>
    intro ann Q fr h hk
    have hk : xcG P qf Z C T c ann (scpX Q) fr h = true := by cases ann <;> exact hk
    obtain ⟨e, fr', h', k1⟩ := ih ann (scpX Q) fr h hk
    cases e <;> first | exact ⟨_, fr', h', k1⟩ | cases k1
  | goto l => intro ann Q fr h hk; cases ann <;> cases hk
  | refuse why => intro ann Q fr h hk; cases ann <;> cases hk
  | rangeFunc g ps x y ihx ihy => intro ann Q fr h hk; cases ann <;> cases hk
/-- A function, run in orders that nothing is said of. -/
noncomputable def xFn1 (P : Program) (qf : FuncId → Bool) (Z : List (Nat × CV)) (C : List (Nat × Ex)) (T : List (Nat × Plan)) (fn : Func) (ann : Ann) (args : List CV) (h : CH) (k : CV → CH → Bool) : Bool :=
  match fn.body with
  | some c => xcG P qf Z C T c ann (retX P fn k) (padX args fn.ntmps) h
  | none => false
theorem one_of {P : Program} {qf : FuncId → Bool} {Z : List (Nat × CV)} {C : List (Nat × Ex)} {T : List (Nat × Plan)} (he : EnvOk P Z C) (hw : walksB T = true) {fn : Func} (ann : Ann) : One (xFn1 P qf Z C T fn ann) := by
  intro args h k hk
  unfold xFn1 at hk
  split at hk
  · rename_i c hb
    obtain ⟨e, fr', h', k1⟩ := xcG_one he hw c ann _ _ h hk
    have hres : xRes P fr' h' (fun v => k v h') fn.results.toList [] = true := by
      cases e <;> first | exact k1 | cases k1
    obtain ⟨z, h1, _⟩ := xRes_ok hres
    exact ⟨z, h', h1⟩
  · cases hk
end Go.Xc

/- Xc, part P: rounds of loops over functions, run. -/
set_option linter.unusedVariables false
set_option linter.unusedSectionVars false
set_option linter.unusedSimpArgs false
namespace Go.Xc
open Go.Vc
variable [Sites]

def setX (fr : List CV) : List (Nat × CV) → List CV
  | [] => fr
  | (t, v) :: l => setX (fr.set t v) l
theorem setX_rel {m : M} : ∀ {l : List Nat} {vs : List CV} {us : List Value} {fr : List CV} {frv : Fr}, Vrels m fr frv → Vrels m vs us → vs.length = l.length → Vrels m (setX fr (l.zip vs)) (setL frv (l.zip us))
  | [], _, _, _, _, h, _, _ => by simpa [setX, setL] using h
  | t :: l, [], _, _, _, _, _, hl => by simp at hl
  | t :: l, v :: vs, us, fr, frv, h, hv, hl => by
    obtain ⟨u, us', rfl, h1, h2⟩ := hv
    simp only [List.zip_cons_cons, setX, setL]
    exact setX_rel (set_rel h t h1) h2 (by simpa using hl)
noncomputable def lpEnd (b st : Nat) (j : Option (Option Nat)) (h : CH) (K : CH → Bool) : Bool :=
  match h.get b with
  | some (.lp 1 none n fr) => xSet b (.lp st j n fr) h K
  | _ => false
noncomputable def rdEnd (b : Nat) (k : CV → CH → Bool) : QX
  | .normal, _, h => lpEnd b 0 none h fun h' => k (.bool true) h'
  | .ret, _, h => lpEnd b 2 (some none) h fun h' => k (.bool false) h'
  | .exit id, _, h => lpEnd b 2 (some (some id)) h fun h' => k (.bool false) h'
  | _, _, _ => false
noncomputable def rdMid (b : Nat) (K : List CV → CH → Bool) : QX
  | .normal, fr, h => (match h.get b with
    | some (.lp 0 none n fr0) => xSet b (.lp 1 none n fr0) h fun h' => K fr h'
    | _ => false)
  | _, _, _ => false
/-- A round, by the code itself: what it is handed is laid, then its own code. -/
noncomputable def xRd (P : Program) (qf : FuncId → Bool) (Z : List (Nat × CV)) (C : List (Nat × Ex)) (T : List (Nat × Plan)) (ps : Array Tmp) (x y : Code) (ax ay : Ann) : Ex := fun args h k =>
  match args with
  | .yv b :: .tup fr :: vs => ifX (Nat.beq vs.length ps.size && (noDef x && noDef y)) (xc P qf Z C T x ax (rdMid b fun fr1 h1 => xc P qf Z C T y ay (rdEnd b k) fr1 h1) (setX fr (ps.toList.zip vs)) h) false
  | _ => false

theorem xRd_ok {P : Program} {qf : FuncId → Bool} {Z : List (Nat × CV)} {C : List (Nat × Ex)} {T : List (Nat × Plan)} {n : Nat} {ps : Array Tmp} {x y : Code} {ax ay : Ann} (he : EnvOk P Z C) (hs : ∀ ps' x' y', Sites.ok n ps' x' y' → ps' = ps ∧ x' = x ∧ y' = y) : SimRd P n (xRd P qf Z C T ps x y ax ay) := by
  intro b fr args h k hk ⟨st, j0, hg⟩
  unfold xRd at hk
  simp only at hk
  rw [ifX_eq] at hk
  split at hk <;> try (cases hk; done)
  rename_i hc
  simp only [Bool.and_eq_true] at hc
  obtain ⟨hlen, hnx, hny⟩ := hc
  have hlen := Nat.eq_of_beq_eq_true hlen
  obtain ⟨e1, fr1, h1, k1, w1, _, s1⟩ := xc_ok (top := false) he x ax _ _ h hk (sites_none x ax hnx)
  clear hk
  cases e1 <;> simp only [rdMid] at k1 <;> try (cases k1; done)
  split at k1 <;> try (cases k1; done)
  rename_i n1 fr01 hg1
  obtain ⟨h2, k2, w2, set2⟩ := xSet_ok k1
  clear k1
  obtain ⟨e2, fr2, h3, k3, w3, _, s3⟩ := xc_ok (top := false) he y ay _ _ h2 k2 (sites_none y ay hny)
  clear k2
  have out : ∃ stE, ∃ j : Jmp, ∃ n3 fr3, h3.get b = some (.lp 1 none n3 fr3) ∧ xSet b (.lp stE j n3 fr3) h3 (fun h4 => k (.bool j.isNone) h4) = true ∧ stOf stE = (if j.isNone then .ready else .done) ∧ ((e2 = .normal ∧ j = none) ∨ (e2 = .ret ∧ j = some none) ∨ ∃ id, e2 = .exit id ∧ j = some (some id)) := by
    cases e2 <;> simp only [rdEnd, lpEnd] at k3 <;> try (cases k3; done)
    · split at k3 <;> try (cases k3; done)
      rename_i hg3; exact ⟨0, none, _, _, hg3, k3, rfl, .inl ⟨rfl, rfl⟩⟩
    · split at k3 <;> try (cases k3; done)
      rename_i hg3; exact ⟨2, some (some _), _, _, hg3, k3, rfl, .inr (.inr ⟨_, rfl, rfl⟩)⟩
    · split at k3 <;> try (cases k3; done)
      rename_i hg3; exact ⟨2, some none, _, _, hg3, k3, rfl, .inr (.inl ⟨rfl, rfl⟩)⟩
  clear k3
  obtain ⟨stE, j, n3, fr3, hg3, k4, hstE, hje⟩ := out
  obtain ⟨h4, k5, w4, set4⟩ := xSet_ok k4
  clear k4
  refine ⟨.bool j.isNone, h4, k5, ((w4.trans w3).trans w2).trans w1, fun {H0 m H vargs e K} hr hv hbe hf => ?_⟩
  obtain ⟨e', O, o1, o2, rec, rfl, o3, o4⟩ := hr.obj b _ hg
  rw [hbe] at o1; injection o1 with o1; subst o1
  obtain ⟨q1, q2, q3⟩ := hs _ _ _ o3
  unfold CallV
  simp only
  unfold Yld
  rw [o2]
  simp only
  have hvl : vargs.length = args.length := (Vrels_len hv).symm
  refine ⟨by simp [q1, ← hlen, hvl], ?_⟩
  rw [q1, q2, q3]
  intro w hw
  subst hw
  refine roundIn_of_wpIn (F := wideR none) (n := 0) trivial ?_
  have ha0 : At { tmps := ((ps.zip (#[].toList ++ vargs.toArray.toList).toArray).foldl (fun tmps (x : Nat × Value) => tmps.setIfInBounds x.1 x.2) rec.tmps), defers := [] } (setL rec.tmps.toList (ps.toList.zip vargs)) := by
    show _ = _
    simp only
    rw [← setL_at, ← Array.foldl_toList]
    simp
  have hv0 : Vrels m (setX fr (ps.toList.zip args)) (setL rec.tmps.toList (ps.toList.zip vargs)) := setX_rel o4 hv (by simp [hlen])
  refine wpIn_mono (s1 (some e.1) (fun h => by cases h) hr hv0 ha0) fun e1 a1 w1' hp => ?_
  obtain ⟨rfl, m1, frv1, p1, p2, p3, p4, p5, p6⟩ := hp
  obtain ⟨e1', O1, t1, t2, rec1, rfl, t3, t4⟩ := p1.obj b _ hg1
  have hm1 := p2.pre _ _ hbe
  rw [hm1] at t1; injection t1 with t1; subst t1
  have hl1 : LpAt rec1 e.1 .ready none w1'.heap := t2
  refine ⟨_, begin_ok hl1, ?_⟩
  obtain ⟨u1, u2⟩ := set2 (O := .loop { rec1 with state := .busy, pending := jmpCode none }) p1 hg1 hm1 ⟨rec1, rfl, t3, t4⟩
  refine wpIn_mono (s3 (some e.1) (fun h => by cases h) (w := { w1' with heap := setLp rec1 e.1 .busy none w1'.heap }) u1 p3 p4) fun e2' a2 w2' hp => ?_
  obtain ⟨rfl, m2, frv2, v1, v2, v3, v4, v5, v6⟩ := hp
  obtain ⟨e2', O2, x1, x2, rec2, rfl, x3, x4⟩ := v1.obj b _ hg3
  have hm2 := v2.pre _ _ hm1
  rw [hm2] at x1; injection x1 with x1; subst x1
  have hl2 : LpAt rec2 e.1 .busy none w2'.heap := x2
  obtain ⟨y1, y2⟩ := set4 (O := .loop { rec2 with state := stOf stE, pending := jmpCode j }) v1 hg3 hm2 ⟨rec2, rfl, x3, x4⟩
  have hsm : Sm w w2' := p6.trans ⟨v6.os, v6.out, v6.tape⟩
  have hst2 : setLp rec2 e.1 (if j.isNone then .ready else .done) j w2'.heap = w2'.heap.setIfInBounds e.1 (.loop { rec2 with state := stOf stE, pending := jmpCode j }) := by
    rw [hstE]; rfl
  have hK : K (.bool j.isNone) (setLp rec2 e.1 (if j.isNone then .ready else .done) j w2'.heap) := by
    rw [hst2]
    refine hf m2 _ _ y1 ?_ rfl
    rw [w1] at u2
    rw [w2, w1] at v2
    rw [w3, w2, w1] at y2
    exact ((p2.trans u2).trans v2).trans y2
  have fin : ∃ v w', (Instr.endRound e.1 (jmpCode j)).run P w2' = .ok v w' ∧ ∃ v', Ending.returned v = .returned v' ∧ K v' w'.heap ∧ Sm w w' := ⟨_, _, end_ok hl2, _, rfl, hK, hsm.trans ⟨rfl, rfl, rfl⟩⟩
  rcases hje with ⟨rfl, rfl⟩ | ⟨rfl, rfl⟩ | ⟨id, rfl, rfl⟩
  · exact fin
  · exact fin
  · exact fin

/-! ### Loops by number: loop i of function f is number 10 f + i -/
def rangesOf : Code → List (Array Tmp × Code × Code)
  | .seq a b => rangesOf a ++ rangesOf b
  | .cond _ a b => rangesOf a ++ rangesOf b
  | .block _ c => rangesOf c
  | .scope c => rangesOf c
  | .loop c => rangesOf c
  | .rangeFunc _ ps x y => [(ps, x, y)]
  | _ => []
def siteAt (P : Program) (n : Nat) : Option (Array Tmp × Code × Code) :=
  match P.funcs[n / 10]? with
  | some fn => (match fn.body with
    | some c => (rangesOf c)[n % 10]?
    | none => none)
  | none => none
/-- The loops of a program. -/
abbrev sitesOf (P : Program) : Sites := ⟨fun n ps x y => siteAt P n = some (ps, x, y)⟩
def numB (base : Nat) : Code → Ann → Nat → Bool
  | .seq a b, ann, i => (match ann with
    | .join _ _ l r => numB base a l i && numB base b r (i + (rangesOf a).length)
    | .seq l r => numB base a l i && numB base b r (i + (rangesOf a).length)
    | _ => numB base a .nil i && numB base b .nil (i + (rangesOf a).length))
  | .cond _ a b, ann, i => (match ann with
    | .cond l r => numB base a l i && numB base b r (i + (rangesOf a).length)
    | _ => numB base a .nil i && numB base b .nil (i + (rangesOf a).length))
  | .block _ c, ann, i => numB base c ann i
  | .scope c, ann, i => numB base c ann i
  | .loop c, ann, i => (match ann with
    | .loop _ _ b => numB base c b i
    | _ => true)
  | .rangeFunc _ _ _ _, ann, i => (match ann with
    | .loop [n] _ _ => Nat.beq n (base + i)
    | _ => true)
  | _, _, _ => true
theorem num_sites {base : Nat} : ∀ (c : Code) (ann : Ann) (i : Nat), numB base c ann i = true → (∀ j s, (rangesOf c)[j]? = some s → Sites.ok (base + (i + j)) s.1 s.2.1 s.2.2) → SitesIn true c ann := by
  have left : ∀ {a b : Code} {i : Nat}, (∀ j s, (rangesOf a ++ rangesOf b)[j]? = some s → Sites.ok (base + (i + j)) s.1 s.2.1 s.2.2) → ∀ j s, (rangesOf a)[j]? = some s → Sites.ok (base + (i + j)) s.1 s.2.1 s.2.2 := fun h j s hj => h j s (by
    have hlt := (List.getElem?_eq_some_iff.1 hj).1
    rw [List.getElem?_append_left hlt]; exact hj)
  have right : ∀ {a b : Code} {i : Nat}, (∀ j s, (rangesOf a ++ rangesOf b)[j]? = some s → Sites.ok (base + (i + j)) s.1 s.2.1 s.2.2) → ∀ j s, (rangesOf b)[j]? = some s → Sites.ok (base + (i + (rangesOf a).length + j)) s.1 s.2.1 s.2.2 := fun {a b i} h j s hj => by
    have := h ((rangesOf a).length + j) s (by rw [List.getElem?_append_right (by omega), Nat.add_sub_cancel_left]; exact hj)
    rw [← Nat.add_assoc i] at this; exact this
  intro c
  induction c with
  | seq a b iha ihb =>
    intro ann i h hs
    have hs : ∀ j s, (rangesOf a ++ rangesOf b)[j]? = some s → Sites.ok (base + (i + j)) s.1 s.2.1 s.2.2 := hs
    cases ann <;> (unfold numB at h; simp only [Bool.and_eq_true] at h; exact ⟨iha _ _ h.1 (left hs), ihb _ _ h.2 (right hs)⟩)
  | cond x a b iha ihb =>
    intro ann i h hs
    have hs : ∀ j s, (rangesOf a ++ rangesOf b)[j]? = some s → Sites.ok (base + (i + j)) s.1 s.2.1 s.2.2 := hs
    cases ann <;> (unfold numB at h; simp only [Bool.and_eq_true] at h; exact ⟨iha _ _ h.1 (left hs), ihb _ _ h.2 (right hs)⟩)
  | block id c ih => intro ann i h hs; have := ih ann i h hs; cases ann <;> exact this
  | scope c ih => intro ann i h hs; have := ih ann i h hs; cases ann <;> exact this
  | loop c ih =>
    intro ann i h hs
    cases ann with
    | loop L J b => exact ih b i h hs
    | nil => trivial
    | seq l r => trivial
    | join L J l r => trivial
    | cond l r => trivial
  | rangeFunc g ps x y ihx ihy =>
    intro ann i h hs
    cases ann with
    | loop L J b =>
      match L, h with
      | [n], h =>
        have hn : n = base + i := Nat.eq_of_beq_eq_true h
        have := hs 0 (ps, x, y) rfl
        rw [Nat.add_zero, ← hn] at this
        exact ⟨rfl, this⟩
      | [], h => trivial
      | _ :: _ :: _, h => trivial
    | nil => trivial
    | seq l r => trivial
    | join L J l r => trivial
    | cond l r => trivial
  | skip => intro ann i h hs; cases ann <;> trivial
  | label l => intro ann i h hs; cases ann <;> trivial
  | ret => intro ann i h hs; cases ann <;> trivial
  | exit id => intro ann i h hs; cases ann <;> trivial
  | region id ops dr => intro ann i h hs; cases ann <;> trivial
  | goto l => intro ann i h hs; cases ann <;> trivial
  | refuse w => intro ann i h hs; cases ann <;> trivial

theorem div10 (f j : Nat) (h : j < 10) : (10 * f + (0 + j)) / 10 = f := by omega
theorem mod10 (f j : Nat) (h : j < 10) : (10 * f + (0 + j)) % 10 = j := by omega
/-- A function with loops over functions, run. -/
noncomputable def xFnN (P : Program) (qf : FuncId → Bool) (Z : List (Nat × CV)) (C : List (Nat × Ex)) (T : List (Nat × Plan)) (f : FuncId) (fn : Func) (ann : Ann) (args : List CV) (h : CH) (k : CV → CH → Bool) : Bool :=
  match fn.body with
  | some c => ifX (numB (10 * f) c ann 0 && Nat.ble (rangesOf c).length 10) (xc P qf Z C T c ann (retX P fn k) (padX args fn.ntmps) h) false
  | none => false
theorem simN_of {P : Program} {qf : FuncId → Bool} {Z : List (Nat × CV)} {C : List (Nat × Ex)} {T : List (Nat × Plan)} (he : EnvOk P Z C) (hok : ∀ n ps x y, siteAt P n = some (ps, x, y) → Sites.ok n ps x y) {f : FuncId} {fn : Func} (ann : Ann) (hf : P.funcs[f]? = some fn) : SimF P f (xFnN P qf Z C T f fn ann) := by
  intro args h k hk
  unfold xFnN at hk
  split at hk
  · rename_i c hb
    rw [ifX_eq] at hk
    split at hk
    · rename_i hn
      simp only [Bool.and_eq_true] at hn
      have hlen := Nat.le_of_ble_eq_true hn.2
      refine simR_of (qf := qf) (T := T) he ann hf (fun c' hb' => ?_) args h k ?_
      · rw [hb] at hb'; injection hb' with hb'; subst hb'
        refine num_sites c ann 0 hn.1 fun j s hj => hok _ _ _ _ ?_
        have hlt := (List.getElem?_eq_some_iff.1 hj).1
        unfold siteAt
        have hj10 : j < 10 := by omega
        rw [div10 f j hj10, mod10 f j hj10, hf]
        simp only [hb]
        exact hj
      · unfold xFnR
        rw [hb]; exact hk
    · cases hk
  · cases hk
noncomputable def xRdN (P : Program) (qf : FuncId → Bool) (Z : List (Nat × CV)) (C : List (Nat × Ex)) (T : List (Nat × Plan)) (n : Nat) (ax ay : Ann) : Ex := fun args h k =>
  match siteAt P n with
  | some s => xRd P qf Z C T s.1 s.2.1 s.2.2 ax ay args h k
  | none => false
theorem simRdN {P : Program} {qf : FuncId → Bool} {Z : List (Nat × CV)} {C : List (Nat × Ex)} {T : List (Nat × Plan)} (he : EnvOk P Z C) (hdet : ∀ n ps x y, Sites.ok n ps x y → siteAt P n = some (ps, x, y)) {n : Nat} {ax ay : Ann} : SimRd P n (xRdN P qf Z C T n ax ay) := by
  cases hs : siteAt P n with
  | none =>
    intro b fr args h k hk
    have : (match siteAt P n with
      | some s => xRd P qf Z C T s.1 s.2.1 s.2.2 ax ay (.yv b :: .tup fr :: args) h k
      | none => false) = true := hk
    rw [hs] at this; cases this
  | some s =>
    have e : xRdN P qf Z C T n ax ay = xRd P qf Z C T s.1 s.2.1 s.2.2 ax ay := by
      funext args h k
      unfold xRdN
      rw [hs]
    rw [e]
    refine xRd_ok he fun ps' x' y' hok => ?_
    have := hdet _ _ _ _ hok
    rw [hs] at this
    injection this with this
    subst this
    exact ⟨rfl, rfl, rfl⟩
end Go.Xc

/- Ft, part E: a disk of filled blocks, the document's beside it. -/
set_option linter.unusedVariables false
set_option linter.unusedSimpArgs false
namespace Go.Vc
open Go.Proofs
open Classical

/-- The document's disk. -/
def rdC (a b : Value) (fuse : Int) (st : Bool) (reads made : Int) : Array Value := #[a, b, .int .i64 fuse, .bool st, .int .i64 reads, .int .i64 made]
theorem build_rd : buildE Try.prog 65 [(2, .int .i64 (-1))] = some (.agg (rdC (.slice none 0 0) (.slice none 0 0) (-1) false 0 0)) := by kernel_rfl
noncomputable def eBlk : ElemI := orE (elemI Try.prog 63)
set_option maxRecDepth 100000 in
theorem elBlk : elemI Try.prog 63 = some eBlk := by kernel_rfl
set_option maxRecDepth 100000 in
theorem eBlk_f : eBlk.type = 51 ∧ eBlk.size = 1024 ∧ eBlk.zero.size = 1024 ∧ eBlk.bytes = 1024 := ⟨by kernel_rfl, by kernel_rfl, by kernel_rfl, by kernel_rfl⟩
theorem rd_get {a b : Value} {f : Int} {st : Bool} {x y : Int} : (rdC a b f st x y)[0]? = some a ∧ (rdC a b f st x y)[1]? = some b ∧ (rdC a b f st x y)[2]? = some (.int .i64 f) ∧ (rdC a b f st x y)[3]? = some (.bool st) ∧ (rdC a b f st x y)[4]? = some (.int .i64 x) ∧ (rdC a b f st x y)[5]? = some (.int .i64 y) ∧ (rdC a b f st x y).size = 6 :=
  ⟨rfl, rfl, rfl, rfl, rfl, rfl, rfl⟩

section
variable {H : Hp} {R : Value → Hp → Prop}
theorem Sv.app_nil {T n : Nat} {e : ElemI} (hT : e.type = T) (hs : e.size = n) (hz : e.zero.size = n) (hby : 0 < e.bytes) {x : Value} {T' : Nat} {us : List (Array Value)} (hx : Sv T' n H x us) (hok : ∀ u ∈ us, cellsOk u)
    (hlim : us.length * e.bytes ≤ 2 ^ 47) {K : Value → Hp → Prop} (hk : ∀ s' H', Sv T n H' s' us → Ext H H' → (∀ b, blkOf s' = some b → H.size ≤ b) → K s' H') : AppS (some e) (.slice none 0 0) x H K :=
  app_many hT hs hz hby (Sv.nil T n H) hx hok (by simpa using hlim) fun s' H' h1 h2 h3 => hk s' H' (by simpa using h1) (h2.ext fun b hb e => by cases e) fun b hb => (h3 b hb).resolve_left fun e => by cases e
theorem newDisk_ok {v : Value} {T' : Nat} {l : List Blk} (hs : Sv T' 1024 H v l) (hB : ∀ x ∈ l, IsB x) (hl : l.length ≤ 1048576)
    (k : ∀ H' r s1 s2, Ext H H' → H'[r]? = some (.cells (rdC s1 s2 (-1) false 0 0) 65) → Sv 51 1024 H' s1 l → Sv 51 1024 H' s2 l → H.size ≤ r →
      (∀ b, blkOf s1 = some b → r < b) → (∀ b, blkOf s2 = some b → r < b ∧ blkOf s1 ≠ some b) → R (ptrV r) H') :
    Fc Try.prog 34 #[v] H R := by
  refine fn34 ?_
  have q := eBlk_f
  simp only [sh34, build_rd, Pu_some, elBlk]
  refine box_i fun r H1 hr e1 s1 g1 => ?_
  simp only [cells_agg] at g1
  simp only [nilCheckE, Pu_some, addr_ptr, Nat.zero_add, load_cell g1, rd_get]
  refine Sv.app_nil q.1 q.2.1 q.2.2.1 (by rw [q.2.2.2]; decide) (hs.ext e1) (fun u hu => (hB u hu).ok) (by rw [q.2.2.2]; omega) fun a H2 ha e2 na => ?_
  refine store_i (e2.at g1) (by simp [rd_get]) ha.one.2 ha.one.1 fun H3 k3 s3 g3 => ?_
  have g3 : H3[r]? = some (.cells (rdC a (.slice none 0 0) (-1) false 0 0) 65) := g3
  simp only [load_cell g3, rd_get, Pu_some]
  have e03 : Ext H H3 := (e1.trans e2).kpn k3 (by omega)
  refine Sv.app_nil q.1 q.2.1 q.2.2.1 (by rw [q.2.2.2]; decide) (hs.ext e03) (fun u hu => (hB u hu).ok) (by rw [q.2.2.2]; omega) fun c H4 hc e4 nc => ?_
  refine store_i (e4.at g3) (by simp [rd_get]) hc.one.2 hc.one.1 fun H5 k5 s5 g5 => ?_
  have g5 : H5[r]? = some (.cells (rdC a c (-1) false 0 0) 65) := g5
  have hr1 : ∀ b, blkOf a = some b → r < b := fun b hb => by have := na b hb; omega
  have ha3 := ha.kp k3 fun b hb e => by have := hr1 b hb; omega
  have hr2 : ∀ b, blkOf c = some b → r < b ∧ blkOf a ≠ some b := fun b hb => by
    have h1 := nc b hb
    refine ⟨by have := e2.le; omega, fun h => ?_⟩
    have := ha3.lt h; omega
  exact k H5 r a c ((e03.trans e4).kpn k5 (by omega)) g5 ((ha3.ext e4).kp k5 fun b hb e => by have := hr1 b hb; omega) (hc.kp k5 fun b hb e => by have := (hr2 b hb).1; omega) (by omega) hr1 hr2

def u16s (l : List Int) : List (Array Value) := l.map fun x => #[.int .u16 x]
theorem u16s_len (l : List Int) : (u16s l).length = l.length := by unfold u16s; rw [List.length_map]
theorem u16s_get {l : List Int} {i : Nat} {x : Int} (h : l[i]? = some x) : (u16s l)[i]? = some #[.int .u16 x] := by unfold u16s; rw [List.getElem?_map, h]; rfl
theorem undU16s : Try.prog.underlying 22 = some (.slice 42) := by kernel_rfl
/-- The blocks of some numbers that are not blank. -/
noncomputable def ldP (fs : List Int) : List (Int × Blk) := (fs.zipIdx.filter fun x => decide (filB x.1 ≠ zB)).map fun x => ((x.2 : Int), filB x.1)
theorem filt1 {α β : Type} (p : α → Bool) (f : α → β) (a : α) : ([a].filter p).map f = if p a = true then [f a] else [] := by
  cases h : p a <;> simp [h]
theorem ldP_snoc (fs : List Int) (x : Int) : ldP (fs ++ [x]) = ldP fs ++ if filB x ≠ zB then [((fs.length : Int), filB x)] else [] := by
  unfold ldP
  rw [List.zipIdx_append, List.filter_append, List.map_append, List.zipIdx_singleton, filt1]
  simp only [decide_eq_true_eq, Nat.zero_add]
theorem ldP_lt (fs : List Int) : ∀ y ∈ ldP fs, 0 ≤ y.1 ∧ y.1 < fs.length := by
  intro y hy
  unfold ldP at hy
  obtain ⟨x, hx, rfl⟩ := List.mem_map.1 hy
  have := (List.mem_zipIdx (List.mem_filter.1 hx).1)
  simp only
  omega
theorem okL_snoc {n : Int} {x : Int × Blk} (h1 : x.1 < n) (h2 : x.2 ≠ zB) (h3 : IsB x.2) : ∀ {l : List (Int × Blk)} {b : Int}, okL n b l → b < x.1 → (∀ y ∈ l, y.1 < x.1) → okL n b (l ++ [x])
  | [], b, _, hb, _ => ⟨hb, h1, h2, h3, trivial⟩
  | y :: l, b, h, hb, hl => ⟨h.1, h.2.1, h.2.2.1, h.2.2.2.1, okL_snoc h1 h2 h3 h.2.2.2.2 (hl y List.mem_cons_self) fun z hz => hl z (List.mem_cons_of_mem _ hz)⟩
theorem okL_mono {n n' : Int} (hn : n ≤ n') : ∀ {l : List (Int × Blk)} {b : Int}, okL n b l → okL n' b l
  | [], _, _ => trivial
  | y :: l, b, h => ⟨h.1, Int.lt_of_lt_of_le h.2.1 hn, h.2.2.1, h.2.2.2.1, okL_mono hn h.2.2.2.2⟩
theorem list_snoc_ind {α : Type} {P : List α → Prop} (h0 : P []) (h1 : ∀ l x, P l → P (l ++ [x])) (l : List α) : P l := by
  have : ∀ m : List α, P m.reverse := fun m => by
    induction m with
    | nil => exact h0
    | cons x m ih => rw [List.reverse_cons]; exact h1 _ _ ih
  have := this l.reverse
  rwa [List.reverse_reverse] at this
theorem ldP_ok (fs : List Int) : okL fs.length (-1) (ldP fs) := by
  refine list_snoc_ind (P := fun fs => okL fs.length (-1) (ldP fs)) trivial (fun l x h => ?_) fs
  rw [ldP_snoc, List.length_append]
  have hB := filB_is x
  generalize filB x = d at hB ⊢
  split
  · rename_i hx
    exact okL_snoc (x := ((l.length : Int), d)) (by simp only [List.length_cons, List.length_nil]; omega) hx hB (okL_mono (by simp only [List.length_cons, List.length_nil]; omega) h) (by simp only; omega) fun y hy => (ldP_lt l y hy).2
  · rw [List.append_nil]; exact okL_mono (by simp only [List.length_cons, List.length_nil]; omega) h
theorem ldP_nil : ldP [] = [] := by unfold ldP; rw [List.zipIdx_nil, List.filter_nil, List.map_nil]
theorem heldL_nil (k : Int) : heldL [] k = zB := by unfold heldL; rw [List.foldl_nil]
theorem ldP_held (fs : List Int) : ∀ i x, fs[i]? = some x → heldL (ldP fs) (i : Nat) = filB x := by
  refine list_snoc_ind (P := fun fs => (∀ i x, fs[i]? = some x → heldL (ldP fs) (i : Nat) = filB x) ∧ ∀ i : Nat, fs.length ≤ i → heldL (ldP fs) i = zB) ⟨fun i x h => (by rw [List.getElem?_nil] at h; cases h), fun i _ => (by rw [ldP_nil, heldL_nil])⟩ (fun l x h => ?_) fs |>.1
  rw [ldP_snoc]
  by_cases hx : filB x = zB
  · rw [if_neg (fun h => h hx), List.append_nil]
    refine ⟨fun i y hi => ?_, fun i hi => h.2 i (by rw [List.length_append] at hi; omega)⟩
    by_cases hil : i < l.length
    · rw [List.getElem?_append_left hil] at hi; exact h.1 i y hi
    · rw [List.getElem?_append_right (by omega)] at hi
      cases hk : i - l.length with
      | zero =>
        rw [hk] at hi
        simp only [List.getElem?_cons_zero, Option.some.injEq] at hi
        subst hi
        rw [h.2 i (by omega), hx]
      | succ k => rw [hk] at hi; simp at hi
  · rw [if_pos hx, heldL_snoc]
    refine ⟨fun i y hi => ?_, fun i hi => ?_⟩
    · unfold updB
      by_cases hil : i < l.length
      · rw [if_neg (by simp only; omega)]
        rw [List.getElem?_append_left hil] at hi; exact h.1 i y hi
      · rw [List.getElem?_append_right (by omega)] at hi
        cases hk : i - l.length with
        | zero =>
          rw [hk] at hi
          simp only [List.getElem?_cons_zero, Option.some.injEq] at hi
          subst hi
          rw [if_pos (by simp only; omega)]
        | succ k => rw [hk] at hi; simp at hi
    · rw [List.length_append] at hi
      simp only [List.length_cons, List.length_nil] at hi
      unfold updB
      rw [if_neg (by simp only; omega)]
      exact h.2 i (by omega)
theorem ldP_len (fs : List Int) : (ldP fs).length ≤ fs.length := by
  unfold ldP
  rw [List.length_map]
  have := List.length_filter_le (fun x : Int × Nat => decide (filB x.1 ≠ zB)) fs.zipIdx
  rw [List.length_zipIdx] at this; exact this
theorem take_one {fs : List Int} {i : Nat} {x : Int} (h : fs[i]? = some x) : fs.take (i + 1) = fs.take i ++ [x] := by rw [List.take_add_one, h]; rfl

theorem zeroIm : zeroE Try.prog 72 = some (.agg #[.int .i64 0, .slice none 0 0]) := by kernel_rfl
theorem build_im (n : Int) : buildE Try.prog 72 [(0, .int .i64 n)] = some (.agg #[.int .i64 n, .slice none 0 0]) := by kernel_rfl
theorem neZ_iff {c : Blk} (hc : IsB c) {lit : Bool} {H : Hp} : eqXE Try.prog 51 lit .neq (.agg c) (.agg zB) H = some (.bool (decide (c ≠ zB))) := by
  by_cases h : c = zB
  · subst h; rw [eqXE_neq, eqB_true rowB zB_is]; simp
  · rw [eqXE_neq, eqB_false rowB hc zB_is h]; simp [h]

set_option maxHeartbeats 2000000 in
theorem disks_ok {v : Value} {fs : List Int} (hs : Sr 1 H v (u16s fs)) (h1 : 1 ≤ fs.length) (h2 : fs.length ≤ 64)
    (k : ∀ H' p r s1 s2 Od, Ext H H' → DiskAt H' p (DS.load fs.length (ldP fs)) Od → (∀ b, Od b → H.size ≤ b ∧ b < r) → H'[r]? = some (.cells (rdC s1 s2 (-1) false 0 0) 65) → Sv 51 1024 H' s1 (fs.map filB) → Sv 51 1024 H' s2 (fs.map filB) → H.size ≤ r →
      (∀ b, blkOf s1 = some b → r < b) → (∀ b, blkOf s2 = some b → r < b ∧ blkOf s1 ≠ some b) → R (.tuple #[ptrV p, ptrV r, .bool true]) H') :
    Fc Try.prog 6 #[v] H R := by
  refine fn6 ?_
  simp only [sh6]
  rw [hs.lenE undU16s]
  simp only [u16s_len, Pu_some, build_im, zeroIm]
  refine box_i fun b4 H1 hb4 e1 t1 g1 => ?_
  simp only [cells_agg] at g1
  refine storeAll_i (vs := #[.int .i64 (fs.length : Int), .slice none 0 0]) g1 rfl rfl (by simp [Value.oneCell']) fun H2 k2 t2 g2 => ?_
  have e02 : Ext H H2 := e1.kpn k2 (by omega)
  have qB := eBlk_f
  have qH := eHeld_f
  refine LoopP.mk (fun t H' => ∃ (i : Nat) (sd : Value), t.2.1 = .int .i64 i ∧ i ≤ fs.length ∧ Ext H H' ∧ b4 < H'.size ∧ H'[b4]? = some (.cells #[.int .i64 (fs.length : Int), sd] 72) ∧ Sv 51 1024 H' t.1 ((fs.take i).map filB) ∧ Sv 74 1025 H' sd ((ldP (fs.take i)).map heldC) ∧
      (∀ b, blkOf t.1 = some b → b4 < b) ∧ (∀ b, blkOf sd = some b → b4 < b ∧ blkOf t.1 ≠ some b))
    (fun t _ => match t.2.1 with | .int _ i => ((fs.length : Int) - i).toNat | _ => 0) ⟨0, _, rfl, by omega, e02, by omega, g2, Sv.nil _ _ _, Sv.nil _ _ _, fun b e => (by cases e), fun b e => (by cases e)⟩ ?_
  rintro ⟨sl, t2, u⟩ H3 ⟨i, sd, ht, hi, e3, l3, g3, hsl, hsd, nl, nd⟩
  simp only at ht hsl nl nd
  subst ht
  simp only [Any_const, Pu_some, binE_lss, Ite_dec]
  refine ⟨fun hlt => ?_, fun hge => ?_⟩
  · have hil : i < fs.length := by omega
    have hx := List.getElem?_eq_getElem hil
    generalize fs[i] = x at hx
    obtain ⟨bs, os, hadr, hld0⟩ := (hs.ext e3).cell (i := i) (j := 0) (u16s_get hx) (by decide)
    have hld : loadE (some none) (.pointer (some ⟨bs, os, none⟩)) H3 = some (.int .u16 x) := hld0
    simp only [hadr, hld, Pu_some]
    refine filled_ok fun H4 e4 => ?_
    have hB := filB_is x
    generalize hdx : filB x = d at hB ⊢
    simp only [zeroB, Pu_some]
    refine box_i fun b13 H5 hb5 e5 t5 g5 => ?_
    simp only [cells_agg] at g5
    refine storeAll_i g5 zB_size hB.size hB.ok fun H6 k6 t6 g6 => ?_
    have g6 : H6[b13]? = some (.cells (d) 51) := g6
    have e36 : Ext H3 H6 := e4.trans (e5.kpn k6 (by omega))
    have hl6 := load_all g6 hB.size
    simp only [hl6, Pu_some, elBlk, elHeld]
    rw [newS_one (by rw [qB.2.1]; decide) (by rw [qB.2.1]; decide) (by rw [cells_agg, hB.size, qB.2.1]), Pu_some]
    refine newS_i fun b7 H7 hb7 e7 t7 g7 => ?_
    have hsl7 := hsl.ext (e36.trans e7)
    have hlen : ((fs.take i).map filB).length = i := by rw [List.length_map, List.length_take]; omega
    refine app_many (us := [d]) qB.1 qB.2.1 qB.2.2.1 (by rw [qB.2.2.2]; decide) hsl7 (Sv.single g7 hB.size) (fun u hu => by have := List.mem_singleton.1 hu; subst this; exact hB.ok) (by rw [hlen, qB.2.2.2]; simp only [List.length_cons, List.length_nil]; omega) fun sl' H8 hsl8 k8 n8 => ?_
    have e37 := e36.trans e7
    have g8 := k8.at (e7.at g6) (fun e => by have := nl _ e; have := hsl.lt e; have := e4.le; omega)
    have hl8 := load_all g8 hB.size
    have hB4 : H8[b4]? = some (.cells #[.int .i64 (fs.length : Int), sd] 72) := k8.at (e37.at g3) fun e => by have := nl _ e; omega
    have hsd8 : Sv 74 1025 H8 sd ((ldP (fs.take i)).map heldC) := (hsd.ext e37).kp k8 fun b hb e => (nd b hb).2 e
    have nl8 : ∀ b, blkOf sl' = some b → b4 < b := fun b hb => by
      rcases n8 b hb with h | h
      · exact nl b h
      · have := e37.le; omega
    have nd8 : ∀ b, blkOf sd = some b → b4 < b ∧ blkOf sl' ≠ some b := fun b hb => ⟨(nd b hb).1, fun e => by
      rcases n8 b e with h | h
      · exact (nd b hb).2 h
      · have := hsd.lt hb; have := e37.le; omega⟩
    have e08 : Ext H H8 := ⟨by have := e3.le; have := e37.le; have := k8.le; omega, fun b hb => by
      have h3 := e3.le
      rw [k8.same b (by have := e37.le; omega) (fun e => by have := nl b e; omega), e37.same b (by omega), e3.same b hb]⟩
    have l8 : b4 < H8.size := by have := e37.le; have := k8.le; omega
    simp only [hl8, Pu_some, buildB, neZ_iff hB, Ite_dec]
    have hsl9 : Sv 51 1024 H8 sl' ((fs.take (i + 1)).map filB) := by rw [take_one hx, List.map_append, List.map_singleton, hdx]; exact hsl8
    have htl : (fs.take i).length = i := by rw [List.length_take]; omega
    refine ⟨fun hne => ?_, fun heq => ?_⟩
    · simp only [addr_ptr, Nat.zero_add, load_cell hB4, Pu_some]
      rw [show (#[Value.int .i64 (fs.length : Int), sd] : Array Value)[1]? = some sd from rfl, Pu_some, build_held hB, Pu_some, newS_one (by rw [qH.2.1]; decide) (by rw [qH.2.1]; decide) (by rw [cells_agg, heldC_size hB, qH.2.1]), Pu_some]
      refine newS_i fun b9 H9 hb9 e9 t9 g9 => ?_
      have hsd9 := hsd8.ext e9
      have hll := ldP_len (fs.take i)
      refine app_many (us := [heldC (i, d)]) qH.1 qH.2.1 qH.2.2.1 (by rw [qH.2.2.2]; decide) hsd9 (Sv.single g9 (heldC_size (x := ((i : Int), d)) hB)) (fun u hu => by have := List.mem_singleton.1 hu; subst this; exact heldC_ok (x := ((i : Int), d)) hB) (by rw [List.length_map, qH.2.2.2]; simp only [List.length_cons, List.length_nil]; omega) fun sd' H10 hsd10 k10 n10 => ?_
      have g10 := k10.at (e9.at hB4) fun e => by have := (nd8 _ e).1; omega
      refine store_i g10 (by simp) hsd10.one.2 hsd10.one.1 fun H11 k11 t11 g11 => ?_
      have g11 : H11[b4]? = some (.cells #[.int .i64 (fs.length : Int), sd'] 72) := g11
      simp only [binE_add, Pu_some]
      rw [i64wrap_id (by omega) (by omega)]
      have nd10 : ∀ b, blkOf sd' = some b → b4 < b ∧ blkOf sl' ≠ some b := fun b hb => by
        rcases n10 b hb with h | h
        · exact nd8 b h
        · have := e9.le; exact ⟨by omega, fun e => by have := hsl9.lt e; omega⟩
      refine ⟨⟨i + 1, sd', rfl, by omega, ?_, ?_, g11, ?_, ?_, nl8, nd10⟩, by show ((fs.length : Int) - (i + 1)).toNat < ((fs.length : Int) - i).toNat; omega⟩
      · refine ⟨by have := e08.le; have := e9.le; have := k10.le; omega, fun b hb => ?_⟩
        have h8 := e08.le
        rw [k11.same b (by have := e9.le; have := k10.le; omega) (by omega), k10.same b (by have := e9.le; omega) (fun e => by have := (nd8 b e).1; omega), e9.same b (by omega), e08.same b hb]
      · have := e9.le; have := k10.le; omega
      · exact ((hsl9.ext e9).kp k10 fun b hb e => (nd8 b e).2 hb).kp k11 fun b hb e => by have := nl8 b hb; omega
      · rw [take_one hx, ldP_snoc, hdx, if_pos hne, List.map_append, htl]
        exact hsd10.kp k11 fun b hb e => by have := (nd10 b hb).1; omega
    · simp only [binE_add, Pu_some]
      rw [i64wrap_id (by omega) (by omega)]
      refine ⟨⟨i + 1, sd, rfl, by omega, e08, l8, hB4, hsl9, ?_, nl8, nd8⟩, by show ((fs.length : Int) - (i + 1)).toNat < ((fs.length : Int) - i).toNat; omega⟩
      rw [take_one hx, ldP_snoc, hdx, if_neg heq, List.append_nil]; exact hsd8
  · have hie : i = fs.length := by omega
    subst hie
    rw [List.take_length] at hsl hsd
    have hlm : loadE (some (some 2)) (.pointer (some ⟨b4, 0, none⟩)) H3 = some (.agg #[.int .i64 (fs.length : Int), sd]) := load_all g3 rfl
    simp only [hlm, Pu_some]
    refine disk_load (by omega) (by omega) hsd (ldP_ok fs) (by have := ldP_len fs; omega) fun H12 p e12 hd => ?_
    simp only [extractE, List.getElem?_toArray, List.getElem?_cons_zero, List.getElem?_cons_succ, Pu_some]
    refine newDisk_ok (hsl.ext e12) (fun x hx => by obtain ⟨y, _, rfl⟩ := List.mem_map.1 hx; exact filB_is y) (by rw [List.length_map]; omega) fun H13 r s1 s2 e13 gr hs1 hs2 hr0 hr1 hr2 => ?_
    rw [neX_ptr undDk]
    simp only [Pu_some, Ite_true, binE_eql, decide_true]
    refine k H13 p r s1 s2 _ (e3.trans (e12.trans e13)) (hd.ext e13) (fun b hb => ?_) gr hs1 hs2 ?_ hr1 hr2
    · have := e3.le; exact ⟨by omega, by omega⟩
    · have := e3.le; have := e12.le; omega
end
end Go.Vc

/- Ft, part G: the document's disk: its contracts. -/
set_option linter.unusedVariables false
set_option linter.unusedSimpArgs false
namespace Go.Vc
open Go.Proofs

structure RdC (H : Hp) (r : Nat) (s : DS) (a b : Value) (nows helds : List Blk) : Prop where
  top : H[r]? = some (.cells (rdC a b s.fuse s.stopped s.reads s.made) 65)
  now : Sv 51 1024 H a nows
  held : Sv 51 1024 H b helds
  nl : (nows.length : Int) = s.n
  hl : (helds.length : Int) = s.n
  vn : ∀ (i : Nat) x, nows[i]? = some x → s.now i = x ∧ IsB x
  vh : ∀ (i : Nat) x, helds[i]? = some x → s.held i = x ∧ IsB x
  d1 : ∀ x, blkOf a = some x → x ≠ r
  d2 : ∀ x, blkOf b = some x → x ≠ r ∧ blkOf a ≠ some x
/-- The document's disk, within the blocks O. -/
structure RD (H : Hp) (r : Nat) (s : DS) (O : Nat → Prop) : Prop where
  is : ∃ a b nows helds, RdC H r s a b nows helds ∧ O r ∧ (∀ x, blkOf a = some x → O x) ∧ ∀ x, blkOf b = some x → O x
  lt : ∀ b, O b → b < H.size
section
variable {H H' : Hp} {r : Nat} {s : DS} {O O' : Nat → Prop} {a b : Value} {nows helds : List Blk}
theorem RdC.of (h : RdC H r s a b nows helds) (h0 : H'[r]? = H[r]?) (h1 : ∀ x, blkOf a = some x → H'[x]? = H[x]?) (h2 : ∀ x, blkOf b = some x → H'[x]? = H[x]?) : RdC H' r s a b nows helds :=
  { h with top := by rw [h0]; exact h.top, now := h.now.of h1, held := h.held.of h2 }
theorem RdC.turn (h : RdC H r s a b nows helds) (hk : Kp (· = r) H H') {s' : DS} (ht : H'[r]? = some (.cells (rdC a b s'.fuse s'.stopped s'.reads s'.made) 65)) (hn : s'.n = s.n) (hw : s'.now = s.now) (hh : s'.held = s.held) : RdC H' r s' a b nows helds :=
  { h with top := ht, now := h.now.kp hk fun x e e' => h.d1 x e e', held := h.held.kp hk fun x e e' => (h.d2 x e).1 e', nl := (by rw [hn]; exact h.nl), hl := (by rw [hn]; exact h.hl), vn := (by rw [hw]; exact h.vn), vh := (by rw [hh]; exact h.vh) }
theorem RD.frame (h : RD H r s O) (hb : ∀ b, O b → H'[b]? = H[b]?) (hO : ∀ b, O b → O' b) (hl : ∀ b, O' b → b < H'.size) : RD H' r s O' := by
  obtain ⟨⟨a, b, nows, helds, hc, o1, o2, o3⟩, _⟩ := h
  exact ⟨⟨a, b, nows, helds, hc.of (hb _ o1) (fun x e => hb _ (o2 x e)) (fun x e => hb _ (o3 x e)), hO _ o1, fun x e => hO _ (o2 x e), fun x e => hO _ (o3 x e)⟩, hl⟩
theorem RD.ext (h : RD H r s O) (e : Ext H H') : RD H' r s O := h.frame (fun b hb => e.same b (h.lt b hb)) (fun b hb => hb) fun b hb => Nat.lt_of_lt_of_le (h.lt b hb) e.le
theorem RD.kp {S : Nat → Prop} (h : RD H r s O) (k : Kp S H H') (hs : ∀ b, O b → ¬ S b) : RD H' r s O := h.frame (fun b hb => k.same b (h.lt b hb) (hs b hb)) (fun b hb => hb) fun b hb => Nat.lt_of_lt_of_le (h.lt b hb) k.le
theorem RD.own (h : RD H r s O) : O r := by
  obtain ⟨⟨a, b, nows, helds, hc, o1, o2, o3⟩, _⟩ := h; exact o1
end
theorem undBlks : Try.prog.underlying 63 = some (.slice 51) := by kernel_rfl

section
variable {H : Hp} {r : Nat} {s : DS} {O : Nat → Prop} {R : Value → Hp → Prop} {a b : Value} {nows helds : List Blk}
theorem rd_wrong (h : RD H r s O) {at_ : Int} (k : R (.int .i64 (s.wrong at_)) H) : Fc Try.prog 51 #[ptrV r, .int .i64 at_] H R := by
  obtain ⟨⟨a, b, nows, helds, hc, _⟩, _⟩ := h
  refine fn51 ?_
  simp only [sh51, nilCheckE, Pu_some, addr_ptr, Nat.zero_add, load_cell hc.top, rd_get, Ite_bool, Any_const]
  refine ⟨fun hs => ?_, fun hs => ?_⟩
  · rw [show s.wrong at_ = 3 by simp [DS.wrong, hs]] at k; exact k
  · refine Join.mk (fun x H' => H' = H ∧ x.1 = .bool (decide (at_ < 0 ∨ s.n ≤ at_))) ?_ ?_
    · rintro ⟨x, u⟩ H2 ⟨rfl, hx⟩
      simp only at hx
      subst hx
      simp only [Ite_dec]
      refine ⟨fun ho => ?_, fun ho => ?_⟩
      · rw [show s.wrong at_ = 2 by simp [DS.wrong, hs, ho]] at k; exact k
      · rw [show s.wrong at_ = 0 by simp only [DS.wrong, hs, Bool.false_eq_true, if_false, if_neg ho]] at k; exact k
    · simp only [binE_lss, Pu_some, Ite_dec]
      refine ⟨fun h0 => ⟨trivial, by simp [h0]⟩, fun h0 => ?_⟩
      rw [hc.now.lenE undBlks, Pu_some, binE_geq, Pu_some, hc.nl]
      exact ⟨trivial, by simp [h0]⟩
theorem rd_lets (hc : RdC H r s a b nows helds) (hm : -9223372036854775808 ≤ s.made ∧ s.made < 9223372036854775807) (hf : -1 ≤ s.fuse ∧ s.fuse ≤ 9223372036854775807)
    (k : ∀ H', Kp (· = r) H H' → H'.size = H.size → RdC H' r s.burn.1 a b nows helds → R (.bool s.burn.2) H') : Fc Try.prog 41 #[ptrV r] H R := by
  refine fn41 ?_
  simp only [sh41, nilCheckE, Pu_some, addr_ptr, Nat.zero_add, load_cell hc.top, rd_get, binE_eql, Ite_dec, Any_const]
  refine ⟨fun h0 => ?_, fun h0 => ?_⟩
  · refine store_i (v := .bool true) hc.top (by simp [rd_get]) rfl rfl fun H3 k3 s3 g3 => ?_
    have hd3 : RdC H3 r { s with stopped := true } a b nows helds := hc.turn k3 g3 rfl rfl rfl
    have := k H3 k3 s3
    rw [show s.burn = ({ s with stopped := true }, false) by simp [DS.burn, h0]] at this
    exact this hd3
  · have hb : s.burn = ({ s with fuse := if 0 < s.fuse then s.fuse - 1 else s.fuse, made := s.made + 1 }, true) := by simp [DS.burn, h0]
    refine Join.mk (fun _ H' => Kp (· = r) H H' ∧ H'.size = H.size ∧ RdC H' r { s with fuse := if 0 < s.fuse then s.fuse - 1 else s.fuse } a b nows helds) ?_ ?_
    · rintro _ H2 ⟨k2, s2, h2⟩
      simp only [load_cell h2.top, rd_get, Pu_some, binE_add]
      rw [i64wrap_id (by omega) (by omega)]
      refine store_i h2.top (by simp [rd_get]) rfl rfl fun H3 k3 s3 g3 => ?_
      have := k H3 (k2.trans k3) (s3.trans s2)
      rw [hb] at this
      exact this (h2.turn k3 g3 rfl rfl rfl)
    · simp only [binE_gtr, Pu_some, Ite_dec]
      refine ⟨fun hp => ?_, fun hp => ?_⟩
      · rw [binE_sub, i64wrap_id (by omega) (by omega), Pu_some]
        refine store_i hc.top (by simp [rd_get]) rfl rfl fun H3 k3 s3 g3 => ?_
        refine ⟨k3, s3, hc.turn k3 ?_ rfl rfl rfl⟩
        rw [g3]
        simp only [if_pos hp]; rfl
      · refine ⟨Kp.refl _ _, trivial, ?_⟩
        have : ({ s with fuse := if 0 < s.fuse then s.fuse - 1 else s.fuse } : DS) = s := by
          obtain ⟨x1, x2, x3, x4, x5, x6, x7, x8, x9, x10, x11⟩ := s
          simp only at hp ⊢
          rw [if_neg hp]
        rw [this]; exact hc

theorem DS.write_n (s : DS) (x : Int) (c : Blk) : (s.write x c).1.n = s.n := by
  unfold DS.write DS.burn
  split
  · rfl
  · split
    · rfl
    · split <;> rfl
theorem rd_write (h : RD H r s O) (hm : -9223372036854775808 ≤ s.made ∧ s.made < 9223372036854775807) (hf : -1 ≤ s.fuse ∧ s.fuse ≤ 9223372036854775807) {x : Int} {c : Blk} (hB : IsB c)
    (k : ∀ H', Kp O H H' → RD H' r (s.write x c).1 O → R (.int .i64 (s.write x c).2) H') : Fc Try.prog 37 #[ptrV r, .int .i64 x, .agg c] H R := by
  refine fn37 ?_
  simp only [sh37]
  refine box_i fun b1 H1 hb1 e1 t1 g1 => ?_
  simp only [cells_agg] at g1
  have h1 := h.ext e1
  refine rd_wrong h1 ?_
  simp only [binE_neq, Pu_some, Ite_dec]
  refine ⟨fun hw => ?_, fun hw => ?_⟩
  · have hs : s.write x c = (s, s.wrong x) := by
      unfold DS.wrong at hw ⊢
      unfold DS.write
      split
      · rfl
      · split
        · rfl
        · rename_i p q; rw [if_neg p, if_neg q] at hw; exact absurd rfl hw
    have := k H1 (e1.kp O)
    rw [hs] at this
    exact this h1
  · have hw : s.wrong x = 0 := Classical.not_not.1 hw
    have hst : s.stopped = false := by
      cases hq : s.stopped with
      | false => rfl
      | true => rw [DS.wrong, hq] at hw; simp at hw
    have hr : ¬ (x < 0 ∨ s.n ≤ x) := fun ho => by simp [DS.wrong, hst, ho] at hw
    obtain ⟨⟨a, b, nows, helds, hc, o1, o2, o3⟩, hlt⟩ := h1
    refine rd_lets hc hm hf fun H3 k3 s3 hc3 => ?_
    have g3 := k3.at g1 (fun e => by have := h.lt r h.own; omega)
    have kk3 : Kp O H H3 := (e1.kp O).trans (k3.mono fun j _ e => e ▸ o1)
    by_cases hz : s.fuse = 0
    · have hb2 : s.burn = ({ s with stopped := true }, false) := by simp [DS.burn, hz]
      rw [hb2] at hc3 ⊢
      simp only [unE_not, Pu_some, Bool.not_false, Ite_true]
      have hs : s.write x c = ({ s with stopped := true }, 3) := by simp only [DS.write, hst, Bool.false_eq_true, if_false, if_neg hr, if_pos hz]
      have := k H3 kk3
      rw [hs] at this
      exact this ⟨⟨a, b, nows, helds, hc3, o1, o2, o3⟩, fun j hj => by rw [s3]; exact hlt j hj⟩
    · have hb2 : s.burn.2 = true := by simp [DS.burn, hz]
      have hs : s.write x c = ({ s.burn.1 with now := updB s.now x c, pl := s.pl + 1, hl := s.hl + 1 }, 0) := by simp only [DS.write, hst, Bool.false_eq_true, if_false, if_neg hr, if_neg hz]
      have hn : s.burn.1.n = s.n ∧ s.burn.1.now = s.now ∧ s.burn.1.held = s.held := by simp [DS.burn, hz]
      have hnl := hc.nl
      obtain ⟨xn, rfl⟩ : ∃ xn : Nat, x = (xn : Int) := ⟨x.toNat, by omega⟩
      have hl3 := load_all g3 hB.size
      rw [hb2]
      simp only [unE_not, Pu_some, Bool.not_true, Ite_false, nilCheckE, addr_ptr, Nat.zero_add, load_cell hc3.top, rd_get, hl3]
      obtain ⟨bn, on, hbn, hadr, hput⟩ := hc3.now.put (K := fun H4 => R (.int .i64 0) H4) (i := xn) (by omega) hB.size hB.ok
      rw [hadr, Pu_some]
      refine hput fun H4 k4 s4 hn4 => ?_
      have hd1 := hc.d1 bn hbn
      have := k H4 (kk3.trans (k4.mono fun j _ e => e ▸ o2 bn hbn))
      rw [hs] at this
      refine this ⟨⟨a, b, nows.set xn c, helds, ?_, o1, o2, o3⟩, fun j hj => by rw [s4, s3]; exact hlt j hj⟩
      exact {
        top := k4.at hc3.top fun e => hd1 e.symm
        now := hn4
        held := hc3.held.kp k4 fun y hy e => by subst e; exact (hc.d2 y hy).2 hbn
        nl := by rw [List.length_set, hnl]; exact hn.1.symm
        hl := by rw [hc.hl]; exact hn.1.symm
        vn := fun i y hy => by
          show updB s.now xn c i = y ∧ IsB y
          unfold updB
          rw [List.getElem?_set] at hy
          by_cases hi : xn = i
          · subst hi
            rw [if_pos rfl, if_pos (by omega)] at hy
            injection hy with hy; subst hy
            rw [if_pos rfl]; exact ⟨rfl, hB⟩
          · rw [if_neg hi] at hy
            rw [if_neg (by omega)]; exact hc.vn i y hy
        vh := fun i y hy => by
          show s.burn.1.held i = y ∧ IsB y
          rw [hn.2.2]; exact hc.vh i y hy
        d1 := hc.d1
        d2 := hc.d2 }

/-- A new fuse. -/
def DS.light (s : DS) (n : Int) : DS := if s.stopped then s else { s with fuse := max n (-1) }
theorem rd_light (h : RD H r s O) {n : Int} (k : ∀ H', Kp O H H' → RD H' r (s.light n) O → R (.tuple #[]) H') : Fc Try.prog 12 #[ptrV r, .int .i64 n] H R := by
  have h0 := h
  obtain ⟨⟨a, b, nows, helds, hc, o1, o2, o3⟩, hlt⟩ := h
  refine fn12 ?_
  simp only [sh12, nilCheckE, Pu_some, addr_ptr, Nat.zero_add, load_cell hc.top, rd_get, unE_not, Ite_not, max_int]
  refine ⟨fun hs => ?_, fun hs => ?_⟩
  · refine store_i hc.top (by simp [rd_get]) rfl rfl fun H3 k3 s3 g3 => ?_
    refine k H3 (k3.mono fun j _ e => e ▸ o1) ⟨⟨a, b, nows, helds, hc.turn k3 ?_ ?_ ?_ ?_, o1, o2, o3⟩, fun j hj => by rw [s3]; exact hlt j hj⟩
    · rw [g3]; simp only [DS.light, hs, Bool.false_eq_true, if_false]; rfl
    · simp only [DS.light, hs, Bool.false_eq_true, if_false]
    · simp only [DS.light, hs, Bool.false_eq_true, if_false]
    · simp only [DS.light, hs, Bool.false_eq_true, if_false]
  · have := k H (Kp.refl _ _)
    rw [show s.light n = s by simp [DS.light, hs]] at this
    exact this h0

theorem rd_barrier (h : RD H r s O) (hm : -9223372036854775808 ≤ s.made ∧ s.made < 9223372036854775807) (hf : -1 ≤ s.fuse ∧ s.fuse ≤ 9223372036854775807) (hn : s.n ≤ 1048576)
    (k : ∀ H', Kp O H H' → RD H' r s.barrier.1 O → R (.int .i64 s.barrier.2) H') : Fc Try.prog 14 #[ptrV r] H R := by
  have h0 := h
  obtain ⟨⟨a, b, nows, helds, hc, o1, o2, o3⟩, hlt⟩ := h
  refine fn14 ?_
  simp only [sh14, nilCheckE, Pu_some, addr_ptr, Nat.zero_add, load_cell hc.top, rd_get, Ite_bool, Any_const]
  refine ⟨fun hs => ?_, fun hs => ?_⟩
  · have := k H (Kp.refl _ _)
    rw [show s.barrier = (s, 3) by simp [DS.barrier, hs]] at this
    exact this h0
  · refine rd_lets hc hm hf fun H3 k3 s3 hc3 => ?_
    have kk3 : Kp O H H3 := k3.mono fun j _ e => e ▸ o1
    by_cases hz : s.fuse = 0
    · have hb2 : s.burn = ({ s with stopped := true }, false) := by simp [DS.burn, hz]
      rw [hb2] at hc3 ⊢
      simp only [unE_not, Pu_some, Bool.not_false, Ite_true]
      have := k H3 kk3
      rw [show s.barrier = ({ s with stopped := true }, 3) by simp [DS.barrier, hs, hz]] at this
      exact this ⟨⟨a, b, nows, helds, hc3, o1, o2, o3⟩, fun j hj => by rw [s3]; exact hlt j hj⟩
    · have hb2 : s.burn.2 = true := by simp [DS.burn, hz]
      have hnb : s.burn.1.n = s.n ∧ s.burn.1.now = s.now ∧ s.burn.1.held = s.held := by simp [DS.burn, hz]
      have hnl := hc.nl
      have hhl := hc.hl
      rw [hb2]
      simp only [unE_not, Pu_some, Bool.not_true, Ite_false]
      refine LoopP.mk (fun t H' => ∃ i : Nat, t.1 = .int .i64 i ∧ i ≤ nows.length ∧ Kp (fun j => blkOf b = some j) H3 H' ∧ H'.size = H3.size ∧ Sv 51 1024 H' b (nows.take i ++ helds.drop i))
        (fun t _ => match t.1 with | .int _ i => ((nows.length : Int) - i).toNat | _ => 0) ⟨0, rfl, by omega, Kp.refl _ _, rfl, by simpa using hc3.held⟩ ?_
      rintro ⟨t, u⟩ H4 ⟨i, ht, hi, k4, s4, hb4⟩
      simp only at ht
      subst ht
      have top4 := k4.at hc3.top fun e => (hc.d2 r e).1 rfl
      have now4 := hc3.now.kp k4 fun y hy e => (hc.d2 y e).2 hy
      simp only [load_cell top4, rd_get, Pu_some]
      rw [now4.lenE undBlks]
      simp only [Pu_some, binE_lss, Ite_dec]
      refine ⟨fun hl => ?_, fun hg => ?_⟩
      · have hil : i < nows.length := by omega
        have hx := List.getElem?_eq_getElem hil
        generalize nows[i] = x at hx
        have hxB := (hc.vn i x hx).2
        obtain ⟨bn, on, hadr, hld⟩ := now4.row hx
        have hlen : (nows.take i ++ helds.drop i).length = nows.length := by
          rw [List.length_append, List.length_take, List.length_drop]; omega
        obtain ⟨bh, oh, hbh, hadh, hput⟩ := hb4.put (K := fun H5 => Pu (binE (some (.int .i64)) .add (.int .i64 i) (.int .i64 1)) fun x22 => (∃ i : Nat, x22 = .int .i64 i ∧ i ≤ nows.length ∧ Kp (fun j => blkOf b = some j) H3 H5 ∧ H5.size = H3.size ∧ Sv 51 1024 H5 b (nows.take i ++ helds.drop i)) ∧ (match x22 with | .int _ i => ((nows.length : Int) - i).toNat | _ => 0) < ((nows.length : Int) - i).toNat) (i := i) (by omega) hxB.size hxB.ok
        simp only [hadr, hld, hadh, Pu_some]
        refine hput fun H5 k5 s5 hb5 => ?_
        rw [binE_add, i64wrap_id (by omega) (by omega), Pu_some]
        refine ⟨⟨i + 1, rfl, by omega, k4.trans (k5.mono fun j _ e => e ▸ hbh), s5.trans s4, ?_⟩, by show ((nows.length : Int) - (i + 1)).toNat < ((nows.length : Int) - i).toNat; omega⟩
        have e : (nows.take i ++ helds.drop i).set i x = nows.take (i + 1) ++ helds.drop (i + 1) := by
          apply List.ext_getElem?
          intro j
          rw [List.getElem?_set, List.getElem?_append, List.getElem?_append, List.length_take, List.length_take]
          by_cases h1 : i = j
          · subst h1
            rw [if_pos rfl, if_pos (by omega), if_pos (by omega), List.getElem?_take, if_pos (by omega), hx]
          · rw [if_neg h1]
            by_cases h2 : j < i
            · rw [if_pos (by omega), if_pos (by omega), List.getElem?_take, List.getElem?_take, if_pos h2, if_pos (by omega)]
            · rw [if_neg (by omega), if_neg (by omega), List.getElem?_drop, List.getElem?_drop]
              congr 1; omega
        rw [e] at hb5; exact hb5
      · have hie : i = nows.length := by omega
        subst hie
        rw [List.take_length, List.drop_eq_nil_of_le (by omega), List.append_nil] at hb4
        have := k H4 (kk3.trans (k4.mono fun j _ e => o3 j e))
        have hs2 : s.barrier = ({ s.burn.1 with held := s.now, pl := 0, hl := s.hl + 1 }, 0) := by simp only [DS.barrier, hs, Bool.false_eq_true, if_false, if_neg hz]
        rw [hs2] at this
        refine this ⟨⟨a, b, nows, nows, ?_, o1, o2, o3⟩, fun j hj => by rw [s4, s3]; exact hlt j hj⟩
        exact { top := top4, now := now4, held := hb4, nl := (by rw [hnl]; exact hnb.1.symm), hl := (by rw [hnl]; exact hnb.1.symm), vn := fun i y hy => (by show s.burn.1.now i = y ∧ IsB y; rw [hnb.2.1]; exact hc.vn i y hy), vh := hc.vn, d1 := hc.d1, d2 := hc.d2 }

/-- The power goes and comes, nothing that is pending is kept. -/
def DS.crash (s : DS) : DS := { s with now := s.held, stopped := false, fuse := -1, claim := 0, pl := 0, hl := 0 }
theorem rd_crash (h : RD H r s O) (hn : s.n ≤ 1048576) (k : ∀ H', Kp O H H' → RD H' r s.crash O → R (.tuple #[]) H') : Fc Try.prog 24 #[ptrV r] H R := by
  obtain ⟨⟨a, b, nows, helds, hc, o1, o2, o3⟩, hlt⟩ := h
  refine fn24 ?_
  simp only [sh24, Any_const]
  have hnl := hc.nl
  have hhl := hc.hl
  refine LoopP.mk (fun t H' => ∃ i : Nat, t.1 = .int .i64 i ∧ i ≤ nows.length ∧ Kp (fun j => blkOf a = some j) H H' ∧ H'.size = H.size ∧ Sv 51 1024 H' a (helds.take i ++ nows.drop i))
    (fun t _ => match t.1 with | .int _ i => ((nows.length : Int) - i).toNat | _ => 0) ⟨0, rfl, by omega, Kp.refl _ _, rfl, by simpa using hc.now⟩ ?_
  rintro ⟨t, u⟩ H4 ⟨i, ht, hi, k4, s4, hb4⟩
  simp only at ht
  subst ht
  have top4 := k4.at hc.top fun e => hc.d1 r e rfl
  have held4 := hc.held.kp k4 fun y hy e => (hc.d2 y hy).2 e
  have hlen : (helds.take i ++ nows.drop i).length = nows.length := by
    rw [List.length_append, List.length_take, List.length_drop]; omega
  simp only [nilCheckE, addr_ptr, Nat.zero_add, load_cell top4, rd_get, Pu_some]
  rw [hb4.lenE undBlks, hlen]
  simp only [Pu_some, binE_lss, Ite_dec]
  refine ⟨fun hl => ?_, fun hg => ?_⟩
  · have hil : i < helds.length := by omega
    have hx := List.getElem?_eq_getElem hil
    generalize helds[i] = x at hx
    have hxB := (hc.vh i x hx).2
    obtain ⟨bn, on, hadr, hld⟩ := held4.row hx
    obtain ⟨bh, oh, hbh, hadh, hput⟩ := hb4.put (K := fun H5 => Pu (binE (some (.int .i64)) .add (.int .i64 i) (.int .i64 1)) fun x22 => (∃ i : Nat, x22 = .int .i64 i ∧ i ≤ nows.length ∧ Kp (fun j => blkOf a = some j) H H5 ∧ H5.size = H.size ∧ Sv 51 1024 H5 a (helds.take i ++ nows.drop i)) ∧ (match x22 with | .int _ i => ((nows.length : Int) - i).toNat | _ => 0) < ((nows.length : Int) - i).toNat) (i := i) (by omega) hxB.size hxB.ok
    simp only [hadr, hld, hadh, Pu_some]
    refine hput fun H5 k5 s5 hb5 => ?_
    rw [binE_add, i64wrap_id (by omega) (by omega), Pu_some]
    refine ⟨⟨i + 1, rfl, by omega, k4.trans (k5.mono fun j _ e => e ▸ hbh), s5.trans s4, ?_⟩, by show ((nows.length : Int) - (i + 1)).toNat < ((nows.length : Int) - i).toNat; omega⟩
    have e : (helds.take i ++ nows.drop i).set i x = helds.take (i + 1) ++ nows.drop (i + 1) := by
      apply List.ext_getElem?
      intro j
      rw [List.getElem?_set, List.getElem?_append, List.getElem?_append, List.length_take, List.length_take]
      by_cases h1 : i = j
      · subst h1
        rw [if_pos rfl, if_pos (by omega), if_pos (by omega), List.getElem?_take, if_pos (by omega), hx]
      · rw [if_neg h1]
        by_cases h2 : j < i
        · rw [if_pos (by omega), if_pos (by omega), List.getElem?_take, List.getElem?_take, if_pos h2, if_pos (by omega)]
        · rw [if_neg (by omega), if_neg (by omega), List.getElem?_drop, List.getElem?_drop]
          congr 1; omega
    rw [e] at hb5; exact hb5
  · have hie : i = nows.length := by omega
    subst hie
    rw [List.drop_eq_nil_of_le (Nat.le_refl _), List.append_nil, List.take_of_length_le (by omega)] at hb4
    refine store_i top4 (by simp [rd_get]) rfl rfl fun H5 k5 s5 g5 => ?_
    have g5 : H5[r]? = some (.cells (rdC a b s.fuse false s.reads s.made) 65) := g5
    refine store_i g5 (by simp [rd_get]) rfl rfl fun H6 k6 s6 g6 => ?_
    have g6 : H6[r]? = some (.cells (rdC a b (-1) false s.reads s.made) 65) := g6
    refine k H6 ((k4.mono fun j _ e => o2 j e).trans ((k5.mono fun j _ e => e ▸ o1).trans (k6.mono fun j _ e => e ▸ o1))) ⟨⟨a, b, helds, helds, ?_, o1, o2, o3⟩, fun j hj => by rw [s6, s5, s4]; exact hlt j hj⟩
    exact { top := g6, now := (hb4.kp k5 fun y hy e => hc.d1 y hy e).kp k6 fun y hy e => hc.d1 y hy e, held := (held4.kp k5 fun y hy e => (hc.d2 y hy).1 e).kp k6 fun y hy e => (hc.d2 y hy).1 e, nl := hhl, hl := hhl, vn := hc.vh, vh := hc.vh, d1 := hc.d1, d2 := hc.d2 }
end
end Go.Vc

/- Ft, part H: the document's cache: its contracts. -/
set_option linter.unusedVariables false
set_option linter.unusedSimpArgs false
namespace Go.Vc
open Go.Proofs

def plC (x : Pl) : Array Value := #[.int .i64 x.at_] ++ x.data ++ #[.bool x.fast]
theorem plC_size {x : Pl} (h : IsB x.data) : (plC x).size = 1026 := by simp [plC, h.size]
theorem plC_at {x : Pl} : (plC x)[0]? = some (.int .i64 x.at_) := by
  unfold plC; rw [Array.getElem?_append_left (by simp; omega), Array.getElem?_append_left (by simp)]; rfl
theorem plC_fast {x : Pl} (h : IsB x.data) : (plC x)[1025]? = some (.bool x.fast) := by
  unfold plC
  have := h.size
  rw [Array.getElem?_append_right (by simp; omega)]
  simp [h.size]
theorem plC_data {x : Pl} (h : IsB x.data) : (plC x).extract 1 (1 + 1024) = x.data := by
  refine ext_of_get h.size (by rw [plC_size h]; omega) fun j hj => ?_
  unfold plC
  have := h.size
  rw [Array.getElem?_append_left (by simp; omega), Array.getElem?_append_right (by simp)]
  congr 1; simp
theorem plC_ok {x : Pl} (h : IsB x.data) : cellsOk (plC x) := by
  unfold cellsOk plC
  rw [Array.all_append, Array.all_append, h.all]
  simp [Value.oneCell']
theorem plC_other {x : Pl} (h : IsB x.data) {b : Bool} {j : Nat} (hj : j ≠ 1025) : (plC x)[j]? = (plC { x with fast := b })[j]? := by
  have hs := h.size
  by_cases h1 : j < 1025
  · have e1 : ∀ v : Value, ((#[Value.int .i64 x.at_] ++ x.data) ++ #[v])[j]? = (#[Value.int .i64 x.at_] ++ x.data)[j]? := fun v => Array.getElem?_append_left (by simp; omega)
    exact (e1 _).trans (e1 _).symm
  · rw [Array.getElem?_eq_none (by rw [plC_size h]; omega), Array.getElem?_eq_none (by rw [plC_size (x := { x with fast := b }) h]; omega)]
theorem plC_calm {x : Pl} (h : IsB x.data) : (plC x).setIfInBounds 1025 (.bool false) = plC { x with fast := false } := by
  have := h.size
  apply Array.ext_getElem?
  intro j
  rw [Array.getElem?_setIfInBounds, plC_size h]
  by_cases hj : 1025 = j
  · subst hj
    rw [if_pos rfl, if_pos (by omega)]
    exact (plC_fast (x := { x with fast := false }) h).symm
  · rw [if_neg hj]
    exact plC_other h (fun e => hj e.symm)
noncomputable def ePla : ElemI := orE (elemI Try.prog 84)
set_option maxRecDepth 100000 in
theorem elPla : elemI Try.prog 84 = some ePla := by kernel_rfl
set_option maxRecDepth 100000 in
theorem ePla_f : ePla.type = 88 ∧ ePla.size = 1026 ∧ ePla.zero.size = 1026 ∧ ePla.bytes = 1040 := ⟨by kernel_rfl, by kernel_rfl, by kernel_rfl, by kernel_rfl⟩
theorem undPlas : Try.prog.underlying 84 = some (.slice 88) := by kernel_rfl
set_option maxRecDepth 100000 in
theorem infPla : (Try.prog.info? 88).map (·.size) = some 1026 := by kernel_rfl
noncomputable def zPla : Array Value := aggOf (zeroE Try.prog 88)
set_option maxRecDepth 100000 in
theorem zeroPla : zeroE Try.prog 88 = some (.agg zPla) := by kernel_rfl
set_option maxRecDepth 100000 in
theorem zPla_size : zPla.size = 1026 := by kernel_rfl
set_option maxRecDepth 100000 in
theorem zPla_fast : zPla[1025]? = some (.bool false) := by kernel_rfl
set_option maxRecDepth 100000 in
theorem plcPla : placesE Try.prog 88 = some [(0, 1), (1, 1024), (1025, 1)] := by kernel_rfl
theorem pla_splice {a : Int} {d : Blk} (hd : IsB d) : splice (splice zPla 0 (Value.int .i64 a).cells) 1 (Value.agg d).cells = plC ⟨a, d, false⟩ := by
  have hs := hd.size
  have q1 : (splice zPla 0 (Value.int .i64 a).cells).size = 1026 := by rw [splice_size (by rw [zPla_size, cells_int]; simp), zPla_size]
  apply Array.ext_getElem?
  intro j
  rw [splice_get (by rw [q1, cells_agg, hs]; omega), splice_get (by rw [zPla_size, cells_int]; simp), cells_agg, cells_int, hs]
  simp only [List.size_toArray, List.length_cons, List.length_nil]
  by_cases h0 : j = 0
  · subst h0
    rw [if_pos (by omega), if_neg (by omega), if_pos (by omega), plC_at]; rfl
  · by_cases h1 : j < 1025
    · rw [if_neg (by omega), if_pos (by omega)]
      unfold plC
      rw [Array.getElem?_append_left (by simp; omega), Array.getElem?_append_right (by simp; omega)]
      congr 1
    · rw [if_neg (by omega), if_neg (by omega), if_neg (by omega), if_neg (by omega)]
      by_cases h2 : j = 1025
      · subst h2; rw [zPla_fast, plC_fast (x := ⟨a, d, false⟩) hd]
      · rw [Array.getElem?_eq_none (by rw [zPla_size]; omega), Array.getElem?_eq_none (by rw [plC_size (x := ⟨a, d, false⟩) hd]; omega)]
theorem build_pla {a : Int} {d : Blk} (hd : IsB d) : buildE Try.prog 88 [(0, .int .i64 a), (1, .agg d)] = some (.agg (plC ⟨a, d, false⟩)) := by
  refine build_struct zeroPla plcPla ?_
  refine fillS_cons rfl rfl (by rw [zPla_size]; omega) ?_
  refine fillS_cons rfl hd.size (by rw [splice_size (by rw [zPla_size, cells_int]; simp), zPla_size]; omega) ?_
  rw [pla_splice hd]; rfl
theorem build_plaT {a : Int} {d : Blk} (hd : IsB d) : buildE Try.prog 88 [(0, .int .i64 a), (1, .agg d), (2, .bool true)] = some (.agg (plC ⟨a, d, true⟩)) := by
  refine build_struct zeroPla plcPla ?_
  refine fillS_cons rfl rfl (by rw [zPla_size]; omega) ?_
  refine fillS_cons rfl hd.size (by rw [splice_size (by rw [zPla_size, cells_int]; simp), zPla_size]; omega) ?_
  rw [pla_splice hd]
  have h1 := plC_size (x := ⟨a, d, false⟩) hd
  refine fillS_cons rfl rfl (by rw [h1]; omega) ?_
  show some _ = some _
  rw [cells_bool, splice_one (by rw [h1]; omega)]
  congr 1
  apply Array.ext_getElem?
  intro j
  have hs := hd.size
  rw [Array.getElem?_setIfInBounds, h1]
  by_cases hj : 1025 = j
  · subst hj
    rw [if_pos rfl, if_pos (by omega)]
    exact (plC_fast (x := ⟨a, d, true⟩) hd).symm
  · rw [if_neg hj]
    exact plC_other (x := ⟨a, d, false⟩) (b := true) hd (fun e => hj e.symm)

def rcC (r : Nat) (size : Int) (sl : Value) : Array Value := #[ptrV r, .int .i64 size, sl]
theorem rc_get {r : Nat} {size : Int} {sl : Value} : (rcC r size sl)[0]? = some (ptrV r) ∧ (rcC r size sl)[1]? = some (.int .i64 size) ∧ (rcC r size sl)[2]? = some sl ∧ (rcC r size sl).size = 3 := ⟨rfl, rfl, rfl, rfl⟩
theorem build_rc (r : Nat) (size : Int) : buildE Try.prog 86 [(0, ptrV r), (1, .int .i64 size)] = some (.agg (rcC r size (.slice none 0 0))) := by kernel_rfl
structure RcC (H : Hp) (c r : Nat) (size : Int) (cs : List Pl) (sl : Value) : Prop where
  top : H[c]? = some (.cells (rcC r size sl) 86)
  row : Sv 88 1026 H sl (cs.map plC)
  isB : ∀ x ∈ cs, IsB x.data
  d : ∀ x, blkOf sl = some x → x ≠ c
/-- The document's cache, within the blocks O. -/
structure RC (H : Hp) (c r : Nat) (size : Int) (cs : List Pl) (O : Nat → Prop) : Prop where
  is : ∃ sl, RcC H c r size cs sl ∧ O c ∧ ∀ x, blkOf sl = some x → O x
  lt : ∀ b, O b → b < H.size
section
variable {H H' : Hp} {c r : Nat} {size : Int} {cs : List Pl} {O O' : Nat → Prop} {sl : Value}
theorem RcC.of (h : RcC H c r size cs sl) (h0 : H'[c]? = H[c]?) (h1 : ∀ x, blkOf sl = some x → H'[x]? = H[x]?) : RcC H' c r size cs sl :=
  { h with top := by rw [h0]; exact h.top, row := h.row.of h1 }
theorem RC.frame (h : RC H c r size cs O) (hb : ∀ b, O b → H'[b]? = H[b]?) (hO : ∀ b, O b → O' b) (hl : ∀ b, O' b → b < H'.size) : RC H' c r size cs O' := by
  obtain ⟨⟨sl, hc, o1, o2⟩, _⟩ := h
  exact ⟨⟨sl, hc.of (hb _ o1) (fun x e => hb _ (o2 x e)), hO _ o1, fun x e => hO _ (o2 x e)⟩, hl⟩
theorem RC.ext (h : RC H c r size cs O) (e : Ext H H') : RC H' c r size cs O := h.frame (fun b hb => e.same b (h.lt b hb)) (fun b hb => hb) fun b hb => Nat.lt_of_lt_of_le (h.lt b hb) e.le
theorem RC.kp {S : Nat → Prop} (h : RC H c r size cs O) (k : Kp S H H') (hs : ∀ b, O b → ¬ S b) : RC H' c r size cs O := h.frame (fun b hb => k.same b (h.lt b hb) (hs b hb)) (fun b hb => hb) fun b hb => Nat.lt_of_lt_of_le (h.lt b hb) k.le
end

def fIdx (cs : List Pl) (a : Int) : Option Nat := cs.findIdx? fun x => x.at_ == a
def idxI : Option Nat → Int
  | some i => i
  | none => -1
theorem fIdx_step {cs : List Pl} {a : Int} {i : Nat} (h : ∀ j x, j < i → cs[j]? = some x → x.at_ ≠ a) : (∀ x, cs[i]? = some x → x.at_ = a → fIdx cs a = some i) ∧ (cs.length ≤ i → fIdx cs a = none) := by
  constructor
  · intro x hx ha
    unfold fIdx
    rw [List.findIdx?_eq_some_iff_getElem]
    have hlt : i < cs.length := by
      rcases Nat.lt_or_ge i cs.length with h1 | h1
      · exact h1
      · rw [List.getElem?_eq_none h1] at hx; cases hx
    refine ⟨hlt, ?_, fun j hj => ?_⟩
    · rw [List.getElem?_eq_getElem hlt] at hx
      injection hx with hx
      rw [hx]; simpa using ha
    · have := h j cs[j] hj (List.getElem?_eq_getElem (by omega))
      simpa using this
  · intro hl
    unfold fIdx
    rw [List.findIdx?_eq_none_iff]
    intro x hx
    obtain ⟨j, hj⟩ := List.mem_iff_getElem?.1 hx
    have hlt : j < cs.length := by
      rcases Nat.lt_or_ge j cs.length with h1 | h1
      · exact h1
      · rw [List.getElem?_eq_none h1] at hj; cases hj
    have := h j x (by omega) hj
    simpa using this
theorem fIdx_some {cs : List Pl} {a : Int} {i : Nat} (h : fIdx cs a = some i) : ∃ l1 x l2, cs = l1 ++ x :: l2 ∧ l1.length = i ∧ x.at_ = a ∧ (∀ y ∈ l1, y.at_ ≠ a) ∧ findP cs a = some x ∧ outP cs a = l1 ++ l2 := by
  unfold fIdx at h
  rw [List.findIdx?_eq_some_iff_getElem] at h
  obtain ⟨hlt, h1, h2⟩ := h
  have hcs : cs = cs.take i ++ cs[i] :: cs.drop (i + 1) := by rw [List.getElem_cons_drop, List.take_append_drop]
  have ha : cs[i].at_ = a := by simpa using h1
  clear h1
  obtain ⟨x, hx⟩ : ∃ x, x = cs[i] := ⟨_, rfl⟩
  rw [← hx] at hcs ha
  have hl1 : ∀ y ∈ cs.take i, y.at_ ≠ a := fun y hy => by
    obtain ⟨j, hj⟩ := List.mem_iff_getElem?.1 hy
    rw [List.getElem?_take] at hj
    split at hj
    · rename_i hji
      rw [List.getElem?_eq_getElem (by omega)] at hj
      injection hj with hj
      have := h2 j hji
      rw [hj] at this
      simpa using this
    · cases hj
  refine ⟨cs.take i, x, cs.drop (i + 1), hcs, by rw [List.length_take]; omega, ha, hl1, ?_, ?_⟩
  · unfold findP
    conv => lhs; rw [hcs]
    rw [List.find?_append, List.find?_eq_none.2 fun y hy => by have := hl1 y hy; simpa using this]
    simp [ha]
  · unfold outP
    conv => lhs; rw [hcs]
    exact eraseP_mid (fun y hy => by have := hl1 y hy; simpa using this) (by simpa using ha)
theorem fIdx_none {cs : List Pl} {a : Int} (h : fIdx cs a = none) : findP cs a = none ∧ outP cs a = cs := by
  unfold fIdx at h
  rw [List.findIdx?_eq_none_iff] at h
  refine ⟨?_, ?_⟩
  · unfold findP
    rw [List.find?_eq_none]
    exact fun x hx => by rw [h x hx]; decide
  · unfold outP
    exact List.eraseP_of_forall_not fun x hx => by rw [h x hx]; decide

section
variable {H : Hp} {c r : Nat} {size : Int} {cs : List Pl} {O : Nat → Prop} {R : Value → Hp → Prop} {sl : Value}
theorem row_cell (h : RcC H c r size cs sl) {i : Nat} {x : Pl} (hi : cs[i]? = some x) : ∃ b o, (∀ k, idxAddrE (some (none, 1026)) sl (.int k i) = some (.pointer (some ⟨b, o, none⟩))) ∧ loadE (some none) (.pointer (some ⟨b, o, none⟩)) H = some (.int .i64 x.at_) ∧
    loadE (some none) (.pointer (some ⟨b, o + 1025, none⟩)) H = some (.bool x.fast) ∧ loadE (some (some 1024)) (.pointer (some ⟨b, o + 1, none⟩)) H = some (.agg x.data) ∧ loadE (some (some 1026)) (.pointer (some ⟨b, o, none⟩)) H = some (.agg (plC x)) := by
  have hB := h.isB x (List.mem_of_getElem? hi)
  obtain ⟨b, o, cells, hbk, hg, hsz, hx, ha⟩ := h.row.elem (i := i) (v := plC x) (by rw [List.getElem?_map, hi]; rfl)
  refine ⟨b, o, ha, ?_, ?_, ?_, ?_⟩
  · rw [load_cell hg]
    have := extract_get hx hsz (j := 0) (by omega)
    rw [Nat.add_zero] at this
    rw [this, plC_at]
  · rw [load_cell hg, extract_get hx hsz (j := 1025) (by omega), plC_fast hB]
  · rw [load_row hg (by omega)]
    have : cells.extract (o + 1) (o + 1 + 1024) = x.data := by
      refine ext_of_get hB.size (by omega) fun j hj => ?_
      have h1 := extract_get hx hsz (j := 1 + j) (by omega)
      have h2 := extract_get (plC_data hB) (by rw [plC_size hB]; omega) hj
      rw [show o + 1 + j = o + (1 + j) by omega, h1, h2]
    rw [this]
  · rw [load_row hg hsz, hx]
theorem rc_find (h : RcC H c r size cs sl) (hl : cs.length ≤ 1099511627776) {a : Int} (k : R (.int .i64 (idxI (fIdx cs a))) H) : Fc Try.prog 52 #[ptrV c, .int .i64 a] H R := by
  refine fn52 ?_
  simp only [sh52, Any_const, nilCheckE, Pu_some, addr_ptr, Nat.zero_add]
  refine LoopP.mk (fun t H' => H' = H ∧ ∃ i : Nat, t.1 = .int .i64 i ∧ i ≤ cs.length ∧ ∀ j x, j < i → cs[j]? = some x → x.at_ ≠ a) (fun t _ => match t.1 with | .int _ i => ((cs.length : Int) - i).toNat | _ => 0) ⟨rfl, 0, rfl, by omega, fun j x hj => by omega⟩ ?_
  rintro ⟨t, u⟩ H1 ⟨rfl, i, ht, hi, hall⟩
  simp only at ht
  subst ht
  obtain ⟨f1, f2⟩ := fIdx_step hall
  simp only [load_cell h.top, rc_get, Pu_some]
  rw [h.row.lenE undPlas, List.length_map]
  simp only [Pu_some, binE_lss, Ite_dec]
  refine ⟨fun hlt => ?_, fun hge => ?_⟩
  · have hx := List.getElem?_eq_getElem (l := cs) (i := i) (by omega)
    generalize cs[i] = x at hx
    obtain ⟨b, o, ha, hl1, _⟩ := row_cell h hx
    simp only [ha, Pu_some, addr_ptr, Nat.add_zero, hl1, binE_eql, Ite_dec]
    refine ⟨fun he => ?_, fun hne => ?_⟩
    · rw [f1 x hx he] at k; exact k
    · rw [binE_add, i64wrap_id (by omega) (by omega), Pu_some]
      refine ⟨⟨trivial, i + 1, rfl, by omega, fun j y hj hy => ?_⟩, by show ((cs.length : Int) - (i + 1)).toNat < ((cs.length : Int) - i).toNat; omega⟩
      by_cases h1 : j = i
      · subst h1; rw [hx] at hy; injection hy with hy; subst hy; exact hne
      · exact hall j y (by omega) hy
  · rw [f2 (by omega)] at k; exact k
theorem rc_fast (h : RcC H c r size cs sl) (hl : cs.length ≤ 1099511627776) (k : R (.int .i64 (fastP cs)) H) : Fc Try.prog 19 #[ptrV c] H R := by
  refine fn19 ?_
  simp only [sh19, Any_const, nilCheckE, Pu_some, addr_ptr, Nat.zero_add]
  refine LoopP.mk (fun t H' => H' = H ∧ ∃ i : Nat, t.1 = .int .i64 (fastP (cs.take i)) ∧ t.2.1 = .int .i64 i ∧ i ≤ cs.length) (fun t _ => match t.2.1 with | .int _ i => ((cs.length : Int) - i).toNat | _ => 0) ⟨rfl, 0, rfl, rfl, by omega⟩ ?_
  rintro ⟨t1, t2, u⟩ H1 ⟨rfl, i, ht1, ht2, hi⟩
  simp only at ht1 ht2
  subst ht1 ht2
  simp only [load_cell h.top, rc_get, Pu_some]
  rw [h.row.lenE undPlas, List.length_map]
  simp only [Pu_some, binE_lss, Ite_dec]
  refine ⟨fun hlt => ?_, fun hge => ?_⟩
  · have hx := List.getElem?_eq_getElem (l := cs) (i := i) (by omega)
    generalize cs[i] = x at hx
    obtain ⟨b, o, ha, _, hl2, _⟩ := row_cell h hx
    have ht : cs.take (i + 1) = cs.take i ++ [x] := by rw [List.take_add_one, hx]; rfl
    have hf := fastP_le (cs.take i)
    rw [List.length_take] at hf
    have hf1 : fastP (cs.take (i + 1)) = fastP (cs.take i) + if x.fast then 1 else 0 := by rw [ht, fastP_app, fastP_cons, fastP_nil]; omega
    simp only [ha, Pu_some, addr_ptr, hl2, Ite_bool]
    refine ⟨fun he => ?_, fun hne => ?_⟩
    · rw [binE_add, i64wrap_id (by omega) (by omega), Pu_some, binE_add, i64wrap_id (by omega) (by omega), Pu_some]
      refine ⟨⟨trivial, i + 1, ?_, rfl, by omega⟩, by show ((cs.length : Int) - (i + 1)).toNat < ((cs.length : Int) - i).toNat; omega⟩
      rw [hf1, if_pos he]
    · rw [binE_add, i64wrap_id (by omega) (by omega), Pu_some]
      refine ⟨⟨trivial, i + 1, ?_, rfl, by omega⟩, by show ((cs.length : Int) - (i + 1)).toNat < ((cs.length : Int) - i).toNat; omega⟩
      rw [hf1, hne]; simp
  · have hie : i = cs.length := by omega
    subst hie
    rw [List.take_length]; exact k
/-- The block at a place of the row leaves it. -/
theorem rc_leave (h : RC H c r size cs O) (hl : cs.length ≤ 1048576) {i : Nat} (hi : i < cs.length)
    (k : ∀ H' O', Kp O H H' → (∀ b, O' b → O b ∨ H.size ≤ b) → RC H' c r size (cs.take i ++ cs.drop (i + 1)) O' → R (.tuple #[]) H') : Fc Try.prog 55 #[ptrV c, .int .i64 i] H R := by
  obtain ⟨⟨sl, hc, o1, o2⟩, hlt⟩ := h
  have q := ePla_f
  refine fn55 ?_
  simp only [sh55, nilCheckE, Pu_some, addr_ptr, Nat.zero_add, load_cell hc.top, rc_get, elPla]
  cases hinf : Try.prog.info? 88 with
  | none => have := infPla; rw [hinf] at this; cases this
  | some inf =>
    have hsz : inf.size = 1026 := by have := infPla; rw [hinf] at this; simpa using this
    have hok : ∀ l : List Pl, (∀ x ∈ l, x ∈ cs) → ∀ u ∈ l.map plC, cellsOk u := fun l hs u hu => by
      obtain ⟨x, hx, rfl⟩ := List.mem_map.1 hu
      exact plC_ok (hc.isB x (hs x hx))
    have hml : (cs.map plC).length = cs.length := List.length_map ..
    obtain ⟨s1, e1, h1, _⟩ := hc.row.slice undPlas hinf hsz (lo := 0) (hi' := i) (by omega) (by omega) none (some (.int .i64 i)) (.inr ⟨rfl, rfl⟩) (.inl rfl)
    rw [e1, Pu_some]
    rw [List.drop_zero, ← List.map_take] at h1
    refine Sv.app_nil q.1 q.2.1 q.2.2.1 (by rw [q.2.2.2]; decide) h1 (hok _ fun x hx => List.mem_of_mem_take hx) (by rw [q.2.2.2, List.length_map, List.length_take]; omega) fun s2 H1 h2 x1 n1 => ?_
    rw [load_cell (x1.at hc.top)]
    simp only [rc_get, Pu_some]
    rw [binE_add, i64wrap_id (by omega) (by omega), Pu_some]
    have hrow1 := hc.row.ext x1
    obtain ⟨s3, e3, h3, _⟩ := hrow1.slice undPlas hinf hsz (lo := i + 1) (hi' := cs.length) (by omega) (by omega) (some (.int .i64 (i + 1 : Nat))) none (.inl rfl) (.inr ⟨rfl, by rw [hml]⟩)
    have e3' : sliceE Try.prog 84 sl (some (.int .i64 (i + 1))) none none = some s3 := e3
    rw [e3', Pu_some]
    rw [List.take_of_length_le (by omega), ← List.map_drop] at h3
    refine app_many q.1 q.2.1 q.2.2.1 (by rw [q.2.2.2]; decide) h2 h3 (hok _ fun x hx => List.mem_of_mem_drop hx) (by rw [q.2.2.2, List.length_map, List.length_map, List.length_take, List.length_drop]; omega) fun s4 H2 h4 k2 n2 => ?_
    have hn2 : ∀ b, blkOf s4 = some b → H.size ≤ b := fun b hb => by
      rcases n2 b hb with h5 | h5
      · exact n1 b h5
      · have := x1.le; omega
    have hcl := hlt c o1
    have top2 := k2.at (x1.at hc.top) fun e => by have := n1 c e; omega
    refine store_i top2 (by simp [rc_get]) h4.one.2 h4.one.1 fun H3 k3 t3 g3 => ?_
    have g3 : H3[c]? = some (.cells (rcC r size s4) 86) := g3
    refine k H3 (fun b => O b ∨ blkOf s4 = some b) ⟨by have := x1.le; have := k2.le; omega, fun b hb hn => ?_⟩ (fun b hb => hb.elim .inl fun e => .inr (hn2 b e)) ⟨⟨s4, ⟨g3, ?_, fun x hx => ?_, fun x hx => ?_⟩, .inl o1, fun x e => .inr e⟩, fun b hb => ?_⟩
    · rw [k3.same b (by have := x1.le; have := k2.le; omega) (fun e => hn (e ▸ o1)), k2.same b (by have := x1.le; omega) (fun e => by have := n1 b e; omega), x1.same b hb]
    · rw [List.map_append]
      exact h4.kp k3 fun b hb e => by have := hn2 b hb; omega
    · rcases List.mem_append.1 hx with h5 | h5
      · exact hc.isB x (List.mem_of_mem_take h5)
      · exact hc.isB x (List.mem_of_mem_drop h5)
    · have := hn2 x hx; omega
    · rcases hb with h5 | h5
      · have := hlt b h5; have := x1.le; have := k2.le; omega
      · have := h4.lt h5; omega
/-- A block is the last of the row. -/
theorem rc_last (h : RC H c r size cs O) (hl : cs.length ≤ 1048575) {x : Pl} (hx : IsB x.data)
    (k : ∀ H' O', Kp O H H' → (∀ b, O' b → O b ∨ H.size ≤ b) → RC H' c r size (outP cs x.at_ ++ [x]) O' → R (.tuple #[]) H') : Fc Try.prog 53 #[ptrV c, .agg (plC x)] H R := by
  have q := ePla_f
  have hps := plC_size hx
  refine fn53 ?_
  simp only [sh53, Any_const, ForX_true]
  refine box_i fun b1 H1 hb1 e1 t1 g1 => ?_
  simp only [cells_agg] at g1
  have h1 := h.ext e1
  have hnb : ¬ O b1 := fun ho => by have := h.lt b1 ho; omega
  simp only [addr_ptr, Nat.zero_add, Nat.add_zero, Pu_some, load_cell g1, plC_at]
  have h1' := h1
  obtain ⟨⟨sl, hc, o1, o2⟩, hlt⟩ := h1'
  refine rc_find hc (by omega) ?_
  refine Join.mk (fun _ H' => ∃ O', Kp O H1 H' ∧ (∀ b, O' b → O b ∨ H1.size ≤ b) ∧ RC H' c r size (outP cs x.at_) O') ?_ ?_
  · rintro _ H3 ⟨O', k3, n3, h3⟩
    obtain ⟨⟨sl3, hc3, p1, p2⟩, hlt3⟩ := h3
    have g3 := k3.at g1 hnb
    have hl3 := load_all g3 hps
    simp only [nilCheckE, addr_ptr, Nat.zero_add, Pu_some, load_cell hc3.top, rc_get, hl3, elPla]
    intro H4 e4
    rw [newS_one (by rw [q.2.1]; decide) (by rw [q.2.1]; decide) (by rw [cells_agg, hps, q.2.1]), Pu_some]
    refine newS_i fun b5 H5 hb5 e5 t5 g5 => ?_
    intro H6 e6
    have hout : (outP cs x.at_).length ≤ cs.length := List.length_eraseP_le
    refine app_many (us := [plC x]) q.1 q.2.1 q.2.2.1 (by rw [q.2.2.2]; decide) (hc3.row.ext (e4.trans (e5.trans e6))) (Sv.single (e6.at g5) hps) (fun u hu => by have := List.mem_singleton.1 hu; subst this; exact plC_ok hx) (by rw [q.2.2.2, List.length_map]; simp only [List.length_cons, List.length_nil]; omega) fun s7 H7 h7 k7 n7 => ?_
    intro H8 e8
    have e36 := e4.trans (e5.trans e6)
    have top8 := e8.at (k7.at (e36.at hc3.top) fun e => hc3.d c e rfl)
    refine store_i top8 (by simp [rc_get]) h7.one.2 h7.one.1 fun H9 k9 t9 g9 => ?_
    have g9 : H9[c]? = some (.cells (rcC r size s7) 86) := g9
    intro H10 e10
    have s3c : c < H3.size := hlt3 c p1
    have hd7 : ∀ b, blkOf s7 = some b → b ≠ c := fun b hb => by
      rcases n7 b hb with h5 | h5
      · exact hc3.d b h5
      · have := e36.le; omega
    have le37 : H3.size ≤ H7.size := Nat.le_trans e36.le k7.le
    have le310 : H3.size ≤ H10.size := by have := e8.le; have := e10.le; omega
    have Ok : ∀ b, b < H1.size → ¬ O b → ¬ O' b := fun b hb hn ho => by
      rcases n3 b ho with h5 | h5
      · exact hn h5
      · omega
    refine k H10 (fun b => O' b ∨ blkOf s7 = some b) ⟨by have := e1.le; have := k3.le; omega, fun b hb hn => ?_⟩ (fun b hb => ?_) ⟨⟨s7, ⟨e10.at g9, ?_, fun y hy => ?_, hd7⟩, .inl p1, fun y e => .inr e⟩, fun b hb => ?_⟩
    · have hb1' : b < H1.size := Nat.lt_of_lt_of_le hb e1.le
      have hb3 : b < H3.size := Nat.lt_of_lt_of_le hb1' k3.le
      have hO' := Ok b hb1' hn
      rw [e10.same b (by have := e8.le; omega), k9.same b (by have := e8.le; omega) (fun e => hO' (e ▸ p1)), e8.same b (by omega), k7.same b (by have := e36.le; omega) (fun e => hO' (p2 b e)), e36.same b hb3, k3.same b hb1' hn, e1.same b hb]
    · have key : ∀ b, O' b → O b ∨ H.size ≤ b := fun b ho => by
        rcases n3 b ho with h5 | h5
        · exact .inl h5
        · have := e1.le; exact .inr (by omega)
      rcases hb with h5 | h5
      · exact key b h5
      · rcases n7 b h5 with h6 | h6
        · exact key b (p2 b h6)
        · have := e36.le; have := k3.le; have := e1.le; exact .inr (by omega)
    · rw [List.map_append]
      exact (((h7.ext e8).kp k9 fun b hb e => hd7 b hb e)).ext e10
    · rcases List.mem_append.1 hy with h5 | h5
      · exact hc3.isB y h5
      · simp only [List.mem_singleton] at h5; rw [h5]; exact hx
    · rcases hb with h5 | h5
      · have := hlt3 b h5; omega
      · have := h7.lt h5; have := e8.le; have := e10.le; omega
  · cases hf : fIdx cs x.at_ with
    | none =>
      simp only [idxI, binE_geq, Pu_some, Ite_dec]
      refine ⟨fun h => absurd h (by omega), fun _ => ⟨O, Kp.refl _ _, fun b hb => .inl hb, ?_⟩⟩
      rw [(fIdx_none hf).2]; exact h1
    | some i =>
      obtain ⟨l1, y, l2, hcs, hli, _, _, _, hout⟩ := fIdx_some hf
      simp only [idxI, binE_geq, Pu_some, Ite_dec]
      refine ⟨fun _ => ?_, fun h => absurd h (by omega)⟩
      refine rc_leave h1 (by omega) (i := i) (by rw [hcs]; simp; omega) fun H2 O' k2 n2 h2 => ⟨O', k2, n2, ?_⟩
      have e : cs.take i ++ cs.drop (i + 1) = outP cs x.at_ := by
        rw [hout]
        conv => lhs; rw [hcs]
        rw [List.take_left' hli]
        congr 1
        rw [show l1 ++ y :: l2 = (l1 ++ [y]) ++ l2 by simp]
        exact List.drop_left' (by simp [hli])
      rw [e] at h2; exact h2
end
end Go.Vc

/- Ft, part I: the document's cache: reads, puts, flushes. -/
set_option linter.unusedVariables false
set_option linter.unusedSimpArgs false
namespace Go.Vc
open Go.Proofs

def placeP (size : Int) (cs : List Pl) : List Pl := if (cs.length : Int) < size then cs else cs.eraseP fun x => !x.fast
theorem placeP_len (size : Int) (cs : List Pl) : (placeP size cs).length ≤ cs.length := by
  unfold placeP
  split
  · exact Nat.le_refl _
  · exact List.length_eraseP_le
theorem placeP_sub {size : Int} {cs : List Pl} {x : Pl} (h : x ∈ placeP size cs) : x ∈ cs := by
  unfold placeP at h
  split at h
  · exact h
  · exact List.mem_of_mem_eraseP h
theorem roomP_place {size : Int} {cs : List Pl} (h : fastP cs < size) : roomP size cs = some (placeP size cs) := by
  unfold roomP placeP
  rw [if_neg (by omega)]
  split <;> rfl
theorem outP_none {cs : List Pl} {a : Int} (h : ∀ x ∈ cs, x.at_ ≠ a) : outP cs a = cs := by
  unfold outP
  exact List.eraseP_of_forall_not fun x hx => by have := h x hx; simpa using this

section
variable {H : Hp} {c r : Nat} {size : Int} {cs : List Pl} {O Od Oc : Nat → Prop} {R : Value → Hp → Prop} {sl : Value} {s : DS}
theorem rc_place (h : RC H c r size cs O) (hl : cs.length ≤ 1048575)
    (k : ∀ H' O', Kp O H H' → (∀ b, O' b → O b ∨ H.size ≤ b) → RC H' c r size (placeP size cs) O' → R (.tuple #[]) H') : Fc Try.prog 54 #[ptrV c] H R := by
  have h0 := h
  obtain ⟨⟨sl, hc, o1, o2⟩, hlt⟩ := h
  refine fn54 ?_
  simp only [sh54, Any_const, nilCheckE, Pu_some, addr_ptr, Nat.zero_add, load_cell hc.top, rc_get]
  rw [hc.row.lenE undPlas, List.length_map]
  simp only [Pu_some, binE_lss, Ite_dec]
  refine ⟨fun hlt => ?_, fun hge => ?_⟩
  · have := k H O (Kp.refl _ _) fun b hb => .inl hb
    unfold placeP at this
    rw [if_pos hlt] at this
    exact this h0
  · have hp : placeP size cs = cs.eraseP fun x => !x.fast := by unfold placeP; rw [if_neg hge]
    refine LoopP.mk (fun t H' => H' = H ∧ ∃ i : Nat, t.1 = .int .i64 i ∧ i ≤ cs.length ∧ ∀ y ∈ cs.take i, y.fast = true) (fun t _ => match t.1 with | .int _ i => ((cs.length : Int) - i).toNat | _ => 0) ⟨rfl, 0, rfl, by omega, fun y hy => (by simp at hy)⟩ ?_
    rintro ⟨t, u⟩ H1 ⟨rfl, i, ht, hi, hall⟩
    simp only at ht
    subst ht
    simp only [load_cell hc.top, rc_get, Pu_some]
    rw [hc.row.lenE undPlas, List.length_map]
    simp only [Pu_some, binE_lss, Ite_dec]
    refine ⟨fun hlt2 => ?_, fun hge2 => ?_⟩
    · have hx := List.getElem?_eq_getElem (l := cs) (i := i) (by omega)
      generalize cs[i] = x at hx
      obtain ⟨b, o, ha, _, hl2, _⟩ := row_cell hc hx
      simp only [ha, Pu_some, addr_ptr, hl2, unE_not, Ite_not]
      have hsplit : cs = cs.take i ++ x :: cs.drop (i + 1) := by
        conv => lhs; rw [← List.take_append_drop i cs]
        congr 1
        rw [List.drop_eq_getElem_cons (by omega)]
        congr 1
        rw [List.getElem?_eq_getElem (by omega)] at hx
        injection hx
      refine ⟨fun hf => ?_, fun hf => ?_⟩
      · refine rc_leave h0 (by omega) (i := i) (by omega) fun H2 O' k2 n2 h2 => ?_
        have e : cs.take i ++ cs.drop (i + 1) = placeP size cs := by
          rw [hp]
          conv => rhs; rw [hsplit]
          exact (eraseP_mid (fun y hy => by rw [hall y hy]; rfl) (by rw [hf]; rfl)).symm
        rw [e] at h2
        exact k H2 O' k2 n2 h2
      · rw [binE_add, i64wrap_id (by omega) (by omega), Pu_some]
        refine ⟨⟨trivial, i + 1, rfl, by omega, fun y hy => ?_⟩, by show ((cs.length : Int) - (i + 1)).toNat < ((cs.length : Int) - i).toNat; omega⟩
        rw [List.take_add_one, hx] at hy
        rcases List.mem_append.1 hy with h1 | h1
        · exact hall y h1
        · simp only [Option.toList_some, List.mem_singleton] at h1; rw [h1]; exact hf
    · have hie : i = cs.length := by omega
      subst hie
      rw [List.take_length] at hall
      have := k H1 O (Kp.refl _ _) fun b hb => .inl hb
      rw [hp, List.eraseP_of_forall_not fun x hx => by rw [hall x hx]; decide] at this
      exact this h0

theorem rd_now (h : RD H r s O) {x : Int} (h0 : 0 ≤ x) (h1 : x < s.n) : ∃ a bn on, H[r]? = some (.cells a 65) ∧ (∃ v, a[0]? = some v ∧ (∀ k, idxAddrE (some (none, 1024)) v (.int k x) = some (.pointer (some ⟨bn, on, none⟩)))) ∧ loadE (some (some 1024)) (.pointer (some ⟨bn, on, none⟩)) H = some (.agg (s.now x)) ∧ IsB (s.now x) ∧ a[4]? = some (.int .i64 s.reads) ∧ a.size = 6 := by
  obtain ⟨⟨a, b, nows, helds, hc, _⟩, _⟩ := h
  have hnl := hc.nl
  obtain ⟨xn, rfl⟩ : ∃ xn : Nat, x = (xn : Int) := ⟨x.toNat, by omega⟩
  have hx := List.getElem?_eq_getElem (l := nows) (i := xn) (by omega)
  obtain ⟨hv, hB⟩ := hc.vn xn _ hx
  obtain ⟨bn, on, ha, hl⟩ := hc.now.row hx
  refine ⟨_, bn, on, hc.top, ⟨a, rfl, ha⟩, ?_, by rw [hv]; exact hB, rfl, rfl⟩
  rw [hv]; exact hl
theorem rd_seen (h : RD H r s O) {K : Hp → Prop} (k : ∀ H', Kp (· = r) H H' → H'.size = H.size → RD H' r { s with reads := s.reads + 1 } O → K H') : Pu (storeE (some 1) (.pointer (some ⟨r, 4, none⟩)) (.int .i64 (s.reads + 1)) H) K := by
  obtain ⟨⟨a, b, nows, helds, hc, o1, o2, o3⟩, hlt⟩ := h
  refine store_i hc.top (by simp [rd_get]) rfl rfl fun H3 k3 s3 g3 => ?_
  exact k H3 k3 s3 ⟨⟨a, b, nows, helds, hc.turn k3 g3 rfl rfl rfl, o1, o2, o3⟩, fun j hj => by rw [s3]; exact hlt j hj⟩
theorem DS.wrong_zero {s : DS} {a : Int} (h : s.wrong a = 0) : s.stopped = false ∧ 0 ≤ a ∧ a < s.n := by
  unfold DS.wrong at h
  cases hs : s.stopped with
  | true => rw [hs] at h; simp at h
  | false =>
    rw [hs] at h
    simp only [Bool.false_eq_true, if_false] at h
    split at h
    · cases h
    · rename_i h1; exact ⟨rfl, by omega, by omega⟩
theorem DS.read_zero {s : DS} {a : Int} (h : s.wrong a = 0) : (s.read a).1 = { s with reads := s.reads + 1 } := by
  obtain ⟨h1, h2, h3⟩ := DS.wrong_zero h
  unfold DS.read
  rw [h1, if_neg (by decide), if_neg (by omega)]

set_option maxHeartbeats 2000000 in
theorem rc_read (hd : RD H r s Od) (hc : RC H c r size cs Oc) (dis : ∀ b, Od b → ¬ Oc b) (hf : fastP cs ≤ size) (hl : cs.length ≤ 1048574) (hr : 0 ≤ s.reads ∧ s.reads < 4611686018427387904) {a : Int}
    (k : ∀ H' Oc', Kp (fun b => Od b ∨ Oc b) H H' → (∀ b, Oc' b → Oc b ∨ H.size ≤ b) → RD H' r (readC size s cs a).1 Od → RC H' c r size (readC size s cs a).2.1 Oc' → R (.tuple #[.agg (readC size s cs a).2.2.1, .int .i64 (readC size s cs a).2.2.2]) H') :
    Fc Try.prog 47 #[ptrV c, .int .i64 a] H R := by
  refine fn47 ?_
  simp only [sh47, zeroB, Pu_some]
  refine box_i fun b1 H1 hb1 e1 t1 g1 => ?_
  simp only [cells_agg] at g1
  have hd1 := hd.ext e1
  have hc1 := hc.ext e1
  have nd : ¬ Od b1 := fun ho => by have := hd.lt b1 ho; omega
  have nc : ¬ Oc b1 := fun ho => by have := hc.lt b1 ho; omega
  obtain ⟨⟨sl, hC, o1, o2⟩, hlt⟩ := hc1
  -- what is left to do where an answer is known
  have out : ∀ (H2 : Hp) (s' : DS) (cs' : List Pl) (d : Blk) (e : Int) (Oc' : Nat → Prop), Kp (fun b => Od b ∨ Oc b) H1 H2 → (∀ b, Oc' b → Oc b ∨ H1.size ≤ b) → RD H2 r s' Od → RC H2 c r size cs' Oc' → IsB d → b1 < H2.size → ¬ Oc' b1 → readC size s cs a = (s', cs', d, e) →
      Pu (storeE (some 1024) (.pointer (some ⟨b1, 0, none⟩)) (.agg d) H2) fun H3 => Pu (loadE (some (some 1024)) (.pointer (some ⟨b1, 0, none⟩)) H3) fun x9 => R (.tuple #[x9, .int .i64 e]) H3 := by
    intro H2 s' cs' d e Oc' kk hn hd2 hc2 hB hlb hnc heq
    have g2 := kk.at g1 fun h => h.elim nd nc
    refine storeAll_i g2 zB_size hB.size hB.ok fun H3 k3 t3 g3 => ?_
    have g3 : H3[b1]? = some (.cells d 51) := g3
    rw [load_all g3 hB.size, Pu_some]
    have := k H3 Oc' ⟨by have := e1.le; have := kk.le; omega, fun j hj hnj => by
      rw [k3.same j (by have := e1.le; have := kk.le; omega) (by omega), kk.same j (Nat.lt_of_lt_of_le hj e1.le) hnj, e1.same j hj]⟩ (fun j hj => (hn j hj).imp id fun h => by omega)
    rw [heq] at this
    exact this (hd2.kp k3 fun b hb e => by subst e; exact nd hb) (hc2.kp k3 fun b hb e => by subst e; exact hnc hb)
  have hl1 : b1 < H1.size := by omega
  simp only [nilCheckE, addr_ptr, Nat.zero_add, Pu_some, load_cell hC.top, rc_get]
  refine rd_wrong hd1 ?_
  simp only [binE_neq, Pu_some, Ite_dec, buildB]
  refine ⟨fun hw => out H1 s cs zB (s.wrong a) Oc (Kp.refl _ _) (fun j hj => .inl hj) hd1 ⟨⟨sl, hC, o1, o2⟩, hlt⟩ zB_is hl1 nc (by unfold readC; rw [if_pos hw]), fun hw => ?_⟩
  have hw : s.wrong a = 0 := Classical.not_not.1 hw
  obtain ⟨hst, ha0, ha1⟩ := DS.wrong_zero hw
  refine rc_find hC (by omega) ?_
  cases hfi : fIdx cs a with
  | some i =>
    obtain ⟨l1, x, l2, hcs, hli, hxa, hl1', hfp, hout⟩ := fIdx_some hfi
    have hx : cs[i]? = some x := by rw [hcs, List.getElem?_append_right (by omega), hli]; simp
    have hB := hC.isB x (List.mem_of_getElem? hx)
    obtain ⟨b, o, hadr, _, _, _, hrow⟩ := row_cell hC hx
    simp only [idxI, binE_geq, Pu_some, Ite_dec, load_cell hC.top, rc_get, hadr, hrow, zeroPla]
    refine ⟨fun _ => ?_, fun h => absurd h (by omega)⟩
    refine box_i fun b5 H5 hb5 e5 t5 g5 => ?_
    simp only [cells_agg] at g5
    refine storeAll_i g5 zPla_size (plC_size hB) (plC_ok hB) fun H6 k6 t6 g6 => ?_
    have g6 : H6[b5]? = some (.cells (plC x) 88) := g6
    have e16 : Ext H1 H6 := e5.kpn k6 (by omega)
    rw [load_all g6 (plC_size hB), Pu_some]
    have hc1 : RC H1 c r size cs Oc := ⟨⟨sl, hC, o1, o2⟩, hlt⟩
    have n5 : ¬ Oc b5 := fun ho => by have := hlt b5 ho; omega
    refine rc_last (hc1.ext e16) (by omega) hB fun H7 O' k7 n7 h7 => ?_
    have g7 := k7.at g6 n5
    simp only [addr_ptr, Nat.zero_add, Pu_some]
    rw [load_row g7 (by rw [plC_size hB]; omega), plC_data hB, Pu_some]
    rw [hxa] at h7
    refine out H7 s (outP cs a ++ [x]) x.data 0 O' ⟨by have := e16.le; have := k7.le; omega, fun j hj hn => ?_⟩ (fun j hj => (n7 j hj).imp id fun h => by have := e16.le; omega) ((hd1.ext e16).kp k7 dis) h7 hB (by have := e16.le; have := k7.le; omega) (fun ho => ?_) ?_
    · rw [k7.same j (Nat.lt_of_lt_of_le hj e16.le) (fun h => hn (.inr h)), e16.same j hj]
    · rcases n7 b1 ho with h | h
      · exact nc h
      · have := e16.le; omega
    · unfold readC; rw [if_neg (by rw [hw]; exact fun h => h rfl), hfp]
  | none =>
    obtain ⟨hfp, hout⟩ := fIdx_none hfi
    have hnf := findP_none.1 hfp
    have hc1 : RC H1 c r size cs Oc := ⟨⟨sl, hC, o1, o2⟩, hlt⟩
    have hsz : ∀ {H' : Hp}, Ext H1 H' → loadE (some none) (.pointer (some ⟨c, 1, none⟩)) H' = some (.int .i64 size) := fun e => by rw [load_cell (e.at hC.top)]; rfl
    have hCx : ∀ {H' : Hp}, Ext H1 H' → RcC H' c r size cs sl := fun e => hC.of (e.same c (hlt c o1)) fun y hy => e.same y (hlt y (o2 y hy))
    simp only [idxI, binE_geq, Pu_some, Ite_dec, ForX_true]
    refine ⟨fun h => absurd h (by omega), fun _ => ?_⟩
    refine ⟨fun H17 e17 => rc_fast (hCx e17) (by omega) ?_, Pu.mk _ (hsz (Ext.refl _)) fun H17 e17 => rc_fast (hCx e17) (by omega) ?_, trivial⟩
    all_goals
      simp only [hsz e17, Pu_some, binE_eql, Ite_dec]
      intro H19 e19
      have e119 := e17.trans e19
      have hd19 := hd1.ext e119
      have hc19 := hc1.ext e119
      have k119 : Kp (fun b => Od b ∨ Oc b) H1 H19 := e119.kp _
      refine ⟨fun hfull => ?_, fun hfull => ?_⟩
      · refine out H19 s cs zB 160 Oc k119 (fun j hj => .inl hj) hd19 hc19 zB_is (by have := e119.le; omega) nc ?_
        unfold readC
        have hrm : roomP size cs = none := by unfold roomP; rw [if_pos (by omega)]
        rw [if_neg (by rw [hw]; exact fun h => h rfl), hfp, hrm]
      · have hrm := roomP_place (size := size) (cs := cs) (by omega)
        refine rc_place hc19 (by omega) fun H21 O1 k21 n21 h21 => ?_
        have hd21 := hd19.kp k21 dis
        obtain ⟨⟨sl1, hC1, p1, p2⟩, hlt1⟩ := h21
        obtain ⟨da, bn, on, gr, ⟨nv, hnv, hna⟩, hnl, hnB, hrd, hds⟩ := rd_now hd21 ha0 ha1
        simp only [load_cell hC1.top, rc_get, Pu_some, nilCheckE, addr_ptr, Nat.zero_add, load_cell gr, hrd, binE_add]
        rw [i64wrap_id (by omega) (by omega)]
        refine rd_seen hd21 fun H22 k22 t22 hd22 => ?_
        have hcr : c ≠ r := fun e => dis r hd.own (e ▸ o1)
        have n1O : ∀ b, Od b → ¬ O1 b := fun b hb ho => by
          rcases n21 b ho with h | h
          · exact dis b hb h
          · have := hd19.lt b hb; omega
        have hc22 : RC H22 c r size (placeP size cs) O1 := RC.kp ⟨⟨sl1, hC1, p1, p2⟩, hlt1⟩ k22 fun b hb e => by subst e; exact n1O _ hd.own hb
        obtain ⟨⟨sl2, hC2, p1', p2'⟩, hlt2⟩ := hc22
        obtain ⟨da2, bn2, on2, gr2, ⟨nv2, hnv2, hna2⟩, hnl2, hnB2, hrd2, hds2⟩ := rd_now hd22 ha0 ha1
        simp only [load_cell hC2.top, rc_get, Pu_some, nilCheckE, addr_ptr, Nat.zero_add, load_cell gr2, hnv2, hna2, hnl2]
        have hB : IsB (s.now a) := hnB
        rw [build_pla hB, Pu_some]
        have hpl := placeP_len size cs
        refine rc_last (x := ⟨a, s.now a, false⟩) ⟨⟨sl2, hC2, p1', p2'⟩, hlt2⟩ (by omega) hB fun H23 O2 k23 n23 h23 => ?_
        have hd23 := hd22.kp k23 n1O
        obtain ⟨⟨sl3, hC3, p1'', p2''⟩, hlt3⟩ := h23
        obtain ⟨da3, bn3, on3, gr3, ⟨nv3, hnv3, hna3⟩, hnl3, hnB3, hrd3, hds3⟩ := rd_now hd23 ha0 ha1
        simp only [load_cell hC3.top, rc_get, Pu_some, nilCheckE, addr_ptr, Nat.zero_add, load_cell gr3, hnv3, hna3, hnl3]
        have hnp : ∀ x ∈ placeP size cs, x.at_ ≠ a := fun x hx => hnf x (placeP_sub hx)
        have h23' : RC H23 c r size (placeP size cs ++ [⟨a, s.now a, false⟩]) O2 := by
          have : RC H23 c r size (outP (placeP size cs) a ++ [⟨a, s.now a, false⟩]) O2 := ⟨⟨sl3, hC3, p1'', p2''⟩, hlt3⟩
          rw [outP_none hnp] at this; exact this
        have le1 := e119.le
        have le2 := k21.le
        have le3 := k23.le
        have hO2 : ∀ b, O2 b → Oc b ∨ H1.size ≤ b := fun b hb => by
          rcases n23 b hb with h | h
          · rcases n21 b h with h | h
            · exact .inl h
            · exact .inr (by omega)
          · exact .inr (by omega)
        refine out H23 { s with reads := s.reads + 1 } _ (s.now a) 0 O2 ⟨by omega, fun j hj hn => ?_⟩ hO2 hd23 h23' hB (by omega) (fun ho => (hO2 b1 ho).elim nc fun h => by omega) ?_
        · have hnO1 : ¬ O1 j := fun ho => by
            rcases n21 j ho with h | h
            · exact hn (.inr h)
            · omega
          rw [k23.same j (by omega) hnO1, k22.same j (by omega) (fun e => hn (.inl (e ▸ hd.own))), k21.same j (by omega) (fun h => hn (.inr h)), e119.same j hj]
        · unfold readC
          rw [if_neg (by rw [hw]; exact fun h => h rfl), hfp, hrm]
          simp only
          rw [DS.read_zero hw]

set_option maxHeartbeats 2000000 in
theorem rc_put (hd : RD H r s Od) (hc : RC H c r size cs Oc) (dis : ∀ b, Od b → ¬ Oc b) (hf : fastP cs ≤ size) (hl : cs.length ≤ 1048574) {a : Int} {d : Blk} (hB : IsB d)
    (k : ∀ H' Oc', Kp Oc H H' → (∀ b, Oc' b → Oc b ∨ H.size ≤ b) → RD H' r s Od → RC H' c r size (putC size s cs a d).1 Oc' → R (.int .i64 (putC size s cs a d).2) H') :
    Fc Try.prog 48 #[ptrV c, .int .i64 a, .agg d] H R := by
  refine fn48 ?_
  simp only [sh48, Any_const]
  refine box_i fun b1 H1 hb1 e1 t1 g1 => ?_
  simp only [cells_agg] at g1
  have hd1 := hd.ext e1
  have hc1 := hc.ext e1
  have nc : ¬ Oc b1 := fun ho => by have := hc.lt b1 ho; omega
  obtain ⟨⟨sl, hC, o1, o2⟩, hlt⟩ := hc1
  have hc1 : RC H1 c r size cs Oc := ⟨⟨sl, hC, o1, o2⟩, hlt⟩
  have out : ∀ (H2 : Hp) (cs' : List Pl) (e : Int) (Oc' : Nat → Prop), Kp Oc H1 H2 → (∀ b, Oc' b → Oc b ∨ H1.size ≤ b) → RC H2 c r size cs' Oc' → putC size s cs a d = (cs', e) → R (.int .i64 e) H2 := by
    intro H2 cs' e Oc' kk hn hc2 heq
    have := k H2 Oc' ⟨by have := e1.le; have := kk.le; omega, fun j hj hnj => by rw [kk.same j (Nat.lt_of_lt_of_le hj e1.le) hnj, e1.same j hj]⟩ (fun j hj => (hn j hj).imp id fun h => by omega) (hd1.kp kk dis)
    rw [heq] at this
    exact this hc2
  simp only [nilCheckE, addr_ptr, Nat.zero_add, Pu_some, load_cell hC.top, rc_get]
  refine rd_wrong hd1 ?_
  simp only [binE_neq, Pu_some, Ite_dec]
  refine ⟨fun hw => out H1 cs (s.wrong a) Oc (Kp.refl _ _) (fun j hj => .inl hj) hc1 (by unfold putC; rw [if_pos hw]), fun hw => ?_⟩
  have hw : s.wrong a = 0 := Classical.not_not.1 hw
  refine Join.mk (fun _ H' => ∃ cs1 O1, Kp Oc H1 H' ∧ (∀ b, O1 b → Oc b ∨ H1.size ≤ b) ∧ RC H' c r size cs1 O1 ∧ cs1.length ≤ cs.length ∧ baseC size cs a = some (outP cs1 a)) ?_ ?_
  · rintro _ H3 ⟨cs1, O1, k3, n3, h3, hl3, hb3⟩
    have g3 := k3.at g1 nc
    rw [load_all g3 hB.size, Pu_some, build_plaT hB, Pu_some]
    refine rc_last (x := ⟨a, d, true⟩) h3 (by omega) hB fun H4 O2 k4 n4 h4 => ?_
    have hO2 : ∀ b, O2 b → Oc b ∨ H1.size ≤ b := fun b hb => by
      rcases n4 b hb with h | h
      · exact n3 b h
      · have := k3.le; exact .inr (by omega)
    refine out H4 _ 0 O2 ⟨by have := k3.le; have := k4.le; omega, fun j hj hn => ?_⟩ hO2 h4 ?_
    · have hnO1 : ¬ O1 j := fun ho => by
        rcases n3 j ho with h | h
        · exact hn h
        · omega
      rw [k4.same j (Nat.lt_of_lt_of_le hj k3.le) hnO1, k3.same j hj hn]
    · unfold putC; rw [if_neg (by rw [hw]; exact fun h => h rfl), hb3]
  · refine rc_find hC (by omega) ?_
    cases hfi : fIdx cs a with
    | some i =>
      obtain ⟨l1, x, l2, hcs, hli, hxa, hl1', hfp, hout⟩ := fIdx_some hfi
      simp only [idxI, binE_lss, Pu_some, Ite_dec]
      refine ⟨fun h => absurd h (by omega), fun _ => ⟨cs, Oc, Kp.refl _ _, fun b hb => .inl hb, hc1, Nat.le_refl _, ?_⟩⟩
      unfold baseC; rw [hfp]
    | none =>
      obtain ⟨hfp, hout⟩ := fIdx_none hfi
      have hnf := findP_none.1 hfp
      have hsz : ∀ {H' : Hp}, Ext H1 H' → loadE (some none) (.pointer (some ⟨c, 1, none⟩)) H' = some (.int .i64 size) := fun e => by rw [load_cell (e.at hC.top)]; rfl
      have hCx : ∀ {H' : Hp}, Ext H1 H' → RcC H' c r size cs sl := fun e => hC.of (e.same c (hlt c o1)) fun y hy => e.same y (hlt y (o2 y hy))
      simp only [idxI, binE_lss, Pu_some, Ite_dec, ForX_true]
      refine ⟨fun _ => ?_, fun h => absurd h (by omega)⟩
      refine ⟨fun H17 e17 => rc_fast (hCx e17) (by omega) ?_, Pu.mk _ (hsz (Ext.refl _)) fun H17 e17 => rc_fast (hCx e17) (by omega) ?_, trivial⟩
      all_goals
        simp only [hsz e17, Pu_some, binE_eql, Ite_dec]
        intro H19 e19
        have e119 := e17.trans e19
        have hc19 := hc1.ext e119
        refine ⟨fun hfull => ?_, fun hfull => ?_⟩
        · refine out H19 cs 160 Oc (e119.kp _) (fun j hj => .inl hj) hc19 ?_
          unfold putC baseC
          have hrm : roomP size cs = none := by unfold roomP; rw [if_pos (by omega)]
          rw [if_neg (by rw [hw]; exact fun h => h rfl), hfp, hrm]
        · have hrm := roomP_place (size := size) (cs := cs) (by omega)
          refine rc_place hc19 (by omega) fun H21 O1 k21 n21 h21 => ?_
          refine ⟨placeP size cs, O1, (e119.kp _).trans k21, fun b hb => (n21 b hb).imp id fun h => by have := e119.le; omega, h21, placeP_len size cs, ?_⟩
          unfold baseC
          rw [hfp, hrm, outP_none fun x hx => hnf x (placeP_sub hx)]
end
end Go.Vc

/- Ft, part J: the document's cache: flushes, its order, made; the disk's fuse and the power; what a row always is. -/
set_option linter.unusedVariables false
set_option linter.unusedSimpArgs false
namespace Go.Vc
open Go.Proofs

/-- One cell of an element is written. -/
theorem Sv.putCell {T n : Nat} {H : Hp} {s : Value} {vs : List (Array Value)} (h : Sv T n H s vs) {i j : Nat} {v : Array Value} (hi : vs[i]? = some v) (hj : j < n) {x : Value} (hx1 : x.oneCell' = true) (hx2 : x.cells = #[x]) :
    ∃ b o, blkOf s = some b ∧ (∀ k, idxAddrE (some (none, n)) s (.int k i) = some (.pointer (some ⟨b, o, none⟩))) ∧
      ∀ K : Hp → Prop, (∀ H', Kp (· = b) H H' → H'.size = H.size → Sv T n H' s (vs.set i (v.setIfInBounds j x)) → K H') → Pu (storeE (some 1) (.pointer (some ⟨b, o + j, none⟩)) x H) K := by
  obtain ⟨base, cap, rfl, hle, hn, h⟩ := h
  have hil : i < vs.length := by
    rcases Nat.lt_or_ge i vs.length with h1 | h1
    · exact h1
    · rw [List.getElem?_eq_none h1] at hi; cases hi
  have hvn : v.size = n := hn v (List.mem_of_getElem? hi)
  cases base with
  | none => simp only at h; omega
  | some a =>
    obtain ⟨hsp, cs, hg, hsz, h⟩ := h
    obtain ⟨blk, off, sp⟩ := a
    simp only at hsp hg hsz h
    subst hsp
    have hm : (i + 1) * n ≤ cap * n := Nat.mul_le_mul_right n (by omega)
    rw [Nat.add_mul, Nat.one_mul] at hm
    have hvi := h i v hi
    refine ⟨blk, off + i * n, rfl, fun k => ?_, fun K hK => ?_⟩
    · have := @idx_slc vs.length cap n blk off k i (by omega) (by omega)
      simpa using this
    · refine store_i hg (by omega) hx1 hx2 fun H' hk hs hg' => hK H' hk hs ?_
      refine ⟨some ⟨blk, off, none⟩, cap, by simp, by simpa using hle, fun y hy => ?_, rfl, _, hg', by rw [Array.size_setIfInBounds]; exact hsz, fun q y hq => ?_⟩
      · rcases List.mem_or_eq_of_mem_set hy with h1 | h1
        · exact hn y h1
        · rw [h1, Array.size_setIfInBounds]; exact hvn
      · rw [List.getElem?_set] at hq
        by_cases hiq : i = q
        · subst hiq
          rw [if_pos rfl, if_pos hil] at hq
          injection hq with hq; subst hq
          refine ext_of_get (by rw [Array.size_setIfInBounds]; exact hvn) (by rw [Array.size_setIfInBounds]; simp only; omega) fun p hp => ?_
          rw [Array.getElem?_setIfInBounds, Array.getElem?_setIfInBounds, hvn]
          simp only
          by_cases hjp : j = p
          · subst hjp; rw [if_pos rfl, if_pos rfl, if_pos (by omega), if_pos hj]
          · rw [if_neg hjp, if_neg (by omega)]
            exact extract_get hvi (by omega) hp
        · rw [if_neg hiq] at hq
          have hql : q < vs.length := by
            rcases Nat.lt_or_ge q vs.length with h1 | h1
            · exact h1
            · rw [List.getElem?_eq_none h1] at hq; cases hq
          have hm2 : (q + 1) * n ≤ cap * n := Nat.mul_le_mul_right n (by omega)
          rw [Nat.add_mul, Nat.one_mul] at hm2
          have hd : off + q * n + n ≤ off + i * n ∨ off + i * n + n ≤ off + q * n := by
            rcases Nat.lt_or_gt_of_ne hiq with h1 | h1
            · have := Nat.mul_le_mul_right n (show i + 1 ≤ q from h1); rw [Nat.add_mul, Nat.one_mul] at this; omega
            · have := Nat.mul_le_mul_right n (show q + 1 ≤ i from h1); rw [Nat.add_mul, Nat.one_mul] at this; omega
          have hvq := h q y hq
          refine ext_of_get (hn y (List.mem_of_getElem? hq)) (by rw [Array.size_setIfInBounds]; simp only; omega) fun p hp => ?_
          rw [Array.getElem?_setIfInBounds]
          simp only
          rw [if_neg (by omega)]
          exact extract_get hvq (by omega) hp
theorem calmP_mid {l1 l2 : List Pl} {x : Pl} (h : ((l1 ++ x :: l2).map (·.at_)).Nodup) : calmP (l1 ++ x :: l2) x.at_ = l1 ++ { x with fast := false } :: l2 := by
  rw [List.map_append, List.map_cons, List.nodup_append, List.nodup_cons] at h
  obtain ⟨_, ⟨h2, _⟩, h3⟩ := h
  have key : ∀ l : List Pl, (∀ y ∈ l, y.at_ ≠ x.at_) → calmP l x.at_ = l := fun l hl => by
    unfold calmP
    conv => rhs; rw [← List.map_id l]
    apply List.map_congr_left
    intro y hy
    rw [if_neg (hl y hy)]; rfl
  have e0 : calmP (l1 ++ x :: l2) x.at_ = calmP l1 x.at_ ++ (if x.at_ = x.at_ then { x with fast := false } else x) :: calmP l2 x.at_ := by
    unfold calmP; rw [List.map_append, List.map_cons]
  rw [e0, key l1 fun y hy e => h3 y.at_ (List.mem_map.2 ⟨y, hy, rfl⟩) x.at_ List.mem_cons_self e, key l2 fun y hy e => h2 (e ▸ List.mem_map.2 ⟨y, hy, rfl⟩), if_pos rfl]

section
variable {H : Hp} {c r p : Nat} {size : Int} {cs : List Pl} {O Od Oc : Nat → Prop} {R : Value → Hp → Prop} {sl : Value} {s : DS}
set_option maxHeartbeats 2000000 in
theorem rc_flush (hd : RD H r s Od) (hc : RC H c r size cs Oc) (dis : ∀ b, Od b → ¬ Oc b) (hnod : (cs.map (·.at_)).Nodup) (hl : cs.length ≤ 1048574) (hm : -9223372036854775808 ≤ s.made ∧ s.made < 9223372036854775807) (hfu : -1 ≤ s.fuse ∧ s.fuse ≤ 9223372036854775807) {a : Int}
    (k : ∀ H', Kp (fun b => Od b ∨ Oc b) H H' → RD H' r (flushC s cs a).1 Od → RC H' c r size (flushC s cs a).2.1 Oc → R (.int .i64 (flushC s cs a).2.2) H') :
    Fc Try.prog 49 #[ptrV c, .int .i64 a] H R := by
  have hc0 := hc
  obtain ⟨⟨sl, hC, o1, o2⟩, hlt⟩ := hc
  refine fn49 ?_
  simp only [sh49, Any_const, nilCheckE, addr_ptr, Nat.zero_add, Pu_some, load_cell hC.top, rc_get]
  refine rd_wrong hd ?_
  have stay : ∀ e, flushC s cs a = (s, cs, e) → R (.int .i64 e) H := fun e he => by
    have := k H (Kp.refl _ _)
    rw [he] at this
    exact this hd hc0
  simp only [binE_neq, Pu_some, Ite_dec]
  refine ⟨fun hw => stay _ (by unfold flushC; rw [if_pos hw]), fun hw => ?_⟩
  have hw : s.wrong a = 0 := Classical.not_not.1 hw
  refine rc_find hC (by omega) ?_
  cases hfi : fIdx cs a with
  | none =>
    obtain ⟨hfp, _⟩ := fIdx_none hfi
    refine Join.mk (fun t H' => H' = H ∧ t.1 = .bool true) ?_ ?_
    · rintro ⟨t, u⟩ H1 ⟨rfl, ht⟩
      simp only at ht
      subst ht
      simp only [Ite_true]
      exact stay 0 (flushC_none hw hfp)
    · simp only [idxI, binE_lss, Pu_some, Ite_dec]
      exact ⟨fun _ => ⟨trivial, trivial⟩, fun h => absurd h (by omega)⟩
  | some i =>
    obtain ⟨l1, x, l2, hcs, hli, hxa, hl1', hfp, hout⟩ := fIdx_some hfi
    have hx : cs[i]? = some x := by rw [hcs, List.getElem?_append_right (by omega), hli]; simp
    have hB := hC.isB x (List.mem_of_getElem? hx)
    obtain ⟨b, o, hadr, _, hfa, hda, hrow⟩ := row_cell hC hx
    refine Join.mk (fun t H' => H' = H ∧ t.1 = .bool (!x.fast)) ?_ ?_
    · rintro ⟨t, u⟩ H1 ⟨rfl, ht⟩
      simp only at ht
      subst ht
      simp only [Ite_not]
      refine ⟨fun hf => stay 0 (flushC_calm hw hfp hf), fun hf => ?_⟩
      simp only [idxI, load_cell hC.top, rc_get, hadr, addr_ptr, hda, Pu_some]
      refine rd_write hd hm hfu hB fun H3 k3 hd3 => ?_
      have hc3 : RC H3 c r size cs Oc := hc0.kp k3 fun b hb ho => dis b ho hb
      obtain ⟨⟨sl3, hC3, p1, p2⟩, hlt3⟩ := hc3
      simp only [binE_eql, Pu_some, Ite_dec]
      refine ⟨fun he => ?_, fun he => ?_⟩
      · obtain ⟨b3, o3, hb3, ha3, hput⟩ := hC3.row.putCell (i := i) (j := 1025) (v := plC x) (x := .bool false) (by rw [List.getElem?_map, hx]; rfl) (by omega) rfl rfl
        simp only [load_cell hC3.top, rc_get, ha3, addr_ptr, Pu_some]
        refine hput _ fun H4 k4 t4 hrow4 => ?_
        have hfc := flushC_done hw hfp hf he
        have := k H4 ((k3.mono fun j _ h => .inl h).trans (k4.mono fun j _ e => .inr (e ▸ p2 b3 hb3)))
        rw [hfc] at this
        rw [he]
        have hO3 : Oc b3 := p2 b3 hb3
        refine this (hd3.kp k4 fun j hj e => dis j hj (e ▸ hO3)) ⟨⟨sl3, ⟨k4.at hC3.top fun e => hC3.d b3 hb3 e.symm, ?_, fun y hy => ?_, hC3.d⟩, p1, p2⟩, fun j hj => by rw [t4]; exact hlt3 j hj⟩
        · have e : (cs.map plC).set i ((plC x).setIfInBounds 1025 (.bool false)) = (calmP cs a).map plC := by
            rw [plC_calm hB]
            conv => rhs; rw [hcs]
            rw [← hxa, calmP_mid (hcs ▸ hnod)]
            conv => lhs; rw [hcs]
            rw [List.map_append, List.map_cons, List.map_append, List.map_cons, List.set_append_right _ _ (by rw [List.length_map]; omega), List.length_map, hli, Nat.sub_self]; rfl
          rw [e] at hrow4; exact hrow4
        · obtain ⟨z, hz, e1, e2, e3⟩ := calmP_mem hy
          rw [e2]; exact hC.isB z hz
      · have hfc := flushC_err hw hfp hf he
        have := k H3 (k3.mono fun j _ h => .inl h)
        rw [hfc] at this
        exact this hd3 ⟨⟨sl3, hC3, p1, p2⟩, hlt3⟩
    · simp only [idxI, binE_lss, Pu_some, Ite_dec, load_cell hC.top, rc_get, hadr, addr_ptr, hfa, unE_not]
      exact ⟨fun h => absurd h (by omega), fun _ => ⟨trivial, trivial⟩⟩
theorem rc_order (h : RC H c r size cs O) (hlen : cs.length ≤ 1048576) (k : ∀ l H', Ext H H' → Sv 3 1 H' l (ints (cs.map (·.at_))) → (∀ b, blkOf l = some b → H.size ≤ b) → R l H') : Fc Try.prog 10 #[ptrV c] H R := by
  obtain ⟨⟨sl, hc, o1, o2⟩, hlt⟩ := h
  refine fn10 ?_
  simp only [sh10, Any_const, nilCheckE, Pu_some, addr_ptr, Nat.zero_add]
  refine LoopP.mk (fun t H' => ∃ i : Nat, t.2.1 = .int .i64 i ∧ i ≤ cs.length ∧ Ext H H' ∧ Sv 3 1 H' t.1 (ints ((cs.take i).map (·.at_))) ∧ ∀ b, blkOf t.1 = some b → H.size ≤ b) (fun t _ => match t.2.1 with | .int _ i => ((cs.length : Int) - i).toNat | _ => 0)
    ⟨0, rfl, by omega, Ext.refl _, Sv.nil _ _ _, fun b e => (by cases e)⟩ ?_
  rintro ⟨t1, t2, u⟩ H1 ⟨i, ht, hi, e1, hs, hn⟩
  simp only at ht hs hn
  subst ht
  have hc1 : RcC H1 c r size cs sl := hc.of (e1.same c (hlt c o1)) fun y hy => e1.same y (hlt y (o2 y hy))
  simp only [load_cell hc1.top, rc_get, Pu_some]
  rw [hc1.row.lenE undPlas, List.length_map]
  simp only [Pu_some, binE_lss, Ite_dec]
  refine ⟨fun hl => ?_, fun hg => ?_⟩
  · have hx := List.getElem?_eq_getElem (l := cs) (i := i) (by omega)
    generalize cs[i] = x at hx
    obtain ⟨b, o, ha, hat, _⟩ := row_cell hc1 hx
    simp only [ha, Pu_some, addr_ptr, Nat.add_zero, hat, elInt]
    rw [newS_one (e := eInt) (by decide) (by decide) rfl, Pu_some]
    refine newS_i fun b3 H3 hb3 e3 s3 g3 => ?_
    refine app_many (us := [#[.int .i64 x.at_]]) rfl rfl rfl (by decide) (hs.ext e3) (Sv.single g3 rfl) (by simp [cellsOk, Value.oneCell']) (by
      rw [ints_len, List.length_map, List.length_take]; show (min i cs.length + 1) * 8 ≤ 2 ^ 47; omega) fun s' H4 hs4 k4 hn4 => ?_
    have e13 := e1.trans e3
    have e14 : Ext H H4 := ⟨Nat.le_trans e13.le k4.le, fun b hb => by
      rw [k4.same b (Nat.lt_of_lt_of_le hb e13.le) (fun e => by have := hn b e; omega)]; exact e13.same b hb⟩
    rw [binE_add, i64wrap_id (by omega) (by omega), Pu_some]
    refine ⟨⟨i + 1, rfl, by omega, e14, ?_, fun b e => ?_⟩, by show ((cs.length : Int) - (i + 1)).toNat < ((cs.length : Int) - i).toNat; omega⟩
    · rw [List.take_add_one, hx, List.map_append, ints_app]; exact hs4
    · rcases hn4 b e with h1 | h1
      · exact hn b h1
      · have := e13.le; omega
  · have hie : i = cs.length := by omega
    subst hie
    rw [List.take_length] at hs
    exact k t1 H1 e1 hs hn
theorem rc_new {size : Int} (k : 1 ≤ size → size ≤ 4096 → ∀ H' c, Ext H H' → RC H' c r size [] (fun b => H.size ≤ b ∧ b < H'.size) → R (.tuple #[ptrV c, .int .i64 0]) H') (k0 : ¬ (1 ≤ size ∧ size ≤ 4096) → R (.tuple #[.pointer none, .int .i64 2]) H) :
    Fc Try.prog 8 #[ptrV r, .int .i64 size] H R := by
  refine fn8 ?_
  simp only [sh8, Any_const]
  refine Join.mk (fun x H' => H' = H ∧ x.1 = .bool (decide (¬ (1 ≤ size ∧ size ≤ 4096)))) ?_ ?_
  · rintro ⟨x, u⟩ H1 ⟨rfl, hx⟩
    simp only at hx
    subst hx
    simp only [Ite_dec, build_rc, Pu_some]
    refine ⟨k0, fun h => ?_⟩
    have h := Classical.not_not.1 h
    refine box_i fun c H2 hc e2 s2 g2 => ?_
    simp only [cells_agg] at g2
    refine k h.1 h.2 H2 c e2 ⟨⟨.slice none 0 0, ⟨g2, Sv.nil _ _ _, fun x hx => (by cases hx), fun x e => (by cases e)⟩, ⟨by omega, by omega⟩, fun x e => (by cases e)⟩, fun b hb => hb.2⟩
  · simp only [binE_lss, Pu_some, Ite_dec, binE_gtr]
    refine ⟨fun h => ⟨trivial, by rw [decide_eq_true (by omega)]⟩, fun h => ⟨trivial, ?_⟩⟩
    congr 1
    rw [decide_eq_decide]; omega
theorem cache_bad (hd : DiskAt H p s O) {size : Int} (h : ¬ (1 ≤ size ∧ size ≤ 4096)) (k : R (.tuple #[.pointer none, .int .i64 2]) H) : Fc Try.prog 7 #[ptrV p, .int .i64 size] H R := by
  refine fn7 ?_
  simp only [sh7, Any_const]
  refine disk_len hd ?_
  have hpos : 0 < s.n := by
    obtain ⟨⟨_, _, _, _, _, _, _, _, _, _, h, _⟩, _⟩ := hd
    exact h.pos
  simp only [binE_eql, Pu_some, Ite_dec]
  refine ⟨fun h => absurd h (by omega), fun _ => ?_⟩
  refine Join.mk (fun x H' => H' = H ∧ x.1 = .bool true) ?_ ?_
  · rintro ⟨x, u⟩ H1 ⟨rfl, hx⟩
    simp only at hx
    subst hx
    simp only [Ite_true]; exact k
  · simp only [binE_lss, Pu_some, Ite_dec, binE_gtr]
    exact ⟨fun _ => ⟨trivial, trivial⟩, fun _ => ⟨trivial, by rw [decide_eq_true (by omega)]⟩⟩
theorem disk_fuse (h : DiskAt H p s O) {n : Int} (k : ∀ H', Kp O H H' → DiskAt H' p (s.light n) O → R (.tuple #[]) H') : Fc Try.prog 11 #[ptrV p, .int .i64 n] H R := by
  have h0 := h
  refine fn11 ?_
  simp only [sh11]
  refine disk_check h ?_
  obtain ⟨⟨mh, ml, ps, hs, fh, fl, nh, nl, pend, hist, hd, o1, o2, o3, o4, o5⟩, hlt⟩ := h
  cases hst : s.stopped with
  | true =>
    simp only [if_true, binE_eql, show decide ((3 : Int) = 0) = false from rfl, Pu_some, Ite_false]
    have := k H (Kp.refl _ _)
    rw [show s.light n = s by simp [DS.light, hst]] at this
    exact this h0
  | false =>
    simp only [Bool.false_eq_true, if_false, binE_eql, decide_true, Pu_some, Ite_true, max_int, nilCheckE, addr_ptr, Nat.zero_add]
    refine store_i hd.top (by simp [dk_get]) rfl rfl fun H3 k3 s3 g3 => ?_
    have hl : s.light n = { s with fuse := max n (-1) } := by simp [DS.light, hst]
    refine k H3 (k3.mono fun j _ e => e ▸ o1) ⟨⟨mh, ml, ps, hs, fh, fl, nh, nl, pend, hist, ?_, o1, o2, o3, o4, o5⟩, fun j hj => by rw [s3]; exact hlt j hj⟩
    rw [hl]
    exact hd.turn k3 g3 rfl rfl rfl rfl rfl
theorem undBools : Try.prog.underlying 99 = some (.slice 4) := by kernel_rfl
set_option maxHeartbeats 2000000 in
theorem disk_crash (h : DiskAt H p s O) (hpl : s.pl < 100000000000) (k : ∀ H', Kp O H H' → DiskAt H' p s.crash O → R (.int .i64 0) H') : Fc Try.prog 23 #[ptrV p, .slice none 0 0] H R := by
  refine fn23 ?_
  simp only [sh23, Any_const]
  refine disk_is h ?_
  obtain ⟨⟨mh, ml, ps, hs, fh, fl, nh, nl, pend, hist, hd, o1, o2, o3, o4, o5⟩, hlt⟩ := h
  have hple := hd.pl
  obtain ⟨d1, d2, d3⟩ := hd.df
  simp only [unE_not, Pu_some, Bool.not_true, Ite_false, nilCheckE, addr_ptr, Nat.zero_add, load_cell hd.top, dk_get]
  rw [hd.aps.lenE elH_und, Pu_some, List.length_map]
  refine LoopP.mk (fun t H' => ∃ i : Nat, t.1 = .int .i64 i ∧ i ≤ pend.length ∧ Ext H H') (fun t _ => match t.1 with | .int _ i => ((pend.length : Int) - i).toNat | _ => 0) ⟨0, rfl, by omega, Ext.refl _⟩ ?_
  rintro ⟨t, u⟩ H2 ⟨i, ht, hi, e2⟩
  simp only at ht
  subst ht
  simp only [binE_lss, Pu_some, Ite_dec]
  refine ⟨fun hl => ?_, fun hg => ?_⟩
  · have hx := List.getElem?_eq_getElem (l := pend) (i := i) (by omega)
    generalize pend[i] = x at hx
    have hxB : IsB x.2 := hd.bp x (List.mem_of_getElem? hx)
    obtain ⟨bs, os, hadr, hrow⟩ := (hd.aps.ext e2).row (i := i) (v := heldC x) (by rw [List.getElem?_map, hx]; rfl)
    simp only [hadr, Pu_some, hrow, zeroHeld]
    refine box_i fun b5 H5 hb5 e5 s5 g5 => ?_
    simp only [cells_agg] at g5
    refine storeAll_i g5 zHeld_size (heldC_size hxB) (heldC_ok hxB) fun H6 k6 s6 g6 => ?_
    have e26 : Ext H2 H6 := e5.kpn k6 (by omega)
    refine Join.mk (fun t H' => t.1 = .bool false ∧ H' = H6) ?_ ?_
    · rintro ⟨t, u⟩ H7 ⟨ht, rfl⟩
      simp only at ht
      subst ht
      simp only [Ite_false]
      rw [binE_add, i64wrap_id (by omega) (by omega), Pu_some]
      exact ⟨⟨i + 1, rfl, by omega, e2.trans e26⟩, by show ((pend.length : Int) - (i + 1)).toNat < ((pend.length : Int) - i).toNat; omega⟩
    · rw [len_slice undBools]
      simp only [Pu_some, binE_lss, Ite_dec]
      exact ⟨fun h => absurd h (by omega), fun _ => ⟨trivial, trivial⟩⟩
  · have hdx : DkC H2 p s mh ml ps hs fh fl nh nl pend hist := hd.ext e2
    refine store_i (v := .slice none 0 0) hdx.top (by simp [dk_get]) rfl rfl fun H3 k3 s3 g3 => ?_
    have g3 : H3[p]? = some (.cells (dkC s mh ml (.slice none 0 0) hs) 92) := g3
    refine store_i (v := .slice none 0 0) g3 (by simp [dk_get]) rfl rfl fun H4 k4 s4 g4 => ?_
    have g4 : H4[p]? = some (.cells (dkC s mh ml (.slice none 0 0) (.slice none 0 0)) 92) := g4
    simp only [load_cell g4, dk_get, Pu_some]
    have ml4 := (hdx.aml.kp k3 fun e => d2 e.symm).kp k4 fun e => d2 e.symm
    have mh4 := (hdx.amh.kp k3 fun e => d1 e.symm).kp k4 fun e => d1 e.symm
    refine mapClr_i ml4 fun H5 k5 s5 ml5 => ?_
    have g5 := k5.at g4 fun e => d2 e
    have mh5 := mh4.kp k5 d3
    refine store_i (v := .bool false) g5 (by simp [dk_get]) rfl rfl fun H6 k6 s6 g6 => ?_
    have g6 : H6[p]? = some (.cells (dkC { s with stopped := false } mh ml (.slice none 0 0) (.slice none 0 0)) 92) := g6
    refine store_i (v := .int .i64 (-1)) g6 (by simp [dk_get]) rfl rfl fun H7 k7 s7 g7 => ?_
    have g7 : H7[p]? = some (.cells (dkC { s with stopped := false, fuse := -1 } mh ml (.slice none 0 0) (.slice none 0 0)) 92) := g7
    refine store_i (v := .int .i64 0) g7 (by simp [dk_get]) rfl rfl fun H8 k8 s8 g8 => ?_
    have g8 : H8[p]? = some (.cells (dkC s.crash mh ml (.slice none 0 0) (.slice none 0 0)) 92) := g8
    have kp : Kp O H H8 := (e2.kp O).trans ((k3.mono fun j _ e => e ▸ o1).trans ((k4.mono fun j _ e => e ▸ o1).trans ((k5.mono fun j _ e => e ▸ o3).trans ((k6.mono fun j _ e => e ▸ o1).trans ((k7.mono fun j _ e => e ▸ o1).trans (k8.mono fun j _ e => e ▸ o1))))))
    refine k H8 kp ⟨⟨mh, ml, .slice none 0 0, .slice none 0 0, fh, fun _ => none, nh, 0, [], [], ?_, o1, o2, o3, fun j e => (by cases e), fun j e => (by cases e)⟩, fun j hj => Nat.lt_of_lt_of_le (hlt j hj) kp.le⟩
    exact {
      top := g8
      amh := ((mh5.kp k6 fun e => d1 e.symm).kp k7 fun e => d1 e.symm).kp k8 fun e => d1 e.symm
      aml := ((ml5.kp k6 fun e => d2 e.symm).kp k7 fun e => d2 e.symm).kp k8 fun e => d2 e.symm
      aps := Sv.nil _ _ _
      ahs := Sv.nil _ _ _
      df := ⟨d1, d2, d3⟩
      dps := fun j e => (by cases e)
      dhs := fun j e => (by cases e)
      bh := hd.bh
      bl := fun j c e => (by cases e)
      bp := fun x hx => (by cases hx)
      now := fun k => hd.held k
      held := fun k => hd.held k
      wait := rfl
      pl := rfl
      hl := rfl
      pos := hd.pos }
end
end Go.Vc

/- Ft, part K: what a row always is; two caches of one disk, the document's beside them, side by side in memory. -/
set_option linter.unusedVariables false
set_option linter.unusedSimpArgs false
namespace Go.Vc
open Go.Proofs

/-- What a row always is. -/
structure Rw (size : Int) (cs : List Pl) : Prop where
  nod : (cs.map (·.at_)).Nodup
  fast : fastP cs ≤ size
  len : (cs.length : Int) ≤ size
theorem Rw.nil {size : Int} (h : 1 ≤ size) : Rw size [] := ⟨List.nodup_nil, by show (0 : Int) ≤ size; omega, by show ((0 : Nat) : Int) ≤ size; omega⟩
theorem Rw.room {size : Int} {cs cs1 : List Pl} (h : Rw size cs) (hr : roomP size cs = some cs1) : Rw size cs1 ∧ (cs1.length : Int) < size ∧ fastP cs1 = fastP cs ∧ fastP cs < size ∧ ∀ y ∈ cs1, y ∈ cs := by
  obtain ⟨h1, h2⟩ := roomP_some hr
  rcases h2 with ⟨h2, rfl⟩ | ⟨l1, x, l2, rfl, rfl, hx, h4⟩
  · exact ⟨h, h2, rfl, h1, fun y hy => hy⟩
  · have hlen := h.len
    have hf : fastP (l1 ++ l2) = fastP (l1 ++ x :: l2) := by simp only [fastP_app, fastP_cons, hx, Bool.false_eq_true, if_false]; omega
    have hl : ((l1 ++ l2).length : Int) < size := by simp at hlen ⊢; omega
    exact ⟨⟨(nodup_drop h.nod).1, by rw [hf]; exact h.fast, by omega⟩, hl, hf, h1, fun y hy => memP_mid.2 (.inr hy)⟩
theorem Rw.turn {size : Int} {cs : List Pl} (h : Rw size cs) {a : Int} {x y : Pl} (hf : findP cs a = some x) (hy : y.at_ = a) (hfy : x.fast = true ∨ y.fast = x.fast ∨ fastP cs < size ∨ size ≤ 0 ∨ (cs.length : Int) ≤ size) : Rw size (outP cs a ++ [y]) := by
  obtain ⟨l1, l2, rfl, hxa, hl1, hout⟩ := findP_some hf
  obtain ⟨n1, n2⟩ := nodup_drop h.nod
  have hlen := h.len
  rw [hout]
  have hl : ((l1 ++ l2 ++ [y]).length : Int) ≤ size := by simp at hlen ⊢; omega
  refine ⟨nodup_snoc n1 fun z hz => by rw [hy, ← hxa]; exact n2 z hz, ?_, hl⟩
  have := fastP_le (l1 ++ l2 ++ [y])
  omega
theorem Rw.read {size : Int} {s : DS} {cs : List Pl} (h : Rw size cs) (a : Int) : Rw size (readC size s cs a).2.1 := by
  unfold readC
  split
  · exact h
  · cases hf : findP cs a with
    | some x =>
      obtain ⟨l1, l2, _, hxa, _, _⟩ := findP_some hf
      exact h.turn hf hxa (.inr (.inl rfl))
    | none =>
      have hnf := findP_none.1 hf
      cases hr : roomP size cs with
      | none => exact h
      | some cs1 =>
        obtain ⟨h1, h2, h3, h4, h5⟩ := h.room hr
        refine ⟨nodup_snoc h1.nod fun y hy => hnf y (h5 y hy), ?_, by simp only [List.length_append, List.length_cons, List.length_nil]; omega⟩
        simp only [fastP_app, fastP_cons, fastP_nil, Bool.false_eq_true, if_false]
        have := h1.fast; omega
theorem Rw.put {size : Int} {s : DS} {cs : List Pl} (h : Rw size cs) (a : Int) (d : Blk) : Rw size (putC size s cs a d).1 := by
  unfold putC baseC
  split
  · exact h
  · cases hf : findP cs a with
    | some x => exact h.turn (y := ⟨a, d, true⟩) hf rfl (.inr (.inr (.inr (.inr h.len))))
    | none =>
      have hnf := findP_none.1 hf
      cases hr : roomP size cs with
      | none => exact h
      | some cs1 =>
        obtain ⟨h1, h2, h3, h4, h5⟩ := h.room hr
        refine ⟨nodup_snoc h1.nod fun y hy => hnf y (h5 y hy), ?_, by simp only [List.length_append, List.length_cons, List.length_nil]; omega⟩
        simp only [fastP_app, fastP_cons, fastP_nil, if_true]
        omega
theorem Rw.calm {size : Int} {cs : List Pl} (h : Rw size cs) (a : Int) : Rw size (calmP cs a) := by
  have hl := h.len
  have := fastP_le (calmP cs a)
  rw [calmP_len] at this
  exact ⟨by rw [calmP_at]; exact h.nod, by omega, by rw [calmP_len]; exact hl⟩
theorem Rw.flush {size : Int} {s : DS} {cs : List Pl} (h : Rw size cs) (a : Int) : Rw size (flushC s cs a).2.1 := by
  unfold flushC
  split
  · exact h
  · split
    · exact h
    · split
      · exact h
      · split
        · exact h
        · exact h.calm a
theorem DS.light_fit {s : DS} {k : Nat} (h : s.fit k) {n : Int} (hn : n ≤ 9223372036854775807) : (s.light n).fit k := by
  obtain ⟨h1, h2, h3, h4, h5⟩ := h
  unfold DS.light
  split
  · exact ⟨h1, h2, h3, h4, h5⟩
  · exact ⟨h1, h2, by simp only; omega, h4, h5⟩
theorem DS.crash_fit {s : DS} {k : Nat} (h : s.fit k) : s.crash.fit k := by
  obtain ⟨h1, h2, h3, h4, h5⟩ := h
  exact ⟨h1, h2, ⟨by show (-1 : Int) ≤ -1; omega, by show (-1 : Int) ≤ _; omega⟩, Nat.zero_le _, Nat.zero_le _⟩
theorem readC_fit {size : Int} {s : DS} {cs : List Pl} {k : Nat} (h : s.fit k) (a : Int) : (readC size s cs a).1.fit (k + 1) := by
  have h0 := h.mono (Nat.le_succ k)
  unfold readC
  split
  · exact h0
  · split
    · exact h0
    · split
      · exact h0
      · exact DS.read_fit h a
theorem flushC_fit {s : DS} {cs : List Pl} {k : Nat} (h : s.fit k) (a : Int) : (flushC s cs a).1.fit (k + 1) := by
  have h0 := h.mono (Nat.le_succ k)
  unfold flushC
  split
  · exact h0
  · split
    · exact h0
    · split
      · exact h0
      · split <;> exact DS.write_fit h _ _
theorem readC_n {size : Int} {s : DS} {cs : List Pl} (a : Int) : (readC size s cs a).1.n = s.n := by
  unfold readC
  split
  · rfl
  · split
    · rfl
    · split
      · rfl
      · unfold DS.read
        split
        · rfl
        · split <;> rfl
theorem flushC_n {s : DS} {cs : List Pl} (a : Int) : (flushC s cs a).1.n = s.n := by
  unfold flushC
  split
  · rfl
  · split
    · rfl
    · split
      · rfl
      · split <;> exact DS.write_n _ _ _
theorem barrier_n (s : DS) : s.barrier.1.n = s.n := by
  unfold DS.barrier DS.burn
  split
  · rfl
  · split
    · rfl
    · split <;> rfl
theorem light_n (s : DS) (n : Int) : (s.light n).n = s.n := by unfold DS.light; split <;> rfl

/-! ### The things -/
theorem DiskAt.frame {H H' : Hp} {p : Nat} {s : DS} {O O' : Nat → Prop} (h : DiskAt H p s O) (hb : ∀ b, O b → H'[b]? = H[b]?) (hO : ∀ b, O b → O' b) (hl : ∀ b, O' b → b < H'.size) : DiskAt H' p s O' := by
  obtain ⟨⟨mh, ml, ps, hs, fh, fl, nh, nl, pend, hist, hd, o1, o2, o3, o4, o5⟩, _⟩ := h
  exact ⟨⟨mh, ml, ps, hs, fh, fl, nh, nl, pend, hist, hd.of (hb _ o1) (hb _ o2) (hb _ o3) (fun b e => hb _ (o4 b e)) (fun b e => hb _ (o5 b e)), hO _ o1, hO _ o2, hO _ o3, fun b e => hO _ (o4 b e), fun b e => hO _ (o5 b e)⟩, hl⟩
theorem CacheAt.frame {H H' : Hp} {cb p : Nat} {size : Int} {cs : List Pl} {O O' : Nat → Prop} (h : CacheAt H cb p size cs O) (hb : ∀ b, O b → H'[b]? = H[b]?) (hO : ∀ b, O b → O' b) (hl : ∀ b, O' b → b < H'.size) : CacheAt H' cb p size cs O' := by
  obtain ⟨⟨row, mp, h1, h2, h3⟩, _⟩ := h
  exact ⟨⟨row, mp, h1.of fun b hb' => hb b (h3 b hb'), h2, fun b hb' => hO b (h3 b hb')⟩, hl⟩
def diskOb (p : Nat) (s : DS) : Ob := ⟨fun H O => DiskAt H p s O, fun h => h.lt, fun h hb _ hO hl => h.frame hb hO hl⟩
def rdOb (r : Nat) (s : DS) : Ob := ⟨fun H O => RD H r s O, fun h => h.lt, fun h hb _ hO hl => h.frame hb hO hl⟩
def cacheOb (cb p : Nat) (size : Int) (cs : List Pl) : Ob := ⟨fun H O => CacheAt H cb p size cs O, fun h => h.lt, fun h hb _ hO hl => h.frame hb hO hl⟩
def rcOb (c r : Nat) (size : Int) (cs : List Pl) : Ob := ⟨fun H O => RC H c r size cs O, fun h => h.lt, fun h hb _ hO hl => h.frame hb hO hl⟩
def noOb : Ob := ⟨fun H O => ∀ b, O b → b < H.size, fun h => h, fun _ _ _ _ hl => hl⟩
/-- A list of numbers. -/
def intsOb (v : Value) (xs : List Int) : Ob :=
  ⟨fun H O => Sv 3 1 H v (ints xs) ∧ (∀ b, blkOf v = some b → O b) ∧ ∀ b, O b → b < H.size, fun h => h.2.2, fun h hb _ hO hl => ⟨h.1.of fun b e => hb b (h.2.1 b e), fun b e => hO b (h.2.1 b e), hl⟩⟩

/-- A cache, the program's at cb, the document's at rc. -/
structure C2 where
  cb : Nat
  rc : Nat
  size : Int
  cs : List Pl
def cObj (p : Nat) : Option C2 → Ob
  | none => noOb
  | some q => cacheOb q.cb p q.size q.cs
def rObj (r : Nat) : Option C2 → Ob
  | none => noOb
  | some q => rcOb q.rc r q.size q.cs
def cVal : Option C2 → Value
  | none => .pointer none
  | some q => ptrV q.cb
def wVal : Option C2 → Value
  | none => .pointer none
  | some q => ptrV q.rc
/-- A list that was told: the program's, the document's, the numbers. -/
structure Td where
  l : Value
  k : Value
  xs : List Int
def wdC (p r : Nat) (a b : Option C2) (l k : Value) : Array Value := #[ptrV p, ptrV r, cVal a, cVal b, wVal a, wVal b, l, k]
def lsC (f : Td → Value) (tl : List Td) : List (Array Value) := tl.map fun t => #[f t]
structure WC (H : Hp) (x p r : Nat) (a b : Option C2) (tl : List Td) (l k : Value) : Prop where
  top : H[x]? = some (.cells (wdC p r a b l k) 41)
  ls : Sv 46 1 H l (lsC Td.l tl)
  ks : Sv 46 1 H k (lsC Td.k tl)
  d1 : ∀ y, blkOf l = some y → y ≠ x
  d2 : ∀ y, blkOf k = some y → y ≠ x ∧ blkOf l ≠ some y
def wOb (x p r : Nat) (a b : Option C2) (tl : List Td) : Ob :=
  ⟨fun H O => (∃ l k, WC H x p r a b tl l k ∧ O x ∧ (∀ y, blkOf l = some y → O y) ∧ ∀ y, blkOf k = some y → O y) ∧ ∀ y, O y → y < H.size, fun h => h.2, fun h hb _ hO hl => by
    obtain ⟨⟨l, k, hc, o1, o2, o3⟩, _⟩ := h
    exact ⟨⟨l, k, { hc with top := by rw [hb _ o1]; exact hc.top, ls := hc.ls.of fun y e => hb _ (o2 y e), ks := hc.ks.of fun y e => hb _ (o3 y e) }, hO _ o1, fun y e => hO _ (o2 y e), fun y e => hO _ (o3 y e)⟩, hl⟩⟩
def tdL (tl : List Td) : List Ob := tl.flatMap fun t => [intsOb t.l t.xs, intsOb t.k t.xs]
/-- All: the world, the disks, the caches, the lists that were told. (s2, b: the document's; between its turn and the program's they differ.) -/
def baseL (x p r : Nat) (s1 s2 : DS) (a b : Nat → Option C2) (w0 w1 : Option C2) (tl : List Td) : List Ob :=
  [wOb x p r w0 w1 tl, diskOb p s1, rdOb r s2, cObj p (a 0), cObj p (a 1), rObj r (b 0), rObj r (b 1)] ++ tdL tl
def updQ (a : Nat → Option C2) (k : Nat) (q : C2) : Nat → Option C2 := fun j => if j = k then some q else a j

/-- A step: what is nobody's stays, and stays nobody's. -/
structure Qs (H : Hp) (col : Nat → Nat) (H' : Hp) (col' : Nat → Nat) : Prop where
  cg : Cg H col col'
  le : H.size ≤ H'.size
  same : ∀ b, b < H.size → col b = 0 → H'[b]? = H[b]?
theorem Qs.trans {H H' H'' : Hp} {a b c : Nat → Nat} (h : Qs H a H' b) (h' : Qs H' b H'' c) : Qs H a H'' c :=
  ⟨h.cg.trans h'.cg h.le, Nat.le_trans h.le h'.le, fun k hk h0 => (h'.same k (Nat.lt_of_lt_of_le hk h.le) (by rw [h.cg k hk]; exact h0)).trans (h.same k hk h0)⟩
theorem Qs.refl (H : Hp) (col : Nat → Nat) : Qs H col H col := ⟨Cg.refl H col, Nat.le_refl _, fun _ _ _ => rfl⟩
theorem Ext.qs {H H' : Hp} (e : Ext H H') (col : Nat → Nat) : Qs H col H' col := ⟨Cg.refl H col, e.le, fun b hb _ => e.same b hb⟩
theorem Qs.at {H H' : Hp} {a b : Nat → Nat} (h : Qs H a H' b) {k : Nat} {o : Obj} (hk : H[k]? = some o) (h0 : a k = 0) : H'[k]? = some o := by rw [h.same k (Go.Vc.lt_of_block hk) h0]; exact hk
theorem Qs.zero {H H' : Hp} {a b : Nat → Nat} (h : Qs H a H' b) {k : Nat} (hk : k < H.size) (h0 : a k = 0) : b k = 0 := by rw [h.cg k hk]; exact h0

section
variable {col : Nat → Nat} {H : Hp} {x p r : Nat} {s1 s2 : DS} {a b : Nat → Option C2} {w0 w1 : Option C2} {tl : List Td} {R : Value → Hp → Prop} {n : Nat} {q : C2}
theorem base_disk (x p r : Nat) (s1 s2 : DS) (a b : Nat → Option C2) (w0 w1 : Option C2) (tl : List Td) : (baseL x p r s1 s2 a b w0 w1 tl)[1]? = some (diskOb p s1) := rfl
theorem base_rd (x p r : Nat) (s1 s2 : DS) (a b : Nat → Option C2) (w0 w1 : Option C2) (tl : List Td) : (baseL x p r s1 s2 a b w0 w1 tl)[2]? = some (rdOb r s2) := rfl
theorem base_c (hn : n = 0 ∨ n = 1) (ha : a n = some q) : (baseL x p r s1 s2 a b w0 w1 tl)[3 + n]? = some (cacheOb q.cb p q.size q.cs) := by
  rcases hn with rfl | rfl
  · show some (cObj p (a 0)) = _; rw [ha]; rfl
  · show some (cObj p (a 1)) = _; rw [ha]; rfl
theorem base_r (hn : n = 0 ∨ n = 1) (hb : b n = some q) : (baseL x p r s1 s2 a b w0 w1 tl)[5 + n]? = some (rcOb q.rc r q.size q.cs) := by
  rcases hn with rfl | rfl
  · show some (rObj r (b 0)) = _; rw [hb]; rfl
  · show some (rObj r (b 1)) = _; rw [hb]; rfl
theorem base_set_c (hn : n = 0 ∨ n = 1) {s' : DS} {q' : C2} : ((baseL x p r s1 s2 a b w0 w1 tl).set 1 (diskOb p s')).set (3 + n) (cacheOb q'.cb p q'.size q'.cs) = baseL x p r s' s2 (updQ a n q') b w0 w1 tl := by
  rcases hn with rfl | rfl <;> rfl
theorem base_set_r (hn : n = 0 ∨ n = 1) {s' : DS} {q' : C2} : ((baseL x p r s1 s2 a b w0 w1 tl).set 2 (rdOb r s')).set (5 + n) (rcOb q'.rc r q'.size q'.cs) = baseL x p r s1 s' a (updQ b n q') w0 w1 tl := by
  rcases hn with rfl | rfl <;> rfl
/-- A step's outcome, out of what two of the things have come to. -/
theorem wd_two {l : List Ob} (hw : Wd col H l) {i j : Nat} (hij : i ≠ j) {X X' Y Y' : Ob} (hx : l[i]? = some X) (hy : l[j]? = some Y) {H' : Hp} (k : Kp (fun b => col b = i + 1 ∨ col b = j + 1) H H') {O' Q' : Nat → Prop} (hx' : X'.at_ H' O') (hy' : Y'.at_ H' Q')
    (hO : ∀ b, O' b → col b = i + 1 ∨ H.size ≤ b) (hQ : ∀ b, Q' b → col b = j + 1 ∨ H.size ≤ b) (dis : ∀ b, H.size ≤ b → O' b → ¬ Q' b) : ∃ col', Wd col' H' ((l.set i X').set j Y') ∧ Qs H col H' col' := by
  obtain ⟨col', h1, h2⟩ := hw.step2 hij hx hy k hx' hy' hO hQ dis
  exact ⟨col', h1, h2, k.le, fun b hb h0 => k.same b hb fun h => by omega⟩
theorem wd_one {l : List Ob} (hw : Wd col H l) {i : Nat} {X X' : Ob} (hx : l[i]? = some X) {H' : Hp} (k : Kp (fun b => col b = i + 1) H H') {O' : Nat → Prop} (hx' : X'.at_ H' O') (hO : ∀ b, O' b → col b = i + 1 ∨ H.size ≤ b) : ∃ col', Wd col' H' (l.set i X') ∧ Qs H col H' col' := by
  obtain ⟨col', h1, h2⟩ := hw.step hx k hx' hO
  exact ⟨col', h1, h2, k.le, fun b hb h0 => k.same b hb fun h => by omega⟩

theorem pw_read (hw : Wd col H (baseL x p r s1 s2 a b w0 w1 tl)) (hn : n = 0 ∨ n = 1) (ha : a n = some q) (hr : s1.reads < 4611686018427387904 ∧ 0 ≤ s1.reads) (hsz : q.size ≤ 4096) {at_ : Int}
    (k : ∀ H' col', Wd col' H' (baseL x p r (readC q.size s1 q.cs at_).1 s2 (updQ a n { q with cs := (readC q.size s1 q.cs at_).2.1 }) b w0 w1 tl) → Qs H col H' col' → R (.tuple #[.agg (readC q.size s1 q.cs at_).2.2.1, .int .i64 (readC q.size s1 q.cs at_).2.2.2]) H') :
    Fc Try.prog 15 #[ptrV q.cb, .int .i64 at_] H R := by
  have hd := hw.get (base_disk x p r s1 s2 a b w0 w1 tl)
  have hc := hw.get (base_c hn ha)
  refine cache_read hd hc (fun b h1 h2 => by omega) hr (by omega) fun H' Oc' hk hO hd' hc' => ?_
  obtain ⟨col', h1, h2⟩ := wd_two hw (i := 1) (j := 3 + n) (by omega) (base_disk x p r s1 s2 a b w0 w1 tl) (base_c hn ha) (hk.mono fun b _ h => h) (X' := diskOb p (readC q.size s1 q.cs at_).1) (Y' := cacheOb q.cb p q.size (readC q.size s1 q.cs at_).2.1) hd' hc' (fun b hb => .inl hb) hO fun b hb ho => by have := hw.zero hb; omega
  have e := base_set_c (x := x) (p := p) (r := r) (s1 := s1) (s2 := s2) (a := a) (b := b) (w0 := w0) (w1 := w1) (tl := tl) hn (s' := (readC q.size s1 q.cs at_).1) (q' := { q with cs := (readC q.size s1 q.cs at_).2.1 })
  exact k H' col' (e ▸ h1) h2
theorem pw_put (hw : Wd col H (baseL x p r s1 s2 a b w0 w1 tl)) (hn : n = 0 ∨ n = 1) (ha : a n = some q) (hsz : q.size ≤ 4096) (hl : (q.cs.length : Int) ≤ 4096) {at_ : Int} {d : Blk} (hB : IsB d)
    (k : ∀ H' col', Wd col' H' (baseL x p r s1 s2 (updQ a n { q with cs := (putC q.size s1 q.cs at_ d).1 }) b w0 w1 tl) → Qs H col H' col' → R (.int .i64 (putC q.size s1 q.cs at_ d).2) H') :
    Fc Try.prog 16 #[ptrV q.cb, .int .i64 at_, .agg d] H R := by
  have hd := hw.get (base_disk x p r s1 s2 a b w0 w1 tl)
  have hc := hw.get (base_c hn ha)
  refine cache_put hd hc (fun b h1 h2 => by omega) (by omega) (by omega) hB fun H' Oc' hk hO hd' hc' => ?_
  obtain ⟨col', h1, h2⟩ := wd_two hw (i := 1) (j := 3 + n) (by omega) (base_disk x p r s1 s2 a b w0 w1 tl) (base_c hn ha) (hk.mono fun b _ h => .inr h) (X' := diskOb p s1) (Y' := cacheOb q.cb p q.size (putC q.size s1 q.cs at_ d).1) hd' hc' (fun b hb => .inl hb) hO fun b hb ho => by have := hw.zero hb; omega
  have e := base_set_c (x := x) (p := p) (r := r) (s1 := s1) (s2 := s2) (a := a) (b := b) (w0 := w0) (w1 := w1) (tl := tl) hn (s' := s1) (q' := { q with cs := (putC q.size s1 q.cs at_ d).1 })
  exact k H' col' (e ▸ h1) h2
theorem pw_flush (hw : Wd col H (baseL x p r s1 s2 a b w0 w1 tl)) (hn : n = 0 ∨ n = 1) (ha : a n = some q) {kf : Nat} (hft : s1.fit kf) (hkf : kf < 100000000000) (hl : (q.cs.length : Int) ≤ 4096) {at_ : Int}
    (k : ∀ H' col', Wd col' H' (baseL x p r (flushC s1 q.cs at_).1 s2 (updQ a n { q with cs := (flushC s1 q.cs at_).2.1 }) b w0 w1 tl) → Qs H col H' col' → R (.int .i64 (flushC s1 q.cs at_).2.2) H') :
    Fc Try.prog 17 #[ptrV q.cb, .int .i64 at_] H R := by
  have hd := hw.get (base_disk x p r s1 s2 a b w0 w1 tl)
  have hc := hw.get (base_c hn ha)
  refine cache_flush hd hc (fun b h1 h2 => by omega) hft hkf (by omega) fun H' Od' hk hO hd' hc' => ?_
  obtain ⟨col', h1, h2⟩ := wd_two hw (i := 1) (j := 3 + n) (by omega) (base_disk x p r s1 s2 a b w0 w1 tl) (base_c hn ha) (hk.mono fun b _ h => h) (X' := diskOb p (flushC s1 q.cs at_).1) (Y' := cacheOb q.cb p q.size (flushC s1 q.cs at_).2.1) hd' hc' hO (fun b hb => .inl hb) fun b hb _ ho => by have := hw.zero hb; omega
  have e := base_set_c (x := x) (p := p) (r := r) (s1 := s1) (s2 := s2) (a := a) (b := b) (w0 := w0) (w1 := w1) (tl := tl) hn (s' := (flushC s1 q.cs at_).1) (q' := { q with cs := (flushC s1 q.cs at_).2.1 })
  exact k H' col' (e ▸ h1) h2
theorem pr_read (hw : Wd col H (baseL x p r s1 s2 a b w0 w1 tl)) (hn : n = 0 ∨ n = 1) (hb : b n = some q) (hr : 0 ≤ s2.reads ∧ s2.reads < 4611686018427387904) (hR : Rw q.size q.cs) (hsz : q.size ≤ 4096) {at_ : Int}
    (k : ∀ H' col', Wd col' H' (baseL x p r s1 (readC q.size s2 q.cs at_).1 a (updQ b n { q with cs := (readC q.size s2 q.cs at_).2.1 }) w0 w1 tl) → Qs H col H' col' → R (.tuple #[.agg (readC q.size s2 q.cs at_).2.2.1, .int .i64 (readC q.size s2 q.cs at_).2.2.2]) H') :
    Fc Try.prog 47 #[ptrV q.rc, .int .i64 at_] H R := by
  have hd := hw.get (base_rd x p r s1 s2 a b w0 w1 tl)
  have hc := hw.get (base_r hn hb)
  have hlen := hR.len
  refine rc_read hd hc (fun b h1 h2 => by omega) hR.fast (by omega) hr fun H' Oc' hk hO hd' hc' => ?_
  obtain ⟨col', h1, h2⟩ := wd_two hw (i := 2) (j := 5 + n) (by omega) (base_rd x p r s1 s2 a b w0 w1 tl) (base_r hn hb) (hk.mono fun b _ h => h) (X' := rdOb r (readC q.size s2 q.cs at_).1) (Y' := rcOb q.rc r q.size (readC q.size s2 q.cs at_).2.1) hd' hc' (fun b hb => .inl hb) hO fun b hb ho => by have := hw.zero hb; omega
  have e := base_set_r (x := x) (p := p) (r := r) (s1 := s1) (s2 := s2) (a := a) (b := b) (w0 := w0) (w1 := w1) (tl := tl) hn (s' := (readC q.size s2 q.cs at_).1) (q' := { q with cs := (readC q.size s2 q.cs at_).2.1 })
  exact k H' col' (e ▸ h1) h2
theorem pr_put (hw : Wd col H (baseL x p r s1 s2 a b w0 w1 tl)) (hn : n = 0 ∨ n = 1) (hb : b n = some q) (hR : Rw q.size q.cs) (hsz : q.size ≤ 4096) {at_ : Int} {d : Blk} (hB : IsB d)
    (k : ∀ H' col', Wd col' H' (baseL x p r s1 s2 a (updQ b n { q with cs := (putC q.size s2 q.cs at_ d).1 }) w0 w1 tl) → Qs H col H' col' → R (.int .i64 (putC q.size s2 q.cs at_ d).2) H') :
    Fc Try.prog 48 #[ptrV q.rc, .int .i64 at_, .agg d] H R := by
  have hd := hw.get (base_rd x p r s1 s2 a b w0 w1 tl)
  have hc := hw.get (base_r hn hb)
  have hlen := hR.len
  refine rc_put hd hc (fun b h1 h2 => by omega) hR.fast (by omega) hB fun H' Oc' hk hO hd' hc' => ?_
  obtain ⟨col', h1, h2⟩ := wd_two hw (i := 2) (j := 5 + n) (by omega) (base_rd x p r s1 s2 a b w0 w1 tl) (base_r hn hb) (hk.mono fun b _ h => .inr h) (X' := rdOb r s2) (Y' := rcOb q.rc r q.size (putC q.size s2 q.cs at_ d).1) hd' hc' (fun b hb => .inl hb) hO fun b hb ho => by have := hw.zero hb; omega
  have e := base_set_r (x := x) (p := p) (r := r) (s1 := s1) (s2 := s2) (a := a) (b := b) (w0 := w0) (w1 := w1) (tl := tl) hn (s' := s2) (q' := { q with cs := (putC q.size s2 q.cs at_ d).1 })
  exact k H' col' (e ▸ h1) h2
theorem pr_flush (hw : Wd col H (baseL x p r s1 s2 a b w0 w1 tl)) (hn : n = 0 ∨ n = 1) (hb : b n = some q) {kf : Nat} (hft : s2.fit kf) (hkf : kf < 100000000000) (hR : Rw q.size q.cs) (hsz : q.size ≤ 4096) {at_ : Int}
    (k : ∀ H' col', Wd col' H' (baseL x p r s1 (flushC s2 q.cs at_).1 a (updQ b n { q with cs := (flushC s2 q.cs at_).2.1 }) w0 w1 tl) → Qs H col H' col' → R (.int .i64 (flushC s2 q.cs at_).2.2) H') :
    Fc Try.prog 49 #[ptrV q.rc, .int .i64 at_] H R := by
  have hd := hw.get (base_rd x p r s1 s2 a b w0 w1 tl)
  have hc := hw.get (base_r hn hb)
  have hlen := hR.len
  obtain ⟨m1, m2, m3, _, _⟩ := hft
  refine rc_flush hd hc (fun b h1 h2 => by omega) hR.nod (by omega) (by omega) m3 fun H' hk hd' hc' => ?_
  obtain ⟨col', h1, h2⟩ := wd_two hw (i := 2) (j := 5 + n) (by omega) (base_rd x p r s1 s2 a b w0 w1 tl) (base_r hn hb) (hk.mono fun b _ h => h) (X' := rdOb r (flushC s2 q.cs at_).1) (Y' := rcOb q.rc r q.size (flushC s2 q.cs at_).2.1) hd' hc' (fun b hb => .inl hb) (fun b hb => .inl hb) fun b hb ho => by have := hw.zero hb; omega
  have e := base_set_r (x := x) (p := p) (r := r) (s1 := s1) (s2 := s2) (a := a) (b := b) (w0 := w0) (w1 := w1) (tl := tl) hn (s' := (flushC s2 q.cs at_).1) (q' := { q with cs := (flushC s2 q.cs at_).2.1 })
  exact k H' col' (e ▸ h1) h2
/-- The disk alone. -/
theorem pw_disk (hw : Wd col H (baseL x p r s1 s2 a b w0 w1 tl)) {H' : Hp} {s' : DS} {O' : Nat → Prop} (hk : Kp (fun b => col b = 2) H H') (hd : DiskAt H' p s' O') (hO : ∀ b, O' b → col b = 2 ∨ H.size ≤ b) : ∃ col', Wd col' H' (baseL x p r s' s2 a b w0 w1 tl) ∧ Qs H col H' col' := by
  obtain ⟨col', h1, h2⟩ := wd_one hw (i := 1) (base_disk x p r s1 s2 a b w0 w1 tl) hk (X' := diskOb p s') hd hO
  exact ⟨col', h1, h2⟩
theorem pr_disk (hw : Wd col H (baseL x p r s1 s2 a b w0 w1 tl)) {H' : Hp} {s' : DS} {O' : Nat → Prop} (hk : Kp (fun b => col b = 3) H H') (hd : RD H' r s' O') (hO : ∀ b, O' b → col b = 3 ∨ H.size ≤ b) : ∃ col', Wd col' H' (baseL x p r s1 s' a b w0 w1 tl) ∧ Qs H col H' col' := by
  obtain ⟨col', h1, h2⟩ := wd_one hw (i := 2) (base_rd x p r s1 s2 a b w0 w1 tl) hk (X' := rdOb r s') hd hO
  exact ⟨col', h1, h2⟩
end
end Go.Vc
