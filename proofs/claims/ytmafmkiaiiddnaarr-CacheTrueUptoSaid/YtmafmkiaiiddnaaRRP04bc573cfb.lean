/- Parts of a proof, joined in build order: a calculus of contracts, an executor, contracts of functions. -/
import Derived.Test.YtmafmkiaiiddnaaRRP5667da1141
import Derived.Test.YtmafmkiaiiddnaaRRP40b9f8b5b9
import Derived.LoopNIn
import Derived.RangeFuncLeaves
import Derived.Test.YtmafmkiaiiddnaaRRPf8dad8765c
import Derived.Test.YtmafmkiaiiddnaaRRP86c301f506
/- Xc, part Kb: frames and regions, run. -/
set_option linter.unusedVariables false
set_option linter.unusedSectionVars false
set_option linter.unusedSimpArgs false
namespace Go.Xc
open Go.Vc
variable [Sites]

/-! ### Frames -/
def cvS : Value → CV
  | .int k n => .int k n
  | .bool b => .bool b
  | .string s => .str s
  | .pointer none => .nilp
  | .slice none 0 0 => .nils
  | .map none => .nilm
  | .nilFunc => .nilf
  | _ => .junk
theorem cvS_ok (m : M) (v : Value) : Vrel m (cvS v) v := by
  unfold cvS
  split <;> first | rfl | trivial
def packL : List Value → Option (List CV)
  | [] => some []
  | v :: l => (match toP (cvS v), packL l with
    | some [p], some r => some (consP p r)
    | _, _ => none)
theorem packL_ok (m : M) : ∀ {l : List Value} {ps : List CV}, packL l = some ps → Crel m ps l
  | [], ps, h => by simp only [packL, Option.some.injEq] at h; subst h; rfl
  | v :: l, ps, h => by
    unfold packL at h
    split at h
    · rename_i p r h1 h2
      injection h with h; subst h
      refine consP_ok ?_
      have hv := toP_ok (cvS_ok m v) h1
      have hl := packL_ok m h2
      have hone : v.cells.toList = [v] := by
        have : ∀ c, v = .agg c → False := fun c hc => by subst hc; simp [cvS, toP, scalar] at h1
        cases v <;> first | rfl | exact absurd rfl (this _)
      rw [hone] at hv
      rcases Crel_scalar hv with ⟨n, x, rfl⟩ | hs
      · obtain ⟨l', h3, h4⟩ := hv
        simp only [Crel] at h4; subst h4
        rw [List.append_nil] at h3
        exact ⟨l, by rw [← h3]; rfl, hl⟩
      · rw [Crel_cons hs] at hv ⊢
        obtain ⟨u, l', h3, _, h4, _⟩ := hv
        injection h3 with h3 _
        subst h3
        exact ⟨v, l, rfl, hs, h4, hl⟩
    · cases h
def cvOf : Value → CV
  | .agg c => (match packL c.toList with | some ps => .agg ps | none => .junk)
  | v => cvS v
theorem cvOf_ok (m : M) (v : Value) : Vrel m (cvOf v) v := by
  unfold cvOf
  split
  · rename_i c
    split
    · rename_i ps h; exact ⟨c, rfl, packL_ok m h⟩
    · trivial
  · exact cvS_ok m v

def slotX (fr : List CV) (k : Nat) : CV := fr.getD k (.tup [])
def evX (fr : List CV) : Operand → CV
  | .tmp t => slotX fr t
  | .const v => cvOf v
  | .global _ => .junk
  | .func f => .fn f [] []
def putX (fr : List CV) (d : Option Tmp) (v : CV) : List CV :=
  match d with
  | some d => fr.set d v
  | none => fr

theorem Vrels_len {m : M} : ∀ {xs : List CV} {l : List Value}, Vrels m xs l → xs.length = l.length
  | [], l, h => by simp only [Vrels] at h; subst h; rfl
  | x :: xs, l, h => by obtain ⟨v, l', rfl, _, h2⟩ := h; simp [Vrels_len h2]
theorem Vrels_of {m : M} : ∀ {xs : List CV} {l : List Value}, xs.length = l.length → (∀ (k : Nat) x, xs[k]? = some x → ∃ v, l[k]? = some v ∧ Vrel m x v) → Vrels m xs l
  | [], [], _, _ => rfl
  | [], _ :: _, h, _ => by simp at h
  | _ :: _, [], h, _ => by simp at h
  | x :: xs, v :: l, hl, h => by
    obtain ⟨u, h1, h2⟩ := h 0 x rfl
    simp only [List.getElem?_cons_zero, Option.some.injEq] at h1
    subst h1
    exact ⟨v, l, rfl, h2, Vrels_of (by simpa using hl) fun k y hk => by
      have := h (k + 1) y (by simpa using hk)
      simpa using this⟩
theorem slot_rel {m : M} {fr : List CV} {frv : Fr} (h : Vrels m fr frv) (k : Nat) : Vrel m (slotX fr k) (slot frv k) := by
  unfold slotX slot
  rw [List.getD_eq_getElem?_getD, List.getD_eq_getElem?_getD]
  cases hk : fr[k]? with
  | some x =>
    obtain ⟨v, h1, h2⟩ := Vrels_get h hk
    rw [h1]; exact h2
  | none =>
    have hl := Vrels_len h
    have : frv[k]? = none := by
      rw [List.getElem?_eq_none_iff] at hk ⊢; omega
    rw [this]; exact unit_rel m
theorem ev_rel {m : M} {fr : List CV} {frv : Fr} (h : Vrels m fr frv) : RhoRel m (evX fr) (ev frv) := by
  intro o
  cases o with
  | tmp t => exact slot_rel h t
  | const v => exact cvOf_ok m v
  | global g => trivial
  | func f => exact ⟨#[], #[], rfl, rfl, rfl⟩
theorem set_rel {m : M} {fr : List CV} {frv : Fr} (h : Vrels m fr frv) (d : Nat) {x : CV} {v : Value} (hx : Vrel m x v) : Vrels m (fr.set d x) (frv.set d v) := by
  have hl := Vrels_len h
  refine Vrels_of (by simp [hl]) fun k y hk => ?_
  rw [List.getElem?_set] at hk ⊢
  by_cases hd : d = k
  · subst hd
    rw [if_pos rfl] at hk ⊢
    split at hk
    · rename_i hlt
      injection hk with hk; subst hk
      exact ⟨v, by rw [if_pos (by omega)], hx⟩
    · cases hk
  · rw [if_neg hd] at hk ⊢
    exact Vrels_get h hk
theorem put_rel {m : M} {fr : List CV} {frv : Fr} (h : Vrels m fr frv) (d : Option Tmp) {x : CV} {v : Value} (hx : Vrel m x v) : Vrels m (putX fr d x) (putF frv d v) := by
  cases d with
  | none => exact h
  | some d => exact set_rel h d hx

def AgreeX (W : List Nat) (fr fr' : List CV) : Prop := fr'.length = fr.length ∧ ∀ k, k ∉ W → fr'[k]? = fr[k]?
theorem AgreeX.refl (W : List Nat) (fr : List CV) : AgreeX W fr fr := ⟨rfl, fun _ _ => rfl⟩
theorem AgreeX.trans {W : List Nat} {a b c : List CV} (h : AgreeX W a b) (h' : AgreeX W b c) : AgreeX W a c := ⟨h'.1.trans h.1, fun k hk => (h'.2 k hk).trans (h.2 k hk)⟩
theorem AgreeX.mono {W W' : List Nat} {a b : List CV} (h : AgreeX W a b) (hs : ∀ k ∈ W, k ∈ W') : AgreeX W' a b := ⟨h.1, fun k hk => h.2 k fun hm => hk (hs k hm)⟩
theorem AgreeX.put {W : List Nat} {fr : List CV} {d : Option Tmp} {v : CV} (h : ∀ k, d = some k → k ∈ W) : AgreeX W fr (putX fr d v) := by
  cases d with
  | none => exact AgreeX.refl W fr
  | some d => exact ⟨by simp [putX], fun k hk => by
      have : d ≠ k := fun e => hk (e ▸ h d rfl)
      simp [putX, List.getElem?_set, this]⟩
theorem set_sameX {fr : List CV} {d : Nat} {b : Bool} (h : slotX fr d = .bool b) : fr.set d (.bool b) = fr := by
  unfold slotX at h
  apply List.ext_getElem?
  intro j
  rw [List.getElem?_set]
  by_cases hj : d = j
  · subst hj
    rw [List.getD_eq_getElem?_getD] at h
    cases hk : fr[d]? with
    | some x =>
      rw [hk] at h
      have hlt : d < fr.length := by
        rcases Nat.lt_or_ge d fr.length with h1 | h1
        · exact h1
        · rw [List.getElem?_eq_none h1] at hk; cases hk
      simp only [Option.getD_some] at h
      simp [hlt, h]
    | none => rw [hk] at h; cases h
  · simp [hj]

/-! ### Regions -/
section
variable (P : Program) (qf : FuncId → Bool) (Z : List (Nat × CV)) (C : List (Nat × Ex))
noncomputable def xOps (dr q : Bool) (all : Array Oper) : List Oper → List Nat → List CV → CH → (List CV → CH → Bool) → Bool
  | [], _, fr, h, K => K fr h
  | o :: rest, sk, fr, h, K =>
    match o.guard with
    | none => xOp P qf Z C dr q o (evX fr) h fun v h' => xOps dr q all rest sk (putX fr o.dst v) h' K
    | some (j, want) =>
      match (all[j]?).bind (·.dst) with
      | none => false
      | some d =>
        ifX (sk.contains d)
          (match slotX fr d with
           | .tup _ => xOps dr q all rest (addSk sk o.dst) (putX fr o.dst (.tup [])) h K
           | _ => false)
          (xIte (slotX fr d)
            (ifX want (xOp P qf Z C dr q o (evX (fr.set d (.bool true))) h fun v h' => xOps dr q all rest sk (putX (fr.set d (.bool true)) o.dst v) h' K)
              (xOps dr q all rest (addSk sk o.dst) (putX (fr.set d (.bool true)) o.dst (.tup [])) h K))
            (ifX want (xOps dr q all rest (addSk sk o.dst) (putX (fr.set d (.bool false)) o.dst (.tup [])) h K)
              (xOp P qf Z C dr q o (evX (fr.set d (.bool false))) h fun v h' => xOps dr q all rest sk (putX (fr.set d (.bool false)) o.dst v) h' K)))
noncomputable def xReg (ops : Array Oper) (dr : Bool) (fr : List CV) (h : CH) (K : List CV → CH → Bool) : Bool :=
  match dr with
  | false => ifX (noSelB ops) (xOps P qf Z C false false ops ops.toList [] fr h K) false
  | true => ifX (P.follows .mixedOrders && drawB ops (clAt P qf true false ops)) (xOps P qf Z C true (anyQ qf ops) ops ops.toList [] fr h K)
    (ifX (P.follows .mixedOrders && drawB ops (clAt P qf true true ops)) (xOps P qf Z C true true ops ops.toList [] fr h K) false)
end

/-- What is asked of the way on, by the frame. -/
def FinF (H0 : Hp) (m : M) (h : CH) (H : Hp) (fr' : List CV) (h' : CH) (K : Fr → Hp → Prop) : Prop :=
  ∀ m' H' frv', Rel H0 m' h' H' → Stp h.wp m H m' H' → Vrels m' fr' frv' → K frv' H'

theorem xOps_ok {P : Program} {qf : FuncId → Bool} {Z : List (Nat × CV)} {C : List (Nat × Ex)} (he : EnvOk P Z C) {dr q : Bool} {all : Array Oper} : ∀ {l : List Oper} {sk : List Nat} {fr : List CV} {h : CH} {K : List CV → CH → Bool}, xOps P qf Z C dr q all l sk fr h K = true →
    ∃ fr' h', K fr' h' = true ∧ h'.wp = h.wp ∧ AgreeX (dstsOf l) fr fr' ∧ ∀ {H0 m H frv} {Kv : Fr → Hp → Prop}, Rel H0 m h H → Vrels m fr frv → FinF H0 m h H fr' h' Kv → vcOps P qf dr q all l sk frv H Kv
  | [], sk, fr, h, K, hk => ⟨fr, h, hk, rfl, AgreeX.refl _ _, fun {H0 m H frv Kv} hr hv hf => by
      unfold vcOps
      cases q
      · exact hf _ _ _ hr (Stp.refl _ _ _) hv
      · exact fun H' hx => hf _ _ _ (hr.ext' hx) (Stp.ext hx) hv⟩
  | o :: rest, sk, fr, h, K, hk => by
    have hWr : ∀ d ∈ dstsOf rest, d ∈ dstsOf (o :: rest) := fun d hd => by
      unfold dstsOf at *; rw [List.filterMap_cons]; split
      · exact hd
      · exact List.mem_cons_of_mem _ hd
    have hWo : ∀ d, o.dst = some d → d ∈ dstsOf (o :: rest) := fun d hdd => by unfold dstsOf; rw [List.filterMap_cons, hdd]; exact List.mem_cons_self
    have run : ∀ {fr : List CV}, (xOp P qf Z C dr q o (evX fr) h fun v h' => xOps P qf Z C dr q all rest sk (putX fr o.dst v) h' K) = true →
        ∃ fr' h', K fr' h' = true ∧ h'.wp = h.wp ∧ AgreeX (dstsOf (o :: rest)) fr fr' ∧ ∀ {H0 m H frv} {Kv : Fr → Hp → Prop}, Rel H0 m h H → Vrels m fr frv → FinF H0 m h H fr' h' Kv → vcOp P qf dr q o (ev frv) H fun v H' => vcOps P qf dr q all rest sk (putF frv o.dst v) H' Kv := by
      intro fr hk
      obtain ⟨z, h1, k1, w1, s1⟩ := xOp_ok he hk
      obtain ⟨fr', h2, k2, w2, a2, s2⟩ := xOps_ok he k1
      refine ⟨fr', h2, k2, w2.trans w1, (AgreeX.put hWo).trans (a2.mono hWr), fun {H0 m H frv Kv} hr hv hf => ?_⟩
      refine s1 hr (ev_rel hv) fun m' H' v hr' hs' hv' => ?_
      refine s2 hr' (put_rel (Vrels.mono hs'.pre _ hv) o.dst hv') fun m'' H'' frv' hr'' hs'' hv'' => ?_
      rw [w1] at hs''
      exact hf _ _ _ hr'' (hs'.trans hs'') hv''
    have skip : ∀ {fr : List CV}, xOps P qf Z C dr q all rest (addSk sk o.dst) (putX fr o.dst (.tup [])) h K = true →
        ∃ fr' h', K fr' h' = true ∧ h'.wp = h.wp ∧ AgreeX (dstsOf (o :: rest)) fr fr' ∧ ∀ {H0 m H frv} {Kv : Fr → Hp → Prop}, Rel H0 m h H → Vrels m fr frv → FinF H0 m h H fr' h' Kv → vcOps P qf dr q all rest (addSk sk o.dst) (putF frv o.dst undef) H Kv := by
      intro fr hk
      obtain ⟨fr', h2, k2, w2, a2, s2⟩ := xOps_ok he hk
      exact ⟨fr', h2, k2, w2, (AgreeX.put hWo).trans (a2.mono hWr), fun {H0 m H frv Kv} hr hv hf => s2 hr (put_rel hv o.dst (unit_rel m)) hf⟩
    unfold xOps at hk
    unfold vcOps
    cases hg : o.guard with
    | none =>
      simp only [hg] at hk ⊢
      exact run hk
    | some g =>
      obtain ⟨j, want⟩ := g
      simp only [hg] at hk ⊢
      cases hjd : (all[j]?).bind (·.dst) with
      | none => simp only [hjd] at hk; cases hk
      | some d =>
        simp only [hjd] at hk ⊢
        rw [ifX_eq] at hk
        by_cases hsk : sk.contains d = true
        · rw [if_pos hsk] at hk
          simp only [if_pos hsk]
          split at hk
          · rename_i vs hsl
            obtain ⟨fr', h2, k2, w2, a2, s2⟩ := skip hk
            refine ⟨fr', h2, k2, w2, a2, fun {H0 m H frv Kv} hr hv hf => ?_⟩
            have hs := slot_rel hv d
            rw [hsl] at hs
            obtain ⟨c, hc, _⟩ := hs
            rw [hc]
            exact s2 hr hv hf
          · cases hk
        · rw [if_neg hsk] at hk
          simp only [if_neg hsk]
          unfold xIte at hk
          split at hk
          · rename_i hsl
            rw [set_sameX hsl] at hk
            have hval : ∀ {m frv}, Vrels m fr frv → slot frv d = .bool true ∧ frv.set d (.bool true) = frv := fun {m frv} hv => by
              have hs := slot_rel hv d
              rw [hsl] at hs
              exact ⟨hs, set_same hs (by simp [undef])⟩
            cases want
            · simp only [ifX_eq, Bool.false_eq_true, if_false] at hk ⊢
              obtain ⟨fr', h2, k2, w2, a2, s2⟩ := skip hk
              refine ⟨fr', h2, k2, w2, a2, fun {H0 m H frv Kv} hr hv hf => ?_⟩
              obtain ⟨e1, e2⟩ := hval hv
              rw [e1, Ite_true, e2]
              exact s2 hr hv hf
            · simp only [ifX_eq, if_true] at hk ⊢
              obtain ⟨fr', h2, k2, w2, a2, s2⟩ := run hk
              refine ⟨fr', h2, k2, w2, a2, fun {H0 m H frv Kv} hr hv hf => ?_⟩
              obtain ⟨e1, e2⟩ := hval hv
              rw [e1, Ite_true, e2]
              exact s2 hr hv hf
          · rename_i hsl
            rw [set_sameX hsl] at hk
            have hval : ∀ {m frv}, Vrels m fr frv → slot frv d = .bool false ∧ frv.set d (.bool false) = frv := fun {m frv} hv => by
              have hs := slot_rel hv d
              rw [hsl] at hs
              exact ⟨hs, set_same hs (by simp [undef])⟩
            cases want
            · simp only [ifX_eq, Bool.false_eq_true, if_false] at hk ⊢
              obtain ⟨fr', h2, k2, w2, a2, s2⟩ := run hk
              refine ⟨fr', h2, k2, w2, a2, fun {H0 m H frv Kv} hr hv hf => ?_⟩
              obtain ⟨e1, e2⟩ := hval hv
              rw [e1, Ite_false, e2]
              exact s2 hr hv hf
            · simp only [ifX_eq, if_true] at hk ⊢
              obtain ⟨fr', h2, k2, w2, a2, s2⟩ := skip hk
              refine ⟨fr', h2, k2, w2, a2, fun {H0 m H frv Kv} hr hv hf => ?_⟩
              obtain ⟨e1, e2⟩ := hval hv
              rw [e1, Ite_false, e2]
              exact s2 hr hv hf
          · cases hk

section
variable (P : Program) (qf : FuncId → Bool) (Z : List (Nat × CV)) (C : List (Nat × Ex))
noncomputable def xA (dr q : Bool) (all : Array Oper) : List Oper → List Nat → List CV → CH → (List Nat → List CV → CH → Bool) → Bool
  | [], sk, fr, h, K => K sk fr h
  | o :: rest, sk, fr, h, K =>
    match o.guard with
    | none => xOp P qf Z C dr q o (evX fr) h fun v h' => xA dr q all rest sk (putX fr o.dst v) h' K
    | some (j, want) =>
      match (all[j]?).bind (·.dst) with
      | none => false
      | some d =>
        ifX (sk.contains d)
          (match slotX fr d with
           | .tup _ => xA dr q all rest (addSk sk o.dst) (putX fr o.dst (.tup [])) h K
           | _ => false)
          (xIte (slotX fr d)
            (ifX want (xOp P qf Z C dr q o (evX (fr.set d (.bool true))) h fun v h' => xA dr q all rest sk (putX (fr.set d (.bool true)) o.dst v) h' K)
              (xA dr q all rest (addSk sk o.dst) (putX (fr.set d (.bool true)) o.dst (.tup [])) h K))
            (ifX want (xA dr q all rest (addSk sk o.dst) (putX (fr.set d (.bool false)) o.dst (.tup [])) h K)
              (xOp P qf Z C dr q o (evX (fr.set d (.bool false))) h fun v h' => xA dr q all rest sk (putX (fr.set d (.bool false)) o.dst v) h' K)))
end
theorem xA_ok {P : Program} {qf : FuncId → Bool} {Z : List (Nat × CV)} {C : List (Nat × Ex)} (he : EnvOk P Z C) {dr q : Bool} {all : Array Oper} : ∀ {l : List Oper} {sk : List Nat} {fr : List CV} {h : CH} {K : List Nat → List CV → CH → Bool}, xA P qf Z C dr q all l sk fr h K = true →
    ∃ sk' fr' h', K sk' fr' h' = true ∧ h'.wp = h.wp ∧ AgreeX (dstsOf l) fr fr' ∧ ∀ {H0 m H frv} {Kv : List Nat → Fr → Hp → Prop}, Rel H0 m h H → Vrels m fr frv → FinF H0 m h H fr' h' (Kv sk') → vcA P qf dr q all l sk frv H Kv
  | [], sk, fr, h, K, hk => ⟨sk, fr, h, hk, rfl, AgreeX.refl _ _, fun {H0 m H frv Kv} hr hv hf => by
      unfold vcA
      exact hf _ _ _ hr (Stp.refl _ _ _) hv⟩
  | o :: rest, sk, fr, h, K, hk => by
    have hWr : ∀ d ∈ dstsOf rest, d ∈ dstsOf (o :: rest) := fun d hd => by
      unfold dstsOf at *; rw [List.filterMap_cons]; split
      · exact hd
      · exact List.mem_cons_of_mem _ hd
    have hWo : ∀ d, o.dst = some d → d ∈ dstsOf (o :: rest) := fun d hdd => by unfold dstsOf; rw [List.filterMap_cons, hdd]; exact List.mem_cons_self
    have run : ∀ {fr : List CV}, (xOp P qf Z C dr q o (evX fr) h fun v h' => xA P qf Z C dr q all rest sk (putX fr o.dst v) h' K) = true →
        ∃ sk' fr' h', K sk' fr' h' = true ∧ h'.wp = h.wp ∧ AgreeX (dstsOf (o :: rest)) fr fr' ∧ ∀ {H0 m H frv} {Kv : List Nat → Fr → Hp → Prop}, Rel H0 m h H → Vrels m fr frv → FinF H0 m h H fr' h' (Kv sk') → vcOp P qf dr q o (ev frv) H fun v H' => vcA P qf dr q all rest sk (putF frv o.dst v) H' Kv := by
      intro fr hk
      obtain ⟨z, h1, k1, w1, s1⟩ := xOp_ok he hk
      obtain ⟨sk', fr', h2, k2, w2, a2, s2⟩ := xA_ok he k1
      refine ⟨sk', fr', h2, k2, w2.trans w1, (AgreeX.put hWo).trans (a2.mono hWr), fun {H0 m H frv Kv} hr hv hf => ?_⟩
      refine s1 hr (ev_rel hv) fun m' H' v hr' hs' hv' => ?_
      refine s2 hr' (put_rel (Vrels.mono hs'.pre _ hv) o.dst hv') fun m'' H'' frv' hr'' hs'' hv'' => ?_
      rw [w1] at hs''
      exact hf _ _ _ hr'' (hs'.trans hs'') hv''
    have skip : ∀ {fr : List CV}, xA P qf Z C dr q all rest (addSk sk o.dst) (putX fr o.dst (.tup [])) h K = true →
        ∃ sk' fr' h', K sk' fr' h' = true ∧ h'.wp = h.wp ∧ AgreeX (dstsOf (o :: rest)) fr fr' ∧ ∀ {H0 m H frv} {Kv : List Nat → Fr → Hp → Prop}, Rel H0 m h H → Vrels m fr frv → FinF H0 m h H fr' h' (Kv sk') → vcA P qf dr q all rest (addSk sk o.dst) (putF frv o.dst undef) H Kv := by
      intro fr hk
      obtain ⟨sk', fr', h2, k2, w2, a2, s2⟩ := xA_ok he hk
      exact ⟨sk', fr', h2, k2, w2, (AgreeX.put hWo).trans (a2.mono hWr), fun {H0 m H frv Kv} hr hv hf => s2 hr (put_rel hv o.dst (unit_rel m)) hf⟩
    unfold xA at hk
    unfold vcA
    cases hg : o.guard with
    | none =>
      simp only [hg] at hk ⊢
      exact run hk
    | some g =>
      obtain ⟨j, want⟩ := g
      simp only [hg] at hk ⊢
      cases hjd : (all[j]?).bind (·.dst) with
      | none => simp only [hjd] at hk; cases hk
      | some d =>
        simp only [hjd] at hk ⊢
        rw [ifX_eq] at hk
        by_cases hsk : sk.contains d = true
        · rw [if_pos hsk] at hk
          simp only [if_pos hsk]
          split at hk
          · rename_i vs hsl
            obtain ⟨sk', fr', h2, k2, w2, a2, s2⟩ := skip hk
            refine ⟨sk', fr', h2, k2, w2, a2, fun {H0 m H frv Kv} hr hv hf => ?_⟩
            have hs := slot_rel hv d
            rw [hsl] at hs
            obtain ⟨c, hc, _⟩ := hs
            rw [hc]
            exact s2 hr hv hf
          · cases hk
        · rw [if_neg hsk] at hk
          simp only [if_neg hsk]
          unfold xIte at hk
          split at hk
          · rename_i hsl
            rw [set_sameX hsl] at hk
            have hval : ∀ {m frv}, Vrels m fr frv → slot frv d = .bool true ∧ frv.set d (.bool true) = frv := fun {m frv} hv => by
              have hs := slot_rel hv d
              rw [hsl] at hs
              exact ⟨hs, set_same hs (by simp [undef])⟩
            cases want
            · simp only [ifX_eq, Bool.false_eq_true, if_false] at hk ⊢
              obtain ⟨sk', fr', h2, k2, w2, a2, s2⟩ := skip hk
              refine ⟨sk', fr', h2, k2, w2, a2, fun {H0 m H frv Kv} hr hv hf => ?_⟩
              obtain ⟨e1, e2⟩ := hval hv
              rw [e1, Ite_true, e2]
              exact s2 hr hv hf
            · simp only [ifX_eq, if_true] at hk ⊢
              obtain ⟨sk', fr', h2, k2, w2, a2, s2⟩ := run hk
              refine ⟨sk', fr', h2, k2, w2, a2, fun {H0 m H frv Kv} hr hv hf => ?_⟩
              obtain ⟨e1, e2⟩ := hval hv
              rw [e1, Ite_true, e2]
              exact s2 hr hv hf
          · rename_i hsl
            rw [set_sameX hsl] at hk
            have hval : ∀ {m frv}, Vrels m fr frv → slot frv d = .bool false ∧ frv.set d (.bool false) = frv := fun {m frv} hv => by
              have hs := slot_rel hv d
              rw [hsl] at hs
              exact ⟨hs, set_same hs (by simp [undef])⟩
            cases want
            · simp only [ifX_eq, Bool.false_eq_true, if_false] at hk ⊢
              obtain ⟨sk', fr', h2, k2, w2, a2, s2⟩ := run hk
              refine ⟨sk', fr', h2, k2, w2, a2, fun {H0 m H frv Kv} hr hv hf => ?_⟩
              obtain ⟨e1, e2⟩ := hval hv
              rw [e1, Ite_false, e2]
              exact s2 hr hv hf
            · simp only [ifX_eq, if_true] at hk ⊢
              obtain ⟨sk', fr', h2, k2, w2, a2, s2⟩ := skip hk
              refine ⟨sk', fr', h2, k2, w2, a2, fun {H0 m H frv Kv} hr hv hf => ?_⟩
              obtain ⟨e1, e2⟩ := hval hv
              rw [e1, Ite_false, e2]
              exact s2 hr hv hf
          · cases hk


/-- What is deferred: marks of loops over functions, laid since, that no number means; and what was deferred before. -/
def Dfs (tp : Bool) (m : M) (n : Nat) (H : Hp) (ds ds0 : List Deferred) : Prop :=
  ∃ Ds : List Nat, ds = Ds.map markD ++ ds0 ∧ (Ds.Nodup ∧ (tp = false → Ds = [])) ∧ ∀ D ∈ Ds, H[D]? = some (.deferred (some [])) ∧ n ≤ D ∧ ∀ (k : Nat) (e : Nat × Nat), m[k]? = some e → e.1 ≠ D
theorem Dfs.refl (tp : Bool) (m : M) (n : Nat) (H : Hp) (ds : List Deferred) : Dfs tp m n H ds ds := ⟨[], rfl, ⟨List.nodup_nil, fun _ => rfl⟩, fun D hD => by cases hD⟩
theorem Dfs.of_eq {tp : Bool} {m : M} {n : Nat} {H : Hp} {ds ds0 : List Deferred} (h : ds = ds0) : Dfs tp m n H ds ds0 := by rw [h]; exact Dfs.refl _ _ _ _ _
theorem Dfs.trans {tp : Bool} {wp : Nat} {m1 m2 : M} {n : Nat} {H1 H2 : Hp} {ds ds1 ds0 : List Deferred} (h : Dfs tp m1 n H1 ds1 ds0) (hs : Stp wp m1 H1 m2 H2) (hn : n ≤ H1.size) (h' : Dfs tp m2 H1.size H2 ds ds1) : Dfs tp m2 n H2 ds ds0 := by
  obtain ⟨D1, rfl, ⟨q1, q0⟩, q2⟩ := h
  obtain ⟨D2, rfl, ⟨r1, r0⟩, r2⟩ := h'
  have lt : ∀ D ∈ D1, D < H1.size := fun D hD => Vc.lt_of_block (q2 D hD).1
  refine ⟨D2 ++ D1, by simp, ⟨?_, fun ht => by rw [q0 ht, r0 ht]; rfl⟩, fun D hD => ?_⟩
  · rw [List.nodup_append]
    refine ⟨r1, q1, fun a ha b hb e => ?_⟩
    subst e
    have := (r2 a ha).2.1
    have := lt a hb
    omega
  · rcases List.mem_append.1 hD with hD | hD
    · obtain ⟨h3, h4, h5⟩ := r2 D hD
      exact ⟨h3, by omega, h5⟩
    · obtain ⟨h3, h4, h5⟩ := q2 D hD
      have hl := lt D hD
      have hw : ¬ Wr m1 wp D := fun ⟨k, e, h6, _, h7⟩ => h5 k e h6 h7
      refine ⟨by rw [hs.kp.same D hl hw]; exact h3, h4, fun k e hk he => ?_⟩
      rcases hs.new k e hk with h6 | h6 | h6
      · exact h5 k e h6 he
      · omega
      · obtain ⟨j, d, h8, _, h9⟩ := h6
        exact h5 j d h8 (h9.trans he)

/-- What the run has come to. -/
def PostX (tp : Bool) (H0 : Hp) (m : M) (wp : Nat) (e : Exit) (fr' : List CV) (h' : CH) (a : Act) (w : World) : Exit → Act → World → Prop := fun e' a' w' =>
  e' = e ∧ ∃ m' frv', Rel H0 m' h' w'.heap ∧ Stp wp m w.heap m' w'.heap ∧ Vrels m' fr' frv' ∧ At a' frv' ∧ Dfs tp m' w.heap.size w'.heap a'.defers a.defers ∧ Sm w w'
/-- top: not within a round. -/
def SimC (P : Program) (top : Bool) (c : Code) (fr : List CV) (h : CH) (e : Exit) (fr' : List CV) (h' : CH) : Prop :=
  ∀ {H0 m frv a w} (r : Option Nat), (top = true → r = none) → Rel H0 m h w.heap → Vrels m fr frv → At a frv → c.wpIn (wideR r) 0 P (PostX top H0 m h.wp e fr' h' a w) a w

/-! ### Values that are the same -/
def sameI (n n' : Int) : Bool := match n, n' with | .ofNat a, .ofNat b => Nat.beq a b | .negSucc a, .negSucc b => Nat.beq a b | _, _ => false
theorem sameI_ok {n n' : Int} (h : sameI n n' = true) : n = n' := by
  unfold sameI at h
  split at h
  · rw [Nat.eq_of_beq_eq_true h]
  · rw [Nat.eq_of_beq_eq_true h]
  · cases h
mutual
def sameX : CV → CV → Bool
  | .int k n, y => (match y with | .int k' n' => decide (k = k') && sameI n n' | _ => false)
  | .bool b, y => (match y with | .bool b' => b == b' | _ => false)
  | .ptr k o, y => (match y with | .ptr k' o' => Nat.beq k k' && Nat.beq o o' | _ => false)
  | .nilp, y => (match y with | .nilp => true | _ => false)
  | .sl k o l c, y => (match y with | .sl k' o' l' c' => Nat.beq k k' && Nat.beq o o' && Nat.beq l l' && Nat.beq c c' | _ => false)
  | .nils, y => (match y with | .nils => true | _ => false)
  | .map k, y => (match y with | .map k' => Nat.beq k k' | _ => false)
  | .nilm, y => (match y with | .nilm => true | _ => false)
  | .nilf, y => (match y with | .nilf => true | _ => false)
  | .agg ps, y => (match y with | .agg qs => sameP ps qs | _ => false)
  | _, _ => false
def sameP : List CV → List CV → Bool
  | [], y => (match y with | [] => true | _ => false)
  | .bytes n x :: ps, y => (match y with | .bytes n' x' :: qs => Nat.beq n n' && Nat.beq x x' && sameP ps qs | _ => false)
  | p :: ps, y => (match y with | q :: qs => scalar p && sameX p q && sameP ps qs | _ => false)
end
theorem same_scalar {p q : CV} (hs : scalar p = true) (h : sameX p q = true) : scalar q = true := by
  cases p <;> cases q <;> first | rfl | (cases hs; done) | (simp [sameX] at h; done)
theorem sameP_cons {p : CV} {ps qs : List CV} (hs : scalar p = true) (h : sameP (p :: ps) qs = true) : ∃ q qs', qs = q :: qs' ∧ sameX p q = true ∧ sameP ps qs' = true := by
  cases qs with
  | nil =>
    have h' : sameP (p :: ps) [] = false := by cases p <;> first | (cases hs; done) | rfl
    rw [h'] at h; cases h
  | cons q qs =>
    have h' : sameP (p :: ps) (q :: qs) = (scalar p && sameX p q && sameP ps qs) := by cases p <;> first | (cases hs; done) | rfl
    rw [h'] at h
    simp only [Bool.and_eq_true] at h
    exact ⟨q, qs, rfl, h.1.2, h.2⟩
mutual
theorem same_ok : ∀ (z z' : CV), sameX z z' = true → ∀ {m m' : M}, Pre m m' → ∀ {v v' : Value}, Vrel m z v → Vrel m' z' v' → v = v'
  | .int k n, z', h, m, m', hp, v, v', hv, hv' => by
    simp only [sameX] at h
    split at h
    · simp only [Bool.and_eq_true, decide_eq_true_eq] at h
      simp only [Vrel] at hv hv'
      rw [hv, hv', h.1, sameI_ok h.2]
    · cases h
  | .bool b, z', h, m, m', hp, v, v', hv, hv' => by
    simp only [sameX] at h
    split at h
    · simp only [Vrel] at hv hv'
      rw [hv, hv', eq_of_beq h]
    · cases h
  | .ptr k o, z', h, m, m', hp, v, v', hv, hv' => by
    simp only [sameX] at h
    split at h
    · simp only [Bool.and_eq_true] at h
      obtain ⟨e, h1, rfl⟩ := hv
      obtain ⟨e', h2, rfl⟩ := hv'
      rw [← Nat.eq_of_beq_eq_true h.1, hp _ _ h1] at h2
      injection h2 with h2
      rw [h2, Nat.eq_of_beq_eq_true h.2]
    · cases h
  | .nilp, z', h, m, m', hp, v, v', hv, hv' => by
    simp only [sameX] at h
    split at h
    · simp only [Vrel] at hv hv'; rw [hv, hv']
    · cases h
  | .sl k o l c, z', h, m, m', hp, v, v', hv, hv' => by
    simp only [sameX] at h
    split at h
    · simp only [Bool.and_eq_true] at h
      obtain ⟨⟨⟨h0, h3⟩, h4⟩, h5⟩ := h
      obtain ⟨e, h1, rfl⟩ := hv
      obtain ⟨e', h2, rfl⟩ := hv'
      rw [← Nat.eq_of_beq_eq_true h0, hp _ _ h1] at h2
      injection h2 with h2
      rw [h2, Nat.eq_of_beq_eq_true h3, Nat.eq_of_beq_eq_true h4, Nat.eq_of_beq_eq_true h5]
    · cases h
  | .nils, z', h, m, m', hp, v, v', hv, hv' => by
    simp only [sameX] at h
    split at h
    · simp only [Vrel] at hv hv'; rw [hv, hv']
    · cases h
  | .map k, z', h, m, m', hp, v, v', hv, hv' => by
    simp only [sameX] at h
    split at h
    · obtain ⟨e, h1, rfl⟩ := hv
      obtain ⟨e', h2, rfl⟩ := hv'
      rw [← Nat.eq_of_beq_eq_true h, hp _ _ h1] at h2
      injection h2 with h2
      rw [h2]
    · cases h
  | .nilm, z', h, m, m', hp, v, v', hv, hv' => by
    simp only [sameX] at h
    split at h
    · simp only [Vrel] at hv hv'; rw [hv, hv']
    · cases h
  | .nilf, z', h, m, m', hp, v, v', hv, hv' => by
    simp only [sameX] at h
    split at h
    · simp only [Vrel] at hv hv'; rw [hv, hv']
    · cases h
  | .agg ps, z', h, m, m', hp, v, v', hv, hv' => by
    simp only [sameX] at h
    split at h
    · obtain ⟨c, rfl, h1⟩ := hv
      obtain ⟨c', rfl, h2⟩ := hv'
      rw [Array.toList_inj.1 (sameP_ok ps _ h hp h1 h2)]
    · cases h
  | .str _, z', h, _, _, _, _, _, _, _ | .so _ _ _ _, z', h, _, _, _, _, _, _, _ | .fn _ _ _, z', h, _, _, _, _, _, _, _ | .bytes _ _, z', h, _, _, _, _, _, _, _ | .tup _, z', h, _, _, _, _, _, _, _ | .yv _, z', h, _, _, _, _, _, _, _ | .junk, z', h, _, _, _, _, _, _, _ => by simp only [sameX] at h; cases h
theorem sameP_ok : ∀ (ps qs : List CV), sameP ps qs = true → ∀ {m m' : M}, Pre m m' → ∀ {l l' : List Value}, Crel m ps l → Crel m' qs l' → l = l'
  | [], qs, h, m, m', hp, l, l', hl, hl' => by
    simp only [sameP] at h
    split at h
    · simp only [Crel] at hl hl'; rw [hl, hl']
    · cases h
  | p :: ps, qs, h, m, m', hp, l, l', hl, hl' => by
    rcases Crel_scalar hl with ⟨n, x, rfl⟩ | hs
    · simp only [sameP] at h
      split at h
      · simp only [Bool.and_eq_true] at h
        obtain ⟨r, rfl, h1⟩ := hl
        obtain ⟨r', rfl, h2⟩ := hl'
        rw [sameP_ok ps _ h.2 hp h1 h2, Nat.eq_of_beq_eq_true h.1.1, Nat.eq_of_beq_eq_true h.1.2]
      · cases h
    · obtain ⟨q, qs', rfl, h1, h2⟩ := sameP_cons hs h
      have hq := same_scalar hs h1
      rw [Crel_cons hs] at hl
      rw [Crel_cons hq] at hl'
      obtain ⟨v, r, rfl, _, h3, h4⟩ := hl
      obtain ⟨v', r', rfl, _, h5, h6⟩ := hl'
      rw [same_ok p q h1 hp h3 h5, sameP_ok ps qs' h2 hp h4 h6]
end

/-! ### Two new blocks, whichever comes first -/
theorem xNew_raw {o : CO} {h : CH} {k : Nat → CH → Bool} (hk : xNew o h k = true) : ∃ h', k h.n h' = true ∧ h'.wp = h.wp ∧ h'.n = h.n + 1 ∧ h'.get h.n = some o ∧ ∀ j, j ≠ h.n → h'.get j = h.get j := by
  obtain ⟨t, n, wp⟩ := h
  unfold xNew at hk
  simp only [forceN_eq] at hk
  obtain ⟨t', h1, h2, h3⟩ := Tr.setK_ok hk
  exact ⟨.mk t' (n + 1) wp, h1, rfl, rfl, h2, h3⟩
theorem rel_two {H0 : Hp} {m : M} {h h2 : CH} {H HH : Hp} {o o' : CO} {O O' : Obj} {z z' x y : Nat} (hr : Rel H0 m h H) (hn : h2.n = h.n + 2) (hw : h2.wp = h.wp) (g1 : h2.get h.n = some o) (g2 : h2.get (h.n + 1) = some o') (g3 : ∀ j, j ≠ h.n → j ≠ h.n + 1 → h2.get j = h.get j)
    (ho : Orel m (x, z) o O) (ho' : Orel m (y, z') o' O') (hx : Ext H HH) (x1 : HH[x]? = some O) (y1 : HH[y]? = some O') (hxy : x ≠ y) (x2 : H.size ≤ x) (y2 : H.size ≤ y) :
    Rel H0 (m ++ [(x, z), (y, z')]) h2 HH ∧ Stp h.wp m H (m ++ [(x, z), (y, z')]) HH ∧ (m ++ [(x, z), (y, z')])[h.n]? = some (x, z) ∧ (m ++ [(x, z), (y, z')])[h.n + 1]? = some (y, z') := by
  have hl : m.length = h.n := hr.len
  have e1 : (m ++ [(x, z), (y, z')])[h.n]? = some (x, z) := by rw [List.getElem?_append_right (by omega)]; simp [hl]
  have e2 : (m ++ [(x, z), (y, z')])[h.n + 1]? = some (y, z') := by rw [List.getElem?_append_right (by omega)]; simp [hl]
  have hpre : Pre m (m ++ [(x, z), (y, z')]) := fun k e hk => by
    have hlt : k < m.length := by
      rcases Nat.lt_or_ge k m.length with h1 | h1
      · exact h1
      · rw [List.getElem?_eq_none h1] at hk; cases hk
    rw [List.getElem?_append_left hlt]; exact hk
  have hold : ∀ (j : Nat) (d : Nat × Nat), (m ++ [(x, z), (y, z')])[j]? = some d → (j = h.n ∧ d = (x, z)) ∨ (j = h.n + 1 ∧ d = (y, z')) ∨ (j ≠ h.n ∧ j ≠ h.n + 1 ∧ m[j]? = some d) := fun j d hd => by
    by_cases h1 : j = h.n
    · subst h1; rw [e1] at hd; injection hd with hd; exact .inl ⟨rfl, hd.symm⟩
    · by_cases h2 : j = h.n + 1
      · subst h2; rw [e2] at hd; injection hd with hd; exact .inr (.inl ⟨rfl, hd.symm⟩)
      · refine .inr (.inr ⟨h1, h2, ?_⟩)
        rw [List.getElem?_append] at hd
        split at hd
        · exact hd
        · rw [List.getElem?_eq_none (by simp; omega)] at hd; cases hd
  have hget : ∀ j w, h2.get j = some w → (j = h.n ∧ w = o) ∨ (j = h.n + 1 ∧ w = o') ∨ (j ≠ h.n ∧ j ≠ h.n + 1 ∧ h.get j = some w) := fun j w hj => by
    by_cases q1 : j = h.n
    · subst q1; rw [g1] at hj; injection hj with hj; exact .inl ⟨rfl, hj.symm⟩
    · by_cases q2 : j = h.n + 1
      · subst q2; rw [g2] at hj; injection hj with hj; exact .inr (.inl ⟨rfl, hj.symm⟩)
      · exact .inr (.inr ⟨q1, q2, by rw [← g3 j q1 q2]; exact hj⟩)
  have low : ∀ (q : Nat) (w : CO) (c : Nat × Nat), h.get q = some w → m[q]? = some c → c.1 < H.size := fun q w c hq hc => by
    obtain ⟨e', O2, h4, h5, _⟩ := hr.obj q w hq
    rw [hc] at h4; injection h4 with h4; subst h4
    exact Vc.lt_of_block h5
  refine ⟨⟨hr.ext.trans hx, by simp [hl, hn], fun k e hk => ?_, fun k w hkw => ?_, fun j k w w' d e hj hk hd he hde => ?_, fun k e hk => ?_⟩, ⟨hpre, by simp, hx.kp _, fun k e hk => ?_⟩, e1, e2⟩
  · rcases hold k e hk with ⟨_, rfl⟩ | ⟨_, rfl⟩ | ⟨_, _, h5⟩
    · exact Nat.le_trans hr.ext.le x2
    · exact Nat.le_trans hr.ext.le y2
    · exact hr.new k e h5
  · rcases hget k w hkw with ⟨rfl, rfl⟩ | ⟨rfl, rfl⟩ | ⟨_, _, h5⟩
    · exact ⟨_, O, e1, x1, ho.mono hpre⟩
    · exact ⟨_, O', e2, y1, ho'.mono hpre⟩
    · obtain ⟨e, O2, h6, h7, h8⟩ := hr.obj k w h5
      exact ⟨e, O2, hpre _ _ h6, hx.at h7, h8.mono hpre⟩
  · have mo : ∀ {q : Nat} {c : Nat × Nat}, q ≠ h.n → q ≠ h.n + 1 → (m ++ [(x, z), (y, z')])[q]? = some c → m[q]? = some c := fun q1 q2 hq => by
      rcases hold _ _ hq with ⟨h5, _⟩ | ⟨h5, _⟩ | ⟨_, _, h5⟩
      · exact absurd h5 q1
      · exact absurd h5 q2
      · exact h5
    rcases hget j w hj with ⟨rfl, rfl⟩ | ⟨rfl, rfl⟩ | ⟨j1, j2, j3⟩ <;> rcases hget k w' hk with ⟨rfl, rfl⟩ | ⟨rfl, rfl⟩ | ⟨k1, k2, k3⟩
    · rfl
    · rw [e1] at hd; rw [e2] at he; injection hd with hd; injection he with he; subst hd; subst he; exact absurd hde hxy
    · rw [e1] at hd; injection hd with hd; subst hd
      have := low _ _ _ k3 (mo k1 k2 he); simp only at hde; omega
    · rw [e2] at hd; rw [e1] at he; injection hd with hd; injection he with he; subst hd; subst he; exact absurd hde.symm hxy
    · rfl
    · rw [e2] at hd; injection hd with hd; subst hd
      have := low _ _ _ k3 (mo k1 k2 he); simp only at hde; omega
    · rw [e1] at he; injection he with he; subst he
      have := low _ _ _ j3 (mo j1 j2 hd); simp only at hde; omega
    · rw [e2] at he; injection he with he; subst he
      have := low _ _ _ j3 (mo j1 j2 hd); simp only at hde; omega
    · exact hr.inj j k w w' d e j3 k3 (mo j1 j2 hd) (mo k1 k2 he) hde
  · rcases hold k e hk with ⟨_, rfl⟩ | ⟨_, rfl⟩ | ⟨_, _, h5⟩
    · exact Vc.lt_of_block x1
    · exact Vc.lt_of_block y1
    · exact Nat.lt_of_lt_of_le (hr.low k e h5) hx.le
  · rcases hold k e hk with ⟨_, rfl⟩ | ⟨_, rfl⟩ | ⟨_, _, h5⟩
    · exact .inr (.inl x2)
    · exact .inr (.inl y2)
    · exact .inl h5

/-! ### Regions in another order than the text's -/
inductive Plan
  | ord (l : List Nat)
  | ld (t : Two)
  | f2 (t : Two)
  | two (t : Two)
  | tree (w : List Nat) (t : OT)
  | all (t : OT)
  | raw (w : List Nat)
def freeO (d : Option Tmp) (x : Operand) : Bool := match d, x with | some d, .tmp t => !(Nat.beq d t) | _, _ => true
theorem freeO_ev {d : Option Tmp} {x : Operand} (h : freeO d x = true) (fr : Fr) (v : Value) : ev (putF fr d v) x = ev fr x := by
  cases d with
  | none => rfl
  | some d =>
    cases x with
    | tmp t =>
      have hne : ¬ d = t := fun e => by subst e; simp [freeO] at h
      show slot (fr.set d v) t = slot fr t
      unfold slot
      rw [List.getD_eq_getElem?_getD, List.getD_eq_getElem?_getD, List.getElem?_set, if_neg hne]
    | const v => rfl
    | global g => rfl
    | func f => rfl
def unlike (d d' : Option Tmp) : Bool := match d, d' with | some d, some d' => !(Nat.beq d d') | _, _ => true
theorem unlike_put {d d' : Option Tmp} (h : unlike d d' = true) (fr : Fr) (v v' : Value) : putF (putF fr d v) d' v' = putF (putF fr d' v') d v := by
  cases d with
  | none => rfl
  | some d =>
    cases d' with
    | none => rfl
    | some d' =>
      have hne : ¬ d = d' := fun e => by subst e; simp [unlike] at h
      show (fr.set d v).set d' v' = (fr.set d' v').set d v
      exact List.set_comm v v' hne

section
variable (P : Program) (qf : FuncId → Bool) (Z : List (Nat × CV)) (C : List (Nat × Ex))
noncomputable def xLd (ops : Array Oper) (t : Two) (fr : List CV) (h : CH) (K : List CV → CH → Bool) : Bool :=
  xA P qf Z C true true ops (pick ops t.A) [] fr h fun sk fr h =>
    match ops[t.k]?, ops[t.i]? with
    | some ok, some oi => (match ok.op with
      | .load T a => ifX (ok.guard.isNone && oi.guard.isNone) (xLoad (ldK P T) (evX fr a) h fun z => xOp P qf Z C true true oi (evX fr) h fun u h' => xLoad (ldK P T) (evX fr a) h' fun z' =>
          ifX (sameX z z') (xOps P qf Z C true true ops (pick ops t.C) sk (putX (putX fr ok.dst z) oi.dst u) h' K) false) false
      | _ => false)
    | _, _ => false
noncomputable def xF2 (ops : Array Oper) (t : Two) (fr : List CV) (h : CH) (K : List CV → CH → Bool) : Bool :=
  xA P qf Z C true true ops (pick ops t.A) [] fr h fun sk fr h =>
    match ops[t.k]?, ops[t.i]? with
    | some ok, some oi => (match ok.op, oi.op with
      | .makeSlice T l c, .makeSlice T' l' c' => ifX (ok.guard.isNone && oi.guard.isNone && freeO ok.dst l' && freeO ok.dst c' && freeO oi.dst l && freeO oi.dst c && unlike ok.dst oi.dst)
          (xMkO (appK P T) (elemZ P Z T) (evX fr l) (evX fr c) fun o n1 c1 => xMkO (appK P T') (elemZ P Z T') (evX fr l') (evX fr c') fun o' n2 c2 =>
            xNew o h fun b h1 => xNew o' h1 fun b' h2 => xOps P qf Z C true true ops (pick ops t.C) sk (putX (putX fr ok.dst (.sl b 0 n1 c1)) oi.dst (.sl b' 0 n2 c2)) h2 K) false
      | _, _ => false)
    | _, _ => false
end

theorem pick_cons {ops : Array Oper} {x : Nat} {l : List Nat} {o : Oper} (h : ops[x]? = some o) : pick ops (x :: l) = o :: pick ops l := by
  unfold pick; rw [List.filterMap_cons, h]
theorem put_agree {ops : Array Oper} {x : Nat} {o : Oper} (h : ops[x]? = some o) (fr : List CV) (v : CV) : AgreeX (dstsOf ops.toList) fr (putX fr o.dst v) :=
  AgreeX.put fun d hd => by
    unfold dstsOf
    exact List.mem_filterMap.2 ⟨o, by simpa using Array.mem_of_getElem? h, hd⟩

theorem xLd_ok {P : Program} {qf : FuncId → Bool} {Z : List (Nat × CV)} {C : List (Nat × Ex)} (he : EnvOk P Z C) {ops : Array Oper} {t : Two} {fr : List CV} {h : CH} {K : List CV → CH → Bool} (hk : xLd P qf Z C ops t fr h K = true) :
    ∃ fr' h', K fr' h' = true ∧ h'.wp = h.wp ∧ AgreeX (dstsOf ops.toList) fr fr' ∧ ∀ {H0 m H frv} {Kv : Fr → Hp → Prop}, Rel H0 m h H → Vrels m fr frv → FinF H0 m h H fr' h' Kv → vcLd P qf ops t frv H Kv := by
  unfold xLd at hk
  obtain ⟨sk, fr1, h1, k1, w1, a1, s1⟩ := xA_ok he hk
  clear hk
  split at k1 <;> try (cases k1; done)
  rename_i ok oi hok hoi
  split at k1 <;> try (cases k1; done)
  rename_i T a hop
  rw [ifX_eq] at k1
  split at k1 <;> try (cases k1; done)
  rename_i hg
  simp only [Bool.and_eq_true, Option.isNone_iff_eq_none] at hg
  obtain ⟨z, k2, L1⟩ := xLoad_ok k1
  obtain ⟨u, h2, k3, w3, s3⟩ := xOp_ok he k2
  obtain ⟨z', k4, L2⟩ := xLoad_ok k3
  rw [ifX_eq] at k4
  split at k4 <;> try (cases k4; done)
  rename_i hsame
  obtain ⟨fr2, h3, k5, w5, a5, s5⟩ := xOps_ok he k4
  refine ⟨fr2, h3, k5, (w5.trans w3).trans w1, (((a1.mono pick_dsts).trans (put_agree hok _ _)).trans (put_agree hoi _ _)).trans (a5.mono pick_dsts), fun {H0 m H frv Kv} hr hv hf => ?_⟩
  refine s1 hr hv fun m1 H1 frv1 hr1 hs1 hv1 => ?_
  obtain ⟨v, e1, r1⟩ := L1 hr1 (ev_rel hv1 a)
  have ldv : ∀ {H2 : Hp}, loadE (ldK P T) (ev frv1 a) H2 = some v → vcOp P qf true true ok (ev frv1) H2 (fun u _ => u = v) := fun {H2} hl => by
    unfold vcOp
    rw [hop]
    simp only [hl, Pu_some]
  refine ⟨ok, oi, v, hok, hoi, hg.1, hg.2, ldv e1, s3 hr1 (ev_rel hv1) fun m2 H2 uv hr2 hs2 hu2 => ?_⟩
  obtain ⟨v', e2, r2⟩ := L2 hr2 (Vrel.mono hs2.pre _ (ev_rel hv1 a))
  have hvv := same_ok z z' hsame hs2.pre r1 r2
  subst hvv
  refine ⟨ldv e2, s5 hr2 (put_rel (put_rel (Vrels.mono hs2.pre _ hv1) ok.dst (Vrel.mono hs2.pre _ r1)) oi.dst hu2) fun m3 H3 frv3 hr3 hs3 hv3 => ?_⟩
  rw [w3, w1] at hs3
  rw [w1] at hs2
  exact hf _ _ _ hr3 ((hs1.trans hs2).trans hs3) hv3

theorem xF2_ok {P : Program} {qf : FuncId → Bool} {Z : List (Nat × CV)} {C : List (Nat × Ex)} (he : EnvOk P Z C) {ops : Array Oper} {t : Two} {fr : List CV} {h : CH} {K : List CV → CH → Bool} (hk : xF2 P qf Z C ops t fr h K = true) :
    ∃ fr' h', K fr' h' = true ∧ h'.wp = h.wp ∧ AgreeX (dstsOf ops.toList) fr fr' ∧ ∀ {H0 m H frv} {Kv : Fr → Hp → Prop}, Rel H0 m h H → Vrels m fr frv → FinF H0 m h H fr' h' Kv → vcTwo P qf ops t frv H Kv := by
  unfold xF2 at hk
  obtain ⟨sk, fr1, h1, k1, w1, a1, s1⟩ := xA_ok he hk
  clear hk
  split at k1 <;> try (cases k1; done)
  rename_i ok oi hok hoi
  split at k1 <;> try (cases k1; done)
  rename_i T l c T' l' c' hop hop'
  rw [ifX_eq] at k1
  split at k1 <;> try (cases k1; done)
  rename_i hg
  simp only [Bool.and_eq_true, Option.isNone_iff_eq_none] at hg
  obtain ⟨⟨⟨⟨⟨⟨hgk, hgi⟩, f1⟩, f2⟩, f3⟩, f4⟩, hun⟩ := hg
  obtain ⟨o, n1, c1, k2, M1⟩ := xMkO_ok (elemZ_ok he) k1
  obtain ⟨o', n2, c2, k3, M2⟩ := xMkO_ok (elemZ_ok he) k2
  obtain ⟨h2, k4, w2, n2', g2, o2⟩ := xNew_raw k3
  obtain ⟨h3, k5, w3, n3', g3, o3⟩ := xNew_raw k4
  obtain ⟨fr2, h4, k6, w4, a4, s4⟩ := xOps_ok he k5
  refine ⟨fr2, h4, k6, ((w4.trans w3).trans w2).trans w1, (((a1.mono pick_dsts).trans (put_agree hok _ _)).trans (put_agree hoi _ _)).trans (a4.mono pick_dsts), fun {H0 m H frv Kv} hr hv hf => ?_⟩
  refine s1 hr hv fun m1 H1 frv1 hr1 hs1 hv1 => ?_
  obtain ⟨O, z, m1e, ro⟩ := M1 (m := m1) (ev_rel hv1 l) (ev_rel hv1 c)
  obtain ⟨O', z', m2e, ro'⟩ := M2 (m := m1) (ev_rel hv1 l') (ev_rel hv1 c')
  have opk : ∀ {fr' : Fr} {H2 : Hp} {K : Value → Hp → Prop}, ev fr' l = ev frv1 l → ev fr' c = ev frv1 c → (∀ H3, Ext H2 H3 → K (.slice (some ⟨H3.size, 0, none⟩) n1 c1) (H3.push O)) → vcOp P qf true true ok (ev fr') H2 K := fun {fr' H2 K} q1 q2 hK => by
    unfold vcOp
    rw [hop]
    simp only [q1, q2]
    exact fun H3 hx => by
      show Pu (makeE (elemI P T) (ev frv1 l) (ev frv1 c) H3) (fun y => K y.1 y.2)
      rw [m1e, Pu_some]; exact hK H3 hx
  have opi : ∀ {fr' : Fr} {H2 : Hp} {K : Value → Hp → Prop}, ev fr' l' = ev frv1 l' → ev fr' c' = ev frv1 c' → (∀ H3, Ext H2 H3 → K (.slice (some ⟨H3.size, 0, none⟩) n2 c2) (H3.push O')) → vcOp P qf true true oi (ev fr') H2 K := fun {fr' H2 K} q1 q2 hK => by
    unfold vcOp
    rw [hop']
    simp only [q1, q2]
    exact fun H3 hx => by
      show Pu (makeE (elemI P T') (ev frv1 l') (ev frv1 c') H3) (fun y => K y.1 y.2)
      rw [m2e, Pu_some]; exact hK H3 hx
  have fin : ∀ {HH : Hp} {x y : Nat}, Ext H1 HH → HH[x]? = some O → HH[y]? = some O' → x ≠ y → H1.size ≤ x → H1.size ≤ y →
      vcOps P qf true true ops (pick ops t.C) sk (putF (putF frv1 ok.dst (.slice (some ⟨x, 0, none⟩) n1 c1)) oi.dst (.slice (some ⟨y, 0, none⟩) n2 c2)) HH Kv := fun {HH x y} hx x1 y1 hxy x2 y2 => by
    obtain ⟨R, S, e1, e2⟩ := rel_two (h2 := h3) (o := o) (o' := o') (z := z) (z' := z') hr1 (by rw [n3', n2']) (w3.trans w2) (by rw [o3 _ (by rw [n2']; omega)]; exact g2) (by rw [← n2']; exact g3) (fun j q1 q2 => by rw [o3 j (by rw [n2']; exact q2), o2 j q1]) (ro x) (ro' y) hx x1 y1 hxy x2 y2
    rw [n2'] at s4
    have q1 : Vrel (m1 ++ [(x, z), (y, z')]) (.sl h1.n 0 n1 c1) (.slice (some ⟨x, 0, none⟩) n1 c1) := ⟨_, e1, rfl⟩
    have q2 : Vrel (m1 ++ [(x, z), (y, z')]) (.sl (h1.n + 1) 0 n2 c2) (.slice (some ⟨y, 0, none⟩) n2 c2) := ⟨_, e2, rfl⟩
    refine s4 R (put_rel (put_rel (Vrels.mono S.pre _ hv1) ok.dst q1) oi.dst q2) fun m3 H3 frv3 hr3 hs3 hv3 => ?_
    rw [w3, w2, w1] at hs3
    rw [w1] at S
    exact hf _ _ _ hr3 ((hs1.trans S).trans hs3) hv3
  constructor
  · rw [pick_cons hok, pick_cons hoi]
    simp only [vcOps, hgk, hgi]
    refine opk rfl rfl fun H2 hx2 => ?_
    refine opi (freeO_ev f1 _ _) (freeO_ev f2 _ _) fun H3 hx3 => ?_
    have hp2 := Ext.push H2 O
    have hp3 := Ext.push H3 O'
    have l2 := hx2.le
    have l3 := hx3.le
    simp only [Array.size_push] at l3
    refine fin (x := H2.size) (y := H3.size) ((hx2.trans hp2).trans (hx3.trans hp3)) (hp3.at (hx3.at (get_push_new H2 O))) (get_push_new H3 O') (by omega) l2 (by omega)
  · rw [pick_cons hoi, pick_cons hok]
    simp only [vcOps, hgk, hgi]
    refine opi rfl rfl fun H2 hx2 => ?_
    refine opk (freeO_ev f3 _ _) (freeO_ev f4 _ _) fun H3 hx3 => ?_
    rw [← unlike_put hun]
    have hp2 := Ext.push H2 O'
    have hp3 := Ext.push H3 O
    have l2 := hx2.le
    have l3 := hx3.le
    simp only [Array.size_push] at l3
    refine fin (x := H3.size) (y := H2.size) ((hx2.trans hp2).trans (hx3.trans hp3)) (get_push_new H3 O) (hp3.at (hx3.at (get_push_new H2 O'))) (by omega) (by omega) l2

noncomputable abbrev both (A B : Bool) : Bool := Bool.rec false B A
theorem both_ok {A B : Bool} (h : both A B = true) : A = true ∧ B = true := by cases A <;> first | exact ⟨rfl, h⟩ | cases h
/-! ### The same memory -/
mutual
def eqC : CV → CV → Bool
  | .int k n, y => (match y with | .int k' n' => decide (k = k') && sameI n n' | _ => false)
  | .bool b, y => (match y with | .bool b' => b == b' | _ => false)
  | .str s, y => (match y with | .str s' => decide (s.data.toList = s'.data.toList) | _ => false)
  | .ptr k o, y => (match y with | .ptr k' o' => Nat.beq k k' && Nat.beq o o' | _ => false)
  | .nilp, y => (match y with | .nilp => true | _ => false)
  | .sl k o l c, y => (match y with | .sl k' o' l' c' => Nat.beq k k' && Nat.beq o o' && Nat.beq l l' && Nat.beq c c' | _ => false)
  | .so k o l c, y => (match y with | .so k' o' l' c' => Nat.beq k k' && Nat.beq o o' && Nat.beq l l' && Nat.beq c c' | _ => false)
  | .nils, y => (match y with | .nils => true | _ => false)
  | .map k, y => (match y with | .map k' => Nat.beq k k' | _ => false)
  | .nilm, y => (match y with | .nilm => true | _ => false)
  | .nilf, y => (match y with | .nilf => true | _ => false)
  | .fn f a c, y => (match y with | .fn f' a' c' => Nat.beq f f' && eqCs a a' && eqCs c c' | _ => false)
  | .bytes n x, y => (match y with | .bytes n' x' => Nat.beq n n' && Nat.beq x x' | _ => false)
  | .agg ps, y => (match y with | .agg qs => eqCs ps qs | _ => false)
  | .tup ps, y => (match y with | .tup qs => eqCs ps qs | _ => false)
  | .yv k, y => (match y with | .yv k' => Nat.beq k k' | _ => false)
  | .junk, y => (match y with | .junk => true | _ => false)
def eqCs : List CV → List CV → Bool
  | [], y => (match y with | [] => true | _ => false)
  | p :: ps, y => (match y with | q :: qs => eqC p q && eqCs ps qs | _ => false)
end
theorem eqN {a b : Nat} (h : Nat.beq a b = true) : a = b := Nat.eq_of_beq_eq_true h
mutual
theorem eqC_ok : ∀ (x y : CV), eqC x y = true → x = y
  | .int k n, y, h => by
    cases y <;> first | (simp [eqC] at h; done) | skip
    simp only [eqC, Bool.and_eq_true, decide_eq_true_eq] at h
    rw [h.1, sameI_ok h.2]
  | .bool b, y, h => by
    cases y <;> first | (simp [eqC] at h; done) | skip
    · simp only [eqC] at h; rw [eq_of_beq h]
  | .str s, y, h => by
    cases y <;> first | (simp [eqC] at h; done) | skip
    rename_i s'
    simp only [eqC, decide_eq_true_eq] at h
    cases s; cases s'
    simp only at h
    rw [Array.toList_inj.1 h]
  | .ptr k o, y, h => by
    cases y <;> first | (simp [eqC] at h; done) | skip
    simp only [eqC, Bool.and_eq_true] at h
    rw [eqN h.1, eqN h.2]
  | .nilp, y, h => by cases y <;> first | rfl | (simp [eqC] at h; done)
  | .sl k o l c, y, h => by
    cases y <;> first | (simp [eqC] at h; done) | skip
    simp only [eqC, Bool.and_eq_true] at h
    rw [eqN h.1.1.1, eqN h.1.1.2, eqN h.1.2, eqN h.2]
  | .so k o l c, y, h => by
    cases y <;> first | (simp [eqC] at h; done) | skip
    simp only [eqC, Bool.and_eq_true] at h
    rw [eqN h.1.1.1, eqN h.1.1.2, eqN h.1.2, eqN h.2]
  | .nils, y, h => by cases y <;> first | rfl | (simp [eqC] at h; done)
  | .map k, y, h => by
    cases y <;> first | (simp [eqC] at h; done) | skip
    simp only [eqC] at h; rw [eqN h]
  | .nilm, y, h => by cases y <;> first | rfl | (simp [eqC] at h; done)
  | .nilf, y, h => by cases y <;> first | rfl | (simp [eqC] at h; done)
  | .fn f a c, y, h => by
    cases y <;> first | (simp [eqC] at h; done) | skip
    simp only [eqC, Bool.and_eq_true] at h
    rw [eqN h.1.1, eqCs_ok a _ h.1.2, eqCs_ok c _ h.2]
  | .bytes n x, y, h => by
    cases y <;> first | (simp [eqC] at h; done) | skip
    simp only [eqC, Bool.and_eq_true] at h
    rw [eqN h.1, eqN h.2]
  | .agg ps, y, h => by
    cases y <;> first | (simp [eqC] at h; done) | skip
    simp only [eqC] at h; rw [eqCs_ok ps _ h]
  | .tup ps, y, h => by
    cases y <;> first | (simp [eqC] at h; done) | skip
    simp only [eqC] at h; rw [eqCs_ok ps _ h]
  | .yv k, y, h => by
    cases y <;> first | (simp [eqC] at h; done) | skip
    simp only [eqC] at h; rw [eqN h]
  | .junk, y, h => by cases y <;> first | rfl | (simp [eqC] at h; done)
theorem eqCs_ok : ∀ (x y : List CV), eqCs x y = true → x = y
  | [], y, h => by
    cases y with
    | nil => rfl
    | cons => simp [eqCs] at h
  | p :: ps, y, h => by
    cases y with
    | nil => simp [eqCs] at h
    | cons q qs =>
      simp only [eqCs, Bool.and_eq_true] at h
      rw [eqC_ok p q h.1, eqCs_ok ps qs h.2]
end
def eqO {α : Type} (f : α → α → Bool) : Option α → Option α → Bool
  | none, none => true
  | some a, some b => f a b
  | _, _ => false
theorem eqO_ok {α : Type} {f : α → α → Bool} (hf : ∀ a b, f a b = true → a = b) : ∀ {x y : Option α}, eqO f x y = true → x = y
  | none, none, _ => rfl
  | some a, some b, h => by rw [hf a b h]
  | none, some b, h => by cases h
  | some a, none, h => by cases h
def eqTr {α : Type} (f : α → α → Bool) : Tr α → Tr α → Bool
  | .lf, y => (match y with | .lf => true | _ => false)
  | .nd l v r, y => (match y with | .nd l' v' r' => eqTr f l l' && eqO f v v' && eqTr f r r' | _ => false)
theorem eqTr_ok {α : Type} {f : α → α → Bool} (hf : ∀ a b, f a b = true → a = b) : ∀ (x y : Tr α), eqTr f x y = true → x = y
  | .lf, y, h => by cases y <;> first | rfl | (simp [eqTr] at h; done)
  | .nd l v r, y, h => by
    cases y with
    | lf => simp [eqTr] at h
    | nd l' v' r' =>
      simp only [eqTr, Bool.and_eq_true] at h
      rw [eqTr_ok hf l l' h.1.1, eqO_ok hf h.1.2, eqTr_ok hf r r' h.2]
def eqEs : List (CV × CV) → List (CV × CV) → Bool
  | [], y => (match y with | [] => true | _ => false)
  | p :: ps, y => (match y with | q :: qs => eqC p.1 q.1 && eqC p.2 q.2 && eqEs ps qs | _ => false)
theorem eqEs_ok : ∀ (x y : List (CV × CV)), eqEs x y = true → x = y
  | [], y, h => by
    cases y with
    | nil => rfl
    | cons => simp [eqEs] at h
  | p :: ps, y, h => by
    cases y with
    | nil => simp [eqEs] at h
    | cons q qs =>
      simp only [eqEs, Bool.and_eq_true] at h
      obtain ⟨p1, p2⟩ := p
      obtain ⟨q1, q2⟩ := q
      rw [eqC_ok p1 q1 h.1.1, eqC_ok p2 q2 h.1.2, eqEs_ok ps qs h.2]
def eqCO : CO → CO → Bool
  | .row T es len d t, y => (match y with | .row T' es' len' d' t' => Nat.beq T T' && Nat.beq es es' && Nat.beq len len' && eqO eqCs d d' && eqTr eqCs t t' | _ => false)
  | .map es c, y => (match y with | .map es' c' => eqEs es es' && Nat.beq c c' | _ => false)
  | .fz T n x, y => (match y with | .fz T' n' x' => Nat.beq T T' && Nat.beq n n' && Nat.beq x x' | _ => false)
  | .lp st j n fr, y => (match y with | .lp st' j' n' fr' => Nat.beq st st' && eqO (eqO Nat.beq) j j' && Nat.beq n n' && eqCs fr fr' | _ => false)
theorem eqCO_ok : ∀ (x y : CO), eqCO x y = true → x = y
  | .row T es len d t, y, h => by
    cases y <;> first | (simp [eqCO] at h; done) | skip
    simp only [eqCO, Bool.and_eq_true] at h
    rw [eqN h.1.1.1.1, eqN h.1.1.1.2, eqN h.1.1.2, eqO_ok (fun a b => eqCs_ok a b) h.1.2, eqTr_ok (fun a b => eqCs_ok a b) _ _ h.2]
  | .map es c, y, h => by
    cases y <;> first | (simp [eqCO] at h; done) | skip
    simp only [eqCO, Bool.and_eq_true] at h
    rw [eqEs_ok es _ h.1, eqN h.2]
  | .fz T n x, y, h => by
    cases y <;> first | (simp [eqCO] at h; done) | skip
    simp only [eqCO, Bool.and_eq_true] at h
    rw [eqN h.1.1, eqN h.1.2, eqN h.2]
  | .lp st j n fr, y, h => by
    cases y <;> first | (simp [eqCO] at h; done) | skip
    simp only [eqCO, Bool.and_eq_true] at h
    rw [eqN h.1.1.1, eqO_ok (fun a b => eqO_ok fun a b => eqN) h.1.1.2, eqN h.1.2, eqCs_ok fr _ h.2]
def eqH : CH → CH → Bool
  | .mk t n wp, y => (match y with | .mk t' n' wp' => eqTr eqCO t t' && Nat.beq n n' && Nat.beq wp wp')
theorem eqH_ok {x y : CH} (h : eqH x y = true) : x = y := by
  cases x; cases y
  simp only [eqH, Bool.and_eq_true] at h
  rw [eqTr_ok eqCO_ok _ _ h.1.1, eqN h.1.2, eqN h.2]

section
variable (P : Program) (qf : FuncId → Bool) (Z : List (Nat × CV)) (C : List (Nat × Ex)) (ops : Array Oper) (K : List CV → CH → Bool)
mutual
noncomputable def xT : OT → List Nat → List CV → CH → Bool
  | .line l => fun sk fr h => xOps P qf Z C true true ops (pick ops l) sk fr h K
  | .fork A bs => fun sk fr h => xA P qf Z C true true ops (pick ops A) sk fr h (xB bs)
noncomputable def xB : OB → List Nat → List CV → CH → Bool
  | .nil => fun _ _ _ => true
  | .cons i t bs => fun sk fr h => both (xA P qf Z C true true ops (pick ops [i]) sk fr h (xT t)) (xB bs sk fr h)
end
end
mutual
theorem xT_ok {P : Program} {qf : FuncId → Bool} {Z : List (Nat × CV)} {C : List (Nat × Ex)} (he : EnvOk P Z C) {ops : Array Oper} {K : List CV → CH → Bool} : ∀ (t : OT) {sk : List Nat} {fr : List CV} {h : CH}, xT P qf Z C ops K t sk fr h = true →
    ∀ {H0 m H frv} {Kv : Fr → Hp → Prop}, Rel H0 m h H → Vrels m fr frv → (∀ fr' h', K fr' h' = true → h'.wp = h.wp → AgreeX (dstsOf ops.toList) fr fr' → FinF H0 m h H fr' h' Kv) → vcT P qf ops Kv t sk frv H
  | .line l, sk, fr, h, hk, H0, m, H, frv, Kv, hr, hv, hf => by
    simp only [xT] at hk
    simp only [vcT]
    obtain ⟨fr', h', k1, w1, a1, s1⟩ := xOps_ok he hk
    exact s1 hr hv (hf fr' h' k1 w1 (a1.mono pick_dsts))
  | .fork A bs, sk, fr, h, hk, H0, m, H, frv, Kv, hr, hv, hf => by
    simp only [xT] at hk
    simp only [vcT]
    obtain ⟨sk', fr', h', k1, w1, a1, s1⟩ := xA_ok he hk
    refine s1 hr hv fun m1 H1 frv1 hr1 hs1 hv1 => ?_
    exact xB_ok he bs k1 hr1 hv1 fun fr2 h2 k2 w2 a2 m2 H2 frv2 hr2 hs2 hv2 => by
      rw [w1] at hs2
      exact hf fr2 h2 k2 (w2.trans w1) ((a1.mono pick_dsts).trans a2) m2 H2 frv2 hr2 (hs1.trans hs2) hv2
theorem xB_ok {P : Program} {qf : FuncId → Bool} {Z : List (Nat × CV)} {C : List (Nat × Ex)} (he : EnvOk P Z C) {ops : Array Oper} {K : List CV → CH → Bool} : ∀ (bs : OB) {sk : List Nat} {fr : List CV} {h : CH}, xB P qf Z C ops K bs sk fr h = true →
    ∀ {H0 m H frv} {Kv : Fr → Hp → Prop}, Rel H0 m h H → Vrels m fr frv → (∀ fr' h', K fr' h' = true → h'.wp = h.wp → AgreeX (dstsOf ops.toList) fr fr' → FinF H0 m h H fr' h' Kv) → vcB P qf ops Kv bs sk frv H
  | .nil, sk, fr, h, hk, H0, m, H, frv, Kv, hr, hv, hf => by simp only [vcB]
  | .cons i t bs, sk, fr, h, hk, H0, m, H, frv, Kv, hr, hv, hf => by
    simp only [xB] at hk
    simp only [vcB]
    obtain ⟨k0, k9⟩ := both_ok hk
    refine ⟨?_, xB_ok he bs k9 hr hv hf⟩
    obtain ⟨sk', fr', h', k1, w1, a1, s1⟩ := xA_ok he k0
    refine s1 hr hv fun m1 H1 frv1 hr1 hs1 hv1 => ?_
    exact xT_ok he t k1 hr1 hv1 fun fr2 h2 k2 w2 a2 m2 H2 frv2 hr2 hs2 hv2 => by
      rw [w1] at hs2
      exact hf fr2 h2 k2 (w2.trans w1) ((a1.mono pick_dsts).trans a2) m2 H2 frv2 hr2 (hs1.trans hs2) hv2
end
/-- Each walk of the tree comes to the same. -/
noncomputable def xTree (P : Program) (qf : FuncId → Bool) (Z : List (Nat × CV)) (C : List (Nat × Ex)) (ops : Array Oper) (w : List Nat) (t : OT) (fr : List CV) (h : CH) (K : List CV → CH → Bool) : Bool :=
  xOps P qf Z C true true ops (pick ops w) [] fr h fun fr1 h1 => both (xT P qf Z C ops (fun fr2 h2 => eqCs fr1 fr2 && eqH h1 h2) t [] fr h) (K fr1 h1)
theorem xTree_ok {P : Program} {qf : FuncId → Bool} {Z : List (Nat × CV)} {C : List (Nat × Ex)} (he : EnvOk P Z C) {ops : Array Oper} {w : List Nat} {t : OT} {fr : List CV} {h : CH} {K : List CV → CH → Bool} (hk : xTree P qf Z C ops w t fr h K = true) :
    ∃ fr' h', K fr' h' = true ∧ h'.wp = h.wp ∧ AgreeX (dstsOf ops.toList) fr fr' ∧ ∀ {H0 m H frv} {Kv : Fr → Hp → Prop}, Rel H0 m h H → Vrels m fr frv → FinF H0 m h H fr' h' Kv → vcT P qf ops Kv t [] frv H := by
  unfold xTree at hk
  obtain ⟨fr1, h1, k1, w1, a1, _⟩ := xOps_ok he hk
  obtain ⟨k2, k3⟩ := both_ok k1
  refine ⟨fr1, h1, k3, w1, a1.mono pick_dsts, fun {H0 m H frv Kv} hr hv hf => ?_⟩
  refine xT_ok he t k2 hr hv fun fr2 h2 q1 q2 _ => ?_
  simp only [Bool.and_eq_true] at q1
  rw [← eqCs_ok _ _ q1.1, ← eqH_ok q1.2]
  exact hf

section
variable (P : Program) (qf : FuncId → Bool) (Z : List (Nat × CV)) (C : List (Nat × Ex))
noncomputable def xRegP (p : Option Plan) (ops : Array Oper) (dr : Bool) (fr : List CV) (h : CH) (K : List CV → CH → Bool) : Bool :=
  match p with
  | none => xReg P qf Z C ops dr fr h K
  | some (.ord l) => ifX (dr && (P.follows .mixedOrders && ordB ops (clAt P qf true true ops) l)) (xOps P qf Z C true true ops (pick ops l) [] fr h K) false
  | some (.ld t) => ifX (dr && (P.follows .mixedOrders && ldB ops (clAt P qf true true ops) t)) (xLd P qf Z C ops t fr h K) false
  | some (.f2 t) => ifX (dr && (P.follows .mixedOrders && twoB ops (clAt P qf true true ops) t)) (xF2 P qf Z C ops t fr h K) false
  | some (.tree w t) => ifX (dr && (P.follows .mixedOrders && treeB ops (clAt P qf true true ops) t)) (xTree P qf Z C ops w t fr h K) false
  | some (.two _) => false
  | some (.all _) => false
  | some (.raw _) => false
end
theorem sim_region {P : Program} {top : Bool} {id : Nat} {ops : Array Oper} {dr : Bool} {fr fr' : List CV} {h h' : CH} (hs : ∀ {Q : Exit → Ks} {frv : Fr} {a : Act} {w : World} {H0 : Hp} {m : M} (r : Option Nat), At a frv → Rel H0 m h w.heap → Vrels m fr frv → FinF H0 m h w.heap fr' h' (fun frv' H' => Q .normal frv' a.defers H') → (Code.region id ops dr).wpIn (wideR r) 0 P (Post (dstsOf ops.toList) true Q frv a w) a w) :
    SimC P top (.region id ops dr) fr h .normal fr' h' := by
  intro H0 m frv a w r _ hr hv ha
  refine wpIn_mono (hs (Q := fun e fr ds H' => e = .normal ∧ ∃ m', Rel H0 m' h' H' ∧ Stp h.wp m w.heap m' H' ∧ Vrels m' fr' fr) r ha hr hv fun m' H' frv' r1 r2 r3 => ⟨rfl, m', r1, r2, r3⟩) fun e a' w' hp => ?_
  obtain ⟨frv', p1, p2, _, ⟨p3, m', p4, p5, p6⟩, p7⟩ := hp
  exact ⟨p3, m', frv', p4, p5, p6, p1, Dfs.of_eq (p2 rfl), p7⟩

theorem regP_ok {P : Program} {top : Bool} {qf : FuncId → Bool} {Z : List (Nat × CV)} {C : List (Nat × Ex)} (he : EnvOk P Z C) {p : Option Plan} {id : Nat} {ops : Array Oper} {dr : Bool} {fr : List CV} {h : CH} {K : List CV → CH → Bool} (hk : xRegP P qf Z C p ops dr fr h K = true) :
    ∃ fr' h', K fr' h' = true ∧ h'.wp = h.wp ∧ AgreeX (dstsOf ops.toList) fr fr' ∧ SimC P top (.region id ops dr) fr h .normal fr' h' := by
  unfold xRegP at hk
  split at hk
  · have fin : ∃ fr' h', K fr' h' = true ∧ h'.wp = h.wp ∧ AgreeX (dstsOf ops.toList) fr fr' ∧ ∀ {H0 m H frv} {Kv : Fr → Hp → Prop}, Rel H0 m h H → Vrels m fr frv → FinF H0 m h H fr' h' Kv → vcReg P qf ops dr frv H Kv := by
      unfold xReg at hk
      simp only [ifX_eq] at hk
      unfold vcReg
      split at hk
      · split at hk
        · rename_i hn
          obtain ⟨fr', h', k1, k2, k3, k4⟩ := xOps_ok he hk
          exact ⟨fr', h', k1, k2, k3, fun {H0 m H frv Kv} hr hv hf => by
            simp only
            rw [if_pos hn]; exact k4 hr hv hf⟩
        · cases hk
      · split at hk
        · rename_i hn
          obtain ⟨fr', h', k1, k2, k3, k4⟩ := xOps_ok he hk
          exact ⟨fr', h', k1, k2, k3, fun {H0 m H frv Kv} hr hv hf => by
            simp only
            rw [if_pos hn]; exact k4 hr hv hf⟩
        · rename_i hn0
          split at hk
          · rename_i hn
            obtain ⟨fr', h', k1, k2, k3, k4⟩ := xOps_ok he hk
            exact ⟨fr', h', k1, k2, k3, fun {H0 m H frv Kv} hr hv hf => by
              simp only
              rw [if_neg hn0, if_pos hn]; exact k4 hr hv hf⟩
          · cases hk
    obtain ⟨fr', h', k1, k2, k3, k4⟩ := fin
    exact ⟨fr', h', k1, k2, k3, sim_region fun {Q frv a w H0 m} r ha hr hv hf => region_sound ha (k4 hr hv hf)⟩
  · rw [ifX_eq] at hk
    split at hk <;> try (cases hk; done)
    rename_i hb
    simp only [Bool.and_eq_true] at hb
    obtain ⟨rfl, hm, hB⟩ := hb
    obtain ⟨fr', h', k1, k2, k3, k4⟩ := xOps_ok he hk
    exact ⟨fr', h', k1, k2, k3.mono pick_dsts, sim_region fun {Q frv a w H0 m} r ha hr hv hf => ord_sound hm hB ha (k4 hr hv hf)⟩
  · rw [ifX_eq] at hk
    split at hk <;> try (cases hk; done)
    rename_i hb
    simp only [Bool.and_eq_true] at hb
    obtain ⟨rfl, hm, hB⟩ := hb
    obtain ⟨fr', h', k1, k2, k3, k4⟩ := xLd_ok he hk
    exact ⟨fr', h', k1, k2, k3, sim_region fun {Q frv a w H0 m} r ha hr hv hf => ld_sound hm hB ha (k4 hr hv hf)⟩
  · rw [ifX_eq] at hk
    split at hk <;> try (cases hk; done)
    rename_i hb
    simp only [Bool.and_eq_true] at hb
    obtain ⟨rfl, hm, hB⟩ := hb
    obtain ⟨fr', h', k1, k2, k3, k4⟩ := xF2_ok he hk
    exact ⟨fr', h', k1, k2, k3, sim_region fun {Q frv a w H0 m} r ha hr hv hf => two_sound hm hB ha (k4 hr hv hf)⟩
  · rw [ifX_eq] at hk
    split at hk <;> try (cases hk; done)
    rename_i hb
    simp only [Bool.and_eq_true] at hb
    obtain ⟨rfl, hm, hB⟩ := hb
    obtain ⟨fr', h', k1, k2, k3, k4⟩ := xTree_ok he hk
    exact ⟨fr', h', k1, k2, k3, sim_region fun {Q frv a w H0 m} r ha hr hv hf => tree_sound hm hB ha (k4 hr hv hf)⟩
  · cases hk
  · cases hk
  · cases hk

end Go.Xc

/- Xc, part L: code, run. -/
set_option linter.unusedVariables false
set_option linter.unusedSectionVars false
set_option linter.unusedSimpArgs false
namespace Go.Xc
open Go.Vc
variable [Sites]

/-! ### Code -/
def TupC : Nat → Type
  | 0 => Unit
  | n + 1 => CV × TupC n
def grabX (fr : List CV) : (L : List Nat) → TupC L.length
  | [] => ()
  | k :: L => (slotX fr k, grabX fr L)
def layX : (L : List Nat) → TupC L.length → List CV → List CV
  | [], _, fr => fr
  | k :: L, s, fr => (layX L s.2 fr).set k s.1
def junkX (J : List Nat) (fr : List CV) : List CV :=
  match J with
  | [] => fr
  | k :: J => (junkX J fr).set k .junk

theorem junkX_len (J : List Nat) (fr : List CV) : (junkX J fr).length = fr.length := by
  induction J with
  | nil => rfl
  | cons k J ih => simp [junkX, ih]
theorem junkX_get (J : List Nat) (fr : List CV) (k : Nat) : (junkX J fr)[k]? = if k ∈ J then (if k < fr.length then some .junk else none) else fr[k]? := by
  induction J with
  | nil => simp [junkX]
  | cons j J ih =>
    simp only [junkX, List.getElem?_set, junkX_len, ih, List.mem_cons]
    by_cases h1 : j = k
    · subst h1; simp
    · have h2 : ¬ k = j := fun e => h1 e.symm
      simp [h1, h2]
theorem layX_get (fr1 : List CV) : ∀ (L : List Nat) (fr : List CV) (k : Nat), (layX L (grabX fr1 L) fr)[k]? = if k ∈ L then (if k < fr.length then some (slotX fr1 k) else none) else fr[k]?
  | [], fr, k => by simp [layX]
  | j :: L, fr, k => by
    have hlen : ∀ (L : List Nat) (s : TupC L.length) (fr : List CV), (layX L s fr).length = fr.length := by
      intro L
      induction L with
      | nil => intro s fr; rfl
      | cons a L ih => intro s fr; simp [layX, ih]
    simp only [layX, grabX, List.getElem?_set, hlen, layX_get fr1 L fr k, List.mem_cons]
    by_cases h1 : j = k
    · subst h1; simp
    · have h2 : ¬ k = j := fun e => h1 e.symm
      simp [h1, h2]
/-- Behind code that writes W alone the frame is known as before, but for L, known anew, and J, no longer known. -/
theorem lay_rel {W L J : List Nat} {fr fr1 : List CV} {m : M} {frv : Fr} (h : AgreeX W fr fr1) (hs : subB W (L ++ J) = true) (hv : Vrels m fr1 frv) : Vrels m (layX L (grabX fr1 L) (junkX J fr)) frv := by
  have hl := Vrels_len hv
  have hlen : (layX L (grabX fr1 L) (junkX J fr)).length = fr.length := by
    have : ∀ (L : List Nat) (s : TupC L.length) (fr : List CV), (layX L s fr).length = fr.length := by
      intro L
      induction L with
      | nil => intro s fr; rfl
      | cons a L ih => intro s fr; simp [layX, ih]
    rw [this, junkX_len]
  refine Vrels_of (by rw [hlen, ← hl, h.1]) fun k x hk => ?_
  rw [layX_get, junkX_len, junkX_get] at hk
  by_cases hL : k ∈ L
  · rw [if_pos hL] at hk
    split at hk
    · rename_i hlt
      injection hk with hk; subst hk
      have h2 := slot_rel hv k
      have : k < frv.length := by rw [← hl, h.1]; exact hlt
      refine ⟨slot frv k, ?_, h2⟩
      simp [slot, this]
    · cases hk
  · rw [if_neg hL] at hk
    by_cases hJ : k ∈ J
    · rw [if_pos hJ] at hk
      split at hk
      · rename_i hlt
        injection hk with hk; subst hk
        have : k < frv.length := by rw [← hl, h.1]; exact hlt
        exact ⟨frv[k], List.getElem?_eq_getElem this, trivial⟩
      · cases hk
    · rw [if_neg hJ] at hk
      have : k ∉ W := fun hm => by
        have := subB_spec hs k hm
        simp [hL, hJ] at this
      rw [← h.2 k this] at hk
      exact Vrels_get hv hk
theorem lay_agree {W L J : List Nat} {fr fr1 : List CV} (h : AgreeX W fr fr1) (hJ : subB J W = true) : AgreeX W fr (layX L (grabX fr1 L) (junkX J fr)) := by
  have hlen : (layX L (grabX fr1 L) (junkX J fr)).length = fr.length := by
    have : ∀ (L : List Nat) (s : TupC L.length) (fr : List CV), (layX L s fr).length = fr.length := by
      intro L
      induction L with
      | nil => intro s fr; rfl
      | cons a L ih => intro s fr; simp [layX, ih]
    rw [this, junkX_len]
  refine ⟨hlen, fun k hk => ?_⟩
  rw [layX_get, junkX_len, junkX_get]
  by_cases hL : k ∈ L
  · rw [if_pos hL]
    have h1 := h.2 k hk
    by_cases hlt : k < fr.length
    · rw [if_pos hlt]
      have hlt1 : k < fr1.length := by rw [h.1]; exact hlt
      rw [← h1]
      simp [slotX, hlt1]
    · rw [if_neg hlt, List.getElem?_eq_none (by omega)]
  · rw [if_neg hL]
    have : k ∉ J := fun hm => hk (subB_spec hJ k hm)
    rw [if_neg this]

abbrev QX := Exit → List CV → CH → Bool
abbrev thnX (K : List CV → CH → Bool) (Q : QX) : QX
  | .normal, fr, h => K fr h
  | e, fr, h => Q e fr h
noncomputable abbrev isXX (k id : Nat) (A B : Bool) : Bool := Bool.rec B A (Nat.beq k id)
noncomputable abbrev blkX (id : Nat) (Q : QX) : QX
  | .exit k, fr, h => isXX k id (Q .normal fr h) (Q (.exit k) fr h)
  | e, fr, h => Q e fr h
abbrev scpX (Q : QX) : QX
  | .goto _, _, _ => false
  | e, fr, h => Q e fr h
noncomputable def xJoin {n : Nat} (rest : TupC n → CH → Bool) (first : (TupC n → CH → Bool) → Bool) : Bool := first rest
noncomputable def xLoop {n : Nat} (body : (TupC n → CH → Bool) → TupC n → CH → Bool) (N : Nat) : TupC n → CH → Bool :=
  Nat.rec (motive := fun _ => TupC n → CH → Bool) (fun _ _ => false) (fun _ ih s h => body ih s h) N

abbrev xJmp (j : Option (Option Nat)) (A B : Bool) (D : Nat → Bool) : Bool :=
  match j with
  | none => A
  | some none => B
  | some (some id) => D id
/-- A loop over a function: its record is laid, the function called with what asks for rounds; then the jump that is pending. -/
noncomputable def xRange (C : List (Nat × Ex)) (n : Nat) (fr : List CV) (g : CV) (h : CH) (K : Option (Option Nat) → CH → Bool) : Bool :=
  match g with
  | .fn f a c => xNew (.lp 0 none n fr) h fun b h1 => xCallF C f ((a ++ [.yv b]) ++ c) h1 fun _ h2 =>
      (match h2.get b with
      | some (.lp st j n' fr') => Bool.rec (xSet b (.lp 3 j n' fr') h2 fun h3 => K j h3) false (Nat.beq st 1)
      | _ => false)
  | _ => false
/-- The loops over functions in code are those of the numbers that it is annotated by; top: not within a round. -/
def SitesIn (top : Bool) : Code → Ann → Prop
  | .seq a b, ann => (match ann with
    | .join _ _ l r => SitesIn top a l ∧ SitesIn top b r
    | .seq l r => SitesIn top a l ∧ SitesIn top b r
    | _ => SitesIn top a .nil ∧ SitesIn top b .nil)
  | .cond _ a b, ann => (match ann with
    | .cond l r => SitesIn top a l ∧ SitesIn top b r
    | _ => SitesIn top a .nil ∧ SitesIn top b .nil)
  | .block _ c, ann => SitesIn top c ann
  | .scope c, ann => SitesIn top c ann
  | .loop c, ann => (match ann with
    | .loop _ _ b => SitesIn top c b
    | _ => True)
  | .rangeFunc _ ps x y, ann => (match ann with
    | .loop [n] _ _ => top = true ∧ Sites.ok n ps x y
    | _ => True)
  | _, _ => True

noncomputable def xc (P : Program) (qf : FuncId → Bool) (Z : List (Nat × CV)) (C : List (Nat × Ex)) (T : List (Nat × Plan)) : Code → Ann → QX → List CV → CH → Bool
  | .skip, _, Q, fr, h => Q .normal fr h
  | .label _, _, Q, fr, h => Q .normal fr h
  | .ret, _, Q, fr, h => Q .ret fr h
  | .exit id, _, Q, fr, h => Q (.exit id) fr h
  | .region id ops dr, _, Q, fr, h => xRegP P qf Z C (look T id) ops dr fr h fun fr' h' => Q .normal fr' h'
  | .seq a b, ann, Q, fr, h =>
    match ann with
    | .join L J l r =>
      ifX (subB (writes a) (L ++ J) && subB J (writes a))
        (xJoin (fun s h => xc P qf Z C T b r Q (layX L s (junkX J fr)) h) fun K => xc P qf Z C T a l (thnX (fun fr' h' => K (grabX fr' L) h') Q) fr h)
        false
    | .seq l r => xc P qf Z C T a l (thnX (xc P qf Z C T b r Q) Q) fr h
    | _ => xc P qf Z C T a .nil (thnX (xc P qf Z C T b .nil Q) Q) fr h
  | .cond c a b, ann, Q, fr, h =>
    match ann with
    | .cond l r => xIte (evX fr c) (xc P qf Z C T a l Q fr h) (xc P qf Z C T b r Q fr h)
    | _ => xIte (evX fr c) (xc P qf Z C T a .nil Q fr h) (xc P qf Z C T b .nil Q fr h)
  | .block id c, ann, Q, fr, h => xc P qf Z C T c ann (blkX id Q) fr h
  | .scope c, ann, Q, fr, h => xc P qf Z C T c ann (scpX Q) fr h
  | .loop c, ann, Q, fr, h =>
    match ann with
    | .loop L J b =>
      ifX (subB (writes c) (L ++ J) && subB J (writes c))
        (xLoop (n := L.length) (fun K s h => xc P qf Z C T c b (thnX (fun fr' h' => K (grabX fr' L) h') Q) (layX L s (junkX J fr)) h) 1000000 (grabX fr L) h)
        false
    | _ => false
  | .rangeFunc g _ _ _, ann, Q, fr, h =>
    match ann with
    | .loop [n] _ _ => xRange C n fr (evX fr g) h fun j h' => xJmp j (Q .normal fr h') (Q .ret fr h') fun id => Q (.exit id) fr h'
    | _ => false
  | _, _, _, _, _ => false

theorem PostX.trans {tp : Bool} {H0 : Hp} {m m1 : M} {wp : Nat} {e : Exit} {fr' : List CV} {h' : CH} {a a1 : Act} {w w1 : World} {e' : Exit} {a' : Act} {w' : World} (hs : Stp wp m w.heap m1 w1.heap) (hd : Dfs tp m1 w.heap.size w1.heap a1.defers a.defers) (hsm : Sm w w1) (h : PostX tp H0 m1 wp e fr' h' a1 w1 e' a' w') : PostX tp H0 m wp e fr' h' a w e' a' w' := by
  obtain ⟨h1, m', frv', h2, h3, h4, h5, h6, h7⟩ := h
  exact ⟨h1, m', frv', h2, hs.trans h3, h4, h5, hd.trans h3 hs.kp.le h6, hsm.trans h7⟩

theorem seq_ok {P : Program} {top : Bool} {x y : Code} {fr fr1 fr1' fr2 : List CV} {h h1 h2 : CH} {e : Exit} (hw : h1.wp = h.wp) (s1 : SimC P top x fr h .normal fr1 h1) (hfr : ∀ {m frv}, Vrels m fr1 frv → Vrels m fr1' frv) (s2 : SimC P top y fr1' h1 e fr2 h2) : SimC P top (.seq x y) fr h e fr2 h2 := by
  intro H0 m frv a w r ht hr hv ha
  refine wpIn_seq (wpIn_mono (s1 r ht hr hv ha) fun e' a' w' hp => ?_)
  obtain ⟨rfl, m', frv', k1, k2, k3, k4, k5, k6⟩ := hp
  refine wpIn_mono (s2 r ht k1 (hfr k3) k4) fun e'' a'' w'' hp => ?_
  rw [hw] at hp
  exact hp.trans k2 k5 k6
theorem seq_exit {P : Program} {top : Bool} {x y : Code} {fr fr1 : List CV} {h h1 : CH} {e : Exit} (hn : e ≠ .normal) (s1 : SimC P top x fr h e fr1 h1) : SimC P top (.seq x y) fr h e fr1 h1 := by
  intro H0 m frv a w r ht hr hv ha
  refine wpIn_seq (wpIn_mono (s1 r ht hr hv ha) fun e' a' w' hp => ?_)
  have he := hp.1
  subst he
  cases e' <;> first | exact absurd rfl hn | exact hp

theorem thnX_ok {K : List CV → CH → Bool} {Q : QX} {e : Exit} {fr : List CV} {h : CH} (hq : thnX K Q e fr h = true) : (e = .normal ∧ K fr h = true) ∨ (e ≠ .normal ∧ Q e fr h = true) := by
  cases e <;> first | exact .inl ⟨rfl, hq⟩ | exact .inr ⟨by simp, hq⟩

/-- A LOOP OVER A FUNCTION, RUN. -/
theorem range_ok {P : Program} {top : Bool} {Z : List (Nat × CV)} {C : List (Nat × Ex)} (he : EnvOk P Z C) {n : Nat} {g : Operand} {ps : Array Tmp} {x y : Code} (htop : top = true) (hok : Sites.ok n ps x y) {Q : QX} {fr : List CV} {h : CH} (hk : xRange C n fr (evX fr g) h (fun j h' => xJmp j (Q .normal fr h') (Q .ret fr h') fun id => Q (.exit id) fr h') = true) :
    ∃ e h', Q e fr h' = true ∧ h'.wp = h.wp ∧ SimC P top (.rangeFunc g ps x y) fr h e fr h' := by
  unfold xRange at hk
  split at hk <;> try (cases hk; done)
  rename_i f fa fc hg
  obtain ⟨h1, k1, w1, hnew⟩ := xNew_ok hk
  clear hk
  obtain ⟨hen, z, h2, k2, w2, s2⟩ := xCallF_ok he k1
  clear k1
  split at k2 <;> try (cases k2; done)
  rename_i st j n' fr' hlp
  cases hst : Nat.beq st 1 with
  | true => rw [hst] at k2; cases k2
  | false =>
    rw [hst] at k2
    obtain ⟨h3, k3, w3, hset⟩ := xSet_ok k2
    clear k2
    have hstne : stOf st ≠ .busy := by
      match st, hst with
      | 0, _ => simp [stOf]
      | 1, hst => cases hst
      | 2, _ => simp [stOf]
      | k + 3, _ => simp [stOf]
    have out : ∃ e, Q e fr h3 = true ∧ ((j = none ∧ e = .normal) ∨ (j = some none ∧ e = .ret) ∨ ∃ id, j = some (some id) ∧ e = .exit id) := by
      match j, k3 with
      | none, k3 => exact ⟨.normal, k3, .inl ⟨rfl, rfl⟩⟩
      | some none, k3 => exact ⟨.ret, k3, .inr (.inl ⟨rfl, rfl⟩)⟩
      | some (some id), k3 => exact ⟨.exit id, k3, .inr (.inr ⟨id, rfl, rfl⟩)⟩
    obtain ⟨e, hq, hje⟩ := out
    refine ⟨e, h3, hq, (w3.trans w2).trans w1, ?_⟩
    intro H0 m frv a w r ht hr hv ha
    have hrn := ht htop
    subst hrn
    have hgr := ev_rel hv g
    rw [hg] at hgr
    obtain ⟨va, vc, hgv, ra, rc⟩ := hgr
    have hga : a.eval g = .func (.func f) va vc := by rw [ha.ev]; exact hgv
    refine wpIn_rangeFunc fun fn _ => ?_
    let rec0 : Loop := { state := .ready, pending := none, fn := fn, tmps := a.tmps, params := ps, assign := x, body := y, defers := w.heap.size }
    let Hd : Hp := w.heap.push (.deferred (some []))
    let H1 : Hp := Hd.push (.loop rec0)
    let w1' : World := { w with heap := H1 }
    have hsd : Hd.size = w.heap.size + 1 := by simp [Hd]
    have hxd : Ext w.heap Hd := Ext.push _ _
    have hfr : Vrels m fr rec0.tmps.toList := by
      show Vrels m fr a.tmps.toList
      rw [show a.tmps = frv.toArray from ha]; exact hv
    obtain ⟨r1, r2, r3⟩ := hnew (z := 0) (O := .loop rec0) (hr.ext' hxd) ⟨rec0, rfl, hok, hfr⟩
    have hsz1 : H1.size = w.heap.size + 2 := by simp [H1, Hd]
    have hD1 : H1[w.heap.size]? = some (.deferred (some [])) := by
      simp only [H1, Hd]
      rw [Array.getElem?_push, if_neg (by simp), Array.getElem?_push, if_pos rfl]
    have hDm : ∀ (k : Nat) (e : Nat × Nat), (m ++ [(Hd.size, 0)])[k]? = some e → e.1 ≠ w.heap.size := fun k e hk => by
      rw [List.getElem?_append] at hk
      split at hk
      · have := hr.low k e hk; omega
      · cases hkk : k - m.length with
        | zero => rw [hkk] at hk; simp at hk; subst hk; simp [hsd]
        | succ q => rw [hkk] at hk; simp at hk
    have hyv : Vrels (m ++ [(Hd.size, 0)]) ((fa ++ [.yv h.n]) ++ fc) ((va.toList ++ [Value.func (.yield (w.heap.size + 1)) #[] #[]]) ++ vc.toList) := by
      refine Vrels_append (Vrels_append (Vrels.mono r2.pre fa ra) ⟨_, [], rfl, ⟨_, r3, ?_⟩, rfl⟩) (Vrels.mono r2.pre fc rc)
      rw [hsd]
    have hcall := s2 (K := fun _ H5 => ∃ m' Dm : M, Dm = m ∧ Rel H0 m' h2 H5 ∧ Stp h.wp m w.heap m' H5 ∧ H5[w.heap.size]? = some (.deferred (some [])) ∧ (∀ (k : Nat) (e : Nat × Nat), m'[k]? = some e → e.1 ≠ w.heap.size) ∧ m'[h.n]? = some (w.heap.size + 1, 0)) r1 hyv (fun m' H5 v q1 q2 q3 => by
      rw [w1] at q2
      refine ⟨m', m, rfl, q1, ((Stp.ext hxd).trans r2).trans q2, ?_, fun k e hk he' => ?_, by rw [← hsd]; exact q2.pre _ _ r3⟩
      · rw [q2.kp.same w.heap.size (by show w.heap.size < H1.size; omega) fun ⟨k, e, h4, _, h5⟩ => hDm k e h4 h5]
        exact hD1
      · rcases q2.new k e hk with h6 | h6 | h6
        · exact hDm k e h6 he'
        · have : H1.size ≤ e.1 := h6
          omega
        · obtain ⟨i, d, h8, _, h9⟩ := h6
          exact hDm i d h8 (h9.trans he'))
    refine ⟨w.heap.size + 1, [markD w.heap.size], w1', { target := .fn (.func f) vc, args := va ++ #[.func (.yield (w.heap.size + 1)) #[] #[]] }, w1', f, (va ++ #[.func (.yield (w.heap.size + 1)) #[] #[]]) ++ vc, w1', ?_, ?_, fun _ _ => trivial, ?_, fun h => by simp [wideR, Fence.wide] at h, ?_⟩
    · simp [Instr.enterLoop, newObj, wideR, Sem.run, markD, w1', H1, Hd, rec0]
      rfl
    · unfold resolve
      simp only [rangeCall, hga]
      simp [Deferred.ofValue, Act.eval]
    · have := enter_ok hen ((va ++ #[.func (.yield (w.heap.size + 1)) #[] #[]]) ++ vc) w1'
      simpa [invoke] using this
    · have e1 : ((va.toList ++ [Value.func (.yield (w.heap.size + 1)) #[] #[]]) ++ vc.toList).toArray = (va ++ #[.func (.yield (w.heap.size + 1)) #[] #[]]) ++ vc := by simp
      rw [e1] at hcall
      refine CallsIn.mono (hcall w1' rfl) fun e5 w5 ⟨v, hev, hpost, hsm⟩ => ?_
      subst hev
      obtain ⟨m', _, _, q1, q2, q3, q4, q5⟩ := hpost
      obtain ⟨e6, O, o1, o2, rec, rfl, o3, o4⟩ := q1.obj h.n _ hlp
      rw [q5] at o1; injection o1 with o1; subst o1
      have hlpj : LpAt rec (w.heap.size + 1) (stOf st) j w5.heap := o2
      refine ⟨_, _, endLoop_ok hstne hlpj, ?_⟩
      obtain ⟨t1, t2⟩ := hset (O := .loop { rec with state := .exhausted, pending := jmpCode j }) q1 hlp q5 ⟨rec, rfl, o3, o4⟩
      have hset' : setLp rec (w.heap.size + 1) .exhausted j w5.heap = w5.heap.setIfInBounds (w.heap.size + 1) (.loop { rec with state := .exhausted, pending := jmpCode j }) := rfl
      have hsm' : Sm w { w5 with heap := setLp rec (w.heap.size + 1) .exhausted j w5.heap } := ⟨hsm.os, hsm.out, hsm.tape⟩
      have fin : PostX top H0 m h.wp e fr h3 a w e { a with defers := [markD w.heap.size] ++ a.defers } { w5 with heap := setLp rec (w.heap.size + 1) .exhausted j w5.heap } := by
        rw [w2, w1] at t2
        refine ⟨rfl, m', frv, t1, q2.trans t2, Vrels.mono (q2.pre) fr hv, ha, ⟨[w.heap.size], rfl, ⟨by simp, fun ht => by rw [htop] at ht; cases ht⟩, fun D hD => ?_⟩, hsm'⟩
        rw [List.mem_singleton] at hD
        subst hD
        refine ⟨?_, Nat.le_refl _, q4⟩
        show (w5.heap.setIfInBounds (w.heap.size + 1) _)[w.heap.size]? = _
        rw [get_set_other (by omega)]
        exact q3
      rcases hje with ⟨rfl, rfl⟩ | ⟨rfl, rfl⟩ | ⟨id, rfl, rfl⟩
      · exact fin
      · exact wpIn_ret fin
      · exact wpIn_exit fin

theorem xc_ok {P : Program} {top : Bool} {qf : FuncId → Bool} {Z : List (Nat × CV)} {C : List (Nat × Ex)} {T : List (Nat × Plan)} (he : EnvOk P Z C) : ∀ (c : Code) (ann : Ann) (Q : QX) (fr : List CV) (h : CH), xc P qf Z C T c ann Q fr h = true → SitesIn top c ann →
    ∃ e fr' h', Q e fr' h' = true ∧ h'.wp = h.wp ∧ AgreeX (writes c) fr fr' ∧ SimC P top c fr h e fr' h' := by
  intro c
  have here : ∀ {c : Code} {e : Exit} {fr : List CV} {h : CH}, (∀ {r : Option Nat} {Q : Exit → Act → World → Prop} {a w}, Q e a w → c.wpIn (wideR r) 0 P Q a w) → SimC P top c fr h e fr h := by
    intro c e fr h hc H0 m frv a w r ht hr hv ha
    exact hc ⟨rfl, m, frv, hr, Stp.refl _ _ _, hv, ha, Dfs.refl _ _ _ _ _, Sm.refl w⟩
  induction c with
  | skip => intro ann Q fr h hk hS; exact ⟨.normal, fr, h, by cases ann <;> exact hk, rfl, AgreeX.refl _ _, here fun hq => wpIn_skip hq⟩
  | label l => intro ann Q fr h hk hS; exact ⟨.normal, fr, h, by cases ann <;> exact hk, rfl, AgreeX.refl _ _, here fun hq => wpIn_label hq⟩
  | ret => intro ann Q fr h hk hS; exact ⟨.ret, fr, h, by cases ann <;> exact hk, rfl, AgreeX.refl _ _, here fun hq => wpIn_ret hq⟩
  | exit id => intro ann Q fr h hk hS; exact ⟨.exit id, fr, h, by cases ann <;> exact hk, rfl, AgreeX.refl _ _, here fun hq => wpIn_exit hq⟩
  | region id ops dr =>
    intro ann Q fr h hk hS
    have hk : xRegP P qf Z C (look T id) ops dr fr h (fun fr' h' => Q .normal fr' h') = true := by cases ann <;> exact hk
    obtain ⟨fr', h', k1, k2, k3, k4⟩ := regP_ok (id := id) he hk
    exact ⟨.normal, fr', h', k1, k2, k3, k4⟩
  | block id c ih =>
    intro ann Q fr h hk hS
    have hk : xc P qf Z C T c ann (blkX id Q) fr h = true := by cases ann <;> exact hk
    obtain ⟨e, fr', h', k1, k2, k3, k4⟩ := ih ann (blkX id Q) fr h hk (by cases ann <;> exact hS)
    by_cases hex : e = .exit id
    · subst hex
      have k1 : isXX id id (Q .normal fr' h') (Q (.exit id) fr' h') = true := k1
      unfold isXX at k1
      rw [Nat.beq_refl] at k1
      refine ⟨.normal, fr', h', k1, k2, k3, fun {H0 m frv a w} r ht hr hv ha => ?_⟩
      refine wpIn_block (wpIn_mono (k4 r ht hr hv ha) fun e' a' w' hp => ?_)
      obtain ⟨rfl, hp⟩ := hp
      show (if id = id then _ else _)
      rw [if_pos rfl]
      exact ⟨rfl, hp⟩
    · refine ⟨e, fr', h', ?_, k2, k3, fun {H0 m frv a w} r ht hr hv ha => ?_⟩
      · cases e with
        | exit k =>
          have k1 : isXX k id (Q .normal fr' h') (Q (.exit k) fr' h') = true := k1
          have hne : Nat.beq k id = false := by
            cases hb : Nat.beq k id with
            | false => rfl
            | true => exact absurd (by rw [Nat.eq_of_beq_eq_true hb]) hex
          unfold isXX at k1
          rw [hne] at k1
          exact k1
        | normal => exact k1
        | goto l => exact k1
        | ret => exact k1
        | panic c => exact k1
        | outgrown => exact k1
      · refine wpIn_block (wpIn_mono (k4 r ht hr hv ha) fun e' a' w' hp => ?_)
        obtain ⟨rfl, hp⟩ := hp
        cases e' with
        | exit k =>
          have hne : ¬ k = id := fun hkid => hex (by rw [hkid])
          show (if k = id then _ else _)
          rw [if_neg hne]
          exact ⟨rfl, hp⟩
        | normal => exact ⟨rfl, hp⟩
        | goto l => exact ⟨rfl, hp⟩
        | ret => exact ⟨rfl, hp⟩
        | panic c => exact ⟨rfl, hp⟩
        | outgrown => exact ⟨rfl, hp⟩
  | cond c x y ihx ihy =>
    intro ann Q fr h hk hS
    have hk : ∃ l r', xIte (evX fr c) (xc P qf Z C T x l Q fr h) (xc P qf Z C T y r' Q fr h) = true ∧ SitesIn top x l ∧ SitesIn top y r' := by cases ann <;> exact ⟨_, _, hk, hS.1, hS.2⟩
    obtain ⟨l, r', hk, hS1, hS2⟩ := hk
    unfold xIte at hk
    split at hk
    · rename_i hc
      obtain ⟨e, fr', h', k1, k2, k3, k4⟩ := ihx l Q fr h hk hS1
      refine ⟨e, fr', h', k1, k2, k3.mono fun k hk => List.mem_append_left _ hk, fun {H0 m frv a w} r ht hr hv ha => ?_⟩
      have hcv := ev_rel hv c
      rw [hc] at hcv
      exact wpIn_cond_true (by rw [ha.ev]; exact hcv) (k4 r ht hr hv ha)
    · rename_i hc
      obtain ⟨e, fr', h', k1, k2, k3, k4⟩ := ihy r' Q fr h hk hS2
      refine ⟨e, fr', h', k1, k2, k3.mono fun k hk => List.mem_append_right _ hk, fun {H0 m frv a w} r ht hr hv ha => ?_⟩
      have hcv := ev_rel hv c
      rw [hc] at hcv
      exact wpIn_cond_false (by rw [ha.ev]; exact hcv) (k4 r ht hr hv ha)
    · cases hk
  | seq x y ihx ihy =>
    intro ann Q fr h hk hS
    have plain : ∀ l r', xc P qf Z C T x l (thnX (xc P qf Z C T y r' Q) Q) fr h = true → SitesIn top x l → SitesIn top y r' → ∃ e fr' h', Q e fr' h' = true ∧ h'.wp = h.wp ∧ AgreeX (writes (.seq x y)) fr fr' ∧ SimC P top (.seq x y) fr h e fr' h' := by
      intro l r' hk hS1 hS2
      obtain ⟨e, fr1, h1, k1, k2, k3, k4⟩ := ihx l _ fr h hk hS1
      rcases thnX_ok k1 with ⟨rfl, k1⟩ | ⟨hn, k1⟩
      · obtain ⟨e, fr2, h2, q1, q2, q3, q4⟩ := ihy r' Q fr1 h1 k1 hS2
        exact ⟨e, fr2, h2, q1, q2.trans k2, (k3.mono fun k hk => List.mem_append_left _ hk).trans (q3.mono fun k hk => List.mem_append_right _ hk), seq_ok k2 k4 (fun hv => hv) q4⟩
      · exact ⟨e, fr1, h1, k1, k2, k3.mono fun k hk => List.mem_append_left _ hk, seq_exit hn k4⟩
    have key : (∃ L J l r', (subB (writes x) (L ++ J) && subB J (writes x)) = true ∧ xc P qf Z C T x l (thnX (fun fr' h' => xc P qf Z C T y r' Q (layX L (grabX fr' L) (junkX J fr)) h') Q) fr h = true ∧ SitesIn top x l ∧ SitesIn top y r') ∨ ∃ l r', xc P qf Z C T x l (thnX (xc P qf Z C T y r' Q) Q) fr h = true ∧ SitesIn top x l ∧ SitesIn top y r' := by
      cases ann with
      | join L J l r' =>
        unfold xc at hk
        simp only at hk
        rw [ifX_eq] at hk
        split at hk
        · rename_i hs; exact .inl ⟨_, _, _, _, hs, hk, hS.1, hS.2⟩
        · cases hk
      | seq l r' => unfold xc at hk; exact .inr ⟨_, _, hk, hS.1, hS.2⟩
      | nil => unfold xc at hk; exact .inr ⟨_, _, hk, hS.1, hS.2⟩
      | cond l r' => unfold xc at hk; exact .inr ⟨_, _, hk, hS.1, hS.2⟩
      | loop L J b => unfold xc at hk; exact .inr ⟨_, _, hk, hS.1, hS.2⟩
    rcases key with ⟨L, J, l, r', hs, hk, hS1, hS2⟩ | ⟨l, r', hk, hS1, hS2⟩
    · simp only [Bool.and_eq_true] at hs
      obtain ⟨e, fr1, h1, k1, k2, k3, k4⟩ := ihx l _ fr h hk hS1
      rcases thnX_ok k1 with ⟨rfl, k1⟩ | ⟨hn, k1⟩
      · obtain ⟨e, fr2, h2, q1, q2, q3, q4⟩ := ihy r' Q _ h1 k1 hS2
        exact ⟨e, fr2, h2, q1, q2.trans k2, ((lay_agree k3 hs.2).mono fun k hk => List.mem_append_left _ hk).trans (q3.mono fun k hk => List.mem_append_right _ hk), seq_ok k2 k4 (fun hv => lay_rel k3 hs.1 hv) q4⟩
      · exact ⟨e, fr1, h1, k1, k2, k3.mono fun k hk => List.mem_append_left _ hk, seq_exit hn k4⟩
    · exact plain l r' hk hS1 hS2
  | loop c ih =>
    intro ann Q fr h hk hS
    have key : ∃ L J b, (subB (writes c) (L ++ J) && subB J (writes c)) = true ∧ xLoop (n := L.length) (fun K s h => xc P qf Z C T c b (thnX (fun fr' h' => K (grabX fr' L) h') Q) (layX L s (junkX J fr)) h) 1000000 (grabX fr L) h = true ∧ SitesIn top c b := by
      cases ann with
      | loop L J b =>
        unfold xc at hk
        simp only at hk
        rw [ifX_eq] at hk
        split at hk
        · rename_i hs; exact ⟨_, _, _, hs, hk, hS⟩
        · cases hk
      | nil => cases hk
      | seq l r => cases hk
      | join L J l r => cases hk
      | cond l r => cases hk
    obtain ⟨L, J, b, hs, hk, hS1⟩ := key
    simp only [Bool.and_eq_true] at hs
    have rounds : ∀ (N : Nat) (fr1 : List CV) (h1 : CH), h1.wp = h.wp → AgreeX (writes c) fr fr1 →
        xLoop (n := L.length) (fun K s h => xc P qf Z C T c b (thnX (fun fr' h' => K (grabX fr' L) h') Q) (layX L s (junkX J fr)) h) N (grabX fr1 L) h1 = true →
        ∃ e fr' h', Q e fr' h' = true ∧ h'.wp = h.wp ∧ AgreeX (writes c) fr fr' ∧ ∀ {H0 m frv a w} (r : Option Nat), (top = true → r = none) → Rel H0 m h1 w.heap → Vrels m fr1 frv → At a frv → Code.roundsIn (wideR r) 0 P c (PostX top H0 m h1.wp e fr' h' a w) N a w := by
      intro N
      induction N with
      | zero => intro fr1 h1 _ _ hk; cases hk
      | succ N ihN =>
        intro fr1 h1 hw1 ha1 hk
        have hk' : xc P qf Z C T c b (thnX (fun fr' h' => xLoop (n := L.length) (fun K s h => xc P qf Z C T c b (thnX (fun fr' h' => K (grabX fr' L) h') Q) (layX L s (junkX J fr)) h) N (grabX fr' L) h') Q) (layX L (grabX fr1 L) (junkX J fr)) h1 = true := hk
        obtain ⟨e, fr2, h2, k1, k2, k3, k4⟩ := ih b _ _ h1 hk' hS1
        have hag := (lay_agree (L := L) ha1 hs.2).trans k3
        rcases thnX_ok k1 with ⟨rfl, k1⟩ | ⟨hn, k1⟩
        · obtain ⟨e, fr3, h3, q1, q2, q3, q4⟩ := ihN fr2 h2 (k2.trans hw1) hag k1
          refine ⟨e, fr3, h3, q1, q2, q3, fun {H0 m frv a w} r ht hr hv ha => ?_⟩
          rw [roundsIn_succ]
          refine wpIn_mono (k4 r ht hr (lay_rel ha1 hs.1 hv) ha) fun e' a' w' hp => ?_
          obtain ⟨rfl, m', frv', p1, p2, p3, p4, p5, p6⟩ := hp
          have hq := q4 r ht p1 p3 p4
          rw [k2] at hq
          refine roundsIn_mono (fun e'' a'' w'' hp => ?_) _ _ _ hq
          exact hp.trans p2 p5 p6
        · refine ⟨e, fr2, h2, k1, k2.trans hw1, hag, fun {H0 m frv a w} r ht hr hv ha => ?_⟩
          rw [roundsIn_succ]
          refine wpIn_mono (k4 r ht hr (lay_rel ha1 hs.1 hv) ha) fun e' a' w' hp => ?_
          have hee := hp.1
          subst hee
          cases e' <;> first | exact absurd rfl hn | exact hp
    obtain ⟨e, fr', h', q1, q2, q3, q4⟩ := rounds 1000000 fr h rfl (AgreeX.refl _ _) hk
    exact ⟨e, fr', h', q1, q2, q3, fun {H0 m frv a w} r ht hr hv ha => wpIn_loop_rounds 1000000 (q4 r ht hr hv ha)⟩
  | scope c ih =>
    intro ann Q fr h hk hS
    have hk : xc P qf Z C T c ann (scpX Q) fr h = true := by cases ann <;> exact hk
    obtain ⟨e, fr', h', k1, k2, k3, k4⟩ := ih ann (scpX Q) fr h hk (by cases ann <;> exact hS)
    refine ⟨e, fr', h', ?_, k2, k3, fun {H0 m frv a w} r ht hr hv ha => ?_⟩
    · cases e <;> first | exact k1 | cases k1
    · refine wpIn_scope (wpIn_mono (k4 r ht hr hv ha) fun e' a' w' hp => ?_)
      obtain ⟨rfl, hp⟩ := hp
      cases e' <;> first | exact ⟨rfl, hp⟩ | cases k1
  | goto l => intro ann Q fr h hk hS; cases ann <;> cases hk
  | refuse why => intro ann Q fr h hk hS; cases ann <;> cases hk
  | rangeFunc g ps x y ihx ihy =>
    intro ann Q fr h hk hS
    have key : ∃ n, xRange C n fr (evX fr g) h (fun j h' => xJmp j (Q .normal fr h') (Q .ret fr h') fun id => Q (.exit id) fr h') = true ∧ top = true ∧ Sites.ok n ps x y := by
      cases ann with
      | loop L J b =>
        match L, hk, hS with
        | [n], hk, hS => exact ⟨n, hk, hS⟩
      | nil => cases hk
      | seq l r => cases hk
      | join L J l r => cases hk
      | cond l r => cases hk
    obtain ⟨n, hk, htop, hok⟩ := key
    obtain ⟨e, h', k1, k2, k3⟩ := range_ok he htop hok hk
    exact ⟨e, fr, h', k1, k2, AgreeX.refl _ _, k3⟩
where
  roundsIn_mono {P : Program} {r : Option Nat} {c : Code} {Q Q' : Exit → Act → World → Prop} (hq : ∀ e a w, Q e a w → Q' e a w) : ∀ (N : Nat) (a : Act) (w : World), Code.roundsIn (wideR r) 0 P c Q N a w → Code.roundsIn (wideR r) 0 P c Q' N a w
    | 0, _, _, h => h
    | N + 1, a, w, h => by
      rw [roundsIn_succ] at h ⊢
      refine wpIn_mono h fun e a' w' hp => ?_
      cases e <;> first | exact roundsIn_mono hq N _ _ hp | exact hq _ _ _ hp
end Go.Xc

/- Xc, part M: a function's run is worth a contract. -/
set_option linter.unusedVariables false
set_option linter.unusedSectionVars false
set_option linter.unusedSimpArgs false
namespace Go.Xc
open Go.Vc
variable [Sites]

def mkResX (vs : List CV) : CV :=
  match vs with
  | [v] => v
  | vs => .tup vs
noncomputable def xRes (P : Program) (fr : List CV) (h : CH) (k : CV → Bool) : List ResultVar → List CV → Bool
  | [], acc => k (mkResX acc.reverse)
  | .tmp t :: rs, acc => xRes P fr h k rs (slotX fr t :: acc)
  | .cell t T :: rs, acc => xLoad (ldK P T) (slotX fr t) h fun v => xRes P fr h k rs (v :: acc)
noncomputable abbrev retX (P : Program) (fn : Func) (k : CV → CH → Bool) : QX
  | .normal, fr, h => xRes P fr h (fun v => k v h) fn.results.toList []
  | .ret, fr, h => xRes P fr h (fun v => k v h) fn.results.toList []
  | _, _, _ => false
def padX (args : List CV) (n : Nat) : List CV := args ++ List.replicate (n - args.length) (.tup [])
noncomputable def xFnR (P : Program) (qf : FuncId → Bool) (Z : List (Nat × CV)) (C : List (Nat × Ex)) (T : List (Nat × Plan)) (fn : Func) (ann : Ann) (args : List CV) (h : CH) (k : CV → CH → Bool) : Bool :=
  match fn.body with
  | some c => xc P qf Z C T c ann (retX P fn k) (padX args fn.ntmps) h
  | none => false
noncomputable def xFn (P : Program) (qf : FuncId → Bool) (Z : List (Nat × CV)) (C : List (Nat × Ex)) (T : List (Nat × Plan)) (fn : Func) (ann : Ann) (args : List CV) (h : CH) (k : CV → CH → Bool) : Bool :=
  match fn.body with
  | some c => ifX (noDef c) (xc P qf Z C T c ann (retX P fn k) (padX args fn.ntmps) h) false
  | none => false
theorem sites_none {top : Bool} : ∀ (c : Code) (ann : Ann), noDef c = true → SitesIn top c ann
  | .seq a b, ann, h => by
    simp only [noDef, Bool.and_eq_true] at h
    cases ann <;> exact ⟨sites_none a _ h.1, sites_none b _ h.2⟩
  | .cond _ a b, ann, h => by
    simp only [noDef, Bool.and_eq_true] at h
    cases ann <;> exact ⟨sites_none a _ h.1, sites_none b _ h.2⟩
  | .block _ c, ann, h => by
    have := sites_none (top := top) c ann h
    cases ann <;> exact this
  | .scope c, ann, h => by
    have := sites_none (top := top) c ann h
    cases ann <;> exact this
  | .loop c, ann, h => by
    cases ann with
    | loop L J b => exact sites_none c b h
    | nil => trivial
    | seq l r => trivial
    | join L J l r => trivial
    | cond l r => trivial
  | .rangeFunc _ _ _ _, ann, h => by cases h
  | .skip, ann, _ => by cases ann <;> trivial
  | .label _, ann, _ => by cases ann <;> trivial
  | .ret, ann, _ => by cases ann <;> trivial
  | .exit _, ann, _ => by cases ann <;> trivial
  | .region _ _ _, ann, _ => by cases ann <;> trivial
  | .goto _, ann, _ => by cases ann <;> trivial
  | .refuse _, ann, _ => by cases ann <;> trivial

/-- At a function's end the marks of its loops are taken away. -/
theorem marks_end {H0 : Hp} {m m' : M} {h' : CH} {Hs : Hp} {wp : Nat} {K : Hp → Prop} (h0 : H0.size ≤ Hs.size) (hK : ∀ H', Rel H0 m' h' H' → Stp wp m Hs m' H' → K H') : ∀ (Ds : List Nat) (H : Hp), Ds.Nodup →
    (∀ D ∈ Ds, H[D]? = some (.deferred (some [])) ∧ Hs.size ≤ D ∧ ∀ (k : Nat) (e : Nat × Nat), m'[k]? = some e → e.1 ≠ D) → Rel H0 m' h' H → Stp wp m Hs m' H → VcEnd (Ds.map markD) H K
  | [], H, _, _, hr, hs => hK H hr hs
  | D :: Ds, H, hnd, hD, hr, hs => by
    obtain ⟨h1, h2, h3⟩ := hD D List.mem_cons_self
    have hnd' := List.nodup_cons.1 hnd
    have same : ∀ q, q ≠ D → (H.setIfInBounds D (.deferred none))[q]? = H[q]? := fun q hq => get_set_other fun e => hq e.symm
    refine ⟨h1, marks_end h0 hK Ds _ hnd'.2 (fun E hE => ?_) ?_ ?_⟩
    · obtain ⟨q1, q2, q3⟩ := hD E (List.mem_cons_of_mem _ hE)
      exact ⟨by rw [same E fun e => hnd'.1 (e ▸ hE)]; exact q1, q2, q3⟩
    · refine ⟨hr.ext.set (by omega), hr.len, hr.new, fun k o hk => ?_, hr.inj, fun k e hk => by simp; exact hr.low k e hk⟩
      obtain ⟨e, O, q1, q2, q3⟩ := hr.obj k o hk
      exact ⟨e, O, q1, by rw [same _ (h3 k e q1)]; exact q2, q3⟩
    · refine ⟨hs.pre, hs.len, ⟨by simp; exact hs.kp.le, fun b hb hn => ?_⟩, hs.new⟩
      rw [same b (by omega)]
      exact hs.kp.same b hb hn

theorem Vrels_rev {m : M} {a : List CV} {va : List Value} (h : Vrels m a va) : Vrels m a.reverse va.reverse := by
  induction a generalizing va with
  | nil => simp only [Vrels] at h; subst h; rfl
  | cons x a ih =>
    obtain ⟨v, l', rfl, h1, h2⟩ := h
    rw [List.reverse_cons, List.reverse_cons]
    exact Vrels_append (ih h2) ⟨v, [], rfl, h1, rfl⟩
theorem mkRes_rel {m : M} {a : List CV} {va : List Value} (h : Vrels m a va) : Vrel m (mkResX a) (mkRes va) := by
  match a, h with
  | [], h => simp only [Vrels] at h; subst h; exact ⟨#[], rfl, rfl⟩
  | [x], h =>
    obtain ⟨v, l', rfl, h1, h2⟩ := h
    simp only [Vrels] at h2; subst h2
    exact h1
  | x :: y :: l, h =>
    obtain ⟨v, l', rfl, h1, w, l2, rfl, h2, h3⟩ := h
    exact ⟨(v :: w :: l2).toArray, rfl, v, w :: l2, rfl, h1, w, l2, rfl, h2, h3⟩
theorem xRes_ok {P : Program} {fr : List CV} {h : CH} {k : CV → Bool} : ∀ {rs : List ResultVar} {acc : List CV}, xRes P fr h k rs acc = true → ∃ z, k z = true ∧ ∀ {H0 m H frv accv} {R : Value → Hp → Prop}, Rel H0 m h H → Vrels m fr frv → Vrels m acc accv → (∀ v, Vrel m z v → R v H) → resK P frv H R rs accv
  | [], acc, hk => ⟨_, hk, fun {H0 m H frv accv R} hr hf ha hR => hR _ (mkRes_rel (Vrels_rev ha))⟩
  | .tmp t :: rs, acc, hk => by
    obtain ⟨z, h1, h2⟩ := xRes_ok (rs := rs) hk
    exact ⟨z, h1, fun {H0 m H frv accv R} hr hf ha hR => h2 hr hf ⟨_, _, rfl, slot_rel hf t, ha⟩ hR⟩
  | .cell t T :: rs, acc, hk => by
    have hk : xLoad (ldK P T) (slotX fr t) h (fun v => xRes P fr h k rs (v :: acc)) = true := hk
    obtain ⟨v, hk1, hl⟩ := xLoad_ok hk
    obtain ⟨z, h1, h2⟩ := xRes_ok hk1
    refine ⟨z, h1, fun {H0 m H frv accv R} hr hf ha hR => ?_⟩
    obtain ⟨u, h3, h4⟩ := hl hr (slot_rel hf t)
    show Pu (loadE (ldK P T) (slot frv t) H) fun v => resK P frv H R rs (v :: accv)
    rw [h3, Pu_some]
    exact h2 hr hf ⟨_, _, rfl, h4, ha⟩ hR

theorem pad_rel {m : M} {args : List CV} {vargs : List Value} (h : Vrels m args vargs) (n : Nat) : Vrels m (padX args n) (padF vargs n) := by
  unfold padX padF
  refine Vrels_append h ?_
  rw [Vrels_len h]
  induction (n - vargs.length) with
  | zero => rfl
  | succ k ih => exact ⟨_, _, rfl, unit_rel m, ih⟩

/-- A FUNCTION's RUN IS WORTH A CONTRACT. -/
theorem simR_of {P : Program} {qf : FuncId → Bool} {Z : List (Nat × CV)} {C : List (Nat × Ex)} {T : List (Nat × Plan)} (he : EnvOk P Z C) {f : FuncId} {fn : Func} (ann : Ann) (hf : P.funcs[f]? = some fn) (hS : ∀ c, fn.body = some c → SitesIn true c ann) : SimF P f (xFnR P qf Z C T fn ann) := by
  intro args h k hk
  unfold xFnR at hk
  split at hk
  · rename_i c hb
    obtain ⟨e, fr', h', k1, k2, _, k4⟩ := xc_ok (top := true) he c ann _ _ h hk (hS c hb)
    have key : (e = .normal ∨ e = .ret) ∧ xRes P fr' h' (fun v => k v h') fn.results.toList [] = true := by
      cases e <;> first | exact ⟨.inl rfl, k1⟩ | exact ⟨.inr rfl, k1⟩ | cases k1
    obtain ⟨hex, hres⟩ := key
    obtain ⟨z, h1, h2⟩ := xRes_ok hres
    refine ⟨z, h', h1, k2, fun {H0 m H vargs K} hr hv hK => ?_⟩
    intro w hw
    subst hw
    refine callsIn_of_wp_marks hf hb trivial ?_ rfl
    have ha : At { tmps := vargs.toArray ++ Array.replicate (fn.ntmps - vargs.toArray.size) undef, defers := [] } (padF vargs fn.ntmps) := by
      simp [At, padF]
    refine wpIn_mono (k4 none (fun _ => rfl) hr (pad_rel hv fn.ntmps) ha) fun e' a' w' hp => ?_
    obtain ⟨rfl, m', frv', p1, p2, p3, p4, p5, p6⟩ := hp
    have ht : a'.tmps.toList = frv' := by rw [show a'.tmps = frv'.toArray from p4]
    obtain ⟨Ds, hd, d1, d2⟩ := p5
    have fin : LeavesInM (wideR none) 0 P fn a'.tmps (fun e w' => ∃ v, e = .returned v ∧ K v w'.heap ∧ Sm w w') a'.defers .returning w' := by
      refine ends_ok a'.defers w' p6 (fun w2 hs hr => ?_) ?_
      · rw [ht] at hr
        obtain ⟨v, hv, hR⟩ := results_ok p4 hr
        exact ⟨v, hv, v, rfl, hR, hs⟩
      · rw [ht, hd]
        simp only [List.append_nil]
        exact marks_end (K := fun H' => Res P fn.results.toList frv' H' K) hr.ext.le (fun H' q1 q2 => h2 q1 p3 rfl fun v hv => hK m' H' v q1 q2 hv) Ds w'.heap d1.1 d2 p1 p2
    rcases hex with rfl | rfl
    · exact fin
    · exact fin
  · cases hk
theorem sim_of {P : Program} {qf : FuncId → Bool} {Z : List (Nat × CV)} {C : List (Nat × Ex)} {T : List (Nat × Plan)} (he : EnvOk P Z C) {f : FuncId} {fn : Func} (ann : Ann) (hf : P.funcs[f]? = some fn) : SimF P f (xFn P qf Z C T fn ann) := by
  intro args h k hk
  unfold xFn at hk
  split at hk
  · rename_i c hb
    rw [ifX_eq] at hk
    split at hk
    · rename_i hn
      refine simR_of (qf := qf) (T := T) he ann hf (fun c' hb' => by rw [hb] at hb'; injection hb' with hb'; subst hb'; exact sites_none c ann hn) args h k ?_
      unfold xFnR
      rw [hb]; exact hk
    · cases hk
  · cases hk

/-! ### Zeros -/
def eqS (p : CV) (v : Value) : Bool :=
  match p, v with
  | .int q n, .int q' n' => decide (q = q') && n == n'
  | .bool b, .bool b' => b == b'
  | .str s, .string s' => s.data.toList == s'.data.toList
  | .nilp, .pointer none => true
  | .nils, .slice none 0 0 => true
  | .nilm, .map none => true
  | .nilf, .nilFunc => true
  | _, _ => false
theorem data_inj {a b : ByteArray} (h : a.data.toList = b.data.toList) : a = b := by
  cases a; cases b
  simp only at h
  rw [Array.toList_inj.1 h]
theorem eqS_ok {p : CV} {v : Value} (h : eqS p v = true) (m : M) : Vrel m p v ∧ (∀ n x, p ≠ .bytes n x) ∧ scalar p = true := by
  unfold eqS at h
  split at h <;> try (cases h; done)
  · simp only [Bool.and_eq_true, decide_eq_true_eq, beq_iff_eq] at h
    obtain ⟨rfl, rfl⟩ := h
    exact ⟨rfl, by simp, rfl⟩
  · simp only [beq_iff_eq] at h; subst h
    exact ⟨rfl, by simp, rfl⟩
  · simp only [beq_iff_eq] at h
    rw [data_inj h]
    exact ⟨rfl, by simp, rfl⟩
  · exact ⟨rfl, by simp, rfl⟩
  · exact ⟨rfl, by simp, rfl⟩
  · exact ⟨rfl, by simp, rfl⟩
  · exact ⟨rfl, by simp, rfl⟩
def byteB (v : Value) (x : Nat) : Bool :=
  match v with
  | .int .u8 n => n == ((x % 256 : Nat) : Int)
  | _ => false
theorem byteB_ok {v : Value} {x : Nat} (h : byteB v x = true) : v = .int .u8 ((x % 256 : Nat) : Int) := by
  unfold byteB at h
  split at h
  · rw [eq_of_beq h]
  · cases h
def bytesB : Nat → Nat → List Value → Option (List Value)
  | 0, _, l => some l
  | _ + 1, _, [] => none
  | n + 1, x, v :: l => if byteB v x then bytesB n (x / 256) l else none
theorem bytesB_ok : ∀ {n x : Nat} {l r : List Value}, bytesB n x l = some r → l = bytesL n x ++ r
  | 0, x, l, r, h => by simp only [bytesB, Option.some.injEq] at h; subst h; rfl
  | n + 1, x, [], r, h => by cases h
  | n + 1, x, v :: l, r, h => by
    simp only [bytesB] at h
    split at h
    · rename_i hb
      rw [bytesB_ok h, byteB_ok hb]; rfl
    · cases h
def relB1 (f : List Value → Bool) (p : CV) (l : List Value) : Bool :=
  match p with
  | .bytes n x => (match bytesB n x l with | some r => f r | none => false)
  | p => (match l with | v :: l => eqS p v && f l | [] => false)
def relB : List CV → List Value → Bool
  | [], l => l.isEmpty
  | p :: ps, l => relB1 (relB ps) p l
theorem relB1_ok {m : M} {p : CV} {ps : List CV} {f : List Value → Bool} (ih : ∀ l, f l = true → Crel m ps l) {l : List Value} (h : relB1 f p l = true) : Crel m (p :: ps) l := by
  unfold relB1 at h
  split at h
  · split at h
    · rename_i hr
      exact ⟨_, bytesB_ok hr, ih _ h⟩
    · cases h
  · split at h
    · simp only [Bool.and_eq_true] at h
      obtain ⟨h3, h4, h5⟩ := eqS_ok h.1 m
      rw [Crel_cons h5]
      exact ⟨_, _, rfl, h5, h3, ih _ h.2⟩
    · cases h
theorem relB_ok (m : M) : ∀ {ps : List CV} {l : List Value}, relB ps l = true → Crel m ps l
  | [], l, h => by
    cases l with
    | nil => rfl
    | cons => cases h
  | p :: ps, l, h => relB1_ok (fun l h => relB_ok m h) h
def zeroB (P : Program) (T : TypeId) (z : CV) : Bool :=
  match zeroE P T, z with
  | some (.agg c), .agg ps => relB ps c.toList
  | some v, z => eqS z v
  | none, _ => false
theorem zeroB_ok {P : Program} {T : TypeId} {z : CV} (h : zeroB P T z = true) : ZeroV P T z := by
  unfold zeroB at h
  split at h
  · rename_i hz
    exact ⟨_, hz, fun m => ⟨_, rfl, relB_ok m h⟩⟩
  · rename_i hz _
    exact ⟨_, by assumption, fun m => (eqS_ok h m).1⟩
  · cases h
def zerosB (P : Program) : List (Nat × CV) → Bool
  | [] => true
  | p :: l => zeroB P p.1 p.2 && zerosB P l
theorem zerosB_ok {P : Program} : ∀ {l : List (Nat × CV)}, zerosB P l = true → ∀ p, p ∈ l → ZeroV P p.1 p.2
  | [], _, p, hp => by cases hp
  | q :: l, h, p, hp => by
    simp only [zerosB, Bool.and_eq_true] at h
    rcases List.mem_cons.1 hp with rfl | hp
    · exact zeroB_ok h.1
    · exact zerosB_ok h.2 p hp

/-! ### The functions that are called -/
def ExOk (P : Program) (C : List (Nat × Ex)) : Prop := ∀ p, p ∈ C → (Nat.ble RB p.1 = false → enterB P p.1 = true ∧ SimF P p.1 p.2) ∧ ∀ n, p.1 = RB + n → SimRd P n p.2
theorem exNil {P : Program} : ExOk P [] := fun p hp => by cases hp
theorem exCons {P : Program} {f : Nat} {ex : Ex} {C : List (Nat × Ex)} (h1 : (enterB P f && !(Nat.ble RB f)) = true) (h2 : SimF P f ex) (h3 : ExOk P C) : ExOk P ((f, ex) :: C) := fun p hp => by
  simp only [Bool.and_eq_true] at h1
  rcases List.mem_cons.1 hp with rfl | hp
  · refine ⟨fun _ => ⟨h1.1, h2⟩, fun n hn => ?_⟩
    have h4 : f = RB + n := hn
    have h5 := h1.2
    have : Nat.ble RB f = true := by rw [h4]; exact Nat.ble_eq_true_of_le (Nat.le_add_right _ _)
    rw [this] at h5; cases h5
  · exact h3 p hp
theorem exRd {P : Program} {n : Nat} {ex : Ex} {C : List (Nat × Ex)} (h2 : SimRd P n ex) (h3 : ExOk P C) : ExOk P ((RB + n, ex) :: C) := fun p hp => by
  rcases List.mem_cons.1 hp with rfl | hp
  · refine ⟨fun hb => ?_, fun q hq => ?_⟩
    · have : Nat.ble RB (RB + n) = true := Nat.ble_eq_true_of_le (Nat.le_add_right _ _)
      rw [this] at hb; cases hb
    · have h4 : RB + n = RB + q := hq
      have h5 : n = q := by omega
      subst h5; exact h2
  · exact h3 p hp

/-- The run's own memory, empty. -/
def h0 : CH := .mk .lf 0 0
theorem rel0 (H : Hp) : Rel H [] h0 H :=
  ⟨Ext.refl H, rfl, fun k e h => (by simp at h), fun k o h => (by cases h), fun j k x y d e h => (by cases h), fun k e h => (by simp at h)⟩
/-- A run of a function without arguments that comes out true. -/
theorem closed_true {P : Program} {f : FuncId} {ex : Ex} (hs : SimF P f ex) (hk : (ex [] h0 fun z _ => match z with | .bool true => true | _ => false) = true) {H : Hp} {R : Value → Hp → Prop} (h : ∀ H', Ext H H' → R (.bool true) H') : Fc P f #[] H R := by
  obtain ⟨z, h', h1, _, h2⟩ := hs _ _ _ hk
  split at h1
  · exact h2 (rel0 H) (vargs := []) rfl fun m' H' v r1 r2 r3 => by
      simp only [Vrel] at r3; subst r3
      exact h H' r1.ext
  · cases h1
end Go.Xc

/- Xc, part N: arguments, by number. -/
set_option linter.unusedVariables false
set_option linter.unusedSectionVars false
namespace Go.Xc
open Go.Vc
variable [Sites]
noncomputable abbrev a0 (args : List CV) (f : Bool) : Bool := match args with | [] => f | _ => false
theorem a0_ok {args : List CV} {f : Bool} (h : a0 args f = true) : args = [] ∧ f = true := by
  unfold a0 at h
  split at h
  · exact ⟨rfl, h⟩
  · cases h
noncomputable abbrev a1 (args : List CV) (f : CV → Bool) : Bool := match args with | [v0] => f v0 | _ => false
theorem a1_ok {args : List CV} {f : CV → Bool} (h : a1 args f = true) : ∃ v0, args = [v0] ∧ f v0 = true := by
  unfold a1 at h
  split at h
  · exact ⟨_, rfl, h⟩
  · cases h
noncomputable abbrev a2 (args : List CV) (f : CV → CV → Bool) : Bool := match args with | [v0, v1] => f v0 v1 | _ => false
theorem a2_ok {args : List CV} {f : CV → CV → Bool} (h : a2 args f = true) : ∃ v0 v1, args = [v0, v1] ∧ f v0 v1 = true := by
  unfold a2 at h
  split at h
  · exact ⟨_, _, rfl, h⟩
  · cases h
noncomputable abbrev a3 (args : List CV) (f : CV → CV → CV → Bool) : Bool := match args with | [v0, v1, v2] => f v0 v1 v2 | _ => false
theorem a3_ok {args : List CV} {f : CV → CV → CV → Bool} (h : a3 args f = true) : ∃ v0 v1 v2, args = [v0, v1, v2] ∧ f v0 v1 v2 = true := by
  unfold a3 at h
  split at h
  · exact ⟨_, _, _, rfl, h⟩
  · cases h
noncomputable abbrev a4 (args : List CV) (f : CV → CV → CV → CV → Bool) : Bool := match args with | [v0, v1, v2, v3] => f v0 v1 v2 v3 | _ => false
theorem a4_ok {args : List CV} {f : CV → CV → CV → CV → Bool} (h : a4 args f = true) : ∃ v0 v1 v2 v3, args = [v0, v1, v2, v3] ∧ f v0 v1 v2 v3 = true := by
  unfold a4 at h
  split at h
  · exact ⟨_, _, _, _, rfl, h⟩
  · cases h
noncomputable abbrev a5 (args : List CV) (f : CV → CV → CV → CV → CV → Bool) : Bool := match args with | [v0, v1, v2, v3, v4] => f v0 v1 v2 v3 v4 | _ => false
theorem a5_ok {args : List CV} {f : CV → CV → CV → CV → CV → Bool} (h : a5 args f = true) : ∃ v0 v1 v2 v3 v4, args = [v0, v1, v2, v3, v4] ∧ f v0 v1 v2 v3 v4 = true := by
  unfold a5 at h
  split at h
  · exact ⟨_, _, _, _, _, rfl, h⟩
  · cases h
noncomputable abbrev a6 (args : List CV) (f : CV → CV → CV → CV → CV → CV → Bool) : Bool := match args with | [v0, v1, v2, v3, v4, v5] => f v0 v1 v2 v3 v4 v5 | _ => false
theorem a6_ok {args : List CV} {f : CV → CV → CV → CV → CV → CV → Bool} (h : a6 args f = true) : ∃ v0 v1 v2 v3 v4 v5, args = [v0, v1, v2, v3, v4, v5] ∧ f v0 v1 v2 v3 v4 v5 = true := by
  unfold a6 at h
  split at h
  · exact ⟨_, _, _, _, _, _, rfl, h⟩
  · cases h
noncomputable abbrev a7 (args : List CV) (f : CV → CV → CV → CV → CV → CV → CV → Bool) : Bool := match args with | [v0, v1, v2, v3, v4, v5, v6] => f v0 v1 v2 v3 v4 v5 v6 | _ => false
theorem a7_ok {args : List CV} {f : CV → CV → CV → CV → CV → CV → CV → Bool} (h : a7 args f = true) : ∃ v0 v1 v2 v3 v4 v5 v6, args = [v0, v1, v2, v3, v4, v5, v6] ∧ f v0 v1 v2 v3 v4 v5 v6 = true := by
  unfold a7 at h
  split at h
  · exact ⟨_, _, _, _, _, _, _, rfl, h⟩
  · cases h
noncomputable abbrev a8 (args : List CV) (f : CV → CV → CV → CV → CV → CV → CV → CV → Bool) : Bool := match args with | [v0, v1, v2, v3, v4, v5, v6, v7] => f v0 v1 v2 v3 v4 v5 v6 v7 | _ => false
theorem a8_ok {args : List CV} {f : CV → CV → CV → CV → CV → CV → CV → CV → Bool} (h : a8 args f = true) : ∃ v0 v1 v2 v3 v4 v5 v6 v7, args = [v0, v1, v2, v3, v4, v5, v6, v7] ∧ f v0 v1 v2 v3 v4 v5 v6 v7 = true := by
  unfold a8 at h
  split at h
  · exact ⟨_, _, _, _, _, _, _, _, rfl, h⟩
  · cases h
noncomputable abbrev a9 (args : List CV) (f : CV → CV → CV → CV → CV → CV → CV → CV → CV → Bool) : Bool := match args with | [v0, v1, v2, v3, v4, v5, v6, v7, v8] => f v0 v1 v2 v3 v4 v5 v6 v7 v8 | _ => false
theorem a9_ok {args : List CV} {f : CV → CV → CV → CV → CV → CV → CV → CV → CV → Bool} (h : a9 args f = true) : ∃ v0 v1 v2 v3 v4 v5 v6 v7 v8, args = [v0, v1, v2, v3, v4, v5, v6, v7, v8] ∧ f v0 v1 v2 v3 v4 v5 v6 v7 v8 = true := by
  unfold a9 at h
  split at h
  · exact ⟨_, _, _, _, _, _, _, _, _, rfl, h⟩
  · cases h
noncomputable abbrev a10 (args : List CV) (f : CV → CV → CV → CV → CV → CV → CV → CV → CV → CV → Bool) : Bool := match args with | [v0, v1, v2, v3, v4, v5, v6, v7, v8, v9] => f v0 v1 v2 v3 v4 v5 v6 v7 v8 v9 | _ => false
theorem a10_ok {args : List CV} {f : CV → CV → CV → CV → CV → CV → CV → CV → CV → CV → Bool} (h : a10 args f = true) : ∃ v0 v1 v2 v3 v4 v5 v6 v7 v8 v9, args = [v0, v1, v2, v3, v4, v5, v6, v7, v8, v9] ∧ f v0 v1 v2 v3 v4 v5 v6 v7 v8 v9 = true := by
  unfold a10 at h
  split at h
  · exact ⟨_, _, _, _, _, _, _, _, _, _, rfl, h⟩
  · cases h
noncomputable abbrev a11 (args : List CV) (f : CV → CV → CV → CV → CV → CV → CV → CV → CV → CV → CV → Bool) : Bool := match args with | [v0, v1, v2, v3, v4, v5, v6, v7, v8, v9, v10] => f v0 v1 v2 v3 v4 v5 v6 v7 v8 v9 v10 | _ => false
theorem a11_ok {args : List CV} {f : CV → CV → CV → CV → CV → CV → CV → CV → CV → CV → CV → Bool} (h : a11 args f = true) : ∃ v0 v1 v2 v3 v4 v5 v6 v7 v8 v9 v10, args = [v0, v1, v2, v3, v4, v5, v6, v7, v8, v9, v10] ∧ f v0 v1 v2 v3 v4 v5 v6 v7 v8 v9 v10 = true := by
  unfold a11 at h
  split at h
  · exact ⟨_, _, _, _, _, _, _, _, _, _, _, rfl, h⟩
  · cases h
noncomputable abbrev a12 (args : List CV) (f : CV → CV → CV → CV → CV → CV → CV → CV → CV → CV → CV → CV → Bool) : Bool := match args with | [v0, v1, v2, v3, v4, v5, v6, v7, v8, v9, v10, v11] => f v0 v1 v2 v3 v4 v5 v6 v7 v8 v9 v10 v11 | _ => false
theorem a12_ok {args : List CV} {f : CV → CV → CV → CV → CV → CV → CV → CV → CV → CV → CV → CV → Bool} (h : a12 args f = true) : ∃ v0 v1 v2 v3 v4 v5 v6 v7 v8 v9 v10 v11, args = [v0, v1, v2, v3, v4, v5, v6, v7, v8, v9, v10, v11] ∧ f v0 v1 v2 v3 v4 v5 v6 v7 v8 v9 v10 v11 = true := by
  unfold a12 at h
  split at h
  · exact ⟨_, _, _, _, _, _, _, _, _, _, _, _, rfl, h⟩
  · cases h
end Go.Xc

/- Xc, part O: runs of which two outcomes are followed. -/
set_option linter.unusedVariables false
set_option linter.unusedSectionVars false
set_option linter.unusedSimpArgs false
namespace Go.Xc
open Go.Vc
variable [Sites]

section
variable (P : Program) (qf : FuncId → Bool) (Z : List (Nat × CV)) (C : List (Nat × Ex))
noncomputable def xTwo (ops : Array Oper) (t : Two) (fr : List CV) (h : CH) (K : List CV → CH → Bool) : Bool :=
  xA P qf Z C true true ops (pick ops t.A) [] fr h fun sk fr h => both (xOps P qf Z C true true ops (pick ops (t.k :: t.i :: t.C)) sk fr h K) (xOps P qf Z C true true ops (pick ops (t.i :: t.k :: t.C)) sk fr h K)
noncomputable def xRegG (p : Option Plan) (ops : Array Oper) (dr : Bool) (fr : List CV) (h : CH) (K : List CV → CH → Bool) : Bool :=
  match p with
  | some (.two t) => ifX (dr && (P.follows .mixedOrders && twoB ops (clAt P qf true true ops) t)) (xTwo P qf Z C ops t fr h K) false
  | some (.all t) => ifX (dr && (P.follows .mixedOrders && treeB ops (clAt P qf true true ops) t)) (xT P qf Z C ops K t [] fr h) false
  | some (.raw w) => ifX dr (xOps P qf Z C true true ops (pick ops w) [] fr h K) false
  | p => xRegP P qf Z C p ops dr fr h K
end

theorem xTwo_ok {P : Program} {qf : FuncId → Bool} {Z : List (Nat × CV)} {C : List (Nat × Ex)} (he : EnvOk P Z C) {ops : Array Oper} {t : Two} {fr : List CV} {h : CH} {K : List CV → CH → Bool} (hk : xTwo P qf Z C ops t fr h K = true) {H0 : Hp} {m : M} {H : Hp} {frv : Fr} {Kv : Fr → Hp → Prop} (hr : Rel H0 m h H) (hv : Vrels m fr frv)
    (hf : ∀ fr' h', K fr' h' = true → h'.wp = h.wp → AgreeX (dstsOf ops.toList) fr fr' → FinF H0 m h H fr' h' Kv) : vcTwo P qf ops t frv H Kv := by
  unfold xTwo at hk
  obtain ⟨sk, fr1, h1, k1, w1, a1, s1⟩ := xA_ok he hk
  obtain ⟨k2, k3⟩ := both_ok k1
  refine s1 hr hv fun m1 H1 frv1 hr1 hs1 hv1 => ?_
  have go : ∀ {l : List Nat}, xOps P qf Z C true true ops (pick ops l) sk fr1 h1 K = true → vcOps P qf true true ops (pick ops l) sk frv1 H1 Kv := fun {l} hk => by
    obtain ⟨fr2, h2, q1, w2, a2, s2⟩ := xOps_ok he hk
    refine s2 hr1 hv1 fun m2 H2 frv2 hr2 hs2 hv2 => ?_
    rw [w1] at hs2
    exact hf fr2 h2 q1 (w2.trans w1) ((a1.mono pick_dsts).trans (a2.mono pick_dsts)) m2 H2 frv2 hr2 (hs1.trans hs2) hv2
  exact ⟨go k2, go k3⟩

/-- What the run has come to, one way or another. -/
def PostG (H0 : Hp) (m : M) (W : List Nat) (Q : QX) (fr : List CV) (h : CH) (a : Act) (w : World) : Exit → Act → World → Prop := fun e a' w' =>
  ∃ fr' h', Q e fr' h' = true ∧ h'.wp = h.wp ∧ AgreeX W fr fr' ∧ PostX false H0 m h.wp e fr' h' a w e a' w'

theorem regOne_ok {P : Program} {qf : FuncId → Bool} {Z : List (Nat × CV)} {C : List (Nat × Ex)} (he : EnvOk P Z C) {p : Option Plan} {id : Nat} {ops : Array Oper} {dr : Bool} {Q : QX} {fr : List CV} {h : CH} (hk : xRegP P qf Z C p ops dr fr h (fun fr' h' => Q .normal fr' h') = true) {H0 : Hp} {m : M} {frv : Fr} {a : Act} {w : World} (r : Option Nat) (hr : Rel H0 m h w.heap) (hv : Vrels m fr frv) (ha : At a frv) : (Code.region id ops dr).wpIn (wideR r) 0 P (PostG H0 m (dstsOf ops.toList) Q fr h a w) a w := by
  obtain ⟨fr', h', k1, k2, k3, k4⟩ := regP_ok (top := false) (id := id) he hk
  refine wpIn_mono (k4 r (fun h => by cases h) hr hv ha) fun e' a' w' hp => ?_
  have he' := hp.1
  subst he'
  exact ⟨fr', h', k1, k2, k3, hp⟩
theorem regTwo_ok {P : Program} {qf : FuncId → Bool} {Z : List (Nat × CV)} {C : List (Nat × Ex)} (he : EnvOk P Z C) {id : Nat} {ops : Array Oper} {t : Two} {Q : QX} {fr : List CV} {h : CH} (hm : P.follows .mixedOrders = true) (hB : twoB ops (clAt P qf true true ops) t = true) (hk : xTwo P qf Z C ops t fr h (fun fr' h' => Q .normal fr' h') = true) {H0 : Hp} {m : M} {frv : Fr} {a : Act} {w : World} (r : Option Nat) (hr : Rel H0 m h w.heap) (hv : Vrels m fr frv) (ha : At a frv) : (Code.region id ops true).wpIn (wideR r) 0 P (PostG H0 m (dstsOf ops.toList) Q fr h a w) a w := by
  have h1 := xTwo_ok he hk (Kv := fun frv' H' => Exit.normal = Exit.normal ∧ ∃ m' fr' h', Q .normal fr' h' = true ∧ h'.wp = h.wp ∧ AgreeX (dstsOf ops.toList) fr fr' ∧ Rel H0 m' h' H' ∧ Stp h.wp m w.heap m' H' ∧ Vrels m' fr' frv') hr hv (fun fr' h' q1 q2 q3 m' H' frv' r1 r2 r3 => ⟨rfl, m', fr', h', q1, q2, q3, r1, r2, r3⟩)
  refine wpIn_mono (two_sound (r := r) (id := id) (Q := fun e frv' ds H' => e = Exit.normal ∧ ∃ m' fr' h', Q .normal fr' h' = true ∧ h'.wp = h.wp ∧ AgreeX (dstsOf ops.toList) fr fr' ∧ Rel H0 m' h' H' ∧ Stp h.wp m w.heap m' H' ∧ Vrels m' fr' frv') hm hB ha h1) fun e a' w' hp => ?_
  obtain ⟨frv', p1, p2, _, ⟨p3, m', fr', h', q1, q2, q3, p4, p5, p6⟩, p7⟩ := hp
  subst p3
  exact ⟨fr', h', q1, q2, q3, rfl, m', frv', p4, p5, p6, p1, Dfs.of_eq (p2 rfl), p7⟩

def noRawB : List (Nat × Plan) → Bool
  | [] => true
  | (_, .raw _) :: _ => false
  | _ :: l => noRawB l
theorem noRaw_look : ∀ {T : List (Nat × Plan)} {i : Nat} {w : List Nat}, noRawB T = true → look T i ≠ some (.raw w)
  | [], _, _, _, h => by cases h
  | (j, p) :: l, i, w, hT, h => by
    have h' : (Bool.rec (motive := fun _ => Option Plan) (look l i) (some p) (Nat.beq j i)) = some (.raw w) := h
    cases hb : Nat.beq j i with
    | true =>
      rw [hb] at h'
      injection h' with h'; subst h'
      cases hT
    | false =>
      rw [hb] at h'
      refine noRaw_look (T := l) ?_ h'
      cases p <;> first | exact hT | cases hT
theorem regAll_ok {P : Program} {qf : FuncId → Bool} {Z : List (Nat × CV)} {C : List (Nat × Ex)} (he : EnvOk P Z C) {id : Nat} {ops : Array Oper} {t : OT} {Q : QX} {fr : List CV} {h : CH} (hm : P.follows .mixedOrders = true) (hB : treeB ops (clAt P qf true true ops) t = true) (hk : xT P qf Z C ops (fun fr' h' => Q .normal fr' h') t [] fr h = true) {H0 : Hp} {m : M} {frv : Fr} {a : Act} {w : World} (r : Option Nat) (hr : Rel H0 m h w.heap) (hv : Vrels m fr frv) (ha : At a frv) : (Code.region id ops true).wpIn (wideR r) 0 P (PostG H0 m (dstsOf ops.toList) Q fr h a w) a w := by
  have h1 := xT_ok he t hk (Kv := fun frv' H' => Exit.normal = Exit.normal ∧ ∃ m' fr' h', Q .normal fr' h' = true ∧ h'.wp = h.wp ∧ AgreeX (dstsOf ops.toList) fr fr' ∧ Rel H0 m' h' H' ∧ Stp h.wp m w.heap m' H' ∧ Vrels m' fr' frv') hr hv (fun fr' h' q1 q2 q3 m' H' frv' r1 r2 r3 => ⟨rfl, m', fr', h', q1, q2, q3, r1, r2, r3⟩)
  refine wpIn_mono (tree_sound (r := r) (id := id) (Q := fun e frv' ds H' => e = Exit.normal ∧ ∃ m' fr' h', Q .normal fr' h' = true ∧ h'.wp = h.wp ∧ AgreeX (dstsOf ops.toList) fr fr' ∧ Rel H0 m' h' H' ∧ Stp h.wp m w.heap m' H' ∧ Vrels m' fr' frv') hm hB ha h1) fun e a' w' hp => ?_
  obtain ⟨frv', p1, p2, _, ⟨p3, m', fr', h', q1, q2, q3, p4, p5, p6⟩, p7⟩ := hp
  subst p3
  exact ⟨fr', h', q1, q2, q3, rfl, m', frv', p4, p5, p6, p1, Dfs.of_eq (p2 rfl), p7⟩

noncomputable def xcG (P : Program) (qf : FuncId → Bool) (Z : List (Nat × CV)) (C : List (Nat × Ex)) (T : List (Nat × Plan)) : Code → Ann → QX → List CV → CH → Bool
  | .skip, _, Q, fr, h => Q .normal fr h
  | .label _, _, Q, fr, h => Q .normal fr h
  | .ret, _, Q, fr, h => Q .ret fr h
  | .exit id, _, Q, fr, h => Q (.exit id) fr h
  | .region id ops dr, _, Q, fr, h => xRegG P qf Z C (look T id) ops dr fr h fun fr' h' => Q .normal fr' h'
  | .seq a b, ann, Q, fr, h =>
    match ann with
    | .join L J l r =>
      ifX (subB (writes a) (L ++ J) && subB J (writes a))
        (xJoin (fun s h => xcG P qf Z C T b r Q (layX L s (junkX J fr)) h) fun K => xcG P qf Z C T a l (thnX (fun fr' h' => K (grabX fr' L) h') Q) fr h)
        false
    | .seq l r => xcG P qf Z C T a l (thnX (xcG P qf Z C T b r Q) Q) fr h
    | _ => xcG P qf Z C T a .nil (thnX (xcG P qf Z C T b .nil Q) Q) fr h
  | .cond c a b, ann, Q, fr, h =>
    match ann with
    | .cond l r => xIte (evX fr c) (xcG P qf Z C T a l Q fr h) (xcG P qf Z C T b r Q fr h)
    | _ => xIte (evX fr c) (xcG P qf Z C T a .nil Q fr h) (xcG P qf Z C T b .nil Q fr h)
  | .block id c, ann, Q, fr, h => xcG P qf Z C T c ann (blkX id Q) fr h
  | .scope c, ann, Q, fr, h => xcG P qf Z C T c ann (scpX Q) fr h
  | .loop c, ann, Q, fr, h =>
    match ann with
    | .loop L J b =>
      ifX (subB (writes c) (L ++ J) && subB J (writes c))
        (xLoop (n := L.length) (fun K s h => xcG P qf Z C T c b (thnX (fun fr' h' => K (grabX fr' L) h') Q) (layX L s (junkX J fr)) h) 1000000 (grabX fr L) h)
        false
    | _ => false
  | _, _, _, _, _ => false

theorem PostG.go {H0 : Hp} {m m1 : M} {W W1 W2 : List Nat} {Q : QX} {fr fr1 : List CV} {h h1 : CH} {a a1 : Act} {w w1 : World} {e : Exit} {a' : Act} {w' : World} (hw : h1.wp = h.wp) (hA : AgreeX W1 fr fr1) (hW1 : ∀ k ∈ W1, k ∈ W) (hW2 : ∀ k ∈ W2, k ∈ W) (hs : Stp h.wp m w.heap m1 w1.heap) (hd : Dfs false m1 w.heap.size w1.heap a1.defers a.defers) (hsm : Sm w w1) (hp : PostG H0 m1 W2 Q fr1 h1 a1 w1 e a' w') : PostG H0 m W Q fr h a w e a' w' := by
  obtain ⟨fr', h', q1, q2, q3, q4⟩ := hp
  rw [hw] at q4
  exact ⟨fr', h', q1, q2.trans hw, (hA.mono hW1).trans (q3.mono hW2), q4.trans hs hd hsm⟩
theorem PostG.mono {H0 : Hp} {m : M} {W W' : List Nat} {Q Q' : QX} {fr : List CV} {h : CH} {a : Act} {w : World} {e : Exit} {a' : Act} {w' : World} (hW : ∀ k ∈ W, k ∈ W') (hQ : ∀ fr' h', Q e fr' h' = true → Q' e fr' h' = true) (hp : PostG H0 m W Q fr h a w e a' w') : PostG H0 m W' Q' fr h a w e a' w' := by
  obtain ⟨fr', h', q1, q2, q3, q4⟩ := hp
  exact ⟨fr', h', hQ _ _ q1, q2, q3.mono hW, q4⟩

theorem xcG_ok {P : Program} {qf : FuncId → Bool} {Z : List (Nat × CV)} {C : List (Nat × Ex)} {T : List (Nat × Plan)} (he : EnvOk P Z C) (hT : noRawB T = true) : ∀ (c : Code) (ann : Ann) (Q : QX) (fr : List CV) (h : CH), xcG P qf Z C T c ann Q fr h = true →
    ∀ {H0 m frv a w} (r : Option Nat), Rel H0 m h w.heap → Vrels m fr frv → At a frv → c.wpIn (wideR r) 0 P (PostG H0 m (writes c) Q fr h a w) a w := by
  intro c
  have here : ∀ {Q : QX} {e : Exit} {fr : List CV} {h : CH} {W : List Nat}, Q e fr h = true → ∀ {H0 : Hp} {m : M} {frv : Fr} {a : Act} {w : World}, Rel H0 m h w.heap → Vrels m fr frv → At a frv → PostG H0 m W Q fr h a w e a w :=
    by intro Q e fr h W hk H0 m frv a w hr hv ha; exact ⟨_, _, hk, rfl, AgreeX.refl _ _, rfl, m, frv, hr, Stp.refl _ _ _, hv, ha, Dfs.refl _ _ _ _ _, Sm.refl w⟩
  induction c with
  | skip => intro ann Q fr h hk H0 m frv a w r hr hv ha; exact wpIn_skip (here (by cases ann <;> exact hk) hr hv ha)
  | label l => intro ann Q fr h hk H0 m frv a w r hr hv ha; exact wpIn_label (here (by cases ann <;> exact hk) hr hv ha)
  | ret => intro ann Q fr h hk H0 m frv a w r hr hv ha; exact wpIn_ret (here (by cases ann <;> exact hk) hr hv ha)
  | exit id => intro ann Q fr h hk H0 m frv a w r hr hv ha; exact wpIn_exit (here (by cases ann <;> exact hk) hr hv ha)
  | region id ops dr =>
    intro ann Q fr h hk H0 m frv a w r hr hv ha
    have hk2 : xRegG P qf Z C (look T id) ops dr fr h (fun fr' h' => Q .normal fr' h') = true := by cases ann <;> exact hk
    clear hk
    unfold xRegG at hk2
    split at hk2
    · rw [ifX_eq] at hk2
      split at hk2
      · rename_i hb
        simp only [Bool.and_eq_true] at hb
        obtain ⟨rfl, hm, hB⟩ := hb
        exact regTwo_ok he hm hB hk2 r hr hv ha
      · cases hk2
    · rw [ifX_eq] at hk2
      split at hk2
      · rename_i hb
        simp only [Bool.and_eq_true] at hb
        obtain ⟨rfl, hm, hB⟩ := hb
        exact regAll_ok he hm hB hk2 r hr hv ha
      · cases hk2
    · rename_i w hl
      exact absurd hl (noRaw_look hT)
    · exact regOne_ok he hk2 r hr hv ha
  | block id c ih =>
    intro ann Q fr h hk H0 m frv a w r hr hv ha
    have hk : xcG P qf Z C T c ann (blkX id Q) fr h = true := by cases ann <;> exact hk
    refine wpIn_block (wpIn_mono (ih ann (blkX id Q) fr h hk r hr hv ha) fun e' a' w' hp => ?_)
    obtain ⟨fr', h', k1, k2, k3, k4⟩ := hp
    have other : (∀ k, e' ≠ .exit k) → Q e' fr' h' = true := fun hne => by
      cases e' with
      | exit k => exact absurd rfl (hne k)
      | normal => exact k1
      | goto l => exact k1
      | ret => exact k1
      | panic c => exact k1
      | outgrown => exact k1
    cases e' with
    | exit k =>
      have k1 : isXX k id (Q .normal fr' h') (Q (.exit k) fr' h') = true := k1
      show (if k = id then _ else _)
      by_cases hki : k = id
      · subst hki
        rw [if_pos rfl]
        unfold isXX at k1
        rw [Nat.beq_refl] at k1
        exact ⟨fr', h', k1, k2, k3, rfl, k4.2⟩
      · rw [if_neg hki]
        have hne : Nat.beq k id = false := by
          cases hb : Nat.beq k id with
          | false => rfl
          | true => exact absurd (Nat.eq_of_beq_eq_true hb) hki
        unfold isXX at k1
        rw [hne] at k1
        exact ⟨fr', h', k1, k2, k3, k4⟩
    | normal => exact ⟨fr', h', other (by simp), k2, k3, k4⟩
    | goto l => exact ⟨fr', h', other (by simp), k2, k3, k4⟩
    | ret => exact ⟨fr', h', other (by simp), k2, k3, k4⟩
    | panic c => exact ⟨fr', h', other (by simp), k2, k3, k4⟩
    | outgrown => exact ⟨fr', h', other (by simp), k2, k3, k4⟩
  | cond c x y ihx ihy =>
    intro ann Q fr h hk H0 m frv a w r hr hv ha
    have hk : ∃ l r', xIte (evX fr c) (xcG P qf Z C T x l Q fr h) (xcG P qf Z C T y r' Q fr h) = true := by cases ann <;> exact ⟨_, _, hk⟩
    obtain ⟨l, r', hk⟩ := hk
    unfold xIte at hk
    have hcv := ev_rel hv c
    split at hk
    · rename_i hc
      rw [hc] at hcv
      exact wpIn_cond_true (by rw [ha.ev]; exact hcv) (wpIn_mono (ihx l Q fr h hk r hr hv ha) fun e a' w' hp => hp.mono (fun k hk => List.mem_append_left _ hk) fun _ _ h => h)
    · rename_i hc
      rw [hc] at hcv
      exact wpIn_cond_false (by rw [ha.ev]; exact hcv) (wpIn_mono (ihy r' Q fr h hk r hr hv ha) fun e a' w' hp => hp.mono (fun k hk => List.mem_append_right _ hk) fun _ _ h => h)
    · cases hk
  | seq x y ihx ihy =>
    intro ann Q fr h hk H0 m frv a w r hr hv ha
    have done : ∀ {l : Ann} {K : List CV → CH → Bool}, xcG P qf Z C T x l (thnX K Q) fr h = true →
        (∀ fr1 h1, h1.wp = h.wp → AgreeX (writes x) fr fr1 → K fr1 h1 = true → ∀ {m1 frv1 a1 w1}, Rel H0 m1 h1 w1.heap → Vrels m1 fr1 frv1 → At a1 frv1 → ∃ fr2, AgreeX (writes x) fr fr2 ∧ y.wpIn (wideR r) 0 P (PostG H0 m1 (writes y) Q fr2 h1 a1 w1) a1 w1) → (Code.seq x y).wpIn (wideR r) 0 P (PostG H0 m (writes (.seq x y)) Q fr h a w) a w := by
      intro l K hx hy
      refine wpIn_seq (wpIn_mono (ihx l _ fr h hx r hr hv ha) fun e' a' w' hp => ?_)
      obtain ⟨fr1, h1, k1, k2, k3, k4⟩ := hp
      rcases thnX_ok k1 with ⟨rfl, k1⟩ | ⟨hn, k1⟩
      · obtain ⟨_, m1, frv1, p1, p2, p3, p4, p5, p6⟩ := k4
        obtain ⟨fr2, ha2, hy⟩ := hy fr1 h1 k2 k3 k1 p1 p3 p4
        exact wpIn_mono hy fun e'' a'' w'' hp => hp.go k2 ha2 (fun k hk => List.mem_append_left _ hk) (fun k hk => List.mem_append_right _ hk) p2 p5 p6
      · have fin : PostG H0 m (writes (.seq x y)) Q fr h a w e' a' w' := ⟨fr1, h1, k1, k2, k3.mono fun k hk => List.mem_append_left _ hk, k4⟩
        cases e' <;> first | exact absurd rfl hn | exact fin
    have key : (∃ L J l r', (subB (writes x) (L ++ J) && subB J (writes x)) = true ∧ xcG P qf Z C T x l (thnX (fun fr' h' => xcG P qf Z C T y r' Q (layX L (grabX fr' L) (junkX J fr)) h') Q) fr h = true) ∨ ∃ l r', xcG P qf Z C T x l (thnX (xcG P qf Z C T y r' Q) Q) fr h = true := by
      unfold xcG at hk
      split at hk
      · rw [ifX_eq] at hk
        split at hk
        · rename_i hs; exact .inl ⟨_, _, _, _, hs, hk⟩
        · cases hk
      · exact .inr ⟨_, _, hk⟩
      · exact .inr ⟨_, _, hk⟩
    rcases key with ⟨L, J, l, r', hs, hk⟩ | ⟨l, r', hk⟩
    · simp only [Bool.and_eq_true] at hs
      exact done hk fun fr1 h1 hw1 hA hk1 {m1 frv1 a1 w1} hr1 hv1 ha1 => ⟨_, lay_agree hA hs.2, ihy r' Q _ h1 hk1 r hr1 (lay_rel hA hs.1 hv1) ha1⟩
    · exact done hk fun fr1 h1 hw1 hA hk1 {m1 frv1 a1 w1} hr1 hv1 ha1 => ⟨_, hA, ihy r' Q fr1 h1 hk1 r hr1 hv1 ha1⟩
  | loop c ih =>
    intro ann Q fr h hk H0 m frv a w r hr hv ha
    have key : ∃ L J b, (subB (writes c) (L ++ J) && subB J (writes c)) = true ∧ xLoop (n := L.length) (fun K s h => xcG P qf Z C T c b (thnX (fun fr' h' => K (grabX fr' L) h') Q) (layX L s (junkX J fr)) h) 1000000 (grabX fr L) h = true := by
      unfold xcG at hk
      split at hk
      · rw [ifX_eq] at hk
        split at hk
        · rename_i hs; exact ⟨_, _, _, hs, hk⟩
        · cases hk
      · cases hk
    obtain ⟨L, J, b, hs, hk⟩ := key
    simp only [Bool.and_eq_true] at hs
    have rounds : ∀ (N : Nat) (fr1 : List CV) (h1 : CH), h1.wp = h.wp → AgreeX (writes c) fr fr1 →
        xLoop (n := L.length) (fun K s h => xcG P qf Z C T c b (thnX (fun fr' h' => K (grabX fr' L) h') Q) (layX L s (junkX J fr)) h) N (grabX fr1 L) h1 = true →
        ∀ {m1 frv1 a1 w1}, Rel H0 m1 h1 w1.heap → Vrels m1 fr1 frv1 → At a1 frv1 → Code.roundsIn (wideR r) 0 P c (PostG H0 m1 (writes c) Q fr h1 a1 w1) N a1 w1 := by
      intro N
      induction N with
      | zero => intro fr1 h1 _ _ hk; cases hk
      | succ N ihN =>
        intro fr1 h1 hw1 ha1 hk m1 frv1 a1 w1 hr1 hv1 hat1
        have hk' : xcG P qf Z C T c b (thnX (fun fr' h' => xLoop (n := L.length) (fun K s h => xcG P qf Z C T c b (thnX (fun fr' h' => K (grabX fr' L) h') Q) (layX L s (junkX J fr)) h) N (grabX fr' L) h') Q) (layX L (grabX fr1 L) (junkX J fr)) h1 = true := hk
        rw [roundsIn_succ]
        refine wpIn_mono (ih b _ _ h1 hk' r hr1 (lay_rel ha1 hs.1 hv1) hat1) fun e' a' w' hp => ?_
        obtain ⟨fr2, h2, k1, k2, k3, k4⟩ := hp
        have hag := (lay_agree (L := L) ha1 hs.2).trans k3
        rcases thnX_ok k1 with ⟨rfl, k1⟩ | ⟨hn, k1⟩
        · obtain ⟨_, m2, frv2, p1, p2, p3, p4, p5, p6⟩ := k4
          refine xc_ok.roundsIn_mono (fun e'' a'' w'' hp => ?_) _ _ _ (ihN fr2 h2 (k2.trans hw1) hag k1 p1 p3 p4)
          exact hp.go k2 (AgreeX.refl (writes c) fr) (fun _ h => h) (fun _ h => h) p2 p5 p6
        · have fin : PostG H0 m1 (writes c) Q fr h1 a1 w1 e' a' w' := ⟨fr2, h2, k1, k2, hag, k4⟩
          cases e' <;> first | exact absurd rfl hn | exact fin
    exact wpIn_loop_rounds 1000000 (rounds 1000000 fr h rfl (AgreeX.refl _ _) hk hr hv ha)
  | scope c ih =>
    intro ann Q fr h hk H0 m frv a w r hr hv ha
    have hk : xcG P qf Z C T c ann (scpX Q) fr h = true := by cases ann <;> exact hk
    refine wpIn_scope (wpIn_mono (ih ann (scpX Q) fr h hk r hr hv ha) fun e' a' w' hp => ?_)
    obtain ⟨fr', h', k1, k2, k3, k4⟩ := hp
    cases e' <;> first | exact ⟨fr', h', k1, k2, k3, k4⟩ | cases k1
  | goto l => intro ann Q fr h hk; cases ann <;> cases hk
  | refuse why => intro ann Q fr h hk; cases ann <;> cases hk
  | rangeFunc g ps x y ihx ihy => intro ann Q fr h hk; cases ann <;> cases hk

/-! ### Functions -/
noncomputable def xFnG (P : Program) (qf : FuncId → Bool) (Z : List (Nat × CV)) (C : List (Nat × Ex)) (T : List (Nat × Plan)) (fn : Func) (ann : Ann) (args : List CV) (h : CH) (k : CV → CH → Bool) : Bool :=
  match fn.body with
  | some c => ifX (noRawB T) (xcG P qf Z C T c ann (retX P fn k) (padX args fn.ntmps) h) false
  | none => false
/-- What a run is worth, of which several outcomes are followed. -/
def SimG (P : Program) (f : FuncId) (ex : Ex) : Prop :=
  ∀ args h k, ex args h k = true → ∀ {H0 m H vargs} {K : Value → Hp → Prop}, Rel H0 m h H → Vrels m args vargs → (∀ z h', k z h' = true → h'.wp = h.wp → Fin H0 m h H z h' K) → Fc P f vargs.toArray H K
theorem simG_of {P : Program} {qf : FuncId → Bool} {Z : List (Nat × CV)} {C : List (Nat × Ex)} {T : List (Nat × Plan)} (he : EnvOk P Z C) {f : FuncId} {fn : Func} (ann : Ann) (hf : P.funcs[f]? = some fn) : SimG P f (xFnG P qf Z C T fn ann) := by
  intro args h k hk H0 m H vargs K hr hv hK
  unfold xFnG at hk
  split at hk
  · rename_i c hb
    rw [ifX_eq] at hk
    split at hk <;> try (cases hk; done)
    rename_i hT
    intro w hw
    subst hw
    refine callsIn_of_wp_marks hf hb trivial ?_ rfl
    have ha : At { tmps := vargs.toArray ++ Array.replicate (fn.ntmps - vargs.toArray.size) undef, defers := [] } (padF vargs fn.ntmps) := by
      simp [At, padF]
    refine wpIn_mono (xcG_ok he hT c ann _ _ h hk none hr (pad_rel hv fn.ntmps) ha) fun e a' w' hp => ?_
    obtain ⟨fr', h', k1, k2, _, _, m', frv', p1, p2, p3, p4, p5, p6⟩ := hp
    have key : (e = .normal ∨ e = .ret) ∧ xRes P fr' h' (fun v => k v h') fn.results.toList [] = true := by
      cases e <;> first | exact ⟨.inl rfl, k1⟩ | exact ⟨.inr rfl, k1⟩ | cases k1
    obtain ⟨hex, hres⟩ := key
    obtain ⟨z, h1, h2⟩ := xRes_ok hres
    have ht : a'.tmps.toList = frv' := by rw [show a'.tmps = frv'.toArray from p4]
    obtain ⟨Ds, hd, d1, d2⟩ := p5
    have fin : LeavesInM (wideR none) 0 P fn a'.tmps (fun e w' => ∃ v, e = .returned v ∧ K v w'.heap ∧ Sm w w') a'.defers .returning w' := by
      refine ends_ok a'.defers w' p6 (fun w2 hs hr => ?_) ?_
      · rw [ht] at hr
        obtain ⟨v, hv, hR⟩ := results_ok p4 hr
        exact ⟨v, hv, v, rfl, hR, hs⟩
      · rw [ht, hd]
        simp only [List.append_nil]
        exact marks_end (K := fun H' => Res P fn.results.toList frv' H' K) hr.ext.le (fun H' q1 q2 => h2 q1 p3 rfl fun v hv => hK z h' h1 k2 m' H' v q1 q2 hv) Ds w'.heap d1.1 d2 p1 p2
    rcases hex with rfl | rfl
    · exact fin
    · exact fin
  · cases hk

noncomputable def isTrue (z : CV) : Bool := match z with | .bool true => true | _ => false
theorem isTrue_ok {z : CV} (h : isTrue z = true) : z = .bool true := by
  unfold isTrue at h
  split at h
  · rfl
  · cases h
theorem closedG {P : Program} {f : FuncId} {ex : Ex} (hs : SimG P f ex) (hk : ex [] h0 (fun z _ => isTrue z) = true) {H : Hp} {R : Value → Hp → Prop} (h : ∀ H', Ext H H' → R (.bool true) H') : Fc P f #[] H R :=
  hs _ _ _ hk (rel0 H) (vargs := []) rfl fun z h' hz _ m' H' v r1 r2 r3 => by
    rw [isTrue_ok hz] at r3
    simp only [Vrel] at r3; subst r3
    exact h H' r1.ext
/-- A function without arguments that is known to answer true: nothing that it lays is looked at any more. -/
noncomputable def exTrue : Ex := fun args h k => match args with | [] => k (.bool true) h | _ => false
theorem simTrue {P : Program} {f : FuncId} (hc : ∀ {H : Hp} {R : Value → Hp → Prop}, (∀ H', Ext H H' → R (.bool true) H') → Fc P f #[] H R) : SimF P f exTrue := by
  intro args h k hk
  unfold exTrue at hk
  split at hk
  · refine ⟨_, h, hk, rfl, fun {H0 m H vargs K} hr hv hf => ?_⟩
    simp only [Vrels] at hv
    subst hv
    exact hc fun H' hx => hf m H' _ (hr.ext' hx) (Stp.ext hx) rfl
  · cases hk
/-- Runs that come out true, whatever arguments that are not known. -/
theorem closedF {P : Program} {f : FuncId} {ex : Ex} {xs : List CV} (hs : SimF P f ex) (hk : ex xs h0 (fun z _ => isTrue z) = true) {vs : List Value} (hv : Vrels [] xs vs) {H : Hp} {R : Value → Hp → Prop} (h : ∀ H', Ext H H' → R (.bool true) H') : Fc P f vs.toArray H R := by
  obtain ⟨z, h', h1, _, h2⟩ := hs _ _ _ hk
  rw [isTrue_ok h1] at h2
  exact h2 (rel0 H) hv fun m' H' v r1 r2 r3 => by
    simp only [Vrel] at r3; subst r3
    exact h H' r1.ext
theorem closedH {P : Program} {f : FuncId} {ex : Ex} {xs : List CV} (hs : SimG P f ex) (hk : ex xs h0 (fun z _ => isTrue z) = true) {vs : List Value} (hv : Vrels [] xs vs) {H : Hp} {R : Value → Hp → Prop} (h : ∀ H', Ext H H' → R (.bool true) H') : Fc P f vs.toArray H R :=
  hs _ _ _ hk (rel0 H) hv fun z h' hz _ m' H' v r1 r2 r3 => by
    rw [isTrue_ok hz] at r3
    simp only [Vrel] at r3; subst r3
    exact h H' r1.ext
/-- A function that writes nothing old and answers by a plain value: what it has laid is not looked at any more. -/
theorem simQ {P : Program} {f : FuncId} {ex : Ex} (hs : SimF P f ex) : SimF P f (fun args h k => xQuiet (some ex) args h k) := by
  intro args h k hk
  obtain ⟨t, n, wp⟩ := h
  have hk : ex args (.mk t n n) (fun z _ => (match plainX z with | some _ => k z (.mk t n wp) | none => false)) = true := hk
  obtain ⟨z, h', h1, h2, h3⟩ := hs _ _ _ hk
  split at h1
  · rename_i v hv
    refine ⟨z, _, h1, rfl, fun {H0 m H vargs K} hr hva hf => ?_⟩
    have hr' : Rel H0 m (.mk t n n) H := ⟨hr.ext, hr.len, hr.new, hr.obj, hr.inj, hr.low⟩
    refine h3 hr' hva fun m' H'' u r1 r2 r3 => ?_
    have hx : Ext H H'' := r2.kp.ext fun b hb hw => by
      obtain ⟨i, e, hi, hge, _⟩ := hw
      have hl2 : m.length = n := hr.len
      simp only [CH.wp] at hge
      rw [List.getElem?_eq_none (by omega)] at hi
      cases hi
    rw [plainX_ok hv r3]
    exact hf m H'' v (hr.ext' hx) (Stp.ext hx) (plainX_rel hv m)
  · cases h1
/-- A function whose outcomes are all one plain value: what it has laid is not looked at any more. ex1: one of its runs. -/
noncomputable def xQG (ex1 exg : Ex) (args : List CV) (h : CH) (k : CV → CH → Bool) : Bool :=
  match h with
  | .mk t n wp => ex1 args (.mk t n n) fun z _ => both (exg args (.mk t n n) fun z' _ => plB z' && eqC z' z) (k z (.mk t n wp))
/-- One of the runs is none but for its answer: nothing is asked of it. -/
def One (ex : Ex) : Prop := ∀ args h k, ex args h k = true → ∃ z h', k z h' = true
theorem simQG {P : Program} {f : FuncId} {ex1 exg : Ex} (h1 : One ex1) (hs : SimG P f exg) : SimF P f (fun args h k => xQG ex1 exg args h k) := by
  intro args h k hk
  obtain ⟨t, n, wp⟩ := h
  obtain ⟨z, _, hk1⟩ := h1 _ _ _ (show ex1 args (.mk t n n) (fun z _ => both (exg args (.mk t n n) fun z' _ => plB z' && eqC z' z) (k z (.mk t n wp))) = true from hk)
  obtain ⟨k1, k2⟩ := both_ok hk1
  refine ⟨z, .mk t n wp, k2, rfl, fun {H0 m H vargs K} hr hva hf => ?_⟩
  have hr' : Rel H0 m (.mk t n n) H := ⟨hr.ext, hr.len, hr.new, hr.obj, hr.inj, hr.low⟩
  refine hs args _ _ k1 hr' hva fun z' h' hz _ m' H'' u r1 r2 r3 => ?_
  simp only [Bool.and_eq_true] at hz
  have hx : Ext H H'' := r2.kp.ext fun b hb hw => by
    obtain ⟨i, e, hi, hge, _⟩ := hw
    have hl2 : m.length = n := hr.len
    simp only [CH.wp] at hge
    rw [List.getElem?_eq_none (by omega)] at hi
    cases hi
  have hzz := eqC_ok _ _ hz.2
  subst hzz
  rw [valP_ok z' hz.1 r3]
  exact hf m H'' _ (hr.ext' hx) (Stp.ext hx) (valP_rel z' hz.1 m)
/-- A tree that has a walk. -/
def walkB : OT → Bool
  | .line _ => true
  | .fork _ bs => (match bs with | .nil => false | .cons _ t _ => walkB t)
theorem xT_one {P : Program} {qf : FuncId → Bool} {Z : List (Nat × CV)} {C : List (Nat × Ex)} (he : EnvOk P Z C) {ops : Array Oper} {K : List CV → CH → Bool} : ∀ (t : OT) {sk : List Nat} {fr : List CV} {h : CH}, walkB t = true → xT P qf Z C ops K t sk fr h = true → ∃ fr' h', K fr' h' = true
  | .line l, sk, fr, h, _, hk => by
    simp only [xT] at hk
    obtain ⟨fr', h', k1, _⟩ := xOps_ok he hk
    exact ⟨fr', h', k1⟩
  | .fork A .nil, sk, fr, h, hw, hk => by cases hw
  | .fork A (.cons i t bs), sk, fr, h, hw, hk => by
    simp only [xT] at hk
    obtain ⟨sk', fr', h', k1, _⟩ := xA_ok he hk
    simp only [xB] at k1
    obtain ⟨k0, _⟩ := both_ok k1
    obtain ⟨sk2, fr2, h2, k2, _⟩ := xA_ok he k0
    exact xT_one he t hw k2
def walksB : List (Nat × Plan) → Bool
  | [] => true
  | (_, .all t) :: l => walkB t && walksB l
  | _ :: l => walksB l
theorem walks_look : ∀ {T : List (Nat × Plan)} {i : Nat} {t : OT}, walksB T = true → look T i = some (.all t) → walkB t = true
  | [], _, _, _, h => by cases h
  | (j, p) :: l, i, t, hw, h => by
    have h' : (Bool.rec (motive := fun _ => Option Plan) (look l i) (some p) (Nat.beq j i)) = some (.all t) := h
    cases hb : Nat.beq j i with
    | true =>
      rw [hb] at h'
      injection h' with h'; subst h'
      simp only [walksB, Bool.and_eq_true] at hw
      exact hw.1
    | false =>
      rw [hb] at h'
      refine walks_look (T := l) ?_ h'
      cases p <;> first | exact hw | (simp only [walksB, Bool.and_eq_true] at hw; exact hw.2)
/-- A run of several outcomes has one. -/
theorem xcG_one {P : Program} {qf : FuncId → Bool} {Z : List (Nat × CV)} {C : List (Nat × Ex)} {T : List (Nat × Plan)} (he : EnvOk P Z C) (hw : walksB T = true) : ∀ (c : Code) (ann : Ann) (Q : QX) (fr : List CV) (h : CH), xcG P qf Z C T c ann Q fr h = true → ∃ e fr' h', Q e fr' h' = true := by
  intro c
  induction c with
  | skip => intro ann Q fr h hk; exact ⟨.normal, fr, h, by cases ann <;> exact hk⟩
  | label l => intro ann Q fr h hk; exact ⟨.normal, fr, h, by cases ann <;> exact hk⟩
  | ret => intro ann Q fr h hk; exact ⟨.ret, fr, h, by cases ann <;> exact hk⟩
  | exit id => intro ann Q fr h hk; exact ⟨.exit id, fr, h, by cases ann <;> exact hk⟩
  | region id ops dr =>
    intro ann Q fr h hk
    have hk2 : xRegG P qf Z C (look T id) ops dr fr h (fun fr' h' => Q .normal fr' h') = true := by cases ann <;> exact hk
    clear hk
    unfold xRegG at hk2
    split at hk2
    · rw [ifX_eq] at hk2
      split at hk2 <;> try (cases hk2; done)
      unfold xTwo at hk2
      obtain ⟨sk, fr1, h1, k1, _⟩ := xA_ok he hk2
      obtain ⟨k2, _⟩ := both_ok k1
      obtain ⟨fr2, h2, k3, _⟩ := xOps_ok he k2
      exact ⟨.normal, fr2, h2, k3⟩
    · rename_i t hl
      rw [ifX_eq] at hk2
      split at hk2 <;> try (cases hk2; done)
      obtain ⟨fr2, h2, k3⟩ := xT_one he t (walks_look hw hl) hk2
      exact ⟨.normal, fr2, h2, k3⟩
    · rw [ifX_eq] at hk2
      split at hk2 <;> try (cases hk2; done)
      obtain ⟨fr2, h2, k3, _⟩ := xOps_ok he hk2
      exact ⟨.normal, fr2, h2, k3⟩
    · obtain ⟨fr2, h2, k3, _⟩ := regP_ok (top := false) (id := id) he hk2
      exact ⟨.normal, fr2, h2, k3⟩
  | block id c ih =>
    intro ann Q fr h hk
    have hk : xcG P qf Z C T c ann (blkX id Q) fr h = true := by cases ann <;> exact hk
    obtain ⟨e, fr', h', k1⟩ := ih ann (blkX id Q) fr h hk
    cases e with
    | exit k =>
      have k1 : isXX k id (Q .normal fr' h') (Q (.exit k) fr' h') = true := k1
      unfold isXX at k1
      cases hb : Nat.beq k id with
      | true => rw [hb] at k1; exact ⟨.normal, fr', h', k1⟩
      | false => rw [hb] at k1; exact ⟨.exit k, fr', h', k1⟩
    | normal => exact ⟨.normal, fr', h', k1⟩
    | goto l => exact ⟨.goto l, fr', h', k1⟩
    | ret => exact ⟨.ret, fr', h', k1⟩
    | panic c => exact ⟨.panic c, fr', h', k1⟩
    | outgrown => exact ⟨.outgrown, fr', h', k1⟩
  | cond c x y ihx ihy =>
    intro ann Q fr h hk
    have hk : ∃ l r', xIte (evX fr c) (xcG P qf Z C T x l Q fr h) (xcG P qf Z C T y r' Q fr h) = true := by cases ann <;> exact ⟨_, _, hk⟩
    obtain ⟨l, r', hk⟩ := hk
    unfold xIte at hk
    split at hk
    · exact ihx l Q fr h hk
    · exact ihy r' Q fr h hk
    · cases hk
  | seq x y ihx ihy =>
    intro ann Q fr h hk
    have key : ∃ l K, xcG P qf Z C T x l (thnX K Q) fr h = true ∧ ∀ fr1 h1, K fr1 h1 = true → ∃ e fr' h', Q e fr' h' = true := by
      unfold xcG at hk
      split at hk
      · rw [ifX_eq] at hk
        split at hk
        · exact ⟨_, _, hk, fun fr1 h1 k => ihy _ Q _ h1 k⟩
        · cases hk
      · exact ⟨_, _, hk, fun fr1 h1 k => ihy _ Q fr1 h1 k⟩
      · exact ⟨_, _, hk, fun fr1 h1 k => ihy _ Q fr1 h1 k⟩
    obtain ⟨l, K, hk, hy⟩ := key
    obtain ⟨e, fr1, h1, k1⟩ := ihx l _ fr h hk
    rcases thnX_ok k1 with ⟨rfl, k1⟩ | ⟨hn, k1⟩
    · exact hy fr1 h1 k1
    · exact ⟨e, fr1, h1, k1⟩
  | loop c ih =>
    intro ann Q fr h hk
    have key : ∃ (L : List Nat) (J : List Nat) (b : Ann), xLoop (n := L.length) (fun K s h => xcG P qf Z C T c b (thnX (fun fr' h' => K (grabX fr' L) h') Q) (layX L s (junkX J fr)) h) 1000000 (grabX fr L) h = true := by
      unfold xcG at hk
      split at hk
      · rw [ifX_eq] at hk
        split at hk
        · exact ⟨_, _, _, hk⟩
        · cases hk
      · cases hk
    obtain ⟨L, J, b, hk⟩ := key
    have rounds : ∀ (N : Nat) (s : TupC L.length) (h1 : CH), xLoop (n := L.length) (fun K s h => xcG P qf Z C T c b (thnX (fun fr' h' => K (grabX fr' L) h') Q) (layX L s (junkX J fr)) h) N s h1 = true → ∃ e fr' h', Q e fr' h' = true := by
      intro N
      induction N with
      | zero => intro s h1 hk; cases hk
      | succ N ihN =>
        intro s h1 hk
        have hk' : xcG P qf Z C T c b (thnX (fun fr' h' => xLoop (n := L.length) (fun K s h => xcG P qf Z C T c b (thnX (fun fr' h' => K (grabX fr' L) h') Q) (layX L s (junkX J fr)) h) N (grabX fr' L) h') Q) (layX L s (junkX J fr)) h1 = true := hk
        obtain ⟨e, fr2, h2, k1⟩ := ih b _ _ h1 hk'
        rcases thnX_ok k1 with ⟨rfl, k1⟩ | ⟨hn, k1⟩
        · exact ihN _ _ k1
        · exact ⟨e, fr2, h2, k1⟩
    exact rounds 1000000 _ h hk
  | scope c ih =>
    intro ann Q fr h hk
    have hk : xcG P qf Z C T c ann (scpX Q) fr h = true := by cases ann <;> exact hk
    obtain ⟨e, fr', h', k1⟩ := ih ann (scpX Q) fr h hk
    cases e <;> first | exact ⟨_, fr', h', k1⟩ | cases k1
  | goto l => intro ann Q fr h hk; cases ann <;> cases hk
  | refuse why => intro ann Q fr h hk; cases ann <;> cases hk
  | rangeFunc g ps x y ihx ihy => intro ann Q fr h hk; cases ann <;> cases hk
/-- A function, run in orders that nothing is said of. -/
noncomputable def xFn1 (P : Program) (qf : FuncId → Bool) (Z : List (Nat × CV)) (C : List (Nat × Ex)) (T : List (Nat × Plan)) (fn : Func) (ann : Ann) (args : List CV) (h : CH) (k : CV → CH → Bool) : Bool :=
  match fn.body with
  | some c => xcG P qf Z C T c ann (retX P fn k) (padX args fn.ntmps) h
  | none => false
theorem one_of {P : Program} {qf : FuncId → Bool} {Z : List (Nat × CV)} {C : List (Nat × Ex)} {T : List (Nat × Plan)} (he : EnvOk P Z C) (hw : walksB T = true) {fn : Func} (ann : Ann) : One (xFn1 P qf Z C T fn ann) := by
  intro args h k hk
  unfold xFn1 at hk
  split at hk
  · rename_i c hb
    obtain ⟨e, fr', h', k1⟩ := xcG_one he hw c ann _ _ h hk
    have hres : xRes P fr' h' (fun v => k v h') fn.results.toList [] = true := by
      cases e <;> first | exact k1 | cases k1
    obtain ⟨z, h1, _⟩ := xRes_ok hres
    exact ⟨z, h', h1⟩
  · cases hk
end Go.Xc

/- Xc, part P: rounds of loops over functions, run. -/
set_option linter.unusedVariables false
set_option linter.unusedSectionVars false
set_option linter.unusedSimpArgs false
namespace Go.Xc
open Go.Vc
variable [Sites]

def setX (fr : List CV) : List (Nat × CV) → List CV
  | [] => fr
  | (t, v) :: l => setX (fr.set t v) l
theorem setX_rel {m : M} : ∀ {l : List Nat} {vs : List CV} {us : List Value} {fr : List CV} {frv : Fr}, Vrels m fr frv → Vrels m vs us → vs.length = l.length → Vrels m (setX fr (l.zip vs)) (setL frv (l.zip us))
  | [], _, _, _, _, h, _, _ => by simpa [setX, setL] using h
  | t :: l, [], _, _, _, _, _, hl => by simp at hl
  | t :: l, v :: vs, us, fr, frv, h, hv, hl => by
    obtain ⟨u, us', rfl, h1, h2⟩ := hv
    simp only [List.zip_cons_cons, setX, setL]
    exact setX_rel (set_rel h t h1) h2 (by simpa using hl)
noncomputable def lpEnd (b st : Nat) (j : Option (Option Nat)) (h : CH) (K : CH → Bool) : Bool :=
  match h.get b with
  | some (.lp 1 none n fr) => xSet b (.lp st j n fr) h K
  | _ => false
noncomputable def rdEnd (b : Nat) (k : CV → CH → Bool) : QX
  | .normal, _, h => lpEnd b 0 none h fun h' => k (.bool true) h'
  | .ret, _, h => lpEnd b 2 (some none) h fun h' => k (.bool false) h'
  | .exit id, _, h => lpEnd b 2 (some (some id)) h fun h' => k (.bool false) h'
  | _, _, _ => false
noncomputable def rdMid (b : Nat) (K : List CV → CH → Bool) : QX
  | .normal, fr, h => (match h.get b with
    | some (.lp 0 none n fr0) => xSet b (.lp 1 none n fr0) h fun h' => K fr h'
    | _ => false)
  | _, _, _ => false
/-- A round, by the code itself: what it is handed is laid, then its own code. -/
noncomputable def xRd (P : Program) (qf : FuncId → Bool) (Z : List (Nat × CV)) (C : List (Nat × Ex)) (T : List (Nat × Plan)) (ps : Array Tmp) (x y : Code) (ax ay : Ann) : Ex := fun args h k =>
  match args with
  | .yv b :: .tup fr :: vs => ifX (Nat.beq vs.length ps.size && (noDef x && noDef y)) (xc P qf Z C T x ax (rdMid b fun fr1 h1 => xc P qf Z C T y ay (rdEnd b k) fr1 h1) (setX fr (ps.toList.zip vs)) h) false
  | _ => false

theorem xRd_ok {P : Program} {qf : FuncId → Bool} {Z : List (Nat × CV)} {C : List (Nat × Ex)} {T : List (Nat × Plan)} {n : Nat} {ps : Array Tmp} {x y : Code} {ax ay : Ann} (he : EnvOk P Z C) (hs : ∀ ps' x' y', Sites.ok n ps' x' y' → ps' = ps ∧ x' = x ∧ y' = y) : SimRd P n (xRd P qf Z C T ps x y ax ay) := by
  intro b fr args h k hk ⟨st, j0, hg⟩
  unfold xRd at hk
  simp only at hk
  rw [ifX_eq] at hk
  split at hk <;> try (cases hk; done)
  rename_i hc
  simp only [Bool.and_eq_true] at hc
  obtain ⟨hlen, hnx, hny⟩ := hc
  have hlen := Nat.eq_of_beq_eq_true hlen
  obtain ⟨e1, fr1, h1, k1, w1, _, s1⟩ := xc_ok (top := false) he x ax _ _ h hk (sites_none x ax hnx)
  clear hk
  cases e1 <;> simp only [rdMid] at k1 <;> try (cases k1; done)
  split at k1 <;> try (cases k1; done)
  rename_i n1 fr01 hg1
  obtain ⟨h2, k2, w2, set2⟩ := xSet_ok k1
  clear k1
  obtain ⟨e2, fr2, h3, k3, w3, _, s3⟩ := xc_ok (top := false) he y ay _ _ h2 k2 (sites_none y ay hny)
  clear k2
  have out : ∃ stE, ∃ j : Jmp, ∃ n3 fr3, h3.get b = some (.lp 1 none n3 fr3) ∧ xSet b (.lp stE j n3 fr3) h3 (fun h4 => k (.bool j.isNone) h4) = true ∧ stOf stE = (if j.isNone then .ready else .done) ∧ ((e2 = .normal ∧ j = none) ∨ (e2 = .ret ∧ j = some none) ∨ ∃ id, e2 = .exit id ∧ j = some (some id)) := by
    cases e2 <;> simp only [rdEnd, lpEnd] at k3 <;> try (cases k3; done)
    · split at k3 <;> try (cases k3; done)
      rename_i hg3; exact ⟨0, none, _, _, hg3, k3, rfl, .inl ⟨rfl, rfl⟩⟩
    · split at k3 <;> try (cases k3; done)
      rename_i hg3; exact ⟨2, some (some _), _, _, hg3, k3, rfl, .inr (.inr ⟨_, rfl, rfl⟩)⟩
    · split at k3 <;> try (cases k3; done)
      rename_i hg3; exact ⟨2, some none, _, _, hg3, k3, rfl, .inr (.inl ⟨rfl, rfl⟩)⟩
  clear k3
  obtain ⟨stE, j, n3, fr3, hg3, k4, hstE, hje⟩ := out
  obtain ⟨h4, k5, w4, set4⟩ := xSet_ok k4
  clear k4
  refine ⟨.bool j.isNone, h4, k5, ((w4.trans w3).trans w2).trans w1, fun {H0 m H vargs e K} hr hv hbe hf => ?_⟩
  obtain ⟨e', O, o1, o2, rec, rfl, o3, o4⟩ := hr.obj b _ hg
  rw [hbe] at o1; injection o1 with o1; subst o1
  obtain ⟨q1, q2, q3⟩ := hs _ _ _ o3
  unfold CallV
  simp only
  unfold Yld
  rw [o2]
  simp only
  have hvl : vargs.length = args.length := (Vrels_len hv).symm
  refine ⟨by simp [q1, ← hlen, hvl], ?_⟩
  rw [q1, q2, q3]
  intro w hw
  subst hw
  refine roundIn_of_wpIn (F := wideR none) (n := 0) trivial ?_
  have ha0 : At { tmps := ((ps.zip (#[].toList ++ vargs.toArray.toList).toArray).foldl (fun tmps (x : Nat × Value) => tmps.setIfInBounds x.1 x.2) rec.tmps), defers := [] } (setL rec.tmps.toList (ps.toList.zip vargs)) := by
    show _ = _
    simp only
    rw [← setL_at, ← Array.foldl_toList]
    simp
  have hv0 : Vrels m (setX fr (ps.toList.zip args)) (setL rec.tmps.toList (ps.toList.zip vargs)) := setX_rel o4 hv (by simp [hlen])
  refine wpIn_mono (s1 (some e.1) (fun h => by cases h) hr hv0 ha0) fun e1 a1 w1' hp => ?_
  obtain ⟨rfl, m1, frv1, p1, p2, p3, p4, p5, p6⟩ := hp
  obtain ⟨e1', O1, t1, t2, rec1, rfl, t3, t4⟩ := p1.obj b _ hg1
  have hm1 := p2.pre _ _ hbe
  rw [hm1] at t1; injection t1 with t1; subst t1
  have hl1 : LpAt rec1 e.1 .ready none w1'.heap := t2
  refine ⟨_, begin_ok hl1, ?_⟩
  obtain ⟨u1, u2⟩ := set2 (O := .loop { rec1 with state := .busy, pending := jmpCode none }) p1 hg1 hm1 ⟨rec1, rfl, t3, t4⟩
  refine wpIn_mono (s3 (some e.1) (fun h => by cases h) (w := { w1' with heap := setLp rec1 e.1 .busy none w1'.heap }) u1 p3 p4) fun e2' a2 w2' hp => ?_
  obtain ⟨rfl, m2, frv2, v1, v2, v3, v4, v5, v6⟩ := hp
  obtain ⟨e2', O2, x1, x2, rec2, rfl, x3, x4⟩ := v1.obj b _ hg3
  have hm2 := v2.pre _ _ hm1
  rw [hm2] at x1; injection x1 with x1; subst x1
  have hl2 : LpAt rec2 e.1 .busy none w2'.heap := x2
  obtain ⟨y1, y2⟩ := set4 (O := .loop { rec2 with state := stOf stE, pending := jmpCode j }) v1 hg3 hm2 ⟨rec2, rfl, x3, x4⟩
  have hsm : Sm w w2' := p6.trans ⟨v6.os, v6.out, v6.tape⟩
  have hst2 : setLp rec2 e.1 (if j.isNone then .ready else .done) j w2'.heap = w2'.heap.setIfInBounds e.1 (.loop { rec2 with state := stOf stE, pending := jmpCode j }) := by
    rw [hstE]; rfl
  have hK : K (.bool j.isNone) (setLp rec2 e.1 (if j.isNone then .ready else .done) j w2'.heap) := by
    rw [hst2]
    refine hf m2 _ _ y1 ?_ rfl
    rw [w1] at u2
    rw [w2, w1] at v2
    rw [w3, w2, w1] at y2
    exact ((p2.trans u2).trans v2).trans y2
  have fin : ∃ v w', (Instr.endRound e.1 (jmpCode j)).run P w2' = .ok v w' ∧ ∃ v', Ending.returned v = .returned v' ∧ K v' w'.heap ∧ Sm w w' := ⟨_, _, end_ok hl2, _, rfl, hK, hsm.trans ⟨rfl, rfl, rfl⟩⟩
  rcases hje with ⟨rfl, rfl⟩ | ⟨rfl, rfl⟩ | ⟨id, rfl, rfl⟩
  · exact fin
  · exact fin
  · exact fin

/-! ### Loops by number: loop i of function f is number 10 f + i -/
def rangesOf : Code → List (Array Tmp × Code × Code)
  | .seq a b => rangesOf a ++ rangesOf b
  | .cond _ a b => rangesOf a ++ rangesOf b
  | .block _ c => rangesOf c
  | .scope c => rangesOf c
  | .loop c => rangesOf c
  | .rangeFunc _ ps x y => [(ps, x, y)]
  | _ => []
def siteAt (P : Program) (n : Nat) : Option (Array Tmp × Code × Code) :=
  match P.funcs[n / 10]? with
  | some fn => (match fn.body with
    | some c => (rangesOf c)[n % 10]?
    | none => none)
  | none => none
/-- The loops of a program. -/
abbrev sitesOf (P : Program) : Sites := ⟨fun n ps x y => siteAt P n = some (ps, x, y)⟩
def numB (base : Nat) : Code → Ann → Nat → Bool
  | .seq a b, ann, i => (match ann with
    | .join _ _ l r => numB base a l i && numB base b r (i + (rangesOf a).length)
    | .seq l r => numB base a l i && numB base b r (i + (rangesOf a).length)
    | _ => numB base a .nil i && numB base b .nil (i + (rangesOf a).length))
  | .cond _ a b, ann, i => (match ann with
    | .cond l r => numB base a l i && numB base b r (i + (rangesOf a).length)
    | _ => numB base a .nil i && numB base b .nil (i + (rangesOf a).length))
  | .block _ c, ann, i => numB base c ann i
  | .scope c, ann, i => numB base c ann i
  | .loop c, ann, i => (match ann with
    | .loop _ _ b => numB base c b i
    | _ => true)
  | .rangeFunc _ _ _ _, ann, i => (match ann with
    | .loop [n] _ _ => Nat.beq n (base + i)
    | _ => true)
  | _, _, _ => true
theorem num_sites {base : Nat} : ∀ (c : Code) (ann : Ann) (i : Nat), numB base c ann i = true → (∀ j s, (rangesOf c)[j]? = some s → Sites.ok (base + (i + j)) s.1 s.2.1 s.2.2) → SitesIn true c ann := by
  have left : ∀ {a b : Code} {i : Nat}, (∀ j s, (rangesOf a ++ rangesOf b)[j]? = some s → Sites.ok (base + (i + j)) s.1 s.2.1 s.2.2) → ∀ j s, (rangesOf a)[j]? = some s → Sites.ok (base + (i + j)) s.1 s.2.1 s.2.2 := fun h j s hj => h j s (by
    have hlt := (List.getElem?_eq_some_iff.1 hj).1
    rw [List.getElem?_append_left hlt]; exact hj)
  have right : ∀ {a b : Code} {i : Nat}, (∀ j s, (rangesOf a ++ rangesOf b)[j]? = some s → Sites.ok (base + (i + j)) s.1 s.2.1 s.2.2) → ∀ j s, (rangesOf b)[j]? = some s → Sites.ok (base + (i + (rangesOf a).length + j)) s.1 s.2.1 s.2.2 := fun {a b i} h j s hj => by
    have := h ((rangesOf a).length + j) s (by rw [List.getElem?_append_right (by omega), Nat.add_sub_cancel_left]; exact hj)
    rw [← Nat.add_assoc i] at this; exact this
  intro c
  induction c with
  | seq a b iha ihb =>
    intro ann i h hs
    have hs : ∀ j s, (rangesOf a ++ rangesOf b)[j]? = some s → Sites.ok (base + (i + j)) s.1 s.2.1 s.2.2 := hs
    cases ann <;> (unfold numB at h; simp only [Bool.and_eq_true] at h; exact ⟨iha _ _ h.1 (left hs), ihb _ _ h.2 (right hs)⟩)
  | cond x a b iha ihb =>
    intro ann i h hs
    have hs : ∀ j s, (rangesOf a ++ rangesOf b)[j]? = some s → Sites.ok (base + (i + j)) s.1 s.2.1 s.2.2 := hs
    cases ann <;> (unfold numB at h; simp only [Bool.and_eq_true] at h; exact ⟨iha _ _ h.1 (left hs), ihb _ _ h.2 (right hs)⟩)
  | block id c ih => intro ann i h hs; have := ih ann i h hs; cases ann <;> exact this
  | scope c ih => intro ann i h hs; have := ih ann i h hs; cases ann <;> exact this
  | loop c ih =>
    intro ann i h hs
    cases ann with
    | loop L J b => exact ih b i h hs
    | nil => trivial
    | seq l r => trivial
    | join L J l r => trivial
    | cond l r => trivial
  | rangeFunc g ps x y ihx ihy =>
    intro ann i h hs
    cases ann with
    | loop L J b =>
      match L, h with
      | [n], h =>
        have hn : n = base + i := Nat.eq_of_beq_eq_true h
        have := hs 0 (ps, x, y) rfl
        rw [Nat.add_zero, ← hn] at this
        exact ⟨rfl, this⟩
      | [], h => trivial
      | _ :: _ :: _, h => trivial
    | nil => trivial
    | seq l r => trivial
    | join L J l r => trivial
    | cond l r => trivial
  | skip => intro ann i h hs; cases ann <;> trivial
  | label l => intro ann i h hs; cases ann <;> trivial
  | ret => intro ann i h hs; cases ann <;> trivial
  | exit id => intro ann i h hs; cases ann <;> trivial
  | region id ops dr => intro ann i h hs; cases ann <;> trivial
  | goto l => intro ann i h hs; cases ann <;> trivial
  | refuse w => intro ann i h hs; cases ann <;> trivial

theorem div10 (f j : Nat) (h : j < 10) : (10 * f + (0 + j)) / 10 = f := by omega
theorem mod10 (f j : Nat) (h : j < 10) : (10 * f + (0 + j)) % 10 = j := by omega
/-- A function with loops over functions, run. -/
noncomputable def xFnN (P : Program) (qf : FuncId → Bool) (Z : List (Nat × CV)) (C : List (Nat × Ex)) (T : List (Nat × Plan)) (f : FuncId) (fn : Func) (ann : Ann) (args : List CV) (h : CH) (k : CV → CH → Bool) : Bool :=
  match fn.body with
  | some c => ifX (numB (10 * f) c ann 0 && Nat.ble (rangesOf c).length 10) (xc P qf Z C T c ann (retX P fn k) (padX args fn.ntmps) h) false
  | none => false
theorem simN_of {P : Program} {qf : FuncId → Bool} {Z : List (Nat × CV)} {C : List (Nat × Ex)} {T : List (Nat × Plan)} (he : EnvOk P Z C) (hok : ∀ n ps x y, siteAt P n = some (ps, x, y) → Sites.ok n ps x y) {f : FuncId} {fn : Func} (ann : Ann) (hf : P.funcs[f]? = some fn) : SimF P f (xFnN P qf Z C T f fn ann) := by
  intro args h k hk
  unfold xFnN at hk
  split at hk
  · rename_i c hb
    rw [ifX_eq] at hk
    split at hk
    · rename_i hn
      simp only [Bool.and_eq_true] at hn
      have hlen := Nat.le_of_ble_eq_true hn.2
      refine simR_of (qf := qf) (T := T) he ann hf (fun c' hb' => ?_) args h k ?_
      · rw [hb] at hb'; injection hb' with hb'; subst hb'
        refine num_sites c ann 0 hn.1 fun j s hj => hok _ _ _ _ ?_
        have hlt := (List.getElem?_eq_some_iff.1 hj).1
        unfold siteAt
        have hj10 : j < 10 := by omega
        rw [div10 f j hj10, mod10 f j hj10, hf]
        simp only [hb]
        exact hj
      · unfold xFnR
        rw [hb]; exact hk
    · cases hk
  · cases hk
noncomputable def xRdN (P : Program) (qf : FuncId → Bool) (Z : List (Nat × CV)) (C : List (Nat × Ex)) (T : List (Nat × Plan)) (n : Nat) (ax ay : Ann) : Ex := fun args h k =>
  match siteAt P n with
  | some s => xRd P qf Z C T s.1 s.2.1 s.2.2 ax ay args h k
  | none => false
theorem simRdN {P : Program} {qf : FuncId → Bool} {Z : List (Nat × CV)} {C : List (Nat × Ex)} {T : List (Nat × Plan)} (he : EnvOk P Z C) (hdet : ∀ n ps x y, Sites.ok n ps x y → siteAt P n = some (ps, x, y)) {n : Nat} {ax ay : Ann} : SimRd P n (xRdN P qf Z C T n ax ay) := by
  cases hs : siteAt P n with
  | none =>
    intro b fr args h k hk
    have : (match siteAt P n with
      | some s => xRd P qf Z C T s.1 s.2.1 s.2.2 ax ay (.yv b :: .tup fr :: args) h k
      | none => false) = true := hk
    rw [hs] at this; cases this
  | some s =>
    have e : xRdN P qf Z C T n ax ay = xRd P qf Z C T s.1 s.2.1 s.2.2 ax ay := by
      funext args h k
      unfold xRdN
      rw [hs]
    rw [e]
    refine xRd_ok he fun ps' x' y' hok => ?_
    have := hdet _ _ _ _ hok
    rw [hs] at this
    injection this with this
    subst this
    exact ⟨rfl, rfl, rfl⟩
end Go.Xc

/- Ft, part E: a disk of filled blocks, the document's beside it. -/
set_option linter.unusedVariables false
set_option linter.unusedSimpArgs false
namespace Go.Vc
open Go.Proofs
open Classical

/-- The document's disk. -/
def rdC (a b : Value) (fuse : Int) (st : Bool) (reads made : Int) : Array Value := #[a, b, .int .i64 fuse, .bool st, .int .i64 reads, .int .i64 made]
theorem build_rd : buildE Try.prog 81 [(2, .int .i64 (-1))] = some (.agg (rdC (.slice none 0 0) (.slice none 0 0) (-1) false 0 0)) := by kernel_rfl
noncomputable def eBlk : ElemI := orE (elemI Try.prog 73)
set_option maxRecDepth 100000 in
theorem elBlk : elemI Try.prog 73 = some eBlk := by kernel_rfl
set_option maxRecDepth 100000 in
theorem eBlk_f : eBlk.type = 33 ∧ eBlk.size = 1024 ∧ eBlk.zero.size = 1024 ∧ eBlk.bytes = 1024 := ⟨by kernel_rfl, by kernel_rfl, by kernel_rfl, by kernel_rfl⟩
theorem rd_get {a b : Value} {f : Int} {st : Bool} {x y : Int} : (rdC a b f st x y)[0]? = some a ∧ (rdC a b f st x y)[1]? = some b ∧ (rdC a b f st x y)[2]? = some (.int .i64 f) ∧ (rdC a b f st x y)[3]? = some (.bool st) ∧ (rdC a b f st x y)[4]? = some (.int .i64 x) ∧ (rdC a b f st x y)[5]? = some (.int .i64 y) ∧ (rdC a b f st x y).size = 6 :=
  ⟨rfl, rfl, rfl, rfl, rfl, rfl, rfl⟩

section
variable {H : Hp} {R : Value → Hp → Prop}
theorem Sv.app_nil {T n : Nat} {e : ElemI} (hT : e.type = T) (hs : e.size = n) (hz : e.zero.size = n) (hby : 0 < e.bytes) {x : Value} {T' : Nat} {us : List (Array Value)} (hx : Sv T' n H x us) (hok : ∀ u ∈ us, cellsOk u)
    (hlim : us.length * e.bytes ≤ 2 ^ 47) {K : Value → Hp → Prop} (hk : ∀ s' H', Sv T n H' s' us → Ext H H' → (∀ b, blkOf s' = some b → H.size ≤ b) → K s' H') : AppS (some e) (.slice none 0 0) x H K :=
  app_many hT hs hz hby (Sv.nil T n H) hx hok (by simpa using hlim) fun s' H' h1 h2 h3 => hk s' H' (by simpa using h1) (h2.ext fun b hb e => by cases e) fun b hb => (h3 b hb).resolve_left fun e => by cases e
theorem newDisk_ok {v : Value} {T' : Nat} {l : List Blk} (hs : Sv T' 1024 H v l) (hB : ∀ x ∈ l, IsB x) (hl : l.length ≤ 1048576)
    (k : ∀ H' r s1 s2, Ext H H' → H'[r]? = some (.cells (rdC s1 s2 (-1) false 0 0) 81) → Sv 33 1024 H' s1 l → Sv 33 1024 H' s2 l → H.size ≤ r →
      (∀ b, blkOf s1 = some b → r < b) → (∀ b, blkOf s2 = some b → r < b ∧ blkOf s1 ≠ some b) → R (ptrV r) H') :
    Fc Try.prog 29 #[v] H R := by
  refine fn29 ?_
  have q := eBlk_f
  simp only [sh29, build_rd, Pu_some, elBlk]
  refine box_i fun r H1 hr e1 s1 g1 => ?_
  simp only [cells_agg] at g1
  simp only [nilCheckE, Pu_some, addr_ptr, Nat.zero_add, load_cell g1, rd_get]
  refine Sv.app_nil q.1 q.2.1 q.2.2.1 (by rw [q.2.2.2]; decide) (hs.ext e1) (fun u hu => (hB u hu).ok) (by rw [q.2.2.2]; omega) fun a H2 ha e2 na => ?_
  refine store_i (e2.at g1) (by simp [rd_get]) ha.one.2 ha.one.1 fun H3 k3 s3 g3 => ?_
  have g3 : H3[r]? = some (.cells (rdC a (.slice none 0 0) (-1) false 0 0) 81) := g3
  simp only [load_cell g3, rd_get, Pu_some]
  have e03 : Ext H H3 := (e1.trans e2).kpn k3 (by omega)
  refine Sv.app_nil q.1 q.2.1 q.2.2.1 (by rw [q.2.2.2]; decide) (hs.ext e03) (fun u hu => (hB u hu).ok) (by rw [q.2.2.2]; omega) fun c H4 hc e4 nc => ?_
  refine store_i (e4.at g3) (by simp [rd_get]) hc.one.2 hc.one.1 fun H5 k5 s5 g5 => ?_
  have g5 : H5[r]? = some (.cells (rdC a c (-1) false 0 0) 81) := g5
  have hr1 : ∀ b, blkOf a = some b → r < b := fun b hb => by have := na b hb; omega
  have ha3 := ha.kp k3 fun b hb e => by have := hr1 b hb; omega
  have hr2 : ∀ b, blkOf c = some b → r < b ∧ blkOf a ≠ some b := fun b hb => by
    have h1 := nc b hb
    refine ⟨by have := e2.le; omega, fun h => ?_⟩
    have := ha3.lt h; omega
  exact k H5 r a c ((e03.trans e4).kpn k5 (by omega)) g5 ((ha3.ext e4).kp k5 fun b hb e => by have := hr1 b hb; omega) (hc.kp k5 fun b hb e => by have := (hr2 b hb).1; omega) (by omega) hr1 hr2

def u16s (l : List Int) : List (Array Value) := l.map fun x => #[.int .u16 x]
theorem u16s_len (l : List Int) : (u16s l).length = l.length := by unfold u16s; rw [List.length_map]
theorem u16s_get {l : List Int} {i : Nat} {x : Int} (h : l[i]? = some x) : (u16s l)[i]? = some #[.int .u16 x] := by unfold u16s; rw [List.getElem?_map, h]; rfl
theorem undU16s : Try.prog.underlying 47 = some (.slice 41) := by kernel_rfl
/-- The blocks of some numbers that are not blank. -/
noncomputable def ldP (fs : List Int) : List (Int × Blk) := (fs.zipIdx.filter fun x => decide (filB x.1 ≠ zB)).map fun x => ((x.2 : Int), filB x.1)
theorem filt1 {α β : Type} (p : α → Bool) (f : α → β) (a : α) : ([a].filter p).map f = if p a = true then [f a] else [] := by
  cases h : p a <;> simp [h]
theorem ldP_snoc (fs : List Int) (x : Int) : ldP (fs ++ [x]) = ldP fs ++ if filB x ≠ zB then [((fs.length : Int), filB x)] else [] := by
  unfold ldP
  rw [List.zipIdx_append, List.filter_append, List.map_append, List.zipIdx_singleton, filt1]
  simp only [decide_eq_true_eq, Nat.zero_add]
theorem ldP_lt (fs : List Int) : ∀ y ∈ ldP fs, 0 ≤ y.1 ∧ y.1 < fs.length := by
  intro y hy
  unfold ldP at hy
  obtain ⟨x, hx, rfl⟩ := List.mem_map.1 hy
  have := (List.mem_zipIdx (List.mem_filter.1 hx).1)
  simp only
  omega
theorem okL_snoc {n : Int} {x : Int × Blk} (h1 : x.1 < n) (h2 : x.2 ≠ zB) (h3 : IsB x.2) : ∀ {l : List (Int × Blk)} {b : Int}, okL n b l → b < x.1 → (∀ y ∈ l, y.1 < x.1) → okL n b (l ++ [x])
  | [], b, _, hb, _ => ⟨hb, h1, h2, h3, trivial⟩
  | y :: l, b, h, hb, hl => ⟨h.1, h.2.1, h.2.2.1, h.2.2.2.1, okL_snoc h1 h2 h3 h.2.2.2.2 (hl y List.mem_cons_self) fun z hz => hl z (List.mem_cons_of_mem _ hz)⟩
theorem okL_mono {n n' : Int} (hn : n ≤ n') : ∀ {l : List (Int × Blk)} {b : Int}, okL n b l → okL n' b l
  | [], _, _ => trivial
  | y :: l, b, h => ⟨h.1, Int.lt_of_lt_of_le h.2.1 hn, h.2.2.1, h.2.2.2.1, okL_mono hn h.2.2.2.2⟩
theorem list_snoc_ind {α : Type} {P : List α → Prop} (h0 : P []) (h1 : ∀ l x, P l → P (l ++ [x])) (l : List α) : P l := by
  have : ∀ m : List α, P m.reverse := fun m => by
    induction m with
    | nil => exact h0
    | cons x m ih => rw [List.reverse_cons]; exact h1 _ _ ih
  have := this l.reverse
  rwa [List.reverse_reverse] at this
theorem ldP_ok (fs : List Int) : okL fs.length (-1) (ldP fs) := by
  refine list_snoc_ind (P := fun fs => okL fs.length (-1) (ldP fs)) trivial (fun l x h => ?_) fs
  rw [ldP_snoc, List.length_append]
  have hB := filB_is x
  generalize filB x = d at hB ⊢
  split
  · rename_i hx
    exact okL_snoc (x := ((l.length : Int), d)) (by simp only [List.length_cons, List.length_nil]; omega) hx hB (okL_mono (by simp only [List.length_cons, List.length_nil]; omega) h) (by simp only; omega) fun y hy => (ldP_lt l y hy).2
  · rw [List.append_nil]; exact okL_mono (by simp only [List.length_cons, List.length_nil]; omega) h
theorem ldP_nil : ldP [] = [] := by unfold ldP; rw [List.zipIdx_nil, List.filter_nil, List.map_nil]
theorem heldL_nil (k : Int) : heldL [] k = zB := by unfold heldL; rw [List.foldl_nil]
theorem ldP_held (fs : List Int) : ∀ i x, fs[i]? = some x → heldL (ldP fs) (i : Nat) = filB x := by
  refine list_snoc_ind (P := fun fs => (∀ i x, fs[i]? = some x → heldL (ldP fs) (i : Nat) = filB x) ∧ ∀ i : Nat, fs.length ≤ i → heldL (ldP fs) i = zB) ⟨fun i x h => (by rw [List.getElem?_nil] at h; cases h), fun i _ => (by rw [ldP_nil, heldL_nil])⟩ (fun l x h => ?_) fs |>.1
  rw [ldP_snoc]
  by_cases hx : filB x = zB
  · rw [if_neg (fun h => h hx), List.append_nil]
    refine ⟨fun i y hi => ?_, fun i hi => h.2 i (by rw [List.length_append] at hi; omega)⟩
    by_cases hil : i < l.length
    · rw [List.getElem?_append_left hil] at hi; exact h.1 i y hi
    · rw [List.getElem?_append_right (by omega)] at hi
      cases hk : i - l.length with
      | zero =>
        rw [hk] at hi
        simp only [List.getElem?_cons_zero, Option.some.injEq] at hi
        subst hi
        rw [h.2 i (by omega), hx]
      | succ k => rw [hk] at hi; simp at hi
  · rw [if_pos hx, heldL_snoc]
    refine ⟨fun i y hi => ?_, fun i hi => ?_⟩
    · unfold updB
      by_cases hil : i < l.length
      · rw [if_neg (by simp only; omega)]
        rw [List.getElem?_append_left hil] at hi; exact h.1 i y hi
      · rw [List.getElem?_append_right (by omega)] at hi
        cases hk : i - l.length with
        | zero =>
          rw [hk] at hi
          simp only [List.getElem?_cons_zero, Option.some.injEq] at hi
          subst hi
          rw [if_pos (by simp only; omega)]
        | succ k => rw [hk] at hi; simp at hi
    · rw [List.length_append] at hi
      simp only [List.length_cons, List.length_nil] at hi
      unfold updB
      rw [if_neg (by simp only; omega)]
      exact h.2 i (by omega)
theorem ldP_len (fs : List Int) : (ldP fs).length ≤ fs.length := by
  unfold ldP
  rw [List.length_map]
  have := List.length_filter_le (fun x : Int × Nat => decide (filB x.1 ≠ zB)) fs.zipIdx
  rw [List.length_zipIdx] at this; exact this
theorem take_one {fs : List Int} {i : Nat} {x : Int} (h : fs[i]? = some x) : fs.take (i + 1) = fs.take i ++ [x] := by rw [List.take_add_one, h]; rfl

theorem zeroIm : zeroE Try.prog 72 = some (.agg #[.int .i64 0, .slice none 0 0]) := by kernel_rfl
theorem build_im (n : Int) : buildE Try.prog 72 [(0, .int .i64 n)] = some (.agg #[.int .i64 n, .slice none 0 0]) := by kernel_rfl
theorem neZ_iff {c : Blk} (hc : IsB c) {lit : Bool} {H : Hp} : eqXE Try.prog 33 lit .neq (.agg c) (.agg zB) H = some (.bool (decide (c ≠ zB))) := by
  by_cases h : c = zB
  · subst h; rw [eqXE_neq, eqB_true rowB zB_is]; simp
  · rw [eqXE_neq, eqB_false rowB hc zB_is h]; simp [h]

set_option maxHeartbeats 2000000 in
theorem disks_ok {v : Value} {fs : List Int} (hs : Sr 1 H v (u16s fs)) (h1 : 1 ≤ fs.length) (h2 : fs.length ≤ 64)
    (k : ∀ H' p r s1 s2 Od, Ext H H' → DiskAt H' p (DS.load fs.length (ldP fs)) Od → (∀ b, Od b → H.size ≤ b ∧ b < r) → H'[r]? = some (.cells (rdC s1 s2 (-1) false 0 0) 81) → Sv 33 1024 H' s1 (fs.map filB) → Sv 33 1024 H' s2 (fs.map filB) → H.size ≤ r →
      (∀ b, blkOf s1 = some b → r < b) → (∀ b, blkOf s2 = some b → r < b ∧ blkOf s1 ≠ some b) → R (.tuple #[ptrV p, ptrV r, .bool true]) H') :
    Fc Try.prog 12 #[v] H R := by
  refine fn12 ?_
  simp only [sh12]
  rw [hs.lenE undU16s]
  simp only [u16s_len, Pu_some, build_im, zeroIm]
  refine box_i fun b4 H1 hb4 e1 t1 g1 => ?_
  simp only [cells_agg] at g1
  refine storeAll_i (vs := #[.int .i64 (fs.length : Int), .slice none 0 0]) g1 rfl rfl (by simp [Value.oneCell']) fun H2 k2 t2 g2 => ?_
  have e02 : Ext H H2 := e1.kpn k2 (by omega)
  have qB := eBlk_f
  have qH := eHeld_f
  refine LoopP.mk (fun t H' => ∃ (i : Nat) (sd : Value), t.2.1 = .int .i64 i ∧ i ≤ fs.length ∧ Ext H H' ∧ b4 < H'.size ∧ H'[b4]? = some (.cells #[.int .i64 (fs.length : Int), sd] 72) ∧ Sv 33 1024 H' t.1 ((fs.take i).map filB) ∧ Sv 75 1025 H' sd ((ldP (fs.take i)).map heldC) ∧
      (∀ b, blkOf t.1 = some b → b4 < b) ∧ (∀ b, blkOf sd = some b → b4 < b ∧ blkOf t.1 ≠ some b))
    (fun t _ => match t.2.1 with | .int _ i => ((fs.length : Int) - i).toNat | _ => 0) ⟨0, _, rfl, by omega, e02, by omega, g2, Sv.nil _ _ _, Sv.nil _ _ _, fun b e => (by cases e), fun b e => (by cases e)⟩ ?_
  rintro ⟨sl, t2, u⟩ H3 ⟨i, sd, ht, hi, e3, l3, g3, hsl, hsd, nl, nd⟩
  simp only at ht hsl nl nd
  subst ht
  simp only [Any_const, Pu_some, binE_lss, Ite_dec]
  refine ⟨fun hlt => ?_, fun hge => ?_⟩
  · have hil : i < fs.length := by omega
    have hx := List.getElem?_eq_getElem hil
    generalize fs[i] = x at hx
    obtain ⟨bs, os, hadr, hld0⟩ := (hs.ext e3).cell (i := i) (j := 0) (u16s_get hx) (by decide)
    have hld : loadE (some none) (.pointer (some ⟨bs, os, none⟩)) H3 = some (.int .u16 x) := hld0
    simp only [hadr, hld, Pu_some]
    refine filled_ok fun H4 e4 => ?_
    have hB := filB_is x
    generalize hdx : filB x = d at hB ⊢
    simp only [zeroB, Pu_some]
    refine box_i fun b13 H5 hb5 e5 t5 g5 => ?_
    simp only [cells_agg] at g5
    refine storeAll_i g5 zB_size hB.size hB.ok fun H6 k6 t6 g6 => ?_
    have g6 : H6[b13]? = some (.cells (d) 33) := g6
    have e36 : Ext H3 H6 := e4.trans (e5.kpn k6 (by omega))
    have hl6 := load_all g6 hB.size
    simp only [hl6, Pu_some, elBlk, elHeld]
    rw [newS_one (by rw [qB.2.1]; decide) (by rw [qB.2.1]; decide) (by rw [cells_agg, hB.size, qB.2.1]), Pu_some]
    refine newS_i fun b7 H7 hb7 e7 t7 g7 => ?_
    have hsl7 := hsl.ext (e36.trans e7)
    have hlen : ((fs.take i).map filB).length = i := by rw [List.length_map, List.length_take]; omega
    refine app_many (us := [d]) qB.1 qB.2.1 qB.2.2.1 (by rw [qB.2.2.2]; decide) hsl7 (Sv.single g7 hB.size) (fun u hu => by have := List.mem_singleton.1 hu; subst this; exact hB.ok) (by rw [hlen, qB.2.2.2]; simp only [List.length_cons, List.length_nil]; omega) fun sl' H8 hsl8 k8 n8 => ?_
    have e37 := e36.trans e7
    have g8 := k8.at (e7.at g6) (fun e => by have := nl _ e; have := hsl.lt e; have := e4.le; omega)
    have hl8 := load_all g8 hB.size
    have hB4 : H8[b4]? = some (.cells #[.int .i64 (fs.length : Int), sd] 72) := k8.at (e37.at g3) fun e => by have := nl _ e; omega
    have hsd8 : Sv 75 1025 H8 sd ((ldP (fs.take i)).map heldC) := (hsd.ext e37).kp k8 fun b hb e => (nd b hb).2 e
    have nl8 : ∀ b, blkOf sl' = some b → b4 < b := fun b hb => by
      rcases n8 b hb with h | h
      · exact nl b h
      · have := e37.le; omega
    have nd8 : ∀ b, blkOf sd = some b → b4 < b ∧ blkOf sl' ≠ some b := fun b hb => ⟨(nd b hb).1, fun e => by
      rcases n8 b e with h | h
      · exact (nd b hb).2 h
      · have := hsd.lt hb; have := e37.le; omega⟩
    have e08 : Ext H H8 := ⟨by have := e3.le; have := e37.le; have := k8.le; omega, fun b hb => by
      have h3 := e3.le
      rw [k8.same b (by have := e37.le; omega) (fun e => by have := nl b e; omega), e37.same b (by omega), e3.same b hb]⟩
    have l8 : b4 < H8.size := by have := e37.le; have := k8.le; omega
    simp only [hl8, Pu_some, buildB, neZ_iff hB, Ite_dec]
    have hsl9 : Sv 33 1024 H8 sl' ((fs.take (i + 1)).map filB) := by rw [take_one hx, List.map_append, List.map_singleton, hdx]; exact hsl8
    have htl : (fs.take i).length = i := by rw [List.length_take]; omega
    refine ⟨fun hne => ?_, fun heq => ?_⟩
    · simp only [addr_ptr, Nat.zero_add, load_cell hB4, Pu_some]
      rw [show (#[Value.int .i64 (fs.length : Int), sd] : Array Value)[1]? = some sd from rfl, Pu_some, build_held hB, Pu_some, newS_one (by rw [qH.2.1]; decide) (by rw [qH.2.1]; decide) (by rw [cells_agg, heldC_size hB, qH.2.1]), Pu_some]
      refine newS_i fun b9 H9 hb9 e9 t9 g9 => ?_
      have hsd9 := hsd8.ext e9
      have hll := ldP_len (fs.take i)
      refine app_many (us := [heldC (i, d)]) qH.1 qH.2.1 qH.2.2.1 (by rw [qH.2.2.2]; decide) hsd9 (Sv.single g9 (heldC_size (x := ((i : Int), d)) hB)) (fun u hu => by have := List.mem_singleton.1 hu; subst this; exact heldC_ok (x := ((i : Int), d)) hB) (by rw [List.length_map, qH.2.2.2]; simp only [List.length_cons, List.length_nil]; omega) fun sd' H10 hsd10 k10 n10 => ?_
      have g10 := k10.at (e9.at hB4) fun e => by have := (nd8 _ e).1; omega
      refine store_i g10 (by simp) hsd10.one.2 hsd10.one.1 fun H11 k11 t11 g11 => ?_
      have g11 : H11[b4]? = some (.cells #[.int .i64 (fs.length : Int), sd'] 72) := g11
      simp only [binE_add, Pu_some]
      rw [i64wrap_id (by omega) (by omega)]
      have nd10 : ∀ b, blkOf sd' = some b → b4 < b ∧ blkOf sl' ≠ some b := fun b hb => by
        rcases n10 b hb with h | h
        · exact nd8 b h
        · have := e9.le; exact ⟨by omega, fun e => by have := hsl9.lt e; omega⟩
      refine ⟨⟨i + 1, sd', rfl, by omega, ?_, ?_, g11, ?_, ?_, nl8, nd10⟩, by show ((fs.length : Int) - (i + 1)).toNat < ((fs.length : Int) - i).toNat; omega⟩
      · refine ⟨by have := e08.le; have := e9.le; have := k10.le; omega, fun b hb => ?_⟩
        have h8 := e08.le
        rw [k11.same b (by have := e9.le; have := k10.le; omega) (by omega), k10.same b (by have := e9.le; omega) (fun e => by have := (nd8 b e).1; omega), e9.same b (by omega), e08.same b hb]
      · have := e9.le; have := k10.le; omega
      · exact ((hsl9.ext e9).kp k10 fun b hb e => (nd8 b e).2 hb).kp k11 fun b hb e => by have := nl8 b hb; omega
      · rw [take_one hx, ldP_snoc, hdx, if_pos hne, List.map_append, htl]
        exact hsd10.kp k11 fun b hb e => by have := (nd10 b hb).1; omega
    · simp only [binE_add, Pu_some]
      rw [i64wrap_id (by omega) (by omega)]
      refine ⟨⟨i + 1, sd, rfl, by omega, e08, l8, hB4, hsl9, ?_, nl8, nd8⟩, by show ((fs.length : Int) - (i + 1)).toNat < ((fs.length : Int) - i).toNat; omega⟩
      rw [take_one hx, ldP_snoc, hdx, if_neg heq, List.append_nil]; exact hsd8
  · have hie : i = fs.length := by omega
    subst hie
    rw [List.take_length] at hsl hsd
    have hlm : loadE (some (some 2)) (.pointer (some ⟨b4, 0, none⟩)) H3 = some (.agg #[.int .i64 (fs.length : Int), sd]) := load_all g3 rfl
    simp only [hlm, Pu_some]
    refine disk_load (by omega) (by omega) hsd (ldP_ok fs) (by have := ldP_len fs; omega) fun H12 p e12 hd => ?_
    simp only [extractE, List.getElem?_toArray, List.getElem?_cons_zero, List.getElem?_cons_succ, Pu_some]
    refine newDisk_ok (hsl.ext e12) (fun x hx => by obtain ⟨y, _, rfl⟩ := List.mem_map.1 hx; exact filB_is y) (by rw [List.length_map]; omega) fun H13 r s1 s2 e13 gr hs1 hs2 hr0 hr1 hr2 => ?_
    rw [neX_ptr undDk]
    simp only [Pu_some, Ite_true, binE_eql, decide_true]
    refine k H13 p r s1 s2 _ (e3.trans (e12.trans e13)) (hd.ext e13) (fun b hb => ?_) gr hs1 hs2 ?_ hr1 hr2
    · have := e3.le; exact ⟨by omega, by omega⟩
    · have := e3.le; have := e12.le; omega
end
end Go.Vc
