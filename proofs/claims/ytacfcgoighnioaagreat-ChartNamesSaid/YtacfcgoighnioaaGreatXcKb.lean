/- Xc, part Kb: frames and regions, run. -/
import Derived.Test.YtacfcgoighnioaaGreatXcK
import Derived.Test.YtacfcgoighnioaaGreatVcR
import Derived.LoopNIn
set_option linter.unusedVariables false
set_option linter.unusedSectionVars false
set_option linter.unusedSimpArgs false
namespace Go.Xc
open Go.Vc
variable [Sites]

/-! ### Frames -/
def cvS : Value → CV
  | .int k n => .int k n
  | .bool b => .bool b
  | .string s => .str s
  | .pointer none => .nilp
  | .slice none 0 0 => .nils
  | .map none => .nilm
  | .nilFunc => .nilf
  | _ => .junk
theorem cvS_ok (m : M) (v : Value) : Vrel m (cvS v) v := by
  unfold cvS
  split <;> first | rfl | trivial
def packL : List Value → Option (List CV)
  | [] => some []
  | v :: l => (match toP (cvS v), packL l with
    | some [p], some r => some (consP p r)
    | _, _ => none)
theorem packL_ok (m : M) : ∀ {l : List Value} {ps : List CV}, packL l = some ps → Crel m ps l
  | [], ps, h => by simp only [packL, Option.some.injEq] at h; subst h; rfl
  | v :: l, ps, h => by
    unfold packL at h
    split at h
    · rename_i p r h1 h2
      injection h with h; subst h
      refine consP_ok ?_
      have hv := toP_ok (cvS_ok m v) h1
      have hl := packL_ok m h2
      have hone : v.cells.toList = [v] := by
        have : ∀ c, v = .agg c → False := fun c hc => by subst hc; simp [cvS, toP, scalar] at h1
        cases v <;> first | rfl | exact absurd rfl (this _)
      rw [hone] at hv
      rcases Crel_scalar hv with ⟨n, x, rfl⟩ | hs
      · obtain ⟨l', h3, h4⟩ := hv
        simp only [Crel] at h4; subst h4
        rw [List.append_nil] at h3
        exact ⟨l, by rw [← h3]; rfl, hl⟩
      · rw [Crel_cons hs] at hv ⊢
        obtain ⟨u, l', h3, _, h4, _⟩ := hv
        injection h3 with h3 _
        subst h3
        exact ⟨v, l, rfl, hs, h4, hl⟩
    · cases h
def cvOf : Value → CV
  | .agg c => (match packL c.toList with | some ps => .agg ps | none => .junk)
  | v => cvS v
theorem cvOf_ok (m : M) (v : Value) : Vrel m (cvOf v) v := by
  unfold cvOf
  split
  · rename_i c
    split
    · rename_i ps h; exact ⟨c, rfl, packL_ok m h⟩
    · trivial
  · exact cvS_ok m v

def slotX (fr : List CV) (k : Nat) : CV := fr.getD k (.tup [])
def evX (fr : List CV) : Operand → CV
  | .tmp t => slotX fr t
  | .const v => cvOf v
  | .global _ => .junk
  | .func f => .fn f [] []
def putX (fr : List CV) (d : Option Tmp) (v : CV) : List CV :=
  match d with
  | some d => fr.set d v
  | none => fr

theorem Vrels_len {m : M} : ∀ {xs : List CV} {l : List Value}, Vrels m xs l → xs.length = l.length
  | [], l, h => by simp only [Vrels] at h; subst h; rfl
  | x :: xs, l, h => by obtain ⟨v, l', rfl, _, h2⟩ := h; simp [Vrels_len h2]
theorem Vrels_of {m : M} : ∀ {xs : List CV} {l : List Value}, xs.length = l.length → (∀ (k : Nat) x, xs[k]? = some x → ∃ v, l[k]? = some v ∧ Vrel m x v) → Vrels m xs l
  | [], [], _, _ => rfl
  | [], _ :: _, h, _ => by simp at h
  | _ :: _, [], h, _ => by simp at h
  | x :: xs, v :: l, hl, h => by
    obtain ⟨u, h1, h2⟩ := h 0 x rfl
    simp only [List.getElem?_cons_zero, Option.some.injEq] at h1
    subst h1
    exact ⟨v, l, rfl, h2, Vrels_of (by simpa using hl) fun k y hk => by
      have := h (k + 1) y (by simpa using hk)
      simpa using this⟩
theorem slot_rel {m : M} {fr : List CV} {frv : Fr} (h : Vrels m fr frv) (k : Nat) : Vrel m (slotX fr k) (slot frv k) := by
  unfold slotX slot
  rw [List.getD_eq_getElem?_getD, List.getD_eq_getElem?_getD]
  cases hk : fr[k]? with
  | some x =>
    obtain ⟨v, h1, h2⟩ := Vrels_get h hk
    rw [h1]; exact h2
  | none =>
    have hl := Vrels_len h
    have : frv[k]? = none := by
      rw [List.getElem?_eq_none_iff] at hk ⊢; omega
    rw [this]; exact unit_rel m
theorem ev_rel {m : M} {fr : List CV} {frv : Fr} (h : Vrels m fr frv) : RhoRel m (evX fr) (ev frv) := by
  intro o
  cases o with
  | tmp t => exact slot_rel h t
  | const v => exact cvOf_ok m v
  | global g => trivial
  | func f => exact ⟨#[], #[], rfl, rfl, rfl⟩
theorem set_rel {m : M} {fr : List CV} {frv : Fr} (h : Vrels m fr frv) (d : Nat) {x : CV} {v : Value} (hx : Vrel m x v) : Vrels m (fr.set d x) (frv.set d v) := by
  have hl := Vrels_len h
  refine Vrels_of (by simp [hl]) fun k y hk => ?_
  rw [List.getElem?_set] at hk ⊢
  by_cases hd : d = k
  · subst hd
    rw [if_pos rfl] at hk ⊢
    split at hk
    · rename_i hlt
      injection hk with hk; subst hk
      exact ⟨v, by rw [if_pos (by omega)], hx⟩
    · cases hk
  · rw [if_neg hd] at hk ⊢
    exact Vrels_get h hk
theorem put_rel {m : M} {fr : List CV} {frv : Fr} (h : Vrels m fr frv) (d : Option Tmp) {x : CV} {v : Value} (hx : Vrel m x v) : Vrels m (putX fr d x) (putF frv d v) := by
  cases d with
  | none => exact h
  | some d => exact set_rel h d hx

def AgreeX (W : List Nat) (fr fr' : List CV) : Prop := fr'.length = fr.length ∧ ∀ k, k ∉ W → fr'[k]? = fr[k]?
theorem AgreeX.refl (W : List Nat) (fr : List CV) : AgreeX W fr fr := ⟨rfl, fun _ _ => rfl⟩
theorem AgreeX.trans {W : List Nat} {a b c : List CV} (h : AgreeX W a b) (h' : AgreeX W b c) : AgreeX W a c := ⟨h'.1.trans h.1, fun k hk => (h'.2 k hk).trans (h.2 k hk)⟩
theorem AgreeX.mono {W W' : List Nat} {a b : List CV} (h : AgreeX W a b) (hs : ∀ k ∈ W, k ∈ W') : AgreeX W' a b := ⟨h.1, fun k hk => h.2 k fun hm => hk (hs k hm)⟩
theorem AgreeX.put {W : List Nat} {fr : List CV} {d : Option Tmp} {v : CV} (h : ∀ k, d = some k → k ∈ W) : AgreeX W fr (putX fr d v) := by
  cases d with
  | none => exact AgreeX.refl W fr
  | some d => exact ⟨by simp [putX], fun k hk => by
      have : d ≠ k := fun e => hk (e ▸ h d rfl)
      simp [putX, List.getElem?_set, this]⟩
theorem set_sameX {fr : List CV} {d : Nat} {b : Bool} (h : slotX fr d = .bool b) : fr.set d (.bool b) = fr := by
  unfold slotX at h
  apply List.ext_getElem?
  intro j
  rw [List.getElem?_set]
  by_cases hj : d = j
  · subst hj
    rw [List.getD_eq_getElem?_getD] at h
    cases hk : fr[d]? with
    | some x =>
      rw [hk] at h
      have hlt : d < fr.length := by
        rcases Nat.lt_or_ge d fr.length with h1 | h1
        · exact h1
        · rw [List.getElem?_eq_none h1] at hk; cases hk
      simp only [Option.getD_some] at h
      simp [hlt, h]
    | none => rw [hk] at h; cases h
  · simp [hj]

/-! ### Regions -/
section
variable (P : Program) (qf : FuncId → Bool) (Z : List (Nat × CV)) (C : List (Nat × Ex))
noncomputable def xOps (dr q : Bool) (all : Array Oper) : List Oper → List Nat → List CV → CH → (List CV → CH → Bool) → Bool
  | [], _, fr, h, K => K fr h
  | o :: rest, sk, fr, h, K =>
    match o.guard with
    | none => xOp P qf Z C dr q o (evX fr) h fun v h' => xOps dr q all rest sk (putX fr o.dst v) h' K
    | some (j, want) =>
      match (all[j]?).bind (·.dst) with
      | none => false
      | some d =>
        ifX (sk.contains d)
          (match slotX fr d with
           | .tup _ => xOps dr q all rest (addSk sk o.dst) (putX fr o.dst (.tup [])) h K
           | _ => false)
          (xIte (slotX fr d)
            (ifX want (xOp P qf Z C dr q o (evX (fr.set d (.bool true))) h fun v h' => xOps dr q all rest sk (putX (fr.set d (.bool true)) o.dst v) h' K)
              (xOps dr q all rest (addSk sk o.dst) (putX (fr.set d (.bool true)) o.dst (.tup [])) h K))
            (ifX want (xOps dr q all rest (addSk sk o.dst) (putX (fr.set d (.bool false)) o.dst (.tup [])) h K)
              (xOp P qf Z C dr q o (evX (fr.set d (.bool false))) h fun v h' => xOps dr q all rest sk (putX (fr.set d (.bool false)) o.dst v) h' K)))
noncomputable def xReg (ops : Array Oper) (dr : Bool) (fr : List CV) (h : CH) (K : List CV → CH → Bool) : Bool :=
  match dr with
  | false => ifX (noSelB ops) (xOps P qf Z C false false ops ops.toList [] fr h K) false
  | true => ifX (P.follows .mixedOrders && drawB ops (clAt P qf true false ops)) (xOps P qf Z C true (anyQ qf ops) ops ops.toList [] fr h K)
    (ifX (P.follows .mixedOrders && drawB ops (clAt P qf true true ops)) (xOps P qf Z C true true ops ops.toList [] fr h K) false)
end

/-- What is asked of the way on, by the frame. -/
def FinF (H0 : Hp) (m : M) (h : CH) (H : Hp) (fr' : List CV) (h' : CH) (K : Fr → Hp → Prop) : Prop :=
  ∀ m' H' frv', Rel H0 m' h' H' → Stp h.wp m H m' H' → Vrels m' fr' frv' → K frv' H'

theorem xOps_ok {P : Program} {qf : FuncId → Bool} {Z : List (Nat × CV)} {C : List (Nat × Ex)} (he : EnvOk P Z C) {dr q : Bool} {all : Array Oper} : ∀ {l : List Oper} {sk : List Nat} {fr : List CV} {h : CH} {K : List CV → CH → Bool}, xOps P qf Z C dr q all l sk fr h K = true →
    ∃ fr' h', K fr' h' = true ∧ h'.wp = h.wp ∧ AgreeX (dstsOf l) fr fr' ∧ ∀ {H0 m H frv} {Kv : Fr → Hp → Prop}, Rel H0 m h H → Vrels m fr frv → FinF H0 m h H fr' h' Kv → vcOps P qf dr q all l sk frv H Kv
  | [], sk, fr, h, K, hk => ⟨fr, h, hk, rfl, AgreeX.refl _ _, fun {H0 m H frv Kv} hr hv hf => by
      unfold vcOps
      cases q
      · exact hf _ _ _ hr (Stp.refl _ _ _) hv
      · exact fun H' hx => hf _ _ _ (hr.ext' hx) (Stp.ext hx) hv⟩
  | o :: rest, sk, fr, h, K, hk => by
    have hWr : ∀ d ∈ dstsOf rest, d ∈ dstsOf (o :: rest) := fun d hd => by
      unfold dstsOf at *; rw [List.filterMap_cons]; split
      · exact hd
      · exact List.mem_cons_of_mem _ hd
    have hWo : ∀ d, o.dst = some d → d ∈ dstsOf (o :: rest) := fun d hdd => by unfold dstsOf; rw [List.filterMap_cons, hdd]; exact List.mem_cons_self
    have run : ∀ {fr : List CV}, (xOp P qf Z C dr q o (evX fr) h fun v h' => xOps P qf Z C dr q all rest sk (putX fr o.dst v) h' K) = true →
        ∃ fr' h', K fr' h' = true ∧ h'.wp = h.wp ∧ AgreeX (dstsOf (o :: rest)) fr fr' ∧ ∀ {H0 m H frv} {Kv : Fr → Hp → Prop}, Rel H0 m h H → Vrels m fr frv → FinF H0 m h H fr' h' Kv → vcOp P qf dr q o (ev frv) H fun v H' => vcOps P qf dr q all rest sk (putF frv o.dst v) H' Kv := by
      intro fr hk
      obtain ⟨z, h1, k1, w1, s1⟩ := xOp_ok he hk
      obtain ⟨fr', h2, k2, w2, a2, s2⟩ := xOps_ok he k1
      refine ⟨fr', h2, k2, w2.trans w1, (AgreeX.put hWo).trans (a2.mono hWr), fun {H0 m H frv Kv} hr hv hf => ?_⟩
      refine s1 hr (ev_rel hv) fun m' H' v hr' hs' hv' => ?_
      refine s2 hr' (put_rel (Vrels.mono hs'.pre _ hv) o.dst hv') fun m'' H'' frv' hr'' hs'' hv'' => ?_
      rw [w1] at hs''
      exact hf _ _ _ hr'' (hs'.trans hs'') hv''
    have skip : ∀ {fr : List CV}, xOps P qf Z C dr q all rest (addSk sk o.dst) (putX fr o.dst (.tup [])) h K = true →
        ∃ fr' h', K fr' h' = true ∧ h'.wp = h.wp ∧ AgreeX (dstsOf (o :: rest)) fr fr' ∧ ∀ {H0 m H frv} {Kv : Fr → Hp → Prop}, Rel H0 m h H → Vrels m fr frv → FinF H0 m h H fr' h' Kv → vcOps P qf dr q all rest (addSk sk o.dst) (putF frv o.dst undef) H Kv := by
      intro fr hk
      obtain ⟨fr', h2, k2, w2, a2, s2⟩ := xOps_ok he hk
      exact ⟨fr', h2, k2, w2, (AgreeX.put hWo).trans (a2.mono hWr), fun {H0 m H frv Kv} hr hv hf => s2 hr (put_rel hv o.dst (unit_rel m)) hf⟩
    unfold xOps at hk
    unfold vcOps
    cases hg : o.guard with
    | none =>
      simp only [hg] at hk ⊢
      exact run hk
    | some g =>
      obtain ⟨j, want⟩ := g
      simp only [hg] at hk ⊢
      cases hjd : (all[j]?).bind (·.dst) with
      | none => simp only [hjd] at hk; cases hk
      | some d =>
        simp only [hjd] at hk ⊢
        rw [ifX_eq] at hk
        by_cases hsk : sk.contains d = true
        · rw [if_pos hsk] at hk
          simp only [if_pos hsk]
          split at hk
          · rename_i vs hsl
            obtain ⟨fr', h2, k2, w2, a2, s2⟩ := skip hk
            refine ⟨fr', h2, k2, w2, a2, fun {H0 m H frv Kv} hr hv hf => ?_⟩
            have hs := slot_rel hv d
            rw [hsl] at hs
            obtain ⟨c, hc, _⟩ := hs
            rw [hc]
            exact s2 hr hv hf
          · cases hk
        · rw [if_neg hsk] at hk
          simp only [if_neg hsk]
          unfold xIte at hk
          split at hk
          · rename_i hsl
            rw [set_sameX hsl] at hk
            have hval : ∀ {m frv}, Vrels m fr frv → slot frv d = .bool true ∧ frv.set d (.bool true) = frv := fun {m frv} hv => by
              have hs := slot_rel hv d
              rw [hsl] at hs
              exact ⟨hs, set_same hs (by simp [undef])⟩
            cases want
            · simp only [ifX_eq, Bool.false_eq_true, if_false] at hk ⊢
              obtain ⟨fr', h2, k2, w2, a2, s2⟩ := skip hk
              refine ⟨fr', h2, k2, w2, a2, fun {H0 m H frv Kv} hr hv hf => ?_⟩
              obtain ⟨e1, e2⟩ := hval hv
              rw [e1, Ite_true, e2]
              exact s2 hr hv hf
            · simp only [ifX_eq, if_true] at hk ⊢
              obtain ⟨fr', h2, k2, w2, a2, s2⟩ := run hk
              refine ⟨fr', h2, k2, w2, a2, fun {H0 m H frv Kv} hr hv hf => ?_⟩
              obtain ⟨e1, e2⟩ := hval hv
              rw [e1, Ite_true, e2]
              exact s2 hr hv hf
          · rename_i hsl
            rw [set_sameX hsl] at hk
            have hval : ∀ {m frv}, Vrels m fr frv → slot frv d = .bool false ∧ frv.set d (.bool false) = frv := fun {m frv} hv => by
              have hs := slot_rel hv d
              rw [hsl] at hs
              exact ⟨hs, set_same hs (by simp [undef])⟩
            cases want
            · simp only [ifX_eq, Bool.false_eq_true, if_false] at hk ⊢
              obtain ⟨fr', h2, k2, w2, a2, s2⟩ := run hk
              refine ⟨fr', h2, k2, w2, a2, fun {H0 m H frv Kv} hr hv hf => ?_⟩
              obtain ⟨e1, e2⟩ := hval hv
              rw [e1, Ite_false, e2]
              exact s2 hr hv hf
            · simp only [ifX_eq, if_true] at hk ⊢
              obtain ⟨fr', h2, k2, w2, a2, s2⟩ := skip hk
              refine ⟨fr', h2, k2, w2, a2, fun {H0 m H frv Kv} hr hv hf => ?_⟩
              obtain ⟨e1, e2⟩ := hval hv
              rw [e1, Ite_false, e2]
              exact s2 hr hv hf
          · cases hk

section
variable (P : Program) (qf : FuncId → Bool) (Z : List (Nat × CV)) (C : List (Nat × Ex))
noncomputable def xA (dr q : Bool) (all : Array Oper) : List Oper → List Nat → List CV → CH → (List Nat → List CV → CH → Bool) → Bool
  | [], sk, fr, h, K => K sk fr h
  | o :: rest, sk, fr, h, K =>
    match o.guard with
    | none => xOp P qf Z C dr q o (evX fr) h fun v h' => xA dr q all rest sk (putX fr o.dst v) h' K
    | some (j, want) =>
      match (all[j]?).bind (·.dst) with
      | none => false
      | some d =>
        ifX (sk.contains d)
          (match slotX fr d with
           | .tup _ => xA dr q all rest (addSk sk o.dst) (putX fr o.dst (.tup [])) h K
           | _ => false)
          (xIte (slotX fr d)
            (ifX want (xOp P qf Z C dr q o (evX (fr.set d (.bool true))) h fun v h' => xA dr q all rest sk (putX (fr.set d (.bool true)) o.dst v) h' K)
              (xA dr q all rest (addSk sk o.dst) (putX (fr.set d (.bool true)) o.dst (.tup [])) h K))
            (ifX want (xA dr q all rest (addSk sk o.dst) (putX (fr.set d (.bool false)) o.dst (.tup [])) h K)
              (xOp P qf Z C dr q o (evX (fr.set d (.bool false))) h fun v h' => xA dr q all rest sk (putX (fr.set d (.bool false)) o.dst v) h' K)))
end
theorem xA_ok {P : Program} {qf : FuncId → Bool} {Z : List (Nat × CV)} {C : List (Nat × Ex)} (he : EnvOk P Z C) {dr q : Bool} {all : Array Oper} : ∀ {l : List Oper} {sk : List Nat} {fr : List CV} {h : CH} {K : List Nat → List CV → CH → Bool}, xA P qf Z C dr q all l sk fr h K = true →
    ∃ sk' fr' h', K sk' fr' h' = true ∧ h'.wp = h.wp ∧ AgreeX (dstsOf l) fr fr' ∧ ∀ {H0 m H frv} {Kv : List Nat → Fr → Hp → Prop}, Rel H0 m h H → Vrels m fr frv → FinF H0 m h H fr' h' (Kv sk') → vcA P qf dr q all l sk frv H Kv
  | [], sk, fr, h, K, hk => ⟨sk, fr, h, hk, rfl, AgreeX.refl _ _, fun {H0 m H frv Kv} hr hv hf => by
      unfold vcA
      exact hf _ _ _ hr (Stp.refl _ _ _) hv⟩
  | o :: rest, sk, fr, h, K, hk => by
    have hWr : ∀ d ∈ dstsOf rest, d ∈ dstsOf (o :: rest) := fun d hd => by
      unfold dstsOf at *; rw [List.filterMap_cons]; split
      · exact hd
      · exact List.mem_cons_of_mem _ hd
    have hWo : ∀ d, o.dst = some d → d ∈ dstsOf (o :: rest) := fun d hdd => by unfold dstsOf; rw [List.filterMap_cons, hdd]; exact List.mem_cons_self
    have run : ∀ {fr : List CV}, (xOp P qf Z C dr q o (evX fr) h fun v h' => xA P qf Z C dr q all rest sk (putX fr o.dst v) h' K) = true →
        ∃ sk' fr' h', K sk' fr' h' = true ∧ h'.wp = h.wp ∧ AgreeX (dstsOf (o :: rest)) fr fr' ∧ ∀ {H0 m H frv} {Kv : List Nat → Fr → Hp → Prop}, Rel H0 m h H → Vrels m fr frv → FinF H0 m h H fr' h' (Kv sk') → vcOp P qf dr q o (ev frv) H fun v H' => vcA P qf dr q all rest sk (putF frv o.dst v) H' Kv := by
      intro fr hk
      obtain ⟨z, h1, k1, w1, s1⟩ := xOp_ok he hk
      obtain ⟨sk', fr', h2, k2, w2, a2, s2⟩ := xA_ok he k1
      refine ⟨sk', fr', h2, k2, w2.trans w1, (AgreeX.put hWo).trans (a2.mono hWr), fun {H0 m H frv Kv} hr hv hf => ?_⟩
      refine s1 hr (ev_rel hv) fun m' H' v hr' hs' hv' => ?_
      refine s2 hr' (put_rel (Vrels.mono hs'.pre _ hv) o.dst hv') fun m'' H'' frv' hr'' hs'' hv'' => ?_
      rw [w1] at hs''
      exact hf _ _ _ hr'' (hs'.trans hs'') hv''
    have skip : ∀ {fr : List CV}, xA P qf Z C dr q all rest (addSk sk o.dst) (putX fr o.dst (.tup [])) h K = true →
        ∃ sk' fr' h', K sk' fr' h' = true ∧ h'.wp = h.wp ∧ AgreeX (dstsOf (o :: rest)) fr fr' ∧ ∀ {H0 m H frv} {Kv : List Nat → Fr → Hp → Prop}, Rel H0 m h H → Vrels m fr frv → FinF H0 m h H fr' h' (Kv sk') → vcA P qf dr q all rest (addSk sk o.dst) (putF frv o.dst undef) H Kv := by
      intro fr hk
      obtain ⟨sk', fr', h2, k2, w2, a2, s2⟩ := xA_ok he hk
      exact ⟨sk', fr', h2, k2, w2, (AgreeX.put hWo).trans (a2.mono hWr), fun {H0 m H frv Kv} hr hv hf => s2 hr (put_rel hv o.dst (unit_rel m)) hf⟩
    unfold xA at hk
    unfold vcA
    cases hg : o.guard with
    | none =>
      simp only [hg] at hk ⊢
      exact run hk
    | some g =>
      obtain ⟨j, want⟩ := g
      simp only [hg] at hk ⊢
      cases hjd : (all[j]?).bind (·.dst) with
      | none => simp only [hjd] at hk; cases hk
      | some d =>
        simp only [hjd] at hk ⊢
        rw [ifX_eq] at hk
        by_cases hsk : sk.contains d = true
        · rw [if_pos hsk] at hk
          simp only [if_pos hsk]
          split at hk
          · rename_i vs hsl
            obtain ⟨sk', fr', h2, k2, w2, a2, s2⟩ := skip hk
            refine ⟨sk', fr', h2, k2, w2, a2, fun {H0 m H frv Kv} hr hv hf => ?_⟩
            have hs := slot_rel hv d
            rw [hsl] at hs
            obtain ⟨c, hc, _⟩ := hs
            rw [hc]
            exact s2 hr hv hf
          · cases hk
        · rw [if_neg hsk] at hk
          simp only [if_neg hsk]
          unfold xIte at hk
          split at hk
          · rename_i hsl
            rw [set_sameX hsl] at hk
            have hval : ∀ {m frv}, Vrels m fr frv → slot frv d = .bool true ∧ frv.set d (.bool true) = frv := fun {m frv} hv => by
              have hs := slot_rel hv d
              rw [hsl] at hs
              exact ⟨hs, set_same hs (by simp [undef])⟩
            cases want
            · simp only [ifX_eq, Bool.false_eq_true, if_false] at hk ⊢
              obtain ⟨sk', fr', h2, k2, w2, a2, s2⟩ := skip hk
              refine ⟨sk', fr', h2, k2, w2, a2, fun {H0 m H frv Kv} hr hv hf => ?_⟩
              obtain ⟨e1, e2⟩ := hval hv
              rw [e1, Ite_true, e2]
              exact s2 hr hv hf
            · simp only [ifX_eq, if_true] at hk ⊢
              obtain ⟨sk', fr', h2, k2, w2, a2, s2⟩ := run hk
              refine ⟨sk', fr', h2, k2, w2, a2, fun {H0 m H frv Kv} hr hv hf => ?_⟩
              obtain ⟨e1, e2⟩ := hval hv
              rw [e1, Ite_true, e2]
              exact s2 hr hv hf
          · rename_i hsl
            rw [set_sameX hsl] at hk
            have hval : ∀ {m frv}, Vrels m fr frv → slot frv d = .bool false ∧ frv.set d (.bool false) = frv := fun {m frv} hv => by
              have hs := slot_rel hv d
              rw [hsl] at hs
              exact ⟨hs, set_same hs (by simp [undef])⟩
            cases want
            · simp only [ifX_eq, Bool.false_eq_true, if_false] at hk ⊢
              obtain ⟨sk', fr', h2, k2, w2, a2, s2⟩ := run hk
              refine ⟨sk', fr', h2, k2, w2, a2, fun {H0 m H frv Kv} hr hv hf => ?_⟩
              obtain ⟨e1, e2⟩ := hval hv
              rw [e1, Ite_false, e2]
              exact s2 hr hv hf
            · simp only [ifX_eq, if_true] at hk ⊢
              obtain ⟨sk', fr', h2, k2, w2, a2, s2⟩ := skip hk
              refine ⟨sk', fr', h2, k2, w2, a2, fun {H0 m H frv Kv} hr hv hf => ?_⟩
              obtain ⟨e1, e2⟩ := hval hv
              rw [e1, Ite_false, e2]
              exact s2 hr hv hf
          · cases hk


/-- What is deferred: marks of loops over functions, laid since, that no number means; and what was deferred before. -/
def Dfs (tp : Bool) (m : M) (n : Nat) (H : Hp) (ds ds0 : List Deferred) : Prop :=
  ∃ Ds : List Nat, ds = Ds.map markD ++ ds0 ∧ (Ds.Nodup ∧ (tp = false → Ds = [])) ∧ ∀ D ∈ Ds, H[D]? = some (.deferred (some [])) ∧ n ≤ D ∧ ∀ (k : Nat) (e : Nat × Nat), m[k]? = some e → e.1 ≠ D
theorem Dfs.refl (tp : Bool) (m : M) (n : Nat) (H : Hp) (ds : List Deferred) : Dfs tp m n H ds ds := ⟨[], rfl, ⟨List.nodup_nil, fun _ => rfl⟩, fun D hD => by cases hD⟩
theorem Dfs.of_eq {tp : Bool} {m : M} {n : Nat} {H : Hp} {ds ds0 : List Deferred} (h : ds = ds0) : Dfs tp m n H ds ds0 := by rw [h]; exact Dfs.refl _ _ _ _ _
theorem Dfs.trans {tp : Bool} {wp : Nat} {m1 m2 : M} {n : Nat} {H1 H2 : Hp} {ds ds1 ds0 : List Deferred} (h : Dfs tp m1 n H1 ds1 ds0) (hs : Stp wp m1 H1 m2 H2) (hn : n ≤ H1.size) (h' : Dfs tp m2 H1.size H2 ds ds1) : Dfs tp m2 n H2 ds ds0 := by
  obtain ⟨D1, rfl, ⟨q1, q0⟩, q2⟩ := h
  obtain ⟨D2, rfl, ⟨r1, r0⟩, r2⟩ := h'
  have lt : ∀ D ∈ D1, D < H1.size := fun D hD => Vc.lt_of_block (q2 D hD).1
  refine ⟨D2 ++ D1, by simp, ⟨?_, fun ht => by rw [q0 ht, r0 ht]; rfl⟩, fun D hD => ?_⟩
  · rw [List.nodup_append]
    refine ⟨r1, q1, fun a ha b hb e => ?_⟩
    subst e
    have := (r2 a ha).2.1
    have := lt a hb
    omega
  · rcases List.mem_append.1 hD with hD | hD
    · obtain ⟨h3, h4, h5⟩ := r2 D hD
      exact ⟨h3, by omega, h5⟩
    · obtain ⟨h3, h4, h5⟩ := q2 D hD
      have hl := lt D hD
      have hw : ¬ Wr m1 wp D := fun ⟨k, e, h6, _, h7⟩ => h5 k e h6 h7
      refine ⟨by rw [hs.kp.same D hl hw]; exact h3, h4, fun k e hk he => ?_⟩
      rcases hs.new k e hk with h6 | h6 | h6
      · exact h5 k e h6 he
      · omega
      · obtain ⟨j, d, h8, _, h9⟩ := h6
        exact h5 j d h8 (h9.trans he)

/-- What the run has come to. -/
def PostX (tp : Bool) (H0 : Hp) (m : M) (wp : Nat) (e : Exit) (fr' : List CV) (h' : CH) (a : Act) (w : World) : Exit → Act → World → Prop := fun e' a' w' =>
  e' = e ∧ ∃ m' frv', Rel H0 m' h' w'.heap ∧ Stp wp m w.heap m' w'.heap ∧ Vrels m' fr' frv' ∧ At a' frv' ∧ Dfs tp m' w.heap.size w'.heap a'.defers a.defers ∧ Sm w w'
/-- top: not within a round. -/
def SimC (P : Program) (top : Bool) (c : Code) (fr : List CV) (h : CH) (e : Exit) (fr' : List CV) (h' : CH) : Prop :=
  ∀ {H0 m frv a w} (r : Option Nat), (top = true → r = none) → Rel H0 m h w.heap → Vrels m fr frv → At a frv → c.wpIn (wideR r) 0 P (PostX top H0 m h.wp e fr' h' a w) a w

/-! ### Values that are the same -/
def sameI (n n' : Int) : Bool := match n, n' with | .ofNat a, .ofNat b => Nat.beq a b | .negSucc a, .negSucc b => Nat.beq a b | _, _ => false
theorem sameI_ok {n n' : Int} (h : sameI n n' = true) : n = n' := by
  unfold sameI at h
  split at h
  · rw [Nat.eq_of_beq_eq_true h]
  · rw [Nat.eq_of_beq_eq_true h]
  · cases h
mutual
def sameX : CV → CV → Bool
  | .int k n, y => (match y with | .int k' n' => decide (k = k') && sameI n n' | _ => false)
  | .bool b, y => (match y with | .bool b' => b == b' | _ => false)
  | .ptr k o, y => (match y with | .ptr k' o' => Nat.beq k k' && Nat.beq o o' | _ => false)
  | .nilp, y => (match y with | .nilp => true | _ => false)
  | .sl k o l c, y => (match y with | .sl k' o' l' c' => Nat.beq k k' && Nat.beq o o' && Nat.beq l l' && Nat.beq c c' | _ => false)
  | .nils, y => (match y with | .nils => true | _ => false)
  | .map k, y => (match y with | .map k' => Nat.beq k k' | _ => false)
  | .nilm, y => (match y with | .nilm => true | _ => false)
  | .nilf, y => (match y with | .nilf => true | _ => false)
  | .agg ps, y => (match y with | .agg qs => sameP ps qs | _ => false)
  | _, _ => false
def sameP : List CV → List CV → Bool
  | [], y => (match y with | [] => true | _ => false)
  | .bytes n x :: ps, y => (match y with | .bytes n' x' :: qs => Nat.beq n n' && Nat.beq x x' && sameP ps qs | _ => false)
  | p :: ps, y => (match y with | q :: qs => scalar p && sameX p q && sameP ps qs | _ => false)
end
theorem same_scalar {p q : CV} (hs : scalar p = true) (h : sameX p q = true) : scalar q = true := by
  cases p <;> cases q <;> first | rfl | (cases hs; done) | (simp [sameX] at h; done)
theorem sameP_cons {p : CV} {ps qs : List CV} (hs : scalar p = true) (h : sameP (p :: ps) qs = true) : ∃ q qs', qs = q :: qs' ∧ sameX p q = true ∧ sameP ps qs' = true := by
  cases qs with
  | nil =>
    have h' : sameP (p :: ps) [] = false := by cases p <;> first | (cases hs; done) | rfl
    rw [h'] at h; cases h
  | cons q qs =>
    have h' : sameP (p :: ps) (q :: qs) = (scalar p && sameX p q && sameP ps qs) := by cases p <;> first | (cases hs; done) | rfl
    rw [h'] at h
    simp only [Bool.and_eq_true] at h
    exact ⟨q, qs, rfl, h.1.2, h.2⟩
mutual
theorem same_ok : ∀ (z z' : CV), sameX z z' = true → ∀ {m m' : M}, Pre m m' → ∀ {v v' : Value}, Vrel m z v → Vrel m' z' v' → v = v'
  | .int k n, z', h, m, m', hp, v, v', hv, hv' => by
    simp only [sameX] at h
    split at h
    · simp only [Bool.and_eq_true, decide_eq_true_eq] at h
      simp only [Vrel] at hv hv'
      rw [hv, hv', h.1, sameI_ok h.2]
    · cases h
  | .bool b, z', h, m, m', hp, v, v', hv, hv' => by
    simp only [sameX] at h
    split at h
    · simp only [Vrel] at hv hv'
      rw [hv, hv', eq_of_beq h]
    · cases h
  | .ptr k o, z', h, m, m', hp, v, v', hv, hv' => by
    simp only [sameX] at h
    split at h
    · simp only [Bool.and_eq_true] at h
      obtain ⟨e, h1, rfl⟩ := hv
      obtain ⟨e', h2, rfl⟩ := hv'
      rw [← Nat.eq_of_beq_eq_true h.1, hp _ _ h1] at h2
      injection h2 with h2
      rw [h2, Nat.eq_of_beq_eq_true h.2]
    · cases h
  | .nilp, z', h, m, m', hp, v, v', hv, hv' => by
    simp only [sameX] at h
    split at h
    · simp only [Vrel] at hv hv'; rw [hv, hv']
    · cases h
  | .sl k o l c, z', h, m, m', hp, v, v', hv, hv' => by
    simp only [sameX] at h
    split at h
    · simp only [Bool.and_eq_true] at h
      obtain ⟨⟨⟨h0, h3⟩, h4⟩, h5⟩ := h
      obtain ⟨e, h1, rfl⟩ := hv
      obtain ⟨e', h2, rfl⟩ := hv'
      rw [← Nat.eq_of_beq_eq_true h0, hp _ _ h1] at h2
      injection h2 with h2
      rw [h2, Nat.eq_of_beq_eq_true h3, Nat.eq_of_beq_eq_true h4, Nat.eq_of_beq_eq_true h5]
    · cases h
  | .nils, z', h, m, m', hp, v, v', hv, hv' => by
    simp only [sameX] at h
    split at h
    · simp only [Vrel] at hv hv'; rw [hv, hv']
    · cases h
  | .map k, z', h, m, m', hp, v, v', hv, hv' => by
    simp only [sameX] at h
    split at h
    · obtain ⟨e, h1, rfl⟩ := hv
      obtain ⟨e', h2, rfl⟩ := hv'
      rw [← Nat.eq_of_beq_eq_true h, hp _ _ h1] at h2
      injection h2 with h2
      rw [h2]
    · cases h
  | .nilm, z', h, m, m', hp, v, v', hv, hv' => by
    simp only [sameX] at h
    split at h
    · simp only [Vrel] at hv hv'; rw [hv, hv']
    · cases h
  | .nilf, z', h, m, m', hp, v, v', hv, hv' => by
    simp only [sameX] at h
    split at h
    · simp only [Vrel] at hv hv'; rw [hv, hv']
    · cases h
  | .agg ps, z', h, m, m', hp, v, v', hv, hv' => by
    simp only [sameX] at h
    split at h
    · obtain ⟨c, rfl, h1⟩ := hv
      obtain ⟨c', rfl, h2⟩ := hv'
      rw [Array.toList_inj.1 (sameP_ok ps _ h hp h1 h2)]
    · cases h
  | .str _, z', h, _, _, _, _, _, _, _ | .so _ _ _ _, z', h, _, _, _, _, _, _, _ | .fn _ _ _, z', h, _, _, _, _, _, _, _ | .bytes _ _, z', h, _, _, _, _, _, _, _ | .tup _, z', h, _, _, _, _, _, _, _ | .yv _, z', h, _, _, _, _, _, _, _ | .junk, z', h, _, _, _, _, _, _, _ => by simp only [sameX] at h; cases h
theorem sameP_ok : ∀ (ps qs : List CV), sameP ps qs = true → ∀ {m m' : M}, Pre m m' → ∀ {l l' : List Value}, Crel m ps l → Crel m' qs l' → l = l'
  | [], qs, h, m, m', hp, l, l', hl, hl' => by
    simp only [sameP] at h
    split at h
    · simp only [Crel] at hl hl'; rw [hl, hl']
    · cases h
  | p :: ps, qs, h, m, m', hp, l, l', hl, hl' => by
    rcases Crel_scalar hl with ⟨n, x, rfl⟩ | hs
    · simp only [sameP] at h
      split at h
      · simp only [Bool.and_eq_true] at h
        obtain ⟨r, rfl, h1⟩ := hl
        obtain ⟨r', rfl, h2⟩ := hl'
        rw [sameP_ok ps _ h.2 hp h1 h2, Nat.eq_of_beq_eq_true h.1.1, Nat.eq_of_beq_eq_true h.1.2]
      · cases h
    · obtain ⟨q, qs', rfl, h1, h2⟩ := sameP_cons hs h
      have hq := same_scalar hs h1
      rw [Crel_cons hs] at hl
      rw [Crel_cons hq] at hl'
      obtain ⟨v, r, rfl, _, h3, h4⟩ := hl
      obtain ⟨v', r', rfl, _, h5, h6⟩ := hl'
      rw [same_ok p q h1 hp h3 h5, sameP_ok ps qs' h2 hp h4 h6]
end

/-! ### Two new blocks, whichever comes first -/
theorem xNew_raw {o : CO} {h : CH} {k : Nat → CH → Bool} (hk : xNew o h k = true) : ∃ h', k h.n h' = true ∧ h'.wp = h.wp ∧ h'.n = h.n + 1 ∧ h'.get h.n = some o ∧ ∀ j, j ≠ h.n → h'.get j = h.get j := by
  obtain ⟨t, n, wp⟩ := h
  unfold xNew at hk
  simp only [forceN_eq] at hk
  obtain ⟨t', h1, h2, h3⟩ := Tr.setK_ok hk
  exact ⟨.mk t' (n + 1) wp, h1, rfl, rfl, h2, h3⟩
theorem rel_two {H0 : Hp} {m : M} {h h2 : CH} {H HH : Hp} {o o' : CO} {O O' : Obj} {z z' x y : Nat} (hr : Rel H0 m h H) (hn : h2.n = h.n + 2) (hw : h2.wp = h.wp) (g1 : h2.get h.n = some o) (g2 : h2.get (h.n + 1) = some o') (g3 : ∀ j, j ≠ h.n → j ≠ h.n + 1 → h2.get j = h.get j)
    (ho : Orel m (x, z) o O) (ho' : Orel m (y, z') o' O') (hx : Ext H HH) (x1 : HH[x]? = some O) (y1 : HH[y]? = some O') (hxy : x ≠ y) (x2 : H.size ≤ x) (y2 : H.size ≤ y) :
    Rel H0 (m ++ [(x, z), (y, z')]) h2 HH ∧ Stp h.wp m H (m ++ [(x, z), (y, z')]) HH ∧ (m ++ [(x, z), (y, z')])[h.n]? = some (x, z) ∧ (m ++ [(x, z), (y, z')])[h.n + 1]? = some (y, z') := by
  have hl : m.length = h.n := hr.len
  have e1 : (m ++ [(x, z), (y, z')])[h.n]? = some (x, z) := by rw [List.getElem?_append_right (by omega)]; simp [hl]
  have e2 : (m ++ [(x, z), (y, z')])[h.n + 1]? = some (y, z') := by rw [List.getElem?_append_right (by omega)]; simp [hl]
  have hpre : Pre m (m ++ [(x, z), (y, z')]) := fun k e hk => by
    have hlt : k < m.length := by
      rcases Nat.lt_or_ge k m.length with h1 | h1
      · exact h1
      · rw [List.getElem?_eq_none h1] at hk; cases hk
    rw [List.getElem?_append_left hlt]; exact hk
  have hold : ∀ (j : Nat) (d : Nat × Nat), (m ++ [(x, z), (y, z')])[j]? = some d → (j = h.n ∧ d = (x, z)) ∨ (j = h.n + 1 ∧ d = (y, z')) ∨ (j ≠ h.n ∧ j ≠ h.n + 1 ∧ m[j]? = some d) := fun j d hd => by
    by_cases h1 : j = h.n
    · subst h1; rw [e1] at hd; injection hd with hd; exact .inl ⟨rfl, hd.symm⟩
    · by_cases h2 : j = h.n + 1
      · subst h2; rw [e2] at hd; injection hd with hd; exact .inr (.inl ⟨rfl, hd.symm⟩)
      · refine .inr (.inr ⟨h1, h2, ?_⟩)
        rw [List.getElem?_append] at hd
        split at hd
        · exact hd
        · rw [List.getElem?_eq_none (by simp; omega)] at hd; cases hd
  have hget : ∀ j w, h2.get j = some w → (j = h.n ∧ w = o) ∨ (j = h.n + 1 ∧ w = o') ∨ (j ≠ h.n ∧ j ≠ h.n + 1 ∧ h.get j = some w) := fun j w hj => by
    by_cases q1 : j = h.n
    · subst q1; rw [g1] at hj; injection hj with hj; exact .inl ⟨rfl, hj.symm⟩
    · by_cases q2 : j = h.n + 1
      · subst q2; rw [g2] at hj; injection hj with hj; exact .inr (.inl ⟨rfl, hj.symm⟩)
      · exact .inr (.inr ⟨q1, q2, by rw [← g3 j q1 q2]; exact hj⟩)
  have low : ∀ (q : Nat) (w : CO) (c : Nat × Nat), h.get q = some w → m[q]? = some c → c.1 < H.size := fun q w c hq hc => by
    obtain ⟨e', O2, h4, h5, _⟩ := hr.obj q w hq
    rw [hc] at h4; injection h4 with h4; subst h4
    exact Vc.lt_of_block h5
  refine ⟨⟨hr.ext.trans hx, by simp [hl, hn], fun k e hk => ?_, fun k w hkw => ?_, fun j k w w' d e hj hk hd he hde => ?_, fun k e hk => ?_⟩, ⟨hpre, by simp, hx.kp _, fun k e hk => ?_⟩, e1, e2⟩
  · rcases hold k e hk with ⟨_, rfl⟩ | ⟨_, rfl⟩ | ⟨_, _, h5⟩
    · exact Nat.le_trans hr.ext.le x2
    · exact Nat.le_trans hr.ext.le y2
    · exact hr.new k e h5
  · rcases hget k w hkw with ⟨rfl, rfl⟩ | ⟨rfl, rfl⟩ | ⟨_, _, h5⟩
    · exact ⟨_, O, e1, x1, ho.mono hpre⟩
    · exact ⟨_, O', e2, y1, ho'.mono hpre⟩
    · obtain ⟨e, O2, h6, h7, h8⟩ := hr.obj k w h5
      exact ⟨e, O2, hpre _ _ h6, hx.at h7, h8.mono hpre⟩
  · have mo : ∀ {q : Nat} {c : Nat × Nat}, q ≠ h.n → q ≠ h.n + 1 → (m ++ [(x, z), (y, z')])[q]? = some c → m[q]? = some c := fun q1 q2 hq => by
      rcases hold _ _ hq with ⟨h5, _⟩ | ⟨h5, _⟩ | ⟨_, _, h5⟩
      · exact absurd h5 q1
      · exact absurd h5 q2
      · exact h5
    rcases hget j w hj with ⟨rfl, rfl⟩ | ⟨rfl, rfl⟩ | ⟨j1, j2, j3⟩ <;> rcases hget k w' hk with ⟨rfl, rfl⟩ | ⟨rfl, rfl⟩ | ⟨k1, k2, k3⟩
    · rfl
    · rw [e1] at hd; rw [e2] at he; injection hd with hd; injection he with he; subst hd; subst he; exact absurd hde hxy
    · rw [e1] at hd; injection hd with hd; subst hd
      have := low _ _ _ k3 (mo k1 k2 he); simp only at hde; omega
    · rw [e2] at hd; rw [e1] at he; injection hd with hd; injection he with he; subst hd; subst he; exact absurd hde.symm hxy
    · rfl
    · rw [e2] at hd; injection hd with hd; subst hd
      have := low _ _ _ k3 (mo k1 k2 he); simp only at hde; omega
    · rw [e1] at he; injection he with he; subst he
      have := low _ _ _ j3 (mo j1 j2 hd); simp only at hde; omega
    · rw [e2] at he; injection he with he; subst he
      have := low _ _ _ j3 (mo j1 j2 hd); simp only at hde; omega
    · exact hr.inj j k w w' d e j3 k3 (mo j1 j2 hd) (mo k1 k2 he) hde
  · rcases hold k e hk with ⟨_, rfl⟩ | ⟨_, rfl⟩ | ⟨_, _, h5⟩
    · exact Vc.lt_of_block x1
    · exact Vc.lt_of_block y1
    · exact Nat.lt_of_lt_of_le (hr.low k e h5) hx.le
  · rcases hold k e hk with ⟨_, rfl⟩ | ⟨_, rfl⟩ | ⟨_, _, h5⟩
    · exact .inr (.inl x2)
    · exact .inr (.inl y2)
    · exact .inl h5

/-! ### Regions in another order than the text's -/
inductive Plan
  | ord (l : List Nat)
  | ld (t : Two)
  | f2 (t : Two)
  | two (t : Two)
  | tree (w : List Nat) (t : OT)
  | all (t : OT)
  | raw (w : List Nat)
def freeO (d : Option Tmp) (x : Operand) : Bool := match d, x with | some d, .tmp t => !(Nat.beq d t) | _, _ => true
theorem freeO_ev {d : Option Tmp} {x : Operand} (h : freeO d x = true) (fr : Fr) (v : Value) : ev (putF fr d v) x = ev fr x := by
  cases d with
  | none => rfl
  | some d =>
    cases x with
    | tmp t =>
      have hne : ¬ d = t := fun e => by subst e; simp [freeO] at h
      show slot (fr.set d v) t = slot fr t
      unfold slot
      rw [List.getD_eq_getElem?_getD, List.getD_eq_getElem?_getD, List.getElem?_set, if_neg hne]
    | const v => rfl
    | global g => rfl
    | func f => rfl
def unlike (d d' : Option Tmp) : Bool := match d, d' with | some d, some d' => !(Nat.beq d d') | _, _ => true
theorem unlike_put {d d' : Option Tmp} (h : unlike d d' = true) (fr : Fr) (v v' : Value) : putF (putF fr d v) d' v' = putF (putF fr d' v') d v := by
  cases d with
  | none => rfl
  | some d =>
    cases d' with
    | none => rfl
    | some d' =>
      have hne : ¬ d = d' := fun e => by subst e; simp [unlike] at h
      show (fr.set d v).set d' v' = (fr.set d' v').set d v
      exact List.set_comm v v' hne

section
variable (P : Program) (qf : FuncId → Bool) (Z : List (Nat × CV)) (C : List (Nat × Ex))
noncomputable def xLd (ops : Array Oper) (t : Two) (fr : List CV) (h : CH) (K : List CV → CH → Bool) : Bool :=
  xA P qf Z C true true ops (pick ops t.A) [] fr h fun sk fr h =>
    match ops[t.k]?, ops[t.i]? with
    | some ok, some oi => (match ok.op with
      | .load T a => ifX (ok.guard.isNone && oi.guard.isNone) (xLoad (ldK P T) (evX fr a) h fun z => xOp P qf Z C true true oi (evX fr) h fun u h' => xLoad (ldK P T) (evX fr a) h' fun z' =>
          ifX (sameX z z') (xOps P qf Z C true true ops (pick ops t.C) sk (putX (putX fr ok.dst z) oi.dst u) h' K) false) false
      | _ => false)
    | _, _ => false
noncomputable def xF2 (ops : Array Oper) (t : Two) (fr : List CV) (h : CH) (K : List CV → CH → Bool) : Bool :=
  xA P qf Z C true true ops (pick ops t.A) [] fr h fun sk fr h =>
    match ops[t.k]?, ops[t.i]? with
    | some ok, some oi => (match ok.op, oi.op with
      | .makeSlice T l c, .makeSlice T' l' c' => ifX (ok.guard.isNone && oi.guard.isNone && freeO ok.dst l' && freeO ok.dst c' && freeO oi.dst l && freeO oi.dst c && unlike ok.dst oi.dst)
          (xMkO (appK P T) (elemZ P Z T) (evX fr l) (evX fr c) fun o n1 c1 => xMkO (appK P T') (elemZ P Z T') (evX fr l') (evX fr c') fun o' n2 c2 =>
            xNew o h fun b h1 => xNew o' h1 fun b' h2 => xOps P qf Z C true true ops (pick ops t.C) sk (putX (putX fr ok.dst (.sl b 0 n1 c1)) oi.dst (.sl b' 0 n2 c2)) h2 K) false
      | _, _ => false)
    | _, _ => false
end

theorem pick_cons {ops : Array Oper} {x : Nat} {l : List Nat} {o : Oper} (h : ops[x]? = some o) : pick ops (x :: l) = o :: pick ops l := by
  unfold pick; rw [List.filterMap_cons, h]
theorem put_agree {ops : Array Oper} {x : Nat} {o : Oper} (h : ops[x]? = some o) (fr : List CV) (v : CV) : AgreeX (dstsOf ops.toList) fr (putX fr o.dst v) :=
  AgreeX.put fun d hd => by
    unfold dstsOf
    exact List.mem_filterMap.2 ⟨o, by simpa using Array.mem_of_getElem? h, hd⟩

theorem xLd_ok {P : Program} {qf : FuncId → Bool} {Z : List (Nat × CV)} {C : List (Nat × Ex)} (he : EnvOk P Z C) {ops : Array Oper} {t : Two} {fr : List CV} {h : CH} {K : List CV → CH → Bool} (hk : xLd P qf Z C ops t fr h K = true) :
    ∃ fr' h', K fr' h' = true ∧ h'.wp = h.wp ∧ AgreeX (dstsOf ops.toList) fr fr' ∧ ∀ {H0 m H frv} {Kv : Fr → Hp → Prop}, Rel H0 m h H → Vrels m fr frv → FinF H0 m h H fr' h' Kv → vcLd P qf ops t frv H Kv := by
  unfold xLd at hk
  obtain ⟨sk, fr1, h1, k1, w1, a1, s1⟩ := xA_ok he hk
  clear hk
  split at k1 <;> try (cases k1; done)
  rename_i ok oi hok hoi
  split at k1 <;> try (cases k1; done)
  rename_i T a hop
  rw [ifX_eq] at k1
  split at k1 <;> try (cases k1; done)
  rename_i hg
  simp only [Bool.and_eq_true, Option.isNone_iff_eq_none] at hg
  obtain ⟨z, k2, L1⟩ := xLoad_ok k1
  obtain ⟨u, h2, k3, w3, s3⟩ := xOp_ok he k2
  obtain ⟨z', k4, L2⟩ := xLoad_ok k3
  rw [ifX_eq] at k4
  split at k4 <;> try (cases k4; done)
  rename_i hsame
  obtain ⟨fr2, h3, k5, w5, a5, s5⟩ := xOps_ok he k4
  refine ⟨fr2, h3, k5, (w5.trans w3).trans w1, (((a1.mono pick_dsts).trans (put_agree hok _ _)).trans (put_agree hoi _ _)).trans (a5.mono pick_dsts), fun {H0 m H frv Kv} hr hv hf => ?_⟩
  refine s1 hr hv fun m1 H1 frv1 hr1 hs1 hv1 => ?_
  obtain ⟨v, e1, r1⟩ := L1 hr1 (ev_rel hv1 a)
  have ldv : ∀ {H2 : Hp}, loadE (ldK P T) (ev frv1 a) H2 = some v → vcOp P qf true true ok (ev frv1) H2 (fun u _ => u = v) := fun {H2} hl => by
    unfold vcOp
    rw [hop]
    simp only [hl, Pu_some]
  refine ⟨ok, oi, v, hok, hoi, hg.1, hg.2, ldv e1, s3 hr1 (ev_rel hv1) fun m2 H2 uv hr2 hs2 hu2 => ?_⟩
  obtain ⟨v', e2, r2⟩ := L2 hr2 (Vrel.mono hs2.pre _ (ev_rel hv1 a))
  have hvv := same_ok z z' hsame hs2.pre r1 r2
  subst hvv
  refine ⟨ldv e2, s5 hr2 (put_rel (put_rel (Vrels.mono hs2.pre _ hv1) ok.dst (Vrel.mono hs2.pre _ r1)) oi.dst hu2) fun m3 H3 frv3 hr3 hs3 hv3 => ?_⟩
  rw [w3, w1] at hs3
  rw [w1] at hs2
  exact hf _ _ _ hr3 ((hs1.trans hs2).trans hs3) hv3

theorem xF2_ok {P : Program} {qf : FuncId → Bool} {Z : List (Nat × CV)} {C : List (Nat × Ex)} (he : EnvOk P Z C) {ops : Array Oper} {t : Two} {fr : List CV} {h : CH} {K : List CV → CH → Bool} (hk : xF2 P qf Z C ops t fr h K = true) :
    ∃ fr' h', K fr' h' = true ∧ h'.wp = h.wp ∧ AgreeX (dstsOf ops.toList) fr fr' ∧ ∀ {H0 m H frv} {Kv : Fr → Hp → Prop}, Rel H0 m h H → Vrels m fr frv → FinF H0 m h H fr' h' Kv → vcTwo P qf ops t frv H Kv := by
  unfold xF2 at hk
  obtain ⟨sk, fr1, h1, k1, w1, a1, s1⟩ := xA_ok he hk
  clear hk
  split at k1 <;> try (cases k1; done)
  rename_i ok oi hok hoi
  split at k1 <;> try (cases k1; done)
  rename_i T l c T' l' c' hop hop'
  rw [ifX_eq] at k1
  split at k1 <;> try (cases k1; done)
  rename_i hg
  simp only [Bool.and_eq_true, Option.isNone_iff_eq_none] at hg
  obtain ⟨⟨⟨⟨⟨⟨hgk, hgi⟩, f1⟩, f2⟩, f3⟩, f4⟩, hun⟩ := hg
  obtain ⟨o, n1, c1, k2, M1⟩ := xMkO_ok (elemZ_ok he) k1
  obtain ⟨o', n2, c2, k3, M2⟩ := xMkO_ok (elemZ_ok he) k2
  obtain ⟨h2, k4, w2, n2', g2, o2⟩ := xNew_raw k3
  obtain ⟨h3, k5, w3, n3', g3, o3⟩ := xNew_raw k4
  obtain ⟨fr2, h4, k6, w4, a4, s4⟩ := xOps_ok he k5
  refine ⟨fr2, h4, k6, ((w4.trans w3).trans w2).trans w1, (((a1.mono pick_dsts).trans (put_agree hok _ _)).trans (put_agree hoi _ _)).trans (a4.mono pick_dsts), fun {H0 m H frv Kv} hr hv hf => ?_⟩
  refine s1 hr hv fun m1 H1 frv1 hr1 hs1 hv1 => ?_
  obtain ⟨O, z, m1e, ro⟩ := M1 (m := m1) (ev_rel hv1 l) (ev_rel hv1 c)
  obtain ⟨O', z', m2e, ro'⟩ := M2 (m := m1) (ev_rel hv1 l') (ev_rel hv1 c')
  have opk : ∀ {fr' : Fr} {H2 : Hp} {K : Value → Hp → Prop}, ev fr' l = ev frv1 l → ev fr' c = ev frv1 c → (∀ H3, Ext H2 H3 → K (.slice (some ⟨H3.size, 0, none⟩) n1 c1) (H3.push O)) → vcOp P qf true true ok (ev fr') H2 K := fun {fr' H2 K} q1 q2 hK => by
    unfold vcOp
    rw [hop]
    simp only [q1, q2]
    exact fun H3 hx => by
      show Pu (makeE (elemI P T) (ev frv1 l) (ev frv1 c) H3) (fun y => K y.1 y.2)
      rw [m1e, Pu_some]; exact hK H3 hx
  have opi : ∀ {fr' : Fr} {H2 : Hp} {K : Value → Hp → Prop}, ev fr' l' = ev frv1 l' → ev fr' c' = ev frv1 c' → (∀ H3, Ext H2 H3 → K (.slice (some ⟨H3.size, 0, none⟩) n2 c2) (H3.push O')) → vcOp P qf true true oi (ev fr') H2 K := fun {fr' H2 K} q1 q2 hK => by
    unfold vcOp
    rw [hop']
    simp only [q1, q2]
    exact fun H3 hx => by
      show Pu (makeE (elemI P T') (ev frv1 l') (ev frv1 c') H3) (fun y => K y.1 y.2)
      rw [m2e, Pu_some]; exact hK H3 hx
  have fin : ∀ {HH : Hp} {x y : Nat}, Ext H1 HH → HH[x]? = some O → HH[y]? = some O' → x ≠ y → H1.size ≤ x → H1.size ≤ y →
      vcOps P qf true true ops (pick ops t.C) sk (putF (putF frv1 ok.dst (.slice (some ⟨x, 0, none⟩) n1 c1)) oi.dst (.slice (some ⟨y, 0, none⟩) n2 c2)) HH Kv := fun {HH x y} hx x1 y1 hxy x2 y2 => by
    obtain ⟨R, S, e1, e2⟩ := rel_two (h2 := h3) (o := o) (o' := o') (z := z) (z' := z') hr1 (by rw [n3', n2']) (w3.trans w2) (by rw [o3 _ (by rw [n2']; omega)]; exact g2) (by rw [← n2']; exact g3) (fun j q1 q2 => by rw [o3 j (by rw [n2']; exact q2), o2 j q1]) (ro x) (ro' y) hx x1 y1 hxy x2 y2
    rw [n2'] at s4
    have q1 : Vrel (m1 ++ [(x, z), (y, z')]) (.sl h1.n 0 n1 c1) (.slice (some ⟨x, 0, none⟩) n1 c1) := ⟨_, e1, rfl⟩
    have q2 : Vrel (m1 ++ [(x, z), (y, z')]) (.sl (h1.n + 1) 0 n2 c2) (.slice (some ⟨y, 0, none⟩) n2 c2) := ⟨_, e2, rfl⟩
    refine s4 R (put_rel (put_rel (Vrels.mono S.pre _ hv1) ok.dst q1) oi.dst q2) fun m3 H3 frv3 hr3 hs3 hv3 => ?_
    rw [w3, w2, w1] at hs3
    rw [w1] at S
    exact hf _ _ _ hr3 ((hs1.trans S).trans hs3) hv3
  constructor
  · rw [pick_cons hok, pick_cons hoi]
    simp only [vcOps, hgk, hgi]
    refine opk rfl rfl fun H2 hx2 => ?_
    refine opi (freeO_ev f1 _ _) (freeO_ev f2 _ _) fun H3 hx3 => ?_
    have hp2 := Ext.push H2 O
    have hp3 := Ext.push H3 O'
    have l2 := hx2.le
    have l3 := hx3.le
    simp only [Array.size_push] at l3
    refine fin (x := H2.size) (y := H3.size) ((hx2.trans hp2).trans (hx3.trans hp3)) (hp3.at (hx3.at (get_push_new H2 O))) (get_push_new H3 O') (by omega) l2 (by omega)
  · rw [pick_cons hoi, pick_cons hok]
    simp only [vcOps, hgk, hgi]
    refine opi rfl rfl fun H2 hx2 => ?_
    refine opk (freeO_ev f3 _ _) (freeO_ev f4 _ _) fun H3 hx3 => ?_
    rw [← unlike_put hun]
    have hp2 := Ext.push H2 O'
    have hp3 := Ext.push H3 O
    have l2 := hx2.le
    have l3 := hx3.le
    simp only [Array.size_push] at l3
    refine fin (x := H3.size) (y := H2.size) ((hx2.trans hp2).trans (hx3.trans hp3)) (get_push_new H3 O) (hp3.at (hx3.at (get_push_new H2 O'))) (by omega) (by omega) l2

noncomputable abbrev both (A B : Bool) : Bool := Bool.rec false B A
theorem both_ok {A B : Bool} (h : both A B = true) : A = true ∧ B = true := by cases A <;> first | exact ⟨rfl, h⟩ | cases h
/-! ### The same memory -/
mutual
def eqC : CV → CV → Bool
  | .int k n, y => (match y with | .int k' n' => decide (k = k') && sameI n n' | _ => false)
  | .bool b, y => (match y with | .bool b' => b == b' | _ => false)
  | .str s, y => (match y with | .str s' => decide (s.data.toList = s'.data.toList) | _ => false)
  | .ptr k o, y => (match y with | .ptr k' o' => Nat.beq k k' && Nat.beq o o' | _ => false)
  | .nilp, y => (match y with | .nilp => true | _ => false)
  | .sl k o l c, y => (match y with | .sl k' o' l' c' => Nat.beq k k' && Nat.beq o o' && Nat.beq l l' && Nat.beq c c' | _ => false)
  | .so k o l c, y => (match y with | .so k' o' l' c' => Nat.beq k k' && Nat.beq o o' && Nat.beq l l' && Nat.beq c c' | _ => false)
  | .nils, y => (match y with | .nils => true | _ => false)
  | .map k, y => (match y with | .map k' => Nat.beq k k' | _ => false)
  | .nilm, y => (match y with | .nilm => true | _ => false)
  | .nilf, y => (match y with | .nilf => true | _ => false)
  | .fn f a c, y => (match y with | .fn f' a' c' => Nat.beq f f' && eqCs a a' && eqCs c c' | _ => false)
  | .bytes n x, y => (match y with | .bytes n' x' => Nat.beq n n' && Nat.beq x x' | _ => false)
  | .agg ps, y => (match y with | .agg qs => eqCs ps qs | _ => false)
  | .tup ps, y => (match y with | .tup qs => eqCs ps qs | _ => false)
  | .yv k, y => (match y with | .yv k' => Nat.beq k k' | _ => false)
  | .junk, y => (match y with | .junk => true | _ => false)
def eqCs : List CV → List CV → Bool
  | [], y => (match y with | [] => true | _ => false)
  | p :: ps, y => (match y with | q :: qs => eqC p q && eqCs ps qs | _ => false)
end
theorem eqN {a b : Nat} (h : Nat.beq a b = true) : a = b := Nat.eq_of_beq_eq_true h
mutual
theorem eqC_ok : ∀ (x y : CV), eqC x y = true → x = y
  | .int k n, y, h => by
    cases y <;> first | (simp [eqC] at h; done) | skip
    simp only [eqC, Bool.and_eq_true, decide_eq_true_eq] at h
    rw [h.1, sameI_ok h.2]
  | .bool b, y, h => by
    cases y <;> first | (simp [eqC] at h; done) | skip
    · simp only [eqC] at h; rw [eq_of_beq h]
  | .str s, y, h => by
    cases y <;> first | (simp [eqC] at h; done) | skip
    rename_i s'
    simp only [eqC, decide_eq_true_eq] at h
    cases s; cases s'
    simp only at h
    rw [Array.toList_inj.1 h]
  | .ptr k o, y, h => by
    cases y <;> first | (simp [eqC] at h; done) | skip
    simp only [eqC, Bool.and_eq_true] at h
    rw [eqN h.1, eqN h.2]
  | .nilp, y, h => by cases y <;> first | rfl | (simp [eqC] at h; done)
  | .sl k o l c, y, h => by
    cases y <;> first | (simp [eqC] at h; done) | skip
    simp only [eqC, Bool.and_eq_true] at h
    rw [eqN h.1.1.1, eqN h.1.1.2, eqN h.1.2, eqN h.2]
  | .so k o l c, y, h => by
    cases y <;> first | (simp [eqC] at h; done) | skip
    simp only [eqC, Bool.and_eq_true] at h
    rw [eqN h.1.1.1, eqN h.1.1.2, eqN h.1.2, eqN h.2]
  | .nils, y, h => by cases y <;> first | rfl | (simp [eqC] at h; done)
  | .map k, y, h => by
    cases y <;> first | (simp [eqC] at h; done) | skip
    simp only [eqC] at h; rw [eqN h]
  | .nilm, y, h => by cases y <;> first | rfl | (simp [eqC] at h; done)
  | .nilf, y, h => by cases y <;> first | rfl | (simp [eqC] at h; done)
  | .fn f a c, y, h => by
    cases y <;> first | (simp [eqC] at h; done) | skip
    simp only [eqC, Bool.and_eq_true] at h
    rw [eqN h.1.1, eqCs_ok a _ h.1.2, eqCs_ok c _ h.2]
  | .bytes n x, y, h => by
    cases y <;> first | (simp [eqC] at h; done) | skip
    simp only [eqC, Bool.and_eq_true] at h
    rw [eqN h.1, eqN h.2]
  | .agg ps, y, h => by
    cases y <;> first | (simp [eqC] at h; done) | skip
    simp only [eqC] at h; rw [eqCs_ok ps _ h]
  | .tup ps, y, h => by
    cases y <;> first | (simp [eqC] at h; done) | skip
    simp only [eqC] at h; rw [eqCs_ok ps _ h]
  | .yv k, y, h => by
    cases y <;> first | (simp [eqC] at h; done) | skip
    simp only [eqC] at h; rw [eqN h]
  | .junk, y, h => by cases y <;> first | rfl | (simp [eqC] at h; done)
theorem eqCs_ok : ∀ (x y : List CV), eqCs x y = true → x = y
  | [], y, h => by
    cases y with
    | nil => rfl
    | cons => simp [eqCs] at h
  | p :: ps, y, h => by
    cases y with
    | nil => simp [eqCs] at h
    | cons q qs =>
      simp only [eqCs, Bool.and_eq_true] at h
      rw [eqC_ok p q h.1, eqCs_ok ps qs h.2]
end
def eqO {α : Type} (f : α → α → Bool) : Option α → Option α → Bool
  | none, none => true
  | some a, some b => f a b
  | _, _ => false
theorem eqO_ok {α : Type} {f : α → α → Bool} (hf : ∀ a b, f a b = true → a = b) : ∀ {x y : Option α}, eqO f x y = true → x = y
  | none, none, _ => rfl
  | some a, some b, h => by rw [hf a b h]
  | none, some b, h => by cases h
  | some a, none, h => by cases h
def eqTr {α : Type} (f : α → α → Bool) : Tr α → Tr α → Bool
  | .lf, y => (match y with | .lf => true | _ => false)
  | .nd l v r, y => (match y with | .nd l' v' r' => eqTr f l l' && eqO f v v' && eqTr f r r' | _ => false)
theorem eqTr_ok {α : Type} {f : α → α → Bool} (hf : ∀ a b, f a b = true → a = b) : ∀ (x y : Tr α), eqTr f x y = true → x = y
  | .lf, y, h => by cases y <;> first | rfl | (simp [eqTr] at h; done)
  | .nd l v r, y, h => by
    cases y with
    | lf => simp [eqTr] at h
    | nd l' v' r' =>
      simp only [eqTr, Bool.and_eq_true] at h
      rw [eqTr_ok hf l l' h.1.1, eqO_ok hf h.1.2, eqTr_ok hf r r' h.2]
def eqEs : List (CV × CV) → List (CV × CV) → Bool
  | [], y => (match y with | [] => true | _ => false)
  | p :: ps, y => (match y with | q :: qs => eqC p.1 q.1 && eqC p.2 q.2 && eqEs ps qs | _ => false)
theorem eqEs_ok : ∀ (x y : List (CV × CV)), eqEs x y = true → x = y
  | [], y, h => by
    cases y with
    | nil => rfl
    | cons => simp [eqEs] at h
  | p :: ps, y, h => by
    cases y with
    | nil => simp [eqEs] at h
    | cons q qs =>
      simp only [eqEs, Bool.and_eq_true] at h
      obtain ⟨p1, p2⟩ := p
      obtain ⟨q1, q2⟩ := q
      rw [eqC_ok p1 q1 h.1.1, eqC_ok p2 q2 h.1.2, eqEs_ok ps qs h.2]
def eqCO : CO → CO → Bool
  | .row T es len d t, y => (match y with | .row T' es' len' d' t' => Nat.beq T T' && Nat.beq es es' && Nat.beq len len' && eqO eqCs d d' && eqTr eqCs t t' | _ => false)
  | .map es c, y => (match y with | .map es' c' => eqEs es es' && Nat.beq c c' | _ => false)
  | .fz T n x, y => (match y with | .fz T' n' x' => Nat.beq T T' && Nat.beq n n' && Nat.beq x x' | _ => false)
  | .lp st j n fr, y => (match y with | .lp st' j' n' fr' => Nat.beq st st' && eqO (eqO Nat.beq) j j' && Nat.beq n n' && eqCs fr fr' | _ => false)
theorem eqCO_ok : ∀ (x y : CO), eqCO x y = true → x = y
  | .row T es len d t, y, h => by
    cases y <;> first | (simp [eqCO] at h; done) | skip
    simp only [eqCO, Bool.and_eq_true] at h
    rw [eqN h.1.1.1.1, eqN h.1.1.1.2, eqN h.1.1.2, eqO_ok (fun a b => eqCs_ok a b) h.1.2, eqTr_ok (fun a b => eqCs_ok a b) _ _ h.2]
  | .map es c, y, h => by
    cases y <;> first | (simp [eqCO] at h; done) | skip
    simp only [eqCO, Bool.and_eq_true] at h
    rw [eqEs_ok es _ h.1, eqN h.2]
  | .fz T n x, y, h => by
    cases y <;> first | (simp [eqCO] at h; done) | skip
    simp only [eqCO, Bool.and_eq_true] at h
    rw [eqN h.1.1, eqN h.1.2, eqN h.2]
  | .lp st j n fr, y, h => by
    cases y <;> first | (simp [eqCO] at h; done) | skip
    simp only [eqCO, Bool.and_eq_true] at h
    rw [eqN h.1.1.1, eqO_ok (fun a b => eqO_ok fun a b => eqN) h.1.1.2, eqN h.1.2, eqCs_ok fr _ h.2]
def eqH : CH → CH → Bool
  | .mk t n wp, y => (match y with | .mk t' n' wp' => eqTr eqCO t t' && Nat.beq n n' && Nat.beq wp wp')
theorem eqH_ok {x y : CH} (h : eqH x y = true) : x = y := by
  cases x; cases y
  simp only [eqH, Bool.and_eq_true] at h
  rw [eqTr_ok eqCO_ok _ _ h.1.1, eqN h.1.2, eqN h.2]

section
variable (P : Program) (qf : FuncId → Bool) (Z : List (Nat × CV)) (C : List (Nat × Ex)) (ops : Array Oper) (K : List CV → CH → Bool)
mutual
noncomputable def xT : OT → List Nat → List CV → CH → Bool
  | .line l => fun sk fr h => xOps P qf Z C true true ops (pick ops l) sk fr h K
  | .fork A bs => fun sk fr h => xA P qf Z C true true ops (pick ops A) sk fr h (xB bs)
noncomputable def xB : OB → List Nat → List CV → CH → Bool
  | .nil => fun _ _ _ => true
  | .cons i t bs => fun sk fr h => both (xA P qf Z C true true ops (pick ops [i]) sk fr h (xT t)) (xB bs sk fr h)
end
end
mutual
theorem xT_ok {P : Program} {qf : FuncId → Bool} {Z : List (Nat × CV)} {C : List (Nat × Ex)} (he : EnvOk P Z C) {ops : Array Oper} {K : List CV → CH → Bool} : ∀ (t : OT) {sk : List Nat} {fr : List CV} {h : CH}, xT P qf Z C ops K t sk fr h = true →
    ∀ {H0 m H frv} {Kv : Fr → Hp → Prop}, Rel H0 m h H → Vrels m fr frv → (∀ fr' h', K fr' h' = true → h'.wp = h.wp → AgreeX (dstsOf ops.toList) fr fr' → FinF H0 m h H fr' h' Kv) → vcT P qf ops Kv t sk frv H
  | .line l, sk, fr, h, hk, H0, m, H, frv, Kv, hr, hv, hf => by
    simp only [xT] at hk
    simp only [vcT]
    obtain ⟨fr', h', k1, w1, a1, s1⟩ := xOps_ok he hk
    exact s1 hr hv (hf fr' h' k1 w1 (a1.mono pick_dsts))
  | .fork A bs, sk, fr, h, hk, H0, m, H, frv, Kv, hr, hv, hf => by
    simp only [xT] at hk
    simp only [vcT]
    obtain ⟨sk', fr', h', k1, w1, a1, s1⟩ := xA_ok he hk
    refine s1 hr hv fun m1 H1 frv1 hr1 hs1 hv1 => ?_
    exact xB_ok he bs k1 hr1 hv1 fun fr2 h2 k2 w2 a2 m2 H2 frv2 hr2 hs2 hv2 => by
      rw [w1] at hs2
      exact hf fr2 h2 k2 (w2.trans w1) ((a1.mono pick_dsts).trans a2) m2 H2 frv2 hr2 (hs1.trans hs2) hv2
theorem xB_ok {P : Program} {qf : FuncId → Bool} {Z : List (Nat × CV)} {C : List (Nat × Ex)} (he : EnvOk P Z C) {ops : Array Oper} {K : List CV → CH → Bool} : ∀ (bs : OB) {sk : List Nat} {fr : List CV} {h : CH}, xB P qf Z C ops K bs sk fr h = true →
    ∀ {H0 m H frv} {Kv : Fr → Hp → Prop}, Rel H0 m h H → Vrels m fr frv → (∀ fr' h', K fr' h' = true → h'.wp = h.wp → AgreeX (dstsOf ops.toList) fr fr' → FinF H0 m h H fr' h' Kv) → vcB P qf ops Kv bs sk frv H
  | .nil, sk, fr, h, hk, H0, m, H, frv, Kv, hr, hv, hf => by simp only [vcB]
  | .cons i t bs, sk, fr, h, hk, H0, m, H, frv, Kv, hr, hv, hf => by
    simp only [xB] at hk
    simp only [vcB]
    obtain ⟨k0, k9⟩ := both_ok hk
    refine ⟨?_, xB_ok he bs k9 hr hv hf⟩
    obtain ⟨sk', fr', h', k1, w1, a1, s1⟩ := xA_ok he k0
    refine s1 hr hv fun m1 H1 frv1 hr1 hs1 hv1 => ?_
    exact xT_ok he t k1 hr1 hv1 fun fr2 h2 k2 w2 a2 m2 H2 frv2 hr2 hs2 hv2 => by
      rw [w1] at hs2
      exact hf fr2 h2 k2 (w2.trans w1) ((a1.mono pick_dsts).trans a2) m2 H2 frv2 hr2 (hs1.trans hs2) hv2
end
/-- Each walk of the tree comes to the same. -/
noncomputable def xTree (P : Program) (qf : FuncId → Bool) (Z : List (Nat × CV)) (C : List (Nat × Ex)) (ops : Array Oper) (w : List Nat) (t : OT) (fr : List CV) (h : CH) (K : List CV → CH → Bool) : Bool :=
  xOps P qf Z C true true ops (pick ops w) [] fr h fun fr1 h1 => both (xT P qf Z C ops (fun fr2 h2 => eqCs fr1 fr2 && eqH h1 h2) t [] fr h) (K fr1 h1)
theorem xTree_ok {P : Program} {qf : FuncId → Bool} {Z : List (Nat × CV)} {C : List (Nat × Ex)} (he : EnvOk P Z C) {ops : Array Oper} {w : List Nat} {t : OT} {fr : List CV} {h : CH} {K : List CV → CH → Bool} (hk : xTree P qf Z C ops w t fr h K = true) :
    ∃ fr' h', K fr' h' = true ∧ h'.wp = h.wp ∧ AgreeX (dstsOf ops.toList) fr fr' ∧ ∀ {H0 m H frv} {Kv : Fr → Hp → Prop}, Rel H0 m h H → Vrels m fr frv → FinF H0 m h H fr' h' Kv → vcT P qf ops Kv t [] frv H := by
  unfold xTree at hk
  obtain ⟨fr1, h1, k1, w1, a1, _⟩ := xOps_ok he hk
  obtain ⟨k2, k3⟩ := both_ok k1
  refine ⟨fr1, h1, k3, w1, a1.mono pick_dsts, fun {H0 m H frv Kv} hr hv hf => ?_⟩
  refine xT_ok he t k2 hr hv fun fr2 h2 q1 q2 _ => ?_
  simp only [Bool.and_eq_true] at q1
  rw [← eqCs_ok _ _ q1.1, ← eqH_ok q1.2]
  exact hf

section
variable (P : Program) (qf : FuncId → Bool) (Z : List (Nat × CV)) (C : List (Nat × Ex))
noncomputable def xRegP (p : Option Plan) (ops : Array Oper) (dr : Bool) (fr : List CV) (h : CH) (K : List CV → CH → Bool) : Bool :=
  match p with
  | none => xReg P qf Z C ops dr fr h K
  | some (.ord l) => ifX (dr && (P.follows .mixedOrders && ordB ops (clAt P qf true true ops) l)) (xOps P qf Z C true true ops (pick ops l) [] fr h K) false
  | some (.ld t) => ifX (dr && (P.follows .mixedOrders && ldB ops (clAt P qf true true ops) t)) (xLd P qf Z C ops t fr h K) false
  | some (.f2 t) => ifX (dr && (P.follows .mixedOrders && twoB ops (clAt P qf true true ops) t)) (xF2 P qf Z C ops t fr h K) false
  | some (.tree w t) => ifX (dr && (P.follows .mixedOrders && treeB ops (clAt P qf true true ops) t)) (xTree P qf Z C ops w t fr h K) false
  | some (.two _) => false
  | some (.all _) => false
  | some (.raw _) => false
end
theorem sim_region {P : Program} {top : Bool} {id : Nat} {ops : Array Oper} {dr : Bool} {fr fr' : List CV} {h h' : CH} (hs : ∀ {Q : Exit → Ks} {frv : Fr} {a : Act} {w : World} {H0 : Hp} {m : M} (r : Option Nat), At a frv → Rel H0 m h w.heap → Vrels m fr frv → FinF H0 m h w.heap fr' h' (fun frv' H' => Q .normal frv' a.defers H') → (Code.region id ops dr).wpIn (wideR r) 0 P (Post (dstsOf ops.toList) true Q frv a w) a w) :
    SimC P top (.region id ops dr) fr h .normal fr' h' := by
  intro H0 m frv a w r _ hr hv ha
  refine wpIn_mono (hs (Q := fun e fr ds H' => e = .normal ∧ ∃ m', Rel H0 m' h' H' ∧ Stp h.wp m w.heap m' H' ∧ Vrels m' fr' fr) r ha hr hv fun m' H' frv' r1 r2 r3 => ⟨rfl, m', r1, r2, r3⟩) fun e a' w' hp => ?_
  obtain ⟨frv', p1, p2, _, ⟨p3, m', p4, p5, p6⟩, p7⟩ := hp
  exact ⟨p3, m', frv', p4, p5, p6, p1, Dfs.of_eq (p2 rfl), p7⟩

theorem regP_ok {P : Program} {top : Bool} {qf : FuncId → Bool} {Z : List (Nat × CV)} {C : List (Nat × Ex)} (he : EnvOk P Z C) {p : Option Plan} {id : Nat} {ops : Array Oper} {dr : Bool} {fr : List CV} {h : CH} {K : List CV → CH → Bool} (hk : xRegP P qf Z C p ops dr fr h K = true) :
    ∃ fr' h', K fr' h' = true ∧ h'.wp = h.wp ∧ AgreeX (dstsOf ops.toList) fr fr' ∧ SimC P top (.region id ops dr) fr h .normal fr' h' := by
  unfold xRegP at hk
  split at hk
  · have fin : ∃ fr' h', K fr' h' = true ∧ h'.wp = h.wp ∧ AgreeX (dstsOf ops.toList) fr fr' ∧ ∀ {H0 m H frv} {Kv : Fr → Hp → Prop}, Rel H0 m h H → Vrels m fr frv → FinF H0 m h H fr' h' Kv → vcReg P qf ops dr frv H Kv := by
      unfold xReg at hk
      simp only [ifX_eq] at hk
      unfold vcReg
      split at hk
      · split at hk
        · rename_i hn
          obtain ⟨fr', h', k1, k2, k3, k4⟩ := xOps_ok he hk
          exact ⟨fr', h', k1, k2, k3, fun {H0 m H frv Kv} hr hv hf => by
            simp only
            rw [if_pos hn]; exact k4 hr hv hf⟩
        · cases hk
      · split at hk
        · rename_i hn
          obtain ⟨fr', h', k1, k2, k3, k4⟩ := xOps_ok he hk
          exact ⟨fr', h', k1, k2, k3, fun {H0 m H frv Kv} hr hv hf => by
            simp only
            rw [if_pos hn]; exact k4 hr hv hf⟩
        · rename_i hn0
          split at hk
          · rename_i hn
            obtain ⟨fr', h', k1, k2, k3, k4⟩ := xOps_ok he hk
            exact ⟨fr', h', k1, k2, k3, fun {H0 m H frv Kv} hr hv hf => by
              simp only
              rw [if_neg hn0, if_pos hn]; exact k4 hr hv hf⟩
          · cases hk
    obtain ⟨fr', h', k1, k2, k3, k4⟩ := fin
    exact ⟨fr', h', k1, k2, k3, sim_region fun {Q frv a w H0 m} r ha hr hv hf => region_sound ha (k4 hr hv hf)⟩
  · rw [ifX_eq] at hk
    split at hk <;> try (cases hk; done)
    rename_i hb
    simp only [Bool.and_eq_true] at hb
    obtain ⟨rfl, hm, hB⟩ := hb
    obtain ⟨fr', h', k1, k2, k3, k4⟩ := xOps_ok he hk
    exact ⟨fr', h', k1, k2, k3.mono pick_dsts, sim_region fun {Q frv a w H0 m} r ha hr hv hf => ord_sound hm hB ha (k4 hr hv hf)⟩
  · rw [ifX_eq] at hk
    split at hk <;> try (cases hk; done)
    rename_i hb
    simp only [Bool.and_eq_true] at hb
    obtain ⟨rfl, hm, hB⟩ := hb
    obtain ⟨fr', h', k1, k2, k3, k4⟩ := xLd_ok he hk
    exact ⟨fr', h', k1, k2, k3, sim_region fun {Q frv a w H0 m} r ha hr hv hf => ld_sound hm hB ha (k4 hr hv hf)⟩
  · rw [ifX_eq] at hk
    split at hk <;> try (cases hk; done)
    rename_i hb
    simp only [Bool.and_eq_true] at hb
    obtain ⟨rfl, hm, hB⟩ := hb
    obtain ⟨fr', h', k1, k2, k3, k4⟩ := xF2_ok he hk
    exact ⟨fr', h', k1, k2, k3, sim_region fun {Q frv a w H0 m} r ha hr hv hf => two_sound hm hB ha (k4 hr hv hf)⟩
  · rw [ifX_eq] at hk
    split at hk <;> try (cases hk; done)
    rename_i hb
    simp only [Bool.and_eq_true] at hb
    obtain ⟨rfl, hm, hB⟩ := hb
    obtain ⟨fr', h', k1, k2, k3, k4⟩ := xTree_ok he hk
    exact ⟨fr', h', k1, k2, k3, sim_region fun {Q frv a w H0 m} r ha hr hv hf => tree_sound hm hB ha (k4 hr hv hf)⟩
  · cases hk
  · cases hk
  · cases hk

end Go.Xc
