/- Xc, part L: regions, code, functions, run. -/
import Derived.Test.YtpacglkopelfiaaXcK
import Derived.LoopNIn
set_option linter.unusedVariables false
set_option linter.unusedSimpArgs false
namespace Go.Xc
open Go.Vc

/-! ### Frames -/
def cvS : Value → CV
  | .int k n => .int k n
  | .bool b => .bool b
  | .string s => .str s
  | .pointer none => .nilp
  | .slice none 0 0 => .nils
  | .map none => .nilm
  | .nilFunc => .nilf
  | _ => .junk
theorem cvS_ok (m : M) (v : Value) : Vrel m (cvS v) v := by
  unfold cvS
  split <;> first | rfl | trivial
def packL : List Value → Option (List CV)
  | [] => some []
  | v :: l => (match toP (cvS v), packL l with
    | some [p], some r => some (consP p r)
    | _, _ => none)
theorem packL_ok (m : M) : ∀ {l : List Value} {ps : List CV}, packL l = some ps → Crel m ps l
  | [], ps, h => by simp only [packL, Option.some.injEq] at h; subst h; rfl
  | v :: l, ps, h => by
    unfold packL at h
    split at h
    · rename_i p r h1 h2
      injection h with h; subst h
      refine consP_ok ?_
      have hv := toP_ok (cvS_ok m v) h1
      have hl := packL_ok m h2
      have hone : v.cells.toList = [v] := by
        have : ∀ c, v = .agg c → False := fun c hc => by subst hc; simp [cvS, toP, scalar] at h1
        cases v <;> first | rfl | exact absurd rfl (this _)
      rw [hone] at hv
      rcases Crel_scalar hv with ⟨n, x, rfl⟩ | hs
      · obtain ⟨l', h3, h4⟩ := hv
        simp only [Crel] at h4; subst h4
        rw [List.append_nil] at h3
        exact ⟨l, by rw [← h3]; rfl, hl⟩
      · rw [Crel_cons hs] at hv ⊢
        obtain ⟨u, l', h3, _, h4, _⟩ := hv
        injection h3 with h3 _
        subst h3
        exact ⟨v, l, rfl, hs, h4, hl⟩
    · cases h
def cvOf : Value → CV
  | .agg c => (match packL c.toList with | some ps => .agg ps | none => .junk)
  | v => cvS v
theorem cvOf_ok (m : M) (v : Value) : Vrel m (cvOf v) v := by
  unfold cvOf
  split
  · rename_i c
    split
    · rename_i ps h; exact ⟨c, rfl, packL_ok m h⟩
    · trivial
  · exact cvS_ok m v

def slotX (fr : List CV) (k : Nat) : CV := fr.getD k (.tup [])
def evX (fr : List CV) : Operand → CV
  | .tmp t => slotX fr t
  | .const v => cvOf v
  | .global _ => .junk
  | .func f => .fn f [] []
def putX (fr : List CV) (d : Option Tmp) (v : CV) : List CV :=
  match d with
  | some d => fr.set d v
  | none => fr

theorem Vrels_len {m : M} : ∀ {xs : List CV} {l : List Value}, Vrels m xs l → xs.length = l.length
  | [], l, h => by simp only [Vrels] at h; subst h; rfl
  | x :: xs, l, h => by obtain ⟨v, l', rfl, _, h2⟩ := h; simp [Vrels_len h2]
theorem Vrels_of {m : M} : ∀ {xs : List CV} {l : List Value}, xs.length = l.length → (∀ (k : Nat) x, xs[k]? = some x → ∃ v, l[k]? = some v ∧ Vrel m x v) → Vrels m xs l
  | [], [], _, _ => rfl
  | [], _ :: _, h, _ => by simp at h
  | _ :: _, [], h, _ => by simp at h
  | x :: xs, v :: l, hl, h => by
    obtain ⟨u, h1, h2⟩ := h 0 x rfl
    simp only [List.getElem?_cons_zero, Option.some.injEq] at h1
    subst h1
    exact ⟨v, l, rfl, h2, Vrels_of (by simpa using hl) fun k y hk => by
      have := h (k + 1) y (by simpa using hk)
      simpa using this⟩
theorem slot_rel {m : M} {fr : List CV} {frv : Fr} (h : Vrels m fr frv) (k : Nat) : Vrel m (slotX fr k) (slot frv k) := by
  unfold slotX slot
  rw [List.getD_eq_getElem?_getD, List.getD_eq_getElem?_getD]
  cases hk : fr[k]? with
  | some x =>
    obtain ⟨v, h1, h2⟩ := Vrels_get h hk
    rw [h1]; exact h2
  | none =>
    have hl := Vrels_len h
    have : frv[k]? = none := by
      rw [List.getElem?_eq_none_iff] at hk ⊢; omega
    rw [this]; exact unit_rel m
theorem ev_rel {m : M} {fr : List CV} {frv : Fr} (h : Vrels m fr frv) : RhoRel m (evX fr) (ev frv) := by
  intro o
  cases o with
  | tmp t => exact slot_rel h t
  | const v => exact cvOf_ok m v
  | global g => trivial
  | func f => exact ⟨#[], #[], rfl, rfl, rfl⟩
theorem set_rel {m : M} {fr : List CV} {frv : Fr} (h : Vrels m fr frv) (d : Nat) {x : CV} {v : Value} (hx : Vrel m x v) : Vrels m (fr.set d x) (frv.set d v) := by
  have hl := Vrels_len h
  refine Vrels_of (by simp [hl]) fun k y hk => ?_
  rw [List.getElem?_set] at hk ⊢
  by_cases hd : d = k
  · subst hd
    rw [if_pos rfl] at hk ⊢
    split at hk
    · rename_i hlt
      injection hk with hk; subst hk
      exact ⟨v, by rw [if_pos (by omega)], hx⟩
    · cases hk
  · rw [if_neg hd] at hk ⊢
    exact Vrels_get h hk
theorem put_rel {m : M} {fr : List CV} {frv : Fr} (h : Vrels m fr frv) (d : Option Tmp) {x : CV} {v : Value} (hx : Vrel m x v) : Vrels m (putX fr d x) (putF frv d v) := by
  cases d with
  | none => exact h
  | some d => exact set_rel h d hx

def AgreeX (W : List Nat) (fr fr' : List CV) : Prop := fr'.length = fr.length ∧ ∀ k, k ∉ W → fr'[k]? = fr[k]?
theorem AgreeX.refl (W : List Nat) (fr : List CV) : AgreeX W fr fr := ⟨rfl, fun _ _ => rfl⟩
theorem AgreeX.trans {W : List Nat} {a b c : List CV} (h : AgreeX W a b) (h' : AgreeX W b c) : AgreeX W a c := ⟨h'.1.trans h.1, fun k hk => (h'.2 k hk).trans (h.2 k hk)⟩
theorem AgreeX.mono {W W' : List Nat} {a b : List CV} (h : AgreeX W a b) (hs : ∀ k ∈ W, k ∈ W') : AgreeX W' a b := ⟨h.1, fun k hk => h.2 k fun hm => hk (hs k hm)⟩
theorem AgreeX.put {W : List Nat} {fr : List CV} {d : Option Tmp} {v : CV} (h : ∀ k, d = some k → k ∈ W) : AgreeX W fr (putX fr d v) := by
  cases d with
  | none => exact AgreeX.refl W fr
  | some d => exact ⟨by simp [putX], fun k hk => by
      have : d ≠ k := fun e => hk (e ▸ h d rfl)
      simp [putX, List.getElem?_set, this]⟩
theorem set_sameX {fr : List CV} {d : Nat} {b : Bool} (h : slotX fr d = .bool b) : fr.set d (.bool b) = fr := by
  unfold slotX at h
  apply List.ext_getElem?
  intro j
  rw [List.getElem?_set]
  by_cases hj : d = j
  · subst hj
    rw [List.getD_eq_getElem?_getD] at h
    cases hk : fr[d]? with
    | some x =>
      rw [hk] at h
      have hlt : d < fr.length := by
        rcases Nat.lt_or_ge d fr.length with h1 | h1
        · exact h1
        · rw [List.getElem?_eq_none h1] at hk; cases hk
      simp only [Option.getD_some] at h
      simp [hlt, h]
    | none => rw [hk] at h; cases h
  · simp [hj]

/-! ### Regions -/
section
variable (P : Program) (qf : FuncId → Bool) (Z : List (Nat × CV)) (C : List (Nat × Ex))
noncomputable def xOps (dr q : Bool) (all : Array Oper) : List Oper → List Nat → List CV → CH → (List CV → CH → Bool) → Bool
  | [], _, fr, h, K => K fr h
  | o :: rest, sk, fr, h, K =>
    match o.guard with
    | none => xOp P qf Z C dr q o (evX fr) h fun v h' => xOps dr q all rest sk (putX fr o.dst v) h' K
    | some (j, want) =>
      match (all[j]?).bind (·.dst) with
      | none => false
      | some d =>
        ifX (sk.contains d)
          (match slotX fr d with
           | .tup _ => xOps dr q all rest (addSk sk o.dst) (putX fr o.dst (.tup [])) h K
           | _ => false)
          (xIte (slotX fr d)
            (ifX want (xOp P qf Z C dr q o (evX (fr.set d (.bool true))) h fun v h' => xOps dr q all rest sk (putX (fr.set d (.bool true)) o.dst v) h' K)
              (xOps dr q all rest (addSk sk o.dst) (putX (fr.set d (.bool true)) o.dst (.tup [])) h K))
            (ifX want (xOps dr q all rest (addSk sk o.dst) (putX (fr.set d (.bool false)) o.dst (.tup [])) h K)
              (xOp P qf Z C dr q o (evX (fr.set d (.bool false))) h fun v h' => xOps dr q all rest sk (putX (fr.set d (.bool false)) o.dst v) h' K)))
noncomputable def xReg (ops : Array Oper) (dr : Bool) (fr : List CV) (h : CH) (K : List CV → CH → Bool) : Bool :=
  match dr with
  | false => ifX (noSelB ops) (xOps P qf Z C false false ops ops.toList [] fr h K) false
  | true => ifX (P.follows .mixedOrders && drawB ops (clAt P qf true false ops)) (xOps P qf Z C true (anyQ qf ops) ops ops.toList [] fr h K)
    (ifX (P.follows .mixedOrders && drawB ops (clAt P qf true true ops)) (xOps P qf Z C true true ops ops.toList [] fr h K) false)
end

/-- What is asked of the way on, by the frame. -/
def FinF (H0 : Hp) (m : M) (h : CH) (H : Hp) (fr' : List CV) (h' : CH) (K : Fr → Hp → Prop) : Prop :=
  ∀ m' H' frv', Rel H0 m' h' H' → Stp h.wp m H m' H' → Vrels m' fr' frv' → K frv' H'

theorem xOps_ok {P : Program} {qf : FuncId → Bool} {Z : List (Nat × CV)} {C : List (Nat × Ex)} (he : EnvOk P Z C) {dr q : Bool} {all : Array Oper} : ∀ {l : List Oper} {sk : List Nat} {fr : List CV} {h : CH} {K : List CV → CH → Bool}, xOps P qf Z C dr q all l sk fr h K = true →
    ∃ fr' h', K fr' h' = true ∧ h'.wp = h.wp ∧ AgreeX (dstsOf l) fr fr' ∧ ∀ {H0 m H frv} {Kv : Fr → Hp → Prop}, Rel H0 m h H → Vrels m fr frv → FinF H0 m h H fr' h' Kv → vcOps P qf dr q all l sk frv H Kv
  | [], sk, fr, h, K, hk => ⟨fr, h, hk, rfl, AgreeX.refl _ _, fun {H0 m H frv Kv} hr hv hf => by
      unfold vcOps
      cases q
      · exact hf _ _ _ hr (Stp.refl _ _ _) hv
      · exact fun H' hx => hf _ _ _ (hr.ext' hx) (Stp.ext hx) hv⟩
  | o :: rest, sk, fr, h, K, hk => by
    have hWr : ∀ d ∈ dstsOf rest, d ∈ dstsOf (o :: rest) := fun d hd => by
      unfold dstsOf at *; rw [List.filterMap_cons]; split
      · exact hd
      · exact List.mem_cons_of_mem _ hd
    have hWo : ∀ d, o.dst = some d → d ∈ dstsOf (o :: rest) := fun d hdd => by unfold dstsOf; rw [List.filterMap_cons, hdd]; exact List.mem_cons_self
    have run : ∀ {fr : List CV}, (xOp P qf Z C dr q o (evX fr) h fun v h' => xOps P qf Z C dr q all rest sk (putX fr o.dst v) h' K) = true →
        ∃ fr' h', K fr' h' = true ∧ h'.wp = h.wp ∧ AgreeX (dstsOf (o :: rest)) fr fr' ∧ ∀ {H0 m H frv} {Kv : Fr → Hp → Prop}, Rel H0 m h H → Vrels m fr frv → FinF H0 m h H fr' h' Kv → vcOp P qf dr q o (ev frv) H fun v H' => vcOps P qf dr q all rest sk (putF frv o.dst v) H' Kv := by
      intro fr hk
      obtain ⟨z, h1, k1, w1, s1⟩ := xOp_ok he hk
      obtain ⟨fr', h2, k2, w2, a2, s2⟩ := xOps_ok he k1
      refine ⟨fr', h2, k2, w2.trans w1, (AgreeX.put hWo).trans (a2.mono hWr), fun {H0 m H frv Kv} hr hv hf => ?_⟩
      refine s1 hr (ev_rel hv) fun m' H' v hr' hs' hv' => ?_
      refine s2 hr' (put_rel (Vrels.mono hs'.pre _ hv) o.dst hv') fun m'' H'' frv' hr'' hs'' hv'' => ?_
      rw [w1] at hs''
      exact hf _ _ _ hr'' (hs'.trans hs'') hv''
    have skip : ∀ {fr : List CV}, xOps P qf Z C dr q all rest (addSk sk o.dst) (putX fr o.dst (.tup [])) h K = true →
        ∃ fr' h', K fr' h' = true ∧ h'.wp = h.wp ∧ AgreeX (dstsOf (o :: rest)) fr fr' ∧ ∀ {H0 m H frv} {Kv : Fr → Hp → Prop}, Rel H0 m h H → Vrels m fr frv → FinF H0 m h H fr' h' Kv → vcOps P qf dr q all rest (addSk sk o.dst) (putF frv o.dst undef) H Kv := by
      intro fr hk
      obtain ⟨fr', h2, k2, w2, a2, s2⟩ := xOps_ok he hk
      exact ⟨fr', h2, k2, w2, (AgreeX.put hWo).trans (a2.mono hWr), fun {H0 m H frv Kv} hr hv hf => s2 hr (put_rel hv o.dst (unit_rel m)) hf⟩
    unfold xOps at hk
    unfold vcOps
    cases hg : o.guard with
    | none =>
      simp only [hg] at hk ⊢
      exact run hk
    | some g =>
      obtain ⟨j, want⟩ := g
      simp only [hg] at hk ⊢
      cases hjd : (all[j]?).bind (·.dst) with
      | none => simp only [hjd] at hk; cases hk
      | some d =>
        simp only [hjd] at hk ⊢
        rw [ifX_eq] at hk
        by_cases hsk : sk.contains d = true
        · rw [if_pos hsk] at hk
          simp only [if_pos hsk]
          split at hk
          · rename_i vs hsl
            obtain ⟨fr', h2, k2, w2, a2, s2⟩ := skip hk
            refine ⟨fr', h2, k2, w2, a2, fun {H0 m H frv Kv} hr hv hf => ?_⟩
            have hs := slot_rel hv d
            rw [hsl] at hs
            obtain ⟨c, hc, _⟩ := hs
            rw [hc]
            exact s2 hr hv hf
          · cases hk
        · rw [if_neg hsk] at hk
          simp only [if_neg hsk]
          unfold xIte at hk
          split at hk
          · rename_i hsl
            rw [set_sameX hsl] at hk
            have hval : ∀ {m frv}, Vrels m fr frv → slot frv d = .bool true ∧ frv.set d (.bool true) = frv := fun {m frv} hv => by
              have hs := slot_rel hv d
              rw [hsl] at hs
              exact ⟨hs, set_same hs (by simp [undef])⟩
            cases want
            · simp only [ifX_eq, Bool.false_eq_true, if_false] at hk ⊢
              obtain ⟨fr', h2, k2, w2, a2, s2⟩ := skip hk
              refine ⟨fr', h2, k2, w2, a2, fun {H0 m H frv Kv} hr hv hf => ?_⟩
              obtain ⟨e1, e2⟩ := hval hv
              rw [e1, Ite_true, e2]
              exact s2 hr hv hf
            · simp only [ifX_eq, if_true] at hk ⊢
              obtain ⟨fr', h2, k2, w2, a2, s2⟩ := run hk
              refine ⟨fr', h2, k2, w2, a2, fun {H0 m H frv Kv} hr hv hf => ?_⟩
              obtain ⟨e1, e2⟩ := hval hv
              rw [e1, Ite_true, e2]
              exact s2 hr hv hf
          · rename_i hsl
            rw [set_sameX hsl] at hk
            have hval : ∀ {m frv}, Vrels m fr frv → slot frv d = .bool false ∧ frv.set d (.bool false) = frv := fun {m frv} hv => by
              have hs := slot_rel hv d
              rw [hsl] at hs
              exact ⟨hs, set_same hs (by simp [undef])⟩
            cases want
            · simp only [ifX_eq, Bool.false_eq_true, if_false] at hk ⊢
              obtain ⟨fr', h2, k2, w2, a2, s2⟩ := run hk
              refine ⟨fr', h2, k2, w2, a2, fun {H0 m H frv Kv} hr hv hf => ?_⟩
              obtain ⟨e1, e2⟩ := hval hv
              rw [e1, Ite_false, e2]
              exact s2 hr hv hf
            · simp only [ifX_eq, if_true] at hk ⊢
              obtain ⟨fr', h2, k2, w2, a2, s2⟩ := skip hk
              refine ⟨fr', h2, k2, w2, a2, fun {H0 m H frv Kv} hr hv hf => ?_⟩
              obtain ⟨e1, e2⟩ := hval hv
              rw [e1, Ite_false, e2]
              exact s2 hr hv hf
          · cases hk

/-! ### Code -/
def TupC : Nat → Type
  | 0 => Unit
  | n + 1 => CV × TupC n
def grabX (fr : List CV) : (L : List Nat) → TupC L.length
  | [] => ()
  | k :: L => (slotX fr k, grabX fr L)
def layX : (L : List Nat) → TupC L.length → List CV → List CV
  | [], _, fr => fr
  | k :: L, s, fr => (layX L s.2 fr).set k s.1
def junkX (J : List Nat) (fr : List CV) : List CV :=
  match J with
  | [] => fr
  | k :: J => (junkX J fr).set k .junk

theorem junkX_len (J : List Nat) (fr : List CV) : (junkX J fr).length = fr.length := by
  induction J with
  | nil => rfl
  | cons k J ih => simp [junkX, ih]
theorem junkX_get (J : List Nat) (fr : List CV) (k : Nat) : (junkX J fr)[k]? = if k ∈ J then (if k < fr.length then some .junk else none) else fr[k]? := by
  induction J with
  | nil => simp [junkX]
  | cons j J ih =>
    simp only [junkX, List.getElem?_set, junkX_len, ih, List.mem_cons]
    by_cases h1 : j = k
    · subst h1; simp
    · have h2 : ¬ k = j := fun e => h1 e.symm
      simp [h1, h2]
theorem layX_get (fr1 : List CV) : ∀ (L : List Nat) (fr : List CV) (k : Nat), (layX L (grabX fr1 L) fr)[k]? = if k ∈ L then (if k < fr.length then some (slotX fr1 k) else none) else fr[k]?
  | [], fr, k => by simp [layX]
  | j :: L, fr, k => by
    have hlen : ∀ (L : List Nat) (s : TupC L.length) (fr : List CV), (layX L s fr).length = fr.length := by
      intro L
      induction L with
      | nil => intro s fr; rfl
      | cons a L ih => intro s fr; simp [layX, ih]
    simp only [layX, grabX, List.getElem?_set, hlen, layX_get fr1 L fr k, List.mem_cons]
    by_cases h1 : j = k
    · subst h1; simp
    · have h2 : ¬ k = j := fun e => h1 e.symm
      simp [h1, h2]
/-- Behind code that writes W alone the frame is known as before, but for L, known anew, and J, no longer known. -/
theorem lay_rel {W L J : List Nat} {fr fr1 : List CV} {m : M} {frv : Fr} (h : AgreeX W fr fr1) (hs : subB W (L ++ J) = true) (hv : Vrels m fr1 frv) : Vrels m (layX L (grabX fr1 L) (junkX J fr)) frv := by
  have hl := Vrels_len hv
  have hlen : (layX L (grabX fr1 L) (junkX J fr)).length = fr.length := by
    have : ∀ (L : List Nat) (s : TupC L.length) (fr : List CV), (layX L s fr).length = fr.length := by
      intro L
      induction L with
      | nil => intro s fr; rfl
      | cons a L ih => intro s fr; simp [layX, ih]
    rw [this, junkX_len]
  refine Vrels_of (by rw [hlen, ← hl, h.1]) fun k x hk => ?_
  rw [layX_get, junkX_len, junkX_get] at hk
  by_cases hL : k ∈ L
  · rw [if_pos hL] at hk
    split at hk
    · rename_i hlt
      injection hk with hk; subst hk
      have h2 := slot_rel hv k
      have : k < frv.length := by rw [← hl, h.1]; exact hlt
      refine ⟨slot frv k, ?_, h2⟩
      simp [slot, this]
    · cases hk
  · rw [if_neg hL] at hk
    by_cases hJ : k ∈ J
    · rw [if_pos hJ] at hk
      split at hk
      · rename_i hlt
        injection hk with hk; subst hk
        have : k < frv.length := by rw [← hl, h.1]; exact hlt
        exact ⟨frv[k], List.getElem?_eq_getElem this, trivial⟩
      · cases hk
    · rw [if_neg hJ] at hk
      have : k ∉ W := fun hm => by
        have := subB_spec hs k hm
        simp [hL, hJ] at this
      rw [← h.2 k this] at hk
      exact Vrels_get hv hk
theorem lay_agree {W L J : List Nat} {fr fr1 : List CV} (h : AgreeX W fr fr1) (hJ : subB J W = true) : AgreeX W fr (layX L (grabX fr1 L) (junkX J fr)) := by
  have hlen : (layX L (grabX fr1 L) (junkX J fr)).length = fr.length := by
    have : ∀ (L : List Nat) (s : TupC L.length) (fr : List CV), (layX L s fr).length = fr.length := by
      intro L
      induction L with
      | nil => intro s fr; rfl
      | cons a L ih => intro s fr; simp [layX, ih]
    rw [this, junkX_len]
  refine ⟨hlen, fun k hk => ?_⟩
  rw [layX_get, junkX_len, junkX_get]
  by_cases hL : k ∈ L
  · rw [if_pos hL]
    have h1 := h.2 k hk
    by_cases hlt : k < fr.length
    · rw [if_pos hlt]
      have hlt1 : k < fr1.length := by rw [h.1]; exact hlt
      rw [← h1]
      simp [slotX, hlt1]
    · rw [if_neg hlt, List.getElem?_eq_none (by omega)]
  · rw [if_neg hL]
    have : k ∉ J := fun hm => hk (subB_spec hJ k hm)
    rw [if_neg this]

abbrev QX := Exit → List CV → CH → Bool
abbrev thnX (K : List CV → CH → Bool) (Q : QX) : QX
  | .normal, fr, h => K fr h
  | e, fr, h => Q e fr h
noncomputable abbrev isXX (k id : Nat) (A B : Bool) : Bool := Bool.rec B A (Nat.beq k id)
noncomputable abbrev blkX (id : Nat) (Q : QX) : QX
  | .exit k, fr, h => isXX k id (Q .normal fr h) (Q (.exit k) fr h)
  | e, fr, h => Q e fr h
noncomputable def xJoin {n : Nat} (rest : TupC n → CH → Bool) (first : (TupC n → CH → Bool) → Bool) : Bool := first rest
noncomputable def xLoop {n : Nat} (body : (TupC n → CH → Bool) → TupC n → CH → Bool) (N : Nat) : TupC n → CH → Bool :=
  Nat.rec (motive := fun _ => TupC n → CH → Bool) (fun _ _ => false) (fun _ ih s h => body ih s h) N

noncomputable def xc (P : Program) (qf : FuncId → Bool) (Z : List (Nat × CV)) (C : List (Nat × Ex)) : Code → Ann → QX → List CV → CH → Bool
  | .skip, _, Q, fr, h => Q .normal fr h
  | .label _, _, Q, fr, h => Q .normal fr h
  | .ret, _, Q, fr, h => Q .ret fr h
  | .exit id, _, Q, fr, h => Q (.exit id) fr h
  | .region _ ops dr, _, Q, fr, h => xReg P qf Z C ops dr fr h fun fr' h' => Q .normal fr' h'
  | .seq a b, ann, Q, fr, h =>
    match ann with
    | .join L J l r =>
      ifX (subB (writes a) (L ++ J) && subB J (writes a))
        (xJoin (fun s h => xc P qf Z C b r Q (layX L s (junkX J fr)) h) fun K => xc P qf Z C a l (thnX (fun fr' h' => K (grabX fr' L) h') Q) fr h)
        false
    | .seq l r => xc P qf Z C a l (thnX (xc P qf Z C b r Q) Q) fr h
    | _ => xc P qf Z C a .nil (thnX (xc P qf Z C b .nil Q) Q) fr h
  | .cond c a b, ann, Q, fr, h =>
    match ann with
    | .cond l r => xIte (evX fr c) (xc P qf Z C a l Q fr h) (xc P qf Z C b r Q fr h)
    | _ => xIte (evX fr c) (xc P qf Z C a .nil Q fr h) (xc P qf Z C b .nil Q fr h)
  | .block id c, ann, Q, fr, h => xc P qf Z C c ann (blkX id Q) fr h
  | .loop c, ann, Q, fr, h =>
    match ann with
    | .loop L J b =>
      ifX (subB (writes c) (L ++ J) && subB J (writes c))
        (xLoop (n := L.length) (fun K s h => xc P qf Z C c b (thnX (fun fr' h' => K (grabX fr' L) h') Q) (layX L s (junkX J fr)) h) 1000000 (grabX fr L) h)
        false
    | _ => false
  | _, _, _, _, _ => false

/-- What the run has come to. -/
def PostX (H0 : Hp) (m : M) (wp : Nat) (e : Exit) (fr' : List CV) (h' : CH) (a : Act) (w : World) : Exit → Act → World → Prop := fun e' a' w' =>
  e' = e ∧ ∃ m' frv', Rel H0 m' h' w'.heap ∧ Stp wp m w.heap m' w'.heap ∧ Vrels m' fr' frv' ∧ At a' frv' ∧ a'.defers = a.defers ∧ Sm w w'
def SimC (P : Program) (c : Code) (fr : List CV) (h : CH) (e : Exit) (fr' : List CV) (h' : CH) : Prop :=
  ∀ {H0 m frv a w} (r : Option Nat), Rel H0 m h w.heap → Vrels m fr frv → At a frv → c.wpIn (wideR r) 0 P (PostX H0 m h.wp e fr' h' a w) a w

theorem PostX.trans {H0 : Hp} {m m1 : M} {wp : Nat} {e : Exit} {fr' : List CV} {h' : CH} {a a1 : Act} {w w1 : World} {e' : Exit} {a' : Act} {w' : World} (hs : Stp wp m w.heap m1 w1.heap) (hd : a1.defers = a.defers) (hsm : Sm w w1) (h : PostX H0 m1 wp e fr' h' a1 w1 e' a' w') : PostX H0 m wp e fr' h' a w e' a' w' := by
  obtain ⟨h1, m', frv', h2, h3, h4, h5, h6, h7⟩ := h
  exact ⟨h1, m', frv', h2, hs.trans h3, h4, h5, h6.trans hd, hsm.trans h7⟩

theorem seq_ok {P : Program} {x y : Code} {fr fr1 fr1' fr2 : List CV} {h h1 h2 : CH} {e : Exit} (hw : h1.wp = h.wp) (s1 : SimC P x fr h .normal fr1 h1) (hfr : ∀ {m frv}, Vrels m fr1 frv → Vrels m fr1' frv) (s2 : SimC P y fr1' h1 e fr2 h2) : SimC P (.seq x y) fr h e fr2 h2 := by
  intro H0 m frv a w r hr hv ha
  refine wpIn_seq (wpIn_mono (s1 r hr hv ha) fun e' a' w' hp => ?_)
  obtain ⟨rfl, m', frv', k1, k2, k3, k4, k5, k6⟩ := hp
  refine wpIn_mono (s2 r k1 (hfr k3) k4) fun e'' a'' w'' hp => ?_
  rw [hw] at hp
  exact hp.trans k2 k5 k6
theorem seq_exit {P : Program} {x y : Code} {fr fr1 : List CV} {h h1 : CH} {e : Exit} (hn : e ≠ .normal) (s1 : SimC P x fr h e fr1 h1) : SimC P (.seq x y) fr h e fr1 h1 := by
  intro H0 m frv a w r hr hv ha
  refine wpIn_seq (wpIn_mono (s1 r hr hv ha) fun e' a' w' hp => ?_)
  have he := hp.1
  subst he
  cases e' <;> first | exact absurd rfl hn | exact hp

theorem thnX_ok {K : List CV → CH → Bool} {Q : QX} {e : Exit} {fr : List CV} {h : CH} (hq : thnX K Q e fr h = true) : (e = .normal ∧ K fr h = true) ∨ (e ≠ .normal ∧ Q e fr h = true) := by
  cases e <;> first | exact .inl ⟨rfl, hq⟩ | exact .inr ⟨by simp, hq⟩

theorem xc_ok {P : Program} {qf : FuncId → Bool} {Z : List (Nat × CV)} {C : List (Nat × Ex)} (he : EnvOk P Z C) : ∀ (c : Code) (ann : Ann) (Q : QX) (fr : List CV) (h : CH), xc P qf Z C c ann Q fr h = true →
    ∃ e fr' h', Q e fr' h' = true ∧ h'.wp = h.wp ∧ AgreeX (writes c) fr fr' ∧ SimC P c fr h e fr' h' := by
  intro c
  have here : ∀ {c : Code} {e : Exit} {fr : List CV} {h : CH}, (∀ {r : Option Nat} {Q : Exit → Act → World → Prop} {a w}, Q e a w → c.wpIn (wideR r) 0 P Q a w) → SimC P c fr h e fr h := by
    intro c e fr h hc H0 m frv a w r hr hv ha
    exact hc ⟨rfl, m, frv, hr, Stp.refl _ _ _, hv, ha, rfl, Sm.refl w⟩
  induction c with
  | skip => intro ann Q fr h hk; exact ⟨.normal, fr, h, by cases ann <;> exact hk, rfl, AgreeX.refl _ _, here fun hq => wpIn_skip hq⟩
  | label l => intro ann Q fr h hk; exact ⟨.normal, fr, h, by cases ann <;> exact hk, rfl, AgreeX.refl _ _, here fun hq => wpIn_label hq⟩
  | ret => intro ann Q fr h hk; exact ⟨.ret, fr, h, by cases ann <;> exact hk, rfl, AgreeX.refl _ _, here fun hq => wpIn_ret hq⟩
  | exit id => intro ann Q fr h hk; exact ⟨.exit id, fr, h, by cases ann <;> exact hk, rfl, AgreeX.refl _ _, here fun hq => wpIn_exit hq⟩
  | region id ops dr =>
    intro ann Q fr h hk
    have hk : xReg P qf Z C ops dr fr h (fun fr' h' => Q .normal fr' h') = true := by cases ann <;> exact hk
    have fin : ∃ fr' h', Q .normal fr' h' = true ∧ h'.wp = h.wp ∧ AgreeX (dstsOf ops.toList) fr fr' ∧ ∀ {H0 m H frv} {Kv : Fr → Hp → Prop}, Rel H0 m h H → Vrels m fr frv → FinF H0 m h H fr' h' Kv → vcReg P qf ops dr frv H Kv := by
      unfold xReg at hk
      simp only [ifX_eq] at hk
      unfold vcReg
      split at hk
      · split at hk
        · rename_i hn
          obtain ⟨fr', h', k1, k2, k3, k4⟩ := xOps_ok he hk
          exact ⟨fr', h', k1, k2, k3, fun {H0 m H frv Kv} hr hv hf => by
            simp only
            rw [if_pos hn]; exact k4 hr hv hf⟩
        · cases hk
      · split at hk
        · rename_i hn
          obtain ⟨fr', h', k1, k2, k3, k4⟩ := xOps_ok he hk
          exact ⟨fr', h', k1, k2, k3, fun {H0 m H frv Kv} hr hv hf => by
            simp only
            rw [if_pos hn]; exact k4 hr hv hf⟩
        · rename_i hn0
          split at hk
          · rename_i hn
            obtain ⟨fr', h', k1, k2, k3, k4⟩ := xOps_ok he hk
            exact ⟨fr', h', k1, k2, k3, fun {H0 m H frv Kv} hr hv hf => by
              simp only
              rw [if_neg hn0, if_pos hn]; exact k4 hr hv hf⟩
          · cases hk
    obtain ⟨fr', h', k1, k2, k3, k4⟩ := fin
    refine ⟨.normal, fr', h', k1, k2, k3, fun {H0 m frv a w} r hr hv ha => ?_⟩
    have hv' := k4 (Kv := fun frv' H' => Exit.normal = Exit.normal ∧ ∃ m', Rel H0 m' h' H' ∧ Stp h.wp m w.heap m' H' ∧ Vrels m' fr' frv') hr hv (fun m' H' frv' r1 r2 r3 => ⟨rfl, m', r1, r2, r3⟩)
    refine wpIn_mono (region_sound (Q := fun e fr ds H' => e = .normal ∧ ∃ m', Rel H0 m' h' H' ∧ Stp h.wp m w.heap m' H' ∧ Vrels m' fr' fr) ha hv') fun e a' w' hp => ?_
    · obtain ⟨frv', p1, p2, _, ⟨p3, m', p4, p5, p6⟩, p7⟩ := hp
      exact ⟨p3, m', frv', p4, p5, p6, p1, p2 rfl, p7⟩
  | block id c ih =>
    intro ann Q fr h hk
    have hk : xc P qf Z C c ann (blkX id Q) fr h = true := by cases ann <;> exact hk
    obtain ⟨e, fr', h', k1, k2, k3, k4⟩ := ih ann (blkX id Q) fr h hk
    by_cases hex : e = .exit id
    · subst hex
      have k1 : isXX id id (Q .normal fr' h') (Q (.exit id) fr' h') = true := k1
      unfold isXX at k1
      rw [Nat.beq_refl] at k1
      refine ⟨.normal, fr', h', k1, k2, k3, fun {H0 m frv a w} r hr hv ha => ?_⟩
      refine wpIn_block (wpIn_mono (k4 r hr hv ha) fun e' a' w' hp => ?_)
      obtain ⟨rfl, hp⟩ := hp
      show (if id = id then _ else _)
      rw [if_pos rfl]
      exact ⟨rfl, hp⟩
    · refine ⟨e, fr', h', ?_, k2, k3, fun {H0 m frv a w} r hr hv ha => ?_⟩
      · cases e with
        | exit k =>
          have k1 : isXX k id (Q .normal fr' h') (Q (.exit k) fr' h') = true := k1
          have hne : Nat.beq k id = false := by
            cases hb : Nat.beq k id with
            | false => rfl
            | true => exact absurd (by rw [Nat.eq_of_beq_eq_true hb]) hex
          unfold isXX at k1
          rw [hne] at k1
          exact k1
        | normal => exact k1
        | goto l => exact k1
        | ret => exact k1
        | panic c => exact k1
        | outgrown => exact k1
      · refine wpIn_block (wpIn_mono (k4 r hr hv ha) fun e' a' w' hp => ?_)
        obtain ⟨rfl, hp⟩ := hp
        cases e' with
        | exit k =>
          have hne : ¬ k = id := fun hkid => hex (by rw [hkid])
          show (if k = id then _ else _)
          rw [if_neg hne]
          exact ⟨rfl, hp⟩
        | normal => exact ⟨rfl, hp⟩
        | goto l => exact ⟨rfl, hp⟩
        | ret => exact ⟨rfl, hp⟩
        | panic c => exact ⟨rfl, hp⟩
        | outgrown => exact ⟨rfl, hp⟩
  | cond c x y ihx ihy =>
    intro ann Q fr h hk
    have hk : ∃ l r', xIte (evX fr c) (xc P qf Z C x l Q fr h) (xc P qf Z C y r' Q fr h) = true := by cases ann <;> exact ⟨_, _, hk⟩
    obtain ⟨l, r', hk⟩ := hk
    unfold xIte at hk
    split at hk
    · rename_i hc
      obtain ⟨e, fr', h', k1, k2, k3, k4⟩ := ihx l Q fr h hk
      refine ⟨e, fr', h', k1, k2, k3.mono fun k hk => List.mem_append_left _ hk, fun {H0 m frv a w} r hr hv ha => ?_⟩
      have hcv := ev_rel hv c
      rw [hc] at hcv
      exact wpIn_cond_true (by rw [ha.ev]; exact hcv) (k4 r hr hv ha)
    · rename_i hc
      obtain ⟨e, fr', h', k1, k2, k3, k4⟩ := ihy r' Q fr h hk
      refine ⟨e, fr', h', k1, k2, k3.mono fun k hk => List.mem_append_right _ hk, fun {H0 m frv a w} r hr hv ha => ?_⟩
      have hcv := ev_rel hv c
      rw [hc] at hcv
      exact wpIn_cond_false (by rw [ha.ev]; exact hcv) (k4 r hr hv ha)
    · cases hk
  | seq x y ihx ihy =>
    intro ann Q fr h hk
    have plain : ∀ l r', xc P qf Z C x l (thnX (xc P qf Z C y r' Q) Q) fr h = true → ∃ e fr' h', Q e fr' h' = true ∧ h'.wp = h.wp ∧ AgreeX (writes (.seq x y)) fr fr' ∧ SimC P (.seq x y) fr h e fr' h' := by
      intro l r' hk
      obtain ⟨e, fr1, h1, k1, k2, k3, k4⟩ := ihx l _ fr h hk
      rcases thnX_ok k1 with ⟨rfl, k1⟩ | ⟨hn, k1⟩
      · obtain ⟨e, fr2, h2, q1, q2, q3, q4⟩ := ihy r' Q fr1 h1 k1
        exact ⟨e, fr2, h2, q1, q2.trans k2, (k3.mono fun k hk => List.mem_append_left _ hk).trans (q3.mono fun k hk => List.mem_append_right _ hk), seq_ok k2 k4 (fun hv => hv) q4⟩
      · exact ⟨e, fr1, h1, k1, k2, k3.mono fun k hk => List.mem_append_left _ hk, seq_exit hn k4⟩
    have key : (∃ L J l r', (subB (writes x) (L ++ J) && subB J (writes x)) = true ∧ xc P qf Z C x l (thnX (fun fr' h' => xc P qf Z C y r' Q (layX L (grabX fr' L) (junkX J fr)) h') Q) fr h = true) ∨ ∃ l r', xc P qf Z C x l (thnX (xc P qf Z C y r' Q) Q) fr h = true := by
      unfold xc at hk
      split at hk
      · rw [ifX_eq] at hk
        split at hk
        · rename_i hs; exact .inl ⟨_, _, _, _, hs, hk⟩
        · cases hk
      · exact .inr ⟨_, _, hk⟩
      · exact .inr ⟨_, _, hk⟩
    rcases key with ⟨L, J, l, r', hs, hk⟩ | ⟨l, r', hk⟩
    · simp only [Bool.and_eq_true] at hs
      obtain ⟨e, fr1, h1, k1, k2, k3, k4⟩ := ihx l _ fr h hk
      rcases thnX_ok k1 with ⟨rfl, k1⟩ | ⟨hn, k1⟩
      · obtain ⟨e, fr2, h2, q1, q2, q3, q4⟩ := ihy r' Q _ h1 k1
        exact ⟨e, fr2, h2, q1, q2.trans k2, ((lay_agree k3 hs.2).mono fun k hk => List.mem_append_left _ hk).trans (q3.mono fun k hk => List.mem_append_right _ hk), seq_ok k2 k4 (fun hv => lay_rel k3 hs.1 hv) q4⟩
      · exact ⟨e, fr1, h1, k1, k2, k3.mono fun k hk => List.mem_append_left _ hk, seq_exit hn k4⟩
    · exact plain l r' hk
  | loop c ih =>
    intro ann Q fr h hk
    have key : ∃ L J b, (subB (writes c) (L ++ J) && subB J (writes c)) = true ∧ xLoop (n := L.length) (fun K s h => xc P qf Z C c b (thnX (fun fr' h' => K (grabX fr' L) h') Q) (layX L s (junkX J fr)) h) 1000000 (grabX fr L) h = true := by
      unfold xc at hk
      split at hk
      · rw [ifX_eq] at hk
        split at hk
        · rename_i hs; exact ⟨_, _, _, hs, hk⟩
        · cases hk
      · cases hk
    obtain ⟨L, J, b, hs, hk⟩ := key
    simp only [Bool.and_eq_true] at hs
    have rounds : ∀ (N : Nat) (fr1 : List CV) (h1 : CH), h1.wp = h.wp → AgreeX (writes c) fr fr1 →
        xLoop (n := L.length) (fun K s h => xc P qf Z C c b (thnX (fun fr' h' => K (grabX fr' L) h') Q) (layX L s (junkX J fr)) h) N (grabX fr1 L) h1 = true →
        ∃ e fr' h', Q e fr' h' = true ∧ h'.wp = h.wp ∧ AgreeX (writes c) fr fr' ∧ ∀ {H0 m frv a w} (r : Option Nat), Rel H0 m h1 w.heap → Vrels m fr1 frv → At a frv → Code.roundsIn (wideR r) 0 P c (PostX H0 m h1.wp e fr' h' a w) N a w := by
      intro N
      induction N with
      | zero => intro fr1 h1 _ _ hk; cases hk
      | succ N ihN =>
        intro fr1 h1 hw1 ha1 hk
        have hk' : xc P qf Z C c b (thnX (fun fr' h' => xLoop (n := L.length) (fun K s h => xc P qf Z C c b (thnX (fun fr' h' => K (grabX fr' L) h') Q) (layX L s (junkX J fr)) h) N (grabX fr' L) h') Q) (layX L (grabX fr1 L) (junkX J fr)) h1 = true := hk
        obtain ⟨e, fr2, h2, k1, k2, k3, k4⟩ := ih b _ _ h1 hk'
        have hag := (lay_agree (L := L) ha1 hs.2).trans k3
        rcases thnX_ok k1 with ⟨rfl, k1⟩ | ⟨hn, k1⟩
        · obtain ⟨e, fr3, h3, q1, q2, q3, q4⟩ := ihN fr2 h2 (k2.trans hw1) hag k1
          refine ⟨e, fr3, h3, q1, q2, q3, fun {H0 m frv a w} r hr hv ha => ?_⟩
          rw [roundsIn_succ]
          refine wpIn_mono (k4 r hr (lay_rel ha1 hs.1 hv) ha) fun e' a' w' hp => ?_
          obtain ⟨rfl, m', frv', p1, p2, p3, p4, p5, p6⟩ := hp
          have hq := q4 r p1 p3 p4
          rw [k2] at hq
          refine roundsIn_mono (fun e'' a'' w'' hp => ?_) _ _ _ hq
          exact hp.trans p2 p5 p6
        · refine ⟨e, fr2, h2, k1, k2.trans hw1, hag, fun {H0 m frv a w} r hr hv ha => ?_⟩
          rw [roundsIn_succ]
          refine wpIn_mono (k4 r hr (lay_rel ha1 hs.1 hv) ha) fun e' a' w' hp => ?_
          have hee := hp.1
          subst hee
          cases e' <;> first | exact absurd rfl hn | exact hp
    obtain ⟨e, fr', h', q1, q2, q3, q4⟩ := rounds 1000000 fr h rfl (AgreeX.refl _ _) hk
    exact ⟨e, fr', h', q1, q2, q3, fun {H0 m frv a w} r hr hv ha => wpIn_loop_rounds 1000000 (q4 r hr hv ha)⟩
  | scope c ih => intro ann Q fr h hk; cases ann <;> cases hk
  | goto l => intro ann Q fr h hk; cases ann <;> cases hk
  | refuse why => intro ann Q fr h hk; cases ann <;> cases hk
  | rangeFunc g ps x y ihx ihy => intro ann Q fr h hk; cases ann <;> cases hk
where
  roundsIn_mono {P : Program} {r : Option Nat} {c : Code} {Q Q' : Exit → Act → World → Prop} (hq : ∀ e a w, Q e a w → Q' e a w) : ∀ (N : Nat) (a : Act) (w : World), Code.roundsIn (wideR r) 0 P c Q N a w → Code.roundsIn (wideR r) 0 P c Q' N a w
    | 0, _, _, h => h
    | N + 1, a, w, h => by
      rw [roundsIn_succ] at h ⊢
      refine wpIn_mono h fun e a' w' hp => ?_
      cases e <;> first | exact roundsIn_mono hq N _ _ hp | exact hq _ _ _ hp
end Go.Xc
