/- Vc, part I: code's condition is sound; a function's contract. -/
import Derived.Test.YthijablhhnfoeaaVcH
set_option linter.unusedVariables false
set_option linter.unusedSimpArgs false
namespace Go.Vc

theorem havoc_len (j : Nat → Value) (fr : Fr) : ∀ J, (havoc J j fr).length = fr.length
  | [] => rfl
  | k :: J => by simp [havoc, havoc_len j fr J]
theorem havoc_get (j : Nat → Value) (fr : Fr) (k : Nat) : ∀ J, (havoc J j fr)[k]? = if k ∈ J ∧ k < fr.length then some (j k) else fr[k]?
  | [] => by simp [havoc]
  | i :: J => by
    simp only [havoc, List.getElem?_set, havoc_len, havoc_get j fr k J, List.mem_cons]
    by_cases hi : i = k
    · subst hi
      by_cases hl : i < fr.length
      · simp [hl]
      · simp [hl]
    · have : ¬ k = i := fun h => hi h.symm
      simp [hi, this]
theorem lay_len (fr : Fr) : ∀ L (s : Tup (List.length L)), (lay L s fr).length = fr.length
  | [], _ => rfl
  | k :: L, s => by simp [lay, lay_len fr L s.2]
theorem lay_grab_get (fr fr1 : Fr) (k : Nat) : ∀ L, (lay L (grab fr1 L) fr)[k]? = if k ∈ L ∧ k < fr.length then some (slot fr1 k) else fr[k]?
  | [] => by simp [lay]
  | i :: L => by
    simp only [lay, grab, List.getElem?_set, lay_len, lay_grab_get fr fr1 k L, List.mem_cons]
    by_cases hi : i = k
    · subst hi
      by_cases hl : i < fr.length
      · simp [hl]
      · simp [hl]
    · have : ¬ k = i := fun h => hi h.symm
      simp [hi, this]

theorem subB_spec {xs ys : List Nat} (h : subB xs ys = true) : ∀ k ∈ xs, k ∈ ys := fun k hk => by
  simpa using List.all_eq_true.1 h k hk

theorem lay_back {W L J : List Nat} {fr fr1 : Fr} (h : Agree W fr fr1) (hs : subB W (L ++ J) = true) : lay L (grab fr1 L) (havoc J (slot fr1) fr) = fr1 := by
  apply List.ext_getElem?
  intro k
  have hsl : k < fr.length → fr1[k]? = some (slot fr1 k) := fun hl => by
    have : k < fr1.length := by rw [h.1]; exact hl
    simp [slot, this]
  rw [lay_grab_get, havoc_len, havoc_get]
  by_cases hl : k < fr.length
  · by_cases hL : k ∈ L
    · simp [hL, hl, hsl hl]
    · by_cases hJ : k ∈ J
      · simp [hL, hJ, hl, hsl hl]
      · have : k ∉ W := fun hm => by
          have := subB_spec hs k hm
          simp [hL, hJ] at this
        simp [hL, hJ, h.2 k this]
  · have h1 : fr[k]? = none := List.getElem?_eq_none (by omega)
    have h2 : fr1[k]? = none := List.getElem?_eq_none (by rw [h.1]; omega)
    simp [hl, h1, h2]

section
variable {P : Program} {qf : FuncId → Bool} {r : Option Nat}

theorem wpOpsIn_of_runD {q : Bool} {ops : Array Oper} {cl : Nat → Cls} (hn : noSelB ops = true) {Q : Exit → Act → World → Prop} {K : Act → Hp → Prop} {w₀ : World} (hQ : ∀ a w, K a w.heap → Sm w₀ w → Q .normal a w) :
    ∀ (l : List Nat) (a : Act) (H : Hp) (w : World), Ex q H w.heap → Sm w₀ w → runD q P ops cl K l a H → wpOpsIn (wideR r) 0 P ops Q l a w
  | [], a, H, w, hx, hsm, h => hQ a w (h _ hx) hsm
  | i :: l, a, H, w, hx, hsm, h => by
    rw [wpOpsIn_cons]
    exact wpOpIn_of_stepD hn hx h fun a' H' w' hr hx' hsm' => wpOpsIn_of_runD hn hQ l a' H' w' hx' (hsm.trans hsm') hr

/-- What the walk hands on. -/
def Post (W : List Nat) (Q : Exit → Fr → Hp → Prop) (fr : Fr) (a : Act) (w : World) : Exit → Act → World → Prop := fun e a' w' =>
  ∃ fr', At a' fr' ∧ a'.defers = a.defers ∧ Agree W fr fr' ∧ Q e fr' w'.heap ∧ Sm w w'

theorem region_sound {ops : Array Oper} {dr : Bool} {id : Nat} {Q : Exit → Fr → Hp → Prop} {fr : Fr} {a : Act} {w : World} (ha : At a fr) (h : vcReg P qf ops dr fr w.heap (Q .normal)) :
    (Code.region id ops dr).wpIn (wideR r) 0 P (Post (dstsOf ops.toList) Q fr a w) a w := by
  unfold vcReg at h
  cases dr with
  | false =>
    simp only at h
    split at h
    · rename_i hn
      refine wpIn_region ?_
      have hrun := run_of_vcOps (P := P) (qf := qf) (dr := false) (q := false) (all := ops) (fun _ => rfl) (W := dstsOf ops.toList) (ds := a.defers) (fr₀ := fr) ops.toList 0 [] fr a w.heap (Q .normal) (by simp) (fun _ h => h) ha rfl (Agree.refl _ _) h
      rw [List.range_eq_range', ← Array.length_toList]
      exact wpOpsIn_of_runD hn (w₀ := w) (fun a' w' hk hsm => by obtain ⟨fr', h1, h2, h3, h4⟩ := hk; exact ⟨fr', h1, h2, h3, h4, hsm⟩) _ a w.heap w (Ex.refl _ _) (Sm.refl w) hrun
    · exact h.elim
  | true =>
    simp only at h
    split at h
    · rename_i hB
      simp only [Bool.and_eq_true] at hB
      have hrun := run_of_vcOps (P := P) (qf := qf) (dr := true) (q := anyQ qf ops) (all := ops) (fun h => by cases h) (W := dstsOf ops.toList) (ds := a.defers) (fr₀ := fr) ops.toList 0 [] fr a w.heap (Q .normal) (by simp) (fun _ h => h) ha rfl (Agree.refl _ _) h
      rw [← List.range_eq_range', Array.length_toList] at hrun
      exact wpIn_draw hB.1 hB.2 hrun fun a' w' hk hsm => by obtain ⟨fr', h1, h2, h3, h4⟩ := hk; exact ⟨fr', h1, h2, h3, h4, hsm⟩
    · exact h.elim

theorem Post.mono {W W' : List Nat} {Q Q' : Exit → Fr → Hp → Prop} {fr : Fr} {a : Act} {w : World} (hW : ∀ k ∈ W, k ∈ W') {e : Exit} {a' : Act} {w' : World} (hQ : ∀ fr H, Q e fr H → Q' e fr H) (h : Post W Q fr a w e a' w') : Post W' Q' fr a w e a' w' := by
  obtain ⟨fr', h1, h2, h3, h4, h5⟩ := h
  exact ⟨fr', h1, h2, h3.mono hW, hQ _ _ h4, h5⟩

theorem Post.trans {W : List Nat} {Q : Exit → Fr → Hp → Prop} {fr fr₁ : Fr} {a a₁ : Act} {w w₁ : World} (hd : a₁.defers = a.defers) (hA : Agree W fr fr₁) (hs : Sm w w₁) {e : Exit} {a' : Act} {w' : World} (h : Post W Q fr₁ a₁ w₁ e a' w') : Post W Q fr a w e a' w' := by
  obtain ⟨fr', h1, h2, h3, h4, h5⟩ := h
  exact ⟨fr', h1, h2.trans hd, hA.trans h3, h4, hs.trans h5⟩

theorem vc_sound : ∀ (c : Code) (ann : Ann) (Q : Exit → Fr → Hp → Prop) (fr : Fr) (a : Act) (w : World), At a fr → vc P qf c ann Q fr w.heap →
    c.wpIn (wideR r) 0 P (Post (writes c) Q fr a w) a w := by
  intro c
  induction c with
  | skip => intro ann Q fr a w ha h; exact wpIn_skip ⟨fr, ha, rfl, Agree.refl _ _, h, Sm.refl w⟩
  | label l => intro ann Q fr a w ha h; exact wpIn_label ⟨fr, ha, rfl, Agree.refl _ _, h, Sm.refl w⟩
  | ret => intro ann Q fr a w ha h; exact wpIn_ret ⟨fr, ha, rfl, Agree.refl _ _, h, Sm.refl w⟩
  | exit id => intro ann Q fr a w ha h; exact wpIn_exit ⟨fr, ha, rfl, Agree.refl _ _, h, Sm.refl w⟩
  | region id ops dr => intro ann Q fr a w ha h; exact region_sound ha h
  | block id c ih =>
    intro ann Q fr a w ha h
    refine wpIn_block (wpIn_mono (ih ann (blk id Q) fr a w ha h) fun e a' w' hp => ?_)
    cases e <;> try exact hp
    rename_i k
    simp only [Exit.inBlock]
    split
    · rename_i hk
      obtain ⟨fr', h1, h2, h3, h4, h5⟩ := hp
      simp only [blk, hk, if_true] at h4
      exact ⟨fr', h1, h2, h3, h4, h5⟩
    · rename_i hk
      obtain ⟨fr', h1, h2, h3, h4, h5⟩ := hp
      simp only [blk, hk, if_false] at h4
      exact ⟨fr', h1, h2, h3, h4, h5⟩
  | cond c x y ihx ihy =>
    intro ann Q fr a w ha h
    have key : ∃ l r', Ite (ev fr c) (vc P qf x l Q fr w.heap) (vc P qf y r' Q fr w.heap) := by
      unfold vc at h
      split at h
      · exact ⟨_, _, h⟩
      · exact ⟨_, _, h⟩
    obtain ⟨l, r', h⟩ := key
    unfold Ite at h
    split at h
    · rename_i hc
      refine wpIn_cond_true (by rw [ha.ev]; exact hc) (wpIn_mono (ihx l Q fr a w ha h) fun e a' w' hp => hp.mono (fun k hk => List.mem_append_left _ hk) fun _ _ h => h)
    · rename_i hc
      refine wpIn_cond_false (by rw [ha.ev]; exact hc) (wpIn_mono (ihy r' Q fr a w ha h) fun e a' w' hp => hp.mono (fun k hk => List.mem_append_right _ hk) fun _ _ h => h)
    · exact h.elim
  | seq x y ihx ihy =>
    intro ann Q fr a w ha h
    have fin : ∀ (l : Ann) (K : Fr → Hp → Prop), vc P qf x l (thn K Q) fr w.heap → (∀ fr' a' w', At a' fr' → a'.defers = a.defers → Agree (writes x) fr fr' → K fr' w'.heap → Sm w w' → ∃ r', vc P qf y r' Q fr' w'.heap) →
        (Code.seq x y).wpIn (wideR r) 0 P (Post (writes (.seq x y)) Q fr a w) a w := by
      intro l K hx hk
      refine wpIn_seq (wpIn_mono (ihx l (thn K Q) fr a w ha hx) fun e a' w' hp => ?_)
      cases e <;> try exact hp.mono (fun k hk => List.mem_append_left _ hk) fun _ _ h => h
      obtain ⟨fr', h1, h2, h3, h4, h5⟩ := hp
      obtain ⟨r', h6⟩ := hk fr' a' w' h1 h2 h3 h4 h5
      exact wpIn_mono (ihy r' Q fr' a' w' h1 h6) fun e a'' w'' hp => (hp.mono (fun k hk => List.mem_append_right _ hk) fun _ _ h => h).trans h2 (h3.mono fun k hk => List.mem_append_left _ hk) h5
    unfold vc at h
    split at h
    · rename_i L J l r'
      split at h
      · rename_i hs
        obtain ⟨K, hr, hf⟩ := h
        refine fin l _ hf fun fr' a' w' h1 h2 h3 h4 h5 => ⟨r', ?_⟩
        have := hr _ _ h4 (slot fr')
        simp only [lay_back h3 hs] at this
        exact this
      · exact h.elim
    · exact fin _ _ h fun fr' a' w' h1 h2 h3 h4 h5 => ⟨_, h4⟩
    · exact fin _ _ h fun fr' a' w' h1 h2 h3 h4 h5 => ⟨_, h4⟩
  | loop c ih =>
    intro ann Q fr a w ha h
    unfold vc at h
    split at h
    · rename_i L J b
      split at h
      · rename_i hs
        obtain ⟨I, μ, h0, hround⟩ := h
        refine wpIn_loop (fun a' w' => ∃ fr', At a' fr' ∧ a'.defers = a.defers ∧ Agree (writes c) fr fr' ∧ I (grab fr' L) w'.heap ∧ Sm w w') (fun a' w' => μ (grab a'.tmps.toList L) w'.heap) ⟨fr, ha, rfl, Agree.refl _ _, h0, Sm.refl w⟩ ?_
        rintro a' w' ⟨fr', h1, h2, h3, h4, h5⟩
        have hr := hround _ _ h4 (slot fr')
        simp only [lay_back h3 hs] at hr
        refine wpIn_mono (ih b _ fr' a' w' h1 hr) fun e a'' w'' hp => ?_
        have hp' := hp.trans h2 h3 h5
        cases e <;> try exact hp'
        obtain ⟨fr'', k1, k2, k3, k4, k5⟩ := hp'
        have e1 : a'.tmps.toList = fr' := by rw [show a'.tmps = fr'.toArray from h1]
        have e2 : a''.tmps.toList = fr'' := by rw [show a''.tmps = fr''.toArray from k1]
        refine ⟨⟨fr'', k1, k2, k3, k4.1, k5⟩, ?_⟩
        rw [e1, e2]
        exact k4.2
      · exact h.elim
    · exact h.elim
  | scope c ih => intro ann Q fr a w ha h; exact h.elim
  | goto l => intro ann Q fr a w ha h; exact h.elim
  | refuse why => intro ann Q fr a w ha h; exact h.elim
  | rangeFunc f ps x y ihx ihy => intro ann Q fr a w ha h; exact h.elim

/-! ### Functions -/
def resE (P : Program) (rv : ResultVar) (fr : Fr) (H : Hp) : Option Value :=
  match rv with
  | .tmp t => some (slot fr t)
  | .cell t T => loadE (ldK P T) (slot fr t) H
def resAll (P : Program) (fr : Fr) (H : Hp) : List ResultVar → Option (List Value)
  | [] => some []
  | r :: rs => match resE P r fr H with
    | some v => match resAll P fr H rs with
      | some vs => some (v :: vs)
      | none => none
    | none => none
def mkRes (vs : List Value) : Value :=
  match vs with
  | [v] => v
  | vs => .tuple vs.toArray
def resK (P : Program) (fr : Fr) (H : Hp) (R : Value → Hp → Prop) : List ResultVar → List Value → Prop
  | [], acc => R (mkRes acc.reverse) H
  | .tmp t :: rs, acc => resK P fr H R rs (slot fr t :: acc)
  | .cell t T :: rs, acc => Pu (loadE (ldK P T) (slot fr t) H) fun v => resK P fr H R rs (v :: acc)
def Res (P : Program) (rs : List ResultVar) (fr : Fr) (H : Hp) (R : Value → Hp → Prop) : Prop := resK P fr H R rs []

theorem resK_all {P : Program} {fr : Fr} {H : Hp} {R : Value → Hp → Prop} : ∀ (rs : List ResultVar) (acc : List Value), resK P fr H R rs acc → ∃ vs, resAll P fr H rs = some vs ∧ R (mkRes (acc.reverse ++ vs)) H
  | [], acc, h => ⟨[], rfl, by simpa [resK] using h⟩
  | .tmp t :: rs, acc, h => by
    obtain ⟨vs, h1, h2⟩ := resK_all rs _ h
    exact ⟨slot fr t :: vs, by simp [resAll, resE, h1], by simpa using h2⟩
  | .cell t T :: rs, acc, h => by
    obtain ⟨v, hv, h⟩ := h
    obtain ⟨vs, h1, h2⟩ := resK_all rs _ h
    exact ⟨v :: vs, by simp [resAll, resE, hv, h1], by simpa using h2⟩

def padF (args : List Value) (n : Nat) : Fr := args ++ List.replicate (n - args.length) undef

def VcFn (P : Program) (qf : FuncId → Bool) (fn : Func) (ann : Ann) (args : List Value) (H : Hp) (R : Value → Hp → Prop) : Prop :=
  match fn.body with
  | none => False
  | some c => vc P qf c ann (fun e fr H => match e with
    | .normal => Res P fn.results.toList fr H R
    | .ret => Res P fn.results.toList fr H R
    | _ => False) (padF args fn.ntmps) H

def resSem (tmps : Array Value) : ResultVar → Sem Value
  | .tmp t => pure (tmps.getD t undef)
  | .cell x t => do loadVar t (← asAddr (tmps.getD x undef))

theorem results_eq (fn : Func) (tmps : Array Value) : results fn tmps = (do
    let vs ← fn.results.toList.mapM (resSem tmps)
    pure (if h : vs.toArray.size = 1 then vs.toArray[0] else .tuple vs.toArray)) := by
  have e : results fn tmps = (do
      let vs ← fn.results.mapM (resSem tmps)
      pure (if h : vs.size = 1 then vs[0] else .tuple vs)) := by
    unfold results
    congr 2
  rw [e, ← Array.toArray_toList (xs := fn.results), List.mapM_toArray]
  simp only [bind_map_left]

theorem resE_ok {rv : ResultVar} {fr : Fr} {a : Act} (ha : At a fr) {w : World} {v : Value} (h : resE P rv fr w.heap = some v) : (resSem a.tmps rv).run P w = .ok v w := by
  cases rv with
  | tmp t => simp only [resE, Option.some.injEq] at h; subst h; unfold resSem; simp only [ha.slot]; rfl
  | cell x T =>
    simp only [resE] at h
    have hp : ∃ b, slot fr x = .pointer (some b) := by
      unfold loadE at h
      split at h
      · rename_i b _ hb; exact ⟨b, hb⟩
      · rename_i b _ hb; exact ⟨b, hb⟩
      · cases h
    obtain ⟨b, hb⟩ := hp
    rw [hb] at h
    simp only [resSem, ha.slot, hb, asAddr, Sem.run_bind, Sem.run_pure, Result.andThen_ok]
    exact loadVar_ok h

theorem resAll_ok {fr : Fr} {a : Act} (ha : At a fr) {w : World} : ∀ (rs : List ResultVar) (vs : List Value), resAll P fr w.heap rs = some vs →
    (rs.mapM (resSem a.tmps)).run P w = .ok vs w ∧ vs.length = rs.length
  | [], vs, h => by simp only [resAll, Option.some.injEq] at h; subst h; exact ⟨rfl, rfl⟩
  | r :: rs, vs, h => by
    simp only [resAll] at h
    cases h1 : resE P r fr w.heap with
    | none => simp [h1] at h
    | some v =>
      simp only [h1] at h
      cases h2 : resAll P fr w.heap rs with
      | none => simp [h2] at h
      | some vs' =>
        simp only [h2, Option.some.injEq] at h
        subst h
        obtain ⟨k1, k2⟩ := resAll_ok ha rs vs' h2
        rw [List.mapM_cons]
        exact ⟨by simp only [Sem.run_bind, resE_ok ha h1, Result.andThen_ok, k1, Sem.run_pure], by simp [k2]⟩

theorem results_ok {fn : Func} {fr : Fr} {a : Act} (ha : At a fr) {w : World} {R : Value → Hp → Prop} (h : Res P fn.results.toList fr w.heap R) : ∃ v, (results fn a.tmps).run P w = .ok v w ∧ R v w.heap := by
  rw [results_eq]
  obtain ⟨vs, hv, hR⟩ := resK_all _ _ h
  refine ⟨_, ?_, hR⟩
  simp only [Sem.run_bind, (resAll_ok ha _ _ hv).1, Result.andThen_ok, Sem.run_pure]
  have e : (if h : vs.toArray.size = 1 then vs.toArray[0] else Value.tuple vs.toArray) = mkRes ([].reverse ++ vs) := by
    match vs with
    | [] => rfl
    | [v] => rfl
    | v :: u :: vs => simp [mkRes]
  rw [e]

/-- A FUNCTION's CONTRACT, out of its body's condition. -/
theorem fn_of_vc {f : FuncId} {fn : Func} (qf : FuncId → Bool) (ann : Ann) (hf : P.funcs[f]? = some fn) {args : List Value} {H : Hp} {R : Value → Hp → Prop} (h : VcFn P qf fn ann args H R) : Fc P f args.toArray H R := by
  intro w hw
  subst hw
  unfold VcFn at h
  cases hb : fn.body with
  | none => simp only [hb] at h
  | some c =>
    simp only [hb] at h
    refine callsIn_of_wp hf hb trivial ?_ rfl
    have ha : At { tmps := args.toArray ++ Array.replicate (fn.ntmps - args.toArray.size) undef, defers := [] } (padF args fn.ntmps) := by
      simp [At, padF]
    refine wpIn_mono (vc_sound c ann _ _ _ w ha h) fun e a' w' hp => ?_
    obtain ⟨fr', h1, h2, _, h4, h5⟩ := hp
    cases e <;> simp only at h4 <;> try exact h4.elim
    · obtain ⟨v, hv, hR⟩ := results_ok h1 h4
      exact ⟨h2, v, hv, v, rfl, hR, h5⟩
    · obtain ⟨v, hv, hR⟩ := results_ok h1 h4
      exact ⟨h2, v, hv, v, rfl, hR, h5⟩
end
end Go.Vc
