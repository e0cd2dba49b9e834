/- Parts of a proof, joined in build order: a calculus of contracts, an executor, contracts of functions. -/
import Derived.Test.YtacfcgoighnioaaP0c0c259b17
import Derived.DefersIn
import Derived.Test.YtacfcgoighnioaaProg
/- Xc, part Q: functions that defer calls, run. -/
set_option linter.unusedVariables false
set_option linter.unusedSectionVars false
set_option linter.unusedSimpArgs false
namespace Go.Xc
open Go.Vc
variable [Sites]

/-- A region that makes a function value and defers its call: where the value goes, whose it is, what it holds. -/
def defAt (ops : Array Oper) : Option (Nat × Nat × Array Operand × Array Operand) :=
  match ops.toList with
  | [o1, o2] =>
    (match o1.op, o2.op with
    | .makeFunc (.func g) A C, .defer c =>
      (match o1.dst, c.callee with
      | some t, .value (.tmp t') => (match Nat.beq t t' && (c.args.toList.isEmpty && (o1.guard.isNone && (o2.guard.isNone && o2.dst.isNone))) with | true => some (t, g, A, C) | false => none)
      | _, _ => none)
    | _, _ => none)
  | _ => none
theorem defAt_ok {ops : Array Oper} {t g : Nat} {A C : Array Operand} (h : defAt ops = some (t, g, A, C)) : ∃ (o1 o2 : Oper) (c : Call), ops = #[o1, o2] ∧ o1.op = .makeFunc (.func g) A C ∧ o1.dst = some t ∧ o1.guard = none ∧ o2.op = .defer c ∧ c.callee = .value (.tmp t) ∧ c.args = #[] ∧ o2.guard = none ∧ o2.dst = none := by
  unfold defAt at h
  split at h <;> try (cases h; done)
  rename_i o1 o2 hl
  split at h <;> try (cases h; done)
  rename_i g' A' C' c hop1 hop2
  split at h <;> try (cases h; done)
  rename_i t1 t2 hd hc
  cases hb : (Nat.beq t1 t2 && (c.args.toList.isEmpty && (o1.guard.isNone && (o2.guard.isNone && o2.dst.isNone)))) with
  | false => rw [hb] at h; cases h
  | true =>
    rw [hb] at h
    have h : some (t1, g', A', C') = some (t, g, A, C) := h
    simp only [Option.some.injEq, Prod.mk.injEq] at h
    obtain ⟨rfl, rfl, rfl, rfl⟩ := h
    simp only [Bool.and_eq_true, Option.isNone_iff_eq_none, List.isEmpty_iff] at hb
    obtain ⟨h1, h2, h3, h4, h5⟩ := hb
    have h1 := Nat.eq_of_beq_eq_true h1
    subst h1
    refine ⟨o1, o2, c, ?_, hop1, hd, h3, hop2, hc, Array.toList_inj.1 (by simpa using h2), h4, h5⟩
    exact Array.toList_inj.1 (by rw [hl])

/-- What is deferred, by values of our own. -/
def Drels (m : M) : List CV → List Deferred → Prop
  | [], ds => ds = []
  | z :: l, ds => ∃ d ds', ds = d :: ds' ∧ (∃ g a c va vc, z = .fn g a c ∧ d = { target := .fn (.func g) vc, args := va } ∧ Vrels m a va.toList ∧ Vrels m c vc.toList) ∧ Drels m l ds'
theorem Drels.mono {m m' : M} (h : ∀ (k : Nat) (e : Nat × Nat), m[k]? = some e → m'[k]? = some e) : ∀ {l : List CV} {ds : List Deferred}, Drels m l ds → Drels m' l ds
  | [], _, hd => hd
  | _ :: _, _, ⟨d, ds', h1, ⟨g, a, c, va, vc, h2, h3, h4, h5⟩, h6⟩ => ⟨d, ds', h1, ⟨g, a, c, va, vc, h2, h3, Vrels.mono h _ h4, Vrels.mono h _ h5⟩, h6.mono h⟩

theorem def_region {P : Program} {id : Nat} {ops : Array Oper} {t g : Nat} {A C : Array Operand} (hd : defAt ops = some (t, g, A, C)) {m : M} {fr : List CV} {frv : Fr} {a : Act} {w : World} {Q : Exit → Act → World → Prop} (hv : Vrels m fr frv) (ha : At a frv)
    {fa fc : List CV} {g' : Nat} (hz : slotX (fr.set t (.fn g (opsX (evX fr) A) (opsX (evX fr) C))) t = .fn g' fa fc)
    (hfin : ∀ a' frv' d, Vrels m (fr.set t (.fn g (opsX (evX fr) A) (opsX (evX fr) C))) frv' → At a' frv' → (∃ va vc, d = { target := .fn (.func g') vc, args := va } ∧ Vrels m fa va.toList ∧ Vrels m fc vc.toList) → a'.defers = d :: a.defers → Q .normal a' w) :
    (Code.region id ops false).wpIn (wideR none) 0 P Q a w := by
  obtain ⟨o1, o2, c, rfl, hop1, hd1, hg1, hop2, hc, hargs, hg2, hd2⟩ := defAt_ok hd
  refine wpIn_region ?_
  have hr : List.range (#[o1, o2] : Array Oper).size = [0, 1] := rfl
  rw [hr]
  have w1 : Region.wanted o1 (yielded #[o1, o2] a.tmps) = true := by unfold Region.wanted; rw [hg1]
  have h0' : (#[o1, o2] : Array Oper)[0]? = some o1 := rfl
  have h1' : (#[o1, o2] : Array Oper)[1]? = some o2 := rfl
  simp only [wpOpsIn, h0', w1, if_true]
  let z : Value := .func (.func g) (A.map a.eval) (C.map a.eval)
  refine ⟨fun f hf => trivial, ?_⟩
  have e1 : (o1.semAt (wideR none).round a.eval).run P w = .ok (.value z) w := by
    show (execOp a.eval o1).run P w = _
    unfold execOp
    rw [hop1]
    simp [Instr.makeFunc, z]
  rw [e1, Oper.uponIn_value]
  have w2 : Region.wanted o2 (yielded #[o1, o2] (a.put o1.dst z).tmps) = true := by unfold Region.wanted; rw [hg2]
  simp only [h1', w2, if_true]
  have ha1 : At (a.put o1.dst z) (putF frv o1.dst z) := ha.put _ _
  have hz1 : Vrel m (.fn g (opsX (evX fr) A) (opsX (evX fr) C)) z := by
    refine ⟨_, _, rfl, ?_, ?_⟩
    · rw [ha.ev]; simpa [opsX] using Vrels_map (ev_rel hv) A.toList
    · rw [ha.ev]; simpa [opsX] using Vrels_map (ev_rel hv) C.toList
  have hv1 : Vrels m (fr.set t (.fn g (opsX (evX fr) A) (opsX (evX fr) C))) (putF frv o1.dst z) := by
    rw [hd1]
    exact set_rel hv t hz1
  have hsl := slot_rel hv1 t
  rw [hz] at hsl
  obtain ⟨va, vc, hsv, r1, r2⟩ := hsl
  have e2 : (o2.semAt (wideR none).round (a.put o1.dst z).eval).run P w = .ok (.defer { target := .fn (.func g') vc, args := va }) w := by
    show (execOp (a.put o1.dst z).eval o2).run P w = _
    unfold execOp
    rw [hop2]
    have : (a.put o1.dst z).eval (.tmp t) = .func (.func g') va vc := by rw [ha1.ev]; exact hsv
    simp [resolve, hc, this, hargs, Deferred.ofValue]
  refine ⟨fun f hf => trivial, ?_⟩
  rw [e2, Oper.uponIn_defer]
  have e3 : ∀ (b : Act), b.put o2.dst undef = b := fun b => by rw [hd2]; rfl
  rw [e3]
  refine hfin _ _ _ hv1 ?_ ⟨va, vc, rfl, r1, r2⟩ ?_
  · exact ha1
  · rw [hd1]; rfl

section
variable (P : Program) (qf : FuncId → Bool) (Z : List (Nat × CV)) (C : List (Nat × Ex)) (T : List (Nat × Plan))
noncomputable def xDefer (ops : Array Oper) (dr : Bool) (ds fr : List CV) (K : List CV → List CV → Bool) (alt : Bool) : Bool :=
  match defAt ops with
  | some (t, g, A, E) => ifX dr false ((fun fr1 => match slotX fr1 t with
    | .fn g' a c => K (.fn g' a c :: ds) fr1
    | _ => false) (fr.set t (.fn g (opsX (evX fr) A) (opsX (evX fr) E))))
  | none => alt
noncomputable def xcD : Code → Ann → (List CV → QX) → List CV → List CV → CH → Bool
  | .seq a b, ann, Q, ds, fr, h =>
    match ann with
    | .seq l r => xcD a l (fun ds' => thnX (xcD b r Q ds') (Q ds')) ds fr h
    | .join L J l r => xc P qf Z C T (.seq a b) (.join L J l r) (Q ds) fr h
    | _ => xcD a .nil (fun ds' => thnX (xcD b .nil Q ds') (Q ds')) ds fr h
  | .region id ops dr, ann, Q, ds, fr, h => xDefer ops dr ds fr (fun ds' fr' => Q ds' .normal fr' h) (xc P qf Z C T (.region id ops dr) ann (Q ds) fr h)
  | c, ann, Q, ds, fr, h => xc P qf Z C T c ann (Q ds) fr h
end

def PostD (H0 : Hp) (m : M) (wp : Nat) (ds' : List CV) (e : Exit) (fr' : List CV) (h' : CH) (w : World) : Exit → Act → World → Prop := fun e' a' w' =>
  e' = e ∧ ∃ m' frv', Rel H0 m' h' w'.heap ∧ Stp wp m w.heap m' w'.heap ∧ Vrels m' fr' frv' ∧ At a' frv' ∧ Drels m' ds' a'.defers ∧ Sm w w'
def SimCD (P : Program) (c : Code) (ds fr : List CV) (h : CH) (ds' : List CV) (e : Exit) (fr' : List CV) (h' : CH) : Prop :=
  ∀ {H0 m frv a w}, Rel H0 m h w.heap → Vrels m fr frv → At a frv → Drels m ds a.defers → c.wpIn (wideR none) 0 P (PostD H0 m h.wp ds' e fr' h' w) a w

theorem xcD_ok {P : Program} {qf : FuncId → Bool} {Z : List (Nat × CV)} {C : List (Nat × Ex)} {T : List (Nat × Plan)} (he : EnvOk P Z C) : ∀ (c : Code) (ann : Ann) (Q : List CV → QX) (ds fr : List CV) (h : CH), noDef c = true → xcD P qf Z C T c ann Q ds fr h = true →
    ∃ ds' e fr' h', Q ds' e fr' h' = true ∧ h'.wp = h.wp ∧ SimCD P c ds fr h ds' e fr' h' := by
  intro c
  have leaf : ∀ {c : Code} {ann : Ann} {Q : List CV → QX} {ds fr : List CV} {h : CH}, noDef c = true → xc P qf Z C T c ann (Q ds) fr h = true → ∃ ds' e fr' h', Q ds' e fr' h' = true ∧ h'.wp = h.wp ∧ SimCD P c ds fr h ds' e fr' h' := by
    intro c ann Q ds fr h hn hk
    obtain ⟨e, fr', h', k1, k2, _, k4⟩ := xc_ok (top := false) he c ann (Q ds) fr h hk (sites_none c ann hn)
    refine ⟨ds, e, fr', h', k1, k2, fun {H0 m frv a w} hr hv ha hd => ?_⟩
    refine wpIn_mono (k4 none (fun _ => rfl) hr hv ha) fun e' a' w' hp => ?_
    obtain ⟨rfl, m', frv', p1, p2, p3, p4, ⟨Ds, q1, q2, _⟩, p6⟩ := hp
    refine ⟨rfl, m', frv', p1, p2, p3, p4, ?_, p6⟩
    rw [q1, q2.2 rfl]
    exact hd.mono p2.pre
  have seqs : ∀ {x y : Code} {ds fr : List CV} {h : CH} {Q : List CV → QX} {K : List CV → List CV → CH → Bool},
      (∃ ds1 e fr1 h1, thnX (K ds1) (Q ds1) e fr1 h1 = true ∧ h1.wp = h.wp ∧ SimCD P x ds fr h ds1 e fr1 h1) →
      (∀ ds1 fr1 h1, K ds1 fr1 h1 = true → ∃ ds' e fr' h', Q ds' e fr' h' = true ∧ h'.wp = h1.wp ∧ SimCD P y ds1 fr1 h1 ds' e fr' h') →
      ∃ ds' e fr' h', Q ds' e fr' h' = true ∧ h'.wp = h.wp ∧ SimCD P (.seq x y) ds fr h ds' e fr' h' := by
    intro x y ds fr h Q K ⟨ds1, e1, fr1, h1, k1, w1, s1⟩ h2
    rcases thnX_ok k1 with ⟨rfl, k1⟩ | ⟨hne, k1⟩
    · obtain ⟨ds2, e2, fr2, h2', k2, w2, s2⟩ := h2 _ _ _ k1
      refine ⟨ds2, e2, fr2, h2', k2, w2.trans w1, fun {H0 m frv a w} hr hv ha hd => ?_⟩
      refine wpIn_seq (wpIn_mono (s1 hr hv ha hd) fun e' a' w' hp => ?_)
      obtain ⟨rfl, m1, frv1, p1, p2, p3, p4, p5, p6⟩ := hp
      refine wpIn_mono (s2 p1 p3 p4 p5) fun e'' a'' w'' hp => ?_
      obtain ⟨rfl, m2, frv2, q1, q2, q3, q4, q5, q6⟩ := hp
      rw [w1] at q2
      exact ⟨rfl, m2, frv2, q1, p2.trans q2, q3, q4, q5, p6.trans q6⟩
    · refine ⟨ds1, e1, fr1, h1, k1, w1, fun {H0 m frv a w} hr hv ha hd => ?_⟩
      refine wpIn_seq (wpIn_mono (s1 hr hv ha hd) fun e' a' w' hp => ?_)
      have := hp.1
      subst this
      cases e' <;> first | exact absurd rfl hne | exact hp
  induction c with
  | seq x y ihx ihy =>
    intro ann Q ds fr h hn hk
    have hn2 : (noDef x && noDef y) = true := hn
    simp only [Bool.and_eq_true] at hn2
    have go : ∀ {l r : Ann}, xcD P qf Z C T x l (fun ds' => thnX (xcD P qf Z C T y r Q ds') (Q ds')) ds fr h = true → ∃ ds' e fr' h', Q ds' e fr' h' = true ∧ h'.wp = h.wp ∧ SimCD P (.seq x y) ds fr h ds' e fr' h' := fun {l r} hk =>
      seqs (K := xcD P qf Z C T y r Q) (ihx l _ ds fr h hn2.1 hk) (fun ds1 fr1 h1 hk => ihy r Q ds1 fr1 h1 hn2.2 hk)
    cases ann with
    | seq l r => exact go hk
    | join L J l r => exact leaf (ann := .join L J l r) hn hk
    | nil => exact go hk
    | cond l r => exact go hk
    | loop L J b => exact go hk
  | region id ops dr =>
    intro ann Q ds fr h hn hk
    have hk2 : xDefer ops dr ds fr (fun ds' fr' => Q ds' .normal fr' h) (xc P qf Z C T (.region id ops dr) ann (Q ds) fr h) = true := by cases ann <;> exact hk
    clear hk
    unfold xDefer at hk2
    split at hk2
    · rename_i t g A E hd
      rw [ifX_eq] at hk2
      split at hk2 <;> try (cases hk2; done)
      rename_i hdr
      have hdr : dr = false := by cases dr <;> simp_all
      subst hdr
      have hk2 : (match slotX (fr.set t (.fn g (opsX (evX fr) A) (opsX (evX fr) E))) t with
        | .fn g' a c => Q (.fn g' a c :: ds) .normal (fr.set t (.fn g (opsX (evX fr) A) (opsX (evX fr) E))) h
        | _ => false) = true := hk2
      split at hk2 <;> try (cases hk2; done)
      rename_i g' fa fc hz
      refine ⟨_, _, _, _, hk2, rfl, fun {H0 m frv a w} hr hv ha hD => ?_⟩
      refine def_region hd hv ha hz fun a' frv' d r1 r2 r3 r4 => ?_
      obtain ⟨va, vc, r5, r6, r7⟩ := r3
      refine ⟨rfl, m, frv', hr, Stp.refl _ _ _, r1, r2, ?_, Sm.refl w⟩
      rw [r4]
      exact ⟨d, _, rfl, ⟨g', fa, fc, va, vc, rfl, r5, r6, r7⟩, hD⟩
    · exact leaf hn hk2
  | skip => intro ann Q ds fr h hn hk; exact leaf (ann := ann) hn (by cases ann <;> exact hk)
  | label l => intro ann Q ds fr h hn hk; exact leaf (ann := ann) hn (by cases ann <;> exact hk)
  | ret => intro ann Q ds fr h hn hk; exact leaf (ann := ann) hn (by cases ann <;> exact hk)
  | exit id => intro ann Q ds fr h hn hk; exact leaf (ann := ann) hn (by cases ann <;> exact hk)
  | block id c ih => intro ann Q ds fr h hn hk; exact leaf (ann := ann) hn (by cases ann <;> exact hk)
  | cond c x y ihx ihy => intro ann Q ds fr h hn hk; exact leaf (ann := ann) hn (by cases ann <;> exact hk)
  | loop c ih => intro ann Q ds fr h hn hk; exact leaf (ann := ann) hn (by cases ann <;> exact hk)
  | scope c ih => intro ann Q ds fr h hn hk; exact leaf (ann := ann) hn (by cases ann <;> exact hk)
  | goto l => intro ann Q ds fr h hn hk; exact leaf (ann := ann) hn (by cases ann <;> exact hk)
  | refuse why => intro ann Q ds fr h hn hk; exact leaf (ann := ann) hn (by cases ann <;> exact hk)
  | rangeFunc g ps x y ihx ihy => intro ann Q ds fr h hn hk; cases hn

/-- A run of a function that is deferred. -/
def SimD (P : Program) (f : FuncId) (ex : Ex) : Prop :=
  ∀ args h k, ex args h k = true → ∃ z h', k z h' = true ∧ h'.wp = h.wp ∧ ∀ {H0 m w vargs}, Rel H0 m h w.heap → Vrels m args vargs →
    CallsDIn (wideR none) 0 P f vargs.toArray .returning w fun e u' w' => u' = .returning ∧ ∃ v, e = .returned v ∧ ∃ m', Rel H0 m' h' w'.heap ∧ Stp h.wp m w.heap m' w'.heap ∧ Sm w w'
theorem simD_of {P : Program} {qf : FuncId → Bool} {Z : List (Nat × CV)} {C : List (Nat × Ex)} {T : List (Nat × Plan)} (he : EnvOk P Z C) {f : FuncId} {fn : Func} (ann : Ann) (hf : P.funcs[f]? = some fn) : SimD P f (xFn P qf Z C T fn ann) := by
  intro args h k hk
  unfold xFn at hk
  split at hk <;> try (cases hk; done)
  rename_i c hb
  rw [ifX_eq] at hk
  split at hk <;> try (cases hk; done)
  rename_i hn
  obtain ⟨e, fr', h', k1, k2, _, k4⟩ := xc_ok (top := false) he c ann _ _ h hk (sites_none c ann hn)
  have key : (e = .normal ∨ e = .ret) ∧ xRes P fr' h' (fun v => k v h') fn.results.toList [] = true := by
    cases e <;> first | exact ⟨.inl rfl, k1⟩ | exact ⟨.inr rfl, k1⟩ | cases k1
  obtain ⟨hex, hres⟩ := key
  obtain ⟨z, h1, h2⟩ := xRes_ok hres
  refine ⟨z, h', h1, k2, fun {H0 m w vargs} hr hv => ?_⟩
  refine CallsDIn.mono (callsDIn_of_wp (R := fun e w' => ∃ v, e = .returned v ∧ ∃ m', Rel H0 m' h' w'.heap ∧ Stp h.wp m w.heap m' w'.heap ∧ Sm w w') hf hb trivial ?_ rfl) fun e u' w' hp => hp
  have ha : At { tmps := vargs.toArray ++ Array.replicate (fn.ntmps - vargs.toArray.size) undef, defers := [] } (padF vargs fn.ntmps) := by
    simp [At, padF]
  refine wpIn_mono (k4 none (fun _ => rfl) hr (pad_rel hv fn.ntmps) ha) fun e' a' w' hp => ?_
  obtain ⟨rfl, m', frv', p1, p2, p3, p4, ⟨Ds, q1, q2, _⟩, p6⟩ := hp
  have hdef : a'.defers = [] := by rw [q1, q2.2 rfl]; rfl
  obtain ⟨v, hv1, hR⟩ := results_ok (R := fun v H' => H' = w'.heap) p4 (h2 p1 p3 rfl fun v hv => rfl)
  have fin : a'.defers = [] ∧ ∃ v, (results fn a'.tmps).run P w' = .ok v w' ∧ ∃ v', Ending.returned v = .returned v' ∧ ∃ m', Rel H0 m' h' w'.heap ∧ Stp h.wp m w.heap m' w'.heap ∧ Sm w w' := ⟨hdef, v, hv1, v, rfl, m', p1, p2, p6⟩
  rcases hex with rfl | rfl
  · exact fin
  · exact fin

def DxOk (P : Program) (D : List (Nat × Ex)) : Prop := ∀ p, p ∈ D → enterB P p.1 = true ∧ SimD P p.1 p.2
theorem dxNil {P : Program} : DxOk P [] := fun p hp => by cases hp
theorem dxCons {P : Program} {f : Nat} {ex : Ex} {D : List (Nat × Ex)} (h1 : enterB P f = true) (h2 : SimD P f ex) (h3 : DxOk P D) : DxOk P ((f, ex) :: D) := fun p hp => by
  rcases List.mem_cons.1 hp with rfl | hp
  · exact ⟨h1, h2⟩
  · exact h3 p hp

noncomputable def xRunDs (D : List (Nat × Ex)) : List CV → CH → (CH → Bool) → Bool
  | [], h, K => K h
  | z :: ds, h, K => match z with
    | .fn g a c => xCall (look D g) (a ++ c) h fun _ h' => xRunDs D ds h' K
    | _ => false
theorem xRunDs_ok {P : Program} {D : List (Nat × Ex)} (hD : DxOk P D) : ∀ {ds : List CV} {h : CH} {K : CH → Bool}, xRunDs D ds h K = true → ∃ h', K h' = true ∧ h'.wp = h.wp ∧ ∀ {H0 m w Ds fn tmps} {R : Ending → World → Prop}, Rel H0 m h w.heap → Drels m ds Ds →
      (∀ m' w', Rel H0 m' h' w'.heap → Stp h.wp m w.heap m' w'.heap → Sm w w' → LeavesInM (wideR none) 0 P fn tmps R [] .returning w') → LeavesInM (wideR none) 0 P fn tmps R Ds .returning w
  | [], h, K, hk => ⟨h, hk, rfl, fun {H0 m w Ds fn tmps R} hr hd hf => by
      simp only [Drels] at hd; subst hd
      exact hf m w hr (Stp.refl _ _ _) (Sm.refl w)⟩
  | z :: ds, h, K, hk => by
    unfold xRunDs at hk
    split at hk <;> try (cases hk; done)
    rename_i g a c
    unfold xCall at hk
    split at hk <;> try (cases hk; done)
    rename_i ex hl
    obtain ⟨hen, hsim⟩ := look_ok (Q := fun f ex => enterB P f = true ∧ SimD P f ex) hD hl
    obtain ⟨_, h1, k1, w1, s1⟩ := hsim _ _ _ hk
    obtain ⟨h2, k2, w2, s2⟩ := xRunDs_ok hD k1
    refine ⟨h2, k2, w2.trans w1, fun {H0 m w Ds fn tmps R} hr hd hf => ?_⟩
    obtain ⟨d, Ds', rfl, ⟨g', a', c', va, vc, hz, rfl, r1, r2⟩, r3⟩ := hd
    cases hz
    refine ⟨by simp, .inr ⟨fun hs => by simp [wideR, Fence.wide] at hs, .func g, vc, g, va ++ vc, rfl, ?_, fun _ _ => trivial, ?_⟩⟩
    · have := enter_ok hen (va ++ vc) w
      simpa [invoke] using this
    · have hc := s1 hr (Vrels_append r1 r2)
      have e1 : (va.toList ++ vc.toList).toArray = va ++ vc := by simp
      rw [e1] at hc
      refine CallsDIn.mono hc fun e u' w' hp => ?_
      obtain ⟨rfl, v, rfl, m', q1, q2, q3⟩ := hp
      show LeavesInM (wideR none) 0 P fn tmps R Ds' (settle .returning) w'
      refine s2 q1 (r3.mono q2.pre) fun m'' w'' t1 t2 t3 => hf m'' w'' t1 ?_ (q3.trans t3)
      rw [w1] at t2
      exact q2.trans t2

noncomputable abbrev retD (P : Program) (D : List (Nat × Ex)) (fn : Func) (k : CV → CH → Bool) (ds : List CV) : QX
  | .normal, fr, h => xRunDs D ds h fun h' => xRes P fr h' (fun v => k v h') fn.results.toList []
  | .ret, fr, h => xRunDs D ds h fun h' => xRes P fr h' (fun v => k v h') fn.results.toList []
  | _, _, _ => false
noncomputable def xFnD (P : Program) (qf : FuncId → Bool) (Z : List (Nat × CV)) (C D : List (Nat × Ex)) (T : List (Nat × Plan)) (fn : Func) (ann : Ann) (args : List CV) (h : CH) (k : CV → CH → Bool) : Bool :=
  match fn.body with
  | some c => ifX (noDef c) (xcD P qf Z C T c ann (retD P D fn k) [] (padX args fn.ntmps) h) false
  | none => false
theorem simDf_of {P : Program} {qf : FuncId → Bool} {Z : List (Nat × CV)} {C D : List (Nat × Ex)} {T : List (Nat × Plan)} (he : EnvOk P Z C) (hD : DxOk P D) {f : FuncId} {fn : Func} (ann : Ann) (hf : P.funcs[f]? = some fn) : SimF P f (xFnD P qf Z C D T fn ann) := by
  intro args h k hk
  unfold xFnD at hk
  split at hk <;> try (cases hk; done)
  rename_i c hb
  rw [ifX_eq] at hk
  split at hk <;> try (cases hk; done)
  rename_i hn
  obtain ⟨ds', e, fr', h', k1, k2, k4⟩ := xcD_ok he c ann _ [] _ h hn hk
  have key : (e = .normal ∨ e = .ret) ∧ xRunDs D ds' h' (fun h' => xRes P fr' h' (fun v => k v h') fn.results.toList []) = true := by
    cases e <;> first | exact ⟨.inl rfl, k1⟩ | exact ⟨.inr rfl, k1⟩ | cases k1
  obtain ⟨hex, hrun⟩ := key
  obtain ⟨h2, k5, w2, s2⟩ := xRunDs_ok hD hrun
  obtain ⟨z, h1, h3⟩ := xRes_ok k5
  refine ⟨z, h2, h1, w2.trans k2, fun {H0 m H vargs K} hr hv hK => ?_⟩
  intro w hw
  subst hw
  refine callsIn_of_wp_marks hf hb trivial ?_ rfl
  have ha : At { tmps := vargs.toArray ++ Array.replicate (fn.ntmps - vargs.toArray.size) undef, defers := [] } (padF vargs fn.ntmps) := by
    simp [At, padF]
  refine wpIn_mono (k4 hr (pad_rel hv fn.ntmps) ha rfl) fun e' a' w' hp => ?_
  obtain ⟨rfl, m', frv', p1, p2, p3, p4, p5, p6⟩ := hp
  have ht : a'.tmps.toList = frv' := by rw [show a'.tmps = frv'.toArray from p4]
  have fin : LeavesInM (wideR none) 0 P fn a'.tmps (fun e w' => ∃ v, e = .returned v ∧ K v w'.heap ∧ Sm w w') a'.defers .returning w' := by
    refine s2 p1 p5 fun m'' w'' q1 q2 q3 => ?_
    rw [k2] at q2
    have hres : Res P fn.results.toList frv' w''.heap K := h3 q1 (Vrels.mono q2.pre fr' p3) rfl fun v hv => hK m'' w''.heap v q1 (p2.trans q2) hv
    obtain ⟨v, hv, hR⟩ := results_ok (a := a') p4 hres
    exact ⟨v, hv, v, rfl, hR, p6.trans q3⟩
  rcases hex with rfl | rfl
  · exact fin
  · exact fin

/-! ### A run with one block that was there before: a slice of the caller's -/
/-- One block, of which nothing is known, and which is not written. -/
noncomputable def hS : CH := .mk (.nd .lf (some (.fz 0 0 0)) .lf) 1 1
theorem get_hS {k : Nat} {o : CO} (h : hS.get k = some o) : k = 0 ∧ o = .fz 0 0 0 := by
  cases k with
  | zero =>
    have h : some (CO.fz 0 0 0) = some o := h
    injection h with h
    exact ⟨rfl, h.symm⟩
  | succ k =>
    exfalso
    have h : (Tr.nd .lf (some (CO.fz 0 0 0)) .lf).get (k + 1) = some o := h
    rw [Tr.get_s] at h
    split at h <;> cases h
theorem relS {H : Hp} {b : Nat} {c : Array Value} {T : TypeId} {z : Nat × Nat} (hb : H[b]? = some (.cells c T z)) : Rel #[] [(b, c.size)] hS H := by
  refine ⟨⟨Nat.zero_le _, fun b hb => by simp at hb⟩, rfl, fun k e _ => Nat.zero_le _, fun k o hk => ?_, fun j k x y d e hj hk _ _ _ => ?_, fun k e hk => ?_⟩
  · obtain ⟨rfl, rfl⟩ := get_hS hk
    exact ⟨_, _, rfl, hb, c, T, z, rfl, rfl, Nat.zero_le _, by simp [bytesL]⟩
  · rw [(get_hS hj).1, (get_hS hk).1]
  · cases k with
    | zero =>
      simp only [List.getElem?_cons_zero, Option.some.injEq] at hk
      subst hk
      exact Vc.lt_of_block hb
    | succ k => simp at hk
theorem closedS {P : Program} {f : FuncId} {ex : Ex} {xs : List CV} (hs : SimF P f ex) {T : TypeId} (hk : ex xs hS (fun z _ => isTrue z) = true) {H : Hp} {b : Nat} {c : Array Value} {z : Nat × Nat} (hb : H[b]? = some (.cells c T z)) {vs : List Value} (hv : Vrels [(b, c.size)] xs vs) {R : Value → Hp → Prop} (h : ∀ H', Ext H H' → R (.bool true) H') : Fc P f vs.toArray H R := by
  obtain ⟨z', h', h1, _, h2⟩ := hs _ _ _ hk
  rw [isTrue_ok h1] at h2
  refine h2 (relS hb) hv fun m' H' v r1 r2 r3 => ?_
  simp only [Vrel] at r3; subst r3
  refine h H' (r2.kp.ext fun b' _ hw => ?_)
  obtain ⟨k, e, h3, h4, _⟩ := hw
  have h4 : 1 ≤ k := h4
  rw [List.getElem?_eq_none (by simpa using h4)] at h3
  cases h3
end Go.Xc

/- Functions, run; each tied to the program. -/
set_option linter.unusedVariables false
set_option linter.unusedSimpArgs false
namespace Go.Proofs
open Go.Vc Go.Xc
noncomputable instance : Sites := sitesOf Try.prog
def zs : List (Nat × CV) := [(3, (.int .i64 (.ofNat 0))),
  (51, (.agg [(.bytes 1024 0)])),
  (74, (.agg [(.int .i64 (.ofNat 0)), (.bytes 1024 0)])),
  (79, .nilp),
  (81, (.agg [(.int .i64 (.ofNat 0)), (.bytes 1024 0), (.bool false), .nilp, .nilp])),
  (83, (.agg [.nilp, (.int .i64 (.ofNat 0)), (.int .i64 (.ofNat 0)), (.int .i64 (.ofNat 0)), (.bytes 1024 0), (.bool false), .nilp, .nilp, .nilm])),
  (92, (.agg [(.int .i64 (.ofNat 0)), .nilm, .nilm, .nils, .nils, (.int .i64 (.ofNat 0)), (.bool false), (.int .i64 (.ofNat 0)), (.int .i64 (.ofNat 0)), (.int .i64 (.ofNat 0)), (.int .i64 (.ofNat 0))])),
  (96, (.agg [(.bytes 1 0), (.int .i64 (.ofNat 0)), (.bytes 1024 0)]))]
set_option maxRecDepth 100000 in
theorem zsOk : zerosB Try.prog zs = true := by kernel_rfl

/- undercroft/disk.New -/
noncomputable abbrev c50_1 (v0 : CV) (x2 : CV) (x3 : CV) (h3 : CH) (k : CV → CH → Bool) : Bool :=
 xBuild (some (.inl [(0, 1), (1, 1), (2, 1), (3, 1), (4, 1), (5, 1), (6, 1), (7, 1), (8, 1), (9, 1), (10, 1)])) (some (.agg [(.int .i64 (.ofNat 0)), .nilm, .nilm, .nils, .nils, (.int .i64 (.ofNat 0)), (.bool false), (.int .i64 (.ofNat 0)), (.int .i64 (.ofNat 0)), (.int .i64 (.ofNat 0)), (.int .i64 (.ofNat 0))])) [(0, v0), (1, x2), (2, x3), (5, (.int .i64 (.negSucc 0)))] fun x4 =>
 xBox 92 x4 h3 fun x5 h4 =>
 k (.tup [x5, (.int .i64 (.ofNat 0))]) h4
noncomputable def bd50 (v0 : CV) (h : CH) (k : CV → CH → Bool) : Bool :=
 xJoin (n := 1) (fun s0 h1 =>
  xIte s0.1
   (k (.tup [.nilp, (.int .i64 (.ofNat 2))]) h1)
   (xNewMap h1 fun x2 h2 =>
   xNewMap h2 fun x3 h3 =>
   c50_1 v0 x2 x3 h3 k))
 (fun K5 => xBin (some (.int .i64)) .lss v0 (.int .i64 (.ofNat 1)) fun x7 =>
 xIte x7
  (K5 ((.bool true), ()) h)
  (xBin (some (.int .i64)) .gtr v0 (.int .i64 (.ofNat 1048576)) fun x8 =>
  K5 (x8, ()) h))
noncomputable abbrev ex50 : Ex := fun args h k => a1 args fun v0 => bd50 v0 h k
set_option maxRecDepth 100000 in
theorem sim50 : SimF Try.prog 50 ex50 := fun args h k hk => by
  obtain ⟨v0, rfl, hk⟩ := a1_ok hk
  exact sim_of (qf := (fun f => [31].contains f)) (Z := zs) (C := []) (T := []) ⟨zerosB_ok zsOk, exNil⟩ (.seq .nil (.seq (.join [9] [4, 5, 6, 7, 8] .nil .nil) .nil)) Try.func50 _ h k (Eq.mp (by kernel_rfl : (bd50 v0 h k = true) = (xFn Try.prog (fun f => [31].contains f) zs [] [] Try.f50 (.seq .nil (.seq (.join [9] [4, 5, 6, 7, 8] .nil .nil) .nil)) [v0] h k = true)) hk)

/- (*undercroft/disk.Disk).is -/
noncomputable def bd46 (v0 : CV) (h : CH) (k : CV → CH → Bool) : Bool :=
 xEq (some .ptr) .neq v0 .nilp h fun x1 =>
 xIte x1
  (xNilCheck v0 fun x2 =>
  xAddr (some 0) x2 fun x3 =>
  xLoad (some none) x3 h fun x4 =>
  xBin (some (.int .i64)) .gtr x4 (.int .i64 (.ofNat 0)) fun x5 =>
  k x5 h)
  (k (.bool false) h)
noncomputable abbrev ex46 : Ex := fun args h k => a1 args fun v0 => bd46 v0 h k
set_option maxRecDepth 100000 in
theorem sim46 : SimF Try.prog 46 ex46 := fun args h k hk => by
  obtain ⟨v0, rfl, hk⟩ := a1_ok hk
  exact sim_of (qf := (fun f => [31].contains f)) (Z := zs) (C := []) (T := []) ⟨zerosB_ok zsOk, exNil⟩ .nil Try.func46 _ h k (Eq.mp (by kernel_rfl : (bd46 v0 h k = true) = (xFn Try.prog (fun f => [31].contains f) zs [] [] Try.f46 .nil [v0] h k = true)) hk)

/- (*undercroft/disk.Disk).Len -/
noncomputable def bd35 (v0 : CV) (h : CH) (k : CV → CH → Bool) : Bool :=
 bd46 v0 h fun x1 h1 =>
 xUn .not x1 fun x2 =>
 xIte x2
  (k (.int .i64 (.ofNat 0)) h1)
  (xNilCheck v0 fun x3 =>
  xAddr (some 0) x3 fun x4 =>
  xLoad (some none) x4 h1 fun x5 =>
  k x5 h1)
noncomputable abbrev ex35 : Ex := fun args h k => a1 args fun v0 => bd35 v0 h k
set_option maxRecDepth 100000 in
theorem sim35 : SimF Try.prog 35 ex35 := fun args h k hk => by
  obtain ⟨v0, rfl, hk⟩ := a1_ok hk
  exact sim_of (qf := (fun f => [31].contains f)) (Z := zs) (C := [(46, ex46)]) (T := []) ⟨zerosB_ok zsOk, (exCons (by kernel_rfl) sim46 exNil)⟩ .nil Try.func35 _ h k (Eq.mp (by kernel_rfl : (bd35 v0 h k = true) = (xFn Try.prog (fun f => [31].contains f) zs [(46, ex46)] [] Try.f35 .nil [v0] h k = true)) hk)

/- undercroft/cache.New -/
noncomputable abbrev c7_1 (x7 : CV) (x6 : CV) (h4 : CH) (k : CV → CH → Bool) : Bool :=
 xAddr (some 3) x7 fun x8 =>
 xNilCheck x6 fun x9 =>
 xAddr (some 3) x9 fun x10 =>
 xAddr (some 1026) x10 fun x11 =>
 xStore (some 1) x11 x8 h4 fun h5 =>
 xNilCheck x6 fun x12 =>
 xAddr (some 3) x12 fun x13 =>
 xNilCheck x6 fun x14 =>
 xAddr (some 3) x14 fun x15 =>
 xAddr (some 1027) x15 fun x16 =>
 xStore (some 1) x16 x13 h5 fun h6 =>
 k (.tup [x6, (.int .i64 (.ofNat 0))]) h6
noncomputable abbrev c7_2 (s2 : TupC 1) (k : CV → CH → Bool) (h2 : CH) (v0 : CV) (v1 : CV) : Bool :=
 xIte s2.1
  (k (.tup [.nilp, (.int .i64 (.ofNat 2))]) h2)
  (xNewMap h2 fun x4 h3 =>
  xBuild (some (.inl [(0, 1), (1, 1), (2, 1), (3, 1028), (1031, 1)])) (some (.agg [.nilp, (.int .i64 (.ofNat 0)), (.int .i64 (.ofNat 0)), (.int .i64 (.ofNat 0)), (.bytes 1024 0), (.bool false), .nilp, .nilp, .nilm])) [(0, v0), (1, v1), (4, x4)] fun x5 =>
  xBox 83 x5 h3 fun x6 h4 =>
  xNilCheck x6 fun x7 =>
  c7_1 x7 x6 h4 k)
noncomputable abbrev c7_3 (x1 : CV) (k : CV → CH → Bool) (h1 : CH) (v0 : CV) (v1 : CV) : Bool :=
 xBin (some (.int .i64)) .eql x1 (.int .i64 (.ofNat 0)) fun x2 =>
 xIte x2
  (k (.tup [.nilp, (.int .i64 (.ofNat 1))]) h1)
  (xJoin (n := 1) (fun s2 h2 =>
   c7_2 s2 k h2 v0 v1)
  (fun K16 => xBin (some (.int .i64)) .lss v1 (.int .i64 (.ofNat 1)) fun x18 =>
  xIte x18
   (K16 ((.bool true), ()) h1)
   (xBin (some (.int .i64)) .gtr v1 (.int .i64 (.ofNat 4096)) fun x19 =>
   K16 (x19, ()) h1)))
noncomputable def bd7 (v0 v1 : CV) (h : CH) (k : CV → CH → Bool) : Bool :=
 bd35 v0 h fun x1 h1 =>
 c7_3 x1 k h1 v0 v1
noncomputable abbrev ex7 : Ex := fun args h k => a2 args fun v0 v1 => bd7 v0 v1 h k
set_option maxRecDepth 100000 in
theorem sim7 : SimF Try.prog 7 ex7 := fun args h k hk => by
  obtain ⟨v0, v1, rfl, hk⟩ := a2_ok hk
  exact sim_of (qf := (fun f => [31].contains f)) (Z := zs) (C := [(35, ex35)]) (T := []) ⟨zerosB_ok zsOk, (exCons (by kernel_rfl) sim35 exNil)⟩ (.seq .nil (.seq .nil (.seq (.join [15] [10, 11, 12, 13, 14] .nil .nil) .nil))) Try.func7 _ h k (Eq.mp (by kernel_rfl : (bd7 v0 v1 h k = true) = (xFn Try.prog (fun f => [31].contains f) zs [(35, ex35)] [] Try.f7 (.seq .nil (.seq .nil (.seq (.join [15] [10, 11, 12, 13, 14] .nil .nil) .nil))) [v0, v1] h k = true)) hk)

/- (*undercroft/disk.Disk).Stopped -/
noncomputable def bd29 (v0 : CV) (h : CH) (k : CV → CH → Bool) : Bool :=
 bd46 v0 h fun x1 h1 =>
 xIte x1
  (xNilCheck v0 fun x2 =>
  xAddr (some 6) x2 fun x3 =>
  xLoad (some none) x3 h1 fun x4 =>
  k x4 h1)
  (k (.bool false) h1)
noncomputable abbrev ex29 : Ex := fun args h k => a1 args fun v0 => bd29 v0 h k
set_option maxRecDepth 100000 in
theorem sim29 : SimF Try.prog 29 ex29 := fun args h k hk => by
  obtain ⟨v0, rfl, hk⟩ := a1_ok hk
  exact sim_of (qf := (fun f => [31].contains f)) (Z := zs) (C := [(46, ex46)]) (T := []) ⟨zerosB_ok zsOk, (exCons (by kernel_rfl) sim46 exNil)⟩ .nil Try.func29 _ h k (Eq.mp (by kernel_rfl : (bd29 v0 h k = true) = (xFn Try.prog (fun f => [31].contains f) zs [(46, ex46)] [] Try.f29 .nil [v0] h k = true)) hk)

/- (*undercroft/cache.Cache).check -/
noncomputable abbrev c42_1 (k : CV → CH → Bool) (v1 : CV) (h2 : CH) (v0 : CV) : Bool :=
 xJoin (n := 1) (fun s5 h3 =>
  xIte s5.1
   (k (.int .i64 (.ofNat 2)) h3)
   (k (.int .i64 (.ofNat 0)) h3))
 (fun K6 => xBin (some (.int .i64)) .lss v1 (.int .i64 (.ofNat 0)) fun x8 =>
 xIte x8
  (K6 ((.bool true), ()) h2)
  (xNilCheck v0 fun x9 =>
  xAddr (some 0) x9 fun x10 =>
  xLoad (some none) x10 h2 fun x11 =>
  bd35 x11 h2 fun x12 h4 =>
  xBin (some (.int .i64)) .geq v1 x12 fun x13 =>
  K6 (x13, ()) h4))
noncomputable def bd42 (v0 v1 : CV) (h : CH) (k : CV → CH → Bool) : Bool :=
 xJoin (n := 1) (fun s0 h1 =>
  xIte s0.1
   (k (.int .i64 (.ofNat 1)) h1)
   (xNilCheck v0 fun x2 =>
   xAddr (some 0) x2 fun x3 =>
   xLoad (some none) x3 h1 fun x4 =>
   bd29 x4 h1 fun x5 h2 =>
   xIte x5
    (k (.int .i64 (.ofNat 3)) h2)
    (c42_1 k v1 h2 v0)))
 (fun K13 => xEq (some .ptr) .eql v0 .nilp h fun x15 =>
 xIte x15
  (K13 ((.bool true), ()) h)
  (xNilCheck v0 fun x16 =>
  xAddr (some 0) x16 fun x17 =>
  xLoad (some none) x17 h fun x18 =>
  xEq (some .ptr) .eql x18 .nilp h fun x19 =>
  K13 (x19, ()) h))
noncomputable abbrev ex42 : Ex := fun args h k => a2 args fun v0 v1 => bd42 v0 v1 h k
set_option maxRecDepth 100000 in
theorem sim42 : SimF Try.prog 42 ex42 := fun args h k hk => by
  obtain ⟨v0, v1, rfl, hk⟩ := a2_ok hk
  exact sim_of (qf := (fun f => [31].contains f)) (Z := zs) (C := [(29, ex29), (35, ex35)]) (T := []) ⟨zerosB_ok zsOk, (exCons (by kernel_rfl) sim29 (exCons (by kernel_rfl) sim35 exNil))⟩ (.seq .nil (.seq (.join [5] [6, 7, 8, 9, 10, 11, 12, 13, 14] .nil (.cond .nil (.seq .nil (.cond .nil (.join [21] [22, 23, 24, 25, 26, 27, 28, 29, 30, 31, 32] .nil .nil))))) .nil)) Try.func42 _ h k (Eq.mp (by kernel_rfl : (bd42 v0 v1 h k = true) = (xFn Try.prog (fun f => [31].contains f) zs [(29, ex29), (35, ex35)] [] Try.f42 (.seq .nil (.seq (.join [5] [6, 7, 8, 9, 10, 11, 12, 13, 14] .nil (.cond .nil (.seq .nil (.cond .nil (.join [21] [22, 23, 24, 25, 26, 27, 28, 29, 30, 31, 32] .nil .nil))))) .nil)) [v0, v1] h k = true)) hk)

/- (*undercroft/cache.link).leave -/
noncomputable abbrev c43_1 (x7 : CV) (x6 : CV) (h : CH) (v0 : CV) (k : CV → CH → Bool) : Bool :=
 xAddr (some 1027) x7 fun x8 =>
 xStore (some 1) x8 x6 h fun h1 =>
 xNilCheck v0 fun x9 =>
 xAddr (some 1027) x9 fun x10 =>
 xLoad (some none) x10 h1 fun x11 =>
 xNilCheck v0 fun x12 =>
 xAddr (some 1026) x12 fun x13 =>
 xLoad (some none) x13 h1 fun x14 =>
 xNilCheck x11 fun x15 =>
 xAddr (some 1026) x15 fun x16 =>
 xStore (some 1) x16 x14 h1 fun h2 =>
 k (.tup []) h2
noncomputable def bd43 (v0 : CV) (h : CH) (k : CV → CH → Bool) : Bool :=
 xNilCheck v0 fun x1 =>
 xAddr (some 1026) x1 fun x2 =>
 xLoad (some none) x2 h fun x3 =>
 xNilCheck v0 fun x4 =>
 xAddr (some 1027) x4 fun x5 =>
 xLoad (some none) x5 h fun x6 =>
 xNilCheck x3 fun x7 =>
 c43_1 x7 x6 h v0 k
noncomputable abbrev ex43 : Ex := fun args h k => a1 args fun v0 => bd43 v0 h k
set_option maxRecDepth 100000 in
theorem sim43 : SimF Try.prog 43 ex43 := fun args h k hk => by
  obtain ⟨v0, rfl, hk⟩ := a1_ok hk
  exact sim_of (qf := (fun f => [31].contains f)) (Z := zs) (C := []) (T := []) ⟨zerosB_ok zsOk, exNil⟩ .nil Try.func43 _ h k (Eq.mp (by kernel_rfl : (bd43 v0 h k = true) = (xFn Try.prog (fun f => [31].contains f) zs [] [] Try.f43 .nil [v0] h k = true)) hk)

/- (*undercroft/cache.Cache).room -/
noncomputable abbrev c45_1 (x24 : CV) (s19 : TupC 1) (h1 : CH) (K20 : TupC 1 → CH → Bool) (v0 : CV) (k : CV → CH → Bool) : Bool :=
 xIte x24
  (xNilCheck s19.1 fun x25 =>
  xAddr (some 1027) x25 fun x26 =>
  xLoad (some none) x26 h1 fun x27 =>
  K20 (x27, ()) h1)
  (bd43 s19.1 h1 fun x28 h2 =>
  xNilCheck v0 fun x29 =>
  xAddr (some 1031) x29 fun x30 =>
  xLoad (some none) x30 h2 fun x31 =>
  xNilCheck s19.1 fun x32 =>
  xAddr (some 0) x32 fun x33 =>
  xLoad (some none) x33 h2 fun x34 =>
  xMapDel (some (3, .int .i64, 79)) x31 x34 h2 fun h3 =>
  k (.bool true) h3)
noncomputable abbrev c45_2 (x11 : CV) (x14 : CV) (k : CV → CH → Bool) (h : CH) (v0 : CV) : Bool :=
 xBin (some (.int .i64)) .lss x11 x14 fun x15 =>
 xIte x15
  (k (.bool true) h)
  (xNilCheck v0 fun x16 =>
  xAddr (some 3) x16 fun x17 =>
  xAddr (some 1027) x17 fun x18 =>
  xLoad (some none) x18 h fun x19 =>
  xLoop (n := 1) (fun K20 s19 h1 =>
   xNilCheck s19.1 fun x22 =>
   xAddr (some 1025) x22 fun x23 =>
   xLoad (some none) x23 h1 fun x24 =>
   c45_1 x24 s19 h1 K20 v0 k) 1000000 (x19, ()) h)
noncomputable abbrev c45_3 (x4 : CV) (h : CH) (x3 : CV) (k : CV → CH → Bool) (v0 : CV) : Bool :=
 xAddr (some 1) x4 fun x5 =>
 xLoad (some none) x5 h fun x6 =>
 xBin (some (.int .i64)) .geq x3 x6 fun x7 =>
 xIte x7
  (k (.bool false) h)
  (xNilCheck v0 fun x8 =>
  xAddr (some 1031) x8 fun x9 =>
  xLoad (some none) x9 h fun x10 =>
  xMapLen x10 h fun x11 =>
  xNilCheck v0 fun x12 =>
  xAddr (some 1) x12 fun x13 =>
  xLoad (some none) x13 h fun x14 =>
  c45_2 x11 x14 k h v0)
noncomputable def bd45 (v0 : CV) (h : CH) (k : CV → CH → Bool) : Bool :=
 xNilCheck v0 fun x1 =>
 xAddr (some 2) x1 fun x2 =>
 xLoad (some none) x2 h fun x3 =>
 xNilCheck v0 fun x4 =>
 c45_3 x4 h x3 k v0
noncomputable abbrev ex45 : Ex := fun args h k => a1 args fun v0 => bd45 v0 h k
set_option maxRecDepth 100000 in
theorem sim45 : SimF Try.prog 45 ex45 := fun args h k hk => by
  obtain ⟨v0, rfl, hk⟩ := a1_ok hk
  exact sim_of (qf := (fun f => [31].contains f)) (Z := zs) (C := [(43, ex43)]) (T := []) ⟨zerosB_ok zsOk, (exCons (by kernel_rfl) sim43 exNil)⟩ (.seq .nil (.seq .nil (.seq .nil (.seq .nil (.seq (.loop [3] [28, 29, 30, 31, 32, 33, 34, 35] .nil) .nil))))) Try.func45 _ h k (Eq.mp (by kernel_rfl : (bd45 v0 h k = true) = (xFn Try.prog (fun f => [31].contains f) zs [(43, ex43)] [] Try.f45 (.seq .nil (.seq .nil (.seq .nil (.seq .nil (.seq (.loop [3] [28, 29, 30, 31, 32, 33, 34, 35] .nil) .nil))))) [v0] h k = true)) hk)

/- (*undercroft/cache.Cache).last -/
noncomputable abbrev c44_1 (x10 : CV) (x8 : CV) (h1 : CH) (v1 : CV) (v0 : CV) (k : CV → CH → Bool) : Bool :=
 xStore (some 1) x10 x8 h1 fun h2 =>
 xNilCheck v1 fun x11 =>
 xAddr (some 1026) x11 fun x12 =>
 xLoad (some none) x12 h2 fun x13 =>
 xNilCheck x13 fun x14 =>
 xAddr (some 1027) x14 fun x15 =>
 xStore (some 1) x15 v1 h2 fun h3 =>
 xNilCheck v0 fun x16 =>
 xAddr (some 3) x16 fun x17 =>
 xAddr (some 1026) x17 fun x18 =>
 xStore (some 1) x18 v1 h3 fun h4 =>
 k (.tup []) h4
noncomputable def bd44 (v0 v1 : CV) (h : CH) (k : CV → CH → Bool) : Bool :=
 xNilCheck v0 fun x1 =>
 xAddr (some 3) x1 fun x2 =>
 xAddr (some 1026) x2 fun x3 =>
 xLoad (some none) x3 h fun x4 =>
 xNilCheck v1 fun x5 =>
 xAddr (some 1026) x5 fun x6 =>
 xStore (some 1) x6 x4 h fun h1 =>
 xNilCheck v0 fun x7 =>
 xAddr (some 3) x7 fun x8 =>
 xNilCheck v1 fun x9 =>
 xAddr (some 1027) x9 fun x10 =>
 c44_1 x10 x8 h1 v1 v0 k
noncomputable abbrev ex44 : Ex := fun args h k => a2 args fun v0 v1 => bd44 v0 v1 h k
set_option maxRecDepth 100000 in
theorem sim44 : SimF Try.prog 44 ex44 := fun args h k hk => by
  obtain ⟨v0, v1, rfl, hk⟩ := a2_ok hk
  exact sim_of (qf := (fun f => [31].contains f)) (Z := zs) (C := []) (T := []) ⟨zerosB_ok zsOk, exNil⟩ .nil Try.func44 _ h k (Eq.mp (by kernel_rfl : (bd44 v0 v1 h k = true) = (xFn Try.prog (fun f => [31].contains f) zs [] [] Try.f44 .nil [v0, v1] h k = true)) hk)

/- (*undercroft/cache.Cache).Put -/
noncomputable abbrev c16_1 (s9 : TupC 1) (h3 : CH) (v0 : CV) (K15 : TupC 0 → CH → Bool) : Bool :=
 xNilCheck s9.1 fun x21 =>
 xAddr (some 1025) x21 fun x22 =>
 xStore (some 1) x22 (.bool true) h3 fun h7 =>
 xNilCheck v0 fun x23 =>
 xAddr (some 2) x23 fun x24 =>
 xLoad (some none) x24 h7 fun x25 =>
 xBin (some (.int .i64)) .add x25 (.int .i64 (.ofNat 1)) fun x26 =>
 xNilCheck v0 fun x27 =>
 xAddr (some 2) x27 fun x28 =>
 xStore (some 1) x28 x26 h7 fun h8 =>
 K15 (()) h8
noncomputable abbrev c16_2 (x1 : CV) (s9 : TupC 1) (v0 : CV) (k : CV → CH → Bool) (h3 : CH) : Bool :=
 xJoin (n := 0) (fun s10 h4 =>
  xLoad (some (some 1024)) x1 h4 fun x12 =>
  xNilCheck s9.1 fun x13 =>
  xAddr (some 1) x13 fun x14 =>
  xStore (some 1024) x14 x12 h4 fun h5 =>
  bd44 v0 s9.1 h5 fun x15 h6 =>
  k (.int .i64 (.ofNat 0)) h6)
 (fun K15 => xNilCheck s9.1 fun x17 =>
 xAddr (some 1025) x17 fun x18 =>
 xLoad (some none) x18 h3 fun x19 =>
 xUn .not x19 fun x20 =>
 xIte x20
  (c16_1 s9 h3 v0 K15)
  (K15 (()) h3))
noncomputable abbrev c16_3 (v1 : CV) (h10 : CH) (v0 : CV) (K28 : TupC 1 → CH → Bool) : Bool :=
 xBuild (some (.inl [(0, 1), (1, 1024), (1025, 1), (1026, 1), (1027, 1)])) (some (.agg [(.int .i64 (.ofNat 0)), (.bytes 1024 0), (.bool false), .nilp, .nilp])) [(0, v1)] fun x33 =>
 xBox 81 x33 h10 fun x34 h11 =>
 xNilCheck v0 fun x35 =>
 xAddr (some 1031) x35 fun x36 =>
 xLoad (some none) x36 h11 fun x37 =>
 xMapSet (some (3, .int .i64, 79)) x37 v1 x34 h11 fun h12 =>
 K28 (x34, ()) h12
noncomputable abbrev c16_4 (x6 : CV) (v1 : CV) (h2 : CH) (x1 : CV) (v0 : CV) (k : CV → CH → Bool) : Bool :=
 xLookup (some (3, .int .i64, 79)) (some .nilp) true x6 v1 h2 fun x7 =>
 xExtract x7 0 fun x8 =>
 xExtract x7 1 fun x9 =>
 xJoin (n := 1) (fun s9 h3 =>
  c16_2 x1 s9 v0 k h3)
 (fun K28 => xIte x9
  (bd43 x8 h2 fun x30 h9 =>
  K28 (x8, ()) h9)
  (bd45 v0 h2 fun x31 h10 =>
  xUn .not x31 fun x32 =>
  xIte x32
   (k (.int .i64 (.ofNat 160)) h10)
   (c16_3 v1 h10 v0 K28)))
noncomputable def bd16 (v0 v1 v2 : CV) (h : CH) (k : CV → CH → Bool) : Bool :=
 xBox 51 v2 h fun x1 h1 =>
 bd42 v0 v1 h1 fun x2 h2 =>
 xBin (some (.int .i64)) .neq x2 (.int .i64 (.ofNat 0)) fun x3 =>
 xIte x3
  (k x2 h2)
  (xNilCheck v0 fun x4 =>
  xAddr (some 1031) x4 fun x5 =>
  xLoad (some none) x5 h2 fun x6 =>
  c16_4 x6 v1 h2 x1 v0 k)
noncomputable abbrev ex16 : Ex := fun args h k => a3 args fun v0 v1 v2 => bd16 v0 v1 v2 h k
set_option maxRecDepth 100000 in
theorem sim16 : SimF Try.prog 16 ex16 := fun args h k hk => by
  obtain ⟨v0, v1, v2, rfl, hk⟩ := a3_ok hk
  exact sim_of (qf := (fun f => [31].contains f)) (Z := zs) (C := [(42, ex42), (44, ex44), (43, ex43), (45, ex45)]) (T := []) ⟨zerosB_ok zsOk, (exCons (by kernel_rfl) sim42 (exCons (by kernel_rfl) sim44 (exCons (by kernel_rfl) sim43 (exCons (by kernel_rfl) sim45 exNil))))⟩ (.seq .nil (.seq .nil (.seq .nil (.join [8] [25, 26, 27, 28, 29, 30, 6, 31, 32, 33, 34, 35, 36, 37, 38, 39] .nil (.join [] [40, 41, 42, 43, 44, 45, 46, 47, 48, 49, 50, 51, 52, 53, 54] .nil .nil))))) Try.func16 _ h k (Eq.mp (by kernel_rfl : (bd16 v0 v1 v2 h k = true) = (xFn Try.prog (fun f => [31].contains f) zs [(42, ex42), (44, ex44), (43, ex43), (45, ex45)] [] Try.f16 (.seq .nil (.seq .nil (.seq .nil (.join [8] [25, 26, 27, 28, 29, 30, 6, 31, 32, 33, 34, 35, 36, 37, 38, 39] .nil (.join [] [40, 41, 42, 43, 44, 45, 46, 47, 48, 49, 50, 51, 52, 53, 54] .nil .nil))))) [v0, v1, v2] h k = true)) hk)

/- (*undercroft/disk.Disk).check -/
noncomputable def bd38 (v0 : CV) (h : CH) (k : CV → CH → Bool) : Bool :=
 bd46 v0 h fun x1 h1 =>
 xUn .not x1 fun x2 =>
 xIte x2
  (k (.int .i64 (.ofNat 1)) h1)
  (xNilCheck v0 fun x3 =>
  xAddr (some 6) x3 fun x4 =>
  xLoad (some none) x4 h1 fun x5 =>
  xIte x5
   (k (.int .i64 (.ofNat 3)) h1)
   (k (.int .i64 (.ofNat 0)) h1))
noncomputable abbrev ex38 : Ex := fun args h k => a1 args fun v0 => bd38 v0 h k
set_option maxRecDepth 100000 in
theorem sim38 : SimF Try.prog 38 ex38 := fun args h k hk => by
  obtain ⟨v0, rfl, hk⟩ := a1_ok hk
  exact sim_of (qf := (fun f => [31].contains f)) (Z := zs) (C := [(46, ex46)]) (T := []) ⟨zerosB_ok zsOk, (exCons (by kernel_rfl) sim46 exNil)⟩ .nil Try.func38 _ h k (Eq.mp (by kernel_rfl : (bd38 v0 h k = true) = (xFn Try.prog (fun f => [31].contains f) zs [(46, ex46)] [] Try.f38 .nil [v0] h k = true)) hk)

/- (*undercroft/disk.Disk).Read -/
noncomputable abbrev c32_1 (x26 : CV) (v1 : CV) (h8 : CH) (x1 : CV) (k : CV → CH → Bool) : Bool :=
 xLookup (some (3, .int .i64, 51)) (some (.agg [(.bytes 1024 0)])) false x26 v1 h8 fun x27 =>
 xBoxP 51 [(.bytes 1024 0)] h8 fun x28 h10 =>
 xStore (some 1024) x28 x27 h10 fun h11 =>
 xLoad (some (some 1024)) x28 h11 fun x29 =>
 xStore (some 1024) x1 x29 h11 fun h12 =>
 xLoad (some (some 1024)) x1 h12 fun x30 =>
 k (.tup [x30, (.int .i64 (.ofNat 0))]) h12
noncomputable abbrev c32_2 (h6 : CH) (x19 : CV) (x20 : CV) (x1 : CV) (k : CV → CH → Bool) (v0 : CV) (v1 : CV) : Bool :=
 xBoxP 51 [(.bytes 1024 0)] h6 fun x21 h7 =>
 xStore (some 1024) x21 x19 h7 fun h8 =>
 xIte x20
  (xLoad (some (some 1024)) x21 h8 fun x22 =>
  xStore (some 1024) x1 x22 h8 fun h9 =>
  xLoad (some (some 1024)) x1 h9 fun x23 =>
  k (.tup [x23, (.int .i64 (.ofNat 0))]) h9)
  (xNilCheck v0 fun x24 =>
  xAddr (some 1) x24 fun x25 =>
  xLoad (some none) x25 h8 fun x26 =>
  c32_1 x26 v1 h8 x1 k)
noncomputable abbrev c32_3 (v0 : CV) (x12 : CV) (h4 : CH) (v1 : CV) (x1 : CV) (k : CV → CH → Bool) : Bool :=
 xNilCheck v0 fun x13 =>
 xAddr (some 8) x13 fun x14 =>
 xStore (some 1) x14 x12 h4 fun h6 =>
 xNilCheck v0 fun x15 =>
 xAddr (some 2) x15 fun x16 =>
 xLoad (some none) x16 h6 fun x17 =>
 xLookup (some (3, .int .i64, 51)) (some (.agg [(.bytes 1024 0)])) true x17 v1 h6 fun x18 =>
 xExtract x18 0 fun x19 =>
 xExtract x18 1 fun x20 =>
 c32_2 h6 x19 x20 x1 k v0 v1
noncomputable abbrev c32_4 (s5 : TupC 1) (x1 : CV) (h4 : CH) (k : CV → CH → Bool) (v0 : CV) (v1 : CV) : Bool :=
 xIte s5.1
  (xBuild (some (.inr 1)) (some (.agg [(.bytes 1024 0)])) [] fun x7 =>
  xStore (some 1024) x1 x7 h4 fun h5 =>
  xLoad (some (some 1024)) x1 h5 fun x8 =>
  k (.tup [x8, (.int .i64 (.ofNat 2))]) h5)
  (xNilCheck v0 fun x9 =>
  xAddr (some 8) x9 fun x10 =>
  xLoad (some none) x10 h4 fun x11 =>
  xBin (some (.int .i64)) .add x11 (.int .i64 (.ofNat 1)) fun x12 =>
  c32_3 v0 x12 h4 v1 x1 k)
noncomputable abbrev c32_5 (x3 : CV) (x1 : CV) (h2 : CH) (k : CV → CH → Bool) (x2 : CV) (v0 : CV) (v1 : CV) : Bool :=
 xIte x3
  (xBuild (some (.inr 1)) (some (.agg [(.bytes 1024 0)])) [] fun x4 =>
  xStore (some 1024) x1 x4 h2 fun h3 =>
  xLoad (some (some 1024)) x1 h3 fun x5 =>
  k (.tup [x5, x2]) h3)
  (xJoin (n := 1) (fun s5 h4 =>
   c32_4 s5 x1 h4 k v0 v1)
  (fun K30 => xBin (some (.int .i64)) .lss v1 (.int .i64 (.ofNat 0)) fun x32 =>
  xIte x32
   (K30 ((.bool true), ()) h2)
   (xNilCheck v0 fun x33 =>
   xAddr (some 0) x33 fun x34 =>
   xLoad (some none) x34 h2 fun x35 =>
   xBin (some (.int .i64)) .geq v1 x35 fun x36 =>
   K30 (x36, ()) h2)))
noncomputable def bd32 (v0 v1 : CV) (h : CH) (k : CV → CH → Bool) : Bool :=
 xBoxP 51 [(.bytes 1024 0)] h fun x1 h1 =>
 bd38 v0 h1 fun x2 h2 =>
 xBin (some (.int .i64)) .neq x2 (.int .i64 (.ofNat 0)) fun x3 =>
 c32_5 x3 x1 h2 k x2 v0 v1
noncomputable abbrev ex32 : Ex := fun args h k => a2 args fun v0 v1 => bd32 v0 v1 h k
set_option maxRecDepth 100000 in
theorem sim32 : SimF Try.prog 32 ex32 := fun args h k hk => by
  obtain ⟨v0, v1, rfl, hk⟩ := a2_ok hk
  exact sim_of (qf := (fun f => [31].contains f)) (Z := zs) (C := [(38, ex38)]) (T := []) ⟨zerosB_ok zsOk, (exCons (by kernel_rfl) sim38 exNil)⟩ (.seq .nil (.seq .nil (.seq (.join [25] [16, 17, 18, 19, 20, 21, 22, 23, 24] .nil .nil) .nil))) Try.func32 _ h k (Eq.mp (by kernel_rfl : (bd32 v0 v1 h k = true) = (xFn Try.prog (fun f => [31].contains f) zs [(38, ex38)] [] Try.f32 (.seq .nil (.seq .nil (.seq (.join [25] [16, 17, 18, 19, 20, 21, 22, 23, 24] .nil .nil) .nil))) [v0, v1] h k = true)) hk)

/- (*undercroft/cache.Cache).Read -/
noncomputable abbrev c15_1 (v0 : CV) (h13 : CH) (v1 : CV) (x34 : CV) (x28 : CV) (x1 : CV) (k : CV → CH → Bool) : Bool :=
 xNilCheck v0 fun x35 =>
 xAddr (some 1031) x35 fun x36 =>
 xLoad (some none) x36 h13 fun x37 =>
 xMapSet (some (3, .int .i64, 79)) x37 v1 x34 h13 fun h14 =>
 bd44 v0 x34 h14 fun x38 h15 =>
 xLoad (some (some 1024)) x28 h15 fun x39 =>
 xStore (some 1024) x1 x39 h15 fun h16 =>
 xLoad (some (some 1024)) x1 h16 fun x40 =>
 k (.tup [x40, (.int .i64 (.ofNat 0))]) h16
noncomputable abbrev c15_2 (x29 : CV) (x1 : CV) (h11 : CH) (k : CV → CH → Bool) (x27 : CV) (x28 : CV) (v1 : CV) (v0 : CV) : Bool :=
 xIte x29
  (xBuild (some (.inr 1)) (some (.agg [(.bytes 1024 0)])) [] fun x30 =>
  xStore (some 1024) x1 x30 h11 fun h12 =>
  xLoad (some (some 1024)) x1 h12 fun x31 =>
  k (.tup [x31, x27]) h12)
  (xLoad (some (some 1024)) x28 h11 fun x32 =>
  xBuild (some (.inl [(0, 1), (1, 1024), (1025, 1), (1026, 1), (1027, 1)])) (some (.agg [(.int .i64 (.ofNat 0)), (.bytes 1024 0), (.bool false), .nilp, .nilp])) [(0, v1), (1, x32)] fun x33 =>
  xBox 81 x33 h11 fun x34 h13 =>
  c15_1 v0 h13 v1 x34 x28 x1 k)
noncomputable abbrev c15_3 (v0 : CV) (h7 : CH) (v1 : CV) (x1 : CV) (k : CV → CH → Bool) : Bool :=
 xNilCheck v0 fun x22 =>
 xAddr (some 0) x22 fun x23 =>
 xLoad (some none) x23 h7 fun x24 =>
 bd32 x24 v1 h7 fun x25 h9 =>
 xExtract x25 0 fun x26 =>
 xExtract x25 1 fun x27 =>
 xBoxP 51 [(.bytes 1024 0)] h9 fun x28 h10 =>
 xStore (some 1024) x28 x26 h10 fun h11 =>
 xBin (some (.int .i64)) .neq x27 (.int .i64 (.ofNat 0)) fun x29 =>
 c15_2 x29 x1 h11 k x27 x28 v1 v0
noncomputable abbrev c15_4 (x11 : CV) (x10 : CV) (h2 : CH) (v0 : CV) (x1 : CV) (k : CV → CH → Bool) (v1 : CV) : Bool :=
 xIte x11
  (bd43 x10 h2 fun x12 h4 =>
  bd44 v0 x10 h4 fun x13 h5 =>
  xNilCheck x10 fun x14 =>
  xAddr (some 1) x14 fun x15 =>
  xLoad (some (some 1024)) x15 h5 fun x16 =>
  xStore (some 1024) x1 x16 h5 fun h6 =>
  xLoad (some (some 1024)) x1 h6 fun x17 =>
  k (.tup [x17, (.int .i64 (.ofNat 0))]) h6)
  (bd45 v0 h2 fun x18 h7 =>
  xUn .not x18 fun x19 =>
  xIte x19
   (xBuild (some (.inr 1)) (some (.agg [(.bytes 1024 0)])) [] fun x20 =>
   xStore (some 1024) x1 x20 h7 fun h8 =>
   xLoad (some (some 1024)) x1 h8 fun x21 =>
   k (.tup [x21, (.int .i64 (.ofNat 160))]) h8)
   (c15_3 v0 h7 v1 x1 k))
noncomputable abbrev c15_5 (x3 : CV) (x1 : CV) (h2 : CH) (k : CV → CH → Bool) (x2 : CV) (v0 : CV) (v1 : CV) : Bool :=
 xIte x3
  (xBuild (some (.inr 1)) (some (.agg [(.bytes 1024 0)])) [] fun x4 =>
  xStore (some 1024) x1 x4 h2 fun h3 =>
  xLoad (some (some 1024)) x1 h3 fun x5 =>
  k (.tup [x5, x2]) h3)
  (xNilCheck v0 fun x6 =>
  xAddr (some 1031) x6 fun x7 =>
  xLoad (some none) x7 h2 fun x8 =>
  xLookup (some (3, .int .i64, 79)) (some .nilp) true x8 v1 h2 fun x9 =>
  xExtract x9 0 fun x10 =>
  xExtract x9 1 fun x11 =>
  c15_4 x11 x10 h2 v0 x1 k v1)
noncomputable def bd15 (v0 v1 : CV) (h : CH) (k : CV → CH → Bool) : Bool :=
 xBoxP 51 [(.bytes 1024 0)] h fun x1 h1 =>
 bd42 v0 v1 h1 fun x2 h2 =>
 xBin (some (.int .i64)) .neq x2 (.int .i64 (.ofNat 0)) fun x3 =>
 c15_5 x3 x1 h2 k x2 v0 v1
noncomputable abbrev ex15 : Ex := fun args h k => a2 args fun v0 v1 => bd15 v0 v1 h k
set_option maxRecDepth 100000 in
theorem sim15 : SimF Try.prog 15 ex15 := fun args h k hk => by
  obtain ⟨v0, v1, rfl, hk⟩ := a2_ok hk
  exact sim_of (qf := (fun f => [31].contains f)) (Z := zs) (C := [(42, ex42), (43, ex43), (44, ex44), (45, ex45), (32, ex32)]) (T := []) ⟨zerosB_ok zsOk, (exCons (by kernel_rfl) sim42 (exCons (by kernel_rfl) sim43 (exCons (by kernel_rfl) sim44 (exCons (by kernel_rfl) sim45 (exCons (by kernel_rfl) sim32 exNil)))))⟩ .nil Try.func15 _ h k (Eq.mp (by kernel_rfl : (bd15 v0 v1 h k = true) = (xFn Try.prog (fun f => [31].contains f) zs [(42, ex42), (43, ex43), (44, ex44), (45, ex45), (32, ex32)] [] Try.f15 .nil [v0, v1] h k = true)) hk)

/- (*undercroft/cache.Cache).Fast -/
noncomputable def bd18 (v0 : CV) (h : CH) (k : CV → CH → Bool) : Bool :=
 xEq (some .ptr) .eql v0 .nilp h fun x1 =>
 xIte x1
  (k (.int .i64 (.ofNat 0)) h)
  (xNilCheck v0 fun x2 =>
  xAddr (some 2) x2 fun x3 =>
  xLoad (some none) x3 h fun x4 =>
  k x4 h)
noncomputable abbrev ex18 : Ex := fun args h k => a1 args fun v0 => bd18 v0 h k
set_option maxRecDepth 100000 in
theorem sim18 : SimF Try.prog 18 ex18 := fun args h k hk => by
  obtain ⟨v0, rfl, hk⟩ := a1_ok hk
  exact sim_of (qf := (fun f => [31].contains f)) (Z := zs) (C := []) (T := []) ⟨zerosB_ok zsOk, exNil⟩ .nil Try.func18 _ h k (Eq.mp (by kernel_rfl : (bd18 v0 h k = true) = (xFn Try.prog (fun f => [31].contains f) zs [] [] Try.f18 .nil [v0] h k = true)) hk)

/- (*undercroft/disk.Disk).burn -/
noncomputable abbrev c39_1 (x17 : CV) (v0 : CV) (h : CH) (K13 : TupC 0 → CH → Bool) : Bool :=
 xBin (some (.int .i64)) .gtr x17 (.int .i64 (.ofNat 0)) fun x18 =>
 xIte x18
  (xNilCheck v0 fun x19 =>
  xAddr (some 5) x19 fun x20 =>
  xLoad (some none) x20 h fun x21 =>
  xBin (some (.int .i64)) .sub x21 (.int .i64 (.ofNat 1)) fun x22 =>
  xNilCheck v0 fun x23 =>
  xAddr (some 5) x23 fun x24 =>
  xStore (some 1) x24 x22 h fun h4 =>
  K13 (()) h4)
  (K13 (()) h)
noncomputable abbrev c39_2 (v0 : CV) (k : CV → CH → Bool) (h : CH) : Bool :=
 xJoin (n := 0) (fun s6 h2 =>
  xNilCheck v0 fun x8 =>
  xAddr (some 7) x8 fun x9 =>
  xLoad (some none) x9 h2 fun x10 =>
  xBin (some (.int .i64)) .add x10 (.int .i64 (.ofNat 1)) fun x11 =>
  xNilCheck v0 fun x12 =>
  xAddr (some 7) x12 fun x13 =>
  xStore (some 1) x13 x11 h2 fun h3 =>
  k (.bool true) h3)
 (fun K13 => xNilCheck v0 fun x15 =>
 xAddr (some 5) x15 fun x16 =>
 xLoad (some none) x16 h fun x17 =>
 c39_1 x17 v0 h K13)
noncomputable def bd39 (v0 : CV) (h : CH) (k : CV → CH → Bool) : Bool :=
 xNilCheck v0 fun x1 =>
 xAddr (some 5) x1 fun x2 =>
 xLoad (some none) x2 h fun x3 =>
 xBin (some (.int .i64)) .eql x3 (.int .i64 (.ofNat 0)) fun x4 =>
 xIte x4
  (xNilCheck v0 fun x5 =>
  xAddr (some 6) x5 fun x6 =>
  xStore (some 1) x6 (.bool true) h fun h1 =>
  k (.bool false) h1)
  (c39_2 v0 k h)
noncomputable abbrev ex39 : Ex := fun args h k => a1 args fun v0 => bd39 v0 h k
set_option maxRecDepth 100000 in
theorem sim39 : SimF Try.prog 39 ex39 := fun args h k hk => by
  obtain ⟨v0, rfl, hk⟩ := a1_ok hk
  exact sim_of (qf := (fun f => [31].contains f)) (Z := zs) (C := []) (T := []) ⟨zerosB_ok zsOk, exNil⟩ (.seq .nil (.seq .nil (.join [] [11, 12, 13, 14, 15, 16, 17, 18, 19, 20, 21, 22] .nil .nil))) Try.func39 _ h k (Eq.mp (by kernel_rfl : (bd39 v0 h k = true) = (xFn Try.prog (fun f => [31].contains f) zs [] [] Try.f39 (.seq .nil (.seq .nil (.join [] [11, 12, 13, 14, 15, 16, 17, 18, 19, 20, 21, 22] .nil .nil))) [v0] h k = true)) hk)

/- (*undercroft/disk.Disk).Write -/
noncomputable abbrev c36_1 (v1 : CV) (x23 : CV) (h8 : CH) (x22 : CV) (v0 : CV) (k : CV → CH → Bool) : Bool :=
 xBuild (some (.inl [(0, 1), (1, 1), (2, 1024)])) (some (.agg [(.bytes 1 0), (.int .i64 (.ofNat 0)), (.bytes 1024 0)])) [(0, (.int .u8 (.ofNat 1))), (1, v1), (2, x23)] fun x24 =>
 xNewS (some (96, 1026, 1040, false)) (some [(.bytes 1 0), (.int .i64 (.ofNat 0)), (.bytes 1024 0)]) 1 [(0, x24)] h8 fun x25 h9 =>
 xApp (some (96, 1026, 1040, false)) x22 x25 h9 fun x26 h10 =>
 xNilCheck v0 fun x27 =>
 xAddr (some 4) x27 fun x28 =>
 xStore (some 1) x28 x26 h10 fun h11 =>
 k (.int .i64 (.ofNat 0)) h11
noncomputable abbrev c36_2 (x15 : CV) (x13 : CV) (h6 : CH) (v0 : CV) (x1 : CV) (v1 : CV) (k : CV → CH → Bool) : Bool :=
 xStore (some 1) x15 x13 h6 fun h7 =>
 xNilCheck v0 fun x16 =>
 xAddr (some 2) x16 fun x17 =>
 xLoad (some none) x17 h7 fun x18 =>
 xLoad (some (some 1024)) x1 h7 fun x19 =>
 xMapSet (some (3, .int .i64, 51)) x18 v1 x19 h7 fun h8 =>
 xNilCheck v0 fun x20 =>
 xAddr (some 4) x20 fun x21 =>
 xLoad (some none) x21 h8 fun x22 =>
 xLoad (some (some 1024)) x1 h8 fun x23 =>
 c36_1 v1 x23 h8 x22 v0 k
noncomputable abbrev c36_3 (v1 : CV) (x10 : CV) (h4 : CH) (x9 : CV) (v0 : CV) (x1 : CV) (k : CV → CH → Bool) : Bool :=
 xBuild (some (.inl [(0, 1), (1, 1024)])) (some (.agg [(.int .i64 (.ofNat 0)), (.bytes 1024 0)])) [(0, v1), (1, x10)] fun x11 =>
 xNewS (some (74, 1025, 1032, false)) (some [(.int .i64 (.ofNat 0)), (.bytes 1024 0)]) 1 [(0, x11)] h4 fun x12 h5 =>
 xApp (some (74, 1025, 1032, false)) x9 x12 h5 fun x13 h6 =>
 xNilCheck v0 fun x14 =>
 xAddr (some 3) x14 fun x15 =>
 c36_2 x15 x13 h6 v0 x1 v1 k
noncomputable abbrev c36_4 (k : CV → CH → Bool) (v0 : CV) (x1 : CV) (v1 : CV) (h2 : CH) : Bool :=
 xJoin (n := 1) (fun s3 h3 =>
  xIte s3.1
   (k (.int .i64 (.ofNat 2)) h3)
   (bd39 v0 h3 fun x5 h4 =>
   xUn .not x5 fun x6 =>
   xIte x6
    (k (.int .i64 (.ofNat 3)) h4)
    (xNilCheck v0 fun x7 =>
    xAddr (some 3) x7 fun x8 =>
    xLoad (some none) x8 h4 fun x9 =>
    xLoad (some (some 1024)) x1 h4 fun x10 =>
    c36_3 v1 x10 h4 x9 v0 x1 k)))
 (fun K28 => xBin (some (.int .i64)) .lss v1 (.int .i64 (.ofNat 0)) fun x30 =>
 xIte x30
  (K28 ((.bool true), ()) h2)
  (xNilCheck v0 fun x31 =>
  xAddr (some 0) x31 fun x32 =>
  xLoad (some none) x32 h2 fun x33 =>
  xBin (some (.int .i64)) .geq v1 x33 fun x34 =>
  K28 (x34, ()) h2))
noncomputable def bd36 (v0 v1 v2 : CV) (h : CH) (k : CV → CH → Bool) : Bool :=
 xBox 51 v2 h fun x1 h1 =>
 bd38 v0 h1 fun x2 h2 =>
 xBin (some (.int .i64)) .neq x2 (.int .i64 (.ofNat 0)) fun x3 =>
 xIte x3
  (k x2 h2)
  (c36_4 k v0 x1 v1 h2)
noncomputable abbrev ex36 : Ex := fun args h k => a3 args fun v0 v1 v2 => bd36 v0 v1 v2 h k
set_option maxRecDepth 100000 in
theorem sim36 : SimF Try.prog 36 ex36 := fun args h k hk => by
  obtain ⟨v0, v1, v2, rfl, hk⟩ := a3_ok hk
  exact sim_of (qf := (fun f => [31].contains f)) (Z := zs) (C := [(38, ex38), (39, ex39)]) (T := []) ⟨zerosB_ok zsOk, (exCons (by kernel_rfl) sim38 (exCons (by kernel_rfl) sim39 exNil))⟩ (.seq .nil (.seq .nil (.seq (.join [22] [13, 14, 15, 16, 17, 18, 19, 20, 21] .nil .nil) .nil))) Try.func36 _ h k (Eq.mp (by kernel_rfl : (bd36 v0 v1 v2 h k = true) = (xFn Try.prog (fun f => [31].contains f) zs [(38, ex38), (39, ex39)] [] Try.f36 (.seq .nil (.seq .nil (.seq (.join [22] [13, 14, 15, 16, 17, 18, 19, 20, 21] .nil .nil) .nil))) [v0, v1, v2] h k = true)) hk)

/- (*undercroft/cache.Cache).Flush -/
noncomputable abbrev c17_1 (x18 : CV) (h3 : CH) (v0 : CV) (k : CV → CH → Bool) : Bool :=
 xAddr (some 1025) x18 fun x19 =>
 xStore (some 1) x19 (.bool false) h3 fun h4 =>
 xNilCheck v0 fun x20 =>
 xAddr (some 2) x20 fun x21 =>
 xLoad (some none) x21 h4 fun x22 =>
 xBin (some (.int .i64)) .sub x22 (.int .i64 (.ofNat 1)) fun x23 =>
 xNilCheck v0 fun x24 =>
 xAddr (some 2) x24 fun x25 =>
 xStore (some 1) x25 x23 h4 fun h5 =>
 k (.int .i64 (.ofNat 0)) h5
noncomputable abbrev c17_2 (v0 : CV) (h2 : CH) (x7 : CV) (v1 : CV) (k : CV → CH → Bool) : Bool :=
 xNilCheck v0 fun x10 =>
 xAddr (some 0) x10 fun x11 =>
 xLoad (some none) x11 h2 fun x12 =>
 xNilCheck x7 fun x13 =>
 xAddr (some 1) x13 fun x14 =>
 xLoad (some (some 1024)) x14 h2 fun x15 =>
 bd36 x12 v1 x15 h2 fun x16 h3 =>
 xBin (some (.int .i64)) .neq x16 (.int .i64 (.ofNat 0)) fun x17 =>
 xIte x17
  (k x16 h3)
  (xNilCheck x7 fun x18 =>
  c17_1 x18 h3 v0 k)
noncomputable abbrev c17_3 (x6 : CV) (k : CV → CH → Bool) (v0 : CV) (v1 : CV) (h1 : CH) : Bool :=
 xExtract x6 0 fun x7 =>
 xExtract x6 1 fun x8 =>
 xJoin (n := 1) (fun s8 h2 =>
  xIte s8.1
   (k (.int .i64 (.ofNat 0)) h2)
   (c17_2 v0 h2 x7 v1 k))
 (fun K25 => xUn .not x8 fun x27 =>
 xIte x27
  (K25 ((.bool true), ()) h1)
  (xNilCheck x7 fun x28 =>
  xAddr (some 1025) x28 fun x29 =>
  xLoad (some none) x29 h1 fun x30 =>
  xUn .not x30 fun x31 =>
  K25 (x31, ()) h1))
noncomputable def bd17 (v0 v1 : CV) (h : CH) (k : CV → CH → Bool) : Bool :=
 bd42 v0 v1 h fun x1 h1 =>
 xBin (some (.int .i64)) .neq x1 (.int .i64 (.ofNat 0)) fun x2 =>
 xIte x2
  (k x1 h1)
  (xNilCheck v0 fun x3 =>
  xAddr (some 1031) x3 fun x4 =>
  xLoad (some none) x4 h1 fun x5 =>
  xLookup (some (3, .int .i64, 79)) (some .nilp) true x5 v1 h1 fun x6 =>
  c17_3 x6 k v0 v1 h1)
noncomputable abbrev ex17 : Ex := fun args h k => a2 args fun v0 v1 => bd17 v0 v1 h k
set_option maxRecDepth 100000 in
theorem sim17 : SimF Try.prog 17 ex17 := fun args h k hk => by
  obtain ⟨v0, v1, rfl, hk⟩ := a2_ok hk
  exact sim_of (qf := (fun f => [31].contains f)) (Z := zs) (C := [(42, ex42), (36, ex36)]) (T := []) ⟨zerosB_ok zsOk, (exCons (by kernel_rfl) sim42 (exCons (by kernel_rfl) sim36 exNil))⟩ (.seq .nil (.seq .nil (.seq .nil (.seq (.join [32] [24, 25, 26, 27, 28, 29, 30, 31] .nil .nil) .nil)))) Try.func17 _ h k (Eq.mp (by kernel_rfl : (bd17 v0 v1 h k = true) = (xFn Try.prog (fun f => [31].contains f) zs [(42, ex42), (36, ex36)] [] Try.f17 (.seq .nil (.seq .nil (.seq .nil (.seq (.join [32] [24, 25, 26, 27, 28, 29, 30, 31] .nil .nil) .nil)))) [v0, v1] h k = true)) hk)

/- (*undercroft/cache.Cache).Order -/
noncomputable abbrev c22_1 (s5 : TupC 2) (h2 : CH) (K6 : TupC 2 → CH → Bool) : Bool :=
 xNilCheck s5.2.1 fun x11 =>
 xAddr (some 0) x11 fun x12 =>
 xLoad (some none) x12 h2 fun x13 =>
 xNewS (some (3, 1, 8, false)) (some [(.int .i64 (.ofNat 0))]) 1 [(0, x13)] h2 fun x14 h3 =>
 xApp (some (3, 1, 8, false)) s5.1 x14 h3 fun x15 h4 =>
 xNilCheck s5.2.1 fun x16 =>
 xAddr (some 1027) x16 fun x17 =>
 xLoad (some none) x17 h4 fun x18 =>
 K6 (x15, x18, ()) h4
noncomputable abbrev c22_2 (s0 : TupC 1) (k : CV → CH → Bool) (h1 : CH) (v0 : CV) : Bool :=
 xIte s0.1
  (k .nils h1)
  (xNilCheck v0 fun x2 =>
  xAddr (some 3) x2 fun x3 =>
  xAddr (some 1027) x3 fun x4 =>
  xLoad (some none) x4 h1 fun x5 =>
  xLoop (n := 2) (fun K6 s5 h2 =>
   xNilCheck v0 fun x8 =>
   xAddr (some 3) x8 fun x9 =>
   xEq (some .ptr) .neq s5.2.1 x9 h2 fun x10 =>
   xIte x10
    (c22_1 s5 h2 K6)
    (k s5.1 h2)) 1000000 (.nils, x5, ()) h1)
noncomputable def bd22 (v0 : CV) (h : CH) (k : CV → CH → Bool) : Bool :=
 xJoin (n := 1) (fun s0 h1 =>
  c22_2 s0 k h1 v0)
 (fun K18 => xEq (some .ptr) .eql v0 .nilp h fun x20 =>
 xIte x20
  (K18 ((.bool true), ()) h)
  (xNilCheck v0 fun x21 =>
  xAddr (some 0) x21 fun x22 =>
  xLoad (some none) x22 h fun x23 =>
  xEq (some .ptr) .eql x23 .nilp h fun x24 =>
  K18 (x24, ()) h))
noncomputable abbrev ex22 : Ex := fun args h k => a1 args fun v0 => bd22 v0 h k
set_option maxRecDepth 100000 in
theorem sim22 : SimF Try.prog 22 ex22 := fun args h k hk => by
  obtain ⟨v0, rfl, hk⟩ := a1_ok hk
  exact sim_of (qf := (fun f => [31].contains f)) (Z := zs) (C := []) (T := []) ⟨zerosB_ok zsOk, exNil⟩ (.seq .nil (.seq (.join [13] [5, 6, 7, 8, 9, 10, 11, 12] .nil .nil) (.seq .nil (.seq (.seq .nil (.loop [3, 4] [19, 20, 21, 22, 23, 28, 29, 30, 31, 32, 33, 34, 24, 25, 26, 27] .nil)) .nil)))) Try.func22 _ h k (Eq.mp (by kernel_rfl : (bd22 v0 h k = true) = (xFn Try.prog (fun f => [31].contains f) zs [] [] Try.f22 (.seq .nil (.seq (.join [13] [5, 6, 7, 8, 9, 10, 11, 12] .nil .nil) (.seq .nil (.seq (.seq .nil (.loop [3, 4] [19, 20, 21, 22, 23, 28, 29, 30, 31, 32, 33, 34, 24, 25, 26, 27] .nil)) .nil)))) [v0] h k = true)) hk)
end Go.Proofs

/- Functions, run; each tied to the program. -/
set_option linter.unusedVariables false
set_option linter.unusedSimpArgs false
namespace Go.Proofs
open Go.Vc Go.Xc

/- undercroft/undercroftlaw06.ten -/
noncomputable abbrev c30_1 (k : CV → CH → Bool) (x2 : CV) (x3 : CV) (h1 : CH) : Bool :=
 xJoin (n := 1) (fun s3 h2 =>
  xIte s3.1
   (k (.tup [.nilp, .nilp, (.bool false)]) h2)
   (bd7 x2 (.int .i64 (.ofNat 2)) h2 fun x5 h3 =>
   xExtract x5 0 fun x6 =>
   xExtract x5 1 fun x7 =>
   xBin (some (.int .i64)) .eql x7 (.int .i64 (.ofNat 0)) fun x8 =>
   xIte x8
    (xEq (some .ptr) .neq x6 .nilp h3 fun x9 =>
    k (.tup [x2, x6, x9]) h3)
    (k (.tup [x2, x6, (.bool false)]) h3)))
 (fun K9 => xBin (some (.int .i64)) .neq x3 (.int .i64 (.ofNat 0)) fun x11 =>
 xIte x11
  (K9 ((.bool true), ()) h1)
  (xEq (some .ptr) .eql x2 .nilp h1 fun x12 =>
  K9 (x12, ()) h1))
noncomputable def bd30 (h : CH) (k : CV → CH → Bool) : Bool :=
 bd50 (.int .i64 (.ofNat 10)) h fun x1 h1 =>
 xExtract x1 0 fun x2 =>
 xExtract x1 1 fun x3 =>
 c30_1 k x2 x3 h1
noncomputable abbrev ex30 : Ex := fun args h k => a0 args (bd30  h k)
set_option maxRecDepth 100000 in
theorem sim30 : SimF Try.prog 30 ex30 := fun args h k hk => by
  obtain ⟨rfl, hk⟩ := a0_ok hk
  exact sim_of (qf := (fun f => [31].contains f)) (Z := zs) (C := [(50, ex50), (7, ex7)]) (T := []) ⟨zerosB_ok zsOk, (exCons (by kernel_rfl) sim50 (exCons (by kernel_rfl) sim7 exNil))⟩ (.seq .nil (.seq .nil (.seq (.join [15] [10, 11, 12, 13, 14] .nil .nil) .nil))) Try.func30 _ h k (Eq.mp (by kernel_rfl : (bd30  h k = true) = (xFn Try.prog (fun f => [31].contains f) zs [(50, ex50), (7, ex7)] [] Try.f30 (.seq .nil (.seq .nil (.seq (.join [15] [10, 11, 12, 13, 14] .nil .nil) .nil))) [] h k = true)) hk)

/- undercroft/undercroftlaw06.Filled -/
noncomputable abbrev c31_1 (v0 : CV) (x2 : CV) (x4 : CV) (x1 : CV) (h1 : CH) (k : CV → CH → Bool) : Bool :=
 xConv (some (.int .u16)) (some (.int .u8)) v0 fun x5 =>
 xBin (some (.int .u16)) .rem v0 (.int .u16 (.ofNat 251)) fun x6 =>
 xConv (some (.int .u16)) (some (.int .u8)) x6 fun x7 =>
 xBuild (some (.inr 1)) (some (.agg [(.bytes 1024 0)])) [(0, x2), (1, x4), (500, x5), (1023, x7)] fun x8 =>
 xStore (some 1024) x1 x8 h1 fun h2 =>
 xLoad (some (some 1024)) x1 h2 fun x9 =>
 k x9 h2
noncomputable def bd31 (v0 : CV) (h : CH) (k : CV → CH → Bool) : Bool :=
 xBoxP 51 [(.bytes 1024 0)] h fun x1 h1 =>
 xConv (some (.int .u16)) (some (.int .u8)) v0 fun x2 =>
 xBin (some (.int .u16)) .quo v0 (.int .u16 (.ofNat 256)) fun x3 =>
 xConv (some (.int .u16)) (some (.int .u8)) x3 fun x4 =>
 c31_1 v0 x2 x4 x1 h1 k
noncomputable abbrev ex31 : Ex := fun args h k => a1 args fun v0 => bd31 v0 h k
set_option maxRecDepth 100000 in
theorem sim31 : SimF Try.prog 31 ex31 := fun args h k hk => by
  obtain ⟨v0, rfl, hk⟩ := a1_ok hk
  exact sim_of (qf := (fun f => [31].contains f)) (Z := zs) (C := []) (T := []) ⟨zerosB_ok zsOk, exNil⟩ .nil Try.func31 _ h k (Eq.mp (by kernel_rfl : (bd31 v0 h k = true) = (xFn Try.prog (fun f => [31].contains f) zs [] [] Try.f31 .nil [v0] h k = true)) hk)

/- undercroft/undercroftlaw06.same -/
noncomputable abbrev c21_1 (x7 : CV) (v0 : CV) (s3 : TupC 1) (h1 : CH) (v1 : CV) (k : CV → CH → Bool) (K4 : TupC 1 → CH → Bool) : Bool :=
 xIte x7
  (xIdx (some (none, 1)) v0 s3.1 fun x8 =>
  xLoad (some none) x8 h1 fun x9 =>
  xIdx (some (none, 1)) v1 s3.1 fun x10 =>
  xLoad (some none) x10 h1 fun x11 =>
  xBin (some (.int .i64)) .neq x9 x11 fun x12 =>
  xIte x12
   (k (.bool false) h1)
   (xBin (some (.int .i64)) .add s3.1 (.int .i64 (.ofNat 1)) fun x13 =>
   K4 (x13, ()) h1))
  (k (.bool true) h1)
noncomputable def bd21 (v0 v1 : CV) (h : CH) (k : CV → CH → Bool) : Bool :=
 xLen (some (.inl false)) v0 fun x1 =>
 xLen (some (.inl false)) v1 fun x2 =>
 xBin (some (.int .i64)) .neq x1 x2 fun x3 =>
 xIte x3
  (k (.bool false) h)
  (xLoop (n := 1) (fun K4 s3 h1 =>
   xLen (some (.inl false)) v0 fun x6 =>
   xBin (some (.int .i64)) .lss s3.1 x6 fun x7 =>
   c21_1 x7 v0 s3 h1 v1 k K4) 1000000 ((.int .i64 (.ofNat 0)), ()) h)
noncomputable abbrev ex21 : Ex := fun args h k => a2 args fun v0 v1 => bd21 v0 v1 h k
set_option maxRecDepth 100000 in
theorem sim21 : SimF Try.prog 21 ex21 := fun args h k hk => by
  obtain ⟨v0, v1, rfl, hk⟩ := a2_ok hk
  exact sim_of (qf := (fun f => [31].contains f)) (Z := zs) (C := []) (T := []) ⟨zerosB_ok zsOk, exNil⟩ (.seq .nil (.seq .nil (.seq (.seq .nil (.loop [5] [11, 12, 13, 14, 17, 18, 19, 20, 21, 22, 23, 24, 25, 4, 15, 16] .nil)) .nil))) Try.func21 _ h k (Eq.mp (by kernel_rfl : (bd21 v0 v1 h k = true) = (xFn Try.prog (fun f => [31].contains f) zs [] [] Try.f21 (.seq .nil (.seq .nil (.seq (.seq .nil (.loop [5] [11, 12, 13, 14, 17, 18, 19, 20, 21, 22, 23, 24, 25, 4, 15, 16] .nil)) .nil))) [v0, v1] h k = true)) hk)

/- undercroft/undercroftlaw06.awake -/
noncomputable abbrev c5_1 (x3 : CV) (h17 : CH) (k : CV → CH → Bool) : Bool :=
 both
  (bd22 x3 h17 fun x39 h18 =>
  xNewS (some (3, 1, 8, false)) (some [(.int .i64 (.ofNat 0))]) 1 [(0, (.int .i64 (.ofNat 5)))] h18 fun x40 h19 =>
  bd21 x39 x40 h19 fun x41 h20 =>
  k x41 h20)
  (xNewS (some (3, 1, 8, false)) (some [(.int .i64 (.ofNat 0))]) 1 [(0, (.int .i64 (.ofNat 5)))] h17 fun x42 h21 =>
  bd22 x3 h21 fun x43 h22 =>
  bd21 x43 x42 h22 fun x44 h23 =>
  k x44 h23)
noncomputable abbrev c5_2 (x35 : CV) (x16 : CV) (x3 : CV) (h16 : CH) (k : CV → CH → Bool) : Bool :=
 xIte x35
  (xBin (some (.int .i64)) .eql x16 (.int .i64 (.ofNat 1)) fun x36 =>
  xIte x36
   (bd18 x3 h16 fun x37 h17 =>
   xBin (some (.int .i64)) .eql x37 (.int .i64 (.ofNat 0)) fun x38 =>
   xIte x38
    (c5_1 x3 h17 k)
    (both
     (k (.bool false) h17)
     (k (.bool false) h17)))
   (both
    (k (.bool false) h16)
    (k (.bool false) h16)))
  (both
   (k (.bool false) h16)
   (k (.bool false) h16))
noncomputable abbrev c5_3 (x30 : CV) (h15 : CH) (x21 : CV) (x16 : CV) (x3 : CV) (k : CV → CH → Bool) : Bool :=
 xBuild (some (.inr 1)) (some (.agg [(.bytes 1024 0)])) [] fun x31 =>
 xEq (some (.agg (.bytes 1024))) .eql x30 x31 h15 fun x32 =>
 xIte x32
  (xLoad (some (some 1024)) x21 h15 fun x33 =>
  xQuiet (some ex31) [(.int .u16 (.ofNat 7))] h15 fun x34 h16 =>
  xEq (some (.agg (.bytes 1024))) .eql x33 x34 h16 fun x35 =>
  c5_2 x35 x16 x3 h16 k)
  (both
   (k (.bool false) h15)
   (k (.bool false) h15))
noncomputable abbrev c5_4 (x26 : CV) (x11 : CV) (h14 : CH) (x15 : CV) (x21 : CV) (x16 : CV) (x3 : CV) (k : CV → CH → Bool) : Bool :=
 xIte x26
  (xLoad (some (some 1024)) x11 h14 fun x27 =>
  xQuiet (some ex31) [(.int .u16 (.ofNat 7))] h14 fun x28 h15 =>
  xEq (some (.agg (.bytes 1024))) .eql x27 x28 h15 fun x29 =>
  xIte x29
   (xLoad (some (some 1024)) x15 h15 fun x30 =>
   c5_3 x30 h15 x21 x16 x3 k)
   (both
    (k (.bool false) h15)
    (k (.bool false) h15)))
  (both
   (k (.bool false) h14)
   (k (.bool false) h14))
noncomputable abbrev c5_5 (x14 : CV) (x17 : CV) (x20 : CV) (x11 : CV) (h14 : CH) (x15 : CV) (x21 : CV) (x16 : CV) (x3 : CV) (k : CV → CH → Bool) : Bool :=
 xBin (some (.int .i64)) .eql x14 (.int .i64 (.ofNat 0)) fun x24 =>
 xIte x24
  (xBin (some (.int .i64)) .eql x17 (.int .i64 (.ofNat 0)) fun x25 =>
  xIte x25
   (xBin (some (.int .i64)) .eql x20 (.int .i64 (.ofNat 0)) fun x26 =>
   c5_4 x26 x11 h14 x15 x21 x16 x3 k)
   (both
    (k (.bool false) h14)
    (k (.bool false) h14)))
  (both
   (k (.bool false) h14)
   (k (.bool false) h14))
noncomputable abbrev c5_6 (x21 : CV) (x19 : CV) (h13 : CH) (x7 : CV) (x10 : CV) (x14 : CV) (x17 : CV) (x20 : CV) (x11 : CV) (x15 : CV) (x16 : CV) (x3 : CV) (k : CV → CH → Bool) : Bool :=
 xStore (some 1024) x21 x19 h13 fun h14 =>
 xBin (some (.int .i64)) .eql x7 (.int .i64 (.ofNat 0)) fun x22 =>
 xIte x22
  (xBin (some (.int .i64)) .eql x10 (.int .i64 (.ofNat 0)) fun x23 =>
  xIte x23
   (c5_5 x14 x17 x20 x11 h14 x15 x21 x16 x3 k)
   (both
    (k (.bool false) h14)
    (k (.bool false) h14)))
  (both
   (k (.bool false) h14)
   (k (.bool false) h14))
noncomputable abbrev c5_7 (h7 : CH) (x13 : CV) (x3 : CV) (x2 : CV) (x7 : CV) (x10 : CV) (x14 : CV) (x11 : CV) (k : CV → CH → Bool) : Bool :=
 xBoxP 51 [(.bytes 1024 0)] h7 fun x15 h8 =>
 xStore (some 1024) x15 x13 h8 fun h9 =>
 bd18 x3 h9 fun x16 h10 =>
 bd17 x3 (.int .i64 (.ofNat 5)) h10 fun x17 h11 =>
 bd32 x2 (.int .i64 (.ofNat 5)) h11 fun x18 h12 =>
 xExtract x18 0 fun x19 =>
 xExtract x18 1 fun x20 =>
 xBoxP 51 [(.bytes 1024 0)] h12 fun x21 h13 =>
 c5_6 x21 x19 h13 x7 x10 x14 x17 x20 x11 x15 x16 x3 k
noncomputable abbrev c5_8 (x3 : CV) (x6 : CV) (h2 : CH) (x2 : CV) (k : CV → CH → Bool) : Bool :=
 bd16 x3 (.int .i64 (.ofNat 5)) x6 h2 fun x7 h3 =>
 bd15 x3 (.int .i64 (.ofNat 5)) h3 fun x8 h4 =>
 xExtract x8 0 fun x9 =>
 xExtract x8 1 fun x10 =>
 xBoxP 51 [(.bytes 1024 0)] h4 fun x11 h5 =>
 xStore (some 1024) x11 x9 h5 fun h6 =>
 bd32 x2 (.int .i64 (.ofNat 5)) h6 fun x12 h7 =>
 xExtract x12 0 fun x13 =>
 xExtract x12 1 fun x14 =>
 c5_7 h7 x13 x3 x2 x7 x10 x14 x11 k
noncomputable def bd5 (h : CH) (k : CV → CH → Bool) : Bool :=
 bd30 h fun x1 h1 =>
 xExtract x1 0 fun x2 =>
 xExtract x1 1 fun x3 =>
 xExtract x1 2 fun x4 =>
 xUn .not x4 fun x5 =>
 xIte x5
  (k (.bool false) h1)
  (bd31 (.int .u16 (.ofNat 7)) h1 fun x6 h2 =>
  c5_8 x3 x6 h2 x2 k)
noncomputable abbrev exg5 : Ex := fun args h k => a0 args (bd5  h k)
set_option maxRecDepth 100000 in
theorem simg5 : SimG Try.prog 5 exg5 := by
  intro args h k hk
  obtain ⟨rfl, hk⟩ := a0_ok hk
  exact simG_of (qf := (fun f => [31].contains f)) (Z := zs) (C := [(30, ex30), (31, ex31), (16, ex16), (15, ex15), (32, ex32), (18, ex18), (17, ex17), (22, ex22), (21, ex21)]) (T := [(10, .two ⟨[0, 1, 2, 3, 4, 5, 6, 7, 8, 9, 10, 11, 12, 13, 14, 15, 16, 17, 18, 19, 20, 21, 22, 23, 24, 25, 26, 27, 28, 29, 30, 31, 32, 33, 34, 35, 36, 37, 38, 39, 40, 41, 42, 43], 44, 45, [46, 47, 48]⟩)]) ⟨zerosB_ok zsOk, (exCons (by kernel_rfl) sim30 (exCons (by kernel_rfl) sim31 (exCons (by kernel_rfl) sim16 (exCons (by kernel_rfl) sim15 (exCons (by kernel_rfl) sim32 (exCons (by kernel_rfl) sim18 (exCons (by kernel_rfl) sim17 (exCons (by kernel_rfl) sim22 (exCons (by kernel_rfl) sim21 exNil)))))))))⟩ .nil Try.func5 _ h k (Eq.mp (by kernel_rfl : (bd5  h k = true) = (xFnG Try.prog (fun f => [31].contains f) zs [(30, ex30), (31, ex31), (16, ex16), (15, ex15), (32, ex32), (18, ex18), (17, ex17), (22, ex22), (21, ex21)] [(10, .two ⟨[0, 1, 2, 3, 4, 5, 6, 7, 8, 9, 10, 11, 12, 13, 14, 15, 16, 17, 18, 19, 20, 21, 22, 23, 24, 25, 26, 27, 28, 29, 30, 31, 32, 33, 34, 35, 36, 37, 38, 39, 40, 41, 42, 43], 44, 45, [46, 47, 48]⟩)] Try.f5 .nil [] h k = true)) hk)
set_option maxHeartbeats 4000000 in
theorem ok5 : exg5 [] h0 (fun z _ => isTrue z) = true := by kernel_rfl
noncomputable def ex5 : Ex := exTrue
theorem sim5 : SimF Try.prog 5 ex5 := simTrue fun h => closedG simg5 ok5 h
end Go.Proofs
