/- Xc, part Q: functions that defer calls, run. -/
import Derived.Test.YtacfcgoighnioaaGreatXcP
import Derived.DefersIn
set_option linter.unusedVariables false
set_option linter.unusedSectionVars false
set_option linter.unusedSimpArgs false
namespace Go.Xc
open Go.Vc
variable [Sites]

/-- A region that makes a function value and defers its call: where the value goes, whose it is, what it holds. -/
def defAt (ops : Array Oper) : Option (Nat × Nat × Array Operand × Array Operand) :=
  match ops.toList with
  | [o1, o2] =>
    (match o1.op, o2.op with
    | .makeFunc (.func g) A C, .defer c =>
      (match o1.dst, c.callee with
      | some t, .value (.tmp t') => (match Nat.beq t t' && (c.args.toList.isEmpty && (o1.guard.isNone && (o2.guard.isNone && o2.dst.isNone))) with | true => some (t, g, A, C) | false => none)
      | _, _ => none)
    | _, _ => none)
  | _ => none
theorem defAt_ok {ops : Array Oper} {t g : Nat} {A C : Array Operand} (h : defAt ops = some (t, g, A, C)) : ∃ (o1 o2 : Oper) (c : Call), ops = #[o1, o2] ∧ o1.op = .makeFunc (.func g) A C ∧ o1.dst = some t ∧ o1.guard = none ∧ o2.op = .defer c ∧ c.callee = .value (.tmp t) ∧ c.args = #[] ∧ o2.guard = none ∧ o2.dst = none := by
  unfold defAt at h
  split at h <;> try (cases h; done)
  rename_i o1 o2 hl
  split at h <;> try (cases h; done)
  rename_i g' A' C' c hop1 hop2
  split at h <;> try (cases h; done)
  rename_i t1 t2 hd hc
  cases hb : (Nat.beq t1 t2 && (c.args.toList.isEmpty && (o1.guard.isNone && (o2.guard.isNone && o2.dst.isNone)))) with
  | false => rw [hb] at h; cases h
  | true =>
    rw [hb] at h
    have h : some (t1, g', A', C') = some (t, g, A, C) := h
    simp only [Option.some.injEq, Prod.mk.injEq] at h
    obtain ⟨rfl, rfl, rfl, rfl⟩ := h
    simp only [Bool.and_eq_true, Option.isNone_iff_eq_none, List.isEmpty_iff] at hb
    obtain ⟨h1, h2, h3, h4, h5⟩ := hb
    have h1 := Nat.eq_of_beq_eq_true h1
    subst h1
    refine ⟨o1, o2, c, ?_, hop1, hd, h3, hop2, hc, Array.toList_inj.1 (by simpa using h2), h4, h5⟩
    exact Array.toList_inj.1 (by rw [hl])

/-- What is deferred, by values of our own. -/
def Drels (m : M) : List CV → List Deferred → Prop
  | [], ds => ds = []
  | z :: l, ds => ∃ d ds', ds = d :: ds' ∧ (∃ g a c va vc, z = .fn g a c ∧ d = { target := .fn (.func g) vc, args := va } ∧ Vrels m a va.toList ∧ Vrels m c vc.toList) ∧ Drels m l ds'
theorem Drels.mono {m m' : M} (h : ∀ (k : Nat) (e : Nat × Nat), m[k]? = some e → m'[k]? = some e) : ∀ {l : List CV} {ds : List Deferred}, Drels m l ds → Drels m' l ds
  | [], _, hd => hd
  | _ :: _, _, ⟨d, ds', h1, ⟨g, a, c, va, vc, h2, h3, h4, h5⟩, h6⟩ => ⟨d, ds', h1, ⟨g, a, c, va, vc, h2, h3, Vrels.mono h _ h4, Vrels.mono h _ h5⟩, h6.mono h⟩

theorem def_region {P : Program} {id : Nat} {ops : Array Oper} {t g : Nat} {A C : Array Operand} (hd : defAt ops = some (t, g, A, C)) {m : M} {fr : List CV} {frv : Fr} {a : Act} {w : World} {Q : Exit → Act → World → Prop} (hv : Vrels m fr frv) (ha : At a frv)
    {fa fc : List CV} {g' : Nat} (hz : slotX (fr.set t (.fn g (opsX (evX fr) A) (opsX (evX fr) C))) t = .fn g' fa fc)
    (hfin : ∀ a' frv' d, Vrels m (fr.set t (.fn g (opsX (evX fr) A) (opsX (evX fr) C))) frv' → At a' frv' → (∃ va vc, d = { target := .fn (.func g') vc, args := va } ∧ Vrels m fa va.toList ∧ Vrels m fc vc.toList) → a'.defers = d :: a.defers → Q .normal a' w) :
    (Code.region id ops false).wpIn (wideR none) 0 P Q a w := by
  obtain ⟨o1, o2, c, rfl, hop1, hd1, hg1, hop2, hc, hargs, hg2, hd2⟩ := defAt_ok hd
  refine wpIn_region ?_
  have hr : List.range (#[o1, o2] : Array Oper).size = [0, 1] := rfl
  rw [hr]
  have w1 : Region.wanted o1 (yielded #[o1, o2] a.tmps) = true := by unfold Region.wanted; rw [hg1]
  have h0' : (#[o1, o2] : Array Oper)[0]? = some o1 := rfl
  have h1' : (#[o1, o2] : Array Oper)[1]? = some o2 := rfl
  simp only [wpOpsIn, h0', w1, if_true]
  let z : Value := .func (.func g) (A.map a.eval) (C.map a.eval)
  refine ⟨fun f hf => trivial, ?_⟩
  have e1 : (o1.semAt (wideR none).round a.eval).run P w = .ok (.value z) w := by
    show (execOp a.eval o1).run P w = _
    unfold execOp
    rw [hop1]
    simp [Instr.makeFunc, z]
  rw [e1, Oper.uponIn_value]
  have w2 : Region.wanted o2 (yielded #[o1, o2] (a.put o1.dst z).tmps) = true := by unfold Region.wanted; rw [hg2]
  simp only [h1', w2, if_true]
  have ha1 : At (a.put o1.dst z) (putF frv o1.dst z) := ha.put _ _
  have hz1 : Vrel m (.fn g (opsX (evX fr) A) (opsX (evX fr) C)) z := by
    refine ⟨_, _, rfl, ?_, ?_⟩
    · rw [ha.ev]; simpa [opsX] using Vrels_map (ev_rel hv) A.toList
    · rw [ha.ev]; simpa [opsX] using Vrels_map (ev_rel hv) C.toList
  have hv1 : Vrels m (fr.set t (.fn g (opsX (evX fr) A) (opsX (evX fr) C))) (putF frv o1.dst z) := by
    rw [hd1]
    exact set_rel hv t hz1
  have hsl := slot_rel hv1 t
  rw [hz] at hsl
  obtain ⟨va, vc, hsv, r1, r2⟩ := hsl
  have e2 : (o2.semAt (wideR none).round (a.put o1.dst z).eval).run P w = .ok (.defer { target := .fn (.func g') vc, args := va }) w := by
    show (execOp (a.put o1.dst z).eval o2).run P w = _
    unfold execOp
    rw [hop2]
    have : (a.put o1.dst z).eval (.tmp t) = .func (.func g') va vc := by rw [ha1.ev]; exact hsv
    simp [resolve, hc, this, hargs, Deferred.ofValue]
  refine ⟨fun f hf => trivial, ?_⟩
  rw [e2, Oper.uponIn_defer]
  have e3 : ∀ (b : Act), b.put o2.dst undef = b := fun b => by rw [hd2]; rfl
  rw [e3]
  refine hfin _ _ _ hv1 ?_ ⟨va, vc, rfl, r1, r2⟩ ?_
  · exact ha1
  · rw [hd1]; rfl

section
variable (P : Program) (qf : FuncId → Bool) (Z : List (Nat × CV)) (C : List (Nat × Ex)) (T : List (Nat × Plan))
noncomputable def xDefer (ops : Array Oper) (dr : Bool) (ds fr : List CV) (K : List CV → List CV → Bool) (alt : Bool) : Bool :=
  match defAt ops with
  | some (t, g, A, E) => ifX dr false ((fun fr1 => match slotX fr1 t with
    | .fn g' a c => K (.fn g' a c :: ds) fr1
    | _ => false) (fr.set t (.fn g (opsX (evX fr) A) (opsX (evX fr) E))))
  | none => alt
noncomputable def xcD : Code → Ann → (List CV → QX) → List CV → List CV → CH → Bool
  | .seq a b, ann, Q, ds, fr, h =>
    match ann with
    | .seq l r => xcD a l (fun ds' => thnX (xcD b r Q ds') (Q ds')) ds fr h
    | .join L J l r => xc P qf Z C T (.seq a b) (.join L J l r) (Q ds) fr h
    | _ => xcD a .nil (fun ds' => thnX (xcD b .nil Q ds') (Q ds')) ds fr h
  | .region id ops dr, ann, Q, ds, fr, h => xDefer ops dr ds fr (fun ds' fr' => Q ds' .normal fr' h) (xc P qf Z C T (.region id ops dr) ann (Q ds) fr h)
  | c, ann, Q, ds, fr, h => xc P qf Z C T c ann (Q ds) fr h
end

def PostD (H0 : Hp) (m : M) (wp : Nat) (ds' : List CV) (e : Exit) (fr' : List CV) (h' : CH) (w : World) : Exit → Act → World → Prop := fun e' a' w' =>
  e' = e ∧ ∃ m' frv', Rel H0 m' h' w'.heap ∧ Stp wp m w.heap m' w'.heap ∧ Vrels m' fr' frv' ∧ At a' frv' ∧ Drels m' ds' a'.defers ∧ Sm w w'
def SimCD (P : Program) (c : Code) (ds fr : List CV) (h : CH) (ds' : List CV) (e : Exit) (fr' : List CV) (h' : CH) : Prop :=
  ∀ {H0 m frv a w}, Rel H0 m h w.heap → Vrels m fr frv → At a frv → Drels m ds a.defers → c.wpIn (wideR none) 0 P (PostD H0 m h.wp ds' e fr' h' w) a w

theorem xcD_ok {P : Program} {qf : FuncId → Bool} {Z : List (Nat × CV)} {C : List (Nat × Ex)} {T : List (Nat × Plan)} (he : EnvOk P Z C) : ∀ (c : Code) (ann : Ann) (Q : List CV → QX) (ds fr : List CV) (h : CH), noDef c = true → xcD P qf Z C T c ann Q ds fr h = true →
    ∃ ds' e fr' h', Q ds' e fr' h' = true ∧ h'.wp = h.wp ∧ SimCD P c ds fr h ds' e fr' h' := by
  intro c
  have leaf : ∀ {c : Code} {ann : Ann} {Q : List CV → QX} {ds fr : List CV} {h : CH}, noDef c = true → xc P qf Z C T c ann (Q ds) fr h = true → ∃ ds' e fr' h', Q ds' e fr' h' = true ∧ h'.wp = h.wp ∧ SimCD P c ds fr h ds' e fr' h' := by
    intro c ann Q ds fr h hn hk
    obtain ⟨e, fr', h', k1, k2, _, k4⟩ := xc_ok (top := false) he c ann (Q ds) fr h hk (sites_none c ann hn)
    refine ⟨ds, e, fr', h', k1, k2, fun {H0 m frv a w} hr hv ha hd => ?_⟩
    refine wpIn_mono (k4 none (fun _ => rfl) hr hv ha) fun e' a' w' hp => ?_
    obtain ⟨rfl, m', frv', p1, p2, p3, p4, ⟨Ds, q1, q2, _⟩, p6⟩ := hp
    refine ⟨rfl, m', frv', p1, p2, p3, p4, ?_, p6⟩
    rw [q1, q2.2 rfl]
    exact hd.mono p2.pre
  have seqs : ∀ {x y : Code} {ds fr : List CV} {h : CH} {Q : List CV → QX} {K : List CV → List CV → CH → Bool},
      (∃ ds1 e fr1 h1, thnX (K ds1) (Q ds1) e fr1 h1 = true ∧ h1.wp = h.wp ∧ SimCD P x ds fr h ds1 e fr1 h1) →
      (∀ ds1 fr1 h1, K ds1 fr1 h1 = true → ∃ ds' e fr' h', Q ds' e fr' h' = true ∧ h'.wp = h1.wp ∧ SimCD P y ds1 fr1 h1 ds' e fr' h') →
      ∃ ds' e fr' h', Q ds' e fr' h' = true ∧ h'.wp = h.wp ∧ SimCD P (.seq x y) ds fr h ds' e fr' h' := by
    intro x y ds fr h Q K ⟨ds1, e1, fr1, h1, k1, w1, s1⟩ h2
    rcases thnX_ok k1 with ⟨rfl, k1⟩ | ⟨hne, k1⟩
    · obtain ⟨ds2, e2, fr2, h2', k2, w2, s2⟩ := h2 _ _ _ k1
      refine ⟨ds2, e2, fr2, h2', k2, w2.trans w1, fun {H0 m frv a w} hr hv ha hd => ?_⟩
      refine wpIn_seq (wpIn_mono (s1 hr hv ha hd) fun e' a' w' hp => ?_)
      obtain ⟨rfl, m1, frv1, p1, p2, p3, p4, p5, p6⟩ := hp
      refine wpIn_mono (s2 p1 p3 p4 p5) fun e'' a'' w'' hp => ?_
      obtain ⟨rfl, m2, frv2, q1, q2, q3, q4, q5, q6⟩ := hp
      rw [w1] at q2
      exact ⟨rfl, m2, frv2, q1, p2.trans q2, q3, q4, q5, p6.trans q6⟩
    · refine ⟨ds1, e1, fr1, h1, k1, w1, fun {H0 m frv a w} hr hv ha hd => ?_⟩
      refine wpIn_seq (wpIn_mono (s1 hr hv ha hd) fun e' a' w' hp => ?_)
      have := hp.1
      subst this
      cases e' <;> first | exact absurd rfl hne | exact hp
  induction c with
  | seq x y ihx ihy =>
    intro ann Q ds fr h hn hk
    have hn2 : (noDef x && noDef y) = true := hn
    simp only [Bool.and_eq_true] at hn2
    have go : ∀ {l r : Ann}, xcD P qf Z C T x l (fun ds' => thnX (xcD P qf Z C T y r Q ds') (Q ds')) ds fr h = true → ∃ ds' e fr' h', Q ds' e fr' h' = true ∧ h'.wp = h.wp ∧ SimCD P (.seq x y) ds fr h ds' e fr' h' := fun {l r} hk =>
      seqs (K := xcD P qf Z C T y r Q) (ihx l _ ds fr h hn2.1 hk) (fun ds1 fr1 h1 hk => ihy r Q ds1 fr1 h1 hn2.2 hk)
    cases ann with
    | seq l r => exact go hk
    | join L J l r => exact leaf (ann := .join L J l r) hn hk
    | nil => exact go hk
    | cond l r => exact go hk
    | loop L J b => exact go hk
  | region id ops dr =>
    intro ann Q ds fr h hn hk
    have hk2 : xDefer ops dr ds fr (fun ds' fr' => Q ds' .normal fr' h) (xc P qf Z C T (.region id ops dr) ann (Q ds) fr h) = true := by cases ann <;> exact hk
    clear hk
    unfold xDefer at hk2
    split at hk2
    · rename_i t g A E hd
      rw [ifX_eq] at hk2
      split at hk2 <;> try (cases hk2; done)
      rename_i hdr
      have hdr : dr = false := by cases dr <;> simp_all
      subst hdr
      have hk2 : (match slotX (fr.set t (.fn g (opsX (evX fr) A) (opsX (evX fr) E))) t with
        | .fn g' a c => Q (.fn g' a c :: ds) .normal (fr.set t (.fn g (opsX (evX fr) A) (opsX (evX fr) E))) h
        | _ => false) = true := hk2
      split at hk2 <;> try (cases hk2; done)
      rename_i g' fa fc hz
      refine ⟨_, _, _, _, hk2, rfl, fun {H0 m frv a w} hr hv ha hD => ?_⟩
      refine def_region hd hv ha hz fun a' frv' d r1 r2 r3 r4 => ?_
      obtain ⟨va, vc, r5, r6, r7⟩ := r3
      refine ⟨rfl, m, frv', hr, Stp.refl _ _ _, r1, r2, ?_, Sm.refl w⟩
      rw [r4]
      exact ⟨d, _, rfl, ⟨g', fa, fc, va, vc, rfl, r5, r6, r7⟩, hD⟩
    · exact leaf hn hk2
  | skip => intro ann Q ds fr h hn hk; exact leaf (ann := ann) hn (by cases ann <;> exact hk)
  | label l => intro ann Q ds fr h hn hk; exact leaf (ann := ann) hn (by cases ann <;> exact hk)
  | ret => intro ann Q ds fr h hn hk; exact leaf (ann := ann) hn (by cases ann <;> exact hk)
  | exit id => intro ann Q ds fr h hn hk; exact leaf (ann := ann) hn (by cases ann <;> exact hk)
  | block id c ih => intro ann Q ds fr h hn hk; exact leaf (ann := ann) hn (by cases ann <;> exact hk)
  | cond c x y ihx ihy => intro ann Q ds fr h hn hk; exact leaf (ann := ann) hn (by cases ann <;> exact hk)
  | loop c ih => intro ann Q ds fr h hn hk; exact leaf (ann := ann) hn (by cases ann <;> exact hk)
  | scope c ih => intro ann Q ds fr h hn hk; exact leaf (ann := ann) hn (by cases ann <;> exact hk)
  | goto l => intro ann Q ds fr h hn hk; exact leaf (ann := ann) hn (by cases ann <;> exact hk)
  | refuse why => intro ann Q ds fr h hn hk; exact leaf (ann := ann) hn (by cases ann <;> exact hk)
  | rangeFunc g ps x y ihx ihy => intro ann Q ds fr h hn hk; cases hn

/-- A run of a function that is deferred. -/
def SimD (P : Program) (f : FuncId) (ex : Ex) : Prop :=
  ∀ args h k, ex args h k = true → ∃ z h', k z h' = true ∧ h'.wp = h.wp ∧ ∀ {H0 m w vargs}, Rel H0 m h w.heap → Vrels m args vargs →
    CallsDIn (wideR none) 0 P f vargs.toArray .returning w fun e u' w' => u' = .returning ∧ ∃ v, e = .returned v ∧ ∃ m', Rel H0 m' h' w'.heap ∧ Stp h.wp m w.heap m' w'.heap ∧ Sm w w'
theorem simD_of {P : Program} {qf : FuncId → Bool} {Z : List (Nat × CV)} {C : List (Nat × Ex)} {T : List (Nat × Plan)} (he : EnvOk P Z C) {f : FuncId} {fn : Func} (ann : Ann) (hf : P.funcs[f]? = some fn) : SimD P f (xFn P qf Z C T fn ann) := by
  intro args h k hk
  unfold xFn at hk
  split at hk <;> try (cases hk; done)
  rename_i c hb
  rw [ifX_eq] at hk
  split at hk <;> try (cases hk; done)
  rename_i hn
  obtain ⟨e, fr', h', k1, k2, _, k4⟩ := xc_ok (top := false) he c ann _ _ h hk (sites_none c ann hn)
  have key : (e = .normal ∨ e = .ret) ∧ xRes P fr' h' (fun v => k v h') fn.results.toList [] = true := by
    cases e <;> first | exact ⟨.inl rfl, k1⟩ | exact ⟨.inr rfl, k1⟩ | cases k1
  obtain ⟨hex, hres⟩ := key
  obtain ⟨z, h1, h2⟩ := xRes_ok hres
  refine ⟨z, h', h1, k2, fun {H0 m w vargs} hr hv => ?_⟩
  refine CallsDIn.mono (callsDIn_of_wp (R := fun e w' => ∃ v, e = .returned v ∧ ∃ m', Rel H0 m' h' w'.heap ∧ Stp h.wp m w.heap m' w'.heap ∧ Sm w w') hf hb trivial ?_ rfl) fun e u' w' hp => hp
  have ha : At { tmps := vargs.toArray ++ Array.replicate (fn.ntmps - vargs.toArray.size) undef, defers := [] } (padF vargs fn.ntmps) := by
    simp [At, padF]
  refine wpIn_mono (k4 none (fun _ => rfl) hr (pad_rel hv fn.ntmps) ha) fun e' a' w' hp => ?_
  obtain ⟨rfl, m', frv', p1, p2, p3, p4, ⟨Ds, q1, q2, _⟩, p6⟩ := hp
  have hdef : a'.defers = [] := by rw [q1, q2.2 rfl]; rfl
  obtain ⟨v, hv1, hR⟩ := results_ok (R := fun v H' => H' = w'.heap) p4 (h2 p1 p3 rfl fun v hv => rfl)
  have fin : a'.defers = [] ∧ ∃ v, (results fn a'.tmps).run P w' = .ok v w' ∧ ∃ v', Ending.returned v = .returned v' ∧ ∃ m', Rel H0 m' h' w'.heap ∧ Stp h.wp m w.heap m' w'.heap ∧ Sm w w' := ⟨hdef, v, hv1, v, rfl, m', p1, p2, p6⟩
  rcases hex with rfl | rfl
  · exact fin
  · exact fin

def DxOk (P : Program) (D : List (Nat × Ex)) : Prop := ∀ p, p ∈ D → enterB P p.1 = true ∧ SimD P p.1 p.2
theorem dxNil {P : Program} : DxOk P [] := fun p hp => by cases hp
theorem dxCons {P : Program} {f : Nat} {ex : Ex} {D : List (Nat × Ex)} (h1 : enterB P f = true) (h2 : SimD P f ex) (h3 : DxOk P D) : DxOk P ((f, ex) :: D) := fun p hp => by
  rcases List.mem_cons.1 hp with rfl | hp
  · exact ⟨h1, h2⟩
  · exact h3 p hp

noncomputable def xRunDs (D : List (Nat × Ex)) : List CV → CH → (CH → Bool) → Bool
  | [], h, K => K h
  | z :: ds, h, K => match z with
    | .fn g a c => xCall (look D g) (a ++ c) h fun _ h' => xRunDs D ds h' K
    | _ => false
theorem xRunDs_ok {P : Program} {D : List (Nat × Ex)} (hD : DxOk P D) : ∀ {ds : List CV} {h : CH} {K : CH → Bool}, xRunDs D ds h K = true → ∃ h', K h' = true ∧ h'.wp = h.wp ∧ ∀ {H0 m w Ds fn tmps} {R : Ending → World → Prop}, Rel H0 m h w.heap → Drels m ds Ds →
      (∀ m' w', Rel H0 m' h' w'.heap → Stp h.wp m w.heap m' w'.heap → Sm w w' → LeavesInM (wideR none) 0 P fn tmps R [] .returning w') → LeavesInM (wideR none) 0 P fn tmps R Ds .returning w
  | [], h, K, hk => ⟨h, hk, rfl, fun {H0 m w Ds fn tmps R} hr hd hf => by
      simp only [Drels] at hd; subst hd
      exact hf m w hr (Stp.refl _ _ _) (Sm.refl w)⟩
  | z :: ds, h, K, hk => by
    unfold xRunDs at hk
    split at hk <;> try (cases hk; done)
    rename_i g a c
    unfold xCall at hk
    split at hk <;> try (cases hk; done)
    rename_i ex hl
    obtain ⟨hen, hsim⟩ := look_ok (Q := fun f ex => enterB P f = true ∧ SimD P f ex) hD hl
    obtain ⟨_, h1, k1, w1, s1⟩ := hsim _ _ _ hk
    obtain ⟨h2, k2, w2, s2⟩ := xRunDs_ok hD k1
    refine ⟨h2, k2, w2.trans w1, fun {H0 m w Ds fn tmps R} hr hd hf => ?_⟩
    obtain ⟨d, Ds', rfl, ⟨g', a', c', va, vc, hz, rfl, r1, r2⟩, r3⟩ := hd
    cases hz
    refine ⟨by simp, .inr ⟨fun hs => by simp [wideR, Fence.wide] at hs, .func g, vc, g, va ++ vc, rfl, ?_, fun _ _ => trivial, ?_⟩⟩
    · have := enter_ok hen (va ++ vc) w
      simpa [invoke] using this
    · have hc := s1 hr (Vrels_append r1 r2)
      have e1 : (va.toList ++ vc.toList).toArray = va ++ vc := by simp
      rw [e1] at hc
      refine CallsDIn.mono hc fun e u' w' hp => ?_
      obtain ⟨rfl, v, rfl, m', q1, q2, q3⟩ := hp
      show LeavesInM (wideR none) 0 P fn tmps R Ds' (settle .returning) w'
      refine s2 q1 (r3.mono q2.pre) fun m'' w'' t1 t2 t3 => hf m'' w'' t1 ?_ (q3.trans t3)
      rw [w1] at t2
      exact q2.trans t2

noncomputable abbrev retD (P : Program) (D : List (Nat × Ex)) (fn : Func) (k : CV → CH → Bool) (ds : List CV) : QX
  | .normal, fr, h => xRunDs D ds h fun h' => xRes P fr h' (fun v => k v h') fn.results.toList []
  | .ret, fr, h => xRunDs D ds h fun h' => xRes P fr h' (fun v => k v h') fn.results.toList []
  | _, _, _ => false
noncomputable def xFnD (P : Program) (qf : FuncId → Bool) (Z : List (Nat × CV)) (C D : List (Nat × Ex)) (T : List (Nat × Plan)) (fn : Func) (ann : Ann) (args : List CV) (h : CH) (k : CV → CH → Bool) : Bool :=
  match fn.body with
  | some c => ifX (noDef c) (xcD P qf Z C T c ann (retD P D fn k) [] (padX args fn.ntmps) h) false
  | none => false
theorem simDf_of {P : Program} {qf : FuncId → Bool} {Z : List (Nat × CV)} {C D : List (Nat × Ex)} {T : List (Nat × Plan)} (he : EnvOk P Z C) (hD : DxOk P D) {f : FuncId} {fn : Func} (ann : Ann) (hf : P.funcs[f]? = some fn) : SimF P f (xFnD P qf Z C D T fn ann) := by
  intro args h k hk
  unfold xFnD at hk
  split at hk <;> try (cases hk; done)
  rename_i c hb
  rw [ifX_eq] at hk
  split at hk <;> try (cases hk; done)
  rename_i hn
  obtain ⟨ds', e, fr', h', k1, k2, k4⟩ := xcD_ok he c ann _ [] _ h hn hk
  have key : (e = .normal ∨ e = .ret) ∧ xRunDs D ds' h' (fun h' => xRes P fr' h' (fun v => k v h') fn.results.toList []) = true := by
    cases e <;> first | exact ⟨.inl rfl, k1⟩ | exact ⟨.inr rfl, k1⟩ | cases k1
  obtain ⟨hex, hrun⟩ := key
  obtain ⟨h2, k5, w2, s2⟩ := xRunDs_ok hD hrun
  obtain ⟨z, h1, h3⟩ := xRes_ok k5
  refine ⟨z, h2, h1, w2.trans k2, fun {H0 m H vargs K} hr hv hK => ?_⟩
  intro w hw
  subst hw
  refine callsIn_of_wp_marks hf hb trivial ?_ rfl
  have ha : At { tmps := vargs.toArray ++ Array.replicate (fn.ntmps - vargs.toArray.size) undef, defers := [] } (padF vargs fn.ntmps) := by
    simp [At, padF]
  refine wpIn_mono (k4 hr (pad_rel hv fn.ntmps) ha rfl) fun e' a' w' hp => ?_
  obtain ⟨rfl, m', frv', p1, p2, p3, p4, p5, p6⟩ := hp
  have ht : a'.tmps.toList = frv' := by rw [show a'.tmps = frv'.toArray from p4]
  have fin : LeavesInM (wideR none) 0 P fn a'.tmps (fun e w' => ∃ v, e = .returned v ∧ K v w'.heap ∧ Sm w w') a'.defers .returning w' := by
    refine s2 p1 p5 fun m'' w'' q1 q2 q3 => ?_
    rw [k2] at q2
    have hres : Res P fn.results.toList frv' w''.heap K := h3 q1 (Vrels.mono q2.pre fr' p3) rfl fun v hv => hK m'' w''.heap v q1 (p2.trans q2) hv
    obtain ⟨v, hv, hR⟩ := results_ok (a := a') p4 hres
    exact ⟨v, hv, v, rfl, hR, p6.trans q3⟩
  rcases hex with rfl | rfl
  · exact fin
  · exact fin

/-! ### A run with one block that was there before: a slice of the caller's -/
/-- One block, of which nothing is known, and which is not written. -/
noncomputable def hS : CH := .mk (.nd .lf (some (.fz 0 0 0)) .lf) 1 1
theorem get_hS {k : Nat} {o : CO} (h : hS.get k = some o) : k = 0 ∧ o = .fz 0 0 0 := by
  cases k with
  | zero =>
    have h : some (CO.fz 0 0 0) = some o := h
    injection h with h
    exact ⟨rfl, h.symm⟩
  | succ k =>
    exfalso
    have h : (Tr.nd .lf (some (CO.fz 0 0 0)) .lf).get (k + 1) = some o := h
    rw [Tr.get_s] at h
    split at h <;> cases h
theorem relS {H : Hp} {b : Nat} {c : Array Value} {T : TypeId} {z : Nat × Nat} (hb : H[b]? = some (.cells c T z)) : Rel #[] [(b, c.size)] hS H := by
  refine ⟨⟨Nat.zero_le _, fun b hb => by simp at hb⟩, rfl, fun k e _ => Nat.zero_le _, fun k o hk => ?_, fun j k x y d e hj hk _ _ _ => ?_, fun k e hk => ?_⟩
  · obtain ⟨rfl, rfl⟩ := get_hS hk
    exact ⟨_, _, rfl, hb, c, T, z, rfl, rfl, Nat.zero_le _, by simp [bytesL]⟩
  · rw [(get_hS hj).1, (get_hS hk).1]
  · cases k with
    | zero =>
      simp only [List.getElem?_cons_zero, Option.some.injEq] at hk
      subst hk
      exact Vc.lt_of_block hb
    | succ k => simp at hk
theorem closedS {P : Program} {f : FuncId} {ex : Ex} {xs : List CV} (hs : SimF P f ex) {T : TypeId} (hk : ex xs hS (fun z _ => isTrue z) = true) {H : Hp} {b : Nat} {c : Array Value} {z : Nat × Nat} (hb : H[b]? = some (.cells c T z)) {vs : List Value} (hv : Vrels [(b, c.size)] xs vs) {R : Value → Hp → Prop} (h : ∀ H', Ext H H' → R (.bool true) H') : Fc P f vs.toArray H R := by
  obtain ⟨z', h', h1, _, h2⟩ := hs _ _ _ hk
  rw [isTrue_ok h1] at h2
  refine h2 (relS hb) hv fun m' H' v r1 r2 r3 => ?_
  simp only [Vrel] at r3; subst r3
  refine h H' (r2.kp.ext fun b' _ hw => ?_)
  obtain ⟨k, e, h3, h4, _⟩ := hw
  have h4 : 1 ≤ k := h4
  rw [List.getElem?_eq_none (by simpa using h4)] at h3
  cases h3
end Go.Xc
