/- Xc, part P: rounds of loops over functions, run. -/
import Derived.Test.YtacfcgoighnioaaGreatXcO
set_option linter.unusedVariables false
set_option linter.unusedSectionVars false
set_option linter.unusedSimpArgs false
namespace Go.Xc
open Go.Vc
variable [Sites]

def setX (fr : List CV) : List (Nat × CV) → List CV
  | [] => fr
  | (t, v) :: l => setX (fr.set t v) l
theorem setX_rel {m : M} : ∀ {l : List Nat} {vs : List CV} {us : List Value} {fr : List CV} {frv : Fr}, Vrels m fr frv → Vrels m vs us → vs.length = l.length → Vrels m (setX fr (l.zip vs)) (setL frv (l.zip us))
  | [], _, _, _, _, h, _, _ => by simpa [setX, setL] using h
  | t :: l, [], _, _, _, _, _, hl => by simp at hl
  | t :: l, v :: vs, us, fr, frv, h, hv, hl => by
    obtain ⟨u, us', rfl, h1, h2⟩ := hv
    simp only [List.zip_cons_cons, setX, setL]
    exact setX_rel (set_rel h t h1) h2 (by simpa using hl)
noncomputable def lpEnd (b st : Nat) (j : Option (Option Nat)) (h : CH) (K : CH → Bool) : Bool :=
  match h.get b with
  | some (.lp 1 none n fr) => xSet b (.lp st j n fr) h K
  | _ => false
noncomputable def rdEnd (b : Nat) (k : CV → CH → Bool) : QX
  | .normal, _, h => lpEnd b 0 none h fun h' => k (.bool true) h'
  | .ret, _, h => lpEnd b 2 (some none) h fun h' => k (.bool false) h'
  | .exit id, _, h => lpEnd b 2 (some (some id)) h fun h' => k (.bool false) h'
  | _, _, _ => false
noncomputable def rdMid (b : Nat) (K : List CV → CH → Bool) : QX
  | .normal, fr, h => (match h.get b with
    | some (.lp 0 none n fr0) => xSet b (.lp 1 none n fr0) h fun h' => K fr h'
    | _ => false)
  | _, _, _ => false
/-- A round, by the code itself: what it is handed is laid, then its own code. -/
noncomputable def xRd (P : Program) (qf : FuncId → Bool) (Z : List (Nat × CV)) (C : List (Nat × Ex)) (T : List (Nat × Plan)) (ps : Array Tmp) (x y : Code) (ax ay : Ann) : Ex := fun args h k =>
  match args with
  | .yv b :: .tup fr :: vs => ifX (Nat.beq vs.length ps.size && (noDef x && noDef y)) (xc P qf Z C T x ax (rdMid b fun fr1 h1 => xc P qf Z C T y ay (rdEnd b k) fr1 h1) (setX fr (ps.toList.zip vs)) h) false
  | _ => false

theorem xRd_ok {P : Program} {qf : FuncId → Bool} {Z : List (Nat × CV)} {C : List (Nat × Ex)} {T : List (Nat × Plan)} {n : Nat} {ps : Array Tmp} {x y : Code} {ax ay : Ann} (he : EnvOk P Z C) (hs : ∀ ps' x' y', Sites.ok n ps' x' y' → ps' = ps ∧ x' = x ∧ y' = y) : SimRd P n (xRd P qf Z C T ps x y ax ay) := by
  intro b fr args h k hk ⟨st, j0, hg⟩
  unfold xRd at hk
  simp only at hk
  rw [ifX_eq] at hk
  split at hk <;> try (cases hk; done)
  rename_i hc
  simp only [Bool.and_eq_true] at hc
  obtain ⟨hlen, hnx, hny⟩ := hc
  have hlen := Nat.eq_of_beq_eq_true hlen
  obtain ⟨e1, fr1, h1, k1, w1, _, s1⟩ := xc_ok (top := false) he x ax _ _ h hk (sites_none x ax hnx)
  clear hk
  cases e1 <;> simp only [rdMid] at k1 <;> try (cases k1; done)
  split at k1 <;> try (cases k1; done)
  rename_i n1 fr01 hg1
  obtain ⟨h2, k2, w2, set2⟩ := xSet_ok k1
  clear k1
  obtain ⟨e2, fr2, h3, k3, w3, _, s3⟩ := xc_ok (top := false) he y ay _ _ h2 k2 (sites_none y ay hny)
  clear k2
  have out : ∃ stE, ∃ j : Jmp, ∃ n3 fr3, h3.get b = some (.lp 1 none n3 fr3) ∧ xSet b (.lp stE j n3 fr3) h3 (fun h4 => k (.bool j.isNone) h4) = true ∧ stOf stE = (if j.isNone then .ready else .done) ∧ ((e2 = .normal ∧ j = none) ∨ (e2 = .ret ∧ j = some none) ∨ ∃ id, e2 = .exit id ∧ j = some (some id)) := by
    cases e2 <;> simp only [rdEnd, lpEnd] at k3 <;> try (cases k3; done)
    · split at k3 <;> try (cases k3; done)
      rename_i hg3; exact ⟨0, none, _, _, hg3, k3, rfl, .inl ⟨rfl, rfl⟩⟩
    · split at k3 <;> try (cases k3; done)
      rename_i hg3; exact ⟨2, some (some _), _, _, hg3, k3, rfl, .inr (.inr ⟨_, rfl, rfl⟩)⟩
    · split at k3 <;> try (cases k3; done)
      rename_i hg3; exact ⟨2, some none, _, _, hg3, k3, rfl, .inr (.inl ⟨rfl, rfl⟩)⟩
  clear k3
  obtain ⟨stE, j, n3, fr3, hg3, k4, hstE, hje⟩ := out
  obtain ⟨h4, k5, w4, set4⟩ := xSet_ok k4
  clear k4
  refine ⟨.bool j.isNone, h4, k5, ((w4.trans w3).trans w2).trans w1, fun {H0 m H vargs e K} hr hv hbe hf => ?_⟩
  obtain ⟨e', O, o1, o2, rec, rfl, o3, o4⟩ := hr.obj b _ hg
  rw [hbe] at o1; injection o1 with o1; subst o1
  obtain ⟨q1, q2, q3⟩ := hs _ _ _ o3
  unfold CallV
  simp only
  unfold Yld
  rw [o2]
  simp only
  have hvl : vargs.length = args.length := (Vrels_len hv).symm
  refine ⟨by simp [q1, ← hlen, hvl], ?_⟩
  rw [q1, q2, q3]
  intro w hw
  subst hw
  refine roundIn_of_wpIn (F := wideR none) (n := 0) trivial ?_
  have ha0 : At { tmps := ((ps.zip (#[].toList ++ vargs.toArray.toList).toArray).foldl (fun tmps (x : Nat × Value) => tmps.setIfInBounds x.1 x.2) rec.tmps), defers := [] } (setL rec.tmps.toList (ps.toList.zip vargs)) := by
    show _ = _
    simp only
    rw [← setL_at, ← Array.foldl_toList]
    simp
  have hv0 : Vrels m (setX fr (ps.toList.zip args)) (setL rec.tmps.toList (ps.toList.zip vargs)) := setX_rel o4 hv (by simp [hlen])
  refine wpIn_mono (s1 (some e.1) (fun h => by cases h) hr hv0 ha0) fun e1 a1 w1' hp => ?_
  obtain ⟨rfl, m1, frv1, p1, p2, p3, p4, p5, p6⟩ := hp
  obtain ⟨e1', O1, t1, t2, rec1, rfl, t3, t4⟩ := p1.obj b _ hg1
  have hm1 := p2.pre _ _ hbe
  rw [hm1] at t1; injection t1 with t1; subst t1
  have hl1 : LpAt rec1 e.1 .ready none w1'.heap := t2
  refine ⟨_, begin_ok hl1, ?_⟩
  obtain ⟨u1, u2⟩ := set2 (O := .loop { rec1 with state := .busy, pending := jmpCode none }) p1 hg1 hm1 ⟨rec1, rfl, t3, t4⟩
  refine wpIn_mono (s3 (some e.1) (fun h => by cases h) (w := { w1' with heap := setLp rec1 e.1 .busy none w1'.heap }) u1 p3 p4) fun e2' a2 w2' hp => ?_
  obtain ⟨rfl, m2, frv2, v1, v2, v3, v4, v5, v6⟩ := hp
  obtain ⟨e2', O2, x1, x2, rec2, rfl, x3, x4⟩ := v1.obj b _ hg3
  have hm2 := v2.pre _ _ hm1
  rw [hm2] at x1; injection x1 with x1; subst x1
  have hl2 : LpAt rec2 e.1 .busy none w2'.heap := x2
  obtain ⟨y1, y2⟩ := set4 (O := .loop { rec2 with state := stOf stE, pending := jmpCode j }) v1 hg3 hm2 ⟨rec2, rfl, x3, x4⟩
  have hsm : Sm w w2' := p6.trans ⟨v6.os, v6.out, v6.tape⟩
  have hst2 : setLp rec2 e.1 (if j.isNone then .ready else .done) j w2'.heap = w2'.heap.setIfInBounds e.1 (.loop { rec2 with state := stOf stE, pending := jmpCode j }) := by
    rw [hstE]; rfl
  have hK : K (.bool j.isNone) (setLp rec2 e.1 (if j.isNone then .ready else .done) j w2'.heap) := by
    rw [hst2]
    refine hf m2 _ _ y1 ?_ rfl
    rw [w1] at u2
    rw [w2, w1] at v2
    rw [w3, w2, w1] at y2
    exact ((p2.trans u2).trans v2).trans y2
  have fin : ∃ v w', (Instr.endRound e.1 (jmpCode j)).run P w2' = .ok v w' ∧ ∃ v', Ending.returned v = .returned v' ∧ K v' w'.heap ∧ Sm w w' := ⟨_, _, end_ok hl2, _, rfl, hK, hsm.trans ⟨rfl, rfl, rfl⟩⟩
  rcases hje with ⟨rfl, rfl⟩ | ⟨rfl, rfl⟩ | ⟨id, rfl, rfl⟩
  · exact fin
  · exact fin
  · exact fin

/-! ### Loops by number: loop i of function f is number 10 f + i -/
def rangesOf : Code → List (Array Tmp × Code × Code)
  | .seq a b => rangesOf a ++ rangesOf b
  | .cond _ a b => rangesOf a ++ rangesOf b
  | .block _ c => rangesOf c
  | .scope c => rangesOf c
  | .loop c => rangesOf c
  | .rangeFunc _ ps x y => [(ps, x, y)]
  | _ => []
def siteAt (P : Program) (n : Nat) : Option (Array Tmp × Code × Code) :=
  match P.funcs[n / 10]? with
  | some fn => (match fn.body with
    | some c => (rangesOf c)[n % 10]?
    | none => none)
  | none => none
/-- The loops of a program. -/
abbrev sitesOf (P : Program) : Sites := ⟨fun n ps x y => siteAt P n = some (ps, x, y)⟩
def numB (base : Nat) : Code → Ann → Nat → Bool
  | .seq a b, ann, i => (match ann with
    | .join _ _ l r => numB base a l i && numB base b r (i + (rangesOf a).length)
    | .seq l r => numB base a l i && numB base b r (i + (rangesOf a).length)
    | _ => numB base a .nil i && numB base b .nil (i + (rangesOf a).length))
  | .cond _ a b, ann, i => (match ann with
    | .cond l r => numB base a l i && numB base b r (i + (rangesOf a).length)
    | _ => numB base a .nil i && numB base b .nil (i + (rangesOf a).length))
  | .block _ c, ann, i => numB base c ann i
  | .scope c, ann, i => numB base c ann i
  | .loop c, ann, i => (match ann with
    | .loop _ _ b => numB base c b i
    | _ => true)
  | .rangeFunc _ _ _ _, ann, i => (match ann with
    | .loop [n] _ _ => Nat.beq n (base + i)
    | _ => true)
  | _, _, _ => true
theorem num_sites {base : Nat} : ∀ (c : Code) (ann : Ann) (i : Nat), numB base c ann i = true → (∀ j s, (rangesOf c)[j]? = some s → Sites.ok (base + (i + j)) s.1 s.2.1 s.2.2) → SitesIn true c ann := by
  have left : ∀ {a b : Code} {i : Nat}, (∀ j s, (rangesOf a ++ rangesOf b)[j]? = some s → Sites.ok (base + (i + j)) s.1 s.2.1 s.2.2) → ∀ j s, (rangesOf a)[j]? = some s → Sites.ok (base + (i + j)) s.1 s.2.1 s.2.2 := fun h j s hj => h j s (by
    have hlt := (List.getElem?_eq_some_iff.1 hj).1
    rw [List.getElem?_append_left hlt]; exact hj)
  have right : ∀ {a b : Code} {i : Nat}, (∀ j s, (rangesOf a ++ rangesOf b)[j]? = some s → Sites.ok (base + (i + j)) s.1 s.2.1 s.2.2) → ∀ j s, (rangesOf b)[j]? = some s → Sites.ok (base + (i + (rangesOf a).length + j)) s.1 s.2.1 s.2.2 := fun {a b i} h j s hj => by
    have := h ((rangesOf a).length + j) s (by rw [List.getElem?_append_right (by omega), Nat.add_sub_cancel_left]; exact hj)
    rw [← Nat.add_assoc i] at this; exact this
  intro c
  induction c with
  | seq a b iha ihb =>
    intro ann i h hs
    have hs : ∀ j s, (rangesOf a ++ rangesOf b)[j]? = some s → Sites.ok (base + (i + j)) s.1 s.2.1 s.2.2 := hs
    cases ann <;> (unfold numB at h; simp only [Bool.and_eq_true] at h; exact ⟨iha _ _ h.1 (left hs), ihb _ _ h.2 (right hs)⟩)
  | cond x a b iha ihb =>
    intro ann i h hs
    have hs : ∀ j s, (rangesOf a ++ rangesOf b)[j]? = some s → Sites.ok (base + (i + j)) s.1 s.2.1 s.2.2 := hs
    cases ann <;> (unfold numB at h; simp only [Bool.and_eq_true] at h; exact ⟨iha _ _ h.1 (left hs), ihb _ _ h.2 (right hs)⟩)
  | block id c ih => intro ann i h hs; have := ih ann i h hs; cases ann <;> exact this
  | scope c ih => intro ann i h hs; have := ih ann i h hs; cases ann <;> exact this
  | loop c ih =>
    intro ann i h hs
    cases ann with
    | loop L J b => exact ih b i h hs
    | nil => trivial
    | seq l r => trivial
    | join L J l r => trivial
    | cond l r => trivial
  | rangeFunc g ps x y ihx ihy =>
    intro ann i h hs
    cases ann with
    | loop L J b =>
      match L, h with
      | [n], h =>
        have hn : n = base + i := Nat.eq_of_beq_eq_true h
        have := hs 0 (ps, x, y) rfl
        rw [Nat.add_zero, ← hn] at this
        exact ⟨rfl, this⟩
      | [], h => trivial
      | _ :: _ :: _, h => trivial
    | nil => trivial
    | seq l r => trivial
    | join L J l r => trivial
    | cond l r => trivial
  | skip => intro ann i h hs; cases ann <;> trivial
  | label l => intro ann i h hs; cases ann <;> trivial
  | ret => intro ann i h hs; cases ann <;> trivial
  | exit id => intro ann i h hs; cases ann <;> trivial
  | region id ops dr => intro ann i h hs; cases ann <;> trivial
  | goto l => intro ann i h hs; cases ann <;> trivial
  | refuse w => intro ann i h hs; cases ann <;> trivial

theorem div10 (f j : Nat) (h : j < 10) : (10 * f + (0 + j)) / 10 = f := by omega
theorem mod10 (f j : Nat) (h : j < 10) : (10 * f + (0 + j)) % 10 = j := by omega
/-- A function with loops over functions, run. -/
noncomputable def xFnN (P : Program) (qf : FuncId → Bool) (Z : List (Nat × CV)) (C : List (Nat × Ex)) (T : List (Nat × Plan)) (f : FuncId) (fn : Func) (ann : Ann) (args : List CV) (h : CH) (k : CV → CH → Bool) : Bool :=
  match fn.body with
  | some c => ifX (numB (10 * f) c ann 0 && Nat.ble (rangesOf c).length 10) (xc P qf Z C T c ann (retX P fn k) (padX args fn.ntmps) h) false
  | none => false
theorem simN_of {P : Program} {qf : FuncId → Bool} {Z : List (Nat × CV)} {C : List (Nat × Ex)} {T : List (Nat × Plan)} (he : EnvOk P Z C) (hok : ∀ n ps x y, siteAt P n = some (ps, x, y) → Sites.ok n ps x y) {f : FuncId} {fn : Func} (ann : Ann) (hf : P.funcs[f]? = some fn) : SimF P f (xFnN P qf Z C T f fn ann) := by
  intro args h k hk
  unfold xFnN at hk
  split at hk
  · rename_i c hb
    rw [ifX_eq] at hk
    split at hk
    · rename_i hn
      simp only [Bool.and_eq_true] at hn
      have hlen := Nat.le_of_ble_eq_true hn.2
      refine simR_of (qf := qf) (T := T) he ann hf (fun c' hb' => ?_) args h k ?_
      · rw [hb] at hb'; injection hb' with hb'; subst hb'
        refine num_sites c ann 0 hn.1 fun j s hj => hok _ _ _ _ ?_
        have hlt := (List.getElem?_eq_some_iff.1 hj).1
        unfold siteAt
        have hj10 : j < 10 := by omega
        rw [div10 f j hj10, mod10 f j hj10, hf]
        simp only [hb]
        exact hj
      · unfold xFnR
        rw [hb]; exact hk
    · cases hk
  · cases hk
noncomputable def xRdN (P : Program) (qf : FuncId → Bool) (Z : List (Nat × CV)) (C : List (Nat × Ex)) (T : List (Nat × Plan)) (n : Nat) (ax ay : Ann) : Ex := fun args h k =>
  match siteAt P n with
  | some s => xRd P qf Z C T s.1 s.2.1 s.2.2 ax ay args h k
  | none => false
theorem simRdN {P : Program} {qf : FuncId → Bool} {Z : List (Nat × CV)} {C : List (Nat × Ex)} {T : List (Nat × Plan)} (he : EnvOk P Z C) (hdet : ∀ n ps x y, Sites.ok n ps x y → siteAt P n = some (ps, x, y)) {n : Nat} {ax ay : Ann} : SimRd P n (xRdN P qf Z C T n ax ay) := by
  cases hs : siteAt P n with
  | none =>
    intro b fr args h k hk
    have : (match siteAt P n with
      | some s => xRd P qf Z C T s.1 s.2.1 s.2.2 ax ay (.yv b :: .tup fr :: args) h k
      | none => false) = true := hk
    rw [hs] at this; cases this
  | some s =>
    have e : xRdN P qf Z C T n ax ay = xRd P qf Z C T s.1 s.2.1 s.2.2 ax ay := by
      funext args h k
      unfold xRdN
      rw [hs]
    rw [e]
    refine xRd_ok he fun ps' x' y' hok => ?_
    have := hdet _ _ _ _ hok
    rw [hs] at this
    injection this with this
    subst this
    exact ⟨rfl, rfl, rfl⟩
end Go.Xc
