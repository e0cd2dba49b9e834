/- Vc, part G: the conditions are sound, operation by operation, region by region. -/
import Derived.Test.YtacfcgoighnioaaGreatVcF
set_option linter.unusedVariables false
set_option linter.unusedSimpArgs false
namespace Go.Vc
section
variable {P : Program} {qf : FuncId → Bool} {dr q : Bool} {o : Oper} {ρ : Operand → Value} {H : Hp} {K : Value → Hp → Prop}

theorem opts_map (ρ : Operand → Value) (x : Option Operand) : x.map ρ = x.map ρ := rfl

theorem pureS (hc : clsOf P qf o = .pure) (h : vcOp P qf dr q o ρ H K) : ∃ v, Pv P (execOp ρ o) v ∧ K v H := by
  obtain ⟨dst, op, type, pos, after, guard⟩ := o
  unfold clsOf at hc
  unfold vcOp at h
  cases op <;> simp only at hc h <;> (try (cases hc; done))
  case move x => exact ⟨_, fun w => rfl, h⟩
  case assign x => exact ⟨_, fun w => rfl, h⟩
  case pick c a b =>
    unfold Ite at h
    split at h
    · rename_i hcv; exact ⟨_, fun w => by simp [execOp, hcv, asBool], h⟩
    · rename_i hcv; exact ⟨_, fun w => by simp [execOp, hcv, asBool], h⟩
    · exact h.elim
  case build T parts =>
    obtain ⟨v, hv, hk⟩ := Pu.get h
    refine ⟨v, pv_val fun w => ?_, hk⟩
    have : (parts.map fun (i, x) => (i, ρ x)).toList = partsOf ρ parts := by simp [partsOf]
    exact buildE_ok (by rw [this]; exact hv)
  case nilCheck x =>
    obtain ⟨v, hv, hk⟩ := Pu.get h
    refine ⟨v, fun w => ?_, hk⟩
    unfold nilCheckE at hv
    split at hv <;> first | (cases hv; done) | (rename_i hx; injection hv with hv; subst hv; simp [execOp, hx]; done)
  case binOp op T x y T2 =>
    cases hh : hardT (P.underlying T) with
    | true => rw [hh] at hc; cases hc
    | false =>
      rw [hh] at h
      obtain ⟨v, hv, hk⟩ := Pu.get h
      exact ⟨v, pv_val fun w => binE_ok hv, hk⟩
  case unOp op T x =>
    obtain ⟨v, hv, hk⟩ := Pu.get h
    exact ⟨v, pv_val fun w => unE_ok hv, hk⟩
  case convert s d x =>
    cases hst : strT P s d with
    | true => rw [hst] at hc; cases hc
    | false =>
    rw [hst] at hc h
    simp only at hc h
    cases hb : bytesT P s d with
    | true => rw [hb] at hc; cases hc
    | false =>
      rw [hb] at h
      obtain ⟨v, hv, hk⟩ := Pu.get h
      exact ⟨v, pv_val fun w => convE_ok hv, hk⟩
  case makeFunc fn first cap =>
    refine ⟨_, pv_val fun w => ?_, h⟩
    rw [opsA_eq, opsA_eq]; rfl
  case slice T x lo hi mx =>
    obtain ⟨v, hv, hk⟩ := Pu.get h
    exact ⟨v, pv_val fun w => slice_ok hv, hk⟩
  case fieldAddr S x f =>
    obtain ⟨v, hv, hk⟩ := Pu.get h
    exact ⟨v, pv_val fun w => fieldAt_ok hv, hk⟩
  case field S x f =>
    obtain ⟨v, hv, hk⟩ := Pu.get h
    exact ⟨v, pv_val fun w => field_ok hv, hk⟩
  case sliceToArrayPointer T x =>
    obtain ⟨v, hv, hk⟩ := Pu.get h
    exact ⟨v, pv_val fun w => arrayAt_ok hv, hk⟩
  case indexAddr T x i =>
    obtain ⟨v, hv, hk⟩ := Pu.get h
    exact ⟨v, pv_val fun w => indexAt_ok hv, hk⟩
  case index T x i =>
    obtain ⟨v, hv, hk⟩ := Pu.get h
    exact ⟨v, pv_val fun w => index_ok hv, hk⟩
  case extract t i =>
    obtain ⟨v, hv, hk⟩ := Pu.get h
    exact ⟨v, pv_val fun w => extract_ok hv, hk⟩
  case call c =>
    obtain ⟨callee, args, ats⟩ := c
    cases callee <;> simp only at hc h
    case builtin b =>
      have hargs : args.map ρ = (args.toList.map ρ).toArray := map_ops ρ args
      have hts : ats = ats.toList.toArray := by simp
      have hrun : ∀ w v, (∀ w, (match b with | .len => Builtin.len_ ats type (args.map ρ) | .min => Builtin.min_ ats type (args.map ρ) | .max => Builtin.max_ ats type (args.map ρ) | _ => stuck "").run P w = .ok v w) →
          (b = .len ∨ b = .min ∨ b = .max) → (execOp ρ ⟨dst, .call ⟨.builtin b, args, ats⟩, type, pos, after, guard⟩).run P w = .ok (.value v) w := by
        intro w v hv hb
        rcases hb with rfl | rfl | rfl <;> simp [execOp, resolve, invoke, builtin, hv w]
      unfold vcBuiltin at h
      split at h
      · rename_i T x h1 h2
        have hm : lenMap P ats = isMapT (P.underlying T) := by unfold lenMap; rw [h1]
        cases hh : isMapT (P.underlying T) with
        | true => simp only [hm, hh] at hc; cases hc
        | false =>
          rw [hh] at h
          obtain ⟨v, hv, hk⟩ := Pu.get h
          exact ⟨v, fun w => hrun w v (fun w => by rw [hargs, h2, hts, h1]; exact len_ok hv) (.inl rfl), hk⟩
      · obtain ⟨v, hv, hk⟩ := Pu.get h
        rename_i x y h2
        exact ⟨v, fun w => hrun w v (fun w => by rw [hargs, h2]; exact min_ok hv) (.inr (.inl rfl)), hk⟩
      · obtain ⟨v, hv, hk⟩ := Pu.get h
        rename_i x y h2
        exact ⟨v, fun w => hrun w v (fun w => by rw [hargs, h2]; exact max_ok hv) (.inr (.inr rfl)), hk⟩
      · cases hc
      · cases hc
      · cases hc
      · cases hc
      · exact h.elim
    case value x =>
      cases x <;> simp only at hc <;> (try (cases hc; done))
      split at hc <;> cases hc

theorem call_run {f : FuncId} {args : Array Operand} {ats : Array TypeId} (hop : o.op = .call ⟨.value (.func f), args, ats⟩) (hρ : ρ (.func f) = .func (.func f) #[] #[]) (hen : enterB P f = true) (w : World) :
    (execOp ρ o).run P w = .ok (.enter f (args.map ρ)) w := by
  unfold execOp
  rw [hop]
  simp only [resolve, hρ, Deferred.ofValue, Sem.run_bind, Sem.run_pure, Result.andThen_ok, invoke]
  simpa using enter_ok hen (args.map ρ) w

/-- The evaluation of operands is a frame's. -/
def Good (ρ : Operand → Value) : Prop := ∀ f, ρ (.func f) = .func (.func f) #[] #[]

theorem isMapT_spec {td : Option TypeDesc} (h : isMapT td = true) : ∃ k e, td = some (.map k e) := by
  unfold isMapT at h
  split at h
  · exact ⟨_, _, rfl⟩
  · cases h
theorem quiet_of {s : Sem Next} {v : Value} (h : ∀ w, Ex q H w.heap → s.run P w = .ok (.value v) w) : Qw q P s H v := fun H' hx w hw => by
  rw [h w (by rw [hw]; exact hx)]
  exact ⟨Sm.refl w, rfl, by rw [hw]; exact Ex.refl q H'⟩

theorem quietS (hg : Good ρ) (hc : clsOf P qf o = .quiet) (h : vcOp P qf true q o ρ H K) : ∃ v, Qw q P (execOp ρ o) H v ∧ K v H := by
  obtain ⟨dst, op, type, pos, after, guard⟩ := o
  unfold clsOf at hc
  unfold vcOp at h
  cases op <;> simp only at hc h <;> (try (cases hc; done))
  case convert s d x =>
    cases hst : strT P s d with
    | true => rw [hst] at hc; cases hc
    | false =>
    rw [hst] at hc h
    simp only at hc h
    cases hb : bytesT P s d with
    | false => rw [hb] at hc; cases hc
    | true =>
      rw [hb] at h
      obtain ⟨v, hv, hk⟩ := Pu.get h
      refine ⟨v, quiet_of fun w hx => ?_, hk⟩
      have hv' : strOfE (ρ x) w.heap = some v := by
        cases q
        · rw [show w.heap = H from hx]; exact hv
        · exact strOfE_ext hx hv
      show (do pure (.value (← convert s d (ρ x))) : Sem Next).run P w = _
      rw [Sem.run_bind, strOfE_ok hb hv']; rfl
  case load T a =>
    obtain ⟨v, hv, hk⟩ := Pu.get h
    refine ⟨v, fun H' hx w hw => ?_, hk⟩
    have hv' : loadE (ldK P T) (ρ a) H' = some v := by
      cases q
      · cases hx; exact hv
      · exact loadE_ext hx hv
    have hp : ∃ b, ρ a = .pointer (some b) := by
      unfold loadE at hv'
      split at hv'
      · rename_i b _ hb; exact ⟨b, hb⟩
      · rename_i b _ hb; exact ⟨b, hb⟩
      · cases hv'
    obtain ⟨b, hb⟩ := hp
    rw [hb, ← hw] at hv'
    have : (execOp ρ ⟨dst, .load T a, type, pos, after, guard⟩).run P w = .ok (.value v) w := by
      simp [execOp, Instr.loadAt, hb, Instr.sureAddr, loadVar_ok hv']
    rw [this]
    exact ⟨Sm.refl w, rfl, by rw [hw]; exact Ex.refl q H'⟩
  case binOp op T x y T2 =>
    cases hh : hardT (P.underlying T) with
    | false => rw [hh] at hc; cases hc
    | true =>
      rw [hh] at h
      obtain ⟨v, hv, hk⟩ := Pu.get h
      refine ⟨v, quiet_of fun w hx => ?_, hk⟩
      have hv' : eqXE P T (isConst x || isConst y) op (ρ x) (ρ y) w.heap = some v := by
        cases q
        · rw [show w.heap = H from hx]; exact hv
        · exact eqXE_ext hx hv
      have h2 := eqXE_ok (P := P) (xo := x) (yo := y) (fun h => h) hv'
      show (do pure (.value (← (do eqGuard op T x y (ρ x) (ρ y); binOp op T (ρ x) (ρ y) : Sem Value))) : Sem Next).run P w = _
      rw [Sem.run_bind, h2]; rfl
  case lookup T x k ok =>
    obtain ⟨v, hv, hk⟩ := Pu.get h
    refine ⟨v, quiet_of fun w hx => ?_, hk⟩
    have hv' : lookupE P (mapI P T) ok (ρ x) (ρ k) w.heap = some v := by
      cases q
      · rw [show w.heap = H from hx]; exact hv
      · exact lookupE_ext hx hv
    show (do pure (.value (← Instr.lookup T (ρ x) (ρ k) ok)) : Sem Next).run P w = _
    rw [Sem.run_bind, lookupE_ok hv']; rfl
  case call c =>
    obtain ⟨callee, args, ats⟩ := c
    cases callee <;> simp only at hc h <;> (try (cases hc; done))
    case builtin b =>
      unfold vcBuiltin at h
      split at h <;> try (cases hc; done)
      · rename_i T x h1 h2
        have hm : lenMap P ats = isMapT (P.underlying T) := by unfold lenMap; rw [h1]
        cases hh : isMapT (P.underlying T) with
        | false => simp only [hm, hh] at hc; cases hc
        | true =>
          rw [hh] at h
          obtain ⟨v, hv, hk⟩ := Pu.get h
          refine ⟨v, quiet_of fun w hx => ?_, hk⟩
          have hv' : mapLenE x w.heap = some v := by
            cases q
            · rw [show w.heap = H from hx]; exact hv
            · exact mapLenE_ext hx hv
          obtain ⟨kt, et, hu⟩ := isMapT_spec hh
          have hat : ats[0]? = some T := by rw [← Array.toArray_toList (xs := ats), h1]; rfl
          have hr := mapLenE_ok (P := P) (R := type) hat hu hv'
          have hargs : args.map ρ = #[x] := by rw [map_ops, h2]
          simp only [execOp, resolve, invoke, builtin, Sem.run_bind, Sem.run_pure, Result.andThen_ok, hargs, hr]
      · exact h.elim
    case value x =>
      cases x <;> simp only at hc h <;> (try (cases hc; done))
      rename_i f
      split at h
      · rename_i hen
        split at hc
        · rename_i hqf
          simp only [hqf, Bool.and_self, if_true, opsA_eq] at h
          obtain ⟨v, hv, hk⟩ := h
          refine ⟨v, fun H' hx w hw => ?_, hk⟩
          rw [call_run (ats := ats) rfl (hg f) hen w]
          exact ⟨Sm.refl w, by rw [hw]; exact hv H' hx⟩
        · cases hc
      · exact h.elim

theorem callV_ok {y : Value} {args : Array Value} {w : World} (h : CallV P y args w.heap K) : Up P w K ((do let d ← Deferred.ofValue y args; invoke d.target d.args : Sem Next).run P w) := by
  unfold CallV at h
  split at h
  · rename_i f first cap
    simp only [Deferred.ofValue, Sem.run_bind, Sem.run_pure, Result.andThen_ok, invoke]
    rw [enter_ok h.1]
    refine ⟨Sm.refl w, ?_⟩
    have e : ((first.toList ++ args.toList) ++ cap.toList).toArray = (first ++ args) ++ cap := by simp
    rw [← e]; exact h.2
  · rename_i l first cap
    simp only [Deferred.ofValue, Sem.run_bind, Sem.run_pure, Result.andThen_ok, invoke]
    have e : (first.toList ++ args.toList).toArray = first ++ args := by simp
    rw [e] at h
    unfold Yld at h
    split at h
    · rename_i r hr
      have : (Instr.yield l (first ++ args)).run P w = .ok (.round l r.fn ((r.params.zip (first ++ args)).foldl (fun tmps (t, a) => tmps.setIfInBounds t a) r.tmps) r.assign r.body) w := by
        have h1 : (Instr.getLoop l).run P w = .ok r w := by
          simp [Instr.getLoop, getObj, Sem.run, hr, bind, Sem.bind]
        unfold Instr.yield
        rw [Sem.run_bind, h1]
        simp only [Result.andThen_ok]
        rw [if_neg (by simpa using h.1)]
        rfl
      rw [this]
      exact ⟨Sm.refl w, h.2⟩
    · exact h.elim
  · exact h.elim

/-- Of an operation that may write: carried out in this very heap. -/
theorem effS (hg : Good ρ) (hc : clsOf P qf o = .eff ∨ dr = false) (h : vcOp P qf dr false o ρ H K) : Eff P (execOp ρ o) H K := by
  by_cases hp : clsOf P qf o = .pure
  · obtain ⟨v, hv, hk⟩ := pureS hp h
    intro w hw; rw [hv w]; exact ⟨Sm.refl w, by rw [hw]; exact hk⟩
  · obtain ⟨dst, op, type, pos, after, guard⟩ := o
    unfold clsOf at hp hc
    unfold vcOp at h
    cases op <;> simp only [ForX] at hp hc h <;> (try (exact absurd rfl hp)) <;> (try (exact absurd trivial hp)) <;> (try (exact h.elim))
    case alloc T =>
      intro w hw
      obtain ⟨z, hz, hk⟩ := Pu.get h
      unfold zeroE at hz
      simp only [Option.bind_eq_some_iff] at hz
      obtain ⟨i, hi, hz⟩ := hz
      have : (execOp ρ ⟨dst, .alloc T, type, pos, after, guard⟩).run P w = .ok (.value (.pointer (some ⟨w.heap.size, 0, none⟩))) { w with heap := w.heap.push (.cells z.cells T) } := by
        simp [execOp, Instr.alloc, zeroValue, typeInfo, hi, hz, newVar, newRow]
      rw [this]; subst hw
      exact ⟨⟨rfl, rfl, rfl⟩, hk⟩
    case box T x =>
      intro w hw
      have : (execOp ρ ⟨dst, .box T x, type, pos, after, guard⟩).run P w = .ok (.value (.pointer (some ⟨w.heap.size, 0, none⟩))) { w with heap := w.heap.push (.cells (ρ x).cells T) } := by
        simp [execOp, Instr.box, newVar, newRow]
      rw [this]; subst hw
      exact ⟨⟨rfl, rfl, rfl⟩, h⟩
    case buildSlice T n parts =>
      intro w hw
      obtain ⟨e, he, h⟩ := Pu.get h
      obtain ⟨cs, hcs, hk⟩ := Pu.get h
      obtain ⟨hu, i, z, hi, hsz, hby, hz, hzc⟩ := elemI_spec he
      simp only [newSliceE] at hcs
      split at hcs
      · cases hcs
      · rename_i hlim
        have hparts : (parts.map fun (i, x) => (i, ρ x)).toList = partsOf ρ parts := by simp [partsOf]
        have : (execOp ρ ⟨dst, .buildSlice T n parts, type, pos, after, guard⟩).run P w = .ok (.value (.slice (some ⟨w.heap.size, 0, none⟩) n n)) { w with heap := w.heap.push (.cells cs e.type) } := by
          have hb : (Instr.buildSlice T n (parts.map fun (i, x) => (i, ρ x))).run P w = .ok (.slice (some ⟨w.heap.size, 0, none⟩) n n) { w with heap := w.heap.push (.cells cs e.type) } := by
            unfold Instr.buildSlice
            rw [hparts]
            simp only [Sem.run_bind, underlying, run_program, Result.andThen_ok, hu, Sem.run_pure, sizeOf, typeInfo, hi, hsz]
            have hl1 : ¬ n * e.size > 2 ^ 24 := fun hh => hlim (.inl hh)
            have h0 : ¬ n * e.size = 0 := fun hh => hlim (.inr hh)
            simp only [hl1, if_false, Sem.run_pure, h0, Sem.run_bind, zeroValue, typeInfo, run_program, Result.andThen_ok, hi, hz, hzc, hcs]
            simp [newRow]
          simp only [execOp, Sem.run_bind, hb, Result.andThen_ok, Sem.run_pure]
        rw [this]; subst hw
        exact ⟨⟨rfl, rfl, rfl⟩, hk⟩
    case load T a =>
      have hq := quietS (qf := qf) (q := false) (o := ⟨dst, .load T a, type, pos, after, guard⟩) hg rfl h
      obtain ⟨v, hv, hk⟩ := hq
      exact (hv H rfl).mono fun u H'' hu => by obtain ⟨rfl, rfl⟩ := hu; exact hk
    case lookup T x k ok =>
      have hq := quietS (qf := qf) (q := false) (o := ⟨dst, .lookup T x k ok, type, pos, after, guard⟩) hg rfl h
      obtain ⟨v, hv, hk⟩ := hq
      exact (hv H rfl).mono fun u H'' hu => by obtain ⟨rfl, rfl⟩ := hu; exact hk
    case convert s d x =>
      cases hst : strT P s d with
      | true =>
        rw [hst] at h
        intro w hw
        subst hw
        obtain ⟨v, w', h1, h2, h3⟩ := BytesS_ok (P := P) hst h
        have : (execOp ρ ⟨dst, .convert s d x, type, pos, after, guard⟩).run P w = .ok (.value v) w' := by
          show (do pure (.value (← convert s d (ρ x))) : Sem Next).run P w = _
          rw [Sem.run_bind, h1]; rfl
        rw [this]
        exact ⟨h2, h3⟩
      | false =>
      rw [hst] at hp h
      simp only at hp h
      have hh : bytesT P s d = true := by
        cases hh : bytesT P s d with
        | true => rfl
        | false => rw [hh] at hp; exact absurd rfl hp
      have hq := quietS (P := P) (H := H) (K := K) (qf := qf) (q := false) (o := ⟨dst, .convert s d x, type, pos, after, guard⟩) hg (by unfold clsOf; simp only [hst, hh]) (by unfold vcOp; simp only [hst]; exact h)
      obtain ⟨v, hv, hk⟩ := hq
      exact (hv H rfl).mono fun u H'' hu => by obtain ⟨rfl, rfl⟩ := hu; exact hk
    case binOp op T x y T2 =>
      have hh : hardT (P.underlying T) = true := by
        cases hh : hardT (P.underlying T) with
        | true => rfl
        | false => rw [hh] at hp; exact absurd rfl hp
      have hq := quietS (qf := qf) (q := false) (o := ⟨dst, .binOp op T x y T2, type, pos, after, guard⟩) hg (by unfold clsOf; simp only [hh]) h
      obtain ⟨v, hv, hk⟩ := hq
      exact (hv H rfl).mono fun u H'' hu => by obtain ⟨rfl, rfl⟩ := hu; exact hk
    case makeMap t r =>
      cases r with
      | some r => exact h.elim
      | none =>
        intro w hw
        have : (execOp ρ ⟨dst, .makeMap t none, type, pos, after, guard⟩).run P w = .ok (.value (.map (some w.heap.size))) { w with heap := w.heap.push (.map #[] 0) } := by
          simp [execOp, Instr.makeMap, newObj, Sem.run]
        rw [this]; subst hw
        exact ⟨⟨rfl, rfl, rfl⟩, h⟩
    case makeSlice T l c =>
      intro w hw
      obtain ⟨⟨v, H'⟩, hs, hk⟩ := Pu.get h
      subst hw
      obtain ⟨w', h1, h2, h3⟩ := makeE_ok (P := P) rfl hs
      have : (execOp ρ ⟨dst, .makeSlice T l c, type, pos, after, guard⟩).run P w = .ok (.value v) w' := by
        simp only [execOp, Sem.run_bind, h1, Result.andThen_ok, Sem.run_pure]
      rw [this]
      exact ⟨h2, by rw [h3]; exact hk⟩
    case mapUpdate T m k x =>
      intro w hw
      have fin : ∀ {H' : Hp}, (∃ w', (Instr.mapUpdate T (ρ m) (ρ k) (ρ x)).run P w = .ok () w' ∧ Sm w w' ∧ w'.heap = H') → K undef H' → Up P w K ((execOp ρ ⟨dst, .mapUpdate T m k x, type, pos, after, guard⟩).run P w) := fun {H'} ⟨w', h1, h2, h3⟩ hk => by
        have : (execOp ρ ⟨dst, .mapUpdate T m k x, type, pos, after, guard⟩).run P w = .ok .skip w' := by
          simp only [execOp, Sem.run_bind, h1, Result.andThen_ok, Sem.run_pure]
        rw [this]
        exact ⟨h2, by rw [h3]; exact hk⟩
      subst hw
      cases hmw : mapW P T with
      | some kt =>
        rw [hmw] at h
        obtain ⟨H', hs, hk⟩ := Pu.get h
        exact fin (mapSetS_ok hmw hs) hk
      | none =>
        rw [hmw] at h
        obtain ⟨H', hs, hk⟩ := Pu.get h
        exact fin (mapSetE_ok (P := P) hs) hk
    case insert T m k x =>
      intro w hw
      obtain ⟨H', hs, hk⟩ := Pu.get h
      subst hw
      obtain ⟨w', h1, h2, h3⟩ := mapSetE_ok (P := P) hs
      have : (execOp ρ ⟨dst, .insert T m k x, type, pos, after, guard⟩).run P w = .ok .skip w' := by
        simp only [execOp, Sem.run_bind, h1, Result.andThen_ok, Sem.run_pure]
      rw [this]
      exact ⟨h2, by rw [h3]; exact hk⟩
    case store T a x =>
      intro w hw
      obtain ⟨H', hs, hk⟩ := Pu.get h
      have hp : ∃ b, ρ a = .pointer (some b) := by
        unfold storeE at hs
        split at hs
        · rename_i b hb; exact ⟨b, hb⟩
        · cases hs
      obtain ⟨b, hb⟩ := hp
      rw [hb, ← hw] at hs
      obtain ⟨w', h1, h2, h3⟩ := storeVar_ok hs
      have : (execOp ρ ⟨dst, .store T a x, type, pos, after, guard⟩).run P w = .ok .skip w' := by
        simp [execOp, Instr.storeAt, hb, Instr.sureAddr, h1]
      rw [this]
      exact ⟨h2, by rw [h3]; exact hk⟩
    case call c =>
      obtain ⟨callee, args, ats⟩ := c
      cases callee <;> simp only at hp hc h <;> (try (exact h.elim))
      case builtin b =>
        unfold vcBuiltin at h
        split at h
        · rename_i T x h1 h2
          have hm : lenMap P ats = isMapT (P.underlying T) := by unfold lenMap; rw [h1]
          have hh : isMapT (P.underlying T) = true := by
            cases hh : isMapT (P.underlying T) with
            | true => rfl
            | false => simp only [hm, hh] at hp; exact absurd trivial hp
          have hq := quietS (P := P) (qf := qf) (q := false) (o := ⟨dst, .call ⟨.builtin .len, args, ats⟩, type, pos, after, guard⟩) hg (by unfold clsOf; simp only [hm, hh]) (by unfold vcOp vcBuiltin; simp only [h1, h2]; exact h)
          obtain ⟨v, hv, hk⟩ := hq
          exact (hv H rfl).mono fun u H'' hu => by obtain ⟨rfl, rfl⟩ := hu; exact hk
        · exact absurd rfl hp
        · exact absurd rfl hp
        · rename_i T T2 s x h1 h2
          simp only [ForX] at h
          intro w hw
          split at h
          · rename_i e2 hu2
            have h' := h
            unfold AppS at h'
            obtain ⟨e, he, _⟩ := h'
            rw [he] at h
            obtain ⟨v, w', hr, hsm, hk⟩ := append_ok (R := type) he ⟨e2, hu2⟩ h hw
            have hargs : args.map ρ = #[s, x] := by rw [map_ops, h2]
            have hts : ats = #[T, T2] := by rw [← Array.toArray_toList (xs := ats), h1]
            have : (execOp ρ ⟨dst, .call ⟨.builtin .append, args, ats⟩, type, pos, after, guard⟩).run P w = .ok (.value v) w' := by
              simp only [execOp, resolve, invoke, builtin, Sem.run_bind, Sem.run_pure, Result.andThen_ok, hargs, hts, hr]
            rw [this]
            exact ⟨hsm, hk⟩
          · exact h.elim
        · rename_i T T2 m k h1 h2
          simp only [ForX] at h
          intro w hw
          obtain ⟨H', hs, hk⟩ := Pu.get h
          subst hw
          have hargs : args.map ρ = #[m, k] := by rw [map_ops, h2]
          have hat : ats[0]? = some T := by rw [← Array.toArray_toList (xs := ats), h1]; rfl
          obtain ⟨w', h3, h4, h5⟩ := mapDelE_ok (P := P) (R := type) hat hs
          have : (execOp ρ ⟨dst, .call ⟨.builtin .delete, args, ats⟩, type, pos, after, guard⟩).run P w = .ok (.value (.tuple #[])) w' := by
            simp only [execOp, resolve, invoke, builtin, Sem.run_bind, Sem.run_pure, Result.andThen_ok, hargs, h3]
          rw [this]
          exact ⟨h4, by rw [h5]; exact hk⟩
        · rename_i T m h1 h2
          simp only [ForX] at h
          intro w hw
          cases hh : isMapT (P.underlying T) with
          | false =>
            rw [hh] at h
            obtain ⟨H', hs, hk⟩ := Pu.get h
            subst hw
            have hargs : args.map ρ = #[m] := by rw [map_ops, h2]
            have hat : ats[0]? = some T := by rw [← Array.toArray_toList (xs := ats), h1]; rfl
            obtain ⟨w', h3, h4, h5⟩ := clrE_ok (P := P) (R := type) hat rfl hs
            have : (execOp ρ ⟨dst, .call ⟨.builtin .clear, args, ats⟩, type, pos, after, guard⟩).run P w = .ok (.value (.tuple #[])) w' := by
              simp only [execOp, resolve, invoke, builtin, Sem.run_bind, Sem.run_pure, Result.andThen_ok, hargs, h3]
            rw [this]
            exact ⟨h4, by rw [h5]; exact hk⟩
          | true =>
            rw [hh] at h
            obtain ⟨kt, et, hu⟩ := isMapT_spec hh
            obtain ⟨H', hs, hk⟩ := Pu.get h
            subst hw
            have hargs : args.map ρ = #[m] := by rw [map_ops, h2]
            have hat : ats[0]? = some T := by rw [← Array.toArray_toList (xs := ats), h1]; rfl
            obtain ⟨w', h3, h4, h5⟩ := mapClrE_ok (P := P) (R := type) hat hu hs
            have : (execOp ρ ⟨dst, .call ⟨.builtin .clear, args, ats⟩, type, pos, after, guard⟩).run P w = .ok (.value (.tuple #[])) w' := by
              simp only [execOp, resolve, invoke, builtin, Sem.run_bind, Sem.run_pure, Result.andThen_ok, hargs, h3]
            rw [this]
            exact ⟨h4, by rw [h5]; exact hk⟩
        · rename_i T T2 d s h1 h2
          simp only [ForX] at h
          intro w hw
          obtain ⟨⟨v, H'⟩, hs, hk⟩ := Pu.get h
          subst hw
          have hargs : args.map ρ = #[d, s] := by rw [map_ops, h2]
          have hat : ats[0]? = some T := by rw [← Array.toArray_toList (xs := ats), h1]; rfl
          obtain ⟨w', h3, h4, h5⟩ := copyE_ok (P := P) (R := type) hat rfl hs
          have : (execOp ρ ⟨dst, .call ⟨.builtin .copy, args, ats⟩, type, pos, after, guard⟩).run P w = .ok (.value v) w' := by
            simp only [execOp, resolve, invoke, builtin, Sem.run_bind, Sem.run_pure, Result.andThen_ok, hargs, h3]
          rw [this]
          exact ⟨h4, by rw [h5]; exact hk⟩
        · exact h.elim
      case value x =>
        by_cases hx : ∃ f, x = .func f
        · obtain ⟨f, rfl⟩ := hx
          simp only [ForX] at h
          split at h
          · rename_i hen
            intro w hw
            rw [call_run (ats := ats) rfl (hg f) hen w]
            refine ⟨Sm.refl w, ?_⟩
            rw [hw]
            split at h
            · rename_i hdq
              simp only [Bool.and_eq_true] at hdq
              rcases hc with hc | hc
              · simp [hdq.2] at hc
              · rw [hc] at hdq; cases hdq.1
            · rw [← opsA_eq]; exact h
          · exact h.elim
        · have h' : CallV P (ρ x) (args.map ρ) H K := by
            rw [← opsA_eq]
            cases x <;> first | exact h | exact absurd ⟨_, rfl⟩ hx
          intro w hw
          subst hw
          have := callV_ok h'
          simpa only [execOp, resolve, Sem.run_bind] using this

theorem forX_op (hc : clsOf P qf o = .eff) (h : vcOp P qf dr q o ρ H K) {H' : Hp} (hx : Ex q H H') : vcOp P qf dr false o ρ H' K := by
  cases q
  · cases hx; exact h
  · obtain ⟨dst, op, type, pos, after, guard⟩ := o
    unfold clsOf at hc
    unfold vcOp at h ⊢
    cases op <;> simp only [ForX] at hc h ⊢ <;> (try (cases hc; done)) <;> (try (exact h H' hx)) <;> (try (exact h.elim))
    case makeMap t r =>
      cases r with
      | some r => exact h.elim
      | none => exact h H' hx
    case convert s d x =>
      cases hst : strT P s d with
      | true => rw [hst] at h; simp only [hst]; exact h H' hx
      | false =>
        rw [hst] at hc
        simp only at hc
        split at hc <;> cases hc
    case binOp op T x y T2 =>
      split at hc <;> cases hc
    case call c =>
      obtain ⟨callee, args, ats⟩ := c
      cases callee <;> simp only at hc h ⊢ <;> (try (exact h.elim))
      case builtin b =>
        unfold vcBuiltin at h ⊢
        split at h
        · rename_i T x h1 h2
          have hm : lenMap P ats = isMapT (P.underlying T) := by unfold lenMap; rw [h1]
          cases hh : isMapT (P.underlying T) with
          | true => simp only [hm, hh] at hc; cases hc
          | false => simp only [hm, hh] at hc; cases hc
        · cases hc
        · cases hc
        · exact h H' hx
        · exact h H' hx
        · exact h H' hx
        · exact h H' hx
        · exact h.elim
      case value x =>
        cases x <;> simp only at hc h ⊢ <;> (try (exact h H' hx))
        split at h
        · rename_i hen
          simp only [hen, if_true]
          split at hc
          · cases hc
          · rename_i hqf
            simp only [hqf, Bool.and_false, Bool.false_eq_true, if_false] at h ⊢
            exact h H' hx
        · exact h.elim
end
end Go.Vc
