/- Vc, part S: the conditions with plans: a region that draws its order may be walked by a tree. -/
import Derived.Test.YtkbbonhbihmbcaaGreatRRVcR
set_option linter.unusedVariables false
set_option linter.unusedSimpArgs false
namespace Go.Vc

def planAt : List (Nat × OT) → Nat → Option OT
  | [], _ => none
  | (i, t) :: l, k => match Nat.beq i k with
    | true => some t
    | false => planAt l k
def vcRegP (P : Program) (qf : FuncId → Bool) (pl : List (Nat × OT)) (id : Nat) (ops : Array Oper) (dr : Bool) (fr : Fr) (H : Hp) (K : Fr → Hp → Prop) : Prop :=
  match planAt pl id with
  | none => vcReg P qf ops dr fr H K
  | some t => if dr && (P.follows .mixedOrders && treeB ops (clAt P qf true true ops) t) then vcT P qf ops K t [] fr H else False

def vcp (P : Program) (qf : FuncId → Bool) (pl : List (Nat × OT)) : (top : Bool) → Code → Ann → (Exit → Ks) → Ks
  | _, .skip, _, Q, fr, ds, H => Q .normal fr ds H
  | _, .label _, _, Q, fr, ds, H => Q .normal fr ds H
  | _, .ret, _, Q, fr, ds, H => Q .ret fr ds H
  | _, .exit id, _, Q, fr, ds, H => Q (.exit id) fr ds H
  | _, .region id ops dr, _, Q, fr, ds, H => vcRegP P qf pl id ops dr fr H fun fr' H' => Q .normal fr' ds H'
  | top, .seq a b, ann, Q, fr, ds, H =>
    match ann with
    | .join L J l r =>
      if subB (writes a) (L ++ J) && noDef a then
        Join (fun s H => Any fun j => vcp P qf pl top b r Q (lay L s (havoc J j fr)) ds H) fun K => vcp P qf pl top a l (thn (fun fr' _ H' => K (grab fr' L) H') Q) fr ds H
      else False
    | .seq l r => vcp P qf pl top a l (thn (vcp P qf pl top b r Q) Q) fr ds H
    | _ => vcp P qf pl top a .nil (thn (vcp P qf pl top b .nil Q) Q) fr ds H
  | top, .cond c a b, ann, Q, fr, ds, H =>
    match ann with
    | .cond l r => Ite (ev fr c) (vcp P qf pl top a l Q fr ds H) (vcp P qf pl top b r Q fr ds H)
    | _ => Ite (ev fr c) (vcp P qf pl top a .nil Q fr ds H) (vcp P qf pl top b .nil Q fr ds H)
  | top, .block id c, ann, Q, fr, ds, H => vcp P qf pl top c ann (blk id Q) fr ds H
  | top, .scope c, ann, Q, fr, ds, H => vcp P qf pl top c ann (scp Q) fr ds H
  | top, .loop c, ann, Q, fr, ds, H =>
    match ann with
    | .loop L J b =>
      if subB (writes c) (L ++ J) && noDef c then
        LoopP (grab fr L) H fun K s H => Any fun j => vcp P qf pl top c b (thn (fun fr' _ H' => K (grab fr' L) H') Q) (lay L s (havoc J j fr)) ds H
      else False
    | _ => False
  | true, .rangeFunc g ps x y, ann, Q, fr, ds, H =>
    match ann with
    | .seq l r => RangeF P (ev fr g) ps.size H
        (fun s H2 B K => vcp P qf pl false x l (asgQ B (vcp P qf pl false y r (rndQ K))) (setL fr (ps.toList.zip (tupL ps.size s))) [] H2)
        (fun j D H' => onJ j (Q .normal fr (markD D :: ds) H') (Q .ret fr (markD D :: ds) H') fun id => Q (.exit id) fr (markD D :: ds) H')
    | _ => False
  | _, _, _, _, _, _, _ => False

section
variable {P : Program} {qf : FuncId → Bool} {pl : List (Nat × OT)} {r : Option Nat}
theorem regionP_sound {ops : Array Oper} {dr : Bool} {id : Nat} {Q : Exit → Ks} {fr : Fr} {a : Act} {w : World} (ha : At a fr) (h : vcRegP P qf pl id ops dr fr w.heap fun fr' H' => Q .normal fr' a.defers H') :
    (Code.region id ops dr).wpIn (wideR r) 0 P (Post (dstsOf ops.toList) true Q fr a w) a w := by
  unfold vcRegP at h
  split at h
  · exact region_sound ha h
  · split at h
    · rename_i hB
      simp only [Bool.and_eq_true] at hB
      obtain ⟨h1, h2, h3⟩ := hB
      subst h1
      exact tree_sound h2 h3 ha h
    · exact h.elim

theorem vcp_sound : ∀ (c : Code) (top : Bool) (r : Option Nat) (ann : Ann) (Q : Exit → Ks) (fr : Fr) (a : Act) (w : World), (top = true → r = none) → At a fr → vcp P qf pl top c ann Q fr a.defers w.heap →
    c.wpIn (wideR r) 0 P (Post (writes c) (noDef c) Q fr a w) a w := by
  intro c
  induction c with
  | skip => intro top r ann Q fr a w ht ha h; cases top <;> exact wpIn_skip ⟨fr, ha, fun _ => rfl, Agree.refl _ _, h, Sm.refl w⟩
  | label l => intro top r ann Q fr a w ht ha h; cases top <;> exact wpIn_label ⟨fr, ha, fun _ => rfl, Agree.refl _ _, h, Sm.refl w⟩
  | ret => intro top r ann Q fr a w ht ha h; cases top <;> exact wpIn_ret ⟨fr, ha, fun _ => rfl, Agree.refl _ _, h, Sm.refl w⟩
  | exit id => intro top r ann Q fr a w ht ha h; cases top <;> exact wpIn_exit ⟨fr, ha, fun _ => rfl, Agree.refl _ _, h, Sm.refl w⟩
  | region id ops dr => intro top r ann Q fr a w ht ha h; cases top <;> exact regionP_sound ha h
  | block id c ih =>
    intro top r ann Q fr a w ht ha h
    have h' : vcp P qf pl top c ann (blk id Q) fr a.defers w.heap := by cases top <;> exact h
    refine wpIn_block (wpIn_mono (ih top r ann (blk id Q) fr a w ht ha h') fun e a' w' hp => ?_)
    cases e <;> try exact hp
    rename_i k
    simp only [Exit.inBlock]
    split
    · rename_i hk
      obtain ⟨fr', h1, h2, h3, h4, h5⟩ := hp
      simp only [blk, isX, hk, if_true] at h4
      exact ⟨fr', h1, h2, h3, h4, h5⟩
    · rename_i hk
      obtain ⟨fr', h1, h2, h3, h4, h5⟩ := hp
      simp only [blk, isX, hk, if_false] at h4
      exact ⟨fr', h1, h2, h3, h4, h5⟩
  | cond c x y ihx ihy =>
    intro top r ann Q fr a w ht ha h
    have key : ∃ l r', Ite (ev fr c) (vcp P qf pl top x l Q fr a.defers w.heap) (vcp P qf pl top y r' Q fr a.defers w.heap) := by
      cases top <;> (unfold vcp at h; split at h) <;> exact ⟨_, _, h⟩
    obtain ⟨l, r', h⟩ := key
    unfold Ite at h
    have n1 : noDef (.cond c x y) = true → noDef x = true := fun h => by simp only [noDef, Bool.and_eq_true] at h; exact h.1
    have n2 : noDef (.cond c x y) = true → noDef y = true := fun h => by simp only [noDef, Bool.and_eq_true] at h; exact h.2
    split at h
    · rename_i hc
      refine wpIn_cond_true (by rw [ha.ev]; exact hc) (wpIn_mono (ihx top r l Q fr a w ht ha h) fun e a' w' hp => hp.mono (fun k hk => List.mem_append_left _ hk) n1 fun _ _ _ h => h)
    · rename_i hc
      refine wpIn_cond_false (by rw [ha.ev]; exact hc) (wpIn_mono (ihy top r r' Q fr a w ht ha h) fun e a' w' hp => hp.mono (fun k hk => List.mem_append_right _ hk) n2 fun _ _ _ h => h)
    · exact h.elim
  | seq x y ihx ihy =>
    intro top r ann Q fr a w ht ha h
    have n1 : noDef (.seq x y) = true → noDef x = true := fun h => by simp only [noDef, Bool.and_eq_true] at h; exact h.1
    have n2 : noDef (.seq x y) = true → noDef y = true := fun h => by simp only [noDef, Bool.and_eq_true] at h; exact h.2
    have fin : ∀ (l : Ann) (K : Ks), vcp P qf pl top x l (thn K Q) fr a.defers w.heap → (∀ fr' a' w', At a' fr' → (noDef x = true → a'.defers = a.defers) → Agree (writes x) fr fr' → K fr' a'.defers w'.heap → Sm w w' → ∃ r', vcp P qf pl top y r' Q fr' a'.defers w'.heap) →
        (Code.seq x y).wpIn (wideR r) 0 P (Post (writes (.seq x y)) (noDef (.seq x y)) Q fr a w) a w := by
      intro l K hx hk
      refine wpIn_seq (wpIn_mono (ihx top r l (thn K Q) fr a w ht ha hx) fun e a' w' hp => ?_)
      cases e <;> try exact hp.mono (fun k hk => List.mem_append_left _ hk) n1 fun _ _ _ h => h
      obtain ⟨fr', h1, h2, h3, h4, h5⟩ := hp
      obtain ⟨r', h6⟩ := hk fr' a' w' h1 h2 h3 h4 h5
      exact wpIn_mono (ihy top r r' Q fr' a' w' ht h1 h6) fun e a'' w'' hp => (hp.mono (fun k hk => List.mem_append_right _ hk) n2 fun _ _ _ h => h).trans (fun h => h2 (n1 h)) (h3.mono fun k hk => List.mem_append_left _ hk) h5
    have key : (∃ L J l r', ann = .join L J l r' ∧ (subB (writes x) (L ++ J) && noDef x) = true ∧ Join (fun s H => Any fun j => vcp P qf pl top y r' Q (lay L s (havoc J j fr)) a.defers H) fun K => vcp P qf pl top x l (thn (fun fr' _ H' => K (grab fr' L) H') Q) fr a.defers w.heap) ∨
        ∃ l r', vcp P qf pl top x l (thn (vcp P qf pl top y r' Q) Q) fr a.defers w.heap := by
      cases top <;> (unfold vcp at h; split at h)
      · rename_i L J l r'
        split at h
        · rename_i hs; exact .inl ⟨L, J, l, r', rfl, hs, h⟩
        · exact h.elim
      · exact .inr ⟨_, _, h⟩
      · exact .inr ⟨_, _, h⟩
      · rename_i L J l r'
        split at h
        · rename_i hs; exact .inl ⟨L, J, l, r', rfl, hs, h⟩
        · exact h.elim
      · exact .inr ⟨_, _, h⟩
      · exact .inr ⟨_, _, h⟩
    rcases key with ⟨L, J, l, r', _, hs, K, hr, hf⟩ | ⟨l, r', h⟩
    · simp only [Bool.and_eq_true] at hs
      refine fin l _ hf fun fr' a' w' h1 h2 h3 h4 h5 => ⟨r', ?_⟩
      have := hr _ _ h4 (slot fr')
      simp only [lay_back h3 hs.1] at this
      rw [h2 hs.2]
      exact this
    · exact fin _ _ h fun fr' a' w' h1 h2 h3 h4 h5 => ⟨_, h4⟩
  | loop c ih =>
    intro top r ann Q fr a w ht ha h
    have key : ∃ L J b, (subB (writes c) (L ++ J) && noDef c) = true ∧ LoopP (grab fr L) w.heap fun K s H => Any fun j => vcp P qf pl top c b (thn (fun fr' _ H' => K (grab fr' L) H') Q) (lay L s (havoc J j fr)) a.defers H := by
      cases top <;> (unfold vcp at h; split at h)
      · split at h
        · rename_i hs; exact ⟨_, _, _, hs, h⟩
        · exact h.elim
      · exact h.elim
      · split at h
        · rename_i hs; exact ⟨_, _, _, hs, h⟩
        · exact h.elim
      · exact h.elim
    obtain ⟨L, J, b, hs, I, μ, h0, hround⟩ := key
    simp only [Bool.and_eq_true] at hs
    refine wpIn_loop (fun a' w' => ∃ fr', At a' fr' ∧ a'.defers = a.defers ∧ Agree (writes c) fr fr' ∧ I (grab fr' L) w'.heap ∧ Sm w w') (fun a' w' => μ (grab a'.tmps.toList L) w'.heap) ⟨fr, ha, rfl, Agree.refl _ _, h0, Sm.refl w⟩ ?_
    rintro a' w' ⟨fr', h1, h2, h3, h4, h5⟩
    have hr := hround _ _ h4 (slot fr')
    simp only [lay_back h3 hs.1] at hr
    rw [← h2] at hr
    refine wpIn_mono (ih top r b _ fr' a' w' ht h1 hr) fun e a'' w'' hp => ?_
    have hp' := hp.trans (fun _ => h2) h3 h5
    cases e <;> try exact hp'
    obtain ⟨fr'', k1, k2, k3, k4, k5⟩ := hp'
    have e1 : a'.tmps.toList = fr' := by rw [show a'.tmps = fr'.toArray from h1]
    have e2 : a''.tmps.toList = fr'' := by rw [show a''.tmps = fr''.toArray from k1]
    refine ⟨⟨fr'', k1, k2 hs.2, k3, k4.1, k5⟩, ?_⟩
    rw [e1, e2]
    exact k4.2
  | scope c ih =>
    intro top r ann Q fr a w ht ha h
    have h' : vcp P qf pl top c ann (scp Q) fr a.defers w.heap := by cases top <;> exact h
    refine wpIn_scope (wpIn_mono (ih top r ann (scp Q) fr a w ht ha h') fun e a' w' hp => ?_)
    cases e <;> try exact hp
    obtain ⟨fr', h1, h2, h3, h4, h5⟩ := hp
    exact h4.elim
  | goto l => intro top r ann Q fr a w ht ha h; cases top <;> exact h.elim
  | refuse why => intro top r ann Q fr a w ht ha h; cases top <;> exact h.elim
  | rangeFunc g ps x y ihx ihy =>
    intro top r ann Q fr a w ht ha h
    cases top with
    | false => exact h.elim
    | true =>
      have hr := ht rfl
      subst hr
      unfold vcp at h
      split at h
      · rename_i l r'
        obtain ⟨⟨f, first, cap, hg⟩, h⟩ := h
        have hga : a.eval g = .func (.func f) first cap := by rw [ha.ev]; exact hg
        refine wpIn_rangeFunc fun fn _ => ?_
        let rec0 : Loop := { state := .ready, pending := none, fn := fn, tmps := a.tmps, params := ps, assign := x, body := y, defers := w.heap.size }
        let H1 : Hp := (w.heap.push (.deferred (some []))).push (.loop rec0)
        let w1 : World := { w with heap := H1 }
        have hs1 : H1.size = w.heap.size + 2 := by simp [H1]
        have hlp : LpAt rec0 (w.heap.size + 1) .ready none H1 := by
          show H1[w.heap.size + 1]? = _
          simp only [H1]
          rw [Array.getElem?_push, if_pos (by simp)]; rfl
        have hdf : H1[w.heap.size]? = some (.deferred (some [])) := by
          simp only [H1]
          rw [Array.getElem?_push, if_neg (by simp), Array.getElem?_push, if_pos rfl]
        have hcall := h rec0 (w.heap.size + 1) w.heap.size (.func (.yield (w.heap.size + 1)) #[] #[]) H1 ((Ext.push _ _).trans (Ext.push _ _)) (Nat.le_refl _) (by omega) (by omega) hdf hlp (by
          intro s H2 K hl2 hround
          unfold CallV
          simp only
          unfold Yld
          rw [show H2[w.heap.size + 1]? = _ from hl2]
          simp only
          refine ⟨by simp [rec0, tupL_len], ?_⟩
          intro w2 hw2
          subst hw2
          refine roundIn_of_wpIn (F := wideR none) (n := 0) trivial ?_
          have ha0 : At { tmps := ((ps.zip (tupL ps.size s).toArray).foldl (fun tmps (x : Nat × Value) => tmps.setIfInBounds x.1 x.2) a.tmps), defers := [] } (setL fr (ps.toList.zip (tupL ps.size s))) := by
            have ht' : a.tmps = fr.toArray := ha
            show _ = _
            simp only
            rw [← setL_at, ht', ← Array.foldl_toList]
            simp
          have hA := ihx false (some (w.heap.size + 1)) l _ _ _ w2 (fun e => by cases e) ha0 hround
          refine wpIn_mono hA fun e a1 w3 hp => ?_
          obtain ⟨fr1, k1, k2, _, k4, k5⟩ := hp
          cases e <;> simp only [asgQ] at k4 <;> try exact k4.elim
          obtain ⟨hl3, hbody⟩ := k4
          refine ⟨_, begin_ok hl3, ?_⟩
          have hB := ihy false (some (w.heap.size + 1)) r' _ fr1 a1 { w3 with heap := setLp rec0 (w.heap.size + 1) .busy none w3.heap } (fun e => by cases e) k1 hbody
          refine wpIn_mono hB fun e a2 w4 hp => ?_
          obtain ⟨fr2, j1, j2, _, j4, j5⟩ := hp
          have hsm : Sm w2 w4 := k5.trans ⟨j5.os, j5.out, j5.tape⟩
          have fin : ∀ j : Jmp, (LpAt rec0 (w.heap.size + 1) .busy none w4.heap ∧ K (.bool j.isNone) (setLp rec0 (w.heap.size + 1) (if j.isNone then .ready else .done) j w4.heap)) →
              ∃ v w', (Instr.endRound (w.heap.size + 1) (jmpCode j)).run P w4 = .ok v w' ∧ ∃ v', Ending.returned v = .returned v' ∧ K v' w'.heap ∧ Sm w2 w' := fun j hj =>
            ⟨_, _, end_ok hj.1, _, rfl, hj.2, hsm.trans ⟨rfl, rfl, rfl⟩⟩
          cases e <;> simp only [rndQ] at j4 <;> try exact j4.elim
          · exact fin none j4
          · exact fin (some (some _)) j4
          · exact fin (some none) j4)
        rw [hg] at hcall
        obtain ⟨hen, hfc⟩ := hcall
        refine ⟨w.heap.size + 1, [markD w.heap.size], w1, { target := .fn (.func f) cap, args := first ++ #[.func (.yield (w.heap.size + 1)) #[] #[]] }, w1, f, (first ++ #[.func (.yield (w.heap.size + 1)) #[] #[]]) ++ cap, w1, ?_, ?_, fun _ _ => trivial, ?_, fun h => by simp [wideR, Fence.wide] at h, ?_⟩
        · simp [Instr.enterLoop, newObj, wideR, Sem.run, markD, w1, H1, rec0]
          rfl
        · unfold resolve
          simp only [rangeCall, hga]
          simp [Deferred.ofValue, Act.eval]
        · have := enter_ok hen ((first ++ #[.func (.yield (w.heap.size + 1)) #[] #[]]) ++ cap) w1
          simpa [invoke] using this
        · have e1 : ((first.toList ++ #[Value.func (.yield (w.heap.size + 1)) #[] #[]].toList) ++ cap.toList).toArray = (first ++ #[.func (.yield (w.heap.size + 1)) #[] #[]]) ++ cap := by simp
          rw [e1] at hfc
          refine CallsIn.mono (hfc w1 rfl) fun e w5 ⟨v, he, hpost, hsm⟩ => ?_
          subst he
          obtain ⟨st, j, hst, hlpj, haft⟩ := hpost
          refine ⟨_, _, endLoop_ok hst hlpj, ?_⟩
          have hsm' : Sm w { w5 with heap := setLp rec0 (w.heap.size + 1) .exhausted j w5.heap } := ⟨hsm.os, hsm.out, hsm.tape⟩
          match j, haft with
          | none, haft => exact ⟨fr, ha, fun h => (by cases h), Agree.refl _ _, haft, hsm'⟩
          | some none, haft => exact wpIn_ret ⟨fr, ha, fun h => (by cases h), Agree.refl _ _, haft, hsm'⟩
          | some (some id), haft => exact wpIn_exit ⟨fr, ha, fun h => (by cases h), Agree.refl _ _, haft, hsm'⟩
      · exact h.elim
end

def VcFnP (P : Program) (qf : FuncId → Bool) (pl : List (Nat × OT)) (fn : Func) (ann : Ann) (args : List Value) (H : Hp) (R : Value → Hp → Prop) : Prop :=
  match fn.body with
  | none => False
  | some c => vcp P qf pl true c ann (retQ P fn R) (padF args fn.ntmps) [] H

section
variable {P : Program} {qf : FuncId → Bool}
theorem fn_of_vcp {f : FuncId} {fn : Func} (qf : FuncId → Bool) (pl : List (Nat × OT)) (ann : Ann) (hf : P.funcs[f]? = some fn) {args : List Value} {H : Hp} {R : Value → Hp → Prop} (h : VcFnP P qf pl fn ann args H R) : Fc P f args.toArray H R := by
  intro w hw
  subst hw
  unfold VcFnP at h
  cases hb : fn.body with
  | none => simp only [hb] at h
  | some c =>
    simp only [hb] at h
    refine callsIn_of_wp_marks hf hb trivial ?_ rfl
    have ha : At { tmps := args.toArray ++ Array.replicate (fn.ntmps - args.toArray.size) undef, defers := [] } (padF args fn.ntmps) := by
      simp [At, padF]
    refine wpIn_mono (vcp_sound c true none ann _ _ _ w (fun _ => rfl) ha h) fun e a' w' hp => ?_
    obtain ⟨fr', h1, h2, _, h4, h5⟩ := hp
    have ht : a'.tmps.toList = fr' := by rw [show a'.tmps = fr'.toArray from h1]
    have fin : VcEnd a'.defers w'.heap (fun H' => Res P fn.results.toList fr' H' R) → LeavesInM (wideR none) 0 P fn a'.tmps (fun e w' => ∃ v, e = .returned v ∧ R v w'.heap ∧ Sm w w') a'.defers .returning w' := fun h => by
      refine ends_ok a'.defers w' h5 (fun w2 hs hr => ?_) (by rw [ht]; exact h)
      rw [ht] at hr
      obtain ⟨v, hv, hR⟩ := results_ok h1 hr
      exact ⟨v, hv, v, rfl, hR, hs⟩
    cases e <;> simp only [retQ] at h4 <;> try exact h4.elim
    · exact fin h4
    · exact fin h4
end
end Go.Vc
