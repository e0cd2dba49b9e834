/- Vc, part I: code's condition is sound; a function's contract. -/
import Derived.Test.YtacfcgoighnioaaGreatVcH
import Derived.RangeFuncLeaves
set_option linter.unusedVariables false
set_option linter.unusedSimpArgs false
namespace Go.Vc

theorem havoc_len (j : Nat → Value) (fr : Fr) : ∀ J, (havoc J j fr).length = fr.length
  | [] => rfl
  | k :: J => by simp [havoc, havoc_len j fr J]
theorem havoc_get (j : Nat → Value) (fr : Fr) (k : Nat) : ∀ J, (havoc J j fr)[k]? = if k ∈ J ∧ k < fr.length then some (j k) else fr[k]?
  | [] => by simp [havoc]
  | i :: J => by
    simp only [havoc, List.getElem?_set, havoc_len, havoc_get j fr k J, List.mem_cons]
    by_cases hi : i = k
    · subst hi
      by_cases hl : i < fr.length
      · simp [hl]
      · simp [hl]
    · have : ¬ k = i := fun h => hi h.symm
      simp [hi, this]
theorem lay_len (fr : Fr) : ∀ L (s : Tup (List.length L)), (lay L s fr).length = fr.length
  | [], _ => rfl
  | k :: L, s => by simp [lay, lay_len fr L s.2]
theorem lay_grab_get (fr fr1 : Fr) (k : Nat) : ∀ L, (lay L (grab fr1 L) fr)[k]? = if k ∈ L ∧ k < fr.length then some (slot fr1 k) else fr[k]?
  | [] => by simp [lay]
  | i :: L => by
    simp only [lay, grab, List.getElem?_set, lay_len, lay_grab_get fr fr1 k L, List.mem_cons]
    by_cases hi : i = k
    · subst hi
      by_cases hl : i < fr.length
      · simp [hl]
      · simp [hl]
    · have : ¬ k = i := fun h => hi h.symm
      simp [hi, this]

theorem subB_spec {xs ys : List Nat} (h : subB xs ys = true) : ∀ k ∈ xs, k ∈ ys := fun k hk => by
  simpa using List.all_eq_true.1 h k hk

theorem lay_back {W L J : List Nat} {fr fr1 : Fr} (h : Agree W fr fr1) (hs : subB W (L ++ J) = true) : lay L (grab fr1 L) (havoc J (slot fr1) fr) = fr1 := by
  apply List.ext_getElem?
  intro k
  have hsl : k < fr.length → fr1[k]? = some (slot fr1 k) := fun hl => by
    have : k < fr1.length := by rw [h.1]; exact hl
    simp [slot, this]
  rw [lay_grab_get, havoc_len, havoc_get]
  by_cases hl : k < fr.length
  · by_cases hL : k ∈ L
    · simp [hL, hl, hsl hl]
    · by_cases hJ : k ∈ J
      · simp [hL, hJ, hl, hsl hl]
      · have : k ∉ W := fun hm => by
          have := subB_spec hs k hm
          simp [hL, hJ] at this
        simp [hL, hJ, h.2 k this]
  · have h1 : fr[k]? = none := List.getElem?_eq_none (by omega)
    have h2 : fr1[k]? = none := List.getElem?_eq_none (by rw [h.1]; omega)
    simp [hl, h1, h2]

section
variable {P : Program} {b : Frame} {a : Act} {k : List Item} {cs : List Frame} {w : World} {F : Fence} {n : Nat} {Q : Exit → Act → World → Prop}
theorem stepR_scope {c : Code} : step P (lone (b.atR a (.code (.scope c) :: k)) cs w) = .next (lone (b.atR a (.code c :: .inScope c :: k)) cs w) :=
  step_lone_go (by simp [stepG, stepG.exec, Frame.atR])
theorem stepR_inScope {c : Code} : step P (lone (b.atR a (.inScope c :: k)) cs w) = .next (lone (b.atR a k) cs w) :=
  step_lone_go (by simp [stepG, stepG.exec, Frame.atR])
/-- Out of a scope without a goto. -/
def inScp (Q : Exit → Act → World → Prop) : Exit → Act → World → Prop
  | .goto _, _, _ => False
  | e, a, w => Q e a w
theorem wpIn_scope {c : Code} (h : c.wpIn F n P (inScp Q) a w) : (Code.scope c).wpIn F n P Q a w := by
  intro b k cs hro hb hr
  have h0 : (lone (b.atR a (.code (.scope c) :: k)) cs w).fenced P F := fenced_calm hb hr rfl
  obtain ⟨e, a₁, w₁, hq, harr⟩ := h b (.inScope c :: k) cs hro hb hr
  cases e with
  | normal => exact ⟨.normal, a₁, w₁, hq, .head h0 stepR_scope (StepsIn.trans harr (.one (fenced_calm hb hr rfl) stepR_inScope))⟩
  | exit id' =>
    have hx : exitTo id' (.inScope c :: k) = exitTo id' k := by simp [exitTo]
    exact ⟨.exit id', a₁, w₁, hq, fun k' hk => .head h0 stepR_scope (harr.1 k' (by rw [hx]; exact hk)),
      fun hr' hk => let ⟨k₁, h1, h2⟩ := harr.2 hr' (by rw [hx]; exact hk); ⟨k₁, h1, .head h0 stepR_scope h2⟩⟩
  | goto l => exact hq.elim
  | ret => exact ⟨_, a₁, w₁, hq, .of_steps (.one h0 stepR_scope) harr⟩
  | panic ch => exact ⟨_, a₁, w₁, hq, .of_steps (.one h0 stepR_scope) harr⟩
  | outgrown => exact ⟨_, a₁, w₁, hq, .of_steps (.one h0 stepR_scope) harr⟩
end

section
variable {P : Program} {qf : FuncId → Bool} {r : Option Nat}

theorem wpOpsIn_of_runD {q : Bool} {ops : Array Oper} {cl : Nat → Cls} (hn : noSelB ops = true) {Q : Exit → Act → World → Prop} {K : Act → Hp → Prop} {w₀ : World} (hQ : ∀ a w, K a w.heap → Sm w₀ w → Q .normal a w) :
    ∀ (l : List Nat) (a : Act) (H : Hp) (w : World), Ex q H w.heap → Sm w₀ w → runD q P ops cl K l a H → wpOpsIn (wideR r) 0 P ops Q l a w
  | [], a, H, w, hx, hsm, h => hQ a w (h _ hx) hsm
  | i :: l, a, H, w, hx, hsm, h => by
    rw [wpOpsIn_cons]
    exact wpOpIn_of_stepD hn hx h fun a' H' w' hr hx' hsm' => wpOpsIn_of_runD hn hQ l a' H' w' hx' (hsm.trans hsm') hr

/-- What the walk hands on. -/
def Post (W : List Nat) (nd : Bool) (Q : Exit → Ks) (fr : Fr) (a : Act) (w : World) : Exit → Act → World → Prop := fun e a' w' =>
  ∃ fr', At a' fr' ∧ (nd = true → a'.defers = a.defers) ∧ Agree W fr fr' ∧ Q e fr' a'.defers w'.heap ∧ Sm w w'

theorem region_sound {ops : Array Oper} {dr : Bool} {id : Nat} {Q : Exit → Ks} {fr : Fr} {a : Act} {w : World} (ha : At a fr) (h : vcReg P qf ops dr fr w.heap fun fr' H' => Q .normal fr' a.defers H') :
    (Code.region id ops dr).wpIn (wideR r) 0 P (Post (dstsOf ops.toList) true Q fr a w) a w := by
  have out : ∀ (a' : Act) (w' : World), (∃ fr', At a' fr' ∧ a'.defers = a.defers ∧ Agree (dstsOf ops.toList) fr fr' ∧ Q .normal fr' a.defers w'.heap) → Sm w w' → Post (dstsOf ops.toList) true Q fr a w .normal a' w' := by
    rintro a' w' ⟨fr', h1, h2, h3, h4⟩ hsm
    exact ⟨fr', h1, fun _ => h2, h3, by rw [h2]; exact h4, hsm⟩
  unfold vcReg at h
  cases dr with
  | false =>
    simp only at h
    split at h
    · rename_i hn
      refine wpIn_region ?_
      have hrun := run_of_vcOps (P := P) (qf := qf) (dr := false) (q := false) (fz := false) (all := ops) (fun _ => rfl) (fun h => by cases h) (W := dstsOf ops.toList) (ds := a.defers) (fr₀ := fr) ops.toList 0 [] fr a w.heap (fun fr' H' => Q .normal fr' a.defers H') (by simp) (fun _ h => h) ha rfl (Agree.refl _ _) h
      rw [List.range_eq_range', ← Array.length_toList]
      exact wpOpsIn_of_runD hn (w₀ := w) (fun a' w' hk hsm => out a' w' hk hsm) _ a w.heap w (Ex.refl _ _) (Sm.refl w) hrun
    · exact h.elim
  | true =>
    simp only at h
    split at h
    · rename_i hB
      simp only [Bool.and_eq_true] at hB
      have hrun := run_of_vcOps (P := P) (qf := qf) (dr := true) (q := anyQ qf ops) (fz := false) (all := ops) (fun h => by cases h) (fun h => by cases h) (W := dstsOf ops.toList) (ds := a.defers) (fr₀ := fr) ops.toList 0 [] fr a w.heap (fun fr' H' => Q .normal fr' a.defers H') (by simp) (fun _ h => h) ha rfl (Agree.refl _ _) h
      rw [← List.range_eq_range', Array.length_toList] at hrun
      exact wpIn_draw hB.1 hB.2 hrun fun a' w' hk hsm => out a' w' hk hsm
    · split at h
      · rename_i hB
        simp only [Bool.and_eq_true] at hB
        have hrun := run_of_vcOps (P := P) (qf := qf) (dr := true) (q := true) (fz := true) (all := ops) (fun h => by cases h) (fun _ => rfl) (W := dstsOf ops.toList) (ds := a.defers) (fr₀ := fr) ops.toList 0 [] fr a w.heap (fun fr' H' => Q .normal fr' a.defers H') (by simp) (fun _ h => h) ha rfl (Agree.refl _ _) h
        rw [← List.range_eq_range', Array.length_toList] at hrun
        exact wpIn_draw hB.1 hB.2 hrun fun a' w' hk hsm => out a' w' hk hsm
      · exact h.elim

theorem Post.mono {W W' : List Nat} {nd nd' : Bool} {Q Q' : Exit → Ks} {fr : Fr} {a : Act} {w : World} (hW : ∀ k ∈ W, k ∈ W') (hn : nd' = true → nd = true) {e : Exit} {a' : Act} {w' : World} (hQ : ∀ fr ds H, Q e fr ds H → Q' e fr ds H) (h : Post W nd Q fr a w e a' w') : Post W' nd' Q' fr a w e a' w' := by
  obtain ⟨fr', h1, h2, h3, h4, h5⟩ := h
  exact ⟨fr', h1, fun h => h2 (hn h), h3.mono hW, hQ _ _ _ h4, h5⟩

theorem Post.trans {W : List Nat} {nd : Bool} {Q : Exit → Ks} {fr fr₁ : Fr} {a a₁ : Act} {w w₁ : World} (hd : nd = true → a₁.defers = a.defers) (hA : Agree W fr fr₁) (hs : Sm w w₁) {e : Exit} {a' : Act} {w' : World} (h : Post W nd Q fr₁ a₁ w₁ e a' w') : Post W nd Q fr a w e a' w' := by
  obtain ⟨fr', h1, h2, h3, h4, h5⟩ := h
  exact ⟨fr', h1, fun h => (h2 h).trans (hd h), hA.trans h3, h4, hs.trans h5⟩
end

theorem setL_at : ∀ (l : List (Nat × Value)) (fr : Fr), l.foldl (fun (tmps : Array Value) (x : Nat × Value) => tmps.setIfInBounds x.1 x.2) fr.toArray = (setL fr l).toArray
  | [], fr => rfl
  | (t, v) :: l, fr => by
    simp only [List.foldl_cons, setL]
    rw [← setL_at l (fr.set t v)]
    simp
theorem setL_len : ∀ (l : List (Nat × Value)) (fr : Fr), (setL fr l).length = fr.length
  | [], fr => rfl
  | (t, v) :: l, fr => by simp [setL, setL_len l]
theorem tupL_len : ∀ (n : Nat) (s : Tup n), (tupL n s).length = n
  | 0, _ => rfl
  | n + 1, s => by simp [tupL, tupL_len n s.2]

section
variable {P : Program} {qf : FuncId → Bool}
theorem getLoop_ok {rec : Loop} {l : Nat} {st : LoopState} {j : Jmp} {w : World} (h : LpAt rec l st j w.heap) : (Instr.getLoop l).run P w = .ok { rec with state := st, pending := jmpCode j } w := by
  have h' : w.heap[l]? = some (.loop { rec with state := st, pending := jmpCode j }) := h
  simp [Instr.getLoop, getObj, Sem.run, h', bind, Sem.bind]
theorem setLoop_ok {rec : Loop} {l : Nat} {st : LoopState} {j : Jmp} {w : World} (h : LpAt rec l st j w.heap) (o : Obj) : (setObj l o).run P w = .ok () { w with heap := w.heap.setIfInBounds l o } := by
  have h' : w.heap[l]? = some (.loop { rec with state := st, pending := jmpCode j }) := h
  simp [setObj, Sem.run, h']
theorem begin_ok {rec : Loop} {l : Nat} {w : World} (h : LpAt rec l .ready none w.heap) : (Instr.beginRound l).run P w = .ok () { w with heap := setLp rec l .busy none w.heap } := by
  unfold Instr.beginRound
  simp only [Sem.run_bind, getLoop_ok h, Result.andThen_ok, setLoop_ok h, Sem.run_pure]
  rfl
theorem end_ok {rec : Loop} {l : Nat} {j : Jmp} {w : World} (h : LpAt rec l .busy none w.heap) : (Instr.endRound l (jmpCode j)).run P w = .ok (.bool j.isNone) { w with heap := setLp rec l (if j.isNone then .ready else .done) j w.heap } := by
  have e : (jmpCode j).isNone = j.isNone := by
    match j with
    | none => rfl
    | some none => rfl
    | some (some id) => rfl
  unfold Instr.endRound
  simp only [Sem.run_bind, getLoop_ok h, Result.andThen_ok, setLoop_ok h, Sem.run_pure, e]
  rfl
theorem endLoop_ok {rec : Loop} {l : Nat} {st : LoopState} {j : Jmp} {w : World} (hst : st ≠ .busy) (h : LpAt rec l st j w.heap) : (Instr.endLoop l).run P w = .ok (jmpCode j) { w with heap := setLp rec l .exhausted j w.heap } := by
  unfold Instr.endLoop
  have hb : (st == LoopState.busy) = false := by cases st <;> first | rfl | exact absurd rfl hst
  simp only [Sem.run_bind, getLoop_ok h, Result.andThen_ok, hb, Bool.false_eq_true, if_false, setLoop_ok h, Sem.run_pure]
  rfl

theorem vc_sound : ∀ (c : Code) (top : Bool) (r : Option Nat) (ann : Ann) (Q : Exit → Ks) (fr : Fr) (a : Act) (w : World), (top = true → r = none) → At a fr → vc P qf top c ann Q fr a.defers w.heap →
    c.wpIn (wideR r) 0 P (Post (writes c) (noDef c) Q fr a w) a w := by
  intro c
  induction c with
  | skip => intro top r ann Q fr a w ht ha h; cases top <;> exact wpIn_skip ⟨fr, ha, fun _ => rfl, Agree.refl _ _, h, Sm.refl w⟩
  | label l => intro top r ann Q fr a w ht ha h; cases top <;> exact wpIn_label ⟨fr, ha, fun _ => rfl, Agree.refl _ _, h, Sm.refl w⟩
  | ret => intro top r ann Q fr a w ht ha h; cases top <;> exact wpIn_ret ⟨fr, ha, fun _ => rfl, Agree.refl _ _, h, Sm.refl w⟩
  | exit id => intro top r ann Q fr a w ht ha h; cases top <;> exact wpIn_exit ⟨fr, ha, fun _ => rfl, Agree.refl _ _, h, Sm.refl w⟩
  | region id ops dr => intro top r ann Q fr a w ht ha h; cases top <;> exact region_sound ha h
  | block id c ih =>
    intro top r ann Q fr a w ht ha h
    have h' : vc P qf top c ann (blk id Q) fr a.defers w.heap := by cases top <;> exact h
    refine wpIn_block (wpIn_mono (ih top r ann (blk id Q) fr a w ht ha h') fun e a' w' hp => ?_)
    cases e <;> try exact hp
    rename_i k
    simp only [Exit.inBlock]
    split
    · rename_i hk
      obtain ⟨fr', h1, h2, h3, h4, h5⟩ := hp
      simp only [blk, isX, hk, if_true] at h4
      exact ⟨fr', h1, h2, h3, h4, h5⟩
    · rename_i hk
      obtain ⟨fr', h1, h2, h3, h4, h5⟩ := hp
      simp only [blk, isX, hk, if_false] at h4
      exact ⟨fr', h1, h2, h3, h4, h5⟩
  | cond c x y ihx ihy =>
    intro top r ann Q fr a w ht ha h
    have key : ∃ l r', Ite (ev fr c) (vc P qf top x l Q fr a.defers w.heap) (vc P qf top y r' Q fr a.defers w.heap) := by
      cases top <;> (unfold vc at h; split at h) <;> exact ⟨_, _, h⟩
    obtain ⟨l, r', h⟩ := key
    unfold Ite at h
    have n1 : noDef (.cond c x y) = true → noDef x = true := fun h => by simp only [noDef, Bool.and_eq_true] at h; exact h.1
    have n2 : noDef (.cond c x y) = true → noDef y = true := fun h => by simp only [noDef, Bool.and_eq_true] at h; exact h.2
    split at h
    · rename_i hc
      refine wpIn_cond_true (by rw [ha.ev]; exact hc) (wpIn_mono (ihx top r l Q fr a w ht ha h) fun e a' w' hp => hp.mono (fun k hk => List.mem_append_left _ hk) n1 fun _ _ _ h => h)
    · rename_i hc
      refine wpIn_cond_false (by rw [ha.ev]; exact hc) (wpIn_mono (ihy top r r' Q fr a w ht ha h) fun e a' w' hp => hp.mono (fun k hk => List.mem_append_right _ hk) n2 fun _ _ _ h => h)
    · exact h.elim
  | seq x y ihx ihy =>
    intro top r ann Q fr a w ht ha h
    have n1 : noDef (.seq x y) = true → noDef x = true := fun h => by simp only [noDef, Bool.and_eq_true] at h; exact h.1
    have n2 : noDef (.seq x y) = true → noDef y = true := fun h => by simp only [noDef, Bool.and_eq_true] at h; exact h.2
    have fin : ∀ (l : Ann) (K : Ks), vc P qf top x l (thn K Q) fr a.defers w.heap → (∀ fr' a' w', At a' fr' → (noDef x = true → a'.defers = a.defers) → Agree (writes x) fr fr' → K fr' a'.defers w'.heap → Sm w w' → ∃ r', vc P qf top y r' Q fr' a'.defers w'.heap) →
        (Code.seq x y).wpIn (wideR r) 0 P (Post (writes (.seq x y)) (noDef (.seq x y)) Q fr a w) a w := by
      intro l K hx hk
      refine wpIn_seq (wpIn_mono (ihx top r l (thn K Q) fr a w ht ha hx) fun e a' w' hp => ?_)
      cases e <;> try exact hp.mono (fun k hk => List.mem_append_left _ hk) n1 fun _ _ _ h => h
      obtain ⟨fr', h1, h2, h3, h4, h5⟩ := hp
      obtain ⟨r', h6⟩ := hk fr' a' w' h1 h2 h3 h4 h5
      exact wpIn_mono (ihy top r r' Q fr' a' w' ht h1 h6) fun e a'' w'' hp => (hp.mono (fun k hk => List.mem_append_right _ hk) n2 fun _ _ _ h => h).trans (fun h => h2 (n1 h)) (h3.mono fun k hk => List.mem_append_left _ hk) h5
    have key : (∃ L J l r', ann = .join L J l r' ∧ (subB (writes x) (L ++ J) && noDef x) = true ∧ Join (fun s H => Any fun j => vc P qf top y r' Q (lay L s (havoc J j fr)) a.defers H) fun K => vc P qf top x l (thn (fun fr' _ H' => K (grab fr' L) H') Q) fr a.defers w.heap) ∨
        ∃ l r', vc P qf top x l (thn (vc P qf top y r' Q) Q) fr a.defers w.heap := by
      cases top <;> (unfold vc at h; split at h)
      · rename_i L J l r'
        split at h
        · rename_i hs; exact .inl ⟨L, J, l, r', rfl, hs, h⟩
        · exact h.elim
      · exact .inr ⟨_, _, h⟩
      · exact .inr ⟨_, _, h⟩
      · rename_i L J l r'
        split at h
        · rename_i hs; exact .inl ⟨L, J, l, r', rfl, hs, h⟩
        · exact h.elim
      · exact .inr ⟨_, _, h⟩
      · exact .inr ⟨_, _, h⟩
    rcases key with ⟨L, J, l, r', _, hs, K, hr, hf⟩ | ⟨l, r', h⟩
    · simp only [Bool.and_eq_true] at hs
      refine fin l _ hf fun fr' a' w' h1 h2 h3 h4 h5 => ⟨r', ?_⟩
      have := hr _ _ h4 (slot fr')
      simp only [lay_back h3 hs.1] at this
      rw [h2 hs.2]
      exact this
    · exact fin _ _ h fun fr' a' w' h1 h2 h3 h4 h5 => ⟨_, h4⟩
  | loop c ih =>
    intro top r ann Q fr a w ht ha h
    have key : ∃ L J b, (subB (writes c) (L ++ J) && noDef c) = true ∧ LoopP (grab fr L) w.heap fun K s H => Any fun j => vc P qf top c b (thn (fun fr' _ H' => K (grab fr' L) H') Q) (lay L s (havoc J j fr)) a.defers H := by
      cases top <;> (unfold vc at h; split at h)
      · split at h
        · rename_i hs; exact ⟨_, _, _, hs, h⟩
        · exact h.elim
      · exact h.elim
      · split at h
        · rename_i hs; exact ⟨_, _, _, hs, h⟩
        · exact h.elim
      · exact h.elim
    obtain ⟨L, J, b, hs, I, μ, h0, hround⟩ := key
    simp only [Bool.and_eq_true] at hs
    refine wpIn_loop (fun a' w' => ∃ fr', At a' fr' ∧ a'.defers = a.defers ∧ Agree (writes c) fr fr' ∧ I (grab fr' L) w'.heap ∧ Sm w w') (fun a' w' => μ (grab a'.tmps.toList L) w'.heap) ⟨fr, ha, rfl, Agree.refl _ _, h0, Sm.refl w⟩ ?_
    rintro a' w' ⟨fr', h1, h2, h3, h4, h5⟩
    have hr := hround _ _ h4 (slot fr')
    simp only [lay_back h3 hs.1] at hr
    rw [← h2] at hr
    refine wpIn_mono (ih top r b _ fr' a' w' ht h1 hr) fun e a'' w'' hp => ?_
    have hp' := hp.trans (fun _ => h2) h3 h5
    cases e <;> try exact hp'
    obtain ⟨fr'', k1, k2, k3, k4, k5⟩ := hp'
    have e1 : a'.tmps.toList = fr' := by rw [show a'.tmps = fr'.toArray from h1]
    have e2 : a''.tmps.toList = fr'' := by rw [show a''.tmps = fr''.toArray from k1]
    refine ⟨⟨fr'', k1, k2 hs.2, k3, k4.1, k5⟩, ?_⟩
    rw [e1, e2]
    exact k4.2
  | scope c ih =>
    intro top r ann Q fr a w ht ha h
    have h' : vc P qf top c ann (scp Q) fr a.defers w.heap := by cases top <;> exact h
    refine wpIn_scope (wpIn_mono (ih top r ann (scp Q) fr a w ht ha h') fun e a' w' hp => ?_)
    cases e <;> try exact hp
    obtain ⟨fr', h1, h2, h3, h4, h5⟩ := hp
    exact h4.elim
  | goto l => intro top r ann Q fr a w ht ha h; cases top <;> exact h.elim
  | refuse why => intro top r ann Q fr a w ht ha h; cases top <;> exact h.elim
  | rangeFunc g ps x y ihx ihy =>
    intro top r ann Q fr a w ht ha h
    cases top with
    | false => exact h.elim
    | true =>
      have hr := ht rfl
      subst hr
      unfold vc at h
      split at h
      · rename_i l r'
        obtain ⟨⟨f, first, cap, hg⟩, h⟩ := h
        have hga : a.eval g = .func (.func f) first cap := by rw [ha.ev]; exact hg
        refine wpIn_rangeFunc fun fn _ => ?_
        let rec0 : Loop := { state := .ready, pending := none, fn := fn, tmps := a.tmps, params := ps, assign := x, body := y, defers := w.heap.size }
        let H1 : Hp := (w.heap.push (.deferred (some []))).push (.loop rec0)
        let w1 : World := { w with heap := H1 }
        have hs1 : H1.size = w.heap.size + 2 := by simp [H1]
        have hlp : LpAt rec0 (w.heap.size + 1) .ready none H1 := by
          show H1[w.heap.size + 1]? = _
          simp only [H1]
          rw [Array.getElem?_push, if_pos (by simp)]; rfl
        have hdf : H1[w.heap.size]? = some (.deferred (some [])) := by
          simp only [H1]
          rw [Array.getElem?_push, if_neg (by simp), Array.getElem?_push, if_pos rfl]
        have hcall := h rec0 (w.heap.size + 1) w.heap.size (.func (.yield (w.heap.size + 1)) #[] #[]) H1 ((Ext.push _ _).trans (Ext.push _ _)) (Nat.le_refl _) (by omega) (by omega) hdf hlp (by
          intro s H2 K hl2 hround
          unfold CallV
          simp only
          unfold Yld
          rw [show H2[w.heap.size + 1]? = _ from hl2]
          simp only
          refine ⟨by simp [rec0, tupL_len], ?_⟩
          intro w2 hw2
          subst hw2
          refine roundIn_of_wpIn (F := wideR none) (n := 0) trivial ?_
          have ha0 : At { tmps := ((ps.zip (tupL ps.size s).toArray).foldl (fun tmps (x : Nat × Value) => tmps.setIfInBounds x.1 x.2) a.tmps), defers := [] } (setL fr (ps.toList.zip (tupL ps.size s))) := by
            have ht' : a.tmps = fr.toArray := ha
            show _ = _
            simp only
            rw [← setL_at, ht', ← Array.foldl_toList]
            simp
          have hA := ihx false (some (w.heap.size + 1)) l _ _ _ w2 (fun e => by cases e) ha0 hround
          refine wpIn_mono hA fun e a1 w3 hp => ?_
          obtain ⟨fr1, k1, k2, _, k4, k5⟩ := hp
          cases e <;> simp only [asgQ] at k4 <;> try exact k4.elim
          obtain ⟨hl3, hbody⟩ := k4
          refine ⟨_, begin_ok hl3, ?_⟩
          have hB := ihy false (some (w.heap.size + 1)) r' _ fr1 a1 { w3 with heap := setLp rec0 (w.heap.size + 1) .busy none w3.heap } (fun e => by cases e) k1 hbody
          refine wpIn_mono hB fun e a2 w4 hp => ?_
          obtain ⟨fr2, j1, j2, _, j4, j5⟩ := hp
          have hsm : Sm w2 w4 := k5.trans ⟨j5.os, j5.out, j5.tape⟩
          have fin : ∀ j : Jmp, (LpAt rec0 (w.heap.size + 1) .busy none w4.heap ∧ K (.bool j.isNone) (setLp rec0 (w.heap.size + 1) (if j.isNone then .ready else .done) j w4.heap)) →
              ∃ v w', (Instr.endRound (w.heap.size + 1) (jmpCode j)).run P w4 = .ok v w' ∧ ∃ v', Ending.returned v = .returned v' ∧ K v' w'.heap ∧ Sm w2 w' := fun j hj =>
            ⟨_, _, end_ok hj.1, _, rfl, hj.2, hsm.trans ⟨rfl, rfl, rfl⟩⟩
          cases e <;> simp only [rndQ] at j4 <;> try exact j4.elim
          · exact fin none j4
          · exact fin (some (some _)) j4
          · exact fin (some none) j4)
        rw [hg] at hcall
        obtain ⟨hen, hfc⟩ := hcall
        refine ⟨w.heap.size + 1, [markD w.heap.size], w1, { target := .fn (.func f) cap, args := first ++ #[.func (.yield (w.heap.size + 1)) #[] #[]] }, w1, f, (first ++ #[.func (.yield (w.heap.size + 1)) #[] #[]]) ++ cap, w1, ?_, ?_, fun _ _ => trivial, ?_, fun h => by simp [wideR, Fence.wide] at h, ?_⟩
        · simp [Instr.enterLoop, newObj, wideR, Sem.run, markD, w1, H1, rec0]
          rfl
        · unfold resolve
          simp only [rangeCall, hga]
          simp [Deferred.ofValue, Act.eval]
        · have := enter_ok hen ((first ++ #[.func (.yield (w.heap.size + 1)) #[] #[]]) ++ cap) w1
          simpa [invoke] using this
        · have e1 : ((first.toList ++ #[Value.func (.yield (w.heap.size + 1)) #[] #[]].toList) ++ cap.toList).toArray = (first ++ #[.func (.yield (w.heap.size + 1)) #[] #[]]) ++ cap := by simp
          rw [e1] at hfc
          refine CallsIn.mono (hfc w1 rfl) fun e w5 ⟨v, he, hpost, hsm⟩ => ?_
          subst he
          obtain ⟨st, j, hst, hlpj, haft⟩ := hpost
          refine ⟨_, _, endLoop_ok hst hlpj, ?_⟩
          have hsm' : Sm w { w5 with heap := setLp rec0 (w.heap.size + 1) .exhausted j w5.heap } := ⟨hsm.os, hsm.out, hsm.tape⟩
          match j, haft with
          | none, haft => exact ⟨fr, ha, fun h => (by cases h), Agree.refl _ _, haft, hsm'⟩
          | some none, haft => exact wpIn_ret ⟨fr, ha, fun h => (by cases h), Agree.refl _ _, haft, hsm'⟩
          | some (some id), haft => exact wpIn_exit ⟨fr, ha, fun h => (by cases h), Agree.refl _ _, haft, hsm'⟩
      · exact h.elim
end

section
variable {P : Program} {qf : FuncId → Bool}
/-! ### Functions -/
def resE (P : Program) (rv : ResultVar) (fr : Fr) (H : Hp) : Option Value :=
  match rv with
  | .tmp t => some (slot fr t)
  | .cell t T => loadE (ldK P T) (slot fr t) H
def resAll (P : Program) (fr : Fr) (H : Hp) : List ResultVar → Option (List Value)
  | [] => some []
  | r :: rs => match resE P r fr H with
    | some v => match resAll P fr H rs with
      | some vs => some (v :: vs)
      | none => none
    | none => none
def mkRes (vs : List Value) : Value :=
  match vs with
  | [v] => v
  | vs => .tuple vs.toArray
def resK (P : Program) (fr : Fr) (H : Hp) (R : Value → Hp → Prop) : List ResultVar → List Value → Prop
  | [], acc => R (mkRes acc.reverse) H
  | .tmp t :: rs, acc => resK P fr H R rs (slot fr t :: acc)
  | .cell t T :: rs, acc => Pu (loadE (ldK P T) (slot fr t) H) fun v => resK P fr H R rs (v :: acc)
def Res (P : Program) (rs : List ResultVar) (fr : Fr) (H : Hp) (R : Value → Hp → Prop) : Prop := resK P fr H R rs []

theorem resK_all {P : Program} {fr : Fr} {H : Hp} {R : Value → Hp → Prop} : ∀ (rs : List ResultVar) (acc : List Value), resK P fr H R rs acc → ∃ vs, resAll P fr H rs = some vs ∧ R (mkRes (acc.reverse ++ vs)) H
  | [], acc, h => ⟨[], rfl, by simpa [resK] using h⟩
  | .tmp t :: rs, acc, h => by
    obtain ⟨vs, h1, h2⟩ := resK_all rs _ h
    exact ⟨slot fr t :: vs, by simp [resAll, resE, h1], by simpa using h2⟩
  | .cell t T :: rs, acc, h => by
    obtain ⟨v, hv, h⟩ := h
    obtain ⟨vs, h1, h2⟩ := resK_all rs _ h
    exact ⟨v :: vs, by simp [resAll, resE, hv, h1], by simpa using h2⟩

def padF (args : List Value) (n : Nat) : Fr := args ++ List.replicate (n - args.length) undef

/-- The block of the rounds' deferred calls is taken over: there are none. -/
def TakeD (r : Nat) (H : Hp) (K : Hp → Prop) : Prop := H[r]? = some (.deferred (some [])) ∧ K (H.setIfInBounds r (.deferred none))
def VcEnd : List Deferred → Hp → (Hp → Prop) → Prop
  | [], H, K => K H
  | ⟨.collected r, _⟩ :: ds, H, K => TakeD r H fun H' => VcEnd ds H' K
  | _ :: _, _, _ => False
def retQ (P : Program) (fn : Func) (R : Value → Hp → Prop) : Exit → Ks
  | .normal, fr, ds, H => VcEnd ds H fun H' => Res P fn.results.toList fr H' R
  | .ret, fr, ds, H => VcEnd ds H fun H' => Res P fn.results.toList fr H' R
  | _, _, _, _ => False

def VcFn (P : Program) (qf : FuncId → Bool) (fn : Func) (ann : Ann) (args : List Value) (H : Hp) (R : Value → Hp → Prop) : Prop :=
  match fn.body with
  | none => False
  | some c => vc P qf true c ann (retQ P fn R) (padF args fn.ntmps) [] H

def resSem (tmps : Array Value) : ResultVar → Sem Value
  | .tmp t => pure (tmps.getD t undef)
  | .cell x t => do loadVar t (← asAddr (tmps.getD x undef))

theorem results_eq (fn : Func) (tmps : Array Value) : results fn tmps = (do
    let vs ← fn.results.toList.mapM (resSem tmps)
    pure (if h : vs.toArray.size = 1 then vs.toArray[0] else .tuple vs.toArray)) := by
  have e : results fn tmps = (do
      let vs ← fn.results.mapM (resSem tmps)
      pure (if h : vs.size = 1 then vs[0] else .tuple vs)) := by
    unfold results
    congr 2
  rw [e, ← Array.toArray_toList (xs := fn.results), List.mapM_toArray]
  simp only [bind_map_left]

theorem resE_ok {rv : ResultVar} {fr : Fr} {a : Act} (ha : At a fr) {w : World} {v : Value} (h : resE P rv fr w.heap = some v) : (resSem a.tmps rv).run P w = .ok v w := by
  cases rv with
  | tmp t => simp only [resE, Option.some.injEq] at h; subst h; unfold resSem; simp only [ha.slot]; rfl
  | cell x T =>
    simp only [resE] at h
    have hp : ∃ b, slot fr x = .pointer (some b) := by
      unfold loadE at h
      split at h
      · rename_i b _ hb; exact ⟨b, hb⟩
      · rename_i b _ hb; exact ⟨b, hb⟩
      · cases h
    obtain ⟨b, hb⟩ := hp
    rw [hb] at h
    simp only [resSem, ha.slot, hb, asAddr, Sem.run_bind, Sem.run_pure, Result.andThen_ok]
    exact loadVar_ok h

theorem resAll_ok {fr : Fr} {a : Act} (ha : At a fr) {w : World} : ∀ (rs : List ResultVar) (vs : List Value), resAll P fr w.heap rs = some vs →
    (rs.mapM (resSem a.tmps)).run P w = .ok vs w ∧ vs.length = rs.length
  | [], vs, h => by simp only [resAll, Option.some.injEq] at h; subst h; exact ⟨rfl, rfl⟩
  | r :: rs, vs, h => by
    simp only [resAll] at h
    cases h1 : resE P r fr w.heap with
    | none => simp [h1] at h
    | some v =>
      simp only [h1] at h
      cases h2 : resAll P fr w.heap rs with
      | none => simp [h2] at h
      | some vs' =>
        simp only [h2, Option.some.injEq] at h
        subst h
        obtain ⟨k1, k2⟩ := resAll_ok ha rs vs' h2
        rw [List.mapM_cons]
        exact ⟨by simp only [Sem.run_bind, resE_ok ha h1, Result.andThen_ok, k1, Sem.run_pure], by simp [k2]⟩

theorem results_ok {fn : Func} {fr : Fr} {a : Act} (ha : At a fr) {w : World} {R : Value → Hp → Prop} (h : Res P fn.results.toList fr w.heap R) : ∃ v, (results fn a.tmps).run P w = .ok v w ∧ R v w.heap := by
  rw [results_eq]
  obtain ⟨vs, hv, hR⟩ := resK_all _ _ h
  refine ⟨_, ?_, hR⟩
  simp only [Sem.run_bind, (resAll_ok ha _ _ hv).1, Result.andThen_ok, Sem.run_pure]
  have e : (if h : vs.toArray.size = 1 then vs.toArray[0] else Value.tuple vs.toArray) = mkRes ([].reverse ++ vs) := by
    match vs with
    | [] => rfl
    | [v] => rfl
    | v :: u :: vs => simp [mkRes]
  rw [e]

theorem ends_ok {fn : Func} {tmps : Array Value} {R : Value → Hp → Prop} {w0 : World} : ∀ (ds : List Deferred) (w : World), Sm w0 w → (∀ w', Sm w0 w' → Res P fn.results.toList tmps.toList w'.heap R → LeavesInM (wideR none) 0 P fn tmps (fun e w' => ∃ v, e = .returned v ∧ R v w'.heap ∧ Sm w0 w') [] .returning w') →
    VcEnd ds w.heap (fun H' => Res P fn.results.toList tmps.toList H' R) → LeavesInM (wideR none) 0 P fn tmps (fun e w' => ∃ v, e = .returned v ∧ R v w'.heap ∧ Sm w0 w') ds .returning w
  | [], w, hs, hb, h => hb w hs h
  | ⟨t, aq⟩ :: ds, w, hs, hb, h => by
    cases t <;> try exact h.elim
    rename_i r
    obtain ⟨h1, h2⟩ := h
    refine ⟨by simp, .inl ⟨r, { w with heap := w.heap.setIfInBounds r (.deferred none) }, rfl, ?_, ends_ok ds _ (hs.trans ⟨rfl, rfl, rfl⟩) hb h2⟩⟩
    simp [Instr.takeDeferred, getObj, setObj, Sem.run, h1, bind, Sem.bind]

/-- A FUNCTION's CONTRACT, out of its body's condition. -/
theorem fn_of_vc {f : FuncId} {fn : Func} (qf : FuncId → Bool) (ann : Ann) (hf : P.funcs[f]? = some fn) {args : List Value} {H : Hp} {R : Value → Hp → Prop} (h : VcFn P qf fn ann args H R) : Fc P f args.toArray H R := by
  intro w hw
  subst hw
  unfold VcFn at h
  cases hb : fn.body with
  | none => simp only [hb] at h
  | some c =>
    simp only [hb] at h
    refine callsIn_of_wp_marks hf hb trivial ?_ rfl
    have ha : At { tmps := args.toArray ++ Array.replicate (fn.ntmps - args.toArray.size) undef, defers := [] } (padF args fn.ntmps) := by
      simp [At, padF]
    refine wpIn_mono (vc_sound c true none ann _ _ _ w (fun _ => rfl) ha h) fun e a' w' hp => ?_
    obtain ⟨fr', h1, h2, _, h4, h5⟩ := hp
    have ht : a'.tmps.toList = fr' := by rw [show a'.tmps = fr'.toArray from h1]
    have fin : VcEnd a'.defers w'.heap (fun H' => Res P fn.results.toList fr' H' R) → LeavesInM (wideR none) 0 P fn a'.tmps (fun e w' => ∃ v, e = .returned v ∧ R v w'.heap ∧ Sm w w') a'.defers .returning w' := fun h => by
      refine ends_ok a'.defers w' h5 (fun w2 hs hr => ?_) (by rw [ht]; exact h)
      rw [ht] at hr
      obtain ⟨v, hv, hR⟩ := results_ok h1 hr
      exact ⟨v, hv, v, rfl, hR, hs⟩
    cases e <;> simp only [retQ] at h4 <;> try exact h4.elim
    · exact fin h4
    · exact fin h4
end
end Go.Vc
