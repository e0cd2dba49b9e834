/- Xc, part O: runs of which two outcomes are followed. -/
import Derived.Test.YtacfcgoighnioaaGreatXcN
import Derived.Test.YtacfcgoighnioaaGreatVcP
set_option linter.unusedVariables false
set_option linter.unusedSectionVars false
set_option linter.unusedSimpArgs false
namespace Go.Xc
open Go.Vc
variable [Sites]

section
variable (P : Program) (qf : FuncId → Bool) (Z : List (Nat × CV)) (C : List (Nat × Ex))
noncomputable def xTwo (ops : Array Oper) (t : Two) (fr : List CV) (h : CH) (K : List CV → CH → Bool) : Bool :=
  xA P qf Z C true true ops (pick ops t.A) [] fr h fun sk fr h => both (xOps P qf Z C true true ops (pick ops (t.k :: t.i :: t.C)) sk fr h K) (xOps P qf Z C true true ops (pick ops (t.i :: t.k :: t.C)) sk fr h K)
noncomputable def xRegG (p : Option Plan) (ops : Array Oper) (dr : Bool) (fr : List CV) (h : CH) (K : List CV → CH → Bool) : Bool :=
  match p with
  | some (.two t) => ifX (dr && (P.follows .mixedOrders && twoB ops (clAt P qf true true ops) t)) (xTwo P qf Z C ops t fr h K) false
  | some (.all t) => ifX (dr && (P.follows .mixedOrders && treeB ops (clAt P qf true true ops) t)) (xT P qf Z C ops K t [] fr h) false
  | some (.raw w) => ifX dr (xOps P qf Z C true true ops (pick ops w) [] fr h K) false
  | p => xRegP P qf Z C p ops dr fr h K
end

theorem xTwo_ok {P : Program} {qf : FuncId → Bool} {Z : List (Nat × CV)} {C : List (Nat × Ex)} (he : EnvOk P Z C) {ops : Array Oper} {t : Two} {fr : List CV} {h : CH} {K : List CV → CH → Bool} (hk : xTwo P qf Z C ops t fr h K = true) {H0 : Hp} {m : M} {H : Hp} {frv : Fr} {Kv : Fr → Hp → Prop} (hr : Rel H0 m h H) (hv : Vrels m fr frv)
    (hf : ∀ fr' h', K fr' h' = true → h'.wp = h.wp → AgreeX (dstsOf ops.toList) fr fr' → FinF H0 m h H fr' h' Kv) : vcTwo P qf ops t frv H Kv := by
  unfold xTwo at hk
  obtain ⟨sk, fr1, h1, k1, w1, a1, s1⟩ := xA_ok he hk
  obtain ⟨k2, k3⟩ := both_ok k1
  refine s1 hr hv fun m1 H1 frv1 hr1 hs1 hv1 => ?_
  have go : ∀ {l : List Nat}, xOps P qf Z C true true ops (pick ops l) sk fr1 h1 K = true → vcOps P qf true true ops (pick ops l) sk frv1 H1 Kv := fun {l} hk => by
    obtain ⟨fr2, h2, q1, w2, a2, s2⟩ := xOps_ok he hk
    refine s2 hr1 hv1 fun m2 H2 frv2 hr2 hs2 hv2 => ?_
    rw [w1] at hs2
    exact hf fr2 h2 q1 (w2.trans w1) ((a1.mono pick_dsts).trans (a2.mono pick_dsts)) m2 H2 frv2 hr2 (hs1.trans hs2) hv2
  exact ⟨go k2, go k3⟩

/-- What the run has come to, one way or another. -/
def PostG (H0 : Hp) (m : M) (W : List Nat) (Q : QX) (fr : List CV) (h : CH) (a : Act) (w : World) : Exit → Act → World → Prop := fun e a' w' =>
  ∃ fr' h', Q e fr' h' = true ∧ h'.wp = h.wp ∧ AgreeX W fr fr' ∧ PostX false H0 m h.wp e fr' h' a w e a' w'

theorem regOne_ok {P : Program} {qf : FuncId → Bool} {Z : List (Nat × CV)} {C : List (Nat × Ex)} (he : EnvOk P Z C) {p : Option Plan} {id : Nat} {ops : Array Oper} {dr : Bool} {Q : QX} {fr : List CV} {h : CH} (hk : xRegP P qf Z C p ops dr fr h (fun fr' h' => Q .normal fr' h') = true) {H0 : Hp} {m : M} {frv : Fr} {a : Act} {w : World} (r : Option Nat) (hr : Rel H0 m h w.heap) (hv : Vrels m fr frv) (ha : At a frv) : (Code.region id ops dr).wpIn (wideR r) 0 P (PostG H0 m (dstsOf ops.toList) Q fr h a w) a w := by
  obtain ⟨fr', h', k1, k2, k3, k4⟩ := regP_ok (top := false) (id := id) he hk
  refine wpIn_mono (k4 r (fun h => by cases h) hr hv ha) fun e' a' w' hp => ?_
  have he' := hp.1
  subst he'
  exact ⟨fr', h', k1, k2, k3, hp⟩
theorem regTwo_ok {P : Program} {qf : FuncId → Bool} {Z : List (Nat × CV)} {C : List (Nat × Ex)} (he : EnvOk P Z C) {id : Nat} {ops : Array Oper} {t : Two} {Q : QX} {fr : List CV} {h : CH} (hm : P.follows .mixedOrders = true) (hB : twoB ops (clAt P qf true true ops) t = true) (hk : xTwo P qf Z C ops t fr h (fun fr' h' => Q .normal fr' h') = true) {H0 : Hp} {m : M} {frv : Fr} {a : Act} {w : World} (r : Option Nat) (hr : Rel H0 m h w.heap) (hv : Vrels m fr frv) (ha : At a frv) : (Code.region id ops true).wpIn (wideR r) 0 P (PostG H0 m (dstsOf ops.toList) Q fr h a w) a w := by
  have h1 := xTwo_ok he hk (Kv := fun frv' H' => Exit.normal = Exit.normal ∧ ∃ m' fr' h', Q .normal fr' h' = true ∧ h'.wp = h.wp ∧ AgreeX (dstsOf ops.toList) fr fr' ∧ Rel H0 m' h' H' ∧ Stp h.wp m w.heap m' H' ∧ Vrels m' fr' frv') hr hv (fun fr' h' q1 q2 q3 m' H' frv' r1 r2 r3 => ⟨rfl, m', fr', h', q1, q2, q3, r1, r2, r3⟩)
  refine wpIn_mono (two_sound (r := r) (id := id) (Q := fun e frv' ds H' => e = Exit.normal ∧ ∃ m' fr' h', Q .normal fr' h' = true ∧ h'.wp = h.wp ∧ AgreeX (dstsOf ops.toList) fr fr' ∧ Rel H0 m' h' H' ∧ Stp h.wp m w.heap m' H' ∧ Vrels m' fr' frv') hm hB ha h1) fun e a' w' hp => ?_
  obtain ⟨frv', p1, p2, _, ⟨p3, m', fr', h', q1, q2, q3, p4, p5, p6⟩, p7⟩ := hp
  subst p3
  exact ⟨fr', h', q1, q2, q3, rfl, m', frv', p4, p5, p6, p1, Dfs.of_eq (p2 rfl), p7⟩

def noRawB : List (Nat × Plan) → Bool
  | [] => true
  | (_, .raw _) :: _ => false
  | _ :: l => noRawB l
theorem noRaw_look : ∀ {T : List (Nat × Plan)} {i : Nat} {w : List Nat}, noRawB T = true → look T i ≠ some (.raw w)
  | [], _, _, _, h => by cases h
  | (j, p) :: l, i, w, hT, h => by
    have h' : (Bool.rec (motive := fun _ => Option Plan) (look l i) (some p) (Nat.beq j i)) = some (.raw w) := h
    cases hb : Nat.beq j i with
    | true =>
      rw [hb] at h'
      injection h' with h'; subst h'
      cases hT
    | false =>
      rw [hb] at h'
      refine noRaw_look (T := l) ?_ h'
      cases p <;> first | exact hT | cases hT
theorem regAll_ok {P : Program} {qf : FuncId → Bool} {Z : List (Nat × CV)} {C : List (Nat × Ex)} (he : EnvOk P Z C) {id : Nat} {ops : Array Oper} {t : OT} {Q : QX} {fr : List CV} {h : CH} (hm : P.follows .mixedOrders = true) (hB : treeB ops (clAt P qf true true ops) t = true) (hk : xT P qf Z C ops (fun fr' h' => Q .normal fr' h') t [] fr h = true) {H0 : Hp} {m : M} {frv : Fr} {a : Act} {w : World} (r : Option Nat) (hr : Rel H0 m h w.heap) (hv : Vrels m fr frv) (ha : At a frv) : (Code.region id ops true).wpIn (wideR r) 0 P (PostG H0 m (dstsOf ops.toList) Q fr h a w) a w := by
  have h1 := xT_ok he t hk (Kv := fun frv' H' => Exit.normal = Exit.normal ∧ ∃ m' fr' h', Q .normal fr' h' = true ∧ h'.wp = h.wp ∧ AgreeX (dstsOf ops.toList) fr fr' ∧ Rel H0 m' h' H' ∧ Stp h.wp m w.heap m' H' ∧ Vrels m' fr' frv') hr hv (fun fr' h' q1 q2 q3 m' H' frv' r1 r2 r3 => ⟨rfl, m', fr', h', q1, q2, q3, r1, r2, r3⟩)
  refine wpIn_mono (tree_sound (r := r) (id := id) (Q := fun e frv' ds H' => e = Exit.normal ∧ ∃ m' fr' h', Q .normal fr' h' = true ∧ h'.wp = h.wp ∧ AgreeX (dstsOf ops.toList) fr fr' ∧ Rel H0 m' h' H' ∧ Stp h.wp m w.heap m' H' ∧ Vrels m' fr' frv') hm hB ha h1) fun e a' w' hp => ?_
  obtain ⟨frv', p1, p2, _, ⟨p3, m', fr', h', q1, q2, q3, p4, p5, p6⟩, p7⟩ := hp
  subst p3
  exact ⟨fr', h', q1, q2, q3, rfl, m', frv', p4, p5, p6, p1, Dfs.of_eq (p2 rfl), p7⟩

noncomputable def xcG (P : Program) (qf : FuncId → Bool) (Z : List (Nat × CV)) (C : List (Nat × Ex)) (T : List (Nat × Plan)) : Code → Ann → QX → List CV → CH → Bool
  | .skip, _, Q, fr, h => Q .normal fr h
  | .label _, _, Q, fr, h => Q .normal fr h
  | .ret, _, Q, fr, h => Q .ret fr h
  | .exit id, _, Q, fr, h => Q (.exit id) fr h
  | .region id ops dr, _, Q, fr, h => xRegG P qf Z C (look T id) ops dr fr h fun fr' h' => Q .normal fr' h'
  | .seq a b, ann, Q, fr, h =>
    match ann with
    | .join L J l r =>
      ifX (subB (writes a) (L ++ J) && subB J (writes a))
        (xJoin (fun s h => xcG P qf Z C T b r Q (layX L s (junkX J fr)) h) fun K => xcG P qf Z C T a l (thnX (fun fr' h' => K (grabX fr' L) h') Q) fr h)
        false
    | .seq l r => xcG P qf Z C T a l (thnX (xcG P qf Z C T b r Q) Q) fr h
    | _ => xcG P qf Z C T a .nil (thnX (xcG P qf Z C T b .nil Q) Q) fr h
  | .cond c a b, ann, Q, fr, h =>
    match ann with
    | .cond l r => xIte (evX fr c) (xcG P qf Z C T a l Q fr h) (xcG P qf Z C T b r Q fr h)
    | _ => xIte (evX fr c) (xcG P qf Z C T a .nil Q fr h) (xcG P qf Z C T b .nil Q fr h)
  | .block id c, ann, Q, fr, h => xcG P qf Z C T c ann (blkX id Q) fr h
  | .scope c, ann, Q, fr, h => xcG P qf Z C T c ann (scpX Q) fr h
  | .loop c, ann, Q, fr, h =>
    match ann with
    | .loop L J b =>
      ifX (subB (writes c) (L ++ J) && subB J (writes c))
        (xLoop (n := L.length) (fun K s h => xcG P qf Z C T c b (thnX (fun fr' h' => K (grabX fr' L) h') Q) (layX L s (junkX J fr)) h) 1000000 (grabX fr L) h)
        false
    | _ => false
  | _, _, _, _, _ => false

theorem PostG.go {H0 : Hp} {m m1 : M} {W W1 W2 : List Nat} {Q : QX} {fr fr1 : List CV} {h h1 : CH} {a a1 : Act} {w w1 : World} {e : Exit} {a' : Act} {w' : World} (hw : h1.wp = h.wp) (hA : AgreeX W1 fr fr1) (hW1 : ∀ k ∈ W1, k ∈ W) (hW2 : ∀ k ∈ W2, k ∈ W) (hs : Stp h.wp m w.heap m1 w1.heap) (hd : Dfs false m1 w.heap.size w1.heap a1.defers a.defers) (hsm : Sm w w1) (hp : PostG H0 m1 W2 Q fr1 h1 a1 w1 e a' w') : PostG H0 m W Q fr h a w e a' w' := by
  obtain ⟨fr', h', q1, q2, q3, q4⟩ := hp
  rw [hw] at q4
  exact ⟨fr', h', q1, q2.trans hw, (hA.mono hW1).trans (q3.mono hW2), q4.trans hs hd hsm⟩
theorem PostG.mono {H0 : Hp} {m : M} {W W' : List Nat} {Q Q' : QX} {fr : List CV} {h : CH} {a : Act} {w : World} {e : Exit} {a' : Act} {w' : World} (hW : ∀ k ∈ W, k ∈ W') (hQ : ∀ fr' h', Q e fr' h' = true → Q' e fr' h' = true) (hp : PostG H0 m W Q fr h a w e a' w') : PostG H0 m W' Q' fr h a w e a' w' := by
  obtain ⟨fr', h', q1, q2, q3, q4⟩ := hp
  exact ⟨fr', h', hQ _ _ q1, q2, q3.mono hW, q4⟩

theorem xcG_ok {P : Program} {qf : FuncId → Bool} {Z : List (Nat × CV)} {C : List (Nat × Ex)} {T : List (Nat × Plan)} (he : EnvOk P Z C) (hT : noRawB T = true) : ∀ (c : Code) (ann : Ann) (Q : QX) (fr : List CV) (h : CH), xcG P qf Z C T c ann Q fr h = true →
    ∀ {H0 m frv a w} (r : Option Nat), Rel H0 m h w.heap → Vrels m fr frv → At a frv → c.wpIn (wideR r) 0 P (PostG H0 m (writes c) Q fr h a w) a w := by
  intro c
  have here : ∀ {Q : QX} {e : Exit} {fr : List CV} {h : CH} {W : List Nat}, Q e fr h = true → ∀ {H0 : Hp} {m : M} {frv : Fr} {a : Act} {w : World}, Rel H0 m h w.heap → Vrels m fr frv → At a frv → PostG H0 m W Q fr h a w e a w :=
    by intro Q e fr h W hk H0 m frv a w hr hv ha; exact ⟨_, _, hk, rfl, AgreeX.refl _ _, rfl, m, frv, hr, Stp.refl _ _ _, hv, ha, Dfs.refl _ _ _ _ _, Sm.refl w⟩
  induction c with
  | skip => intro ann Q fr h hk H0 m frv a w r hr hv ha; exact wpIn_skip (here (by cases ann <;> exact hk) hr hv ha)
  | label l => intro ann Q fr h hk H0 m frv a w r hr hv ha; exact wpIn_label (here (by cases ann <;> exact hk) hr hv ha)
  | ret => intro ann Q fr h hk H0 m frv a w r hr hv ha; exact wpIn_ret (here (by cases ann <;> exact hk) hr hv ha)
  | exit id => intro ann Q fr h hk H0 m frv a w r hr hv ha; exact wpIn_exit (here (by cases ann <;> exact hk) hr hv ha)
  | region id ops dr =>
    intro ann Q fr h hk H0 m frv a w r hr hv ha
    have hk2 : xRegG P qf Z C (look T id) ops dr fr h (fun fr' h' => Q .normal fr' h') = true := by cases ann <;> exact hk
    clear hk
    unfold xRegG at hk2
    split at hk2
    · rw [ifX_eq] at hk2
      split at hk2
      · rename_i hb
        simp only [Bool.and_eq_true] at hb
        obtain ⟨rfl, hm, hB⟩ := hb
        exact regTwo_ok he hm hB hk2 r hr hv ha
      · cases hk2
    · rw [ifX_eq] at hk2
      split at hk2
      · rename_i hb
        simp only [Bool.and_eq_true] at hb
        obtain ⟨rfl, hm, hB⟩ := hb
        exact regAll_ok he hm hB hk2 r hr hv ha
      · cases hk2
    · rename_i w hl
      exact absurd hl (noRaw_look hT)
    · exact regOne_ok he hk2 r hr hv ha
  | block id c ih =>
    intro ann Q fr h hk H0 m frv a w r hr hv ha
    have hk : xcG P qf Z C T c ann (blkX id Q) fr h = true := by cases ann <;> exact hk
    refine wpIn_block (wpIn_mono (ih ann (blkX id Q) fr h hk r hr hv ha) fun e' a' w' hp => ?_)
    obtain ⟨fr', h', k1, k2, k3, k4⟩ := hp
    have other : (∀ k, e' ≠ .exit k) → Q e' fr' h' = true := fun hne => by
      cases e' with
      | exit k => exact absurd rfl (hne k)
      | normal => exact k1
      | goto l => exact k1
      | ret => exact k1
      | panic c => exact k1
      | outgrown => exact k1
    cases e' with
    | exit k =>
      have k1 : isXX k id (Q .normal fr' h') (Q (.exit k) fr' h') = true := k1
      show (if k = id then _ else _)
      by_cases hki : k = id
      · subst hki
        rw [if_pos rfl]
        unfold isXX at k1
        rw [Nat.beq_refl] at k1
        exact ⟨fr', h', k1, k2, k3, rfl, k4.2⟩
      · rw [if_neg hki]
        have hne : Nat.beq k id = false := by
          cases hb : Nat.beq k id with
          | false => rfl
          | true => exact absurd (Nat.eq_of_beq_eq_true hb) hki
        unfold isXX at k1
        rw [hne] at k1
        exact ⟨fr', h', k1, k2, k3, k4⟩
    | normal => exact ⟨fr', h', other (by simp), k2, k3, k4⟩
    | goto l => exact ⟨fr', h', other (by simp), k2, k3, k4⟩
    | ret => exact ⟨fr', h', other (by simp), k2, k3, k4⟩
    | panic c => exact ⟨fr', h', other (by simp), k2, k3, k4⟩
    | outgrown => exact ⟨fr', h', other (by simp), k2, k3, k4⟩
  | cond c x y ihx ihy =>
    intro ann Q fr h hk H0 m frv a w r hr hv ha
    have hk : ∃ l r', xIte (evX fr c) (xcG P qf Z C T x l Q fr h) (xcG P qf Z C T y r' Q fr h) = true := by cases ann <;> exact ⟨_, _, hk⟩
    obtain ⟨l, r', hk⟩ := hk
    unfold xIte at hk
    have hcv := ev_rel hv c
    split at hk
    · rename_i hc
      rw [hc] at hcv
      exact wpIn_cond_true (by rw [ha.ev]; exact hcv) (wpIn_mono (ihx l Q fr h hk r hr hv ha) fun e a' w' hp => hp.mono (fun k hk => List.mem_append_left _ hk) fun _ _ h => h)
    · rename_i hc
      rw [hc] at hcv
      exact wpIn_cond_false (by rw [ha.ev]; exact hcv) (wpIn_mono (ihy r' Q fr h hk r hr hv ha) fun e a' w' hp => hp.mono (fun k hk => List.mem_append_right _ hk) fun _ _ h => h)
    · cases hk
  | seq x y ihx ihy =>
    intro ann Q fr h hk H0 m frv a w r hr hv ha
    have done : ∀ {l : Ann} {K : List CV → CH → Bool}, xcG P qf Z C T x l (thnX K Q) fr h = true →
        (∀ fr1 h1, h1.wp = h.wp → AgreeX (writes x) fr fr1 → K fr1 h1 = true → ∀ {m1 frv1 a1 w1}, Rel H0 m1 h1 w1.heap → Vrels m1 fr1 frv1 → At a1 frv1 → ∃ fr2, AgreeX (writes x) fr fr2 ∧ y.wpIn (wideR r) 0 P (PostG H0 m1 (writes y) Q fr2 h1 a1 w1) a1 w1) → (Code.seq x y).wpIn (wideR r) 0 P (PostG H0 m (writes (.seq x y)) Q fr h a w) a w := by
      intro l K hx hy
      refine wpIn_seq (wpIn_mono (ihx l _ fr h hx r hr hv ha) fun e' a' w' hp => ?_)
      obtain ⟨fr1, h1, k1, k2, k3, k4⟩ := hp
      rcases thnX_ok k1 with ⟨rfl, k1⟩ | ⟨hn, k1⟩
      · obtain ⟨_, m1, frv1, p1, p2, p3, p4, p5, p6⟩ := k4
        obtain ⟨fr2, ha2, hy⟩ := hy fr1 h1 k2 k3 k1 p1 p3 p4
        exact wpIn_mono hy fun e'' a'' w'' hp => hp.go k2 ha2 (fun k hk => List.mem_append_left _ hk) (fun k hk => List.mem_append_right _ hk) p2 p5 p6
      · have fin : PostG H0 m (writes (.seq x y)) Q fr h a w e' a' w' := ⟨fr1, h1, k1, k2, k3.mono fun k hk => List.mem_append_left _ hk, k4⟩
        cases e' <;> first | exact absurd rfl hn | exact fin
    have key : (∃ L J l r', (subB (writes x) (L ++ J) && subB J (writes x)) = true ∧ xcG P qf Z C T x l (thnX (fun fr' h' => xcG P qf Z C T y r' Q (layX L (grabX fr' L) (junkX J fr)) h') Q) fr h = true) ∨ ∃ l r', xcG P qf Z C T x l (thnX (xcG P qf Z C T y r' Q) Q) fr h = true := by
      unfold xcG at hk
      split at hk
      · rw [ifX_eq] at hk
        split at hk
        · rename_i hs; exact .inl ⟨_, _, _, _, hs, hk⟩
        · cases hk
      · exact .inr ⟨_, _, hk⟩
      · exact .inr ⟨_, _, hk⟩
    rcases key with ⟨L, J, l, r', hs, hk⟩ | ⟨l, r', hk⟩
    · simp only [Bool.and_eq_true] at hs
      exact done hk fun fr1 h1 hw1 hA hk1 {m1 frv1 a1 w1} hr1 hv1 ha1 => ⟨_, lay_agree hA hs.2, ihy r' Q _ h1 hk1 r hr1 (lay_rel hA hs.1 hv1) ha1⟩
    · exact done hk fun fr1 h1 hw1 hA hk1 {m1 frv1 a1 w1} hr1 hv1 ha1 => ⟨_, hA, ihy r' Q fr1 h1 hk1 r hr1 hv1 ha1⟩
  | loop c ih =>
    intro ann Q fr h hk H0 m frv a w r hr hv ha
    have key : ∃ L J b, (subB (writes c) (L ++ J) && subB J (writes c)) = true ∧ xLoop (n := L.length) (fun K s h => xcG P qf Z C T c b (thnX (fun fr' h' => K (grabX fr' L) h') Q) (layX L s (junkX J fr)) h) 1000000 (grabX fr L) h = true := by
      unfold xcG at hk
      split at hk
      · rw [ifX_eq] at hk
        split at hk
        · rename_i hs; exact ⟨_, _, _, hs, hk⟩
        · cases hk
      · cases hk
    obtain ⟨L, J, b, hs, hk⟩ := key
    simp only [Bool.and_eq_true] at hs
    have rounds : ∀ (N : Nat) (fr1 : List CV) (h1 : CH), h1.wp = h.wp → AgreeX (writes c) fr fr1 →
        xLoop (n := L.length) (fun K s h => xcG P qf Z C T c b (thnX (fun fr' h' => K (grabX fr' L) h') Q) (layX L s (junkX J fr)) h) N (grabX fr1 L) h1 = true →
        ∀ {m1 frv1 a1 w1}, Rel H0 m1 h1 w1.heap → Vrels m1 fr1 frv1 → At a1 frv1 → Code.roundsIn (wideR r) 0 P c (PostG H0 m1 (writes c) Q fr h1 a1 w1) N a1 w1 := by
      intro N
      induction N with
      | zero => intro fr1 h1 _ _ hk; cases hk
      | succ N ihN =>
        intro fr1 h1 hw1 ha1 hk m1 frv1 a1 w1 hr1 hv1 hat1
        have hk' : xcG P qf Z C T c b (thnX (fun fr' h' => xLoop (n := L.length) (fun K s h => xcG P qf Z C T c b (thnX (fun fr' h' => K (grabX fr' L) h') Q) (layX L s (junkX J fr)) h) N (grabX fr' L) h') Q) (layX L (grabX fr1 L) (junkX J fr)) h1 = true := hk
        rw [roundsIn_succ]
        refine wpIn_mono (ih b _ _ h1 hk' r hr1 (lay_rel ha1 hs.1 hv1) hat1) fun e' a' w' hp => ?_
        obtain ⟨fr2, h2, k1, k2, k3, k4⟩ := hp
        have hag := (lay_agree (L := L) ha1 hs.2).trans k3
        rcases thnX_ok k1 with ⟨rfl, k1⟩ | ⟨hn, k1⟩
        · obtain ⟨_, m2, frv2, p1, p2, p3, p4, p5, p6⟩ := k4
          refine xc_ok.roundsIn_mono (fun e'' a'' w'' hp => ?_) _ _ _ (ihN fr2 h2 (k2.trans hw1) hag k1 p1 p3 p4)
          exact hp.go k2 (AgreeX.refl (writes c) fr) (fun _ h => h) (fun _ h => h) p2 p5 p6
        · have fin : PostG H0 m1 (writes c) Q fr h1 a1 w1 e' a' w' := ⟨fr2, h2, k1, k2, hag, k4⟩
          cases e' <;> first | exact absurd rfl hn | exact fin
    exact wpIn_loop_rounds 1000000 (rounds 1000000 fr h rfl (AgreeX.refl _ _) hk hr hv ha)
  | scope c ih =>
    intro ann Q fr h hk H0 m frv a w r hr hv ha
    have hk : xcG P qf Z C T c ann (scpX Q) fr h = true := by cases ann <;> exact hk
    refine wpIn_scope (wpIn_mono (ih ann (scpX Q) fr h hk r hr hv ha) fun e' a' w' hp => ?_)
    obtain ⟨fr', h', k1, k2, k3, k4⟩ := hp
    cases e' <;> first | exact ⟨fr', h', k1, k2, k3, k4⟩ | cases k1
  | goto l => intro ann Q fr h hk; cases ann <;> cases hk
  | refuse why => intro ann Q fr h hk; cases ann <;> cases hk
  | rangeFunc g ps x y ihx ihy => intro ann Q fr h hk; cases ann <;> cases hk

/-! ### Functions -/
noncomputable def xFnG (P : Program) (qf : FuncId → Bool) (Z : List (Nat × CV)) (C : List (Nat × Ex)) (T : List (Nat × Plan)) (fn : Func) (ann : Ann) (args : List CV) (h : CH) (k : CV → CH → Bool) : Bool :=
  match fn.body with
  | some c => ifX (noRawB T) (xcG P qf Z C T c ann (retX P fn k) (padX args fn.ntmps) h) false
  | none => false
/-- What a run is worth, of which several outcomes are followed. -/
def SimG (P : Program) (f : FuncId) (ex : Ex) : Prop :=
  ∀ args h k, ex args h k = true → ∀ {H0 m H vargs} {K : Value → Hp → Prop}, Rel H0 m h H → Vrels m args vargs → (∀ z h', k z h' = true → h'.wp = h.wp → Fin H0 m h H z h' K) → Fc P f vargs.toArray H K
theorem simG_of {P : Program} {qf : FuncId → Bool} {Z : List (Nat × CV)} {C : List (Nat × Ex)} {T : List (Nat × Plan)} (he : EnvOk P Z C) {f : FuncId} {fn : Func} (ann : Ann) (hf : P.funcs[f]? = some fn) : SimG P f (xFnG P qf Z C T fn ann) := by
  intro args h k hk H0 m H vargs K hr hv hK
  unfold xFnG at hk
  split at hk
  · rename_i c hb
    rw [ifX_eq] at hk
    split at hk <;> try (cases hk; done)
    rename_i hT
    intro w hw
    subst hw
    refine callsIn_of_wp_marks hf hb trivial ?_ rfl
    have ha : At { tmps := vargs.toArray ++ Array.replicate (fn.ntmps - vargs.toArray.size) undef, defers := [] } (padF vargs fn.ntmps) := by
      simp [At, padF]
    refine wpIn_mono (xcG_ok he hT c ann _ _ h hk none hr (pad_rel hv fn.ntmps) ha) fun e a' w' hp => ?_
    obtain ⟨fr', h', k1, k2, _, _, m', frv', p1, p2, p3, p4, p5, p6⟩ := hp
    have key : (e = .normal ∨ e = .ret) ∧ xRes P fr' h' (fun v => k v h') fn.results.toList [] = true := by
      cases e <;> first | exact ⟨.inl rfl, k1⟩ | exact ⟨.inr rfl, k1⟩ | cases k1
    obtain ⟨hex, hres⟩ := key
    obtain ⟨z, h1, h2⟩ := xRes_ok hres
    have ht : a'.tmps.toList = frv' := by rw [show a'.tmps = frv'.toArray from p4]
    obtain ⟨Ds, hd, d1, d2⟩ := p5
    have fin : LeavesInM (wideR none) 0 P fn a'.tmps (fun e w' => ∃ v, e = .returned v ∧ K v w'.heap ∧ Sm w w') a'.defers .returning w' := by
      refine ends_ok a'.defers w' p6 (fun w2 hs hr => ?_) ?_
      · rw [ht] at hr
        obtain ⟨v, hv, hR⟩ := results_ok p4 hr
        exact ⟨v, hv, v, rfl, hR, hs⟩
      · rw [ht, hd]
        simp only [List.append_nil]
        exact marks_end (K := fun H' => Res P fn.results.toList frv' H' K) hr.ext.le (fun H' q1 q2 => h2 q1 p3 rfl fun v hv => hK z h' h1 k2 m' H' v q1 q2 hv) Ds w'.heap d1.1 d2 p1 p2
    rcases hex with rfl | rfl
    · exact fin
    · exact fin
  · cases hk

noncomputable def isTrue (z : CV) : Bool := match z with | .bool true => true | _ => false
theorem isTrue_ok {z : CV} (h : isTrue z = true) : z = .bool true := by
  unfold isTrue at h
  split at h
  · rfl
  · cases h
theorem closedG {P : Program} {f : FuncId} {ex : Ex} (hs : SimG P f ex) (hk : ex [] h0 (fun z _ => isTrue z) = true) {H : Hp} {R : Value → Hp → Prop} (h : ∀ H', Ext H H' → R (.bool true) H') : Fc P f #[] H R :=
  hs _ _ _ hk (rel0 H) (vargs := []) rfl fun z h' hz _ m' H' v r1 r2 r3 => by
    rw [isTrue_ok hz] at r3
    simp only [Vrel] at r3; subst r3
    exact h H' r1.ext
/-- A function without arguments that is known to answer true: nothing that it lays is looked at any more. -/
noncomputable def exTrue : Ex := fun args h k => match args with | [] => k (.bool true) h | _ => false
theorem simTrue {P : Program} {f : FuncId} (hc : ∀ {H : Hp} {R : Value → Hp → Prop}, (∀ H', Ext H H' → R (.bool true) H') → Fc P f #[] H R) : SimF P f exTrue := by
  intro args h k hk
  unfold exTrue at hk
  split at hk
  · refine ⟨_, h, hk, rfl, fun {H0 m H vargs K} hr hv hf => ?_⟩
    simp only [Vrels] at hv
    subst hv
    exact hc fun H' hx => hf m H' _ (hr.ext' hx) (Stp.ext hx) rfl
  · cases hk
/-- Runs that come out true, whatever arguments that are not known. -/
theorem closedF {P : Program} {f : FuncId} {ex : Ex} {xs : List CV} (hs : SimF P f ex) (hk : ex xs h0 (fun z _ => isTrue z) = true) {vs : List Value} (hv : Vrels [] xs vs) {H : Hp} {R : Value → Hp → Prop} (h : ∀ H', Ext H H' → R (.bool true) H') : Fc P f vs.toArray H R := by
  obtain ⟨z, h', h1, _, h2⟩ := hs _ _ _ hk
  rw [isTrue_ok h1] at h2
  exact h2 (rel0 H) hv fun m' H' v r1 r2 r3 => by
    simp only [Vrel] at r3; subst r3
    exact h H' r1.ext
theorem closedH {P : Program} {f : FuncId} {ex : Ex} {xs : List CV} (hs : SimG P f ex) (hk : ex xs h0 (fun z _ => isTrue z) = true) {vs : List Value} (hv : Vrels [] xs vs) {H : Hp} {R : Value → Hp → Prop} (h : ∀ H', Ext H H' → R (.bool true) H') : Fc P f vs.toArray H R :=
  hs _ _ _ hk (rel0 H) hv fun z h' hz _ m' H' v r1 r2 r3 => by
    rw [isTrue_ok hz] at r3
    simp only [Vrel] at r3; subst r3
    exact h H' r1.ext
/-- A function that writes nothing old and answers by a plain value: what it has laid is not looked at any more. -/
theorem simQ {P : Program} {f : FuncId} {ex : Ex} (hs : SimF P f ex) : SimF P f (fun args h k => xQuiet (some ex) args h k) := by
  intro args h k hk
  obtain ⟨t, n, wp⟩ := h
  have hk : ex args (.mk t n n) (fun z _ => (match plainX z with | some _ => k z (.mk t n wp) | none => false)) = true := hk
  obtain ⟨z, h', h1, h2, h3⟩ := hs _ _ _ hk
  split at h1
  · rename_i v hv
    refine ⟨z, _, h1, rfl, fun {H0 m H vargs K} hr hva hf => ?_⟩
    have hr' : Rel H0 m (.mk t n n) H := ⟨hr.ext, hr.len, hr.new, hr.obj, hr.inj, hr.low⟩
    refine h3 hr' hva fun m' H'' u r1 r2 r3 => ?_
    have hx : Ext H H'' := r2.kp.ext fun b hb hw => by
      obtain ⟨i, e, hi, hge, _⟩ := hw
      have hl2 : m.length = n := hr.len
      simp only [CH.wp] at hge
      rw [List.getElem?_eq_none (by omega)] at hi
      cases hi
    rw [plainX_ok hv r3]
    exact hf m H'' v (hr.ext' hx) (Stp.ext hx) (plainX_rel hv m)
  · cases h1
/-- A function whose outcomes are all one plain value: what it has laid is not looked at any more. ex1: one of its runs. -/
noncomputable def xQG (ex1 exg : Ex) (args : List CV) (h : CH) (k : CV → CH → Bool) : Bool :=
  match h with
  | .mk t n wp => ex1 args (.mk t n n) fun z _ => both (exg args (.mk t n n) fun z' _ => plB z' && eqC z' z) (k z (.mk t n wp))
/-- One of the runs is none but for its answer: nothing is asked of it. -/
def One (ex : Ex) : Prop := ∀ args h k, ex args h k = true → ∃ z h', k z h' = true
theorem simQG {P : Program} {f : FuncId} {ex1 exg : Ex} (h1 : One ex1) (hs : SimG P f exg) : SimF P f (fun args h k => xQG ex1 exg args h k) := by
  intro args h k hk
  obtain ⟨t, n, wp⟩ := h
  obtain ⟨z, _, hk1⟩ := h1 _ _ _ (show ex1 args (.mk t n n) (fun z _ => both (exg args (.mk t n n) fun z' _ => plB z' && eqC z' z) (k z (.mk t n wp))) = true from hk)
  obtain ⟨k1, k2⟩ := both_ok hk1
  refine ⟨z, .mk t n wp, k2, rfl, fun {H0 m H vargs K} hr hva hf => ?_⟩
  have hr' : Rel H0 m (.mk t n n) H := ⟨hr.ext, hr.len, hr.new, hr.obj, hr.inj, hr.low⟩
  refine hs args _ _ k1 hr' hva fun z' h' hz _ m' H'' u r1 r2 r3 => ?_
  simp only [Bool.and_eq_true] at hz
  have hx : Ext H H'' := r2.kp.ext fun b hb hw => by
    obtain ⟨i, e, hi, hge, _⟩ := hw
    have hl2 : m.length = n := hr.len
    simp only [CH.wp] at hge
    rw [List.getElem?_eq_none (by omega)] at hi
    cases hi
  have hzz := eqC_ok _ _ hz.2
  subst hzz
  rw [valP_ok z' hz.1 r3]
  exact hf m H'' _ (hr.ext' hx) (Stp.ext hx) (valP_rel z' hz.1 m)
/-- A tree that has a walk. -/
def walkB : OT → Bool
  | .line _ => true
  | .fork _ bs => (match bs with | .nil => false | .cons _ t _ => walkB t)
theorem xT_one {P : Program} {qf : FuncId → Bool} {Z : List (Nat × CV)} {C : List (Nat × Ex)} (he : EnvOk P Z C) {ops : Array Oper} {K : List CV → CH → Bool} : ∀ (t : OT) {sk : List Nat} {fr : List CV} {h : CH}, walkB t = true → xT P qf Z C ops K t sk fr h = true → ∃ fr' h', K fr' h' = true
  | .line l, sk, fr, h, _, hk => by
    simp only [xT] at hk
    obtain ⟨fr', h', k1, _⟩ := xOps_ok he hk
    exact ⟨fr', h', k1⟩
  | .fork A .nil, sk, fr, h, hw, hk => by cases hw
  | .fork A (.cons i t bs), sk, fr, h, hw, hk => by
    simp only [xT] at hk
    obtain ⟨sk', fr', h', k1, _⟩ := xA_ok he hk
    simp only [xB] at k1
    obtain ⟨k0, _⟩ := both_ok k1
    obtain ⟨sk2, fr2, h2, k2, _⟩ := xA_ok he k0
    exact xT_one he t hw k2
def walksB : List (Nat × Plan) → Bool
  | [] => true
  | (_, .all t) :: l => walkB t && walksB l
  | _ :: l => walksB l
theorem walks_look : ∀ {T : List (Nat × Plan)} {i : Nat} {t : OT}, walksB T = true → look T i = some (.all t) → walkB t = true
  | [], _, _, _, h => by cases h
  | (j, p) :: l, i, t, hw, h => by
    have h' : (Bool.rec (motive := fun _ => Option Plan) (look l i) (some p) (Nat.beq j i)) = some (.all t) := h
    cases hb : Nat.beq j i with
    | true =>
      rw [hb] at h'
      injection h' with h'; subst h'
      simp only [walksB, Bool.and_eq_true] at hw
      exact hw.1
    | false =>
      rw [hb] at h'
      refine walks_look (T := l) ?_ h'
      cases p <;> first | exact hw | (simp only [walksB, Bool.and_eq_true] at hw; exact hw.2)
/-- A run of several outcomes has one. -/
theorem xcG_one {P : Program} {qf : FuncId → Bool} {Z : List (Nat × CV)} {C : List (Nat × Ex)} {T : List (Nat × Plan)} (he : EnvOk P Z C) (hw : walksB T = true) : ∀ (c : Code) (ann : Ann) (Q : QX) (fr : List CV) (h : CH), xcG P qf Z C T c ann Q fr h = true → ∃ e fr' h', Q e fr' h' = true := by
  intro c
  induction c with
  | skip => intro ann Q fr h hk; exact ⟨.normal, fr, h, by cases ann <;> exact hk⟩
  | label l => intro ann Q fr h hk; exact ⟨.normal, fr, h, by cases ann <;> exact hk⟩
  | ret => intro ann Q fr h hk; exact ⟨.ret, fr, h, by cases ann <;> exact hk⟩
  | exit id => intro ann Q fr h hk; exact ⟨.exit id, fr, h, by cases ann <;> exact hk⟩
  | region id ops dr =>
    intro ann Q fr h hk
    have hk2 : xRegG P qf Z C (look T id) ops dr fr h (fun fr' h' => Q .normal fr' h') = true := by cases ann <;> exact hk
    clear hk
    unfold xRegG at hk2
    split at hk2
    · rw [ifX_eq] at hk2
      split at hk2 <;> try (cases hk2; done)
      unfold xTwo at hk2
      obtain ⟨sk, fr1, h1, k1, _⟩ := xA_ok he hk2
      obtain ⟨k2, _⟩ := both_ok k1
      obtain ⟨fr2, h2, k3, _⟩ := xOps_ok he k2
      exact ⟨.normal, fr2, h2, k3⟩
    · rename_i t hl
      rw [ifX_eq] at hk2
      split at hk2 <;> try (cases hk2; done)
      obtain ⟨fr2, h2, k3⟩ := xT_one he t (walks_look hw hl) hk2
      exact ⟨.normal, fr2, h2, k3⟩
    · rw [ifX_eq] at hk2
      split at hk2 <;> try (cases hk2; done)
      obtain ⟨fr2, h2, k3, _⟩ := xOps_ok he hk2
      exact ⟨.normal, fr2, h2, k3⟩
    · obtain ⟨fr2, h2, k3, _⟩ := regP_ok (top := false) (id := id) he hk2
      exact ⟨.normal, fr2, h2, k3⟩
  | block id c ih =>
    intro ann Q fr h hk
    have hk : xcG P qf Z C T c ann (blkX id Q) fr h = true := by cases ann <;> exact hk
    obtain ⟨e, fr', h', k1⟩ := ih ann (blkX id Q) fr h hk
    cases e with
    | exit k =>
      have k1 : isXX k id (Q .normal fr' h') (Q (.exit k) fr' h') = true := k1
      unfold isXX at k1
      cases hb : Nat.beq k id with
      | true => rw [hb] at k1; exact ⟨.normal, fr', h', k1⟩
      | false => rw [hb] at k1; exact ⟨.exit k, fr', h', k1⟩
    | normal => exact ⟨.normal, fr', h', k1⟩
    | goto l => exact ⟨.goto l, fr', h', k1⟩
    | ret => exact ⟨.ret, fr', h', k1⟩
    | panic c => exact ⟨.panic c, fr', h', k1⟩
    | outgrown => exact ⟨.outgrown, fr', h', k1⟩
  | cond c x y ihx ihy =>
    intro ann Q fr h hk
    have hk : ∃ l r', xIte (evX fr c) (xcG P qf Z C T x l Q fr h) (xcG P qf Z C T y r' Q fr h) = true := by cases ann <;> exact ⟨_, _, hk⟩
    obtain ⟨l, r', hk⟩ := hk
    unfold xIte at hk
    split at hk
    · exact ihx l Q fr h hk
    · exact ihy r' Q fr h hk
    · cases hk
  | seq x y ihx ihy =>
    intro ann Q fr h hk
    have key : ∃ l K, xcG P qf Z C T x l (thnX K Q) fr h = true ∧ ∀ fr1 h1, K fr1 h1 = true → ∃ e fr' h', Q e fr' h' = true := by
      unfold xcG at hk
      split at hk
      · rw [ifX_eq] at hk
        split at hk
        · exact ⟨_, _, hk, fun fr1 h1 k => ihy _ Q _ h1 k⟩
        · cases hk
      · exact ⟨_, _, hk, fun fr1 h1 k => ihy _ Q fr1 h1 k⟩
      · exact ⟨_, _, hk, fun fr1 h1 k => ihy _ Q fr1 h1 k⟩
    obtain ⟨l, K, hk, hy⟩ := key
    obtain ⟨e, fr1, h1, k1⟩ := ihx l _ fr h hk
    rcases thnX_ok k1 with ⟨rfl, k1⟩ | ⟨hn, k1⟩
    · exact hy fr1 h1 k1
    · exact ⟨e, fr1, h1, k1⟩
  | loop c ih =>
    intro ann Q fr h hk
    have key : ∃ (L : List Nat) (J : List Nat) (b : Ann), xLoop (n := L.length) (fun K s h => xcG P qf Z C T c b (thnX (fun fr' h' => K (grabX fr' L) h') Q) (layX L s (junkX J fr)) h) 1000000 (grabX fr L) h = true := by
      unfold xcG at hk
      split at hk
      · rw [ifX_eq] at hk
        split at hk
        · exact ⟨_, _, _, hk⟩
        · cases hk
      · cases hk
    obtain ⟨L, J, b, hk⟩ := key
    have rounds : ∀ (N : Nat) (s : TupC L.length) (h1 : CH), xLoop (n := L.length) (fun K s h => xcG P qf Z C T c b (thnX (fun fr' h' => K (grabX fr' L) h') Q) (layX L s (junkX J fr)) h) N s h1 = true → ∃ e fr' h', Q e fr' h' = true := by
      intro N
      induction N with
      | zero => intro s h1 hk; cases hk
      | succ N ihN =>
        intro s h1 hk
        have hk' : xcG P qf Z C T c b (thnX (fun fr' h' => xLoop (n := L.length) (fun K s h => xcG P qf Z C T c b (thnX (fun fr' h' => K (grabX fr' L) h') Q) (layX L s (junkX J fr)) h) N (grabX fr' L) h') Q) (layX L s (junkX J fr)) h1 = true := hk
        obtain ⟨e, fr2, h2, k1⟩ := ih b _ _ h1 hk'
        rcases thnX_ok k1 with ⟨rfl, k1⟩ | ⟨hn, k1⟩
        · exact ihN _ _ k1
        · exact ⟨e, fr2, h2, k1⟩
    exact rounds 1000000 _ h hk
  | scope c ih =>
    intro ann Q fr h hk
    have hk : xcG P qf Z C T c ann (scpX Q) fr h = true := by cases ann <;> exact hk
    obtain ⟨e, fr', h', k1⟩ := ih ann (scpX Q) fr h hk
    cases e <;> first | exact ⟨_, fr', h', k1⟩ | cases k1
  | goto l => intro ann Q fr h hk; cases ann <;> cases hk
  | refuse why => intro ann Q fr h hk; cases ann <;> cases hk
  | rangeFunc g ps x y ihx ihy => intro ann Q fr h hk; cases ann <;> cases hk
/-- A function, run in orders that nothing is said of. -/
noncomputable def xFn1 (P : Program) (qf : FuncId → Bool) (Z : List (Nat × CV)) (C : List (Nat × Ex)) (T : List (Nat × Plan)) (fn : Func) (ann : Ann) (args : List CV) (h : CH) (k : CV → CH → Bool) : Bool :=
  match fn.body with
  | some c => xcG P qf Z C T c ann (retX P fn k) (padX args fn.ntmps) h
  | none => false
theorem one_of {P : Program} {qf : FuncId → Bool} {Z : List (Nat × CV)} {C : List (Nat × Ex)} {T : List (Nat × Plan)} (he : EnvOk P Z C) (hw : walksB T = true) {fn : Func} (ann : Ann) : One (xFn1 P qf Z C T fn ann) := by
  intro args h k hk
  unfold xFn1 at hk
  split at hk
  · rename_i c hb
    obtain ⟨e, fr', h', k1⟩ := xcG_one he hw c ann _ _ h hk
    have hres : xRes P fr' h' (fun v => k v h') fn.results.toList [] = true := by
      cases e <;> first | exact k1 | cases k1
    obtain ⟨z, h1, _⟩ := xRes_ok hres
    exact ⟨z, h', h1⟩
  · cases hk
end Go.Xc
