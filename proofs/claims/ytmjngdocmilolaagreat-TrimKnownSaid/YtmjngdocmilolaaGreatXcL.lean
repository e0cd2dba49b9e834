/- Xc, part L: code, run. -/
import Derived.Test.YtmjngdocmilolaaGreatXcKb
import Derived.LoopNIn
set_option linter.unusedVariables false
set_option linter.unusedSimpArgs false
namespace Go.Xc
open Go.Vc

/-! ### Code -/
def TupC : Nat → Type
  | 0 => Unit
  | n + 1 => CV × TupC n
def grabX (fr : List CV) : (L : List Nat) → TupC L.length
  | [] => ()
  | k :: L => (slotX fr k, grabX fr L)
def layX : (L : List Nat) → TupC L.length → List CV → List CV
  | [], _, fr => fr
  | k :: L, s, fr => (layX L s.2 fr).set k s.1
def junkX (J : List Nat) (fr : List CV) : List CV :=
  match J with
  | [] => fr
  | k :: J => (junkX J fr).set k .junk

theorem junkX_len (J : List Nat) (fr : List CV) : (junkX J fr).length = fr.length := by
  induction J with
  | nil => rfl
  | cons k J ih => simp [junkX, ih]
theorem junkX_get (J : List Nat) (fr : List CV) (k : Nat) : (junkX J fr)[k]? = if k ∈ J then (if k < fr.length then some .junk else none) else fr[k]? := by
  induction J with
  | nil => simp [junkX]
  | cons j J ih =>
    simp only [junkX, List.getElem?_set, junkX_len, ih, List.mem_cons]
    by_cases h1 : j = k
    · subst h1; simp
    · have h2 : ¬ k = j := fun e => h1 e.symm
      simp [h1, h2]
theorem layX_get (fr1 : List CV) : ∀ (L : List Nat) (fr : List CV) (k : Nat), (layX L (grabX fr1 L) fr)[k]? = if k ∈ L then (if k < fr.length then some (slotX fr1 k) else none) else fr[k]?
  | [], fr, k => by simp [layX]
  | j :: L, fr, k => by
    have hlen : ∀ (L : List Nat) (s : TupC L.length) (fr : List CV), (layX L s fr).length = fr.length := by
      intro L
      induction L with
      | nil => intro s fr; rfl
      | cons a L ih => intro s fr; simp [layX, ih]
    simp only [layX, grabX, List.getElem?_set, hlen, layX_get fr1 L fr k, List.mem_cons]
    by_cases h1 : j = k
    · subst h1; simp
    · have h2 : ¬ k = j := fun e => h1 e.symm
      simp [h1, h2]
/-- Behind code that writes W alone the frame is known as before, but for L, known anew, and J, no longer known. -/
theorem lay_rel {W L J : List Nat} {fr fr1 : List CV} {m : M} {frv : Fr} (h : AgreeX W fr fr1) (hs : subB W (L ++ J) = true) (hv : Vrels m fr1 frv) : Vrels m (layX L (grabX fr1 L) (junkX J fr)) frv := by
  have hl := Vrels_len hv
  have hlen : (layX L (grabX fr1 L) (junkX J fr)).length = fr.length := by
    have : ∀ (L : List Nat) (s : TupC L.length) (fr : List CV), (layX L s fr).length = fr.length := by
      intro L
      induction L with
      | nil => intro s fr; rfl
      | cons a L ih => intro s fr; simp [layX, ih]
    rw [this, junkX_len]
  refine Vrels_of (by rw [hlen, ← hl, h.1]) fun k x hk => ?_
  rw [layX_get, junkX_len, junkX_get] at hk
  by_cases hL : k ∈ L
  · rw [if_pos hL] at hk
    split at hk
    · rename_i hlt
      injection hk with hk; subst hk
      have h2 := slot_rel hv k
      have : k < frv.length := by rw [← hl, h.1]; exact hlt
      refine ⟨slot frv k, ?_, h2⟩
      simp [slot, this]
    · cases hk
  · rw [if_neg hL] at hk
    by_cases hJ : k ∈ J
    · rw [if_pos hJ] at hk
      split at hk
      · rename_i hlt
        injection hk with hk; subst hk
        have : k < frv.length := by rw [← hl, h.1]; exact hlt
        exact ⟨frv[k], List.getElem?_eq_getElem this, trivial⟩
      · cases hk
    · rw [if_neg hJ] at hk
      have : k ∉ W := fun hm => by
        have := subB_spec hs k hm
        simp [hL, hJ] at this
      rw [← h.2 k this] at hk
      exact Vrels_get hv hk
theorem lay_agree {W L J : List Nat} {fr fr1 : List CV} (h : AgreeX W fr fr1) (hJ : subB J W = true) : AgreeX W fr (layX L (grabX fr1 L) (junkX J fr)) := by
  have hlen : (layX L (grabX fr1 L) (junkX J fr)).length = fr.length := by
    have : ∀ (L : List Nat) (s : TupC L.length) (fr : List CV), (layX L s fr).length = fr.length := by
      intro L
      induction L with
      | nil => intro s fr; rfl
      | cons a L ih => intro s fr; simp [layX, ih]
    rw [this, junkX_len]
  refine ⟨hlen, fun k hk => ?_⟩
  rw [layX_get, junkX_len, junkX_get]
  by_cases hL : k ∈ L
  · rw [if_pos hL]
    have h1 := h.2 k hk
    by_cases hlt : k < fr.length
    · rw [if_pos hlt]
      have hlt1 : k < fr1.length := by rw [h.1]; exact hlt
      rw [← h1]
      simp [slotX, hlt1]
    · rw [if_neg hlt, List.getElem?_eq_none (by omega)]
  · rw [if_neg hL]
    have : k ∉ J := fun hm => hk (subB_spec hJ k hm)
    rw [if_neg this]

abbrev QX := Exit → List CV → CH → Bool
abbrev thnX (K : List CV → CH → Bool) (Q : QX) : QX
  | .normal, fr, h => K fr h
  | e, fr, h => Q e fr h
noncomputable abbrev isXX (k id : Nat) (A B : Bool) : Bool := Bool.rec B A (Nat.beq k id)
noncomputable abbrev blkX (id : Nat) (Q : QX) : QX
  | .exit k, fr, h => isXX k id (Q .normal fr h) (Q (.exit k) fr h)
  | e, fr, h => Q e fr h
abbrev scpX (Q : QX) : QX
  | .goto _, _, _ => false
  | e, fr, h => Q e fr h
noncomputable def xJoin {n : Nat} (rest : TupC n → CH → Bool) (first : (TupC n → CH → Bool) → Bool) : Bool := first rest
noncomputable def xLoop {n : Nat} (body : (TupC n → CH → Bool) → TupC n → CH → Bool) (N : Nat) : TupC n → CH → Bool :=
  Nat.rec (motive := fun _ => TupC n → CH → Bool) (fun _ _ => false) (fun _ ih s h => body ih s h) N

noncomputable def xc (P : Program) (qf : FuncId → Bool) (Z : List (Nat × CV)) (C : List (Nat × Ex)) (T : List (Nat × Plan)) : Code → Ann → QX → List CV → CH → Bool
  | .skip, _, Q, fr, h => Q .normal fr h
  | .label _, _, Q, fr, h => Q .normal fr h
  | .ret, _, Q, fr, h => Q .ret fr h
  | .exit id, _, Q, fr, h => Q (.exit id) fr h
  | .region id ops dr, _, Q, fr, h => xRegP P qf Z C (look T id) ops dr fr h fun fr' h' => Q .normal fr' h'
  | .seq a b, ann, Q, fr, h =>
    match ann with
    | .join L J l r =>
      ifX (subB (writes a) (L ++ J) && subB J (writes a))
        (xJoin (fun s h => xc P qf Z C T b r Q (layX L s (junkX J fr)) h) fun K => xc P qf Z C T a l (thnX (fun fr' h' => K (grabX fr' L) h') Q) fr h)
        false
    | .seq l r => xc P qf Z C T a l (thnX (xc P qf Z C T b r Q) Q) fr h
    | _ => xc P qf Z C T a .nil (thnX (xc P qf Z C T b .nil Q) Q) fr h
  | .cond c a b, ann, Q, fr, h =>
    match ann with
    | .cond l r => xIte (evX fr c) (xc P qf Z C T a l Q fr h) (xc P qf Z C T b r Q fr h)
    | _ => xIte (evX fr c) (xc P qf Z C T a .nil Q fr h) (xc P qf Z C T b .nil Q fr h)
  | .block id c, ann, Q, fr, h => xc P qf Z C T c ann (blkX id Q) fr h
  | .scope c, ann, Q, fr, h => xc P qf Z C T c ann (scpX Q) fr h
  | .loop c, ann, Q, fr, h =>
    match ann with
    | .loop L J b =>
      ifX (subB (writes c) (L ++ J) && subB J (writes c))
        (xLoop (n := L.length) (fun K s h => xc P qf Z C T c b (thnX (fun fr' h' => K (grabX fr' L) h') Q) (layX L s (junkX J fr)) h) 1000000 (grabX fr L) h)
        false
    | _ => false
  | _, _, _, _, _ => false

theorem PostX.trans {H0 : Hp} {m m1 : M} {wp : Nat} {e : Exit} {fr' : List CV} {h' : CH} {a a1 : Act} {w w1 : World} {e' : Exit} {a' : Act} {w' : World} (hs : Stp wp m w.heap m1 w1.heap) (hd : a1.defers = a.defers) (hsm : Sm w w1) (h : PostX H0 m1 wp e fr' h' a1 w1 e' a' w') : PostX H0 m wp e fr' h' a w e' a' w' := by
  obtain ⟨h1, m', frv', h2, h3, h4, h5, h6, h7⟩ := h
  exact ⟨h1, m', frv', h2, hs.trans h3, h4, h5, h6.trans hd, hsm.trans h7⟩

theorem seq_ok {P : Program} {x y : Code} {fr fr1 fr1' fr2 : List CV} {h h1 h2 : CH} {e : Exit} (hw : h1.wp = h.wp) (s1 : SimC P x fr h .normal fr1 h1) (hfr : ∀ {m frv}, Vrels m fr1 frv → Vrels m fr1' frv) (s2 : SimC P y fr1' h1 e fr2 h2) : SimC P (.seq x y) fr h e fr2 h2 := by
  intro H0 m frv a w r hr hv ha
  refine wpIn_seq (wpIn_mono (s1 r hr hv ha) fun e' a' w' hp => ?_)
  obtain ⟨rfl, m', frv', k1, k2, k3, k4, k5, k6⟩ := hp
  refine wpIn_mono (s2 r k1 (hfr k3) k4) fun e'' a'' w'' hp => ?_
  rw [hw] at hp
  exact hp.trans k2 k5 k6
theorem seq_exit {P : Program} {x y : Code} {fr fr1 : List CV} {h h1 : CH} {e : Exit} (hn : e ≠ .normal) (s1 : SimC P x fr h e fr1 h1) : SimC P (.seq x y) fr h e fr1 h1 := by
  intro H0 m frv a w r hr hv ha
  refine wpIn_seq (wpIn_mono (s1 r hr hv ha) fun e' a' w' hp => ?_)
  have he := hp.1
  subst he
  cases e' <;> first | exact absurd rfl hn | exact hp

theorem thnX_ok {K : List CV → CH → Bool} {Q : QX} {e : Exit} {fr : List CV} {h : CH} (hq : thnX K Q e fr h = true) : (e = .normal ∧ K fr h = true) ∨ (e ≠ .normal ∧ Q e fr h = true) := by
  cases e <;> first | exact .inl ⟨rfl, hq⟩ | exact .inr ⟨by simp, hq⟩

theorem xc_ok {P : Program} {qf : FuncId → Bool} {Z : List (Nat × CV)} {C : List (Nat × Ex)} {T : List (Nat × Plan)} (he : EnvOk P Z C) : ∀ (c : Code) (ann : Ann) (Q : QX) (fr : List CV) (h : CH), xc P qf Z C T c ann Q fr h = true →
    ∃ e fr' h', Q e fr' h' = true ∧ h'.wp = h.wp ∧ AgreeX (writes c) fr fr' ∧ SimC P c fr h e fr' h' := by
  intro c
  have here : ∀ {c : Code} {e : Exit} {fr : List CV} {h : CH}, (∀ {r : Option Nat} {Q : Exit → Act → World → Prop} {a w}, Q e a w → c.wpIn (wideR r) 0 P Q a w) → SimC P c fr h e fr h := by
    intro c e fr h hc H0 m frv a w r hr hv ha
    exact hc ⟨rfl, m, frv, hr, Stp.refl _ _ _, hv, ha, rfl, Sm.refl w⟩
  induction c with
  | skip => intro ann Q fr h hk; exact ⟨.normal, fr, h, by cases ann <;> exact hk, rfl, AgreeX.refl _ _, here fun hq => wpIn_skip hq⟩
  | label l => intro ann Q fr h hk; exact ⟨.normal, fr, h, by cases ann <;> exact hk, rfl, AgreeX.refl _ _, here fun hq => wpIn_label hq⟩
  | ret => intro ann Q fr h hk; exact ⟨.ret, fr, h, by cases ann <;> exact hk, rfl, AgreeX.refl _ _, here fun hq => wpIn_ret hq⟩
  | exit id => intro ann Q fr h hk; exact ⟨.exit id, fr, h, by cases ann <;> exact hk, rfl, AgreeX.refl _ _, here fun hq => wpIn_exit hq⟩
  | region id ops dr =>
    intro ann Q fr h hk
    have hk : xRegP P qf Z C (look T id) ops dr fr h (fun fr' h' => Q .normal fr' h') = true := by cases ann <;> exact hk
    obtain ⟨fr', h', k1, k2, k3, k4⟩ := regP_ok (id := id) he hk
    exact ⟨.normal, fr', h', k1, k2, k3, k4⟩
  | block id c ih =>
    intro ann Q fr h hk
    have hk : xc P qf Z C T c ann (blkX id Q) fr h = true := by cases ann <;> exact hk
    obtain ⟨e, fr', h', k1, k2, k3, k4⟩ := ih ann (blkX id Q) fr h hk
    by_cases hex : e = .exit id
    · subst hex
      have k1 : isXX id id (Q .normal fr' h') (Q (.exit id) fr' h') = true := k1
      unfold isXX at k1
      rw [Nat.beq_refl] at k1
      refine ⟨.normal, fr', h', k1, k2, k3, fun {H0 m frv a w} r hr hv ha => ?_⟩
      refine wpIn_block (wpIn_mono (k4 r hr hv ha) fun e' a' w' hp => ?_)
      obtain ⟨rfl, hp⟩ := hp
      show (if id = id then _ else _)
      rw [if_pos rfl]
      exact ⟨rfl, hp⟩
    · refine ⟨e, fr', h', ?_, k2, k3, fun {H0 m frv a w} r hr hv ha => ?_⟩
      · cases e with
        | exit k =>
          have k1 : isXX k id (Q .normal fr' h') (Q (.exit k) fr' h') = true := k1
          have hne : Nat.beq k id = false := by
            cases hb : Nat.beq k id with
            | false => rfl
            | true => exact absurd (by rw [Nat.eq_of_beq_eq_true hb]) hex
          unfold isXX at k1
          rw [hne] at k1
          exact k1
        | normal => exact k1
        | goto l => exact k1
        | ret => exact k1
        | panic c => exact k1
        | outgrown => exact k1
      · refine wpIn_block (wpIn_mono (k4 r hr hv ha) fun e' a' w' hp => ?_)
        obtain ⟨rfl, hp⟩ := hp
        cases e' with
        | exit k =>
          have hne : ¬ k = id := fun hkid => hex (by rw [hkid])
          show (if k = id then _ else _)
          rw [if_neg hne]
          exact ⟨rfl, hp⟩
        | normal => exact ⟨rfl, hp⟩
        | goto l => exact ⟨rfl, hp⟩
        | ret => exact ⟨rfl, hp⟩
        | panic c => exact ⟨rfl, hp⟩
        | outgrown => exact ⟨rfl, hp⟩
  | cond c x y ihx ihy =>
    intro ann Q fr h hk
    have hk : ∃ l r', xIte (evX fr c) (xc P qf Z C T x l Q fr h) (xc P qf Z C T y r' Q fr h) = true := by cases ann <;> exact ⟨_, _, hk⟩
    obtain ⟨l, r', hk⟩ := hk
    unfold xIte at hk
    split at hk
    · rename_i hc
      obtain ⟨e, fr', h', k1, k2, k3, k4⟩ := ihx l Q fr h hk
      refine ⟨e, fr', h', k1, k2, k3.mono fun k hk => List.mem_append_left _ hk, fun {H0 m frv a w} r hr hv ha => ?_⟩
      have hcv := ev_rel hv c
      rw [hc] at hcv
      exact wpIn_cond_true (by rw [ha.ev]; exact hcv) (k4 r hr hv ha)
    · rename_i hc
      obtain ⟨e, fr', h', k1, k2, k3, k4⟩ := ihy r' Q fr h hk
      refine ⟨e, fr', h', k1, k2, k3.mono fun k hk => List.mem_append_right _ hk, fun {H0 m frv a w} r hr hv ha => ?_⟩
      have hcv := ev_rel hv c
      rw [hc] at hcv
      exact wpIn_cond_false (by rw [ha.ev]; exact hcv) (k4 r hr hv ha)
    · cases hk
  | seq x y ihx ihy =>
    intro ann Q fr h hk
    have plain : ∀ l r', xc P qf Z C T x l (thnX (xc P qf Z C T y r' Q) Q) fr h = true → ∃ e fr' h', Q e fr' h' = true ∧ h'.wp = h.wp ∧ AgreeX (writes (.seq x y)) fr fr' ∧ SimC P (.seq x y) fr h e fr' h' := by
      intro l r' hk
      obtain ⟨e, fr1, h1, k1, k2, k3, k4⟩ := ihx l _ fr h hk
      rcases thnX_ok k1 with ⟨rfl, k1⟩ | ⟨hn, k1⟩
      · obtain ⟨e, fr2, h2, q1, q2, q3, q4⟩ := ihy r' Q fr1 h1 k1
        exact ⟨e, fr2, h2, q1, q2.trans k2, (k3.mono fun k hk => List.mem_append_left _ hk).trans (q3.mono fun k hk => List.mem_append_right _ hk), seq_ok k2 k4 (fun hv => hv) q4⟩
      · exact ⟨e, fr1, h1, k1, k2, k3.mono fun k hk => List.mem_append_left _ hk, seq_exit hn k4⟩
    have key : (∃ L J l r', (subB (writes x) (L ++ J) && subB J (writes x)) = true ∧ xc P qf Z C T x l (thnX (fun fr' h' => xc P qf Z C T y r' Q (layX L (grabX fr' L) (junkX J fr)) h') Q) fr h = true) ∨ ∃ l r', xc P qf Z C T x l (thnX (xc P qf Z C T y r' Q) Q) fr h = true := by
      unfold xc at hk
      split at hk
      · rw [ifX_eq] at hk
        split at hk
        · rename_i hs; exact .inl ⟨_, _, _, _, hs, hk⟩
        · cases hk
      · exact .inr ⟨_, _, hk⟩
      · exact .inr ⟨_, _, hk⟩
    rcases key with ⟨L, J, l, r', hs, hk⟩ | ⟨l, r', hk⟩
    · simp only [Bool.and_eq_true] at hs
      obtain ⟨e, fr1, h1, k1, k2, k3, k4⟩ := ihx l _ fr h hk
      rcases thnX_ok k1 with ⟨rfl, k1⟩ | ⟨hn, k1⟩
      · obtain ⟨e, fr2, h2, q1, q2, q3, q4⟩ := ihy r' Q _ h1 k1
        exact ⟨e, fr2, h2, q1, q2.trans k2, ((lay_agree k3 hs.2).mono fun k hk => List.mem_append_left _ hk).trans (q3.mono fun k hk => List.mem_append_right _ hk), seq_ok k2 k4 (fun hv => lay_rel k3 hs.1 hv) q4⟩
      · exact ⟨e, fr1, h1, k1, k2, k3.mono fun k hk => List.mem_append_left _ hk, seq_exit hn k4⟩
    · exact plain l r' hk
  | loop c ih =>
    intro ann Q fr h hk
    have key : ∃ L J b, (subB (writes c) (L ++ J) && subB J (writes c)) = true ∧ xLoop (n := L.length) (fun K s h => xc P qf Z C T c b (thnX (fun fr' h' => K (grabX fr' L) h') Q) (layX L s (junkX J fr)) h) 1000000 (grabX fr L) h = true := by
      unfold xc at hk
      split at hk
      · rw [ifX_eq] at hk
        split at hk
        · rename_i hs; exact ⟨_, _, _, hs, hk⟩
        · cases hk
      · cases hk
    obtain ⟨L, J, b, hs, hk⟩ := key
    simp only [Bool.and_eq_true] at hs
    have rounds : ∀ (N : Nat) (fr1 : List CV) (h1 : CH), h1.wp = h.wp → AgreeX (writes c) fr fr1 →
        xLoop (n := L.length) (fun K s h => xc P qf Z C T c b (thnX (fun fr' h' => K (grabX fr' L) h') Q) (layX L s (junkX J fr)) h) N (grabX fr1 L) h1 = true →
        ∃ e fr' h', Q e fr' h' = true ∧ h'.wp = h.wp ∧ AgreeX (writes c) fr fr' ∧ ∀ {H0 m frv a w} (r : Option Nat), Rel H0 m h1 w.heap → Vrels m fr1 frv → At a frv → Code.roundsIn (wideR r) 0 P c (PostX H0 m h1.wp e fr' h' a w) N a w := by
      intro N
      induction N with
      | zero => intro fr1 h1 _ _ hk; cases hk
      | succ N ihN =>
        intro fr1 h1 hw1 ha1 hk
        have hk' : xc P qf Z C T c b (thnX (fun fr' h' => xLoop (n := L.length) (fun K s h => xc P qf Z C T c b (thnX (fun fr' h' => K (grabX fr' L) h') Q) (layX L s (junkX J fr)) h) N (grabX fr' L) h') Q) (layX L (grabX fr1 L) (junkX J fr)) h1 = true := hk
        obtain ⟨e, fr2, h2, k1, k2, k3, k4⟩ := ih b _ _ h1 hk'
        have hag := (lay_agree (L := L) ha1 hs.2).trans k3
        rcases thnX_ok k1 with ⟨rfl, k1⟩ | ⟨hn, k1⟩
        · obtain ⟨e, fr3, h3, q1, q2, q3, q4⟩ := ihN fr2 h2 (k2.trans hw1) hag k1
          refine ⟨e, fr3, h3, q1, q2, q3, fun {H0 m frv a w} r hr hv ha => ?_⟩
          rw [roundsIn_succ]
          refine wpIn_mono (k4 r hr (lay_rel ha1 hs.1 hv) ha) fun e' a' w' hp => ?_
          obtain ⟨rfl, m', frv', p1, p2, p3, p4, p5, p6⟩ := hp
          have hq := q4 r p1 p3 p4
          rw [k2] at hq
          refine roundsIn_mono (fun e'' a'' w'' hp => ?_) _ _ _ hq
          exact hp.trans p2 p5 p6
        · refine ⟨e, fr2, h2, k1, k2.trans hw1, hag, fun {H0 m frv a w} r hr hv ha => ?_⟩
          rw [roundsIn_succ]
          refine wpIn_mono (k4 r hr (lay_rel ha1 hs.1 hv) ha) fun e' a' w' hp => ?_
          have hee := hp.1
          subst hee
          cases e' <;> first | exact absurd rfl hn | exact hp
    obtain ⟨e, fr', h', q1, q2, q3, q4⟩ := rounds 1000000 fr h rfl (AgreeX.refl _ _) hk
    exact ⟨e, fr', h', q1, q2, q3, fun {H0 m frv a w} r hr hv ha => wpIn_loop_rounds 1000000 (q4 r hr hv ha)⟩
  | scope c ih =>
    intro ann Q fr h hk
    have hk : xc P qf Z C T c ann (scpX Q) fr h = true := by cases ann <;> exact hk
    obtain ⟨e, fr', h', k1, k2, k3, k4⟩ := ih ann (scpX Q) fr h hk
    refine ⟨e, fr', h', ?_, k2, k3, fun {H0 m frv a w} r hr hv ha => ?_⟩
    · cases e <;> first | exact k1 | cases k1
    · refine wpIn_scope (wpIn_mono (k4 r hr hv ha) fun e' a' w' hp => ?_)
      obtain ⟨rfl, hp⟩ := hp
      cases e' <;> first | exact ⟨rfl, hp⟩ | cases k1
  | goto l => intro ann Q fr h hk; cases ann <;> cases hk
  | refuse why => intro ann Q fr h hk; cases ann <;> cases hk
  | rangeFunc g ps x y ihx ihy => intro ann Q fr h hk; cases ann <;> cases hk
where
  roundsIn_mono {P : Program} {r : Option Nat} {c : Code} {Q Q' : Exit → Act → World → Prop} (hq : ∀ e a w, Q e a w → Q' e a w) : ∀ (N : Nat) (a : Act) (w : World), Code.roundsIn (wideR r) 0 P c Q N a w → Code.roundsIn (wideR r) 0 P c Q' N a w
    | 0, _, _, h => h
    | N + 1, a, w, h => by
      rw [roundsIn_succ] at h ⊢
      refine wpIn_mono h fun e a' w' hp => ?_
      cases e <;> first | exact roundsIn_mono hq N _ _ hp | exact hq _ _ _ hp
end Go.Xc
