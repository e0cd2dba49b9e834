/- Xc, part L: code, run. -/
import Derived.Test.YtacfcgoighnioaaGreatXcKb
import Derived.LoopNIn
import Derived.RangeFuncLeaves
set_option linter.unusedVariables false
set_option linter.unusedSectionVars false
set_option linter.unusedSimpArgs false
namespace Go.Xc
open Go.Vc
variable [Sites]

/-! ### Code -/
def TupC : Nat → Type
  | 0 => Unit
  | n + 1 => CV × TupC n
def grabX (fr : List CV) : (L : List Nat) → TupC L.length
  | [] => ()
  | k :: L => (slotX fr k, grabX fr L)
def layX : (L : List Nat) → TupC L.length → List CV → List CV
  | [], _, fr => fr
  | k :: L, s, fr => (layX L s.2 fr).set k s.1
def junkX (J : List Nat) (fr : List CV) : List CV :=
  match J with
  | [] => fr
  | k :: J => (junkX J fr).set k .junk

theorem junkX_len (J : List Nat) (fr : List CV) : (junkX J fr).length = fr.length := by
  induction J with
  | nil => rfl
  | cons k J ih => simp [junkX, ih]
theorem junkX_get (J : List Nat) (fr : List CV) (k : Nat) : (junkX J fr)[k]? = if k ∈ J then (if k < fr.length then some .junk else none) else fr[k]? := by
  induction J with
  | nil => simp [junkX]
  | cons j J ih =>
    simp only [junkX, List.getElem?_set, junkX_len, ih, List.mem_cons]
    by_cases h1 : j = k
    · subst h1; simp
    · have h2 : ¬ k = j := fun e => h1 e.symm
      simp [h1, h2]
theorem layX_get (fr1 : List CV) : ∀ (L : List Nat) (fr : List CV) (k : Nat), (layX L (grabX fr1 L) fr)[k]? = if k ∈ L then (if k < fr.length then some (slotX fr1 k) else none) else fr[k]?
  | [], fr, k => by simp [layX]
  | j :: L, fr, k => by
    have hlen : ∀ (L : List Nat) (s : TupC L.length) (fr : List CV), (layX L s fr).length = fr.length := by
      intro L
      induction L with
      | nil => intro s fr; rfl
      | cons a L ih => intro s fr; simp [layX, ih]
    simp only [layX, grabX, List.getElem?_set, hlen, layX_get fr1 L fr k, List.mem_cons]
    by_cases h1 : j = k
    · subst h1; simp
    · have h2 : ¬ k = j := fun e => h1 e.symm
      simp [h1, h2]
/-- Behind code that writes W alone the frame is known as before, but for L, known anew, and J, no longer known. -/
theorem lay_rel {W L J : List Nat} {fr fr1 : List CV} {m : M} {frv : Fr} (h : AgreeX W fr fr1) (hs : subB W (L ++ J) = true) (hv : Vrels m fr1 frv) : Vrels m (layX L (grabX fr1 L) (junkX J fr)) frv := by
  have hl := Vrels_len hv
  have hlen : (layX L (grabX fr1 L) (junkX J fr)).length = fr.length := by
    have : ∀ (L : List Nat) (s : TupC L.length) (fr : List CV), (layX L s fr).length = fr.length := by
      intro L
      induction L with
      | nil => intro s fr; rfl
      | cons a L ih => intro s fr; simp [layX, ih]
    rw [this, junkX_len]
  refine Vrels_of (by rw [hlen, ← hl, h.1]) fun k x hk => ?_
  rw [layX_get, junkX_len, junkX_get] at hk
  by_cases hL : k ∈ L
  · rw [if_pos hL] at hk
    split at hk
    · rename_i hlt
      injection hk with hk; subst hk
      have h2 := slot_rel hv k
      have : k < frv.length := by rw [← hl, h.1]; exact hlt
      refine ⟨slot frv k, ?_, h2⟩
      simp [slot, this]
    · cases hk
  · rw [if_neg hL] at hk
    by_cases hJ : k ∈ J
    · rw [if_pos hJ] at hk
      split at hk
      · rename_i hlt
        injection hk with hk; subst hk
        have : k < frv.length := by rw [← hl, h.1]; exact hlt
        exact ⟨frv[k], List.getElem?_eq_getElem this, trivial⟩
      · cases hk
    · rw [if_neg hJ] at hk
      have : k ∉ W := fun hm => by
        have := subB_spec hs k hm
        simp [hL, hJ] at this
      rw [← h.2 k this] at hk
      exact Vrels_get hv hk
theorem lay_agree {W L J : List Nat} {fr fr1 : List CV} (h : AgreeX W fr fr1) (hJ : subB J W = true) : AgreeX W fr (layX L (grabX fr1 L) (junkX J fr)) := by
  have hlen : (layX L (grabX fr1 L) (junkX J fr)).length = fr.length := by
    have : ∀ (L : List Nat) (s : TupC L.length) (fr : List CV), (layX L s fr).length = fr.length := by
      intro L
      induction L with
      | nil => intro s fr; rfl
      | cons a L ih => intro s fr; simp [layX, ih]
    rw [this, junkX_len]
  refine ⟨hlen, fun k hk => ?_⟩
  rw [layX_get, junkX_len, junkX_get]
  by_cases hL : k ∈ L
  · rw [if_pos hL]
    have h1 := h.2 k hk
    by_cases hlt : k < fr.length
    · rw [if_pos hlt]
      have hlt1 : k < fr1.length := by rw [h.1]; exact hlt
      rw [← h1]
      simp [slotX, hlt1]
    · rw [if_neg hlt, List.getElem?_eq_none (by omega)]
  · rw [if_neg hL]
    have : k ∉ J := fun hm => hk (subB_spec hJ k hm)
    rw [if_neg this]

abbrev QX := Exit → List CV → CH → Bool
abbrev thnX (K : List CV → CH → Bool) (Q : QX) : QX
  | .normal, fr, h => K fr h
  | e, fr, h => Q e fr h
noncomputable abbrev isXX (k id : Nat) (A B : Bool) : Bool := Bool.rec B A (Nat.beq k id)
noncomputable abbrev blkX (id : Nat) (Q : QX) : QX
  | .exit k, fr, h => isXX k id (Q .normal fr h) (Q (.exit k) fr h)
  | e, fr, h => Q e fr h
abbrev scpX (Q : QX) : QX
  | .goto _, _, _ => false
  | e, fr, h => Q e fr h
noncomputable def xJoin {n : Nat} (rest : TupC n → CH → Bool) (first : (TupC n → CH → Bool) → Bool) : Bool := first rest
noncomputable def xLoop {n : Nat} (body : (TupC n → CH → Bool) → TupC n → CH → Bool) (N : Nat) : TupC n → CH → Bool :=
  Nat.rec (motive := fun _ => TupC n → CH → Bool) (fun _ _ => false) (fun _ ih s h => body ih s h) N

abbrev xJmp (j : Option (Option Nat)) (A B : Bool) (D : Nat → Bool) : Bool :=
  match j with
  | none => A
  | some none => B
  | some (some id) => D id
/-- A loop over a function: its record is laid, the function called with what asks for rounds; then the jump that is pending. -/
noncomputable def xRange (C : List (Nat × Ex)) (n : Nat) (fr : List CV) (g : CV) (h : CH) (K : Option (Option Nat) → CH → Bool) : Bool :=
  match g with
  | .fn f a c => xNew (.lp 0 none n fr) h fun b h1 => xCallF C f ((a ++ [.yv b]) ++ c) h1 fun _ h2 =>
      (match h2.get b with
      | some (.lp st j n' fr') => Bool.rec (xSet b (.lp 3 j n' fr') h2 fun h3 => K j h3) false (Nat.beq st 1)
      | _ => false)
  | _ => false
/-- The loops over functions in code are those of the numbers that it is annotated by; top: not within a round. -/
def SitesIn (top : Bool) : Code → Ann → Prop
  | .seq a b, ann => (match ann with
    | .join _ _ l r => SitesIn top a l ∧ SitesIn top b r
    | .seq l r => SitesIn top a l ∧ SitesIn top b r
    | _ => SitesIn top a .nil ∧ SitesIn top b .nil)
  | .cond _ a b, ann => (match ann with
    | .cond l r => SitesIn top a l ∧ SitesIn top b r
    | _ => SitesIn top a .nil ∧ SitesIn top b .nil)
  | .block _ c, ann => SitesIn top c ann
  | .scope c, ann => SitesIn top c ann
  | .loop c, ann => (match ann with
    | .loop _ _ b => SitesIn top c b
    | _ => True)
  | .rangeFunc _ ps x y, ann => (match ann with
    | .loop [n] _ _ => top = true ∧ Sites.ok n ps x y
    | _ => True)
  | _, _ => True

noncomputable def xc (P : Program) (qf : FuncId → Bool) (Z : List (Nat × CV)) (C : List (Nat × Ex)) (T : List (Nat × Plan)) : Code → Ann → QX → List CV → CH → Bool
  | .skip, _, Q, fr, h => Q .normal fr h
  | .label _, _, Q, fr, h => Q .normal fr h
  | .ret, _, Q, fr, h => Q .ret fr h
  | .exit id, _, Q, fr, h => Q (.exit id) fr h
  | .region id ops dr, _, Q, fr, h => xRegP P qf Z C (look T id) ops dr fr h fun fr' h' => Q .normal fr' h'
  | .seq a b, ann, Q, fr, h =>
    match ann with
    | .join L J l r =>
      ifX (subB (writes a) (L ++ J) && subB J (writes a))
        (xJoin (fun s h => xc P qf Z C T b r Q (layX L s (junkX J fr)) h) fun K => xc P qf Z C T a l (thnX (fun fr' h' => K (grabX fr' L) h') Q) fr h)
        false
    | .seq l r => xc P qf Z C T a l (thnX (xc P qf Z C T b r Q) Q) fr h
    | _ => xc P qf Z C T a .nil (thnX (xc P qf Z C T b .nil Q) Q) fr h
  | .cond c a b, ann, Q, fr, h =>
    match ann with
    | .cond l r => xIte (evX fr c) (xc P qf Z C T a l Q fr h) (xc P qf Z C T b r Q fr h)
    | _ => xIte (evX fr c) (xc P qf Z C T a .nil Q fr h) (xc P qf Z C T b .nil Q fr h)
  | .block id c, ann, Q, fr, h => xc P qf Z C T c ann (blkX id Q) fr h
  | .scope c, ann, Q, fr, h => xc P qf Z C T c ann (scpX Q) fr h
  | .loop c, ann, Q, fr, h =>
    match ann with
    | .loop L J b =>
      ifX (subB (writes c) (L ++ J) && subB J (writes c))
        (xLoop (n := L.length) (fun K s h => xc P qf Z C T c b (thnX (fun fr' h' => K (grabX fr' L) h') Q) (layX L s (junkX J fr)) h) 1000000 (grabX fr L) h)
        false
    | _ => false
  | .rangeFunc g _ _ _, ann, Q, fr, h =>
    match ann with
    | .loop [n] _ _ => xRange C n fr (evX fr g) h fun j h' => xJmp j (Q .normal fr h') (Q .ret fr h') fun id => Q (.exit id) fr h'
    | _ => false
  | _, _, _, _, _ => false

theorem PostX.trans {tp : Bool} {H0 : Hp} {m m1 : M} {wp : Nat} {e : Exit} {fr' : List CV} {h' : CH} {a a1 : Act} {w w1 : World} {e' : Exit} {a' : Act} {w' : World} (hs : Stp wp m w.heap m1 w1.heap) (hd : Dfs tp m1 w.heap.size w1.heap a1.defers a.defers) (hsm : Sm w w1) (h : PostX tp H0 m1 wp e fr' h' a1 w1 e' a' w') : PostX tp H0 m wp e fr' h' a w e' a' w' := by
  obtain ⟨h1, m', frv', h2, h3, h4, h5, h6, h7⟩ := h
  exact ⟨h1, m', frv', h2, hs.trans h3, h4, h5, hd.trans h3 hs.kp.le h6, hsm.trans h7⟩

theorem seq_ok {P : Program} {top : Bool} {x y : Code} {fr fr1 fr1' fr2 : List CV} {h h1 h2 : CH} {e : Exit} (hw : h1.wp = h.wp) (s1 : SimC P top x fr h .normal fr1 h1) (hfr : ∀ {m frv}, Vrels m fr1 frv → Vrels m fr1' frv) (s2 : SimC P top y fr1' h1 e fr2 h2) : SimC P top (.seq x y) fr h e fr2 h2 := by
  intro H0 m frv a w r ht hr hv ha
  refine wpIn_seq (wpIn_mono (s1 r ht hr hv ha) fun e' a' w' hp => ?_)
  obtain ⟨rfl, m', frv', k1, k2, k3, k4, k5, k6⟩ := hp
  refine wpIn_mono (s2 r ht k1 (hfr k3) k4) fun e'' a'' w'' hp => ?_
  rw [hw] at hp
  exact hp.trans k2 k5 k6
theorem seq_exit {P : Program} {top : Bool} {x y : Code} {fr fr1 : List CV} {h h1 : CH} {e : Exit} (hn : e ≠ .normal) (s1 : SimC P top x fr h e fr1 h1) : SimC P top (.seq x y) fr h e fr1 h1 := by
  intro H0 m frv a w r ht hr hv ha
  refine wpIn_seq (wpIn_mono (s1 r ht hr hv ha) fun e' a' w' hp => ?_)
  have he := hp.1
  subst he
  cases e' <;> first | exact absurd rfl hn | exact hp

theorem thnX_ok {K : List CV → CH → Bool} {Q : QX} {e : Exit} {fr : List CV} {h : CH} (hq : thnX K Q e fr h = true) : (e = .normal ∧ K fr h = true) ∨ (e ≠ .normal ∧ Q e fr h = true) := by
  cases e <;> first | exact .inl ⟨rfl, hq⟩ | exact .inr ⟨by simp, hq⟩

/-- A LOOP OVER A FUNCTION, RUN. -/
theorem range_ok {P : Program} {top : Bool} {Z : List (Nat × CV)} {C : List (Nat × Ex)} (he : EnvOk P Z C) {n : Nat} {g : Operand} {ps : Array Tmp} {x y : Code} (htop : top = true) (hok : Sites.ok n ps x y) {Q : QX} {fr : List CV} {h : CH} (hk : xRange C n fr (evX fr g) h (fun j h' => xJmp j (Q .normal fr h') (Q .ret fr h') fun id => Q (.exit id) fr h') = true) :
    ∃ e h', Q e fr h' = true ∧ h'.wp = h.wp ∧ SimC P top (.rangeFunc g ps x y) fr h e fr h' := by
  unfold xRange at hk
  split at hk <;> try (cases hk; done)
  rename_i f fa fc hg
  obtain ⟨h1, k1, w1, hnew⟩ := xNew_ok hk
  clear hk
  obtain ⟨hen, z, h2, k2, w2, s2⟩ := xCallF_ok he k1
  clear k1
  split at k2 <;> try (cases k2; done)
  rename_i st j n' fr' hlp
  cases hst : Nat.beq st 1 with
  | true => rw [hst] at k2; cases k2
  | false =>
    rw [hst] at k2
    obtain ⟨h3, k3, w3, hset⟩ := xSet_ok k2
    clear k2
    have hstne : stOf st ≠ .busy := by
      match st, hst with
      | 0, _ => simp [stOf]
      | 1, hst => cases hst
      | 2, _ => simp [stOf]
      | k + 3, _ => simp [stOf]
    have out : ∃ e, Q e fr h3 = true ∧ ((j = none ∧ e = .normal) ∨ (j = some none ∧ e = .ret) ∨ ∃ id, j = some (some id) ∧ e = .exit id) := by
      match j, k3 with
      | none, k3 => exact ⟨.normal, k3, .inl ⟨rfl, rfl⟩⟩
      | some none, k3 => exact ⟨.ret, k3, .inr (.inl ⟨rfl, rfl⟩)⟩
      | some (some id), k3 => exact ⟨.exit id, k3, .inr (.inr ⟨id, rfl, rfl⟩)⟩
    obtain ⟨e, hq, hje⟩ := out
    refine ⟨e, h3, hq, (w3.trans w2).trans w1, ?_⟩
    intro H0 m frv a w r ht hr hv ha
    have hrn := ht htop
    subst hrn
    have hgr := ev_rel hv g
    rw [hg] at hgr
    obtain ⟨va, vc, hgv, ra, rc⟩ := hgr
    have hga : a.eval g = .func (.func f) va vc := by rw [ha.ev]; exact hgv
    refine wpIn_rangeFunc fun fn _ => ?_
    let rec0 : Loop := { state := .ready, pending := none, fn := fn, tmps := a.tmps, params := ps, assign := x, body := y, defers := w.heap.size }
    let Hd : Hp := w.heap.push (.deferred (some []))
    let H1 : Hp := Hd.push (.loop rec0)
    let w1' : World := { w with heap := H1 }
    have hsd : Hd.size = w.heap.size + 1 := by simp [Hd]
    have hxd : Ext w.heap Hd := Ext.push _ _
    have hfr : Vrels m fr rec0.tmps.toList := by
      show Vrels m fr a.tmps.toList
      rw [show a.tmps = frv.toArray from ha]; exact hv
    obtain ⟨r1, r2, r3⟩ := hnew (z := 0) (O := .loop rec0) (hr.ext' hxd) ⟨rec0, rfl, hok, hfr⟩
    have hsz1 : H1.size = w.heap.size + 2 := by simp [H1, Hd]
    have hD1 : H1[w.heap.size]? = some (.deferred (some [])) := by
      simp only [H1, Hd]
      rw [Array.getElem?_push, if_neg (by simp), Array.getElem?_push, if_pos rfl]
    have hDm : ∀ (k : Nat) (e : Nat × Nat), (m ++ [(Hd.size, 0)])[k]? = some e → e.1 ≠ w.heap.size := fun k e hk => by
      rw [List.getElem?_append] at hk
      split at hk
      · have := hr.low k e hk; omega
      · cases hkk : k - m.length with
        | zero => rw [hkk] at hk; simp at hk; subst hk; simp [hsd]
        | succ q => rw [hkk] at hk; simp at hk
    have hyv : Vrels (m ++ [(Hd.size, 0)]) ((fa ++ [.yv h.n]) ++ fc) ((va.toList ++ [Value.func (.yield (w.heap.size + 1)) #[] #[]]) ++ vc.toList) := by
      refine Vrels_append (Vrels_append (Vrels.mono r2.pre fa ra) ⟨_, [], rfl, ⟨_, r3, ?_⟩, rfl⟩) (Vrels.mono r2.pre fc rc)
      rw [hsd]
    have hcall := s2 (K := fun _ H5 => ∃ m' Dm : M, Dm = m ∧ Rel H0 m' h2 H5 ∧ Stp h.wp m w.heap m' H5 ∧ H5[w.heap.size]? = some (.deferred (some [])) ∧ (∀ (k : Nat) (e : Nat × Nat), m'[k]? = some e → e.1 ≠ w.heap.size) ∧ m'[h.n]? = some (w.heap.size + 1, 0)) r1 hyv (fun m' H5 v q1 q2 q3 => by
      rw [w1] at q2
      refine ⟨m', m, rfl, q1, ((Stp.ext hxd).trans r2).trans q2, ?_, fun k e hk he' => ?_, by rw [← hsd]; exact q2.pre _ _ r3⟩
      · rw [q2.kp.same w.heap.size (by show w.heap.size < H1.size; omega) fun ⟨k, e, h4, _, h5⟩ => hDm k e h4 h5]
        exact hD1
      · rcases q2.new k e hk with h6 | h6 | h6
        · exact hDm k e h6 he'
        · have : H1.size ≤ e.1 := h6
          omega
        · obtain ⟨i, d, h8, _, h9⟩ := h6
          exact hDm i d h8 (h9.trans he'))
    refine ⟨w.heap.size + 1, [markD w.heap.size], w1', { target := .fn (.func f) vc, args := va ++ #[.func (.yield (w.heap.size + 1)) #[] #[]] }, w1', f, (va ++ #[.func (.yield (w.heap.size + 1)) #[] #[]]) ++ vc, w1', ?_, ?_, fun _ _ => trivial, ?_, fun h => by simp [wideR, Fence.wide] at h, ?_⟩
    · simp [Instr.enterLoop, newObj, wideR, Sem.run, markD, w1', H1, Hd, rec0]
      rfl
    · unfold resolve
      simp only [rangeCall, hga]
      simp [Deferred.ofValue, Act.eval]
    · have := enter_ok hen ((va ++ #[.func (.yield (w.heap.size + 1)) #[] #[]]) ++ vc) w1'
      simpa [invoke] using this
    · have e1 : ((va.toList ++ [Value.func (.yield (w.heap.size + 1)) #[] #[]]) ++ vc.toList).toArray = (va ++ #[.func (.yield (w.heap.size + 1)) #[] #[]]) ++ vc := by simp
      rw [e1] at hcall
      refine CallsIn.mono (hcall w1' rfl) fun e5 w5 ⟨v, hev, hpost, hsm⟩ => ?_
      subst hev
      obtain ⟨m', _, _, q1, q2, q3, q4, q5⟩ := hpost
      obtain ⟨e6, O, o1, o2, rec, rfl, o3, o4⟩ := q1.obj h.n _ hlp
      rw [q5] at o1; injection o1 with o1; subst o1
      have hlpj : LpAt rec (w.heap.size + 1) (stOf st) j w5.heap := o2
      refine ⟨_, _, endLoop_ok hstne hlpj, ?_⟩
      obtain ⟨t1, t2⟩ := hset (O := .loop { rec with state := .exhausted, pending := jmpCode j }) q1 hlp q5 ⟨rec, rfl, o3, o4⟩
      have hset' : setLp rec (w.heap.size + 1) .exhausted j w5.heap = w5.heap.setIfInBounds (w.heap.size + 1) (.loop { rec with state := .exhausted, pending := jmpCode j }) := rfl
      have hsm' : Sm w { w5 with heap := setLp rec (w.heap.size + 1) .exhausted j w5.heap } := ⟨hsm.os, hsm.out, hsm.tape⟩
      have fin : PostX top H0 m h.wp e fr h3 a w e { a with defers := [markD w.heap.size] ++ a.defers } { w5 with heap := setLp rec (w.heap.size + 1) .exhausted j w5.heap } := by
        rw [w2, w1] at t2
        refine ⟨rfl, m', frv, t1, q2.trans t2, Vrels.mono (q2.pre) fr hv, ha, ⟨[w.heap.size], rfl, ⟨by simp, fun ht => by rw [htop] at ht; cases ht⟩, fun D hD => ?_⟩, hsm'⟩
        rw [List.mem_singleton] at hD
        subst hD
        refine ⟨?_, Nat.le_refl _, q4⟩
        show (w5.heap.setIfInBounds (w.heap.size + 1) _)[w.heap.size]? = _
        rw [get_set_other (by omega)]
        exact q3
      rcases hje with ⟨rfl, rfl⟩ | ⟨rfl, rfl⟩ | ⟨id, rfl, rfl⟩
      · exact fin
      · exact wpIn_ret fin
      · exact wpIn_exit fin

theorem xc_ok {P : Program} {top : Bool} {qf : FuncId → Bool} {Z : List (Nat × CV)} {C : List (Nat × Ex)} {T : List (Nat × Plan)} (he : EnvOk P Z C) : ∀ (c : Code) (ann : Ann) (Q : QX) (fr : List CV) (h : CH), xc P qf Z C T c ann Q fr h = true → SitesIn top c ann →
    ∃ e fr' h', Q e fr' h' = true ∧ h'.wp = h.wp ∧ AgreeX (writes c) fr fr' ∧ SimC P top c fr h e fr' h' := by
  intro c
  have here : ∀ {c : Code} {e : Exit} {fr : List CV} {h : CH}, (∀ {r : Option Nat} {Q : Exit → Act → World → Prop} {a w}, Q e a w → c.wpIn (wideR r) 0 P Q a w) → SimC P top c fr h e fr h := by
    intro c e fr h hc H0 m frv a w r ht hr hv ha
    exact hc ⟨rfl, m, frv, hr, Stp.refl _ _ _, hv, ha, Dfs.refl _ _ _ _ _, Sm.refl w⟩
  induction c with
  | skip => intro ann Q fr h hk hS; exact ⟨.normal, fr, h, by cases ann <;> exact hk, rfl, AgreeX.refl _ _, here fun hq => wpIn_skip hq⟩
  | label l => intro ann Q fr h hk hS; exact ⟨.normal, fr, h, by cases ann <;> exact hk, rfl, AgreeX.refl _ _, here fun hq => wpIn_label hq⟩
  | ret => intro ann Q fr h hk hS; exact ⟨.ret, fr, h, by cases ann <;> exact hk, rfl, AgreeX.refl _ _, here fun hq => wpIn_ret hq⟩
  | exit id => intro ann Q fr h hk hS; exact ⟨.exit id, fr, h, by cases ann <;> exact hk, rfl, AgreeX.refl _ _, here fun hq => wpIn_exit hq⟩
  | region id ops dr =>
    intro ann Q fr h hk hS
    have hk : xRegP P qf Z C (look T id) ops dr fr h (fun fr' h' => Q .normal fr' h') = true := by cases ann <;> exact hk
    obtain ⟨fr', h', k1, k2, k3, k4⟩ := regP_ok (id := id) he hk
    exact ⟨.normal, fr', h', k1, k2, k3, k4⟩
  | block id c ih =>
    intro ann Q fr h hk hS
    have hk : xc P qf Z C T c ann (blkX id Q) fr h = true := by cases ann <;> exact hk
    obtain ⟨e, fr', h', k1, k2, k3, k4⟩ := ih ann (blkX id Q) fr h hk (by cases ann <;> exact hS)
    by_cases hex : e = .exit id
    · subst hex
      have k1 : isXX id id (Q .normal fr' h') (Q (.exit id) fr' h') = true := k1
      unfold isXX at k1
      rw [Nat.beq_refl] at k1
      refine ⟨.normal, fr', h', k1, k2, k3, fun {H0 m frv a w} r ht hr hv ha => ?_⟩
      refine wpIn_block (wpIn_mono (k4 r ht hr hv ha) fun e' a' w' hp => ?_)
      obtain ⟨rfl, hp⟩ := hp
      show (if id = id then _ else _)
      rw [if_pos rfl]
      exact ⟨rfl, hp⟩
    · refine ⟨e, fr', h', ?_, k2, k3, fun {H0 m frv a w} r ht hr hv ha => ?_⟩
      · cases e with
        | exit k =>
          have k1 : isXX k id (Q .normal fr' h') (Q (.exit k) fr' h') = true := k1
          have hne : Nat.beq k id = false := by
            cases hb : Nat.beq k id with
            | false => rfl
            | true => exact absurd (by rw [Nat.eq_of_beq_eq_true hb]) hex
          unfold isXX at k1
          rw [hne] at k1
          exact k1
        | normal => exact k1
        | goto l => exact k1
        | ret => exact k1
        | panic c => exact k1
        | outgrown => exact k1
      · refine wpIn_block (wpIn_mono (k4 r ht hr hv ha) fun e' a' w' hp => ?_)
        obtain ⟨rfl, hp⟩ := hp
        cases e' with
        | exit k =>
          have hne : ¬ k = id := fun hkid => hex (by rw [hkid])
          show (if k = id then _ else _)
          rw [if_neg hne]
          exact ⟨rfl, hp⟩
        | normal => exact ⟨rfl, hp⟩
        | goto l => exact ⟨rfl, hp⟩
        | ret => exact ⟨rfl, hp⟩
        | panic c => exact ⟨rfl, hp⟩
        | outgrown => exact ⟨rfl, hp⟩
  | cond c x y ihx ihy =>
    intro ann Q fr h hk hS
    have hk : ∃ l r', xIte (evX fr c) (xc P qf Z C T x l Q fr h) (xc P qf Z C T y r' Q fr h) = true ∧ SitesIn top x l ∧ SitesIn top y r' := by cases ann <;> exact ⟨_, _, hk, hS.1, hS.2⟩
    obtain ⟨l, r', hk, hS1, hS2⟩ := hk
    unfold xIte at hk
    split at hk
    · rename_i hc
      obtain ⟨e, fr', h', k1, k2, k3, k4⟩ := ihx l Q fr h hk hS1
      refine ⟨e, fr', h', k1, k2, k3.mono fun k hk => List.mem_append_left _ hk, fun {H0 m frv a w} r ht hr hv ha => ?_⟩
      have hcv := ev_rel hv c
      rw [hc] at hcv
      exact wpIn_cond_true (by rw [ha.ev]; exact hcv) (k4 r ht hr hv ha)
    · rename_i hc
      obtain ⟨e, fr', h', k1, k2, k3, k4⟩ := ihy r' Q fr h hk hS2
      refine ⟨e, fr', h', k1, k2, k3.mono fun k hk => List.mem_append_right _ hk, fun {H0 m frv a w} r ht hr hv ha => ?_⟩
      have hcv := ev_rel hv c
      rw [hc] at hcv
      exact wpIn_cond_false (by rw [ha.ev]; exact hcv) (k4 r ht hr hv ha)
    · cases hk
  | seq x y ihx ihy =>
    intro ann Q fr h hk hS
    have plain : ∀ l r', xc P qf Z C T x l (thnX (xc P qf Z C T y r' Q) Q) fr h = true → SitesIn top x l → SitesIn top y r' → ∃ e fr' h', Q e fr' h' = true ∧ h'.wp = h.wp ∧ AgreeX (writes (.seq x y)) fr fr' ∧ SimC P top (.seq x y) fr h e fr' h' := by
      intro l r' hk hS1 hS2
      obtain ⟨e, fr1, h1, k1, k2, k3, k4⟩ := ihx l _ fr h hk hS1
      rcases thnX_ok k1 with ⟨rfl, k1⟩ | ⟨hn, k1⟩
      · obtain ⟨e, fr2, h2, q1, q2, q3, q4⟩ := ihy r' Q fr1 h1 k1 hS2
        exact ⟨e, fr2, h2, q1, q2.trans k2, (k3.mono fun k hk => List.mem_append_left _ hk).trans (q3.mono fun k hk => List.mem_append_right _ hk), seq_ok k2 k4 (fun hv => hv) q4⟩
      · exact ⟨e, fr1, h1, k1, k2, k3.mono fun k hk => List.mem_append_left _ hk, seq_exit hn k4⟩
    have key : (∃ L J l r', (subB (writes x) (L ++ J) && subB J (writes x)) = true ∧ xc P qf Z C T x l (thnX (fun fr' h' => xc P qf Z C T y r' Q (layX L (grabX fr' L) (junkX J fr)) h') Q) fr h = true ∧ SitesIn top x l ∧ SitesIn top y r') ∨ ∃ l r', xc P qf Z C T x l (thnX (xc P qf Z C T y r' Q) Q) fr h = true ∧ SitesIn top x l ∧ SitesIn top y r' := by
      cases ann with
      | join L J l r' =>
        unfold xc at hk
        simp only at hk
        rw [ifX_eq] at hk
        split at hk
        · rename_i hs; exact .inl ⟨_, _, _, _, hs, hk, hS.1, hS.2⟩
        · cases hk
      | seq l r' => unfold xc at hk; exact .inr ⟨_, _, hk, hS.1, hS.2⟩
      | nil => unfold xc at hk; exact .inr ⟨_, _, hk, hS.1, hS.2⟩
      | cond l r' => unfold xc at hk; exact .inr ⟨_, _, hk, hS.1, hS.2⟩
      | loop L J b => unfold xc at hk; exact .inr ⟨_, _, hk, hS.1, hS.2⟩
    rcases key with ⟨L, J, l, r', hs, hk, hS1, hS2⟩ | ⟨l, r', hk, hS1, hS2⟩
    · simp only [Bool.and_eq_true] at hs
      obtain ⟨e, fr1, h1, k1, k2, k3, k4⟩ := ihx l _ fr h hk hS1
      rcases thnX_ok k1 with ⟨rfl, k1⟩ | ⟨hn, k1⟩
      · obtain ⟨e, fr2, h2, q1, q2, q3, q4⟩ := ihy r' Q _ h1 k1 hS2
        exact ⟨e, fr2, h2, q1, q2.trans k2, ((lay_agree k3 hs.2).mono fun k hk => List.mem_append_left _ hk).trans (q3.mono fun k hk => List.mem_append_right _ hk), seq_ok k2 k4 (fun hv => lay_rel k3 hs.1 hv) q4⟩
      · exact ⟨e, fr1, h1, k1, k2, k3.mono fun k hk => List.mem_append_left _ hk, seq_exit hn k4⟩
    · exact plain l r' hk hS1 hS2
  | loop c ih =>
    intro ann Q fr h hk hS
    have key : ∃ L J b, (subB (writes c) (L ++ J) && subB J (writes c)) = true ∧ xLoop (n := L.length) (fun K s h => xc P qf Z C T c b (thnX (fun fr' h' => K (grabX fr' L) h') Q) (layX L s (junkX J fr)) h) 1000000 (grabX fr L) h = true ∧ SitesIn top c b := by
      cases ann with
      | loop L J b =>
        unfold xc at hk
        simp only at hk
        rw [ifX_eq] at hk
        split at hk
        · rename_i hs; exact ⟨_, _, _, hs, hk, hS⟩
        · cases hk
      | nil => cases hk
      | seq l r => cases hk
      | join L J l r => cases hk
      | cond l r => cases hk
    obtain ⟨L, J, b, hs, hk, hS1⟩ := key
    simp only [Bool.and_eq_true] at hs
    have rounds : ∀ (N : Nat) (fr1 : List CV) (h1 : CH), h1.wp = h.wp → AgreeX (writes c) fr fr1 →
        xLoop (n := L.length) (fun K s h => xc P qf Z C T c b (thnX (fun fr' h' => K (grabX fr' L) h') Q) (layX L s (junkX J fr)) h) N (grabX fr1 L) h1 = true →
        ∃ e fr' h', Q e fr' h' = true ∧ h'.wp = h.wp ∧ AgreeX (writes c) fr fr' ∧ ∀ {H0 m frv a w} (r : Option Nat), (top = true → r = none) → Rel H0 m h1 w.heap → Vrels m fr1 frv → At a frv → Code.roundsIn (wideR r) 0 P c (PostX top H0 m h1.wp e fr' h' a w) N a w := by
      intro N
      induction N with
      | zero => intro fr1 h1 _ _ hk; cases hk
      | succ N ihN =>
        intro fr1 h1 hw1 ha1 hk
        have hk' : xc P qf Z C T c b (thnX (fun fr' h' => xLoop (n := L.length) (fun K s h => xc P qf Z C T c b (thnX (fun fr' h' => K (grabX fr' L) h') Q) (layX L s (junkX J fr)) h) N (grabX fr' L) h') Q) (layX L (grabX fr1 L) (junkX J fr)) h1 = true := hk
        obtain ⟨e, fr2, h2, k1, k2, k3, k4⟩ := ih b _ _ h1 hk' hS1
        have hag := (lay_agree (L := L) ha1 hs.2).trans k3
        rcases thnX_ok k1 with ⟨rfl, k1⟩ | ⟨hn, k1⟩
        · obtain ⟨e, fr3, h3, q1, q2, q3, q4⟩ := ihN fr2 h2 (k2.trans hw1) hag k1
          refine ⟨e, fr3, h3, q1, q2, q3, fun {H0 m frv a w} r ht hr hv ha => ?_⟩
          rw [roundsIn_succ]
          refine wpIn_mono (k4 r ht hr (lay_rel ha1 hs.1 hv) ha) fun e' a' w' hp => ?_
          obtain ⟨rfl, m', frv', p1, p2, p3, p4, p5, p6⟩ := hp
          have hq := q4 r ht p1 p3 p4
          rw [k2] at hq
          refine roundsIn_mono (fun e'' a'' w'' hp => ?_) _ _ _ hq
          exact hp.trans p2 p5 p6
        · refine ⟨e, fr2, h2, k1, k2.trans hw1, hag, fun {H0 m frv a w} r ht hr hv ha => ?_⟩
          rw [roundsIn_succ]
          refine wpIn_mono (k4 r ht hr (lay_rel ha1 hs.1 hv) ha) fun e' a' w' hp => ?_
          have hee := hp.1
          subst hee
          cases e' <;> first | exact absurd rfl hn | exact hp
    obtain ⟨e, fr', h', q1, q2, q3, q4⟩ := rounds 1000000 fr h rfl (AgreeX.refl _ _) hk
    exact ⟨e, fr', h', q1, q2, q3, fun {H0 m frv a w} r ht hr hv ha => wpIn_loop_rounds 1000000 (q4 r ht hr hv ha)⟩
  | scope c ih =>
    intro ann Q fr h hk hS
    have hk : xc P qf Z C T c ann (scpX Q) fr h = true := by cases ann <;> exact hk
    obtain ⟨e, fr', h', k1, k2, k3, k4⟩ := ih ann (scpX Q) fr h hk (by cases ann <;> exact hS)
    refine ⟨e, fr', h', ?_, k2, k3, fun {H0 m frv a w} r ht hr hv ha => ?_⟩
    · cases e <;> first | exact k1 | cases k1
    · refine wpIn_scope (wpIn_mono (k4 r ht hr hv ha) fun e' a' w' hp => ?_)
      obtain ⟨rfl, hp⟩ := hp
      cases e' <;> first | exact ⟨rfl, hp⟩ | cases k1
  | goto l => intro ann Q fr h hk hS; cases ann <;> cases hk
  | refuse why => intro ann Q fr h hk hS; cases ann <;> cases hk
  | rangeFunc g ps x y ihx ihy =>
    intro ann Q fr h hk hS
    have key : ∃ n, xRange C n fr (evX fr g) h (fun j h' => xJmp j (Q .normal fr h') (Q .ret fr h') fun id => Q (.exit id) fr h') = true ∧ top = true ∧ Sites.ok n ps x y := by
      cases ann with
      | loop L J b =>
        match L, hk, hS with
        | [n], hk, hS => exact ⟨n, hk, hS⟩
      | nil => cases hk
      | seq l r => cases hk
      | join L J l r => cases hk
      | cond l r => cases hk
    obtain ⟨n, hk, htop, hok⟩ := key
    obtain ⟨e, h', k1, k2, k3⟩ := range_ok he htop hok hk
    exact ⟨e, fr, h', k1, k2, AgreeX.refl _ _, k3⟩
where
  roundsIn_mono {P : Program} {r : Option Nat} {c : Code} {Q Q' : Exit → Act → World → Prop} (hq : ∀ e a w, Q e a w → Q' e a w) : ∀ (N : Nat) (a : Act) (w : World), Code.roundsIn (wideR r) 0 P c Q N a w → Code.roundsIn (wideR r) 0 P c Q' N a w
    | 0, _, _, h => h
    | N + 1, a, w, h => by
      rw [roundsIn_succ] at h ⊢
      refine wpIn_mono h fun e a' w' hp => ?_
      cases e <;> first | exact roundsIn_mono hq N _ _ hp | exact hq _ _ _ hp
end Go.Xc
