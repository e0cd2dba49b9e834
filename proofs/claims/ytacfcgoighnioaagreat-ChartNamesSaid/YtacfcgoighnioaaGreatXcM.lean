/- Xc, part M: a function's run is worth a contract. -/
import Derived.Test.YtacfcgoighnioaaGreatXcL
set_option linter.unusedVariables false
set_option linter.unusedSectionVars false
set_option linter.unusedSimpArgs false
namespace Go.Xc
open Go.Vc
variable [Sites]

def mkResX (vs : List CV) : CV :=
  match vs with
  | [v] => v
  | vs => .tup vs
noncomputable def xRes (P : Program) (fr : List CV) (h : CH) (k : CV → Bool) : List ResultVar → List CV → Bool
  | [], acc => k (mkResX acc.reverse)
  | .tmp t :: rs, acc => xRes P fr h k rs (slotX fr t :: acc)
  | .cell t T :: rs, acc => xLoad (ldK P T) (slotX fr t) h fun v => xRes P fr h k rs (v :: acc)
noncomputable abbrev retX (P : Program) (fn : Func) (k : CV → CH → Bool) : QX
  | .normal, fr, h => xRes P fr h (fun v => k v h) fn.results.toList []
  | .ret, fr, h => xRes P fr h (fun v => k v h) fn.results.toList []
  | _, _, _ => false
def padX (args : List CV) (n : Nat) : List CV := args ++ List.replicate (n - args.length) (.tup [])
noncomputable def xFnR (P : Program) (qf : FuncId → Bool) (Z : List (Nat × CV)) (C : List (Nat × Ex)) (T : List (Nat × Plan)) (fn : Func) (ann : Ann) (args : List CV) (h : CH) (k : CV → CH → Bool) : Bool :=
  match fn.body with
  | some c => xc P qf Z C T c ann (retX P fn k) (padX args fn.ntmps) h
  | none => false
noncomputable def xFn (P : Program) (qf : FuncId → Bool) (Z : List (Nat × CV)) (C : List (Nat × Ex)) (T : List (Nat × Plan)) (fn : Func) (ann : Ann) (args : List CV) (h : CH) (k : CV → CH → Bool) : Bool :=
  match fn.body with
  | some c => ifX (noDef c) (xc P qf Z C T c ann (retX P fn k) (padX args fn.ntmps) h) false
  | none => false
theorem sites_none {top : Bool} : ∀ (c : Code) (ann : Ann), noDef c = true → SitesIn top c ann
  | .seq a b, ann, h => by
    simp only [noDef, Bool.and_eq_true] at h
    cases ann <;> exact ⟨sites_none a _ h.1, sites_none b _ h.2⟩
  | .cond _ a b, ann, h => by
    simp only [noDef, Bool.and_eq_true] at h
    cases ann <;> exact ⟨sites_none a _ h.1, sites_none b _ h.2⟩
  | .block _ c, ann, h => by
    have := sites_none (top := top) c ann h
    cases ann <;> exact this
  | .scope c, ann, h => by
    have := sites_none (top := top) c ann h
    cases ann <;> exact this
  | .loop c, ann, h => by
    cases ann with
    | loop L J b => exact sites_none c b h
    | nil => trivial
    | seq l r => trivial
    | join L J l r => trivial
    | cond l r => trivial
  | .rangeFunc _ _ _ _, ann, h => by cases h
  | .skip, ann, _ => by cases ann <;> trivial
  | .label _, ann, _ => by cases ann <;> trivial
  | .ret, ann, _ => by cases ann <;> trivial
  | .exit _, ann, _ => by cases ann <;> trivial
  | .region _ _ _, ann, _ => by cases ann <;> trivial
  | .goto _, ann, _ => by cases ann <;> trivial
  | .refuse _, ann, _ => by cases ann <;> trivial

/-- At a function's end the marks of its loops are taken away. -/
theorem marks_end {H0 : Hp} {m m' : M} {h' : CH} {Hs : Hp} {wp : Nat} {K : Hp → Prop} (h0 : H0.size ≤ Hs.size) (hK : ∀ H', Rel H0 m' h' H' → Stp wp m Hs m' H' → K H') : ∀ (Ds : List Nat) (H : Hp), Ds.Nodup →
    (∀ D ∈ Ds, H[D]? = some (.deferred (some [])) ∧ Hs.size ≤ D ∧ ∀ (k : Nat) (e : Nat × Nat), m'[k]? = some e → e.1 ≠ D) → Rel H0 m' h' H → Stp wp m Hs m' H → VcEnd (Ds.map markD) H K
  | [], H, _, _, hr, hs => hK H hr hs
  | D :: Ds, H, hnd, hD, hr, hs => by
    obtain ⟨h1, h2, h3⟩ := hD D List.mem_cons_self
    have hnd' := List.nodup_cons.1 hnd
    have same : ∀ q, q ≠ D → (H.setIfInBounds D (.deferred none))[q]? = H[q]? := fun q hq => get_set_other fun e => hq e.symm
    refine ⟨h1, marks_end h0 hK Ds _ hnd'.2 (fun E hE => ?_) ?_ ?_⟩
    · obtain ⟨q1, q2, q3⟩ := hD E (List.mem_cons_of_mem _ hE)
      exact ⟨by rw [same E fun e => hnd'.1 (e ▸ hE)]; exact q1, q2, q3⟩
    · refine ⟨hr.ext.set (by omega), hr.len, hr.new, fun k o hk => ?_, hr.inj, fun k e hk => by simp; exact hr.low k e hk⟩
      obtain ⟨e, O, q1, q2, q3⟩ := hr.obj k o hk
      exact ⟨e, O, q1, by rw [same _ (h3 k e q1)]; exact q2, q3⟩
    · refine ⟨hs.pre, hs.len, ⟨by simp; exact hs.kp.le, fun b hb hn => ?_⟩, hs.new⟩
      rw [same b (by omega)]
      exact hs.kp.same b hb hn

theorem Vrels_rev {m : M} {a : List CV} {va : List Value} (h : Vrels m a va) : Vrels m a.reverse va.reverse := by
  induction a generalizing va with
  | nil => simp only [Vrels] at h; subst h; rfl
  | cons x a ih =>
    obtain ⟨v, l', rfl, h1, h2⟩ := h
    rw [List.reverse_cons, List.reverse_cons]
    exact Vrels_append (ih h2) ⟨v, [], rfl, h1, rfl⟩
theorem mkRes_rel {m : M} {a : List CV} {va : List Value} (h : Vrels m a va) : Vrel m (mkResX a) (mkRes va) := by
  match a, h with
  | [], h => simp only [Vrels] at h; subst h; exact ⟨#[], rfl, rfl⟩
  | [x], h =>
    obtain ⟨v, l', rfl, h1, h2⟩ := h
    simp only [Vrels] at h2; subst h2
    exact h1
  | x :: y :: l, h =>
    obtain ⟨v, l', rfl, h1, w, l2, rfl, h2, h3⟩ := h
    exact ⟨(v :: w :: l2).toArray, rfl, v, w :: l2, rfl, h1, w, l2, rfl, h2, h3⟩
theorem xRes_ok {P : Program} {fr : List CV} {h : CH} {k : CV → Bool} : ∀ {rs : List ResultVar} {acc : List CV}, xRes P fr h k rs acc = true → ∃ z, k z = true ∧ ∀ {H0 m H frv accv} {R : Value → Hp → Prop}, Rel H0 m h H → Vrels m fr frv → Vrels m acc accv → (∀ v, Vrel m z v → R v H) → resK P frv H R rs accv
  | [], acc, hk => ⟨_, hk, fun {H0 m H frv accv R} hr hf ha hR => hR _ (mkRes_rel (Vrels_rev ha))⟩
  | .tmp t :: rs, acc, hk => by
    obtain ⟨z, h1, h2⟩ := xRes_ok (rs := rs) hk
    exact ⟨z, h1, fun {H0 m H frv accv R} hr hf ha hR => h2 hr hf ⟨_, _, rfl, slot_rel hf t, ha⟩ hR⟩
  | .cell t T :: rs, acc, hk => by
    have hk : xLoad (ldK P T) (slotX fr t) h (fun v => xRes P fr h k rs (v :: acc)) = true := hk
    obtain ⟨v, hk1, hl⟩ := xLoad_ok hk
    obtain ⟨z, h1, h2⟩ := xRes_ok hk1
    refine ⟨z, h1, fun {H0 m H frv accv R} hr hf ha hR => ?_⟩
    obtain ⟨u, h3, h4⟩ := hl hr (slot_rel hf t)
    show Pu (loadE (ldK P T) (slot frv t) H) fun v => resK P frv H R rs (v :: accv)
    rw [h3, Pu_some]
    exact h2 hr hf ⟨_, _, rfl, h4, ha⟩ hR

theorem pad_rel {m : M} {args : List CV} {vargs : List Value} (h : Vrels m args vargs) (n : Nat) : Vrels m (padX args n) (padF vargs n) := by
  unfold padX padF
  refine Vrels_append h ?_
  rw [Vrels_len h]
  induction (n - vargs.length) with
  | zero => rfl
  | succ k ih => exact ⟨_, _, rfl, unit_rel m, ih⟩

/-- A FUNCTION's RUN IS WORTH A CONTRACT. -/
theorem simR_of {P : Program} {qf : FuncId → Bool} {Z : List (Nat × CV)} {C : List (Nat × Ex)} {T : List (Nat × Plan)} (he : EnvOk P Z C) {f : FuncId} {fn : Func} (ann : Ann) (hf : P.funcs[f]? = some fn) (hS : ∀ c, fn.body = some c → SitesIn true c ann) : SimF P f (xFnR P qf Z C T fn ann) := by
  intro args h k hk
  unfold xFnR at hk
  split at hk
  · rename_i c hb
    obtain ⟨e, fr', h', k1, k2, _, k4⟩ := xc_ok (top := true) he c ann _ _ h hk (hS c hb)
    have key : (e = .normal ∨ e = .ret) ∧ xRes P fr' h' (fun v => k v h') fn.results.toList [] = true := by
      cases e <;> first | exact ⟨.inl rfl, k1⟩ | exact ⟨.inr rfl, k1⟩ | cases k1
    obtain ⟨hex, hres⟩ := key
    obtain ⟨z, h1, h2⟩ := xRes_ok hres
    refine ⟨z, h', h1, k2, fun {H0 m H vargs K} hr hv hK => ?_⟩
    intro w hw
    subst hw
    refine callsIn_of_wp_marks hf hb trivial ?_ rfl
    have ha : At { tmps := vargs.toArray ++ Array.replicate (fn.ntmps - vargs.toArray.size) undef, defers := [] } (padF vargs fn.ntmps) := by
      simp [At, padF]
    refine wpIn_mono (k4 none (fun _ => rfl) hr (pad_rel hv fn.ntmps) ha) fun e' a' w' hp => ?_
    obtain ⟨rfl, m', frv', p1, p2, p3, p4, p5, p6⟩ := hp
    have ht : a'.tmps.toList = frv' := by rw [show a'.tmps = frv'.toArray from p4]
    obtain ⟨Ds, hd, d1, d2⟩ := p5
    have fin : LeavesInM (wideR none) 0 P fn a'.tmps (fun e w' => ∃ v, e = .returned v ∧ K v w'.heap ∧ Sm w w') a'.defers .returning w' := by
      refine ends_ok a'.defers w' p6 (fun w2 hs hr => ?_) ?_
      · rw [ht] at hr
        obtain ⟨v, hv, hR⟩ := results_ok p4 hr
        exact ⟨v, hv, v, rfl, hR, hs⟩
      · rw [ht, hd]
        simp only [List.append_nil]
        exact marks_end (K := fun H' => Res P fn.results.toList frv' H' K) hr.ext.le (fun H' q1 q2 => h2 q1 p3 rfl fun v hv => hK m' H' v q1 q2 hv) Ds w'.heap d1.1 d2 p1 p2
    rcases hex with rfl | rfl
    · exact fin
    · exact fin
  · cases hk
theorem sim_of {P : Program} {qf : FuncId → Bool} {Z : List (Nat × CV)} {C : List (Nat × Ex)} {T : List (Nat × Plan)} (he : EnvOk P Z C) {f : FuncId} {fn : Func} (ann : Ann) (hf : P.funcs[f]? = some fn) : SimF P f (xFn P qf Z C T fn ann) := by
  intro args h k hk
  unfold xFn at hk
  split at hk
  · rename_i c hb
    rw [ifX_eq] at hk
    split at hk
    · rename_i hn
      refine simR_of (qf := qf) (T := T) he ann hf (fun c' hb' => by rw [hb] at hb'; injection hb' with hb'; subst hb'; exact sites_none c ann hn) args h k ?_
      unfold xFnR
      rw [hb]; exact hk
    · cases hk
  · cases hk

/-! ### Zeros -/
def eqS (p : CV) (v : Value) : Bool :=
  match p, v with
  | .int q n, .int q' n' => decide (q = q') && n == n'
  | .bool b, .bool b' => b == b'
  | .str s, .string s' => s.data.toList == s'.data.toList
  | .nilp, .pointer none => true
  | .nils, .slice none 0 0 => true
  | .nilm, .map none => true
  | .nilf, .nilFunc => true
  | _, _ => false
theorem data_inj {a b : ByteArray} (h : a.data.toList = b.data.toList) : a = b := by
  cases a; cases b
  simp only at h
  rw [Array.toList_inj.1 h]
theorem eqS_ok {p : CV} {v : Value} (h : eqS p v = true) (m : M) : Vrel m p v ∧ (∀ n x, p ≠ .bytes n x) ∧ scalar p = true := by
  unfold eqS at h
  split at h <;> try (cases h; done)
  · simp only [Bool.and_eq_true, decide_eq_true_eq, beq_iff_eq] at h
    obtain ⟨rfl, rfl⟩ := h
    exact ⟨rfl, by simp, rfl⟩
  · simp only [beq_iff_eq] at h; subst h
    exact ⟨rfl, by simp, rfl⟩
  · simp only [beq_iff_eq] at h
    rw [data_inj h]
    exact ⟨rfl, by simp, rfl⟩
  · exact ⟨rfl, by simp, rfl⟩
  · exact ⟨rfl, by simp, rfl⟩
  · exact ⟨rfl, by simp, rfl⟩
  · exact ⟨rfl, by simp, rfl⟩
def byteB (v : Value) (x : Nat) : Bool :=
  match v with
  | .int .u8 n => n == ((x % 256 : Nat) : Int)
  | _ => false
theorem byteB_ok {v : Value} {x : Nat} (h : byteB v x = true) : v = .int .u8 ((x % 256 : Nat) : Int) := by
  unfold byteB at h
  split at h
  · rw [eq_of_beq h]
  · cases h
def bytesB : Nat → Nat → List Value → Option (List Value)
  | 0, _, l => some l
  | _ + 1, _, [] => none
  | n + 1, x, v :: l => if byteB v x then bytesB n (x / 256) l else none
theorem bytesB_ok : ∀ {n x : Nat} {l r : List Value}, bytesB n x l = some r → l = bytesL n x ++ r
  | 0, x, l, r, h => by simp only [bytesB, Option.some.injEq] at h; subst h; rfl
  | n + 1, x, [], r, h => by cases h
  | n + 1, x, v :: l, r, h => by
    simp only [bytesB] at h
    split at h
    · rename_i hb
      rw [bytesB_ok h, byteB_ok hb]; rfl
    · cases h
def relB1 (f : List Value → Bool) (p : CV) (l : List Value) : Bool :=
  match p with
  | .bytes n x => (match bytesB n x l with | some r => f r | none => false)
  | p => (match l with | v :: l => eqS p v && f l | [] => false)
def relB : List CV → List Value → Bool
  | [], l => l.isEmpty
  | p :: ps, l => relB1 (relB ps) p l
theorem relB1_ok {m : M} {p : CV} {ps : List CV} {f : List Value → Bool} (ih : ∀ l, f l = true → Crel m ps l) {l : List Value} (h : relB1 f p l = true) : Crel m (p :: ps) l := by
  unfold relB1 at h
  split at h
  · split at h
    · rename_i hr
      exact ⟨_, bytesB_ok hr, ih _ h⟩
    · cases h
  · split at h
    · simp only [Bool.and_eq_true] at h
      obtain ⟨h3, h4, h5⟩ := eqS_ok h.1 m
      rw [Crel_cons h5]
      exact ⟨_, _, rfl, h5, h3, ih _ h.2⟩
    · cases h
theorem relB_ok (m : M) : ∀ {ps : List CV} {l : List Value}, relB ps l = true → Crel m ps l
  | [], l, h => by
    cases l with
    | nil => rfl
    | cons => cases h
  | p :: ps, l, h => relB1_ok (fun l h => relB_ok m h) h
def zeroB (P : Program) (T : TypeId) (z : CV) : Bool :=
  match zeroE P T, z with
  | some (.agg c), .agg ps => relB ps c.toList
  | some v, z => eqS z v
  | none, _ => false
theorem zeroB_ok {P : Program} {T : TypeId} {z : CV} (h : zeroB P T z = true) : ZeroV P T z := by
  unfold zeroB at h
  split at h
  · rename_i hz
    exact ⟨_, hz, fun m => ⟨_, rfl, relB_ok m h⟩⟩
  · rename_i hz _
    exact ⟨_, by assumption, fun m => (eqS_ok h m).1⟩
  · cases h
def zerosB (P : Program) : List (Nat × CV) → Bool
  | [] => true
  | p :: l => zeroB P p.1 p.2 && zerosB P l
theorem zerosB_ok {P : Program} : ∀ {l : List (Nat × CV)}, zerosB P l = true → ∀ p, p ∈ l → ZeroV P p.1 p.2
  | [], _, p, hp => by cases hp
  | q :: l, h, p, hp => by
    simp only [zerosB, Bool.and_eq_true] at h
    rcases List.mem_cons.1 hp with rfl | hp
    · exact zeroB_ok h.1
    · exact zerosB_ok h.2 p hp

/-! ### The functions that are called -/
def ExOk (P : Program) (C : List (Nat × Ex)) : Prop := ∀ p, p ∈ C → (Nat.ble RB p.1 = false → enterB P p.1 = true ∧ SimF P p.1 p.2) ∧ ∀ n, p.1 = RB + n → SimRd P n p.2
theorem exNil {P : Program} : ExOk P [] := fun p hp => by cases hp
theorem exCons {P : Program} {f : Nat} {ex : Ex} {C : List (Nat × Ex)} (h1 : (enterB P f && !(Nat.ble RB f)) = true) (h2 : SimF P f ex) (h3 : ExOk P C) : ExOk P ((f, ex) :: C) := fun p hp => by
  simp only [Bool.and_eq_true] at h1
  rcases List.mem_cons.1 hp with rfl | hp
  · refine ⟨fun _ => ⟨h1.1, h2⟩, fun n hn => ?_⟩
    have h4 : f = RB + n := hn
    have h5 := h1.2
    have : Nat.ble RB f = true := by rw [h4]; exact Nat.ble_eq_true_of_le (Nat.le_add_right _ _)
    rw [this] at h5; cases h5
  · exact h3 p hp
theorem exRd {P : Program} {n : Nat} {ex : Ex} {C : List (Nat × Ex)} (h2 : SimRd P n ex) (h3 : ExOk P C) : ExOk P ((RB + n, ex) :: C) := fun p hp => by
  rcases List.mem_cons.1 hp with rfl | hp
  · refine ⟨fun hb => ?_, fun q hq => ?_⟩
    · have : Nat.ble RB (RB + n) = true := Nat.ble_eq_true_of_le (Nat.le_add_right _ _)
      rw [this] at hb; cases hb
    · have h4 : RB + n = RB + q := hq
      have h5 : n = q := by omega
      subst h5; exact h2
  · exact h3 p hp

/-- The run's own memory, empty. -/
def h0 : CH := .mk .lf 0 0
theorem rel0 (H : Hp) : Rel H [] h0 H :=
  ⟨Ext.refl H, rfl, fun k e h => (by simp at h), fun k o h => (by cases h), fun j k x y d e h => (by cases h), fun k e h => (by simp at h)⟩
/-- A run of a function without arguments that comes out true. -/
theorem closed_true {P : Program} {f : FuncId} {ex : Ex} (hs : SimF P f ex) (hk : (ex [] h0 fun z _ => match z with | .bool true => true | _ => false) = true) {H : Hp} {R : Value → Hp → Prop} (h : ∀ H', Ext H H' → R (.bool true) H') : Fc P f #[] H R := by
  obtain ⟨z, h', h1, _, h2⟩ := hs _ _ _ hk
  split at h1
  · exact h2 (rel0 H) (vargs := []) rfl fun m' H' v r1 r2 r3 => by
      simp only [Vrel] at r3; subst r3
      exact h H' r1.ext
  · cases h1
end Go.Xc
