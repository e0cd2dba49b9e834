/- Xc, part B: the run's own memory: a tree of blocks; what it stands for; a step of the memory. -/
import Derived.Test.YtacfcgoighnioaaGreatXcA
set_option linter.unusedVariables false
set_option linter.unusedSectionVars false
set_option linter.unusedSimpArgs false
namespace Go.Xc
open Go.Vc

/-! ### Trees -/
inductive Tr (α : Type) | lf | nd (l : Tr α) (v : Option α) (r : Tr α)
noncomputable def Tr.get {α : Type} (t : Tr α) : Nat → Option α :=
  Tr.rec (motive := fun _ => Nat → Option α) (fun _ => none) (fun _ v _ gl gr i => Nat.rec (motive := fun _ => Option α) v (fun j _ => Bool.rec (gr (j / 2)) (gl (j / 2)) (Nat.beq (j % 2) 0)) i) t
theorem Tr.get_lf {α : Type} (i : Nat) : (Tr.lf : Tr α).get i = none := rfl
theorem Tr.get_0 {α : Type} (l r : Tr α) (v : Option α) : (Tr.nd l v r).get 0 = v := rfl
theorem Tr.get_s {α : Type} (l r : Tr α) (v : Option α) (j : Nat) : (Tr.nd l v r).get (j + 1) = if j % 2 = 0 then l.get (j / 2) else r.get (j / 2) := by
  show Bool.rec (motive := fun _ => Option α) (r.get (j / 2)) (l.get (j / 2)) (Nat.beq (j % 2) 0) = _
  by_cases h : j % 2 = 0
  · rw [if_pos h, h]; rfl
  · rw [if_neg h]
    have : Nat.beq (j % 2) 0 = false := by
      cases hb : Nat.beq (j % 2) 0 with
      | false => rfl
      | true => exact absurd (Nat.eq_of_beq_eq_true hb) h
    rw [this]
noncomputable def Tr.setK {α : Type} (v : Option α) (d : Nat) : Tr α → Nat → (Tr α → Bool) → Bool :=
  Nat.rec (motive := fun _ => Tr α → Nat → (Tr α → Bool) → Bool) (fun _ _ _ => false)
    (fun _ ih t i k => Tr.rec (motive := fun _ => Bool)
      (Nat.rec (motive := fun _ => Bool) (k (.nd .lf v .lf)) (fun j _ => Bool.rec (ih .lf (j / 2) fun r' => k (.nd .lf none r')) (ih .lf (j / 2) fun l' => k (.nd l' none .lf)) (Nat.beq (j % 2) 0)) i)
      (fun l w r _ _ => Nat.rec (motive := fun _ => Bool) (k (.nd l v r)) (fun j _ => Bool.rec (ih r (j / 2) fun r' => k (.nd l w r')) (ih l (j / 2) fun l' => k (.nd l' w r)) (Nat.beq (j % 2) 0)) i) t) d
theorem Tr.setK_ok {α : Type} {v : Option α} : ∀ {d : Nat} {t : Tr α} {i : Nat} {k : Tr α → Bool}, Tr.setK v d t i k = true → ∃ t', k t' = true ∧ t'.get i = v ∧ ∀ j, j ≠ i → t'.get j = t.get j
  | 0, _, _, _, h => by cases h
  | d + 1, t, i, k, h => by
    have core : ∀ (l r : Tr α) (w : Option α), (∀ j, (Tr.nd l w r).get j = t.get j) →
        (Nat.rec (motive := fun _ => Bool) (k (.nd l v r)) (fun j _ => Bool.rec (Tr.setK v d r (j / 2) fun r' => k (.nd l w r')) (Tr.setK v d l (j / 2) fun l' => k (.nd l' w r)) (Nat.beq (j % 2) 0)) i) = true →
        ∃ t', k t' = true ∧ t'.get i = v ∧ ∀ j, j ≠ i → t'.get j = t.get j := by
      intro l r w he hk
      cases i with
      | zero =>
        refine ⟨_, hk, rfl, fun j hj => ?_⟩
        rw [← he]
        cases j with
        | zero => exact absurd rfl hj
        | succ j => rw [Tr.get_s, Tr.get_s]
      | succ i =>
        have hk' : Bool.rec (Tr.setK v d r (i / 2) fun r' => k (.nd l w r')) (Tr.setK v d l (i / 2) fun l' => k (.nd l' w r)) (Nat.beq (i % 2) 0) = true := hk
        cases hb : Nat.beq (i % 2) 0 with
        | true =>
          have h0 := Nat.eq_of_beq_eq_true hb
          rw [hb] at hk'
          obtain ⟨l', h1, h2, h3⟩ := Tr.setK_ok (d := d) hk'
          refine ⟨_, h1, by rw [Tr.get_s, if_pos h0]; exact h2, fun j hj => ?_⟩
          rw [← he]
          cases j with
          | zero => rfl
          | succ j =>
            rw [Tr.get_s, Tr.get_s]
            by_cases h4 : j % 2 = 0
            · rw [if_pos h4, if_pos h4]; exact h3 _ (by omega)
            · rw [if_neg h4, if_neg h4]
        | false =>
          have h0 : ¬ i % 2 = 0 := fun e => by rw [e] at hb; cases hb
          rw [hb] at hk'
          obtain ⟨r', h1, h2, h3⟩ := Tr.setK_ok (d := d) hk'
          refine ⟨_, h1, by rw [Tr.get_s, if_neg h0]; exact h2, fun j hj => ?_⟩
          rw [← he]
          cases j with
          | zero => rfl
          | succ j =>
            rw [Tr.get_s, Tr.get_s]
            by_cases h4 : j % 2 = 0
            · rw [if_pos h4, if_pos h4]
            · rw [if_neg h4, if_neg h4]; exact h3 _ (by omega)
    cases t with
    | lf => exact core .lf .lf none (fun j => by cases j with
        | zero => rfl
        | succ j => rw [Tr.get_s]; split <;> rfl) h
    | nd l w r => exact core l r w (fun j => rfl) h

/-! ### Numbers made plain -/
noncomputable def forceN (n : Nat) (k : Nat → Bool) : Bool := Nat.rec (motive := fun _ => Bool) (k 0) (fun m _ => k (m + 1)) n
theorem forceN_eq (n : Nat) (k : Nat → Bool) : forceN n k = k n := by cases n <;> rfl
noncomputable def forceI (x : Int) (k : Int → Bool) : Bool := Int.rec (motive := fun _ => Bool) (fun n => forceN n fun n => k (.ofNat n)) (fun n => forceN n fun n => k (.negSucc n)) x
theorem forceI_eq (x : Int) (k : Int → Bool) : forceI x k = k x := by
  cases x with
  | ofNat n => show forceN n (fun n => k (.ofNat n)) = _; rw [forceN_eq]
  | negSucc n => show forceN n (fun n => k (.negSucc n)) = _; rw [forceN_eq]
noncomputable def forceC (x : CV) (k : CV → Bool) : Bool :=
  match x with
  | .int q n => forceI n fun n => k (.int q n)
  | .bytes n x => forceN n fun n => forceN x fun x => k (.bytes n x)
  | .ptr a o => forceN o fun o => k (.ptr a o)
  | .sl a o l c => forceN o fun o => forceN l fun l => forceN c fun c => k (.sl a o l c)
  | .so a o l e => forceN o fun o => forceN l fun l => k (.so a o l e)
  | x => k x
theorem forceC_eq (x : CV) (k : CV → Bool) : forceC x k = k x := by
  cases x <;> simp only [forceC, forceI_eq, forceN_eq]
noncomputable def forceP (ps : List CV) : (List CV → Bool) → Bool :=
  List.rec (motive := fun _ => (List CV → Bool) → Bool) (fun k => k []) (fun p _ ih k => forceC p fun p => ih fun ps => k (p :: ps)) ps
theorem forceP_eq : ∀ (ps : List CV) (k : List CV → Bool), forceP ps k = k ps
  | [], _ => rfl
  | p :: ps, k => by
    show forceC p (fun p => forceP ps fun ps => k (p :: ps)) = _
    rw [forceC_eq, forceP_eq]

/-! ### Memory -/
/-- The loops over functions that a run may come to, by number: the temporaries that a round is handed, the code that lays them, the round's code. -/
class Sites where
  ok : Nat → Array Tmp → Code → Code → Prop
variable [Sites]
/-- fz: n bytes, not written; lp: the record of a loop over a function: its state, the jump that is pending, which loop, the frame in which it was begun. -/
inductive CO
  | row (T : TypeId) (es len : Nat) (d : Option (List CV)) (t : Tr (List CV))
  | map (es : List (CV × CV)) (c : Nat)
  | lp (st : Nat) (j : Option (Option Nat)) (n : Nat) (fr : List CV)
  | fz (T : TypeId) (n x : Nat)
def stOf : Nat → LoopState
  | 0 => .ready
  | 1 => .busy
  | 2 => .done
  | _ => .exhausted
/-- The blocks; how many; those below wp are not written. -/
inductive CH | mk (t : Tr CO) (n wp : Nat)
def CH.n : CH → Nat | .mk _ n _ => n
def CH.wp : CH → Nat | .mk _ _ wp => wp
noncomputable def CH.get : CH → Nat → Option CO | .mk t _ _, k => t.get k

noncomputable def elt (t : Tr (List CV)) (d : Option (List CV)) (i : Nat) : Option (List CV) :=
  match t.get i with
  | some ps => some ps
  | none => d

def Mrel (m : M) : List (CV × CV) → List MapEntry → Prop
  | [], l => l = []
  | (a, b) :: es, l => ∃ x l', l = x :: l' ∧ True ∧ Vrel m a x.key ∧ Vrel m b x.val ∧ Mrel m es l'

def Orel (m : M) (e : Nat × Nat) : CO → Obj → Prop
  | .row T es len d t, o => ∃ c, o = .cells c T ∧ c.size = e.2 ∧ len * es ≤ e.2 ∧ ∀ i, i < len → ∃ ps, elt t d i = some ps ∧ Crel m ps (c.extract (i * es) (i * es + es)).toList
  | .map es c, o => ∃ ents, o = .map ents c ∧ Mrel m es ents.toList
  | .fz _ n x, o => ∃ c T z, o = .cells c T z ∧ c.size = e.2 ∧ n ≤ e.2 ∧ (c.extract 0 n).toList = bytesL n x
  | .lp st j n fr, o => ∃ rec : Loop, o = .loop { rec with state := stOf st, pending := jmpCode j } ∧ Sites.ok n rec.params rec.assign rec.body ∧ Vrels m fr rec.tmps.toList

/-- The memory H, begun as H0, is what the run's own memory h says, block k being block m[k]. -/
structure Rel (H0 : Hp) (m : M) (h : CH) (H : Hp) : Prop where
  ext : Ext H0 H
  len : m.length = h.n
  new : ∀ (k : Nat) (e : Nat × Nat), m[k]? = some e → H0.size ≤ e.1
  obj : ∀ k o, h.get k = some o → ∃ e O, m[k]? = some e ∧ H[e.1]? = some O ∧ Orel m e o O
  inj : ∀ (j k : Nat) (x y : CO) (d e : Nat × Nat), h.get j = some x → h.get k = some y → m[j]? = some d → m[k]? = some e → d.1 = e.1 → j = k
  low : ∀ (k : Nat) (e : Nat × Nat), m[k]? = some e → e.1 < H.size

/-- The blocks that may be written. -/
def Wr (m : M) (wp b : Nat) : Prop := ∃ (k : Nat) (e : Nat × Nat), m[k]? = some e ∧ wp ≤ k ∧ e.1 = b
/-- A step: more blocks, only blocks that may be written are. -/
structure Stp (wp : Nat) (m : M) (H : Hp) (m' : M) (H' : Hp) : Prop where
  pre : Pre m m'
  len : m.length ≤ m'.length
  kp : Kp (Wr m wp) H H'
  new : ∀ (k : Nat) (e : Nat × Nat), m'[k]? = some e → m[k]? = some e ∨ H.size ≤ e.1 ∨ Wr m wp e.1
theorem Stp.refl (wp : Nat) (m : M) (H : Hp) : Stp wp m H m H := ⟨Pre.refl m, Nat.le_refl _, Kp.refl _ _, fun k e h => .inl h⟩
theorem Stp.trans {wp : Nat} {m m' m'' : M} {H H' H'' : Hp} (h : Stp wp m H m' H') (h' : Stp wp m' H' m'' H'') : Stp wp m H m'' H'' := by
  have wr : ∀ b, Wr m' wp b → H.size ≤ b ∨ Wr m wp b := by
    rintro b ⟨k, e, h1, h2, rfl⟩
    rcases h.new k e h1 with h3 | h3 | h3
    · exact .inr ⟨k, e, h3, h2, rfl⟩
    · exact .inl h3
    · exact .inr h3
  refine ⟨h.pre.trans h'.pre, Nat.le_trans h.len h'.len, ⟨Nat.le_trans h.kp.le h'.kp.le, fun b hb hn => ?_⟩, fun k e hk => ?_⟩
  · rw [h'.kp.same b (Nat.lt_of_lt_of_le hb h.kp.le) fun hw => ?_]
    · exact h.kp.same b hb hn
    · rcases wr b hw with h3 | h3
      · omega
      · exact hn h3
  · rcases h'.new k e hk with h3 | h3 | h3
    · exact h.new k e h3
    · exact .inr (.inl (Nat.le_trans h.kp.le h3))
    · exact .inr (wr _ h3)
theorem Stp.ext {wp : Nat} {m : M} {H H' : Hp} (hx : Ext H H') : Stp wp m H m H' := ⟨Pre.refl m, Nat.le_refl _, hx.kp _, fun k e h => .inl h⟩

theorem Orel.mono {m m' : M} (hp : Pre m m') {e : Nat × Nat} {o : CO} {O : Obj} (h : Orel m e o O) : Orel m' e o O := by
  cases o with
  | row T es len d t =>
    obtain ⟨c, h1, h2, h3, h4⟩ := h
    exact ⟨c, h1, h2, h3, fun i hi => by obtain ⟨ps, h5, h6⟩ := h4 i hi; exact ⟨ps, h5, h6.mono hp⟩⟩
  | map es c =>
    obtain ⟨ents, h1, h2⟩ := h
    refine ⟨ents, h1, ?_⟩
    clear h1
    generalize ents.toList = l at h2
    induction es generalizing l with
    | nil => exact h2
    | cons a es ih =>
      obtain ⟨x, l', h1, h0, h2, h3, h4⟩ := h2
      exact ⟨x, l', h1, h0, h2.mono hp, h3.mono hp, ih l' h4⟩
  | lp st j n fr =>
    obtain ⟨rec, h1, h2, h3⟩ := h
    exact ⟨rec, h1, h2, h3.mono hp⟩
  | fz T n x => exact h

theorem Rel.ext' {H0 : Hp} {m : M} {h : CH} {H H' : Hp} (hr : Rel H0 m h H) (hx : Ext H H') : Rel H0 m h H' :=
  ⟨hr.ext.trans hx, hr.len, hr.new, fun k o hk => by obtain ⟨e, O, h1, h2, h3⟩ := hr.obj k o hk; exact ⟨e, O, h1, hx.at h2, h3⟩, hr.inj, fun k e hk => Nat.lt_of_lt_of_le (hr.low k e hk) hx.le⟩

theorem Rel.lt {H0 : Hp} {m : M} {h : CH} {H : Hp} (hr : Rel H0 m h H) {k : Nat} {o : CO} (hk : h.get k = some o) : k < h.n := by
  obtain ⟨e, O, h1, _⟩ := hr.obj k o hk
  rw [← hr.len]
  rcases Nat.lt_or_ge k m.length with h2 | h2
  · exact h2
  · rw [List.getElem?_eq_none h2] at h1; cases h1

/-- A block is added. -/
noncomputable def xNew (o : CO) (h : CH) (k : Nat → CH → Bool) : Bool :=
  match h with
  | .mk t n wp => Tr.setK (some o) 64 t n fun t' => forceN (n + 1) fun n' => k n (.mk t' n' wp)
theorem xNew_ok {o : CO} {h : CH} {k : Nat → CH → Bool} (hk : xNew o h k = true) : ∃ h', k h.n h' = true ∧ h'.wp = h.wp ∧
    ∀ {H0 : Hp} {m : M} {H : Hp} {O : Obj} {z : Nat}, Rel H0 m h H → Orel m (H.size, z) o O → Rel H0 (m ++ [(H.size, z)]) h' (H.push O) ∧ Stp h.wp m H (m ++ [(H.size, z)]) (H.push O) ∧ (m ++ [(H.size, z)])[h.n]? = some (H.size, z) := by
  obtain ⟨t, n, wp⟩ := h
  unfold xNew at hk
  simp only [forceN_eq] at hk
  obtain ⟨t', h1, h2, h3⟩ := Tr.setK_ok hk
  clear hk
  refine ⟨.mk t' (n + 1) wp, h1, rfl, fun {H0 m H O z} hr ho => ?_⟩
  have hl : m.length = n := hr.len
  have hpre := Pre.snoc m (H.size, z)
  have hlast : (m ++ [(H.size, z)])[n]? = some (H.size, z) := by rw [List.getElem?_append_right (by omega)]; simp [hl]
  have hx := Ext.push H O
  have hget : ∀ j x, t'.get j = some x → j = n ∧ x = o ∨ j ≠ n ∧ t.get j = some x := fun j x hj => by
    by_cases hjn : j = n
    · subst hjn; rw [h2] at hj; injection hj with hj; exact .inl ⟨rfl, hj.symm⟩
    · exact .inr ⟨hjn, by rw [← h3 j hjn]; exact hj⟩
  have hold : ∀ (j : Nat) (d : Nat × Nat), j ≠ n → (m ++ [(H.size, z)])[j]? = some d → m[j]? = some d := fun j d hj hd => by
    rw [List.getElem?_append] at hd
    split at hd
    · exact hd
    · rw [List.getElem?_eq_none (by simp; omega)] at hd; cases hd
  refine ⟨⟨hr.ext.trans hx, by simp [hl, CH.n], fun k e hk => ?_, fun k x hkx => ?_, fun j k x y d e hj hk hd he hde => ?_, fun k e hk => ?_⟩, ⟨hpre, by simp, hx.kp _, fun k e hk => ?_⟩, hlast⟩
  · by_cases hkn : k = n
    · subst hkn; rw [hlast] at hk; injection hk with hk; subst hk; exact hr.ext.le
    · exact hr.new k e (hold k e hkn hk)
  · rcases hget k x hkx with ⟨rfl, rfl⟩ | ⟨hkn, hkx'⟩
    · exact ⟨_, O, hlast, get_push_new H O, ho.mono hpre⟩
    · obtain ⟨e, O', h4, h5, h6⟩ := hr.obj k x hkx'
      exact ⟨e, O', hpre _ _ h4, hx.at h5, h6.mono hpre⟩
  · have low : ∀ (q : Nat) (w : CO) (c : Nat × Nat), t.get q = some w → m[q]? = some c → c.1 < H.size := fun q w c hq hc => by
      obtain ⟨e', O', h4, h5, _⟩ := hr.obj q w hq
      rw [hc] at h4; injection h4 with h4; subst h4
      exact Vc.lt_of_block h5
    rcases hget j x hj with ⟨rfl, rfl⟩ | ⟨hjn, hj'⟩ <;> rcases hget k y hk with ⟨rfl, rfl⟩ | ⟨hkn, hk'⟩
    · rfl
    · rw [hlast] at hd; injection hd with hd; subst hd
      have := low _ _ _ hk' (hold _ _ hkn he); simp only at hde; omega
    · rw [hlast] at he; injection he with he; subst he
      have := low _ _ _ hj' (hold _ _ hjn hd); simp only at hde; omega
    · exact hr.inj j k x y d e hj' hk' (hold _ _ hjn hd) (hold _ _ hkn he) hde
  · by_cases hkn : k = n
    · subst hkn; rw [hlast] at hk; injection hk with hk; subst hk; simp
    · have := hr.low k e (hold k e hkn hk); simp; omega
  · by_cases hkn : k = n
    · subst hkn; rw [hlast] at hk; injection hk with hk; subst hk; exact .inr (.inl (Nat.le_refl _))
    · exact .inl (hold k e hkn hk)

/-- A block is written. -/
noncomputable def xSet (b : Nat) (o : CO) (h : CH) (k : CH → Bool) : Bool :=
  match h with
  | .mk t n wp => Bool.rec false (Tr.setK (some o) 64 t b fun t' => k (.mk t' n wp)) (Nat.ble wp b)
theorem xSet_ok {b : Nat} {o : CO} {h : CH} {k : CH → Bool} (hk : xSet b o h k = true) : ∃ h', k h' = true ∧ h'.wp = h.wp ∧
    ∀ {H0 : Hp} {m : M} {H : Hp} {O : Obj} {e : Nat × Nat} {o0 : CO}, Rel H0 m h H → h.get b = some o0 → m[b]? = some e → Orel m e o O → Rel H0 m h' (H.setIfInBounds e.1 O) ∧ Stp h.wp m H m (H.setIfInBounds e.1 O) := by
  obtain ⟨t, n, wp⟩ := h
  unfold xSet at hk
  simp only at hk
  have hw : Nat.ble wp b = true := by cases hb : Nat.ble wp b <;> simp_all
  rw [hw] at hk
  have hwb : wp ≤ b := Nat.le_of_ble_eq_true hw
  obtain ⟨t', h1, h2, h3⟩ := Tr.setK_ok hk
  clear hk
  refine ⟨.mk t' n wp, h1, rfl, fun {H0 m H O e o0} hr hb he ho => ?_⟩
  obtain ⟨e', O', h4, h5, _⟩ := hr.obj b o0 hb
  rw [he] at h4; injection h4 with h4; subst h4
  have hget : ∀ j x, t'.get j = some x → j = b ∧ x = o ∨ j ≠ b ∧ t.get j = some x := fun j x hj => by
    by_cases hjn : j = b
    · subst hjn; rw [h2] at hj; injection hj with hj; exact .inl ⟨rfl, hj.symm⟩
    · exact .inr ⟨hjn, by rw [← h3 j hjn]; exact hj⟩
  have hal : ∀ j x, t'.get j = some x → ∃ x', t.get j = some x' := fun j x hj => by
    rcases hget j x hj with ⟨rfl, _⟩ | ⟨_, h⟩
    · exact ⟨o0, hb⟩
    · exact ⟨x, h⟩
  have hsame : ∀ q, q ≠ e.1 → (H.setIfInBounds e.1 O)[q]? = H[q]? := fun q hq => get_set_other (fun h => hq h.symm)
  refine ⟨⟨hr.ext.set (hr.new b e he), hr.len, hr.new, fun k x hkx => ?_, fun j k x y d e' hj hk hd he' hde => ?_, fun k e' hk => by simp; exact hr.low k e' hk⟩, ⟨Pre.refl m, Nat.le_refl _, ⟨by simp, fun q hq hn => hsame q fun hqe => hn ⟨b, e, he, hwb, hqe.symm⟩⟩, fun k e hk => .inl hk⟩⟩
  · rcases hget k x hkx with ⟨rfl, rfl⟩ | ⟨hkn, hkx'⟩
    · exact ⟨e, O, he, get_set_same h5, ho⟩
    · obtain ⟨e2, O2, h6, h7, h8⟩ := hr.obj k x hkx'
      refine ⟨e2, O2, h6, ?_, h8⟩
      rw [hsame _ fun hq => hkn (hr.inj k b x o0 e2 e hkx' hb h6 he hq)]; exact h7
  · obtain ⟨x', hx'⟩ := hal j x hj
    obtain ⟨y', hy'⟩ := hal k y hk
    exact hr.inj j k x' y' d e' hx' hy' hd he' hde
end Go.Xc
