/- Xc, part H: slices out of parts, make, slices of slices, len, copy. -/
import Derived.Test.YtacfcgoighnioaaGreatXcG
set_option linter.unusedVariables false
set_option linter.unusedSectionVars false
set_option linter.unusedSimpArgs false
namespace Go.Xc
open Go.Vc
variable [Sites]

/-- The zero of a type, in parts. -/
def ZeroOk (P : Program) (T : TypeId) (zs : List CV) : Prop := ∃ z, zeroE P T = some z ∧ ∀ m, Crel m zs z.cells.toList
theorem zero_elem {P : Program} {S : TypeId} {e : ElemI} {zs : List CV} (he : elemI P S = some e) (hz : ZeroOk P e.type zs) (m : M) : Crel m zs e.zero.toList := by
  obtain ⟨hu, i, z, hi, _, _, hz2, hzc⟩ := elemI_spec he
  obtain ⟨z', h1, h2⟩ := hz
  unfold zeroE at h1
  rw [hi] at h1
  simp only [Option.bind_some] at h1
  rw [hz2] at h1
  injection h1 with h1
  subst h1
  rw [← hzc]; exact h2 m

def zl (zero : Array Value) (n : Nat) : Array Value := (Array.range (n * zero.size)).map (zero[· % zero.size]!)
theorem zl_len (zero : Array Value) (n : Nat) : (zl zero n).toList.length = n * zero.size := by simp [zl]
theorem zl_succ (zero : Array Value) (n : Nat) : (zl zero (n + 1)).toList = zero.toList ++ (zl zero n).toList := by
  apply List.ext_getElem?
  intro j
  have hl : ∀ n j, (zl zero n).toList[j]? = if j < n * zero.size then some (zero[j % zero.size]!) else none := by
    intro n j
    rw [Array.getElem?_toList]
    unfold zl
    rw [Array.getElem?_map, Array.getElem?_range]
    split <;> rfl
  rw [hl, Nat.add_mul, Nat.one_mul]
  by_cases h1 : j < zero.size
  · rw [if_pos (by omega), List.getElem?_append_left (by rw [Array.length_toList]; exact h1), Array.getElem?_toList, Nat.mod_eq_of_lt h1, getElem!_pos zero j h1, Array.getElem?_eq_getElem h1]
  · rw [List.getElem?_append_right (by rw [Array.length_toList]; omega), Array.length_toList, hl]
    by_cases h2 : j < n * zero.size + zero.size
    · rw [if_pos h2, if_pos (by omega)]
      have h3 := Nat.add_mod_right (j - zero.size) zero.size
      rw [show j - zero.size + zero.size = j by omega] at h3
      rw [h3]
    · rw [if_neg h2, if_neg (by omega)]
theorem zl_zero (zero : Array Value) : (zl zero 0).toList = [] := by simp [zl]

noncomputable def xRep (zs : List CV) (n : Nat) : (List CV → Bool) → Bool :=
  Nat.rec (motive := fun _ => (List CV → Bool) → Bool) (fun k => k []) (fun _ ih k => ih fun r => forceP (appP zs r) k) n
theorem xRep_ok {zs : List CV} : ∀ {n : Nat} {k : List CV → Bool}, xRep zs n k = true → ∃ r, k r = true ∧ ∀ {m : M} {zero : Array Value}, Crel m zs zero.toList → Crel m r (zl zero n).toList
  | 0, k, h => ⟨[], h, fun {m zero} _ => by rw [zl_zero]; rfl⟩
  | n + 1, k, h => by
    have h' : xRep zs n (fun r => forceP (appP zs r) k) = true := h
    obtain ⟨r, h1, h2⟩ := xRep_ok h'
    rw [forceP_eq] at h1
    exact ⟨_, h1, fun {m zero} hz => by rw [zl_succ]; exact appP_ok hz (h2 hz)⟩
theorem bytes_zero {m : M} {zero : Array Value} (h : Crel m [.bytes 1 0] zero.toList) : ∀ n, Crel m [.bytes n 0] (zl zero n).toList
  | 0 => ⟨[], by rw [zl_zero]; rfl, rfl⟩
  | n + 1 => by
    have h0 := h
    obtain ⟨l', h1, h2⟩ := h0
    simp only [Crel] at h2
    subst h2
    obtain ⟨l2, h3, h4⟩ := bytes_zero h n
    simp only [Crel] at h4
    subst h4
    refine ⟨[], ?_, rfl⟩
    rw [zl_succ, h1, h3]
    simp [bytesL]

/-- Parts cut into elements. -/
noncomputable def xChunk (es : Nat) (n : Nat) : List CV → (List (List CV) → Bool) → Bool :=
  Nat.rec (motive := fun _ => List CV → (List (List CV) → Bool) → Bool) (fun _ k => k []) (fun _ ih ps k => match splitP ps es with | some (a, b) => forceP a fun a => ih b fun r => k (a :: r) | none => false) n
theorem xChunk_ok {es : Nat} : ∀ {n : Nat} {ps : List CV} {k : List (List CV) → Bool}, xChunk es n ps k = true → ∃ r, k r = true ∧ r.length = n ∧ ∀ {m : M} {l : List Value}, Crel m ps l → l.length = n * es → Elems m es r l
  | 0, ps, k, h => ⟨[], h, rfl, fun {m l} hc hl => List.eq_nil_of_length_eq_zero (by omega)⟩
  | n + 1, ps, k, h => by
    have h' : (match splitP ps es with | some (a, b) => forceP a fun a => xChunk es n b fun r => k (a :: r) | none => false) = true := h
    split at h'
    · rename_i a b hs
      rw [forceP_eq] at h'
      obtain ⟨r, h1, h2, h3⟩ := xChunk_ok h'
      refine ⟨a :: r, h1, by simp [h2], fun {m l} hc hl => ?_⟩
      obtain ⟨l1, l2, rfl, e1, r1, r2⟩ := splitP_ok hc hs
      refine ⟨l1, l2, rfl, e1, r1, h3 r2 ?_⟩
      rw [List.length_append, e1, Nat.add_mul, Nat.one_mul] at hl; omega
    · cases h'

/-- A block of n elements out of these parts. -/
noncomputable def xRowOf (T es n : Nat) (u : Bool) (ps : List CV) (k : CO → Bool) : Bool :=
  match u with
  | true => k (.row T (n * es) 1 none (.nd .lf (some ps) .lf))
  | false => xChunk es n ps fun r => xPuts r .lf 0 fun t => k (.row T es n none t)
theorem xRowOf_ok {T es n : Nat} {u : Bool} {ps : List CV} {k : CO → Bool} (h : xRowOf T es n u ps k = true) : ∃ o, k o = true ∧ ∀ {m : M} {c : Array Value} (b : Nat), Crel m ps c.toList → c.size = n * es → Orel m (b, c.size) o (.cells c T) := by
  unfold xRowOf at h
  split at h
  · refine ⟨_, h, fun {m c} b hc hs => ?_⟩
    have := row_one (T := T) (b := b) hc
    have e : sizeP ps = n * es := by rw [← sizeP_ok hc, Array.length_toList, hs]
    rw [e] at this
    exact this
  · obtain ⟨r, h1, h2, h3⟩ := xChunk_ok h
    obtain ⟨t, h4, _, h6⟩ := xPuts_ok h1
    refine ⟨_, h4, fun {m c} b hc hs => ?_⟩
    have hel := h3 hc (by rw [Array.length_toList, hs])
    have hg := grown_tree (T := T) (d := none) (t := .lf) (len := 0) (c := #[]) (es := es) (m := m) (by simp) (fun i hi => by omega) (fun j hj => by omega) h6 hel
    have := hg b c (by simp) (by simp; exact List.take_of_length_le (by simp))
    simpa [h2] using this

noncomputable def xNewS (q : Option (Nat × Nat × Nat × Bool)) (zs : Option (List CV)) (n : Nat) (parts : List (Nat × CV)) (h : CH) (k : CV → CH → Bool) : Bool :=
  match q, zs with
  | some (T, es, _, u), some zs => Bool.rec false (xRep zs n fun ps => xFill (fun i => some (i * es, es)) parts ps fun ps => xRowOf T es n u ps fun o => xNew o h fun b h' => k (.sl b 0 n n) h') (Nat.ble (n * es) 16777216 && Nat.ble 1 (n * es))
  | _, _ => false
theorem xNewS_ok {P : Program} {S : TypeId} {zs : Option (List CV)} {n : Nat} {parts : List (Nat × CV)} {h : CH} {k : CV → CH → Bool} (hz : ∀ e z, elemI P S = some e → zs = some z → ZeroOk P e.type z) (hk : xNewS (appK P S) zs n parts h k = true) :
    ∃ z h', k z h' = true ∧ h'.wp = h.wp ∧ ∀ {H0 m H vs} {K : Value → Hp → Prop}, Rel H0 m h H → Prels m parts vs → Fin H0 m h H z h' K →
      Pu (elemI P S) fun e => Pu (newSliceE (some e) n vs) fun cs => K (.slice (some ⟨H.size, 0, none⟩) n n) (H.push (.cells cs e.type)) := by
  unfold xNewS at hk
  split at hk
  · rename_i T es by' u zs hq
    obtain ⟨e, he, hT, hes, hby, hez, hb0⟩ := appK_spec hq
    obtain ⟨hc, hk1⟩ := rec_false hk
    clear hk
    simp only [ble_dec, Bool.and_eq_true, decide_eq_true_eq] at hc
    obtain ⟨ps, hk2, hrep⟩ := xRep_ok hk1
    clear hk1
    obtain ⟨qs, hk3, hfill⟩ := xFill_ok hk2
    clear hk2
    obtain ⟨o, hk4, hrow⟩ := xRowOf_ok hk3
    clear hk3
    obtain ⟨h', hk5, hwp, hnew⟩ := xNew_ok hk4
    clear hk4
    refine ⟨_, h', hk5, hwp, fun {H0 m H vs K} hr hp hf => ?_⟩
    have hzc := hrep (zero_elem he (hz e zs he rfl) m)
    obtain ⟨c', h1, h2, h3⟩ := hfill hzc hp
    have hsz : c'.size = n * es := by rw [h2, ← Array.length_toList, zl_len, hez]
    rw [he, Pu_some]
    have hns : newSliceE (some e) n vs = some c' := by
      unfold newSliceE
      simp only
      rw [if_neg (by rw [hes]; omega), hes]
      show Instr.fill (fun i => some (i * es, es)) ((Array.range (n * es)).map (e.zero[· % e.zero.size]!)) vs = some c'
      rw [← h1]
      unfold zl
      rw [hez]
    rw [hns, Pu_some]
    obtain ⟨r1, r2, r3⟩ := hnew hr (hrow H.size h3 hsz)
    rw [hT]
    exact hf _ _ _ r1 r2 ⟨_, r3, rfl⟩
  · cases hk

noncomputable def xMake (q : Option (Nat × Nat × Nat × Bool)) (zs : Option (List CV)) (l c : CV) (h : CH) (k : CV → CH → Bool) : Bool :=
  match q, zs, l, c with
  | some (T, es, by', u), some zs, .int _ (.ofNat l), .int _ (.ofNat c) => Bool.rec false (match u, zs with
      | true, [.bytes w x] => Bool.rec false (xNew (.row T c 1 none (.nd .lf (some [.bytes c 0]) .lf)) h fun b h' => k (.sl b 0 l c) h') (Nat.beq w 1 && Nat.beq x 0 && Nat.beq es 1)
      | _, zs => xNew (.row T es c (some zs) .lf) h fun b h' => k (.sl b 0 l c) h') (Nat.ble l c && Nat.ble c 281474976710656 && Nat.ble (by' * c) 140737488355328 && Nat.ble 1 es)
  | _, _, _, _ => false
theorem xMake_ok {P : Program} {S : TypeId} {zs : Option (List CV)} {l c : CV} {h : CH} {k : CV → CH → Bool} (hz : ∀ e z, elemI P S = some e → zs = some z → ZeroOk P e.type z) (hk : xMake (appK P S) zs l c h k = true) :
    ∃ z h', k z h' = true ∧ h'.wp = h.wp ∧ ∀ {H0 m H vl vc} {K : Value → Hp → Prop}, Rel H0 m h H → Vrel m l vl → Vrel m c vc → Fin H0 m h H z h' K → Pu (makeE (elemI P S) vl vc H) fun y => K y.1 y.2 := by
  unfold xMake at hk
  split at hk
  · rename_i T es by' u zs ql l qc c hq
    obtain ⟨e, he, hT, hes, hby, hez, hb0⟩ := appK_spec hq
    obtain ⟨hc, hk1⟩ := rec_false hk
    clear hk
    simp only [ble_dec, Bool.and_eq_true, decide_eq_true_eq] at hc
    obtain ⟨⟨⟨c1, c2⟩, c3⟩, c4⟩ := hc
    have core : ∀ (o : CO), (∀ m (b : Nat), Crel m zs e.zero.toList → Orel m (b, (zl e.zero c).size) o (.cells (zl e.zero c) T)) → (xNew o h fun b h' => k (.sl b 0 l c) h') = true →
        ∃ z h', k z h' = true ∧ h'.wp = h.wp ∧ ∀ {H0 m H vl vc} {K : Value → Hp → Prop}, Rel H0 m h H → Vrel m (.int ql (.ofNat l)) vl → Vrel m (.int qc (.ofNat c)) vc → Fin H0 m h H z h' K → Pu (makeE (elemI P S) vl vc H) fun y => K y.1 y.2 := by
      intro o ho hk
      obtain ⟨h', hk5, hwp, hnew⟩ := xNew_ok hk
      refine ⟨_, h', hk5, hwp, fun {H0 m H vl vc K} hr hl hc hf => ?_⟩
      simp only [Vrel] at hl hc
      subst hl hc
      have hm : makeE (elemI P S) (.int ql (.ofNat l)) (.int qc (.ofNat c)) H = some (.slice (some ⟨H.size, 0, none⟩) l c, H.push (.cells (zl e.zero c) T)) := by
        rw [he]
        unfold makeE
        have hcond : (0 : Int) ≤ Int.ofNat l ∧ Int.ofNat l ≤ Int.ofNat c ∧ Int.ofNat c ≤ 2 ^ 48 ∧ (e.bytes : Int) * Int.ofNat c ≤ 2 ^ 47 ∧ (Int.ofNat c = 0 ∨ e.size ≠ 0) := by
          refine ⟨Int.natCast_nonneg l, by show (l : Int) ≤ c; omega, by show (c : Int) ≤ _; omega, ?_, .inr (by omega)⟩
          have : ((e.bytes * c : Nat) : Int) ≤ 140737488355328 := by rw [hby]; omega
          simpa using this
        simp only [hcond, and_self, ne_eq, if_true]
        unfold zl
        rw [hez, hes, hT]
        rfl
      rw [hm, Pu_some]
      obtain ⟨r1, r2, r3⟩ := hnew hr (ho m H.size (zero_elem he (hz e zs he rfl) m))
      exact hf _ _ _ r1 r2 ⟨_, r3, rfl⟩
    have hzs : (zl e.zero c).size = c * es := by rw [← Array.length_toList, zl_len, hez]
    have gen : (xNew (.row T es c (some zs) .lf) h fun b h' => k (.sl b 0 l c) h') = true → _ := core (.row T es c (some zs) .lf) (fun m b hzc => by
      refine ⟨_, rfl, rfl, by rw [hzs]; exact Nat.le_refl _, fun i hi => ⟨zs, rfl, ?_⟩⟩
      have hb := Nat.mul_le_mul_right es (show i + 1 ≤ c from hi)
      rw [Nat.add_mul, Nat.one_mul] at hb
      have : (zl e.zero c).extract (i * es) (i * es + es) = e.zero := by
        apply ext_of_get hez (by omega)
        intro j hj
        unfold zl
        rw [Array.getElem?_map, Array.getElem?_range, hez, if_pos (by omega), Option.map_some, Nat.add_comm, Nat.add_mul_mod_self_right, Nat.mod_eq_of_lt hj, getElem!_pos e.zero j (by omega), Array.getElem?_eq_getElem (by omega)]
      rw [this]; exact hzc)
    split at hk1
    · rename_i w x
      obtain ⟨hc2, hk2⟩ := rec_false hk1
      simp only [beq_dec, Bool.and_eq_true, decide_eq_true_eq] at hc2
      obtain ⟨⟨rfl, rfl⟩, rfl⟩ := hc2
      refine core _ (fun m b hzc => ?_) hk2
      have := row_one (T := T) (b := b) (bytes_zero hzc c)
      simpa [sizeP] using this
    · exact gen hk1
  · cases hk

noncomputable def xMkO (q : Option (Nat × Nat × Nat × Bool)) (zs : Option (List CV)) (l c : CV) (K : CO → Nat → Nat → Bool) : Bool :=
  match q, zs, l, c with
  | some (T, es, by', u), some zs, .int _ (.ofNat l), .int _ (.ofNat c) => Bool.rec false (match u, zs with
      | true, [.bytes w x] => Bool.rec false (K (.row T c 1 none (.nd .lf (some [.bytes c 0]) .lf)) l c) (Nat.beq w 1 && Nat.beq x 0 && Nat.beq es 1)
      | _, zs => K (.row T es c (some zs) .lf) l c) (Nat.ble l c && Nat.ble c 281474976710656 && Nat.ble (by' * c) 140737488355328 && Nat.ble 1 es)
  | _, _, _, _ => false
theorem xMkO_ok {P : Program} {S : TypeId} {zs : Option (List CV)} {l c : CV} {K : CO → Nat → Nat → Bool} (hz : ∀ e z, elemI P S = some e → zs = some z → ZeroOk P e.type z) (hk : xMkO (appK P S) zs l c K = true) :
    ∃ o n n', K o n n' = true ∧ ∀ {m vl vc}, Vrel m l vl → Vrel m c vc → ∃ O z, (∀ H, makeE (elemI P S) vl vc H = some (.slice (some ⟨H.size, 0, none⟩) n n', H.push O)) ∧ ∀ b, Orel m (b, z) o O := by
  unfold xMkO at hk
  split at hk
  · rename_i T es by' u zs ql l qc c hq
    obtain ⟨e, he, hT, hes, hby, hez, hb0⟩ := appK_spec hq
    obtain ⟨hc, hk1⟩ := rec_false hk
    clear hk
    simp only [ble_dec, Bool.and_eq_true, decide_eq_true_eq] at hc
    obtain ⟨⟨⟨c1, c2⟩, c3⟩, c4⟩ := hc
    have core : ∀ (o : CO), (∀ m (b : Nat), Crel m zs e.zero.toList → Orel m (b, (zl e.zero c).size) o (.cells (zl e.zero c) T)) → K o l c = true →
        ∃ o n n', K o n n' = true ∧ ∀ {m vl vc}, Vrel m (.int ql (.ofNat l)) vl → Vrel m (.int qc (.ofNat c)) vc → ∃ O z, (∀ H, makeE (elemI P S) vl vc H = some (.slice (some ⟨H.size, 0, none⟩) n n', H.push O)) ∧ ∀ b, Orel m (b, z) o O := by
      intro o ho hk
      refine ⟨o, l, c, hk, fun {m vl vc} hl hc => ?_⟩
      simp only [Vrel] at hl hc
      subst hl hc
      refine ⟨.cells (zl e.zero c) T, (zl e.zero c).size, fun H => ?_, fun b => ho m b (zero_elem he (hz e zs he rfl) m)⟩
      rw [he]
      unfold makeE
      have hcond : (0 : Int) ≤ Int.ofNat l ∧ Int.ofNat l ≤ Int.ofNat c ∧ Int.ofNat c ≤ 2 ^ 48 ∧ (e.bytes : Int) * Int.ofNat c ≤ 2 ^ 47 ∧ (Int.ofNat c = 0 ∨ e.size ≠ 0) := by
        refine ⟨Int.natCast_nonneg l, by show (l : Int) ≤ c; omega, by show (c : Int) ≤ _; omega, ?_, .inr (by omega)⟩
        have : ((e.bytes * c : Nat) : Int) ≤ 140737488355328 := by rw [hby]; omega
        simpa using this
      simp only [hcond, and_self, ne_eq, if_true]
      unfold zl
      rw [hez, hes, hT]
      rfl
    have hzs : (zl e.zero c).size = c * es := by rw [← Array.length_toList, zl_len, hez]
    have gen : K (.row T es c (some zs) .lf) l c = true → _ := core (.row T es c (some zs) .lf) (fun m b hzc => by
      refine ⟨_, rfl, rfl, by rw [hzs]; exact Nat.le_refl _, fun i hi => ⟨zs, rfl, ?_⟩⟩
      have hb := Nat.mul_le_mul_right es (show i + 1 ≤ c from hi)
      rw [Nat.add_mul, Nat.one_mul] at hb
      have : (zl e.zero c).extract (i * es) (i * es + es) = e.zero := by
        apply ext_of_get hez (by omega)
        intro j hj
        unfold zl
        rw [Array.getElem?_map, Array.getElem?_range, hez, if_pos (by omega), Option.map_some, Nat.add_comm, Nat.add_mul_mod_self_right, Nat.mod_eq_of_lt hj, getElem!_pos e.zero j (by omega), Array.getElem?_eq_getElem (by omega)]
      rw [this]; exact hzc)
    split at hk1
    · rename_i w x
      obtain ⟨hc2, hk2⟩ := rec_false hk1
      simp only [beq_dec, Bool.and_eq_true, decide_eq_true_eq] at hc2
      obtain ⟨⟨rfl, rfl⟩, rfl⟩ := hc2
      refine core _ (fun m b hzc => ?_) hk2
      have := row_one (T := T) (b := b) (bytes_zero hzc c)
      simpa [sizeP] using this
    · exact gen hk1
  · cases hk

/-! ### Slices of slices -/
def xBd (x : Option CV) (d y : Nat) : Option Nat :=
  match x with
  | none => some d
  | some (.int _ (.ofNat i)) => if Nat.ble i y then some i else none
  | _ => none
def Orl (m : M) (x : Option CV) (v : Option Value) : Prop := match x, v with | none, none => True | some x, some v => Vrel m x v | _, _ => False
theorem xBd_ok {m : M} {x : Option CV} {v : Option Value} {d y r : Nat} (h : xBd x d y = some r) (hx : Orl m x v) : boundE v d y = some r ∧ ((x = none → r = d) ∧ (x ≠ none → r ≤ y)) := by
  unfold xBd at h
  split at h
  · injection h with h; subst h
    cases v with
    | none => exact ⟨rfl, fun _ => rfl, fun h => absurd rfl h⟩
    | some v => exact hx.elim
  · rename_i q i
    split at h
    · rename_i hc
      injection h with h; subst h
      have hle := Nat.le_of_ble_eq_true hc
      cases v with
      | none => exact hx.elim
      | some v =>
        simp only [Orl, Vrel] at hx; subst hx
        refine ⟨?_, fun h => (by cases h), fun _ => hle⟩
        have : (0 : Int) ≤ Int.ofNat i ∧ Int.ofNat i ≤ (y : Int) := ⟨Int.natCast_nonneg i, by show (i : Int) ≤ y; omega⟩
        simp only [boundE, this, and_self, if_true]; rfl
    · cases h
  · cases h
def xHi (mx hi : Option CV) (n m : Nat) : Option Nat :=
  match mx, hi with
  | some _, none => none
  | _, _ => xBd hi n m
theorem xHi_ok {m : M} {mx hi : Option CV} {vm vh : Option Value} {n y r : Nat} (h : xHi mx hi n y = some r) (hm : Orl m mx vm) (hh : Orl m hi vh) : hiE vm vh n y = some r ∧ ((hi = none → r = n) ∧ (hi ≠ none → r ≤ y)) := by
  unfold xHi at h
  split at h
  · cases h
  · rename_i hne
    obtain ⟨h1, h2⟩ := xBd_ok h hh
    refine ⟨?_, h2⟩
    unfold hiE
    split
    · cases mx <;> cases hi <;> simp_all [Orl]
    · exact h1

noncomputable def xSlice (q : Option (Option Nat × Nat)) (x : CV) (lo hi mx : Option CV) (k : CV → Bool) : Bool :=
  match q, x with
  | some (none, s), .nils => (match xBd mx 0 0, xHi mx hi 0 0, xBd lo 0 0 with
    | some _, some hh, some l => Bool.rec false (k .nils) (Nat.beq hh 0 && Nat.beq l 0)
    | _, _, _ => false)
  | some (none, s), .sl b o n c => (match xBd mx c c with
    | some m => (match xHi mx hi n m with
      | some hh => (match xBd lo 0 hh with
        | some l => Bool.rec (forceN (o + l * s) fun o' => forceN (hh - l) fun n' => forceN (m - l) fun c' => k (.sl b o' n' c')) (forceN (hh - l) fun n' => k (.sl b o n' 0)) (Nat.beq m l)
        | none => false)
      | none => false)
    | none => false)
  | some (none, s), .so b o n es => (match mx with
    | none => (match xHi none hi n n with
      | some hh => (match xBd lo 0 hh with
        | some l => Bool.rec false (forceN (o + l * s) fun o' => forceN (hh - l) fun n' => k (.so b o' n' es)) (Nat.beq s es && Nat.ble l hh)
        | none => false)
      | none => false)
    | some mx => (match xBd (some mx) n n with
      | some m => (match xHi (some mx) hi n m with
        | some hh => (match xBd lo 0 hh with
          | some l => Bool.rec false (forceN (o + l * s) fun o' => forceN (hh - l) fun n' => forceN (m - l) fun c' => k (.sl b o' n' c')) (Nat.ble 1 n && Nat.ble (l + 1) m && Nat.ble m n)
          | none => false)
        | none => false)
      | none => false))
  | some (some n, s), .ptr b o => (match xBd mx n n with
    | some m => (match xHi mx hi n m with
      | some hh => (match xBd lo 0 hh with
        | some l => Bool.rec (forceN (o + l * s) fun o' => forceN (hh - l) fun n' => forceN (m - l) fun c' => k (.sl b o' n' c')) (forceN (hh - l) fun n' => k (.sl b o n' 0)) (Nat.beq m l)
        | none => false)
      | none => false)
    | none => false)
  | _, _ => false

theorem idxK_slice {P : Program} {T : TypeId} {s : Nat} (h : idxK P T = some (none, s)) : ∃ e i, P.underlying T = some (.slice e) ∧ P.info? e = some i ∧ i.size = s := by
  unfold idxK at h
  split at h
  · simp only [Option.map_eq_some_iff, Prod.mk.injEq, reduceCtorEq, false_and, and_false, exists_false] at h
  · rename_i e hu
    simp only [Option.map_eq_some_iff, Prod.mk.injEq, true_and] at h
    obtain ⟨i, hi, hs⟩ := h
    exact ⟨e, i, hu, hi, hs⟩
  · cases h
theorem idxK_array {P : Program} {T : TypeId} {n s : Nat} (h : idxK P T = some (some n, s)) : ∃ e i, P.underlying T = some (.array n e) ∧ P.info? e = some i ∧ i.size = s := by
  unfold idxK at h
  split at h
  · rename_i n' e hu
    simp only [Option.map_eq_some_iff, Prod.mk.injEq, Option.some.injEq] at h
    obtain ⟨i, hi, rfl, hs⟩ := h
    exact ⟨e, i, hu, hi, hs⟩
  · simp only [Option.map_eq_some_iff, Prod.mk.injEq, reduceCtorEq, false_and, and_false, exists_false] at h
  · cases h

theorem xSlice_ok {P : Program} {T : TypeId} {x : CV} {lo hi mx : Option CV} {k : CV → Bool} (hk : xSlice (idxK P T) x lo hi mx k = true) : ∃ z, k z = true ∧ ∀ {m vx vlo vhi vmx}, Vrel m x vx → Orl m lo vlo → Orl m hi vhi → Orl m mx vmx →
    ∃ v, sliceE P T vx vlo vhi vmx = some v ∧ Vrel m z v := by
  unfold xSlice at hk
  split at hk
  · rename_i s hq
    obtain ⟨e, i, hu, hi', hs⟩ := idxK_slice hq
    split at hk
    · rename_i mm hh l h1 h2 h3
      obtain ⟨hc, hk⟩ := rec_false hk
      simp only [beq_dec, Bool.and_eq_true, decide_eq_true_eq] at hc
      obtain ⟨rfl, rfl⟩ := hc
      refine ⟨_, hk, fun {m vx vlo vhi vmx} hx hlo hhi hmx => ?_⟩
      simp only [Vrel] at hx; subst hx
      obtain ⟨b1, b2, b3⟩ := xBd_ok h1 hmx
      have hm0 : mm = 0 := by
        by_cases hmn : mx = none
        · exact b2 hmn
        · have := b3 hmn; omega
      subst hm0
      obtain ⟨b4, _⟩ := xHi_ok h2 hmx hhi
      obtain ⟨b5, _⟩ := xBd_ok h3 hlo
      refine ⟨.slice none 0 0, ?_, rfl⟩
      unfold sliceE
      rw [hu]
      simp only [b1, b4, b5, hi', Option.bind_some, Option.map_some]
      simp
    · cases hk
  · rename_i s b o n c hq
    obtain ⟨e, i, hu, hi', hs⟩ := idxK_slice hq
    split at hk
    · rename_i mm h1
      split at hk
      · rename_i hh h2
        split at hk
        · rename_i l h3
          rw [beq_dec] at hk
          by_cases hml : mm = l
          · rw [decide_eq_true hml] at hk
            simp only [forceN_eq] at hk
            refine ⟨_, hk, fun {m vx vlo vhi vmx} hx hlo hhi hmx => ?_⟩
            obtain ⟨e', he, rfl⟩ := hx
            obtain ⟨b1, _⟩ := xBd_ok h1 hmx
            obtain ⟨b4, _⟩ := xHi_ok h2 hmx hhi
            obtain ⟨b5, _⟩ := xBd_ok h3 hlo
            refine ⟨.slice (some ⟨e'.1, o, none⟩) (hh - l) 0, ?_, e', he, rfl⟩
            unfold sliceE
            rw [hu]
            simp only [b1, b4, b5, hi', Option.bind_some, Option.map_some]
            rw [if_pos hml, show mm - l = 0 by omega]
          · rw [decide_eq_false hml] at hk
            simp only [forceN_eq] at hk
            refine ⟨_, hk, fun {m vx vlo vhi vmx} hx hlo hhi hmx => ?_⟩
            obtain ⟨e', he, rfl⟩ := hx
            obtain ⟨b1, _⟩ := xBd_ok h1 hmx
            obtain ⟨b4, _⟩ := xHi_ok h2 hmx hhi
            obtain ⟨b5, _⟩ := xBd_ok h3 hlo
            refine ⟨.slice (some ⟨e'.1, o + l * s, none⟩) (hh - l) (mm - l), ?_, e', he, rfl⟩
            unfold sliceE
            rw [hu]
            simp only [b1, b4, b5, hi', Option.bind_some, Option.map_some]
            rw [if_neg hml, hs, Addr.add_mk]
        · cases hk
      · cases hk
    · cases hk
  · rename_i s b o n es hq
    obtain ⟨e, i, hu, hi', hs⟩ := idxK_slice hq
    split at hk
    · split at hk
      · rename_i hh h2
        split at hk
        · rename_i l h3
          obtain ⟨hc, hk⟩ := rec_false hk
          simp only [beq_dec, ble_dec, Bool.and_eq_true, decide_eq_true_eq] at hc
          obtain ⟨rfl, hlh⟩ := hc
          simp only [forceN_eq] at hk
          refine ⟨_, hk, fun {m vx vlo vhi vmx} hx hlo hhi hmx => ?_⟩
          obtain ⟨e', base, cp, he, rfl, hlc, hroom, hsp, hbl, hoff⟩ := hx
          obtain ⟨bb, bo, bs⟩ := base
          simp only at hsp hbl hoff
          subst hsp hbl
          have hvm : vmx = none := by cases vmx with
            | none => rfl
            | some v => exact hmx.elim
          subst hvm
          obtain ⟨b4, b6, b7⟩ := xHi_ok (m := m) (vm := none) h2 trivial hhi
          obtain ⟨b5, _⟩ := xBd_ok h3 hlo
          have hhn : hh ≤ n := by
            by_cases hn : hi = none
            · exact Nat.le_of_eq (b6 hn)
            · exact b7 hn
          have b4' : hiE none vhi n cp = some hh := by
            have : hiE none vhi n n = boundE vhi n n := by cases vhi <;> rfl
            rw [this] at b4
            have : hiE none vhi n cp = boundE vhi n cp := by cases vhi <;> rfl
            rw [this]
            cases vhi with
            | none => exact b4
            | some v =>
              unfold boundE at b4 ⊢
              cases v <;> simp only at b4 ⊢ <;> try (cases b4; done)
              split at b4
              · rename_i hc
                rw [if_pos ⟨hc.1, by omega⟩]; exact b4
              · cases b4
          refine ⟨.slice (if cp = l then some ⟨e'.1, bo, none⟩ else some (Addr.add ⟨e'.1, bo, none⟩ (l * s))) (hh - l) (cp - l), ?_, e', (if cp = l then ⟨e'.1, bo, none⟩ else Addr.add ⟨e'.1, bo, none⟩ (l * s)), cp - l, he, ?_, by omega, ?_, ?_, ?_, ?_⟩
          · unfold sliceE
            rw [hu]
            have hb0 : boundE none cp cp = some cp := rfl
            simp only [hb0, b4', b5, hi', Option.bind_some, Option.map_some, hs]
          · split <;> rfl
          · have e1 : cp * s = l * s + (cp - l) * s := by rw [← Nat.add_mul]; congr 1; omega
            omega
          · split
            · rfl
            · rw [Addr.add_mk]
          · split
            · rfl
            · rw [Addr.add_mk]
          · intro h0
            split
            · rename_i hcl
              simp only
              rcases h0 with h0 | h0
              · omega
              · have : o = 0 := by omega
                have h5 := hoff (.inr this)
                omega
            · rename_i hcl
              rw [Addr.add_mk]
              simp only
              rcases h0 with h0 | h0
              · rw [hoff (.inl (by omega))]
              · have : o = 0 := by omega
                rw [hoff (.inr this)]
        · cases hk
      · cases hk
    · rename_i mx
      split at hk
      · rename_i mm h1
        split at hk
        · rename_i hh h2
          split at hk
          · rename_i l h3
            obtain ⟨hc, hk⟩ := rec_false hk
            simp only [ble_dec, Bool.and_eq_true, decide_eq_true_eq] at hc
            obtain ⟨⟨hn1, hlm⟩, hmn⟩ := hc
            simp only [forceN_eq] at hk
            refine ⟨_, hk, fun {m vx vlo vhi vmx} hx hlo hhi hmx => ?_⟩
            obtain ⟨e', base, cp, he, rfl, hlc, hroom, hsp, hbl, hoff⟩ := hx
            obtain ⟨bb, bo, bs⟩ := base
            simp only at hsp hbl hoff
            subst hsp hbl
            have := hoff (.inl (by omega))
            subst this
            cases vmx with
            | none => exact hmx.elim
            | some vm =>
              obtain ⟨b1, _, b3⟩ := xBd_ok h1 hmx
              obtain ⟨b4, _⟩ := xHi_ok h2 hmx hhi
              obtain ⟨b5, _⟩ := xBd_ok h3 hlo
              have b1' : boundE (some vm) cp cp = some mm := by
                unfold boundE at b1 ⊢
                cases vm <;> simp only at b1 ⊢ <;> try (cases b1; done)
                split at b1
                · rename_i hc
                  rw [if_pos ⟨hc.1, by omega⟩]; exact b1
                · cases b1
              refine ⟨.slice (some ⟨e'.1, bo + l * s, none⟩) (hh - l) (mm - l), ?_, e', he, rfl⟩
              unfold sliceE
              rw [hu]
              simp only [b1', b4, b5, hi', Option.bind_some, Option.map_some]
              rw [if_neg (by omega), hs, Addr.add_mk]
          · cases hk
        · cases hk
      · cases hk
  · rename_i n s b o hq
    obtain ⟨e, i, hu, hi', hs⟩ := idxK_array hq
    split at hk
    · rename_i mm h1
      split at hk
      · rename_i hh h2
        split at hk
        · rename_i l h3
          rw [beq_dec] at hk
          by_cases hml : mm = l
          · rw [decide_eq_true hml] at hk
            simp only [forceN_eq] at hk
            refine ⟨_, hk, fun {m vx vlo vhi vmx} hx hlo hhi hmx => ?_⟩
            obtain ⟨e', he, rfl⟩ := hx
            obtain ⟨b1, _⟩ := xBd_ok h1 hmx
            obtain ⟨b4, _⟩ := xHi_ok h2 hmx hhi
            obtain ⟨b5, _⟩ := xBd_ok h3 hlo
            refine ⟨.slice (some ⟨e'.1, o, none⟩) (hh - l) 0, ?_, e', he, rfl⟩
            unfold sliceE
            rw [hu]
            simp only [b1, b4, b5, hi', Option.bind_some, Option.map_some]
            rw [if_pos hml, show mm - l = 0 by omega]
          · rw [decide_eq_false hml] at hk
            simp only [forceN_eq] at hk
            refine ⟨_, hk, fun {m vx vlo vhi vmx} hx hlo hhi hmx => ?_⟩
            obtain ⟨e', he, rfl⟩ := hx
            obtain ⟨b1, _⟩ := xBd_ok h1 hmx
            obtain ⟨b4, _⟩ := xHi_ok h2 hmx hhi
            obtain ⟨b5, _⟩ := xBd_ok h3 hlo
            refine ⟨.slice (some ⟨e'.1, o + l * s, none⟩) (hh - l) (mm - l), ?_, e', he, rfl⟩
            unfold sliceE
            rw [hu]
            simp only [b1, b4, b5, hi', Option.bind_some, Option.map_some]
            rw [if_neg hml, hs, Addr.add_mk]
        · cases hk
      · cases hk
    · cases hk
  · cases hk

/-! ### len -/
def lenK (P : Program) (T : TypeId) : Option (Sum Bool Nat) :=
  match P.underlying T with
  | some .string => some (.inl true)
  | some (.slice _) => some (.inl false)
  | some (.array n _) => some (.inr n)
  | some (.pointer a) => match P.underlying a with | some (.array n _) => some (.inr n) | _ => none
  | _ => none
theorem lenK_slice {P : Program} {T : TypeId} (hq : lenK P T = some (.inl false)) : ∃ e, P.underlying T = some (.slice e) := by
  unfold lenK at hq
  split at hq <;> first | (exact ⟨_, by assumption⟩) | (cases hq; done) | (split at hq <;> cases hq)
noncomputable def xLen (q : Option (Sum Bool Nat)) (x : CV) (k : CV → Bool) : Bool :=
  match q, x with
  | some (.inr n), _ => k (.int .i64 (.ofNat n))
  | some (.inl true), .str s => forceN s.size fun n => k (.int .i64 (.ofNat n))
  | some (.inl false), .nils => k (.int .i64 0)
  | some (.inl false), .sl _ _ n _ => k (.int .i64 (.ofNat n))
  | some (.inl false), .so _ _ n _ => k (.int .i64 (.ofNat n))
  | _, _ => false
theorem xLen_ok {P : Program} {T : TypeId} {x : CV} {k : CV → Bool} (hk : xLen (lenK P T) x k = true) : ∃ z, k z = true ∧ ∀ {m vx}, Vrel m x vx → ∃ v, lenE P T vx = some v ∧ Vrel m z v := by
  unfold xLen at hk
  split at hk
  · rename_i n hq
    refine ⟨_, hk, fun {m vx} hx => ⟨.int .i64 n, ?_, rfl⟩⟩
    unfold lenK at hq
    unfold lenE
    split at hq <;> try (cases hq; done)
    · rename_i n' e hu
      injection hq with hq; injection hq with hq; subst hq
      rw [hu]; rfl
    · rename_i a hu
      split at hq
      · rename_i n' e hu2
        injection hq with hq; injection hq with hq; subst hq
        rw [hu]; simp only [hu2]; rfl
      · cases hq
  · rename_i s hq
    rw [forceN_eq] at hk
    refine ⟨_, hk, fun {m vx} hx => ⟨.int .i64 s.size, ?_, rfl⟩⟩
    simp only [Vrel] at hx; subst hx
    have hu : P.underlying T = some .string := by
      unfold lenK at hq
      split at hq <;> first | assumption | (cases hq; done) | (split at hq <;> cases hq)
    unfold lenE; rw [hu]; rfl
  · rename_i hq
    obtain ⟨e, hu⟩ := lenK_slice hq
    refine ⟨_, hk, fun {m vx} hx => ⟨.int .i64 0, ?_, rfl⟩⟩
    simp only [Vrel] at hx; subst hx
    exact len_slice hu
  · rename_i hq
    obtain ⟨e, hu⟩ := lenK_slice hq
    refine ⟨_, hk, fun {m vx} hx => ?_⟩
    obtain ⟨e', he, rfl⟩ := hx
    exact ⟨_, len_slice hu, rfl⟩
  · rename_i hq
    obtain ⟨e, hu⟩ := lenK_slice hq
    refine ⟨_, hk, fun {m vx} hx => ?_⟩
    obtain ⟨e', base, c, he, rfl, _⟩ := hx
    exact ⟨_, len_slice hu, rfl⟩
  · cases hk

/-! ### Parts of strings -/
def strU (P : Program) (T : TypeId) : Bool := match P.underlying T with | some .string => true | _ => false
noncomputable def xSliceS (x : CV) (lo hi mx : Option CV) (k : CV → Bool) : Bool :=
  match x, mx with
  | .str s, none => (match xBd hi s.data.toList.length s.data.toList.length with
    | some hh => (match xBd lo 0 hh with
      | some l => k (.str ⟨⟨(s.data.toList.drop l).take (hh - l)⟩⟩)
      | none => false)
    | none => false)
  | _, _ => false
theorem xSliceS_ok {P : Program} {T : TypeId} (hu : strU P T = true) {x : CV} {lo hi mx : Option CV} {k : CV → Bool} (hk : xSliceS x lo hi mx k = true) : ∃ z, k z = true ∧ ∀ {m vx vlo vhi vmx}, Vrel m x vx → Orl m lo vlo → Orl m hi vhi → Orl m mx vmx →
    ∃ v, sliceE P T vx vlo vhi vmx = some v ∧ Vrel m z v := by
  have hu' : P.underlying T = some .string := by
    unfold strU at hu
    split at hu
    · assumption
    · cases hu
  unfold xSliceS at hk
  split at hk
  · rename_i s
    split at hk
    · rename_i hh h1
      split at hk
      · rename_i l h2
        refine ⟨_, hk, fun {m vx vlo vhi vmx} hx hlo hhi hmx => ?_⟩
        simp only [Vrel] at hx
        subst hx
        have e1 := (xBd_ok h1 hhi).1
        have e2 := (xBd_ok h2 hlo).1
        cases vmx with
        | some v => exact hmx.elim
        | none =>
          have hs : s.size = s.data.toList.length := rfl
          refine ⟨.string (s.extract l hh), ?_, ?_⟩
          · unfold sliceE
            rw [hu']
            show ((boundE vhi s.size s.size).bind fun h => (boundE vlo 0 h).map fun l => Value.string (s.extract l h)) = _
            rw [hs, e1]
            show (boundE vlo 0 hh).map (fun l => Value.string (s.extract l hh)) = _
            rw [e2]; rfl
          · simp only [Vrel]
            congr 1
            apply ByteArray.ext
            rw [ByteArray.data_extract]
            apply Array.ext'
            rw [Array.toList_extract, List.extract_eq_take_drop]
      · cases hk
    · cases hk
  · cases hk
end Go.Xc
