/- Xc, part D: operations on memory: loads, stores, new blocks. -/
import Derived.Test.YtacfcgoighnioaaGreatXcC
set_option linter.unusedVariables false
set_option linter.unusedSectionVars false
set_option linter.unusedSimpArgs false
namespace Go.Xc
open Go.Vc
variable [Sites]

/-- What is asked of the way on. -/
def Fin (H0 : Hp) (m : M) (h : CH) (H : Hp) (z : CV) (h' : CH) (K : Value → Hp → Prop) : Prop :=
  ∀ m' H' v, Rel H0 m' h' H' → Stp h.wp m H m' H' → Vrel m' z v → K v H'

/-- Where cell o of block b stands: the element, the cell in it. -/
noncomputable def xRow (h : CH) (b o : Nat) (k : TypeId → Nat → Nat → Option (List CV) → Tr (List CV) → Nat → Nat → List CV → Bool) : Bool :=
  match h.get b with
  | some (.row T es len d t) => forceN (o / es) fun i => Bool.rec false (match elt t d i with | some ps => forceN (o % es) fun j => k T es len d t i j ps | none => false) (Nat.ble (i + 1) len)
  | _ => false
theorem xRow_ok {h : CH} {b o : Nat} {k : TypeId → Nat → Nat → Option (List CV) → Tr (List CV) → Nat → Nat → List CV → Bool} (hk : xRow h b o k = true) :
    ∃ T es len d t i j ps, k T es len d t i j ps = true ∧ h.get b = some (.row T es len d t) ∧ i < len ∧ elt t d i = some ps ∧ o = i * es + j := by
  unfold xRow at hk
  split at hk
  · rename_i T es len d t hg
    rw [forceN_eq, ble_dec] at hk
    by_cases hc : o / es + 1 ≤ len
    · rw [decide_eq_true hc] at hk
      simp only at hk
      split at hk
      · rename_i ps hps
        rw [forceN_eq] at hk
        exact ⟨T, es, len, d, t, _, _, ps, hk, hg, hc, hps, by rw [Nat.mul_comm]; exact (Nat.div_add_mod o es).symm⟩
      · cases hk
    · rw [decide_eq_false hc] at hk; cases hk
  · cases hk

theorem ext_len {c : Array Value} {i es len z : Nat} (hs : c.size = z) (hl : len * es ≤ z) (hi : i < len) : (c.extract (i * es) (i * es + es)).toList.length = es ∧ i * es + es ≤ c.size := by
  have h1 := Nat.mul_le_mul_right es (show i + 1 ≤ len from hi)
  rw [Nat.add_mul, Nat.one_mul] at h1
  rw [Array.length_toList, Array.size_extract]
  omega
theorem ext_get {c : Array Value} {i es j : Nat} (hb : i * es + es ≤ c.size) (hj : j < es) : (c.extract (i * es) (i * es + es))[j]? = c[i * es + j]? := by
  rw [Array.getElem?_extract, if_pos (by omega)]

noncomputable def xLoad0 (q : Option (Option Nat)) (x : CV) (h : CH) (k : CV → Bool) : Bool :=
  match x with
  | .ptr b o => xRow h b o fun T es len d t i j ps => xPart q ps j k
  | _ => false
theorem xLoad0_ok {q : Option (Option Nat)} {x : CV} {h : CH} {k : CV → Bool} (hk : xLoad0 q x h k = true) : ∃ z, k z = true ∧ ∀ {H0 m H vx}, Rel H0 m h H → Vrel m x vx → ∃ v, loadE q vx H = some v ∧ Vrel m z v := by
  unfold xLoad0 at hk
  split at hk
  · rename_i b o
    obtain ⟨T, es, len, d, t, i, j, ps, hk, hg, hi, hps, ho⟩ := xRow_ok hk
    unfold xPart at hk
    split at hk
    · split at hk
      · rename_i v hv
        rw [forceC_eq] at hk
        refine ⟨v, hk, fun {H0 m H vx} hr hx => ?_⟩
        obtain ⟨e, he, rfl⟩ := hx
        obtain ⟨e', O, h1, h2, c, rfl, h3, h4, h5⟩ := hr.obj b _ hg
        rw [he] at h1; injection h1 with h1; subst h1
        obtain ⟨ps', h6, h7⟩ := h5 i hi
        rw [hps] at h6; injection h6 with h6; subst h6
        obtain ⟨u, h8, h9⟩ := getP_ok h7 hv
        obtain ⟨hl, hb⟩ := ext_len h3 h4 hi
        have hj : j < es := by
          rcases Nat.lt_or_ge j es with h | h
          · exact h
          · rw [List.getElem?_eq_none (by omega)] at h8; cases h8
        rw [Array.getElem?_toList, ext_get hb hj, ← ho] at h8
        exact ⟨u, by rw [load_cell h2]; exact h8, h9⟩
      · cases hk
    · rename_i n _
      split at hk
      · rename_i a r h1
        split at hk
        · rename_i cc dd h2
          rw [forceP_eq] at hk
          refine ⟨_, hk, fun {H0 m H vx} hr hx => ?_⟩
          obtain ⟨e, he, rfl⟩ := hx
          obtain ⟨e', O, k1, k2, c, rfl, k3, k4, k5⟩ := hr.obj b _ hg
          rw [he] at k1; injection k1 with k1; subst k1
          obtain ⟨ps', h6, h7⟩ := k5 i hi
          rw [hps] at h6; injection h6 with h6; subst h6
          obtain ⟨hl, hb⟩ := ext_len k3 k4 hi
          obtain ⟨l1, l2, l3, hl', e1, e2, _, r2, _⟩ := split_mid h7 h1 h2
          have hlen : j + n ≤ es := by rw [← hl, hl']; simp; omega
          refine ⟨.agg (c.extract o (o + n)), load_row k2 (by omega), _, rfl, ?_⟩
          have : (c.extract o (o + n)).toList = l2 := by
            have h8 : (c.extract o (o + n)).toList = ((c.extract (i * es) (i * es + es)).toList.drop j).take n := by
              rw [Array.toList_extract, Array.toList_extract, List.extract_eq_take_drop, List.extract_eq_take_drop, show o + n - o = n by omega, show i * es + es - i * es = es by omega, List.drop_take, List.drop_drop, List.take_take, ho, show min n (es - j) = n by omega]
            rw [h8, hl', ← e1, List.drop_left, ← e2, List.take_left]
          rw [this]; exact r2
        · cases hk
      · cases hk
    · cases hk
  · cases hk

/-- One cell of bytes that are not written. -/
noncomputable def xLoadZ (q : Option (Option Nat)) (n x o : Nat) (k : CV → Bool) : Bool :=
  match q with
  | some none => Bool.rec false (forceN (x >>> (8 * o) % 256) fun y => k (.int .u8 (.ofNat y))) (Nat.ble (o + 1) n)
  | _ => false
noncomputable def xLoad (q : Option (Option Nat)) (x : CV) (h : CH) (k : CV → Bool) : Bool :=
  match x with
  | .ptr b o => (match h.get b with
    | some (.fz _ n y) => xLoadZ q n y o k
    | _ => xLoad0 q (.ptr b o) h k)
  | _ => false
theorem xLoad_ok {q : Option (Option Nat)} {x : CV} {h : CH} {k : CV → Bool} (hk : xLoad q x h k = true) : ∃ z, k z = true ∧ ∀ {H0 m H vx}, Rel H0 m h H → Vrel m x vx → ∃ v, loadE q vx H = some v ∧ Vrel m z v := by
  unfold xLoad at hk
  split at hk
  · rename_i b o
    split at hk
    · rename_i T n y hg
      unfold xLoadZ at hk
      split at hk
      · cases hc : Nat.ble (o + 1) n with
        | false => rw [hc] at hk; cases hk
        | true =>
          rw [hc] at hk
          have hon : o + 1 ≤ n := Nat.le_of_ble_eq_true hc
          have hk' : forceN (y >>> (8 * o) % 256) (fun y => k (.int .u8 (.ofNat y))) = true := hk
          rw [forceN_eq] at hk'
          refine ⟨_, hk', fun {H0 m H vx} hr hx => ?_⟩
          obtain ⟨e, he, rfl⟩ := hx
          obtain ⟨e', O, h1, h2, c, T0, z, rfl, h3, h4, h5⟩ := hr.obj b _ hg
          rw [he] at h1; injection h1 with h1; subst h1
          refine ⟨.int .u8 ((y >>> (8 * o) % 256 : Nat) : Int), ?_, rfl⟩
          rw [load_cell h2]
          have h6 := bytesL_get n y o (by omega)
          rw [← h5, Array.getElem?_toList, Array.getElem?_extract, if_pos (by omega), Nat.zero_add] at h6
          exact h6
      · cases hk
    · exact xLoad0_ok hk
  · cases hk


/-- Some cells of a block written. -/
theorem row_put {m : M} {e : Nat × Nat} {T : TypeId} {es len : Nat} {d : Option (List CV)} {t t' : Tr (List CV)} {c : Array Value} {i j n : Nat} {ps a r mid cc vs : List CV} {vl : Array Value}
    (ho : Orel m e (.row T es len d t) (.cells c T)) (hi : i < len) (hps : elt t d i = some ps) (h1 : splitP ps j = some (a, r)) (h2 : splitP r n = some (mid, cc)) (hv : Crel m vs vl.toList) (hn : vl.size = n)
    (ht : t'.get i = some (appP a (appP vs cc))) (hto : ∀ q, q ≠ i → t'.get q = t.get q) : i * es + j + n ≤ c.size ∧ Orel m e (.row T es len d t') (.cells (splice c (i * es + j) vl) T) := by
  obtain ⟨c', hc, k3, k4, k5⟩ := ho
  injection hc with hc; subst hc
  obtain ⟨ps', h6, h7⟩ := k5 i hi
  rw [hps] at h6; injection h6 with h6; subst h6
  obtain ⟨hl, hb⟩ := ext_len k3 k4 hi
  obtain ⟨l1, l2, l3, hl', e1, e2, r1, r2, r3⟩ := split_mid h7 h1 h2
  have hlen : j + n ≤ es := by rw [← hl, hl']; simp; omega
  have hvl : vl.toList.length = n := by rw [Array.length_toList]; exact hn
  refine ⟨by omega, _, rfl, by rw [splice_size (by omega)]; exact k3, k4, fun q hq => ?_⟩
  by_cases hqi : q = i
  · subst hqi
    refine ⟨appP a (appP vs cc), by unfold elt; rw [ht], ?_⟩
    have : ((splice c (q * es + j) vl).extract (q * es) (q * es + es)).toList = l1 ++ (vl.toList ++ l3) := by
      apply List.ext_getElem?
      intro p
      rw [Array.getElem?_toList, Array.getElem?_extract, splice_size (by omega)]
      have hL : ∀ p, p < es → c[q * es + p]? = (l1 ++ (l2 ++ l3))[p]? := fun p hp => by
        rw [← hl', Array.getElem?_toList, ext_get hb hp]
      by_cases hp : p < es
      · rw [if_pos (by omega), splice_get (by omega)]
        by_cases hp1 : p < j
        · rw [if_pos (by omega), hL p hp, List.getElem?_append_left (by omega), List.getElem?_append_left (by omega)]
        · rw [if_neg (by omega), List.getElem?_append_right (by omega)]
          by_cases hp2 : p < j + n
          · rw [if_pos (by omega), List.getElem?_append_left (by omega), Array.getElem?_toList]
            congr 1; omega
          · rw [if_neg (by omega), hL p hp, List.getElem?_append_right (by omega), List.getElem?_append_right (by omega), List.getElem?_append_right (by omega)]
            congr 1; omega
      · rw [if_neg (by omega)]
        have : (l1 ++ (vl.toList ++ l3)).length = es := by rw [← hl, hl']; simp; omega
        rw [List.getElem?_eq_none (by omega)]
    rw [this]
    exact appP_ok r1 (appP_ok hv r3)
  · obtain ⟨ps2, h8, h9⟩ := k5 q hq
    refine ⟨ps2, by unfold elt; rw [hto q hqi]; exact h8, ?_⟩
    obtain ⟨hlq, hbq⟩ := ext_len k3 k4 hq
    have hd : q * es + es ≤ i * es + j ∨ i * es + j + n ≤ q * es := by
      rcases Nat.lt_or_gt_of_ne hqi with h | h
      · have := Nat.mul_le_mul_right es (show q + 1 ≤ i from h); rw [Nat.add_mul, Nat.one_mul] at this; omega
      · have := Nat.mul_le_mul_right es (show i + 1 ≤ q from h); rw [Nat.add_mul, Nat.one_mul] at this; omega
    rw [extract_splice_other (n := n) (by omega) hn hbq hd]
    exact h9

noncomputable def xStore (sz : Option Nat) (x v : CV) (h : CH) (k : CH → Bool) : Bool :=
  match sz, x with
  | some n, .ptr b o => (match toP v with
    | some vs => Bool.rec false (xRow h b o fun T es len d t i j ps => (match splitP ps j with
      | some (a, r) => (match splitP r n with
        | some (_, c) => forceP (appP a (appP vs c)) fun new => Tr.setK (some new) 64 t i fun t' => xSet b (.row T es len d t') h k
        | none => false)
      | none => false)) (Nat.beq (sizeP vs) n)
    | none => false)
  | _, _ => false
theorem xStore_ok {sz : Option Nat} {x v : CV} {h : CH} {k : CH → Bool} (hk : xStore sz x v h k = true) : ∃ h', k h' = true ∧ h'.wp = h.wp ∧ ∀ {H0 m H vx vv} {K : Hp → Prop}, Rel H0 m h H → Vrel m x vx → Vrel m v vv →
    (∀ H', Rel H0 m h' H' → Stp h.wp m H m H' → K H') → Pu (storeE sz vx vv H) K := by
  unfold xStore at hk
  split at hk
  · rename_i n b o
    split at hk
    · rename_i vs hvs
      rw [beq_dec] at hk
      by_cases hsz : sizeP vs = n
      · rw [decide_eq_true hsz] at hk
        obtain ⟨T, es, len, d, t, i, j, ps, hk, hg, hi, hps, ho⟩ := xRow_ok hk
        split at hk
        · rename_i a r h1
          split at hk
          · rename_i mid cc h2
            rw [forceP_eq] at hk
            obtain ⟨t', hk, ht1, ht2⟩ := Tr.setK_ok hk
            obtain ⟨h', hk', hwp, hset⟩ := xSet_ok hk
            refine ⟨h', hk', hwp, fun {H0 m H vx vv K} hr hx hv hK => ?_⟩
            obtain ⟨e, he, rfl⟩ := hx
            have hor := hr.obj b _ hg
            obtain ⟨e', O, k1, k2, k3⟩ := hor
            rw [he] at k1; injection k1 with k1; subst k1
            have k3' := k3
            obtain ⟨c, rfl, _⟩ := k3'
            have hcv := toP_ok hv hvs
            have hnv : vv.cells.size = n := by rw [← Array.length_toList, sizeP_ok hcv, hsz]
            obtain ⟨hb, hor2⟩ := row_put k3 hi hps h1 h2 hcv hnv ht1 ht2
            obtain ⟨hr2, hs2⟩ := hset hr hg he hor2
            have hput : storeE (some n) (.pointer (some ⟨e.1, o, none⟩)) vv H = some (H.setIfInBounds e.1 (.cells (splice c (i * es + j) vv.cells) T)) := by
              unfold storeE putH
              have hall := Crel_ok hcv
              have hcond : o + vv.cells.size ≤ c.size := by omega
              simp only [k2]
              rw [if_pos (by rw [hnv]), if_pos ⟨trivial, hcond, hall⟩, ho]
            rw [hput, Pu_some]
            exact hK _ hr2 hs2
          · cases hk
        · cases hk
      · rw [decide_eq_false hsz] at hk; cases hk
    · cases hk
  · cases hk

theorem row_one {m : M} {T : TypeId} {ps : List CV} {c : Array Value} {b : Nat} (h : Crel m ps c.toList) : Orel m (b, c.size) (.row T (sizeP ps) 1 none (.nd .lf (some ps) .lf)) (.cells c T) := by
  have hs : c.size = sizeP ps := by rw [← Array.length_toList, sizeP_ok h]
  refine ⟨c, rfl, rfl, by rw [hs]; omega, fun i hi => ⟨ps, ?_, ?_⟩⟩
  · have : i = 0 := by omega
    subst this; rfl
  · have : i = 0 := by omega
    subst this
    rw [Nat.zero_mul, Nat.zero_add, ← hs, Array.extract_size]; exact h
noncomputable def xBoxP (T : TypeId) (ps : List CV) (h : CH) (k : CV → CH → Bool) : Bool :=
  forceN (sizeP ps) fun n => xNew (.row T n 1 none (.nd .lf (some ps) .lf)) h fun b h' => k (.ptr b 0) h'
theorem xBoxP_ok {T : TypeId} {ps : List CV} {h : CH} {k : CV → CH → Bool} (hk : xBoxP T ps h k = true) : ∃ z h', k z h' = true ∧ h'.wp = h.wp ∧ ∀ {H0 m H} {c : Array Value} {K : Value → Hp → Prop}, Rel H0 m h H → Crel m ps c.toList →
    Fin H0 m h H z h' K → K (.pointer (some ⟨H.size, 0, none⟩)) (H.push (.cells c T)) := by
  unfold xBoxP at hk
  rw [forceN_eq] at hk
  obtain ⟨h', hk', hwp, hnew⟩ := xNew_ok hk
  refine ⟨_, h', hk', hwp, fun {H0 m H c K} hr hc hf => ?_⟩
  obtain ⟨h1, h2, h3⟩ := hnew hr (row_one (T := T) (b := H.size) hc)
  exact hf _ _ _ h1 h2 ⟨_, h3, rfl⟩
noncomputable def xBox (T : TypeId) (x : CV) (h : CH) (k : CV → CH → Bool) : Bool :=
  match toP x with
  | some ps => xBoxP T ps h k
  | none => false
theorem xBox_ok {T : TypeId} {x : CV} {h : CH} {k : CV → CH → Bool} (hk : xBox T x h k = true) : ∃ z h', k z h' = true ∧ h'.wp = h.wp ∧ ∀ {H0 m H vx} {K : Value → Hp → Prop}, Rel H0 m h H → Vrel m x vx →
    Fin H0 m h H z h' K → K (.pointer (some ⟨H.size, 0, none⟩)) (H.push (.cells vx.cells T)) := by
  unfold xBox at hk
  split at hk
  · rename_i ps hps
    obtain ⟨z, h', h1, h2, h3⟩ := xBoxP_ok hk
    exact ⟨z, h', h1, h2, fun hr hx hf => h3 hr (toP_ok hx hps) hf⟩
  · cases hk

/-! ### Structs, arrays, slices out of their parts -/
theorem fold_splice (off : Nat) : ∀ (l : List Value) (k : Nat) (c : Array Value), off + k + l.length ≤ c.size → (l.zipIdx k).foldl (fun cs (v, j) => cs.setIfInBounds (off + j) v) c = splice c (off + k) l.toArray
  | [], k, c, h => by
    apply Array.ext_getElem?; intro j
    simp only [List.zipIdx_nil, List.foldl_nil]
    rw [splice_get (by simpa using h)]
    simp
    intro h1 h2; omega
  | v :: l, k, c, h => by
    simp only [List.length_cons] at h
    rw [List.zipIdx_cons, List.foldl_cons, fold_splice off l (k + 1) (c.setIfInBounds (off + k) v) (by simp; omega)]
    apply Array.ext_getElem?; intro j
    rw [splice_get (by simp; omega), splice_get (by simp; omega)]
    simp only [Array.getElem?_setIfInBounds, List.size_toArray, List.length_cons, List.getElem?_toArray]
    by_cases h1 : j < off + k
    · rw [if_pos (by omega), if_pos h1, if_neg (by omega)]
    · rw [if_neg h1]
      by_cases h2 : j = off + k
      · subst h2
        rw [if_pos (by omega), if_pos rfl, if_pos (by omega), if_pos (by omega)]
        simp
      · rw [if_neg (show ¬ j < off + (k + 1) by omega)]
        by_cases h3 : j < off + (k + 1) + l.length
        · rw [if_pos h3, if_pos (by omega), show j - (off + k) = (j - (off + (k + 1))) + 1 by omega]; simp
        · rw [if_neg h3, if_neg (by omega), if_neg (by omega)]
theorem fill_cons {place : Nat → Option (Nat × Nat)} {c : Array Value} {i off sz : Nat} {v : Value} {rest : List (Nat × Value)} (hp : place i = some (off, sz)) (h1 : v.cells.size = sz) (h2 : off + sz ≤ c.size) :
    Instr.fill place c ((i, v) :: rest) = Instr.fill place (splice c off v.cells) rest := by
  rw [Instr.fill, hp]
  simp only
  rw [if_neg (by simp [h1]; omega)]
  congr 1
  rw [← Array.foldl_toList, Array.toList_zipIdx]
  have := fold_splice off v.cells.toList 0 c (by rw [Array.length_toList]; omega)
  simpa using this

def Prels (m : M) : List (Nat × CV) → List (Nat × Value) → Prop
  | [], l => l = []
  | (i, x) :: xs, l => ∃ v l', l = (i, v) :: l' ∧ Vrel m x v ∧ Prels m xs l'
/-- The parts laid over a struct's or an array's cells. -/
noncomputable def xFill (place : Nat → Option (Nat × Nat)) (parts : List (Nat × CV)) : List CV → (List CV → Bool) → Bool :=
  List.rec (motive := fun _ => List CV → (List CV → Bool) → Bool) (fun ps k => k ps)
    (fun p _ ih ps k => match place p.1 with
      | some (off, sz) => (match toP p.2 with
        | some vs => (match splitP ps off with
          | some (a, r) => (match splitP r sz with
            | some (_, c) => Bool.rec false (forceP (appP a (appP vs c)) fun new => ih new k) (Nat.beq (sizeP vs) sz)
            | none => false)
          | none => false)
        | none => false)
      | none => false) parts
theorem xFill_ok {place : Nat → Option (Nat × Nat)} : ∀ {parts : List (Nat × CV)} {ps : List CV} {k : List CV → Bool}, xFill place parts ps k = true → ∃ qs, k qs = true ∧ ∀ {m} {c : Array Value} {vs : List (Nat × Value)}, Crel m ps c.toList → Prels m parts vs →
    ∃ c', Instr.fill place c vs = some c' ∧ c'.size = c.size ∧ Crel m qs c'.toList
  | [], ps, k, h => ⟨ps, h, fun {m c vs} hc hp => by simp only [Prels] at hp; subst hp; exact ⟨c, rfl, rfl, hc⟩⟩
  | (i, x) :: parts, ps, k, h => by
    have h' : (match place i with
      | some (off, sz) => (match toP x with
        | some vs => (match splitP ps off with
          | some (a, r) => (match splitP r sz with
            | some (_, c) => Bool.rec (motive := fun _ => Bool) false (forceP (appP a (appP vs c)) fun new => xFill place parts new k) (Nat.beq (sizeP vs) sz)
            | none => false)
          | none => false)
        | none => false)
      | none => false) = true := h
    split at h'
    · rename_i off sz hpl
      split at h'
      · rename_i vs hvs
        split at h'
        · rename_i a r h1
          split at h'
          · rename_i mid cc h2
            rw [beq_dec] at h'
            by_cases hsz : sizeP vs = sz
            · rw [decide_eq_true hsz] at h'
              simp only [forceP_eq] at h'
              obtain ⟨qs, h3, h4⟩ := xFill_ok h'
              refine ⟨qs, h3, fun {m c l} hc hp => ?_⟩
              obtain ⟨v, l', rfl, hv, hp'⟩ := hp
              have hcv := toP_ok hv hvs
              have hnv : v.cells.size = sz := by rw [← Array.length_toList, sizeP_ok hcv, hsz]
              obtain ⟨l1, l2, l3, hl', e1, e2, r1, r2, r3⟩ := split_mid hc h1 h2
              have hcs : off + sz ≤ c.size := by rw [← Array.length_toList, hl']; simp; omega
              have hnew : Crel m (appP a (appP vs cc)) (splice c off v.cells).toList := by
                have : (splice c off v.cells).toList = l1 ++ (v.cells.toList ++ l3) := by
                  unfold splice
                  rw [hl', ← e1, List.take_left, hnv, ← e2]
                  congr 2
                  rw [← List.drop_drop, List.drop_left, List.drop_left]
                rw [this]
                exact appP_ok r1 (appP_ok hcv r3)
              obtain ⟨c', h5, h6, h7⟩ := h4 hnew hp'
              exact ⟨c', by rw [fill_cons hpl hnv hcs]; exact h5, by rw [h6, splice_size (by omega)], h7⟩
            · rw [decide_eq_false hsz] at h'; cases h'
          · cases h'
        · cases h'
      · cases h'
    · cases h'
end Go.Xc
