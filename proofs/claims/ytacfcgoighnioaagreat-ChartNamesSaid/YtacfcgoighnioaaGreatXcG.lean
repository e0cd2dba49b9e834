/- Xc, part G: append, slices out of parts, make, slices of slices, len, copy. -/
import Derived.Test.YtacfcgoighnioaaGreatXcF
set_option linter.unusedVariables false
set_option linter.unusedSectionVars false
set_option linter.unusedSimpArgs false
namespace Go.Xc
open Go.Vc
variable [Sites]

def u8B (td : Option TypeDesc) : Bool := match td with | some (.int .u8) => true | _ => false
/-- Of a slice's type: the elements' type, cells, bytes; are they bytes? -/
def appK (P : Program) (T : TypeId) : Option (Nat × Nat × Nat × Bool) :=
  match elemI P T with
  | some e => if e.zero.size = e.size ∧ 0 < e.bytes then some (e.type, e.size, e.bytes, u8B (P.underlying e.type)) else none
  | none => none
theorem appK_spec {P : Program} {S T es by' : Nat} {u : Bool} (h : appK P S = some (T, es, by', u)) : ∃ e, elemI P S = some e ∧ e.type = T ∧ e.size = es ∧ e.bytes = by' ∧ e.zero.size = es ∧ 0 < by' := by
  unfold appK at h
  split at h
  · rename_i e he
    split at h
    · rename_i hc
      simp only [Option.some.injEq, Prod.mk.injEq] at h
      obtain ⟨rfl, rfl, rfl, _⟩ := h
      exact ⟨e, he, rfl, rfl, rfl, hc.1, hc.2⟩
    · cases h
  · cases h

/-- A slice's cells as parts. -/
noncomputable def xFlat (x : CV) (h : CH) (k : List CV → Bool) : Bool :=
  match x with
  | .nils => k []
  | x => (match slOf x with
    | some (b, o, n) => Bool.rec (xRow h b o fun T es len d t i j ps => (match splitP ps j with
        | some (_, r) => (match splitP r n with
          | some (c, _) => forceP c k
          | none => false)
        | none => false))
      (match h.get b with
        | some (.row _ _ _ _ _) => Bool.rec false (k []) (Nat.beq o 0)
        | _ => false) (Nat.beq n 0)
    | none => false)
theorem xFlat_ok {x : CV} {h : CH} {k : List CV → Bool} (hk : xFlat x h k = true) : ∃ cs, k cs = true ∧ ∀ {H0 m H vx}, Rel H0 m h H → Vrel m x vx → ∃ new : Array Value, cellsS 1 vx H = some new ∧ lenS vx = new.size ∧ Crel m cs new.toList := by
  unfold xFlat at hk
  split at hk
  · refine ⟨[], hk, fun {H0 m H vx} hr hx => ?_⟩
    simp only [Vrel] at hx; subst hx
    exact ⟨#[], rfl, rfl, rfl⟩
  · split at hk
    · rename_i b o n hs
      rw [beq_dec n 0] at hk
      by_cases hn : n = 0
      · rw [decide_eq_true hn] at hk
        subst hn
        simp only at hk
        split at hk
        · rename_i T es L d t hg
          rw [beq_dec] at hk
          by_cases ho : o = 0
          · rw [decide_eq_true ho] at hk
            subst ho
            refine ⟨[], hk, fun {H0 m H vx} hr hx => ?_⟩
            obtain ⟨e, c, cap, k1, k2, k3, k4, k5, rfl, k7⟩ := (view_of (es := 1) hr hs hx hg (by omega) (.inr rfl)).is
            exact ⟨_, k7, by simp [lenS], by simp [Crel]⟩
          · rw [decide_eq_false ho] at hk; cases hk
        · cases hk
      · rw [decide_eq_false hn] at hk
        obtain ⟨T, es, len, d, t, i, j, ps, hk, hg, hi, hps, ho⟩ := xRow_ok hk
        split at hk
        · rename_i a r h1
          split at hk
          · rename_i cc dd h2
            rw [forceP_eq] at hk
            refine ⟨_, hk, fun {H0 m H vx} hr hx => ?_⟩
            obtain ⟨e', O, q1, q2, c', q3, q4, q5, q6⟩ := hr.obj b _ hg
            obtain ⟨ps', h6, h7⟩ := q6 i hi
            rw [hps] at h6; injection h6 with h6; subst h6
            obtain ⟨hl, hb⟩ := ext_len q4 q5 hi
            obtain ⟨l1, l2, l3, hl', e1, e2, _, r2, _⟩ := split_mid h7 h1 h2
            have hlen : j + n ≤ es := by rw [← hl, hl']; simp; omega
            have hm := Nat.mul_le_mul_right es (show i + 1 ≤ len from hi)
            rw [Nat.add_mul, Nat.one_mul] at hm
            obtain ⟨e, c, cap, k1, k2, k3, k4, k5, rfl, k7⟩ := (view_of (es := 1) hr hs hx hg (by omega) (.inl (by omega))).is
            rw [q1] at k1; injection k1 with k1; subst k1
            rw [q2, q3] at k2; injection k2 with k2; injection k2 with k2 _; subst k2
            refine ⟨_, k7, ?_, ?_⟩
            · rw [Array.size_extract]; simp only [lenS]; omega
            · have : (c'.extract o (o + n * 1)).toList = l2 := by
                have h8 : (c'.extract o (o + n * 1)).toList = ((c'.extract (i * es) (i * es + es)).toList.drop j).take n := by
                  rw [Array.toList_extract, Array.toList_extract, List.extract_eq_take_drop, List.extract_eq_take_drop, show o + n * 1 - o = n by omega, show i * es + es - i * es = es by omega, List.drop_take, List.drop_drop, List.take_take, ho, show min n (es - j) = n by omega]
                rw [h8, hl', ← e1, List.drop_left, ← e2, List.take_left]
              rw [this]; exact r2
          · cases hk
        · cases hk
    · cases hk

theorem base_of {m : M} {H : Hp} {T es0 L : Nat} {d : Option (List CV)} {t : Tr (List CV)} {b len es : Nat} {s : CV} {vs : Value} (hs : s = .so b 0 len es ∨ ∃ cap, s = .sl b 0 len cap) (hv : Vrel m s vs) (h : View m H T es0 L d t b 0 len es vs) (hb : len * es ≤ L * es0) :
    ∃ c : Array Value, (∃ e : Nat × Nat, m[b]? = some e ∧ H[e.1]? = some (.cells c T)) ∧ L * es0 ≤ c.size ∧ (∀ i, i < L → ∃ ps, elt t d i = some ps ∧ Crel m ps (c.extract (i * es0) (i * es0 + es0)).toList) ∧ Base m H T es s vs len (c.extract 0 (len * es)) := by
  obtain ⟨e, c, cap, k1, k2, k3, k4, k5, k6, k7⟩ := h.is
  rw [Nat.zero_add] at k7
  have hsz : (c.extract 0 (len * es)).size = len * es := by rw [Array.size_extract]; omega
  refine ⟨c, ⟨e, k1, k2⟩, by omega, k5, k7, hsz, ?_⟩
  rcases hs with rfl | ⟨cap', rfl⟩
  · obtain ⟨e', base, cp, he, hvs, hlc, hroom, hsp, hbl, hoff⟩ := hv
    rw [k1] at he; injection he with he; subst he
    rw [hvs] at k6
    injection k6 with _ _ k6
    subst k6
    refine .inr (.inr ⟨b, cp, e, c, rfl, k1, ?_, k2, k3, hlc, by omega, rfl⟩)
    obtain ⟨bb, bo, bs⟩ := base
    simp only at hsp hbl hoff
    have := hoff (.inr trivial)
    subst hsp hbl this
    exact hvs
  · obtain ⟨e', he, hvs⟩ := hv
    rw [k1] at he; injection he with he; subst he
    exact .inr (.inl ⟨b, cap', e, rfl, k1, hvs⟩)

theorem grown_flat {m : M} {T n : Nat} {cs ds : List CV} {old new : List Value} (h1 : Crel m cs old) (h2 : Crel m ds new) (hn : n = old.length + new.length) : Grown m T 1 (.row T n 1 none (.nd .lf (some (appP cs ds)) .lf)) old new := by
  intro b C hC hpre
  subst hn
  refine ⟨C, rfl, rfl, by omega, fun i hi => ⟨appP cs ds, ?_, ?_⟩⟩
  · have : i = 0 := by omega
    subst this; rfl
  · have : i = 0 := by omega
    subst this
    rw [Nat.zero_mul, Nat.zero_add, Array.toList_extract, List.extract_eq_take_drop, Nat.sub_zero, List.drop_zero, hpre]
    exact appP_ok h1 h2

noncomputable def xChk (n by' : Nat) (r : Bool) : Bool := Bool.rec false r (Nat.ble (n * by') 140737488355328)
theorem xChk_ok {n by' : Nat} {r : Bool} (h : xChk n by' r = true) : n * by' ≤ 2 ^ 47 ∧ r = true := by
  unfold xChk at h
  rw [ble_dec] at h
  by_cases hc : n * by' ≤ 140737488355328
  · rw [decide_eq_true hc] at h; exact ⟨hc, h⟩
  · rw [decide_eq_false hc] at h; cases h

noncomputable def xApp (q : Option (Nat × Nat × Nat × Bool)) (s x : CV) (h : CH) (k : CV → CH → Bool) : Bool :=
  match q with
  | some (T, es, by', false) => xArgE es x h fun r => forceN r.length fun n =>
    (match s with
    | .nils => Bool.rec (xChk n by' (xPuts r .lf 0 fun t' => xAppEnd (.row T es (0 + n) none t') .nils 0 n es h k)) (k .nils h) (Nat.beq n 0)
    | .sl b o len cap => (match h.get b with
      | some (.row T1 es1 L d t) => Bool.rec false (xChk (len + n) by' (xPuts r t len fun t' => xAppEnd (.row T es (len + n) d t') (.sl b o len cap) len n es h k)) (Nat.beq T1 T && Nat.beq es1 es && Nat.beq o 0 && Nat.ble len L)
      | _ => false)
    | .so b o len es' => (match h.get b with
      | some (.row T1 es1 L d t) => Bool.rec false (xChk (len + n) by' (xPuts r t len fun t' => xAppEnd (.row T es (len + n) d t') (.so b o len es') len n es h k)) (Nat.beq T1 T && Nat.beq es1 es && Nat.beq o 0 && Nat.ble len L && Nat.beq es' es)
      | _ => false)
    | _ => false)
  | some (T, es, by', true) => Bool.rec false (xFlat x h fun ds => forceN (sizeP ds) fun n => xFlat s h fun cs => forceN (sizeP cs) fun len =>
    xChk (len + n) by' (forceP (appP cs ds) fun new => forceN (len + n) fun ln =>
    (match s with
    | .nils => Bool.rec (xAppEnd (.row T ln 1 none (.nd .lf (some new) .lf)) .nils len n es h k) (k .nils h) (Nat.beq n 0)
    | .sl b o l cap => (match h.get b with
      | some (.row T1 _ _ _ _) => Bool.rec false (xAppEnd (.row T ln 1 none (.nd .lf (some new) .lf)) (.sl b o l cap) len n es h k) (Nat.beq T1 T && Nat.beq o 0 && Nat.beq l len)
      | _ => false)
    | .so b o l es' => (match h.get b with
      | some (.row T1 es1 L _ _) => Bool.rec false (xAppEnd (.row T ln 1 none (.nd .lf (some new) .lf)) (.so b o l es') len n es h k) (Nat.beq T1 T && Nat.beq o 0 && Nat.beq l len && Nat.beq es' 1 && Nat.ble l (L * es1))
      | _ => false)
    | _ => false))) (Nat.beq es 1)
  | none => false

theorem rec_false {b : Bool} {r : Bool} (h : Bool.rec (motive := fun _ => Bool) false r b = true) : b = true ∧ r = true := by
  cases b
  · cases h
  · exact ⟨rfl, h⟩

theorem xApp_ok {P : Program} {S : TypeId} {s x : CV} {h : CH} {k : CV → CH → Bool} (hk : xApp (appK P S) s x h k = true) : ∃ z h', k z h' = true ∧ h'.wp = h.wp ∧ ∀ {H0 m H vs vx} {K : Value → Hp → Prop}, Rel H0 m h H → Vrel m s vs → Vrel m x vx → Fin H0 m h H z h' K → AppS (elemI P S) vs vx H K := by
  unfold xApp at hk
  split at hk
  · rename_i T es by' hq
    obtain ⟨e, he, hT, hes, hby, hez, hb0⟩ := appK_spec hq
    obtain ⟨r, hk2, harg⟩ := xArgE_ok hk
    clear hk
    rw [forceN_eq] at hk2
    rw [he]
    have elok : ∀ {m : M} {new : Array Value}, Elems m es r new.toList → cellsOk new := fun {m new} hel => by
      unfold cellsOk
      rw [← Array.all_toList, List.all_eq_true]
      intro v hv
      have : ∀ (r : List (List CV)) (l : List Value), Elems m es r l → v ∈ l → v.oneCell' = true := by
        intro r
        induction r with
        | nil => intro l h hv; simp only [Elems] at h; subst h; cases hv
        | cons p r ih =>
          intro l h hv
          obtain ⟨l1, l2, rfl, _, h3, h4⟩ := h
          rcases List.mem_append.1 hv with h5 | h5
          · exact Crel_one h3 v h5
          · exact ih l2 h4 h5
      exact this r _ hel hv
    have hk := hk2
    clear hk2
    cases s <;> simp only at hk <;> try (cases hk; done)
    case nils =>
      rw [beq_dec] at hk
      by_cases hn : r.length = 0
      · rw [decide_eq_true hn] at hk
        refine ⟨_, h, hk, rfl, fun {H0 m H vs vx K} hr hs hx hf => ?_⟩
        obtain ⟨new, hcx, hlx, hel⟩ := harg hr hx
        simp only [Vrel] at hs; subst hs
        have hnl : new.size = 0 := by rw [← Array.length_toList, hel.len, hn, Nat.zero_mul]
        unfold AppS
        rw [Pu_some, hes, hcx, Pu_some, hlx, hn]
        exact ⟨Array.eq_empty_of_size_eq_zero hnl, hf _ _ _ hr (Stp.refl _ _ _) rfl⟩
      · rw [decide_eq_false hn] at hk
        obtain ⟨hlim, hk⟩ := xChk_ok hk
        obtain ⟨t', hk, p1, p2⟩ := xPuts_ok hk
        obtain ⟨z, h', h1, h2, h3⟩ := xAppEnd_ok hk
        refine ⟨z, h', h1, h2, fun {H0 m H vs vx K} hr hs hx hf => ?_⟩
        obtain ⟨new, hcx, hlx, hel⟩ := harg hr hx
        simp only [Vrel] at hs; subst hs
        have hnl : new.size = r.length * es := by rw [← Array.length_toList]; exact hel.len
        refine h3 (e := e) (old := #[]) hr (fun b hb => by cases hb) ⟨rfl, by simp, .inl ⟨rfl, rfl, rfl⟩⟩ hes hez hcx hlx hnl (elok hel) (by rw [hby]; exact hb0) (by rw [hby, Nat.zero_add]; exact hlim) (fun _ => by omega) ?_ hf
        rw [hT]
        have := grown_tree (T := T) (d := none) (t := .lf) (len := 0) (c := #[]) (es := es) (m := m) (by simp) (fun i hi => by omega) (fun j hj => by omega) p2 hel
        simpa using this
    case sl b o len cap =>
      split at hk
      · rename_i T1 es1 L d t hg
        obtain ⟨hc, hk⟩ := rec_false hk
        simp only [beq_dec, ble_dec, Bool.and_eq_true, decide_eq_true_eq] at hc
        obtain ⟨⟨⟨rfl, rfl⟩, rfl⟩, hL⟩ := hc
        obtain ⟨hlim, hk⟩ := xChk_ok hk
        obtain ⟨t', hk, p1, p2⟩ := xPuts_ok hk
        obtain ⟨z, h', h1, h2, h3⟩ := xAppEnd_ok hk
        refine ⟨z, h', h1, h2, fun {H0 m H vs vx K} hr hs hx hf => ?_⟩
        obtain ⟨new, hcx, hlx, hel⟩ := harg hr hx
        have hnl : new.size = r.length * es1 := by rw [← Array.length_toList]; exact hel.len
        have hm := Nat.mul_le_mul_right es1 hL
        obtain ⟨c, _, hLc, hcs, hbase⟩ := base_of (.inr ⟨cap, rfl⟩) hs (view_of (es := es1) hr rfl hs hg (by omega) (.inr rfl)) hm
        refine h3 (e := e) hr (fun b hb => by cases hb) (by rw [hT]; exact hbase) hes hez hcx hlx hnl (elok hel) (by rw [hby]; exact hb0) (by rw [hby]; exact hlim) (fun h => by cases h) ?_ hf
        rw [hT]
        exact grown_tree (by omega) (fun i hi => hcs i (by omega)) p1 p2 hel
      · cases hk
    case so b o len es' =>
      split at hk
      · rename_i T1 es1 L d t hg
        obtain ⟨hc, hk⟩ := rec_false hk
        simp only [beq_dec, ble_dec, Bool.and_eq_true, decide_eq_true_eq] at hc
        obtain ⟨⟨⟨⟨rfl, rfl⟩, rfl⟩, hL⟩, rfl⟩ := hc
        obtain ⟨hlim, hk⟩ := xChk_ok hk
        obtain ⟨t', hk, p1, p2⟩ := xPuts_ok hk
        obtain ⟨z, h', h1, h2, h3⟩ := xAppEnd_ok hk
        refine ⟨z, h', h1, h2, fun {H0 m H vs vx K} hr hs hx hf => ?_⟩
        obtain ⟨new, hcx, hlx, hel⟩ := harg hr hx
        have hnl : new.size = r.length * es' := by rw [← Array.length_toList]; exact hel.len
        have hm := Nat.mul_le_mul_right es' hL
        obtain ⟨c, _, hLc, hcs, hbase⟩ := base_of (.inl rfl) hs (view_of (es := es') hr rfl hs hg (by omega) (.inr rfl)) hm
        refine h3 (e := e) hr (fun b' hb => by injection hb with hb; subst hb; exact ⟨_, hg⟩) (by rw [hT]; exact hbase) hes hez hcx hlx hnl (elok hel) (by rw [hby]; exact hb0) (by rw [hby]; exact hlim) (fun h => by cases h) ?_ hf
        rw [hT]
        exact grown_tree (by omega) (fun i hi => hcs i (by omega)) p1 p2 hel
      · cases hk
  · rename_i T es by' hq
    obtain ⟨e, he, hT, hes, hby, hez, hb0⟩ := appK_spec hq
    obtain ⟨he1, hk1⟩ := rec_false hk
    clear hk
    rw [beq_dec, decide_eq_true_eq] at he1
    subst he1
    obtain ⟨ds, hk2, harg⟩ := xFlat_ok hk1
    clear hk1
    rw [forceN_eq] at hk2
    obtain ⟨cs, hk3, hold⟩ := xFlat_ok hk2
    clear hk2
    rw [forceN_eq] at hk3
    obtain ⟨hlim, hk⟩ := xChk_ok hk3
    clear hk3
    rw [forceP_eq, forceN_eq] at hk
    rw [he]
    cases s <;> simp only at hk <;> try (cases hk; done)
    case nils =>
      rw [beq_dec] at hk
      by_cases hn : sizeP ds = 0
      · rw [decide_eq_true hn] at hk
        refine ⟨_, h, hk, rfl, fun {H0 m H vs vx K} hr hs hx hf => ?_⟩
        obtain ⟨new, hcx, hlx, hel⟩ := harg hr hx
        simp only [Vrel] at hs; subst hs
        have hnl : new.size = 0 := by rw [← Array.length_toList, sizeP_ok hel, hn]
        unfold AppS
        rw [Pu_some, hes, hcx, Pu_some, hlx, hnl]
        exact ⟨Array.eq_empty_of_size_eq_zero hnl, hf _ _ _ hr (Stp.refl _ _ _) rfl⟩
      · rw [decide_eq_false hn] at hk
        obtain ⟨z, h', h1, h2, h3⟩ := xAppEnd_ok hk
        refine ⟨z, h', h1, h2, fun {H0 m H vs vx K} hr hs hx hf => ?_⟩
        obtain ⟨new, hcx, hlx, hel⟩ := harg hr hx
        obtain ⟨old, hcs, hls, hol⟩ := hold hr hs
        simp only [Vrel] at hs; subst hs
        have hnl : new.size = sizeP ds := by rw [← Array.length_toList]; exact sizeP_ok hel
        have hcl : old.size = sizeP cs := by rw [← Array.length_toList]; exact sizeP_ok hol
        have h0 : old.size = 0 := by rw [← hls]; rfl
        refine h3 (e := e) (old := old) hr (fun b hb => by cases hb) ⟨hcs, by omega, .inl ⟨rfl, rfl, by omega⟩⟩ hes hez hcx (by rw [hlx, hnl]) (by omega) (Crel_ok hel) (by rw [hby]; exact hb0) (by rw [hby]; exact hlim) (fun _ => by omega) ?_ hf
        rw [hT]
        exact grown_flat hol hel (by rw [Array.length_toList, Array.length_toList]; omega)
    case sl b o l cap =>
      split at hk
      · rename_i T1 es1 L d t hg
        obtain ⟨hc, hk⟩ := rec_false hk
        simp only [beq_dec, ble_dec, Bool.and_eq_true, decide_eq_true_eq] at hc
        obtain ⟨⟨rfl, rfl⟩, hl⟩ := hc
        obtain ⟨z, h', h1, h2, h3⟩ := xAppEnd_ok hk
        refine ⟨z, h', h1, h2, fun {H0 m H vs vx K} hr hs hx hf => ?_⟩
        obtain ⟨new, hcx, hlx, hel⟩ := harg hr hx
        obtain ⟨old, hcs, hls, hol⟩ := hold hr hs
        have hnl : new.size = sizeP ds := by rw [← Array.length_toList]; exact sizeP_ok hel
        have hcl : old.size = sizeP cs := by rw [← Array.length_toList]; exact sizeP_ok hol
        obtain ⟨e', hm', rfl⟩ := hs
        refine h3 (e := e) (old := old) hr (fun b hb => by cases hb) ⟨hcs, by omega, .inr (.inl ⟨b, cap, e', by rw [hl], hm', by rw [hl]⟩)⟩ hes hez hcx (by rw [hlx, hnl]) (by omega) (Crel_ok hel) (by rw [hby]; exact hb0) (by rw [hby]; exact hlim) (fun h => by cases h) ?_ hf
        rw [hT]
        exact grown_flat hol hel (by rw [Array.length_toList, Array.length_toList]; omega)
      · cases hk
    case so b o l es' =>
      split at hk
      · rename_i T1 es1 L d t hg
        obtain ⟨hc, hk⟩ := rec_false hk
        simp only [beq_dec, ble_dec, Bool.and_eq_true, decide_eq_true_eq] at hc
        obtain ⟨⟨⟨⟨rfl, rfl⟩, hl⟩, rfl⟩, hL⟩ := hc
        obtain ⟨z, h', h1, h2, h3⟩ := xAppEnd_ok hk
        refine ⟨z, h', h1, h2, fun {H0 m H vs vx K} hr hs hx hf => ?_⟩
        obtain ⟨new, hcx, hlx, hel⟩ := harg hr hx
        obtain ⟨old, hcs, hls, hol⟩ := hold hr hs
        have hnl : new.size = sizeP ds := by rw [← Array.length_toList]; exact sizeP_ok hel
        obtain ⟨c, _, hLc, hcc, hbase⟩ := base_of (.inl rfl) hs (view_of (es := 1) hr rfl hs hg (by omega) (.inr rfl)) (by omega)
        have : c.extract 0 (l * 1) = old := Option.some.inj (hbase.cells.symm.trans hcs)
        rw [this] at hbase
        rw [← hl] at h3
        refine h3 (e := e) (old := old) hr (fun b' hb => by injection hb with hb; subst hb; exact ⟨_, hg⟩) (by rw [hT]; exact hbase) hes hez hcx (by rw [hlx, hnl]) (by omega) (Crel_ok hel) (by rw [hby]; exact hb0) (by rw [hby, hl]; exact hlim) (fun h => by cases h) ?_ hf
        rw [hT]
        have hcl : old.size = sizeP cs := by rw [← Array.length_toList]; exact sizeP_ok hol
        exact grown_flat hol hel (by rw [Array.length_toList, Array.length_toList]; omega)
      · cases hk
  · cases hk
end Go.Xc
