/- Parts of a proof, joined in build order: a calculus of contracts, an executor, contracts of functions. -/
import Derived.Test.YtacfcgoighnioaaP487d9a41f5
/- Xc, part F: append. -/
set_option linter.unusedVariables false
set_option linter.unusedSectionVars false
set_option linter.unusedSimpArgs false
namespace Go.Xc
open Go.Vc
variable [Sites]

/-- A slice's block, first cell, length. -/
def slOf : CV → Option (Nat × Nat × Nat)
  | .sl b o len _ => some (b, o, len)
  | .so b o len _ => some (b, o, len)
  | _ => none

structure View (m : M) (H : Hp) (T es0 L : Nat) (d : Option (List CV)) (t : Tr (List CV)) (b o len es : Nat) (vs : Value) : Prop where
  is : ∃ (e : Nat × Nat) (c : Array Value) (cap : Nat), m[b]? = some e ∧ H[e.1]? = some (.cells c T) ∧ c.size = e.2 ∧ L * es0 ≤ e.2 ∧ (∀ i, i < L → ∃ ps, elt t d i = some ps ∧ Crel m ps (c.extract (i * es0) (i * es0 + es0)).toList) ∧
    vs = .slice (some ⟨e.1, o, none⟩) len cap ∧ cellsS es vs H = some (c.extract o (o + len * es))

theorem view_of {H0 : Hp} {m : M} {h : CH} {H : Hp} {s : CV} {vs : Value} {b o len es T es0 L : Nat} {d : Option (List CV)} {t : Tr (List CV)} (hr : Rel H0 m h H) (hs : slOf s = some (b, o, len)) (hv : Vrel m s vs) (hg : h.get b = some (.row T es0 L d t))
    (hb : o + len * es ≤ L * es0) (hz : 0 < len ∨ o = 0) : View m H T es0 L d t b o len es vs := by
  obtain ⟨e, O, h1, h2, c, rfl, h3, h4, h5⟩ := hr.obj b _ hg
  have fin : ∀ cap, vs = .slice (some ⟨e.1, o, none⟩) len cap → View m H T es0 L d t b o len es vs := by
    intro cap hvs
    refine ⟨e, c, cap, h1, h2, h3, h4, h5, hvs, ?_⟩
    subst hvs
    show rowH H ⟨e.1, o, none⟩ (len * es) = _
    unfold rowH
    simp only [h2]
    rw [if_pos ⟨trivial, by omega⟩]
  cases s <;> simp only [slOf, Option.some.injEq, Prod.mk.injEq, reduceCtorEq] at hs
  · obtain ⟨rfl, rfl, rfl⟩ := hs
    obtain ⟨e', he, rfl⟩ := hv
    rw [h1] at he; injection he with he; subst he
    exact fin _ rfl
  · obtain ⟨rfl, rfl, rfl⟩ := hs
    obtain ⟨e', base, cp, he, rfl, _, _, hsp, hbl, hoff⟩ := hv
    rw [h1] at he; injection he with he; subst he
    obtain ⟨bb, bo, bs⟩ := base
    simp only at hsp hbl hoff
    have := hoff hz
    subst hsp hbl this
    exact fin _ rfl

/-- The elements that are appended. -/
noncomputable def xArgE (es : Nat) (x : CV) (h : CH) (k : List (List CV) → Bool) : Bool :=
  match x with
  | .nils => k []
  | x => (match slOf x with
    | some (b, o, n) => (match h.get b with
      | some (.row _ es2 L d t) => Bool.rec false (xElems t d n (o / es) k) (Nat.beq es2 es && Nat.beq (o / es * es) o && Nat.ble (o / es + n) L && (Nat.ble 1 n || Nat.beq o 0))
      | _ => false)
    | none => false)
theorem xArgE_ok {es : Nat} {x : CV} {h : CH} {k : List (List CV) → Bool} (hk : xArgE es x h k = true) : ∃ r, k r = true ∧ ∀ {H0 m H vx}, Rel H0 m h H → Vrel m x vx → ∃ new : Array Value, cellsS es vx H = some new ∧ lenS vx = r.length ∧ Elems m es r new.toList := by
  unfold xArgE at hk
  split at hk
  · refine ⟨[], hk, fun {H0 m H vx} hr hx => ?_⟩
    simp only [Vrel] at hx; subst hx
    exact ⟨#[], rfl, rfl, rfl⟩
  · split at hk
    · rename_i b o n hs
      split at hk
      · rename_i T es2 L d t hg
        cases hc : (Nat.beq es2 es && Nat.beq (o / es * es) o && Nat.ble (o / es + n) L && (Nat.ble 1 n || Nat.beq o 0)) with
        | false => rw [hc] at hk; cases hk
        | true =>
          rw [hc] at hk
          simp only [beq_dec, ble_dec, Bool.and_eq_true, Bool.or_eq_true, decide_eq_true_eq] at hc
          obtain ⟨⟨⟨c1, c2⟩, c3⟩, c4⟩ := hc
          subst c1
          obtain ⟨r, h1, h2, h3⟩ := xElems_ok hk
          refine ⟨r, h1, fun {H0 m H vx} hr hx => ?_⟩
          have hb := Nat.mul_le_mul_right es2 c3
          rw [Nat.add_mul, c2] at hb
          obtain ⟨e, c, cap, k1, k2, k3, k4, k5, rfl, k7⟩ := (view_of (es := es2) hr hs hx hg hb (by omega)).is
          refine ⟨_, k7, by simp [lenS, h2], ?_⟩
          have := h3 c3 (by omega) k5
          rw [c2] at this; exact this
      · cases hk
    · cases hk

/-- The end of an append: the block o' behind s. -/
noncomputable def xAppEnd (o' : CO) (s : CV) (len n es : Nat) (h : CH) (k : CV → CH → Bool) : Bool :=
  match s with
  | .nils => xNew o' h fun b h' => k (.so b 0 (len + n) es) h'
  | .sl _ _ _ cap => Bool.rec (xNew o' h fun b h' => k (.so b 0 (len + n) es) h') false (Nat.ble (len + n) cap)
  | .so b _ _ _ => xMove b o' h fun b' h' => k (.so b' 0 (len + n) es) h'
  | _ => false

theorem so_new {m : M} {b len es : Nat} {e : Nat × Nat} {c : Nat} (he : m[b]? = some e) (hc : len ≤ c) (hr : c * es ≤ e.2) : Vrel m (.so b 0 len es) (.slice (some ⟨e.1, 0, none⟩) len c) :=
  ⟨e, ⟨e.1, 0, none⟩, c, he, rfl, hc, by omega, rfl, rfl, fun _ => rfl⟩

/-- A slice as an append sees it: of len elements from cell 0 of its block on; 'whole': the block's known cells are just these. -/
structure Base (m : M) (H : Hp) (T es : Nat) (s : CV) (vs : Value) (len : Nat) (old : Array Value) : Prop where
  cells : cellsS es vs H = some old
  size : old.size = len * es
  is : s = .nils ∧ vs = .slice none 0 0 ∧ len = 0 ∨ (∃ b cap e, s = .sl b 0 len cap ∧ m[b]? = some e ∧ vs = .slice (some ⟨e.1, 0, none⟩) len cap) ∨
    (∃ (b cap : Nat) (e : Nat × Nat) (c : Array Value), s = .so b 0 len es ∧ m[b]? = some e ∧ vs = .slice (some ⟨e.1, 0, none⟩) len cap ∧ H[e.1]? = some (.cells c T) ∧ c.size = e.2 ∧ len ≤ cap ∧ cap * es ≤ e.2 ∧ old = c.extract 0 (len * es))

theorem xAppEnd_ok {o' : CO} {s : CV} {len n es : Nat} {h : CH} {k : CV → CH → Bool} (hk : xAppEnd o' s len n es h k = true) : ∃ z h', k z h' = true ∧ h'.wp = h.wp ∧
    ∀ {H0 m H vs vx} {K : Value → Hp → Prop} {e : ElemI} {old new : Array Value}, Rel H0 m h H → (∀ b, s = .so b 0 len es → ∃ o, h.get b = some o) → Base m H e.type es s vs len old → e.size = es → e.zero.size = es → cellsS es vx H = some new → lenS vx = n → new.size = n * es → cellsOk new → 0 < e.bytes → (len + n) * e.bytes ≤ 2 ^ 47 →
      (s = .nils → 0 < n) → Grown m e.type es o' old.toList new.toList → Fin H0 m h H z h' K → AppS (some e) vs vx H K := by
  have fresh : ∀ {len n : Nat}, (xNew o' h fun b h' => k (.so b 0 (len + n) es) h') = true → ∃ z h', k z h' = true ∧ h'.wp = h.wp ∧ ∀ {H0 m H} {K : Value → Hp → Prop} {T : Nat} {old new : Array Value} {c : Nat} {C : Array Value}, Rel H0 m h H → Grown m T es o' old.toList new.toList → old.size = len * es → new.size = n * es →
      len + n ≤ c → C.size = c * es → C.toList.take (old.toList.length + new.toList.length) = old.toList ++ new.toList → Fin H0 m h H z h' K → K (.slice (some ⟨H.size, 0, none⟩) (len + n) c) (H.push (.cells C T)) := by
    intro len n hk
    obtain ⟨h', hk', hwp, hnew⟩ := xNew_ok hk
    refine ⟨_, h', hk', hwp, fun {H0 m H K T old new c C} hr hg hol hnl hc hC hpre hf => ?_⟩
    have hm := Nat.mul_le_mul_right es hc
    rw [Nat.add_mul] at hm
    obtain ⟨h1, h2, h3⟩ := hnew hr (hg H.size C (by rw [Array.length_toList, Array.length_toList, hol, hnl, hC]; exact hm) hpre)
    exact hf _ _ _ h1 h2 (so_new h3 hc (by simp only; omega))
  unfold xAppEnd at hk
  split at hk
  · obtain ⟨z, h', h1, h2, h3⟩ := fresh hk
    refine ⟨z, h', h1, h2, fun {H0 m H vs vx K e old new} hr hal hb hes hez hcx hlx hnl hok hby hlim hn hg hf => ?_⟩
    rcases hb.is with ⟨_, rfl, rfl⟩ | ⟨_, _, _, h, _⟩ | ⟨_, _, _, _, h, _⟩
    · subst hes
      exact app_new (base := none) (cap := 0) rfl hlx hcx hb.cells hb.size hnl hby hlim hez (fun hle => by have := hn rfl; omega) (fun c C hc hC hpre => h3 hr hg hb.size hnl hc hC hpre hf)
    · cases h
    · cases h
  · rename_i b o l cap
    rw [ble_dec] at hk
    by_cases hcap : len + n ≤ cap
    · rw [decide_eq_true hcap] at hk; cases hk
    · rw [decide_eq_false hcap] at hk
      obtain ⟨z, h', h1, h2, h3⟩ := fresh hk
      refine ⟨z, h', h1, h2, fun {H0 m H vs vx K e old new} hr hal hb hes hez hcx hlx hnl hok hby hlim hn hg hf => ?_⟩
      rcases hb.is with ⟨h, _⟩ | ⟨b', cap', e', hs, _, rfl⟩ | ⟨_, _, _, _, h, _⟩
      · cases h
      · injection hs with _ _ _ h4
        subst h4 hes
        exact app_new rfl hlx hcx hb.cells hb.size hnl hby hlim hez (fun hle => absurd hle hcap) (fun c C hc hC hpre => h3 hr hg hb.size hnl hc hC hpre hf)
      · cases h
  · rename_i b o l es'
    obtain ⟨t, q, wp⟩ := h
    unfold xMove at hk
    simp only at hk
    rw [ble_dec] at hk
    by_cases hwb : wp ≤ b
    · rw [decide_eq_true hwb] at hk
      obtain ⟨t1, hk, k1, k2⟩ := Tr.setK_ok hk
      obtain ⟨t2, hk, k3, k4⟩ := Tr.setK_ok hk
      rw [forceN_eq] at hk
      refine ⟨_, _, hk, rfl, fun {H0 m H vs vx K e old new} hr hal hb hes hez hcx hlx hnl hok hby hlim hn hg hf => ?_⟩
      rcases hb.is with ⟨h, _⟩ | ⟨_, _, _, h, _⟩ | ⟨b', cap, e', c, hs, he, rfl, hc, hcs, hlc, hcap, rfl⟩
      · cases h
      · cases h
      · injection hs with hb1 hb2 hb3 hb4
        subst hb1 hb2 hb3 hb4 hes
        obtain ⟨ob, hob⟩ := hal b rfl
        have hr1 : Rel H0 m (.mk t1 q wp) H := hr.kill k1 k2
        have hne : ∀ k x (d : Nat × Nat), t1.get k = some x → m[k]? = some d → d.1 ≠ e'.1 := fun k x d hk hd hde => by
          have hkb : k ≠ b := fun e => by rw [e, k1] at hk; cases hk
          rw [k2 k hkb] at hk
          exact hkb (hr.inj k b x ob d e' hk hob hd he hde)
        have hol : (c.extract 0 (l * e.size)).toList.length = l * e.size := by rw [Array.length_toList, hb.size]
        refine app_new rfl hlx hcx hb.cells hb.size hnl hby hlim hez (fun hle => ⟨_, rfl, ?_⟩) (fun c2 C hc2 hC hpre => ?_)
        · have hm := Nat.mul_le_mul_right e.size hle
          rw [Nat.add_mul] at hm
          have hput : putH H ((⟨e'.1, 0, none⟩ : Addr).add (l * e.size)) new = some (H.setIfInBounds e'.1 (.cells (splice c (l * e.size) new) e.type)) := by
            rw [Addr.add_mk]
            unfold putH
            simp only [hc]
            rw [if_pos ⟨trivial, by show 0 + l * e.size + new.size ≤ c.size; omega, hok⟩, Nat.zero_add]
          rw [hput, Pu_some]
          have hsz : (splice c (l * e.size) new).size = c.size := splice_size (by omega)
          have hpre : (splice c (l * e.size) new).toList.take ((c.extract 0 (l * e.size)).toList.length + new.toList.length) = (c.extract 0 (l * e.size)).toList ++ new.toList := by
            show (c.toList.take (l * e.size) ++ (new.toList ++ c.toList.drop (l * e.size + new.size))).take _ = _
            rw [hol]
            have e1 : (c.extract 0 (l * e.size)).toList = c.toList.take (l * e.size) := by rw [Array.toList_extract, List.extract_eq_take_drop, Nat.sub_zero, List.drop_zero]
            rw [e1, ← List.append_assoc]
            have hlen : (c.toList.take (l * e.size) ++ new.toList).length = l * e.size + new.toList.length := by
              rw [List.length_append, List.length_take, Array.length_toList]; omega
            rw [List.take_left' hlen]
          have hor := hg e'.1 (splice c (l * e.size) new) (by rw [hol, Array.length_toList, hnl, hsz]; omega) hpre
          have hor' : Orel m e' o' (.cells (splice c (l * e.size) new) e.type) := by
            have : (e'.1, (splice c (l * e.size) new).size) = e' := by rw [hsz, hcs]
            rw [this] at hor; exact hor
          have hH1 := hr.new b e' he
          obtain ⟨r1, r2, r3⟩ := Rel.add hr1 k3 k4 (get_set_same (o := .cells (splice c (l * e.size) new) e.type) hc) hor' hH1 (by simp) (hr.ext.set hH1) (fun k x d hk hd => ⟨hne k x d hk hd, get_set_other fun h => hne k x d hk hd h.symm⟩)
          refine hf _ _ _ r1 ⟨r2, by simp, ⟨by simp, fun k hk hn => get_set_other fun h => hn ⟨b, e', he, hwb, h⟩⟩, fun k d hd => ?_⟩ (so_new r3 hle hcap)
          rw [List.getElem?_append] at hd
          split at hd
          · exact .inl hd
          · have : d = e' := by
              cases hkk : k - m.length with
              | zero => rw [hkk] at hd; simpa using hd.symm
              | succ j => rw [hkk] at hd; simp at hd
            subst this
            exact .inr (.inr ⟨b, d, he, hwb, rfl⟩)
        · have hm := Nat.mul_le_mul_right e.size hc2
          rw [Nat.add_mul] at hm
          have hor := hg H.size C (by rw [hol, Array.length_toList, hnl, hC]; exact hm) hpre
          obtain ⟨r1, r2, r3⟩ := Rel.add hr1 k3 k4 (get_push_new H _) hor hr.ext.le (Ext.push H _).le (hr.ext.trans (Ext.push H _)) (fun k x d hk hd => by
            obtain ⟨d', O', h4, h5, _⟩ := hr1.obj k x hk
            rw [hd] at h4; injection h4 with h4; subst h4
            have := Vc.lt_of_block h5
            exact ⟨by simp only; omega, (Ext.push H _).same _ this⟩)
          refine hf _ _ _ r1 ⟨r2, by simp, (Ext.push H _).kp _, fun k d hd => ?_⟩ (so_new r3 hc2 (by simp only; omega))
          rw [List.getElem?_append] at hd
          split at hd
          · exact .inl hd
          · have : d = (H.size, C.size) := by
              cases hkk : k - m.length with
              | zero => rw [hkk] at hd; simpa using hd.symm
              | succ j => rw [hkk] at hd; simp at hd
            subst this
            exact .inr (.inl (Nat.le_refl _))
    · rw [decide_eq_false hwb] at hk; cases hk
  · cases hk
end Go.Xc

/- Xc, part G: append, slices out of parts, make, slices of slices, len, copy. -/
set_option linter.unusedVariables false
set_option linter.unusedSectionVars false
set_option linter.unusedSimpArgs false
namespace Go.Xc
open Go.Vc
variable [Sites]

def u8B (td : Option TypeDesc) : Bool := match td with | some (.int .u8) => true | _ => false
/-- Of a slice's type: the elements' type, cells, bytes; are they bytes? -/
def appK (P : Program) (T : TypeId) : Option (Nat × Nat × Nat × Bool) :=
  match elemI P T with
  | some e => if e.zero.size = e.size ∧ 0 < e.bytes then some (e.type, e.size, e.bytes, u8B (P.underlying e.type)) else none
  | none => none
theorem appK_spec {P : Program} {S T es by' : Nat} {u : Bool} (h : appK P S = some (T, es, by', u)) : ∃ e, elemI P S = some e ∧ e.type = T ∧ e.size = es ∧ e.bytes = by' ∧ e.zero.size = es ∧ 0 < by' := by
  unfold appK at h
  split at h
  · rename_i e he
    split at h
    · rename_i hc
      simp only [Option.some.injEq, Prod.mk.injEq] at h
      obtain ⟨rfl, rfl, rfl, _⟩ := h
      exact ⟨e, he, rfl, rfl, rfl, hc.1, hc.2⟩
    · cases h
  · cases h

/-- A slice's cells as parts. -/
noncomputable def xFlat (x : CV) (h : CH) (k : List CV → Bool) : Bool :=
  match x with
  | .nils => k []
  | x => (match slOf x with
    | some (b, o, n) => Bool.rec (xRow h b o fun T es len d t i j ps => (match splitP ps j with
        | some (_, r) => (match splitP r n with
          | some (c, _) => forceP c k
          | none => false)
        | none => false))
      (match h.get b with
        | some (.row _ _ _ _ _) => Bool.rec false (k []) (Nat.beq o 0)
        | _ => false) (Nat.beq n 0)
    | none => false)
theorem xFlat_ok {x : CV} {h : CH} {k : List CV → Bool} (hk : xFlat x h k = true) : ∃ cs, k cs = true ∧ ∀ {H0 m H vx}, Rel H0 m h H → Vrel m x vx → ∃ new : Array Value, cellsS 1 vx H = some new ∧ lenS vx = new.size ∧ Crel m cs new.toList := by
  unfold xFlat at hk
  split at hk
  · refine ⟨[], hk, fun {H0 m H vx} hr hx => ?_⟩
    simp only [Vrel] at hx; subst hx
    exact ⟨#[], rfl, rfl, rfl⟩
  · split at hk
    · rename_i b o n hs
      rw [beq_dec n 0] at hk
      by_cases hn : n = 0
      · rw [decide_eq_true hn] at hk
        subst hn
        simp only at hk
        split at hk
        · rename_i T es L d t hg
          rw [beq_dec] at hk
          by_cases ho : o = 0
          · rw [decide_eq_true ho] at hk
            subst ho
            refine ⟨[], hk, fun {H0 m H vx} hr hx => ?_⟩
            obtain ⟨e, c, cap, k1, k2, k3, k4, k5, rfl, k7⟩ := (view_of (es := 1) hr hs hx hg (by omega) (.inr rfl)).is
            exact ⟨_, k7, by simp [lenS], by simp [Crel]⟩
          · rw [decide_eq_false ho] at hk; cases hk
        · cases hk
      · rw [decide_eq_false hn] at hk
        obtain ⟨T, es, len, d, t, i, j, ps, hk, hg, hi, hps, ho⟩ := xRow_ok hk
        split at hk
        · rename_i a r h1
          split at hk
          · rename_i cc dd h2
            rw [forceP_eq] at hk
            refine ⟨_, hk, fun {H0 m H vx} hr hx => ?_⟩
            obtain ⟨e', O, q1, q2, c', q3, q4, q5, q6⟩ := hr.obj b _ hg
            obtain ⟨ps', h6, h7⟩ := q6 i hi
            rw [hps] at h6; injection h6 with h6; subst h6
            obtain ⟨hl, hb⟩ := ext_len q4 q5 hi
            obtain ⟨l1, l2, l3, hl', e1, e2, _, r2, _⟩ := split_mid h7 h1 h2
            have hlen : j + n ≤ es := by rw [← hl, hl']; simp; omega
            have hm := Nat.mul_le_mul_right es (show i + 1 ≤ len from hi)
            rw [Nat.add_mul, Nat.one_mul] at hm
            obtain ⟨e, c, cap, k1, k2, k3, k4, k5, rfl, k7⟩ := (view_of (es := 1) hr hs hx hg (by omega) (.inl (by omega))).is
            rw [q1] at k1; injection k1 with k1; subst k1
            rw [q2, q3] at k2; injection k2 with k2; injection k2 with k2 _; subst k2
            refine ⟨_, k7, ?_, ?_⟩
            · rw [Array.size_extract]; simp only [lenS]; omega
            · have : (c'.extract o (o + n * 1)).toList = l2 := by
                have h8 : (c'.extract o (o + n * 1)).toList = ((c'.extract (i * es) (i * es + es)).toList.drop j).take n := by
                  rw [Array.toList_extract, Array.toList_extract, List.extract_eq_take_drop, List.extract_eq_take_drop, show o + n * 1 - o = n by omega, show i * es + es - i * es = es by omega, List.drop_take, List.drop_drop, List.take_take, ho, show min n (es - j) = n by omega]
                rw [h8, hl', ← e1, List.drop_left, ← e2, List.take_left]
              rw [this]; exact r2
          · cases hk
        · cases hk
    · cases hk

theorem base_of {m : M} {H : Hp} {T es0 L : Nat} {d : Option (List CV)} {t : Tr (List CV)} {b len es : Nat} {s : CV} {vs : Value} (hs : s = .so b 0 len es ∨ ∃ cap, s = .sl b 0 len cap) (hv : Vrel m s vs) (h : View m H T es0 L d t b 0 len es vs) (hb : len * es ≤ L * es0) :
    ∃ c : Array Value, (∃ e : Nat × Nat, m[b]? = some e ∧ H[e.1]? = some (.cells c T)) ∧ L * es0 ≤ c.size ∧ (∀ i, i < L → ∃ ps, elt t d i = some ps ∧ Crel m ps (c.extract (i * es0) (i * es0 + es0)).toList) ∧ Base m H T es s vs len (c.extract 0 (len * es)) := by
  obtain ⟨e, c, cap, k1, k2, k3, k4, k5, k6, k7⟩ := h.is
  rw [Nat.zero_add] at k7
  have hsz : (c.extract 0 (len * es)).size = len * es := by rw [Array.size_extract]; omega
  refine ⟨c, ⟨e, k1, k2⟩, by omega, k5, k7, hsz, ?_⟩
  rcases hs with rfl | ⟨cap', rfl⟩
  · obtain ⟨e', base, cp, he, hvs, hlc, hroom, hsp, hbl, hoff⟩ := hv
    rw [k1] at he; injection he with he; subst he
    rw [hvs] at k6
    injection k6 with _ _ k6
    subst k6
    refine .inr (.inr ⟨b, cp, e, c, rfl, k1, ?_, k2, k3, hlc, by omega, rfl⟩)
    obtain ⟨bb, bo, bs⟩ := base
    simp only at hsp hbl hoff
    have := hoff (.inr trivial)
    subst hsp hbl this
    exact hvs
  · obtain ⟨e', he, hvs⟩ := hv
    rw [k1] at he; injection he with he; subst he
    exact .inr (.inl ⟨b, cap', e, rfl, k1, hvs⟩)

theorem grown_flat {m : M} {T n : Nat} {cs ds : List CV} {old new : List Value} (h1 : Crel m cs old) (h2 : Crel m ds new) (hn : n = old.length + new.length) : Grown m T 1 (.row T n 1 none (.nd .lf (some (appP cs ds)) .lf)) old new := by
  intro b C hC hpre
  subst hn
  refine ⟨C, rfl, rfl, by omega, fun i hi => ⟨appP cs ds, ?_, ?_⟩⟩
  · have : i = 0 := by omega
    subst this; rfl
  · have : i = 0 := by omega
    subst this
    rw [Nat.zero_mul, Nat.zero_add, Array.toList_extract, List.extract_eq_take_drop, Nat.sub_zero, List.drop_zero, hpre]
    exact appP_ok h1 h2

noncomputable def xChk (n by' : Nat) (r : Bool) : Bool := Bool.rec false r (Nat.ble (n * by') 140737488355328)
theorem xChk_ok {n by' : Nat} {r : Bool} (h : xChk n by' r = true) : n * by' ≤ 2 ^ 47 ∧ r = true := by
  unfold xChk at h
  rw [ble_dec] at h
  by_cases hc : n * by' ≤ 140737488355328
  · rw [decide_eq_true hc] at h; exact ⟨hc, h⟩
  · rw [decide_eq_false hc] at h; cases h

noncomputable def xApp (q : Option (Nat × Nat × Nat × Bool)) (s x : CV) (h : CH) (k : CV → CH → Bool) : Bool :=
  match q with
  | some (T, es, by', false) => xArgE es x h fun r => forceN r.length fun n =>
    (match s with
    | .nils => Bool.rec (xChk n by' (xPuts r .lf 0 fun t' => xAppEnd (.row T es (0 + n) none t') .nils 0 n es h k)) (k .nils h) (Nat.beq n 0)
    | .sl b o len cap => (match h.get b with
      | some (.row T1 es1 L d t) => Bool.rec false (xChk (len + n) by' (xPuts r t len fun t' => xAppEnd (.row T es (len + n) d t') (.sl b o len cap) len n es h k)) (Nat.beq T1 T && Nat.beq es1 es && Nat.beq o 0 && Nat.ble len L)
      | _ => false)
    | .so b o len es' => (match h.get b with
      | some (.row T1 es1 L d t) => Bool.rec false (xChk (len + n) by' (xPuts r t len fun t' => xAppEnd (.row T es (len + n) d t') (.so b o len es') len n es h k)) (Nat.beq T1 T && Nat.beq es1 es && Nat.beq o 0 && Nat.ble len L && Nat.beq es' es)
      | _ => false)
    | _ => false)
  | some (T, es, by', true) => Bool.rec false (xFlat x h fun ds => forceN (sizeP ds) fun n => xFlat s h fun cs => forceN (sizeP cs) fun len =>
    xChk (len + n) by' (forceP (appP cs ds) fun new => forceN (len + n) fun ln =>
    (match s with
    | .nils => Bool.rec (xAppEnd (.row T ln 1 none (.nd .lf (some new) .lf)) .nils len n es h k) (k .nils h) (Nat.beq n 0)
    | .sl b o l cap => (match h.get b with
      | some (.row T1 _ _ _ _) => Bool.rec false (xAppEnd (.row T ln 1 none (.nd .lf (some new) .lf)) (.sl b o l cap) len n es h k) (Nat.beq T1 T && Nat.beq o 0 && Nat.beq l len)
      | _ => false)
    | .so b o l es' => (match h.get b with
      | some (.row T1 es1 L _ _) => Bool.rec false (xAppEnd (.row T ln 1 none (.nd .lf (some new) .lf)) (.so b o l es') len n es h k) (Nat.beq T1 T && Nat.beq o 0 && Nat.beq l len && Nat.beq es' 1 && Nat.ble l (L * es1))
      | _ => false)
    | _ => false))) (Nat.beq es 1)
  | none => false

theorem rec_false {b : Bool} {r : Bool} (h : Bool.rec (motive := fun _ => Bool) false r b = true) : b = true ∧ r = true := by
  cases b
  · cases h
  · exact ⟨rfl, h⟩

theorem xApp_ok {P : Program} {S : TypeId} {s x : CV} {h : CH} {k : CV → CH → Bool} (hk : xApp (appK P S) s x h k = true) : ∃ z h', k z h' = true ∧ h'.wp = h.wp ∧ ∀ {H0 m H vs vx} {K : Value → Hp → Prop}, Rel H0 m h H → Vrel m s vs → Vrel m x vx → Fin H0 m h H z h' K → AppS (elemI P S) vs vx H K := by
  unfold xApp at hk
  split at hk
  · rename_i T es by' hq
    obtain ⟨e, he, hT, hes, hby, hez, hb0⟩ := appK_spec hq
    obtain ⟨r, hk2, harg⟩ := xArgE_ok hk
    clear hk
    rw [forceN_eq] at hk2
    rw [he]
    have elok : ∀ {m : M} {new : Array Value}, Elems m es r new.toList → cellsOk new := fun {m new} hel => by
      unfold cellsOk
      rw [← Array.all_toList, List.all_eq_true]
      intro v hv
      have : ∀ (r : List (List CV)) (l : List Value), Elems m es r l → v ∈ l → v.oneCell' = true := by
        intro r
        induction r with
        | nil => intro l h hv; simp only [Elems] at h; subst h; cases hv
        | cons p r ih =>
          intro l h hv
          obtain ⟨l1, l2, rfl, _, h3, h4⟩ := h
          rcases List.mem_append.1 hv with h5 | h5
          · exact Crel_one h3 v h5
          · exact ih l2 h4 h5
      exact this r _ hel hv
    have hk := hk2
    clear hk2
    cases s <;> simp only at hk <;> try (cases hk; done)
    case nils =>
      rw [beq_dec] at hk
      by_cases hn : r.length = 0
      · rw [decide_eq_true hn] at hk
        refine ⟨_, h, hk, rfl, fun {H0 m H vs vx K} hr hs hx hf => ?_⟩
        obtain ⟨new, hcx, hlx, hel⟩ := harg hr hx
        simp only [Vrel] at hs; subst hs
        have hnl : new.size = 0 := by rw [← Array.length_toList, hel.len, hn, Nat.zero_mul]
        unfold AppS
        rw [Pu_some, hes, hcx, Pu_some, hlx, hn]
        exact ⟨Array.eq_empty_of_size_eq_zero hnl, hf _ _ _ hr (Stp.refl _ _ _) rfl⟩
      · rw [decide_eq_false hn] at hk
        obtain ⟨hlim, hk⟩ := xChk_ok hk
        obtain ⟨t', hk, p1, p2⟩ := xPuts_ok hk
        obtain ⟨z, h', h1, h2, h3⟩ := xAppEnd_ok hk
        refine ⟨z, h', h1, h2, fun {H0 m H vs vx K} hr hs hx hf => ?_⟩
        obtain ⟨new, hcx, hlx, hel⟩ := harg hr hx
        simp only [Vrel] at hs; subst hs
        have hnl : new.size = r.length * es := by rw [← Array.length_toList]; exact hel.len
        refine h3 (e := e) (old := #[]) hr (fun b hb => by cases hb) ⟨rfl, by simp, .inl ⟨rfl, rfl, rfl⟩⟩ hes hez hcx hlx hnl (elok hel) (by rw [hby]; exact hb0) (by rw [hby, Nat.zero_add]; exact hlim) (fun _ => by omega) ?_ hf
        rw [hT]
        have := grown_tree (T := T) (d := none) (t := .lf) (len := 0) (c := #[]) (es := es) (m := m) (by simp) (fun i hi => by omega) (fun j hj => by omega) p2 hel
        simpa using this
    case sl b o len cap =>
      split at hk
      · rename_i T1 es1 L d t hg
        obtain ⟨hc, hk⟩ := rec_false hk
        simp only [beq_dec, ble_dec, Bool.and_eq_true, decide_eq_true_eq] at hc
        obtain ⟨⟨⟨rfl, rfl⟩, rfl⟩, hL⟩ := hc
        obtain ⟨hlim, hk⟩ := xChk_ok hk
        obtain ⟨t', hk, p1, p2⟩ := xPuts_ok hk
        obtain ⟨z, h', h1, h2, h3⟩ := xAppEnd_ok hk
        refine ⟨z, h', h1, h2, fun {H0 m H vs vx K} hr hs hx hf => ?_⟩
        obtain ⟨new, hcx, hlx, hel⟩ := harg hr hx
        have hnl : new.size = r.length * es1 := by rw [← Array.length_toList]; exact hel.len
        have hm := Nat.mul_le_mul_right es1 hL
        obtain ⟨c, _, hLc, hcs, hbase⟩ := base_of (.inr ⟨cap, rfl⟩) hs (view_of (es := es1) hr rfl hs hg (by omega) (.inr rfl)) hm
        refine h3 (e := e) hr (fun b hb => by cases hb) (by rw [hT]; exact hbase) hes hez hcx hlx hnl (elok hel) (by rw [hby]; exact hb0) (by rw [hby]; exact hlim) (fun h => by cases h) ?_ hf
        rw [hT]
        exact grown_tree (by omega) (fun i hi => hcs i (by omega)) p1 p2 hel
      · cases hk
    case so b o len es' =>
      split at hk
      · rename_i T1 es1 L d t hg
        obtain ⟨hc, hk⟩ := rec_false hk
        simp only [beq_dec, ble_dec, Bool.and_eq_true, decide_eq_true_eq] at hc
        obtain ⟨⟨⟨⟨rfl, rfl⟩, rfl⟩, hL⟩, rfl⟩ := hc
        obtain ⟨hlim, hk⟩ := xChk_ok hk
        obtain ⟨t', hk, p1, p2⟩ := xPuts_ok hk
        obtain ⟨z, h', h1, h2, h3⟩ := xAppEnd_ok hk
        refine ⟨z, h', h1, h2, fun {H0 m H vs vx K} hr hs hx hf => ?_⟩
        obtain ⟨new, hcx, hlx, hel⟩ := harg hr hx
        have hnl : new.size = r.length * es' := by rw [← Array.length_toList]; exact hel.len
        have hm := Nat.mul_le_mul_right es' hL
        obtain ⟨c, _, hLc, hcs, hbase⟩ := base_of (.inl rfl) hs (view_of (es := es') hr rfl hs hg (by omega) (.inr rfl)) hm
        refine h3 (e := e) hr (fun b' hb => by injection hb with hb; subst hb; exact ⟨_, hg⟩) (by rw [hT]; exact hbase) hes hez hcx hlx hnl (elok hel) (by rw [hby]; exact hb0) (by rw [hby]; exact hlim) (fun h => by cases h) ?_ hf
        rw [hT]
        exact grown_tree (by omega) (fun i hi => hcs i (by omega)) p1 p2 hel
      · cases hk
  · rename_i T es by' hq
    obtain ⟨e, he, hT, hes, hby, hez, hb0⟩ := appK_spec hq
    obtain ⟨he1, hk1⟩ := rec_false hk
    clear hk
    rw [beq_dec, decide_eq_true_eq] at he1
    subst he1
    obtain ⟨ds, hk2, harg⟩ := xFlat_ok hk1
    clear hk1
    rw [forceN_eq] at hk2
    obtain ⟨cs, hk3, hold⟩ := xFlat_ok hk2
    clear hk2
    rw [forceN_eq] at hk3
    obtain ⟨hlim, hk⟩ := xChk_ok hk3
    clear hk3
    rw [forceP_eq, forceN_eq] at hk
    rw [he]
    cases s <;> simp only at hk <;> try (cases hk; done)
    case nils =>
      rw [beq_dec] at hk
      by_cases hn : sizeP ds = 0
      · rw [decide_eq_true hn] at hk
        refine ⟨_, h, hk, rfl, fun {H0 m H vs vx K} hr hs hx hf => ?_⟩
        obtain ⟨new, hcx, hlx, hel⟩ := harg hr hx
        simp only [Vrel] at hs; subst hs
        have hnl : new.size = 0 := by rw [← Array.length_toList, sizeP_ok hel, hn]
        unfold AppS
        rw [Pu_some, hes, hcx, Pu_some, hlx, hnl]
        exact ⟨Array.eq_empty_of_size_eq_zero hnl, hf _ _ _ hr (Stp.refl _ _ _) rfl⟩
      · rw [decide_eq_false hn] at hk
        obtain ⟨z, h', h1, h2, h3⟩ := xAppEnd_ok hk
        refine ⟨z, h', h1, h2, fun {H0 m H vs vx K} hr hs hx hf => ?_⟩
        obtain ⟨new, hcx, hlx, hel⟩ := harg hr hx
        obtain ⟨old, hcs, hls, hol⟩ := hold hr hs
        simp only [Vrel] at hs; subst hs
        have hnl : new.size = sizeP ds := by rw [← Array.length_toList]; exact sizeP_ok hel
        have hcl : old.size = sizeP cs := by rw [← Array.length_toList]; exact sizeP_ok hol
        have h0 : old.size = 0 := by rw [← hls]; rfl
        refine h3 (e := e) (old := old) hr (fun b hb => by cases hb) ⟨hcs, by omega, .inl ⟨rfl, rfl, by omega⟩⟩ hes hez hcx (by rw [hlx, hnl]) (by omega) (Crel_ok hel) (by rw [hby]; exact hb0) (by rw [hby]; exact hlim) (fun _ => by omega) ?_ hf
        rw [hT]
        exact grown_flat hol hel (by rw [Array.length_toList, Array.length_toList]; omega)
    case sl b o l cap =>
      split at hk
      · rename_i T1 es1 L d t hg
        obtain ⟨hc, hk⟩ := rec_false hk
        simp only [beq_dec, ble_dec, Bool.and_eq_true, decide_eq_true_eq] at hc
        obtain ⟨⟨rfl, rfl⟩, hl⟩ := hc
        obtain ⟨z, h', h1, h2, h3⟩ := xAppEnd_ok hk
        refine ⟨z, h', h1, h2, fun {H0 m H vs vx K} hr hs hx hf => ?_⟩
        obtain ⟨new, hcx, hlx, hel⟩ := harg hr hx
        obtain ⟨old, hcs, hls, hol⟩ := hold hr hs
        have hnl : new.size = sizeP ds := by rw [← Array.length_toList]; exact sizeP_ok hel
        have hcl : old.size = sizeP cs := by rw [← Array.length_toList]; exact sizeP_ok hol
        obtain ⟨e', hm', rfl⟩ := hs
        refine h3 (e := e) (old := old) hr (fun b hb => by cases hb) ⟨hcs, by omega, .inr (.inl ⟨b, cap, e', by rw [hl], hm', by rw [hl]⟩)⟩ hes hez hcx (by rw [hlx, hnl]) (by omega) (Crel_ok hel) (by rw [hby]; exact hb0) (by rw [hby]; exact hlim) (fun h => by cases h) ?_ hf
        rw [hT]
        exact grown_flat hol hel (by rw [Array.length_toList, Array.length_toList]; omega)
      · cases hk
    case so b o l es' =>
      split at hk
      · rename_i T1 es1 L d t hg
        obtain ⟨hc, hk⟩ := rec_false hk
        simp only [beq_dec, ble_dec, Bool.and_eq_true, decide_eq_true_eq] at hc
        obtain ⟨⟨⟨⟨rfl, rfl⟩, hl⟩, rfl⟩, hL⟩ := hc
        obtain ⟨z, h', h1, h2, h3⟩ := xAppEnd_ok hk
        refine ⟨z, h', h1, h2, fun {H0 m H vs vx K} hr hs hx hf => ?_⟩
        obtain ⟨new, hcx, hlx, hel⟩ := harg hr hx
        obtain ⟨old, hcs, hls, hol⟩ := hold hr hs
        have hnl : new.size = sizeP ds := by rw [← Array.length_toList]; exact sizeP_ok hel
        obtain ⟨c, _, hLc, hcc, hbase⟩ := base_of (.inl rfl) hs (view_of (es := 1) hr rfl hs hg (by omega) (.inr rfl)) (by omega)
        have : c.extract 0 (l * 1) = old := Option.some.inj (hbase.cells.symm.trans hcs)
        rw [this] at hbase
        rw [← hl] at h3
        refine h3 (e := e) (old := old) hr (fun b' hb => by injection hb with hb; subst hb; exact ⟨_, hg⟩) (by rw [hT]; exact hbase) hes hez hcx (by rw [hlx, hnl]) (by omega) (Crel_ok hel) (by rw [hby]; exact hb0) (by rw [hby, hl]; exact hlim) (fun h => by cases h) ?_ hf
        rw [hT]
        have hcl : old.size = sizeP cs := by rw [← Array.length_toList]; exact sizeP_ok hol
        exact grown_flat hol hel (by rw [Array.length_toList, Array.length_toList]; omega)
      · cases hk
  · cases hk
end Go.Xc

/- Xc, part H: slices out of parts, make, slices of slices, len, copy. -/
set_option linter.unusedVariables false
set_option linter.unusedSectionVars false
set_option linter.unusedSimpArgs false
namespace Go.Xc
open Go.Vc
variable [Sites]

/-- The zero of a type, in parts. -/
def ZeroOk (P : Program) (T : TypeId) (zs : List CV) : Prop := ∃ z, zeroE P T = some z ∧ ∀ m, Crel m zs z.cells.toList
theorem zero_elem {P : Program} {S : TypeId} {e : ElemI} {zs : List CV} (he : elemI P S = some e) (hz : ZeroOk P e.type zs) (m : M) : Crel m zs e.zero.toList := by
  obtain ⟨hu, i, z, hi, _, _, hz2, hzc⟩ := elemI_spec he
  obtain ⟨z', h1, h2⟩ := hz
  unfold zeroE at h1
  rw [hi] at h1
  simp only [Option.bind_some] at h1
  rw [hz2] at h1
  injection h1 with h1
  subst h1
  rw [← hzc]; exact h2 m

def zl (zero : Array Value) (n : Nat) : Array Value := (Array.range (n * zero.size)).map (zero[· % zero.size]!)
theorem zl_len (zero : Array Value) (n : Nat) : (zl zero n).toList.length = n * zero.size := by simp [zl]
theorem zl_succ (zero : Array Value) (n : Nat) : (zl zero (n + 1)).toList = zero.toList ++ (zl zero n).toList := by
  apply List.ext_getElem?
  intro j
  have hl : ∀ n j, (zl zero n).toList[j]? = if j < n * zero.size then some (zero[j % zero.size]!) else none := by
    intro n j
    rw [Array.getElem?_toList]
    unfold zl
    rw [Array.getElem?_map, Array.getElem?_range]
    split <;> rfl
  rw [hl, Nat.add_mul, Nat.one_mul]
  by_cases h1 : j < zero.size
  · rw [if_pos (by omega), List.getElem?_append_left (by rw [Array.length_toList]; exact h1), Array.getElem?_toList, Nat.mod_eq_of_lt h1, getElem!_pos zero j h1, Array.getElem?_eq_getElem h1]
  · rw [List.getElem?_append_right (by rw [Array.length_toList]; omega), Array.length_toList, hl]
    by_cases h2 : j < n * zero.size + zero.size
    · rw [if_pos h2, if_pos (by omega)]
      have h3 := Nat.add_mod_right (j - zero.size) zero.size
      rw [show j - zero.size + zero.size = j by omega] at h3
      rw [h3]
    · rw [if_neg h2, if_neg (by omega)]
theorem zl_zero (zero : Array Value) : (zl zero 0).toList = [] := by simp [zl]

noncomputable def xRep (zs : List CV) (n : Nat) : (List CV → Bool) → Bool :=
  Nat.rec (motive := fun _ => (List CV → Bool) → Bool) (fun k => k []) (fun _ ih k => ih fun r => forceP (appP zs r) k) n
theorem xRep_ok {zs : List CV} : ∀ {n : Nat} {k : List CV → Bool}, xRep zs n k = true → ∃ r, k r = true ∧ ∀ {m : M} {zero : Array Value}, Crel m zs zero.toList → Crel m r (zl zero n).toList
  | 0, k, h => ⟨[], h, fun {m zero} _ => by rw [zl_zero]; rfl⟩
  | n + 1, k, h => by
    have h' : xRep zs n (fun r => forceP (appP zs r) k) = true := h
    obtain ⟨r, h1, h2⟩ := xRep_ok h'
    rw [forceP_eq] at h1
    exact ⟨_, h1, fun {m zero} hz => by rw [zl_succ]; exact appP_ok hz (h2 hz)⟩
theorem bytes_zero {m : M} {zero : Array Value} (h : Crel m [.bytes 1 0] zero.toList) : ∀ n, Crel m [.bytes n 0] (zl zero n).toList
  | 0 => ⟨[], by rw [zl_zero]; rfl, rfl⟩
  | n + 1 => by
    have h0 := h
    obtain ⟨l', h1, h2⟩ := h0
    simp only [Crel] at h2
    subst h2
    obtain ⟨l2, h3, h4⟩ := bytes_zero h n
    simp only [Crel] at h4
    subst h4
    refine ⟨[], ?_, rfl⟩
    rw [zl_succ, h1, h3]
    simp [bytesL]

/-- Parts cut into elements. -/
noncomputable def xChunk (es : Nat) (n : Nat) : List CV → (List (List CV) → Bool) → Bool :=
  Nat.rec (motive := fun _ => List CV → (List (List CV) → Bool) → Bool) (fun _ k => k []) (fun _ ih ps k => match splitP ps es with | some (a, b) => forceP a fun a => ih b fun r => k (a :: r) | none => false) n
theorem xChunk_ok {es : Nat} : ∀ {n : Nat} {ps : List CV} {k : List (List CV) → Bool}, xChunk es n ps k = true → ∃ r, k r = true ∧ r.length = n ∧ ∀ {m : M} {l : List Value}, Crel m ps l → l.length = n * es → Elems m es r l
  | 0, ps, k, h => ⟨[], h, rfl, fun {m l} hc hl => List.eq_nil_of_length_eq_zero (by omega)⟩
  | n + 1, ps, k, h => by
    have h' : (match splitP ps es with | some (a, b) => forceP a fun a => xChunk es n b fun r => k (a :: r) | none => false) = true := h
    split at h'
    · rename_i a b hs
      rw [forceP_eq] at h'
      obtain ⟨r, h1, h2, h3⟩ := xChunk_ok h'
      refine ⟨a :: r, h1, by simp [h2], fun {m l} hc hl => ?_⟩
      obtain ⟨l1, l2, rfl, e1, r1, r2⟩ := splitP_ok hc hs
      refine ⟨l1, l2, rfl, e1, r1, h3 r2 ?_⟩
      rw [List.length_append, e1, Nat.add_mul, Nat.one_mul] at hl; omega
    · cases h'

/-- A block of n elements out of these parts. -/
noncomputable def xRowOf (T es n : Nat) (u : Bool) (ps : List CV) (k : CO → Bool) : Bool :=
  match u with
  | true => k (.row T (n * es) 1 none (.nd .lf (some ps) .lf))
  | false => xChunk es n ps fun r => xPuts r .lf 0 fun t => k (.row T es n none t)
theorem xRowOf_ok {T es n : Nat} {u : Bool} {ps : List CV} {k : CO → Bool} (h : xRowOf T es n u ps k = true) : ∃ o, k o = true ∧ ∀ {m : M} {c : Array Value} (b : Nat), Crel m ps c.toList → c.size = n * es → Orel m (b, c.size) o (.cells c T) := by
  unfold xRowOf at h
  split at h
  · refine ⟨_, h, fun {m c} b hc hs => ?_⟩
    have := row_one (T := T) (b := b) hc
    have e : sizeP ps = n * es := by rw [← sizeP_ok hc, Array.length_toList, hs]
    rw [e] at this
    exact this
  · obtain ⟨r, h1, h2, h3⟩ := xChunk_ok h
    obtain ⟨t, h4, _, h6⟩ := xPuts_ok h1
    refine ⟨_, h4, fun {m c} b hc hs => ?_⟩
    have hel := h3 hc (by rw [Array.length_toList, hs])
    have hg := grown_tree (T := T) (d := none) (t := .lf) (len := 0) (c := #[]) (es := es) (m := m) (by simp) (fun i hi => by omega) (fun j hj => by omega) h6 hel
    have := hg b c (by simp) (by simp; exact List.take_of_length_le (by simp))
    simpa [h2] using this

noncomputable def xNewS (q : Option (Nat × Nat × Nat × Bool)) (zs : Option (List CV)) (n : Nat) (parts : List (Nat × CV)) (h : CH) (k : CV → CH → Bool) : Bool :=
  match q, zs with
  | some (T, es, _, u), some zs => Bool.rec false (xRep zs n fun ps => xFill (fun i => some (i * es, es)) parts ps fun ps => xRowOf T es n u ps fun o => xNew o h fun b h' => k (.sl b 0 n n) h') (Nat.ble (n * es) 16777216 && Nat.ble 1 (n * es))
  | _, _ => false
theorem xNewS_ok {P : Program} {S : TypeId} {zs : Option (List CV)} {n : Nat} {parts : List (Nat × CV)} {h : CH} {k : CV → CH → Bool} (hz : ∀ e z, elemI P S = some e → zs = some z → ZeroOk P e.type z) (hk : xNewS (appK P S) zs n parts h k = true) :
    ∃ z h', k z h' = true ∧ h'.wp = h.wp ∧ ∀ {H0 m H vs} {K : Value → Hp → Prop}, Rel H0 m h H → Prels m parts vs → Fin H0 m h H z h' K →
      Pu (elemI P S) fun e => Pu (newSliceE (some e) n vs) fun cs => K (.slice (some ⟨H.size, 0, none⟩) n n) (H.push (.cells cs e.type)) := by
  unfold xNewS at hk
  split at hk
  · rename_i T es by' u zs hq
    obtain ⟨e, he, hT, hes, hby, hez, hb0⟩ := appK_spec hq
    obtain ⟨hc, hk1⟩ := rec_false hk
    clear hk
    simp only [ble_dec, Bool.and_eq_true, decide_eq_true_eq] at hc
    obtain ⟨ps, hk2, hrep⟩ := xRep_ok hk1
    clear hk1
    obtain ⟨qs, hk3, hfill⟩ := xFill_ok hk2
    clear hk2
    obtain ⟨o, hk4, hrow⟩ := xRowOf_ok hk3
    clear hk3
    obtain ⟨h', hk5, hwp, hnew⟩ := xNew_ok hk4
    clear hk4
    refine ⟨_, h', hk5, hwp, fun {H0 m H vs K} hr hp hf => ?_⟩
    have hzc := hrep (zero_elem he (hz e zs he rfl) m)
    obtain ⟨c', h1, h2, h3⟩ := hfill hzc hp
    have hsz : c'.size = n * es := by rw [h2, ← Array.length_toList, zl_len, hez]
    rw [he, Pu_some]
    have hns : newSliceE (some e) n vs = some c' := by
      unfold newSliceE
      simp only
      rw [if_neg (by rw [hes]; omega), hes]
      show Instr.fill (fun i => some (i * es, es)) ((Array.range (n * es)).map (e.zero[· % e.zero.size]!)) vs = some c'
      rw [← h1]
      unfold zl
      rw [hez]
    rw [hns, Pu_some]
    obtain ⟨r1, r2, r3⟩ := hnew hr (hrow H.size h3 hsz)
    rw [hT]
    exact hf _ _ _ r1 r2 ⟨_, r3, rfl⟩
  · cases hk

noncomputable def xMake (q : Option (Nat × Nat × Nat × Bool)) (zs : Option (List CV)) (l c : CV) (h : CH) (k : CV → CH → Bool) : Bool :=
  match q, zs, l, c with
  | some (T, es, by', u), some zs, .int _ (.ofNat l), .int _ (.ofNat c) => Bool.rec false (match u, zs with
      | true, [.bytes w x] => Bool.rec false (xNew (.row T c 1 none (.nd .lf (some [.bytes c 0]) .lf)) h fun b h' => k (.sl b 0 l c) h') (Nat.beq w 1 && Nat.beq x 0 && Nat.beq es 1)
      | _, zs => xNew (.row T es c (some zs) .lf) h fun b h' => k (.sl b 0 l c) h') (Nat.ble l c && Nat.ble c 281474976710656 && Nat.ble (by' * c) 140737488355328 && Nat.ble 1 es)
  | _, _, _, _ => false
theorem xMake_ok {P : Program} {S : TypeId} {zs : Option (List CV)} {l c : CV} {h : CH} {k : CV → CH → Bool} (hz : ∀ e z, elemI P S = some e → zs = some z → ZeroOk P e.type z) (hk : xMake (appK P S) zs l c h k = true) :
    ∃ z h', k z h' = true ∧ h'.wp = h.wp ∧ ∀ {H0 m H vl vc} {K : Value → Hp → Prop}, Rel H0 m h H → Vrel m l vl → Vrel m c vc → Fin H0 m h H z h' K → Pu (makeE (elemI P S) vl vc H) fun y => K y.1 y.2 := by
  unfold xMake at hk
  split at hk
  · rename_i T es by' u zs ql l qc c hq
    obtain ⟨e, he, hT, hes, hby, hez, hb0⟩ := appK_spec hq
    obtain ⟨hc, hk1⟩ := rec_false hk
    clear hk
    simp only [ble_dec, Bool.and_eq_true, decide_eq_true_eq] at hc
    obtain ⟨⟨⟨c1, c2⟩, c3⟩, c4⟩ := hc
    have core : ∀ (o : CO), (∀ m (b : Nat), Crel m zs e.zero.toList → Orel m (b, (zl e.zero c).size) o (.cells (zl e.zero c) T)) → (xNew o h fun b h' => k (.sl b 0 l c) h') = true →
        ∃ z h', k z h' = true ∧ h'.wp = h.wp ∧ ∀ {H0 m H vl vc} {K : Value → Hp → Prop}, Rel H0 m h H → Vrel m (.int ql (.ofNat l)) vl → Vrel m (.int qc (.ofNat c)) vc → Fin H0 m h H z h' K → Pu (makeE (elemI P S) vl vc H) fun y => K y.1 y.2 := by
      intro o ho hk
      obtain ⟨h', hk5, hwp, hnew⟩ := xNew_ok hk
      refine ⟨_, h', hk5, hwp, fun {H0 m H vl vc K} hr hl hc hf => ?_⟩
      simp only [Vrel] at hl hc
      subst hl hc
      have hm : makeE (elemI P S) (.int ql (.ofNat l)) (.int qc (.ofNat c)) H = some (.slice (some ⟨H.size, 0, none⟩) l c, H.push (.cells (zl e.zero c) T)) := by
        rw [he]
        unfold makeE
        have hcond : (0 : Int) ≤ Int.ofNat l ∧ Int.ofNat l ≤ Int.ofNat c ∧ Int.ofNat c ≤ 2 ^ 48 ∧ (e.bytes : Int) * Int.ofNat c ≤ 2 ^ 47 ∧ (Int.ofNat c = 0 ∨ e.size ≠ 0) := by
          refine ⟨Int.natCast_nonneg l, by show (l : Int) ≤ c; omega, by show (c : Int) ≤ _; omega, ?_, .inr (by omega)⟩
          have : ((e.bytes * c : Nat) : Int) ≤ 140737488355328 := by rw [hby]; omega
          simpa using this
        simp only [hcond, and_self, ne_eq, if_true]
        unfold zl
        rw [hez, hes, hT]
        rfl
      rw [hm, Pu_some]
      obtain ⟨r1, r2, r3⟩ := hnew hr (ho m H.size (zero_elem he (hz e zs he rfl) m))
      exact hf _ _ _ r1 r2 ⟨_, r3, rfl⟩
    have hzs : (zl e.zero c).size = c * es := by rw [← Array.length_toList, zl_len, hez]
    have gen : (xNew (.row T es c (some zs) .lf) h fun b h' => k (.sl b 0 l c) h') = true → _ := core (.row T es c (some zs) .lf) (fun m b hzc => by
      refine ⟨_, rfl, rfl, by rw [hzs]; exact Nat.le_refl _, fun i hi => ⟨zs, rfl, ?_⟩⟩
      have hb := Nat.mul_le_mul_right es (show i + 1 ≤ c from hi)
      rw [Nat.add_mul, Nat.one_mul] at hb
      have : (zl e.zero c).extract (i * es) (i * es + es) = e.zero := by
        apply ext_of_get hez (by omega)
        intro j hj
        unfold zl
        rw [Array.getElem?_map, Array.getElem?_range, hez, if_pos (by omega), Option.map_some, Nat.add_comm, Nat.add_mul_mod_self_right, Nat.mod_eq_of_lt hj, getElem!_pos e.zero j (by omega), Array.getElem?_eq_getElem (by omega)]
      rw [this]; exact hzc)
    split at hk1
    · rename_i w x
      obtain ⟨hc2, hk2⟩ := rec_false hk1
      simp only [beq_dec, Bool.and_eq_true, decide_eq_true_eq] at hc2
      obtain ⟨⟨rfl, rfl⟩, rfl⟩ := hc2
      refine core _ (fun m b hzc => ?_) hk2
      have := row_one (T := T) (b := b) (bytes_zero hzc c)
      simpa [sizeP] using this
    · exact gen hk1
  · cases hk

noncomputable def xMkO (q : Option (Nat × Nat × Nat × Bool)) (zs : Option (List CV)) (l c : CV) (K : CO → Nat → Nat → Bool) : Bool :=
  match q, zs, l, c with
  | some (T, es, by', u), some zs, .int _ (.ofNat l), .int _ (.ofNat c) => Bool.rec false (match u, zs with
      | true, [.bytes w x] => Bool.rec false (K (.row T c 1 none (.nd .lf (some [.bytes c 0]) .lf)) l c) (Nat.beq w 1 && Nat.beq x 0 && Nat.beq es 1)
      | _, zs => K (.row T es c (some zs) .lf) l c) (Nat.ble l c && Nat.ble c 281474976710656 && Nat.ble (by' * c) 140737488355328 && Nat.ble 1 es)
  | _, _, _, _ => false
theorem xMkO_ok {P : Program} {S : TypeId} {zs : Option (List CV)} {l c : CV} {K : CO → Nat → Nat → Bool} (hz : ∀ e z, elemI P S = some e → zs = some z → ZeroOk P e.type z) (hk : xMkO (appK P S) zs l c K = true) :
    ∃ o n n', K o n n' = true ∧ ∀ {m vl vc}, Vrel m l vl → Vrel m c vc → ∃ O z, (∀ H, makeE (elemI P S) vl vc H = some (.slice (some ⟨H.size, 0, none⟩) n n', H.push O)) ∧ ∀ b, Orel m (b, z) o O := by
  unfold xMkO at hk
  split at hk
  · rename_i T es by' u zs ql l qc c hq
    obtain ⟨e, he, hT, hes, hby, hez, hb0⟩ := appK_spec hq
    obtain ⟨hc, hk1⟩ := rec_false hk
    clear hk
    simp only [ble_dec, Bool.and_eq_true, decide_eq_true_eq] at hc
    obtain ⟨⟨⟨c1, c2⟩, c3⟩, c4⟩ := hc
    have core : ∀ (o : CO), (∀ m (b : Nat), Crel m zs e.zero.toList → Orel m (b, (zl e.zero c).size) o (.cells (zl e.zero c) T)) → K o l c = true →
        ∃ o n n', K o n n' = true ∧ ∀ {m vl vc}, Vrel m (.int ql (.ofNat l)) vl → Vrel m (.int qc (.ofNat c)) vc → ∃ O z, (∀ H, makeE (elemI P S) vl vc H = some (.slice (some ⟨H.size, 0, none⟩) n n', H.push O)) ∧ ∀ b, Orel m (b, z) o O := by
      intro o ho hk
      refine ⟨o, l, c, hk, fun {m vl vc} hl hc => ?_⟩
      simp only [Vrel] at hl hc
      subst hl hc
      refine ⟨.cells (zl e.zero c) T, (zl e.zero c).size, fun H => ?_, fun b => ho m b (zero_elem he (hz e zs he rfl) m)⟩
      rw [he]
      unfold makeE
      have hcond : (0 : Int) ≤ Int.ofNat l ∧ Int.ofNat l ≤ Int.ofNat c ∧ Int.ofNat c ≤ 2 ^ 48 ∧ (e.bytes : Int) * Int.ofNat c ≤ 2 ^ 47 ∧ (Int.ofNat c = 0 ∨ e.size ≠ 0) := by
        refine ⟨Int.natCast_nonneg l, by show (l : Int) ≤ c; omega, by show (c : Int) ≤ _; omega, ?_, .inr (by omega)⟩
        have : ((e.bytes * c : Nat) : Int) ≤ 140737488355328 := by rw [hby]; omega
        simpa using this
      simp only [hcond, and_self, ne_eq, if_true]
      unfold zl
      rw [hez, hes, hT]
      rfl
    have hzs : (zl e.zero c).size = c * es := by rw [← Array.length_toList, zl_len, hez]
    have gen : K (.row T es c (some zs) .lf) l c = true → _ := core (.row T es c (some zs) .lf) (fun m b hzc => by
      refine ⟨_, rfl, rfl, by rw [hzs]; exact Nat.le_refl _, fun i hi => ⟨zs, rfl, ?_⟩⟩
      have hb := Nat.mul_le_mul_right es (show i + 1 ≤ c from hi)
      rw [Nat.add_mul, Nat.one_mul] at hb
      have : (zl e.zero c).extract (i * es) (i * es + es) = e.zero := by
        apply ext_of_get hez (by omega)
        intro j hj
        unfold zl
        rw [Array.getElem?_map, Array.getElem?_range, hez, if_pos (by omega), Option.map_some, Nat.add_comm, Nat.add_mul_mod_self_right, Nat.mod_eq_of_lt hj, getElem!_pos e.zero j (by omega), Array.getElem?_eq_getElem (by omega)]
      rw [this]; exact hzc)
    split at hk1
    · rename_i w x
      obtain ⟨hc2, hk2⟩ := rec_false hk1
      simp only [beq_dec, Bool.and_eq_true, decide_eq_true_eq] at hc2
      obtain ⟨⟨rfl, rfl⟩, rfl⟩ := hc2
      refine core _ (fun m b hzc => ?_) hk2
      have := row_one (T := T) (b := b) (bytes_zero hzc c)
      simpa [sizeP] using this
    · exact gen hk1
  · cases hk

/-! ### Slices of slices -/
def xBd (x : Option CV) (d y : Nat) : Option Nat :=
  match x with
  | none => some d
  | some (.int _ (.ofNat i)) => if Nat.ble i y then some i else none
  | _ => none
def Orl (m : M) (x : Option CV) (v : Option Value) : Prop := match x, v with | none, none => True | some x, some v => Vrel m x v | _, _ => False
theorem xBd_ok {m : M} {x : Option CV} {v : Option Value} {d y r : Nat} (h : xBd x d y = some r) (hx : Orl m x v) : boundE v d y = some r ∧ ((x = none → r = d) ∧ (x ≠ none → r ≤ y)) := by
  unfold xBd at h
  split at h
  · injection h with h; subst h
    cases v with
    | none => exact ⟨rfl, fun _ => rfl, fun h => absurd rfl h⟩
    | some v => exact hx.elim
  · rename_i q i
    split at h
    · rename_i hc
      injection h with h; subst h
      have hle := Nat.le_of_ble_eq_true hc
      cases v with
      | none => exact hx.elim
      | some v =>
        simp only [Orl, Vrel] at hx; subst hx
        refine ⟨?_, fun h => (by cases h), fun _ => hle⟩
        have : (0 : Int) ≤ Int.ofNat i ∧ Int.ofNat i ≤ (y : Int) := ⟨Int.natCast_nonneg i, by show (i : Int) ≤ y; omega⟩
        simp only [boundE, this, and_self, if_true]; rfl
    · cases h
  · cases h
def xHi (mx hi : Option CV) (n m : Nat) : Option Nat :=
  match mx, hi with
  | some _, none => none
  | _, _ => xBd hi n m
theorem xHi_ok {m : M} {mx hi : Option CV} {vm vh : Option Value} {n y r : Nat} (h : xHi mx hi n y = some r) (hm : Orl m mx vm) (hh : Orl m hi vh) : hiE vm vh n y = some r ∧ ((hi = none → r = n) ∧ (hi ≠ none → r ≤ y)) := by
  unfold xHi at h
  split at h
  · cases h
  · rename_i hne
    obtain ⟨h1, h2⟩ := xBd_ok h hh
    refine ⟨?_, h2⟩
    unfold hiE
    split
    · cases mx <;> cases hi <;> simp_all [Orl]
    · exact h1

noncomputable def xSlice (q : Option (Option Nat × Nat)) (x : CV) (lo hi mx : Option CV) (k : CV → Bool) : Bool :=
  match q, x with
  | some (none, s), .nils => (match xBd mx 0 0, xHi mx hi 0 0, xBd lo 0 0 with
    | some _, some hh, some l => Bool.rec false (k .nils) (Nat.beq hh 0 && Nat.beq l 0)
    | _, _, _ => false)
  | some (none, s), .sl b o n c => (match xBd mx c c with
    | some m => (match xHi mx hi n m with
      | some hh => (match xBd lo 0 hh with
        | some l => Bool.rec (forceN (o + l * s) fun o' => forceN (hh - l) fun n' => forceN (m - l) fun c' => k (.sl b o' n' c')) (forceN (hh - l) fun n' => k (.sl b o n' 0)) (Nat.beq m l)
        | none => false)
      | none => false)
    | none => false)
  | some (none, s), .so b o n es => (match mx with
    | none => (match xHi none hi n n with
      | some hh => (match xBd lo 0 hh with
        | some l => Bool.rec false (forceN (o + l * s) fun o' => forceN (hh - l) fun n' => k (.so b o' n' es)) (Nat.beq s es && Nat.ble l hh)
        | none => false)
      | none => false)
    | some mx => (match xBd (some mx) n n with
      | some m => (match xHi (some mx) hi n m with
        | some hh => (match xBd lo 0 hh with
          | some l => Bool.rec false (forceN (o + l * s) fun o' => forceN (hh - l) fun n' => forceN (m - l) fun c' => k (.sl b o' n' c')) (Nat.ble 1 n && Nat.ble (l + 1) m && Nat.ble m n)
          | none => false)
        | none => false)
      | none => false))
  | some (some n, s), .ptr b o => (match xBd mx n n with
    | some m => (match xHi mx hi n m with
      | some hh => (match xBd lo 0 hh with
        | some l => Bool.rec (forceN (o + l * s) fun o' => forceN (hh - l) fun n' => forceN (m - l) fun c' => k (.sl b o' n' c')) (forceN (hh - l) fun n' => k (.sl b o n' 0)) (Nat.beq m l)
        | none => false)
      | none => false)
    | none => false)
  | _, _ => false

theorem idxK_slice {P : Program} {T : TypeId} {s : Nat} (h : idxK P T = some (none, s)) : ∃ e i, P.underlying T = some (.slice e) ∧ P.info? e = some i ∧ i.size = s := by
  unfold idxK at h
  split at h
  · simp only [Option.map_eq_some_iff, Prod.mk.injEq, reduceCtorEq, false_and, and_false, exists_false] at h
  · rename_i e hu
    simp only [Option.map_eq_some_iff, Prod.mk.injEq, true_and] at h
    obtain ⟨i, hi, hs⟩ := h
    exact ⟨e, i, hu, hi, hs⟩
  · cases h
theorem idxK_array {P : Program} {T : TypeId} {n s : Nat} (h : idxK P T = some (some n, s)) : ∃ e i, P.underlying T = some (.array n e) ∧ P.info? e = some i ∧ i.size = s := by
  unfold idxK at h
  split at h
  · rename_i n' e hu
    simp only [Option.map_eq_some_iff, Prod.mk.injEq, Option.some.injEq] at h
    obtain ⟨i, hi, rfl, hs⟩ := h
    exact ⟨e, i, hu, hi, hs⟩
  · simp only [Option.map_eq_some_iff, Prod.mk.injEq, reduceCtorEq, false_and, and_false, exists_false] at h
  · cases h

theorem xSlice_ok {P : Program} {T : TypeId} {x : CV} {lo hi mx : Option CV} {k : CV → Bool} (hk : xSlice (idxK P T) x lo hi mx k = true) : ∃ z, k z = true ∧ ∀ {m vx vlo vhi vmx}, Vrel m x vx → Orl m lo vlo → Orl m hi vhi → Orl m mx vmx →
    ∃ v, sliceE P T vx vlo vhi vmx = some v ∧ Vrel m z v := by
  unfold xSlice at hk
  split at hk
  · rename_i s hq
    obtain ⟨e, i, hu, hi', hs⟩ := idxK_slice hq
    split at hk
    · rename_i mm hh l h1 h2 h3
      obtain ⟨hc, hk⟩ := rec_false hk
      simp only [beq_dec, Bool.and_eq_true, decide_eq_true_eq] at hc
      obtain ⟨rfl, rfl⟩ := hc
      refine ⟨_, hk, fun {m vx vlo vhi vmx} hx hlo hhi hmx => ?_⟩
      simp only [Vrel] at hx; subst hx
      obtain ⟨b1, b2, b3⟩ := xBd_ok h1 hmx
      have hm0 : mm = 0 := by
        by_cases hmn : mx = none
        · exact b2 hmn
        · have := b3 hmn; omega
      subst hm0
      obtain ⟨b4, _⟩ := xHi_ok h2 hmx hhi
      obtain ⟨b5, _⟩ := xBd_ok h3 hlo
      refine ⟨.slice none 0 0, ?_, rfl⟩
      unfold sliceE
      rw [hu]
      simp only [b1, b4, b5, hi', Option.bind_some, Option.map_some]
      simp
    · cases hk
  · rename_i s b o n c hq
    obtain ⟨e, i, hu, hi', hs⟩ := idxK_slice hq
    split at hk
    · rename_i mm h1
      split at hk
      · rename_i hh h2
        split at hk
        · rename_i l h3
          rw [beq_dec] at hk
          by_cases hml : mm = l
          · rw [decide_eq_true hml] at hk
            simp only [forceN_eq] at hk
            refine ⟨_, hk, fun {m vx vlo vhi vmx} hx hlo hhi hmx => ?_⟩
            obtain ⟨e', he, rfl⟩ := hx
            obtain ⟨b1, _⟩ := xBd_ok h1 hmx
            obtain ⟨b4, _⟩ := xHi_ok h2 hmx hhi
            obtain ⟨b5, _⟩ := xBd_ok h3 hlo
            refine ⟨.slice (some ⟨e'.1, o, none⟩) (hh - l) 0, ?_, e', he, rfl⟩
            unfold sliceE
            rw [hu]
            simp only [b1, b4, b5, hi', Option.bind_some, Option.map_some]
            rw [if_pos hml, show mm - l = 0 by omega]
          · rw [decide_eq_false hml] at hk
            simp only [forceN_eq] at hk
            refine ⟨_, hk, fun {m vx vlo vhi vmx} hx hlo hhi hmx => ?_⟩
            obtain ⟨e', he, rfl⟩ := hx
            obtain ⟨b1, _⟩ := xBd_ok h1 hmx
            obtain ⟨b4, _⟩ := xHi_ok h2 hmx hhi
            obtain ⟨b5, _⟩ := xBd_ok h3 hlo
            refine ⟨.slice (some ⟨e'.1, o + l * s, none⟩) (hh - l) (mm - l), ?_, e', he, rfl⟩
            unfold sliceE
            rw [hu]
            simp only [b1, b4, b5, hi', Option.bind_some, Option.map_some]
            rw [if_neg hml, hs, Addr.add_mk]
        · cases hk
      · cases hk
    · cases hk
  · rename_i s b o n es hq
    obtain ⟨e, i, hu, hi', hs⟩ := idxK_slice hq
    split at hk
    · split at hk
      · rename_i hh h2
        split at hk
        · rename_i l h3
          obtain ⟨hc, hk⟩ := rec_false hk
          simp only [beq_dec, ble_dec, Bool.and_eq_true, decide_eq_true_eq] at hc
          obtain ⟨rfl, hlh⟩ := hc
          simp only [forceN_eq] at hk
          refine ⟨_, hk, fun {m vx vlo vhi vmx} hx hlo hhi hmx => ?_⟩
          obtain ⟨e', base, cp, he, rfl, hlc, hroom, hsp, hbl, hoff⟩ := hx
          obtain ⟨bb, bo, bs⟩ := base
          simp only at hsp hbl hoff
          subst hsp hbl
          have hvm : vmx = none := by cases vmx with
            | none => rfl
            | some v => exact hmx.elim
          subst hvm
          obtain ⟨b4, b6, b7⟩ := xHi_ok (m := m) (vm := none) h2 trivial hhi
          obtain ⟨b5, _⟩ := xBd_ok h3 hlo
          have hhn : hh ≤ n := by
            by_cases hn : hi = none
            · exact Nat.le_of_eq (b6 hn)
            · exact b7 hn
          have b4' : hiE none vhi n cp = some hh := by
            have : hiE none vhi n n = boundE vhi n n := by cases vhi <;> rfl
            rw [this] at b4
            have : hiE none vhi n cp = boundE vhi n cp := by cases vhi <;> rfl
            rw [this]
            cases vhi with
            | none => exact b4
            | some v =>
              unfold boundE at b4 ⊢
              cases v <;> simp only at b4 ⊢ <;> try (cases b4; done)
              split at b4
              · rename_i hc
                rw [if_pos ⟨hc.1, by omega⟩]; exact b4
              · cases b4
          refine ⟨.slice (if cp = l then some ⟨e'.1, bo, none⟩ else some (Addr.add ⟨e'.1, bo, none⟩ (l * s))) (hh - l) (cp - l), ?_, e', (if cp = l then ⟨e'.1, bo, none⟩ else Addr.add ⟨e'.1, bo, none⟩ (l * s)), cp - l, he, ?_, by omega, ?_, ?_, ?_, ?_⟩
          · unfold sliceE
            rw [hu]
            have hb0 : boundE none cp cp = some cp := rfl
            simp only [hb0, b4', b5, hi', Option.bind_some, Option.map_some, hs]
          · split <;> rfl
          · have e1 : cp * s = l * s + (cp - l) * s := by rw [← Nat.add_mul]; congr 1; omega
            omega
          · split
            · rfl
            · rw [Addr.add_mk]
          · split
            · rfl
            · rw [Addr.add_mk]
          · intro h0
            split
            · rename_i hcl
              simp only
              rcases h0 with h0 | h0
              · omega
              · have : o = 0 := by omega
                have h5 := hoff (.inr this)
                omega
            · rename_i hcl
              rw [Addr.add_mk]
              simp only
              rcases h0 with h0 | h0
              · rw [hoff (.inl (by omega))]
              · have : o = 0 := by omega
                rw [hoff (.inr this)]
        · cases hk
      · cases hk
    · rename_i mx
      split at hk
      · rename_i mm h1
        split at hk
        · rename_i hh h2
          split at hk
          · rename_i l h3
            obtain ⟨hc, hk⟩ := rec_false hk
            simp only [ble_dec, Bool.and_eq_true, decide_eq_true_eq] at hc
            obtain ⟨⟨hn1, hlm⟩, hmn⟩ := hc
            simp only [forceN_eq] at hk
            refine ⟨_, hk, fun {m vx vlo vhi vmx} hx hlo hhi hmx => ?_⟩
            obtain ⟨e', base, cp, he, rfl, hlc, hroom, hsp, hbl, hoff⟩ := hx
            obtain ⟨bb, bo, bs⟩ := base
            simp only at hsp hbl hoff
            subst hsp hbl
            have := hoff (.inl (by omega))
            subst this
            cases vmx with
            | none => exact hmx.elim
            | some vm =>
              obtain ⟨b1, _, b3⟩ := xBd_ok h1 hmx
              obtain ⟨b4, _⟩ := xHi_ok h2 hmx hhi
              obtain ⟨b5, _⟩ := xBd_ok h3 hlo
              have b1' : boundE (some vm) cp cp = some mm := by
                unfold boundE at b1 ⊢
                cases vm <;> simp only at b1 ⊢ <;> try (cases b1; done)
                split at b1
                · rename_i hc
                  rw [if_pos ⟨hc.1, by omega⟩]; exact b1
                · cases b1
              refine ⟨.slice (some ⟨e'.1, bo + l * s, none⟩) (hh - l) (mm - l), ?_, e', he, rfl⟩
              unfold sliceE
              rw [hu]
              simp only [b1', b4, b5, hi', Option.bind_some, Option.map_some]
              rw [if_neg (by omega), hs, Addr.add_mk]
          · cases hk
        · cases hk
      · cases hk
  · rename_i n s b o hq
    obtain ⟨e, i, hu, hi', hs⟩ := idxK_array hq
    split at hk
    · rename_i mm h1
      split at hk
      · rename_i hh h2
        split at hk
        · rename_i l h3
          rw [beq_dec] at hk
          by_cases hml : mm = l
          · rw [decide_eq_true hml] at hk
            simp only [forceN_eq] at hk
            refine ⟨_, hk, fun {m vx vlo vhi vmx} hx hlo hhi hmx => ?_⟩
            obtain ⟨e', he, rfl⟩ := hx
            obtain ⟨b1, _⟩ := xBd_ok h1 hmx
            obtain ⟨b4, _⟩ := xHi_ok h2 hmx hhi
            obtain ⟨b5, _⟩ := xBd_ok h3 hlo
            refine ⟨.slice (some ⟨e'.1, o, none⟩) (hh - l) 0, ?_, e', he, rfl⟩
            unfold sliceE
            rw [hu]
            simp only [b1, b4, b5, hi', Option.bind_some, Option.map_some]
            rw [if_pos hml, show mm - l = 0 by omega]
          · rw [decide_eq_false hml] at hk
            simp only [forceN_eq] at hk
            refine ⟨_, hk, fun {m vx vlo vhi vmx} hx hlo hhi hmx => ?_⟩
            obtain ⟨e', he, rfl⟩ := hx
            obtain ⟨b1, _⟩ := xBd_ok h1 hmx
            obtain ⟨b4, _⟩ := xHi_ok h2 hmx hhi
            obtain ⟨b5, _⟩ := xBd_ok h3 hlo
            refine ⟨.slice (some ⟨e'.1, o + l * s, none⟩) (hh - l) (mm - l), ?_, e', he, rfl⟩
            unfold sliceE
            rw [hu]
            simp only [b1, b4, b5, hi', Option.bind_some, Option.map_some]
            rw [if_neg hml, hs, Addr.add_mk]
        · cases hk
      · cases hk
    · cases hk
  · cases hk

/-! ### len -/
def lenK (P : Program) (T : TypeId) : Option (Sum Bool Nat) :=
  match P.underlying T with
  | some .string => some (.inl true)
  | some (.slice _) => some (.inl false)
  | some (.array n _) => some (.inr n)
  | some (.pointer a) => match P.underlying a with | some (.array n _) => some (.inr n) | _ => none
  | _ => none
theorem lenK_slice {P : Program} {T : TypeId} (hq : lenK P T = some (.inl false)) : ∃ e, P.underlying T = some (.slice e) := by
  unfold lenK at hq
  split at hq <;> first | (exact ⟨_, by assumption⟩) | (cases hq; done) | (split at hq <;> cases hq)
noncomputable def xLen (q : Option (Sum Bool Nat)) (x : CV) (k : CV → Bool) : Bool :=
  match q, x with
  | some (.inr n), _ => k (.int .i64 (.ofNat n))
  | some (.inl true), .str s => forceN s.size fun n => k (.int .i64 (.ofNat n))
  | some (.inl false), .nils => k (.int .i64 0)
  | some (.inl false), .sl _ _ n _ => k (.int .i64 (.ofNat n))
  | some (.inl false), .so _ _ n _ => k (.int .i64 (.ofNat n))
  | _, _ => false
theorem xLen_ok {P : Program} {T : TypeId} {x : CV} {k : CV → Bool} (hk : xLen (lenK P T) x k = true) : ∃ z, k z = true ∧ ∀ {m vx}, Vrel m x vx → ∃ v, lenE P T vx = some v ∧ Vrel m z v := by
  unfold xLen at hk
  split at hk
  · rename_i n hq
    refine ⟨_, hk, fun {m vx} hx => ⟨.int .i64 n, ?_, rfl⟩⟩
    unfold lenK at hq
    unfold lenE
    split at hq <;> try (cases hq; done)
    · rename_i n' e hu
      injection hq with hq; injection hq with hq; subst hq
      rw [hu]; rfl
    · rename_i a hu
      split at hq
      · rename_i n' e hu2
        injection hq with hq; injection hq with hq; subst hq
        rw [hu]; simp only [hu2]; rfl
      · cases hq
  · rename_i s hq
    rw [forceN_eq] at hk
    refine ⟨_, hk, fun {m vx} hx => ⟨.int .i64 s.size, ?_, rfl⟩⟩
    simp only [Vrel] at hx; subst hx
    have hu : P.underlying T = some .string := by
      unfold lenK at hq
      split at hq <;> first | assumption | (cases hq; done) | (split at hq <;> cases hq)
    unfold lenE; rw [hu]; rfl
  · rename_i hq
    obtain ⟨e, hu⟩ := lenK_slice hq
    refine ⟨_, hk, fun {m vx} hx => ⟨.int .i64 0, ?_, rfl⟩⟩
    simp only [Vrel] at hx; subst hx
    exact len_slice hu
  · rename_i hq
    obtain ⟨e, hu⟩ := lenK_slice hq
    refine ⟨_, hk, fun {m vx} hx => ?_⟩
    obtain ⟨e', he, rfl⟩ := hx
    exact ⟨_, len_slice hu, rfl⟩
  · rename_i hq
    obtain ⟨e, hu⟩ := lenK_slice hq
    refine ⟨_, hk, fun {m vx} hx => ?_⟩
    obtain ⟨e', base, c, he, rfl, _⟩ := hx
    exact ⟨_, len_slice hu, rfl⟩
  · cases hk

/-! ### Parts of strings -/
def strU (P : Program) (T : TypeId) : Bool := match P.underlying T with | some .string => true | _ => false
noncomputable def xSliceS (x : CV) (lo hi mx : Option CV) (k : CV → Bool) : Bool :=
  match x, mx with
  | .str s, none => (match xBd hi s.data.toList.length s.data.toList.length with
    | some hh => (match xBd lo 0 hh with
      | some l => k (.str ⟨⟨(s.data.toList.drop l).take (hh - l)⟩⟩)
      | none => false)
    | none => false)
  | _, _ => false
theorem xSliceS_ok {P : Program} {T : TypeId} (hu : strU P T = true) {x : CV} {lo hi mx : Option CV} {k : CV → Bool} (hk : xSliceS x lo hi mx k = true) : ∃ z, k z = true ∧ ∀ {m vx vlo vhi vmx}, Vrel m x vx → Orl m lo vlo → Orl m hi vhi → Orl m mx vmx →
    ∃ v, sliceE P T vx vlo vhi vmx = some v ∧ Vrel m z v := by
  have hu' : P.underlying T = some .string := by
    unfold strU at hu
    split at hu
    · assumption
    · cases hu
  unfold xSliceS at hk
  split at hk
  · rename_i s
    split at hk
    · rename_i hh h1
      split at hk
      · rename_i l h2
        refine ⟨_, hk, fun {m vx vlo vhi vmx} hx hlo hhi hmx => ?_⟩
        simp only [Vrel] at hx
        subst hx
        have e1 := (xBd_ok h1 hhi).1
        have e2 := (xBd_ok h2 hlo).1
        cases vmx with
        | some v => exact hmx.elim
        | none =>
          have hs : s.size = s.data.toList.length := rfl
          refine ⟨.string (s.extract l hh), ?_, ?_⟩
          · unfold sliceE
            rw [hu']
            show ((boundE vhi s.size s.size).bind fun h => (boundE vlo 0 h).map fun l => Value.string (s.extract l h)) = _
            rw [hs, e1]
            show (boundE vlo 0 hh).map (fun l => Value.string (s.extract l hh)) = _
            rw [e2]; rfl
          · simp only [Vrel]
            congr 1
            apply ByteArray.ext
            rw [ByteArray.data_extract]
            apply Array.ext'
            rw [Array.toList_extract, List.extract_eq_take_drop]
      · cases hk
    · cases hk
  · cases hk
end Go.Xc

/- Xc, part I: maps, equality, structs out of parts, copy. -/
set_option linter.unusedVariables false
set_option linter.unusedSectionVars false
set_option linter.unusedSimpArgs false
namespace Go.Xc
open Go.Vc
variable [Sites]

/-! ### Values that are the same wherever blocks lie -/
mutual
def plB : CV → Bool
  | .int _ _ | .bool _ | .str _ | .nilp | .nils | .nilm | .nilf => true
  | .agg ps => plP ps
  | .tup vs => plL vs
  | _ => false
def plP : List CV → Bool
  | [] => true
  | .bytes _ _ :: ps => plP ps
  | p :: ps => scalar p && plB p && plP ps
def plL : List CV → Bool
  | [] => true
  | v :: vs => plB v && plL vs
end
mutual
def valP : CV → Value
  | .int q n => .int q n
  | .bool b => .bool b
  | .str s => .string s
  | .nilp => .pointer none
  | .nils => .slice none 0 0
  | .nilm => .map none
  | .nilf => .nilFunc
  | .agg ps => .agg (valC ps).toArray
  | .tup vs => .tuple (valL vs).toArray
  | _ => undef
def valC : List CV → List Value
  | [] => []
  | .bytes n x :: ps => bytesL n x ++ valC ps
  | p :: ps => valP p :: valC ps
def valL : List CV → List Value
  | [] => []
  | v :: vs => valP v :: valL vs
end
theorem plP_cons {p : CV} {ps : List CV} (hs : scalar p = true) : plP (p :: ps) = (scalar p && plB p && plP ps) := by
  cases p <;> first | (cases hs; done) | rfl
theorem valC_cons {p : CV} {ps : List CV} (hs : scalar p = true) : valC (p :: ps) = valP p :: valC ps := by
  cases p <;> first | (cases hs; done) | rfl
mutual
theorem valP_ok : ∀ (z : CV), plB z = true → ∀ {m : M} {u : Value}, Vrel m z u → u = valP z
  | .int _ _, _, _, _, hu | .bool _, _, _, _, hu | .str _, _, _, _, hu | .nilp, _, _, _, hu | .nils, _, _, _, hu | .nilm, _, _, _, hu | .nilf, _, _, _, hu => hu
  | .agg ps, h, m, u, hu => by
    obtain ⟨c, rfl, hc⟩ := hu
    have : c.toList = valC ps := valC_ok ps h hc
    simp only [valP]
    rw [← this]
  | .tup vs, h, m, u, hu => by
    obtain ⟨c, rfl, hc⟩ := hu
    have : c.toList = valL vs := valL_ok vs h hc
    simp only [valP]
    rw [← this]
  | .ptr _ _, h, _, _, _ | .sl _ _ _ _, h, _, _, _ | .so _ _ _ _, h, _, _, _ | .map _, h, _, _, _ | .fn _ _ _, h, _, _, _ | .bytes _ _, h, _, _, _ | .yv _, h, _, _, _ | .junk, h, _, _, _ => by cases h
theorem valC_ok : ∀ (ps : List CV), plP ps = true → ∀ {m : M} {l : List Value}, Crel m ps l → l = valC ps
  | [], _, _, _, hu => hu
  | p :: ps, h, m, l, hu => by
    rcases Crel_scalar hu with ⟨n, x, rfl⟩ | hs
    · obtain ⟨l', rfl, h2⟩ := hu
      rw [valC_ok ps h h2]; rfl
    · rw [Crel_cons hs] at hu
      rw [plP_cons hs] at h
      simp only [Bool.and_eq_true] at h
      obtain ⟨v, l', rfl, _, h3, h4⟩ := hu
      rw [valC_cons hs, valP_ok p h.1.2 h3, valC_ok ps h.2 h4]
theorem valL_ok : ∀ (vs : List CV), plL vs = true → ∀ {m : M} {l : List Value}, Vrels m vs l → l = valL vs
  | [], _, _, _, hu => hu
  | v :: vs, h, m, l, hu => by
    simp only [plL, Bool.and_eq_true] at h
    obtain ⟨x, l', rfl, h3, h4⟩ := hu
    rw [valP_ok v h.1 h3, valL_ok vs h.2 h4]; rfl
end
mutual
theorem valP_rel : ∀ (z : CV), plB z = true → ∀ (m : M), Vrel m z (valP z)
  | .int _ _, _, _ | .bool _, _, _ | .str _, _, _ | .nilp, _, _ | .nils, _, _ | .nilm, _, _ | .nilf, _, _ => rfl
  | .agg ps, h, m => ⟨_, rfl, valC_rel ps h m⟩
  | .tup vs, h, m => ⟨_, rfl, valL_rel vs h m⟩
  | .ptr _ _, h, _ | .sl _ _ _ _, h, _ | .so _ _ _ _, h, _ | .map _, h, _ | .fn _ _ _, h, _ | .bytes _ _, h, _ | .yv _, h, _ | .junk, h, _ => by cases h
theorem valC_rel : ∀ (ps : List CV), plP ps = true → ∀ (m : M), Crel m ps (valC ps)
  | [], _, _ => rfl
  | p :: ps, h, m => by
    by_cases hs : scalar p = true
    · rw [plP_cons hs] at h
      simp only [Bool.and_eq_true] at h
      rw [Crel_cons hs, valC_cons hs]
      exact ⟨_, _, rfl, hs, valP_rel p h.1.2 m, valC_rel ps h.2 m⟩
    · cases p <;> first | exact absurd rfl hs | skip
      · exact ⟨_, rfl, valC_rel ps h m⟩
      all_goals (simp only [plP, scalar, Bool.false_and] at h; cases h)
theorem valL_rel : ∀ (vs : List CV), plL vs = true → ∀ (m : M), Vrels m vs (valL vs)
  | [], _, _ => rfl
  | v :: vs, h, m => by
    simp only [plL, Bool.and_eq_true] at h
    exact ⟨_, _, rfl, valP_rel v h.1 m, valL_rel vs h.2 m⟩
end

/-! ### Maps -/
def keyEq (a b : CV) : Option Bool :=
  match a, b with
  | .int .i64 (.ofNat x), .int .i64 (.ofNat y) => some (Nat.beq x y)
  | .int q x, .int q' y => if q = q' then some (x == y) else none
  | .str x, .str y => some (x == y)
  | .bool x, .bool y => some (x == y)
  | _, _ => none
def kdOk (kd : TypeDesc) (a : CV) : Bool :=
  match kd, a with
  | .int _, .int _ _ => true
  | .string, .str _ => true
  | .bool, .bool _ => true
  | _, _ => false
theorem keyEq_ok {kd : TypeDesc} {a b : CV} {r : Bool} (h : keyEq a b = some r) (hk : kdOk kd a = true) {m : M} {va vb : Value} (ha : Vrel m a va) (hb : Vrel m b vb) : Instr.sameNow kd va vb = some r := by
  unfold keyEq at h
  split at h
  · rename_i x y
    injection h with h; subst h
    simp only [Vrel] at ha hb; subst ha hb
    unfold kdOk at hk
    split at hk <;> try (cases hk; done)
    all_goals first | (rename_i he; cases he; done) | skip
    show (if IntKind.i64 = IntKind.i64 then some ((Int.ofNat x) == (Int.ofNat y)) else none) = _
    rw [if_pos rfl, beq_dec]
    congr 1; rw [Bool.eq_iff_iff]; simp; omega
  · rename_i q x q' y _
    split at h
    · rename_i hq
      injection h with h; subst h hq
      simp only [Vrel] at ha hb; subst ha hb
      unfold kdOk at hk
      split at hk <;> try (cases hk; done)
      all_goals first | (rename_i he; cases he; done) | skip
      simp [Instr.sameNow]
    · cases h
  · injection h with h; subst h
    simp only [Vrel] at ha hb; subst ha hb
    unfold kdOk at hk
    split at hk <;> try (cases hk; done)
    all_goals first | (rename_i he; cases he; done) | skip
    rfl
  · injection h with h; subst h
    simp only [Vrel] at ha hb; subst ha hb
    unfold kdOk at hk
    split at hk <;> try (cases hk; done)
    all_goals first | (rename_i he; cases he; done) | skip
    rfl
  · cases h

noncomputable def findX (a : CV) (es : List (CV × CV)) : Nat → Option (Option (Nat × CV)) :=
  List.rec (motive := fun _ => Nat → Option (Option (Nat × CV))) (fun _ => some none) (fun p _ ih i => match keyEq a p.1 with
    | some true => some (some (i, p.2))
    | some false => ih (i + 1)
    | none => none) es
def SameF (m : M) (r : Option (Nat × CV)) (r' : Option (Nat × Value)) : Prop :=
  match r, r' with
  | some (j, v), some (j', u) => j = j' ∧ Vrel m v u
  | none, none => True
  | _, _ => False
theorem findX_ok {kd : TypeDesc} {a : CV} {m : M} {va : Value} (hk : kdOk kd a = true) (ha : Vrel m a va) : ∀ {es : List (CV × CV)} {l : List MapEntry} {i : Nat} {r : Option (Nat × CV)}, Mrel m es l → findX a es i = some r → ∃ r', Instr.findNow kd va l i = some r' ∧ SameF m r r'
  | [], l, i, r, h, hf => by
    simp only [Mrel] at h; subst h
    have hf' : some none = some r := hf
    injection hf' with hf'; subst hf'
    exact ⟨none, rfl, trivial⟩
  | (b, v) :: es, l, i, r, h, hf => by
    obtain ⟨x, l', rfl, h1, h2, h3, h4⟩ := h
    have hf' : (match keyEq a b with
      | some true => some (some (i, v))
      | some false => findX a es (i + 1)
      | none => none) = some r := hf
    unfold Instr.findNow
    split at hf'
    · rename_i hq
      rw [keyEq_ok hq hk ha h2]
      injection hf' with hf'; subst hf'
      exact ⟨_, rfl, rfl, h3⟩
    · rename_i hq
      rw [keyEq_ok hq hk ha h2]
      exact findX_ok hk ha h4 hf'
    · cases hf'
theorem Mrel_set {m : M} {a b : CV} {x : MapEntry} (hs : True) (h1 : Vrel m a x.key) (h2 : Vrel m b x.val) : ∀ {es : List (CV × CV)} {l : List MapEntry} {i : Nat}, Mrel m es l → i < es.length → Mrel m (es.set i (a, b)) (l.set i x)
  | [], _, _, _, hi => by simp at hi
  | p :: es, l, 0, h, _ => by
    obtain ⟨y, l', rfl, _, _, _, h4⟩ := h
    exact ⟨x, l', rfl, hs, h1, h2, h4⟩
  | (p, q) :: es, l, i + 1, h, hi => by
    obtain ⟨y, l', rfl, h3, h4, h5, h6⟩ := h
    exact ⟨y, l'.set i x, rfl, h3, h4, h5, Mrel_set hs h1 h2 h6 (by simpa using hi)⟩
theorem Mrel_snoc {m : M} {a b : CV} {x : MapEntry} (hs : True) (h1 : Vrel m a x.key) (h2 : Vrel m b x.val) : ∀ {es : List (CV × CV)} {l : List MapEntry}, Mrel m es l → Mrel m (es ++ [(a, b)]) (l ++ [x])
  | [], l, h => by simp only [Mrel] at h; subst h; exact ⟨x, [], rfl, hs, h1, h2, rfl⟩
  | (p, q) :: es, l, h => by
    obtain ⟨y, l', rfl, h3, h4, h5, h6⟩ := h
    exact ⟨y, l' ++ [x], rfl, h3, h4, h5, Mrel_snoc hs h1 h2 h6⟩
theorem Mrel_erase {m : M} : ∀ {es : List (CV × CV)} {l : List MapEntry} {i : Nat}, Mrel m es l → Mrel m (es.eraseIdx i) (l.eraseIdx i)
  | [], l, i, h => by simp only [Mrel] at h; subst h; rfl
  | (p, q) :: es, l, 0, h => by obtain ⟨y, l', rfl, _, _, _, h4⟩ := h; exact h4
  | (p, q) :: es, l, i + 1, h => by
    obtain ⟨y, l', rfl, h3, h4, h5, h6⟩ := h
    exact ⟨y, l'.eraseIdx i, rfl, h3, h4, h5, Mrel_erase h6⟩
theorem Mrel_len {m : M} : ∀ {es : List (CV × CV)} {l : List MapEntry}, Mrel m es l → l.length = es.length
  | [], l, h => by simp only [Mrel] at h; subst h; rfl
  | (p, q) :: es, l, h => by obtain ⟨y, l', rfl, _, _, _, h4⟩ := h; simp [Mrel_len h4]
theorem findX_lt {a : CV} : ∀ {es : List (CV × CV)} {i j : Nat} {v : CV}, findX a es i = some (some (j, v)) → i ≤ j ∧ j < i + es.length
  | [], i, j, v, h => by
    have h' : (some none : Option (Option (Nat × CV))) = some (some (j, v)) := h
    injection h' with h'; cases h'
  | (b, w) :: es, i, j, v, h => by
    have h' : (match keyEq a b with
      | some true => some (some (i, w))
      | some false => findX a es (i + 1)
      | none => none) = some (some (j, v)) := h
    split at h'
    · injection h' with h'; injection h' with h'; injection h' with h1 h2; subst h1
      simp
    · obtain ⟨h1, h2⟩ := findX_lt h'
      simp; omega
    · cases h'

def ZeroV (P : Program) (T : TypeId) (z : CV) : Prop := ∃ v, zeroE P T = some v ∧ ∀ m, Vrel m z v
theorem ZeroV.ok {P : Program} {T : TypeId} {z : CV} {ps : List CV} (h : ZeroV P T z) (hp : toP z = some ps) : ZeroOk P T ps := by
  obtain ⟨v, h1, h2⟩ := h
  exact ⟨v, h1, fun m => toP_ok (h2 m) hp⟩

noncomputable def mkX (ok : Bool) (v : CV) (b : Bool) (k : CV → Bool) : Bool := Bool.rec (k v) (k (.tup [v, .bool b])) ok
theorem mkX_ok {ok : Bool} {v : CV} {b : Bool} {k : CV → Bool} (h : mkX ok v b k = true) : ∃ z, k z = true ∧ ∀ {m u}, Vrel m v u → Vrel m z (mkOk ok u b) := by
  cases ok
  · exact ⟨_, h, fun hv => hv⟩
  · exact ⟨_, h, fun {m u} hv => ⟨#[u, .bool b], rfl, u, [.bool b], rfl, hv, .bool b, [], rfl, rfl, rfl⟩⟩

noncomputable def xLookup (mi : Option (TypeId × TypeDesc × TypeId)) (zs : Option CV) (ok : Bool) (x key : CV) (h : CH) (k : CV → Bool) : Bool :=
  match mi, zs with
  | some (_, kd, _), some zv => Bool.rec false (match (match x with | .nilm => some [] | .map b => (match h.get b with | some (.map es _) => some es | _ => none) | _ => none) with
    | some es => (match findX key es 0 with
      | some (some (_, v)) => mkX ok v true k
      | some none => mkX ok zv false k
      | none => false)
    | none => false) (kdOk kd key)
  | _, _ => false
theorem xLookup_ok {P : Program} {mi : Option (TypeId × TypeDesc × TypeId)} {zs : Option CV} {ok : Bool} {x key : CV} {h : CH} {k : CV → Bool} (hz : ∀ a b c z, mi = some (a, b, c) → zs = some z → ZeroV P c z) (hk : xLookup mi zs ok x key h k = true) :
    ∃ z, k z = true ∧ ∀ {H0 m H vx vk}, Rel H0 m h H → Vrel m x vx → Vrel m key vk → ∃ v, lookupE P mi ok vx vk H = some v ∧ Vrel m z v := by
  unfold xLookup at hk
  split at hk
  · rename_i kt kd et zv
    obtain ⟨hkd, hk1⟩ := rec_false hk
    clear hk
    split at hk1
    · rename_i es hes
      have ents : ∀ {H0 m H vx}, Rel H0 m h H → Vrel m x vx → ∃ ents, entsH vx H = some ents ∧ Mrel m es ents.toList := by
        intro H0 m H vx hr hx
        split at hes
        · injection hes with hes; subst hes
          simp only [Vrel] at hx; subst hx
          exact ⟨#[], rfl, rfl⟩
        · rename_i b
          split at hes
          · rename_i es' c hg
            injection hes with hes; subst hes
            obtain ⟨e, he, rfl⟩ := hx
            obtain ⟨e', O, h1, h2, h3⟩ := hr.obj b _ hg
            rw [he] at h1; injection h1 with h1; subst h1
            obtain ⟨ents, rfl, h4⟩ := h3
            exact ⟨ents, by simp [entsH, mapH, h2], h4⟩
          · cases hes
        · cases hes
      split at hk1
      · rename_i i v hf
        obtain ⟨z, h1, h2⟩ := mkX_ok hk1
        refine ⟨z, h1, fun {H0 m H vx vk} hr hx hkey => ?_⟩
        obtain ⟨es', h3, h4⟩ := ents hr hx
        obtain ⟨r', h5, h6⟩ := findX_ok hkd hkey h4 hf
        match r', h6 with
        | some (j, u), h6 => exact ⟨_, by simp only [lookupE, h3, Option.bind_some, h5], h2 h6.2⟩
      · rename_i hf
        obtain ⟨z, h1, h2⟩ := mkX_ok hk1
        refine ⟨z, h1, fun {H0 m H vx vk} hr hx hkey => ?_⟩
        obtain ⟨es', h3, h4⟩ := ents hr hx
        obtain ⟨r', h5, h6⟩ := findX_ok hkd hkey h4 hf
        obtain ⟨vz, h7, h8⟩ := hz _ _ _ _ rfl rfl
        match r', h6 with
        | none, h6 => exact ⟨_, by simp only [lookupE, h3, Option.bind_some, h5, h7, Option.map_some], h2 (h8 m)⟩
      · cases hk1
    · cases hk1
  · cases hk

noncomputable def xMapSet (mi : Option (TypeId × TypeDesc × TypeId)) (x key v : CV) (h : CH) (k : CH → Bool) : Bool :=
  match mi, x with
  | some (_, kd, _), .map b => Bool.rec false (match h.get b with
    | some (.map es c) => (match findX key es 0 with
      | some (some (i, _)) => xSet b (.map (es.set i (key, v)) c) h k
      | some none => forceN (c + 1) fun c' => xSet b (.map (es ++ [(key, v)]) c') h k
      | none => false)
    | _ => false) (kdOk kd key && scalar key)
  | _, _ => false
theorem xMapSet_ok {mi : Option (TypeId × TypeDesc × TypeId)} {x key v : CV} {h : CH} {k : CH → Bool} (hk : xMapSet mi x key v h k = true) : ∃ h', k h' = true ∧ h'.wp = h.wp ∧ ∀ {H0 m H vx vk vv} {K : Hp → Prop}, Rel H0 m h H → Vrel m x vx → Vrel m key vk → Vrel m v vv →
    (∀ H', Rel H0 m h' H' → Stp h.wp m H m H' → K H') → Pu (mapSetE mi vx vk vv H) K := by
  unfold xMapSet at hk
  split at hk
  · rename_i kt kd et b
    obtain ⟨hkd, hk1⟩ := rec_false hk
    clear hk
    simp only [Bool.and_eq_true] at hkd
    split at hk1
    · rename_i es c hg
      split at hk1
      · rename_i i w hf
        obtain ⟨h', hk2, hwp, hset⟩ := xSet_ok hk1
        refine ⟨h', hk2, hwp, fun {H0 m H vx vk vv K} hr hx hkey hv hK => ?_⟩
        obtain ⟨e, he, rfl⟩ := hx
        obtain ⟨e', O, h1, h2, ents, rfl, h3⟩ := hr.obj b _ hg
        rw [he] at h1; injection h1 with h1; subst h1
        obtain ⟨r', h5, h6⟩ := findX_ok hkd.1 hkey h3 hf
        have hlt := (findX_lt hf).2
        rw [Nat.zero_add] at hlt
        match r', h5, h6 with
        | some (j, u), h5, h6 =>
          obtain ⟨rfl, _⟩ := h6
          have hm : mapH H e.1 = some (ents, c) := by simp [mapH, h2]
          have hms : mapSetE (some (kt, kd, et)) (.map (some e.1)) vk vv H = some (H.setIfInBounds e.1 (.map (ents.modify i fun e => { e with key := vk, val := vv }) c)) := by
            simp only [mapSetE, hm, Option.bind_some, h5, Option.map_some]
          rw [hms, Pu_some]
          have hil : i < ents.size := by rw [← Array.length_toList, Mrel_len h3]; exact hlt
          have hor : Orel m e (.map (es.set i (key, v)) c) (.map (ents.modify i fun e => { e with key := vk, val := vv }) c) := by
            refine ⟨_, rfl, ?_⟩
            have e1 : (ents.modify i fun e => { e with key := vk, val := vv }).toList = ents.toList.set i { ents[i] with key := vk, val := vv } := by
              apply List.ext_getElem?
              intro j
              rw [Array.getElem?_toList, Array.getElem?_modify, List.getElem?_set, Array.getElem?_toList]
              by_cases hij : i = j
              · subst hij; simp [hil]
              · simp [hij]
            rw [e1]
            exact Mrel_set trivial hkey hv h3 hlt
          obtain ⟨r1, r2⟩ := hset hr hg he hor
          exact hK _ r1 r2
      · rename_i hf
        rw [forceN_eq] at hk1
        obtain ⟨h', hk2, hwp, hset⟩ := xSet_ok hk1
        refine ⟨h', hk2, hwp, fun {H0 m H vx vk vv K} hr hx hkey hv hK => ?_⟩
        obtain ⟨e, he, rfl⟩ := hx
        obtain ⟨e', O, h1, h2, ents, rfl, h3⟩ := hr.obj b _ hg
        rw [he] at h1; injection h1 with h1; subst h1
        obtain ⟨r', h5, h6⟩ := findX_ok hkd.1 hkey h3 hf
        match r', h5, h6 with
        | none, h5, h6 =>
          have hm : mapH H e.1 = some (ents, c) := by simp [mapH, h2]
          have hms : mapSetE (some (kt, kd, et)) (.map (some e.1)) vk vv H = some (H.setIfInBounds e.1 (.map (ents.push { key := vk, val := vv, born := c }) (c + 1))) := by
            simp only [mapSetE, hm, Option.bind_some, h5, Option.map_some]
          rw [hms, Pu_some]
          have hor : Orel m e (.map (es ++ [(key, v)]) (c + 1)) (.map (ents.push { key := vk, val := vv, born := c }) (c + 1)) := by
            refine ⟨_, rfl, ?_⟩
            rw [Array.toList_push]
            exact Mrel_snoc trivial hkey hv h3
          obtain ⟨r1, r2⟩ := hset hr hg he hor
          exact hK _ r1 r2
      · cases hk1
    · cases hk1
  · cases hk

noncomputable def xMapDel (mi : Option (TypeId × TypeDesc × TypeId)) (x key : CV) (h : CH) (k : CH → Bool) : Bool :=
  match mi, x with
  | some (_, kd, _), .map b => Bool.rec false (match h.get b with
    | some (.map es c) => (match findX key es 0 with
      | some (some (i, _)) => xSet b (.map (es.eraseIdx i) c) h k
      | some none => xSet b (.map es c) h k
      | none => false)
    | _ => false) (kdOk kd key)
  | _, _ => false
theorem xMapDel_ok {mi : Option (TypeId × TypeDesc × TypeId)} {x key : CV} {h : CH} {k : CH → Bool} (hk : xMapDel mi x key h k = true) : ∃ h', k h' = true ∧ h'.wp = h.wp ∧ ∀ {H0 m H vx vk} {K : Hp → Prop}, Rel H0 m h H → Vrel m x vx → Vrel m key vk →
    (∀ H', Rel H0 m h' H' → Stp h.wp m H m H' → K H') → Pu (mapDelE mi vx vk H) K := by
  unfold xMapDel at hk
  split at hk
  · rename_i kt kd et b
    obtain ⟨hkd, hk1⟩ := rec_false hk
    clear hk
    split at hk1
    · rename_i es c hg
      split at hk1
      · rename_i i w hf
        obtain ⟨h', hk2, hwp, hset⟩ := xSet_ok hk1
        refine ⟨h', hk2, hwp, fun {H0 m H vx vk K} hr hx hkey hK => ?_⟩
        obtain ⟨e, he, rfl⟩ := hx
        obtain ⟨e', O, h1, h2, ents, rfl, h3⟩ := hr.obj b _ hg
        rw [he] at h1; injection h1 with h1; subst h1
        obtain ⟨r', h5, h6⟩ := findX_ok hkd hkey h3 hf
        match r', h5, h6 with
        | some (j, u), h5, h6 =>
          obtain ⟨rfl, _⟩ := h6
          have hm : mapH H e.1 = some (ents, c) := by simp [mapH, h2]
          have hms : mapDelE (some (kt, kd, et)) (.map (some e.1)) vk H = some (H.setIfInBounds e.1 (.map (ents.eraseIdxIfInBounds i) c)) := by
            simp only [mapDelE, hm, Option.bind_some, h5, Option.map_some, delO]
          rw [hms, Pu_some]
          have hor : Orel m e (.map (es.eraseIdx i) c) (.map (ents.eraseIdxIfInBounds i) c) := by
            refine ⟨_, rfl, ?_⟩
            rw [Array.toList_eraseIdxIfInBounds]
            exact Mrel_erase h3
          obtain ⟨r1, r2⟩ := hset hr hg he hor
          exact hK _ r1 r2
      · rename_i hf
        obtain ⟨h', hk2, hwp, hset⟩ := xSet_ok hk1
        refine ⟨h', hk2, hwp, fun {H0 m H vx vk K} hr hx hkey hK => ?_⟩
        obtain ⟨e, he, rfl⟩ := hx
        obtain ⟨e', O, h1, h2, ents, rfl, h3⟩ := hr.obj b _ hg
        rw [he] at h1; injection h1 with h1; subst h1
        obtain ⟨r', h5, h6⟩ := findX_ok hkd hkey h3 hf
        match r', h5, h6 with
        | none, h5, h6 =>
          have hm : mapH H e.1 = some (ents, c) := by simp [mapH, h2]
          have hms : mapDelE (some (kt, kd, et)) (.map (some e.1)) vk H = some (H.setIfInBounds e.1 (.map ents c)) := by
            simp only [mapDelE, hm, Option.bind_some, h5, Option.map_some, delO]
          rw [hms, Pu_some]
          obtain ⟨r1, r2⟩ := hset hr hg he ⟨ents, rfl, h3⟩
          exact hK _ r1 r2
      · cases hk1
    · cases hk1
  · cases hk

noncomputable def xMapClr (x : CV) (h : CH) (k : CH → Bool) : Bool :=
  match x with
  | .nilm => k h
  | .map b => (match h.get b with
    | some (.map _ c) => xSet b (.map [] c) h k
    | _ => false)
  | _ => false
theorem xMapClr_ok {x : CV} {h : CH} {k : CH → Bool} (hk : xMapClr x h k = true) : ∃ h', k h' = true ∧ h'.wp = h.wp ∧ ∀ {H0 m H vx} {K : Hp → Prop}, Rel H0 m h H → Vrel m x vx →
    (∀ H', Rel H0 m h' H' → Stp h.wp m H m H' → K H') → Pu (mapClrE vx H) K := by
  unfold xMapClr at hk
  split at hk
  · refine ⟨h, hk, rfl, fun {H0 m H vx K} hr hx hK => ?_⟩
    simp only [Vrel] at hx; subst hx
    exact ⟨H, rfl, hK H hr (Stp.refl _ _ _)⟩
  · rename_i b
    split at hk
    · rename_i es c hg
      obtain ⟨h', hk2, hwp, hset⟩ := xSet_ok hk
      refine ⟨h', hk2, hwp, fun {H0 m H vx K} hr hx hK => ?_⟩
      obtain ⟨e, he, rfl⟩ := hx
      obtain ⟨e', O, h1, h2, ents, rfl, h3⟩ := hr.obj b _ hg
      rw [he] at h1; injection h1 with h1; subst h1
      have hm : mapH H e.1 = some (ents, c) := by simp [mapH, h2]
      have hms : mapClrE (.map (some e.1)) H = some (H.setIfInBounds e.1 (.map #[] c)) := by
        simp only [mapClrE, hm, Option.map_some]
      rw [hms, Pu_some]
      obtain ⟨r1, r2⟩ := hset hr hg he ⟨#[], rfl, rfl⟩
      exact hK _ r1 r2
    · cases hk
  · cases hk
noncomputable def xMapLen (x : CV) (h : CH) (k : CV → Bool) : Bool :=
  match x with
  | .nilm => k (.int .i64 0)
  | .map b => (match h.get b with
    | some (.map es _) => forceN es.length fun n => k (.int .i64 (.ofNat n))
    | _ => false)
  | _ => false
theorem xMapLen_ok {x : CV} {h : CH} {k : CV → Bool} (hk : xMapLen x h k = true) : ∃ z, k z = true ∧ ∀ {H0 m H vx}, Rel H0 m h H → Vrel m x vx → ∃ v, mapLenE vx H = some v ∧ Vrel m z v := by
  unfold xMapLen at hk
  split at hk
  · refine ⟨_, hk, fun {H0 m H vx} hr hx => ?_⟩
    simp only [Vrel] at hx; subst hx
    exact ⟨_, rfl, rfl⟩
  · rename_i b
    split at hk
    · rename_i es c hg
      rw [forceN_eq] at hk
      refine ⟨_, hk, fun {H0 m H vx} hr hx => ?_⟩
      obtain ⟨e, he, rfl⟩ := hx
      obtain ⟨e', O, h1, h2, ents, rfl, h3⟩ := hr.obj b _ hg
      rw [he] at h1; injection h1 with h1; subst h1
      refine ⟨.int .i64 ents.size, by simp [mapLenE, entsH, mapH, h2], ?_⟩
      have := Mrel_len h3
      rw [Array.length_toList] at this
      rw [this]; rfl
    · cases hk
  · cases hk
noncomputable def xNewMap (h : CH) (k : CV → CH → Bool) : Bool := xNew (.map [] 0) h fun b h' => k (.map b) h'
theorem xNewMap_ok {h : CH} {k : CV → CH → Bool} (hk : xNewMap h k = true) : ∃ z h', k z h' = true ∧ h'.wp = h.wp ∧ ∀ {H0 m H} {K : Value → Hp → Prop}, Rel H0 m h H → Fin H0 m h H z h' K → K (.map (some H.size)) (H.push (.map #[] 0)) := by
  obtain ⟨h', hk', hwp, hnew⟩ := xNew_ok hk
  refine ⟨_, h', hk', hwp, fun {H0 m H K} hr hf => ?_⟩
  obtain ⟨h1, h2, h3⟩ := hnew (z := 0) hr ⟨#[], rfl, rfl⟩
  exact hf _ _ _ h1 h2 ⟨_, h3, rfl⟩

/-! ### Structs and arrays out of parts -/
def bldK (P : Program) (T : TypeId) : Option (Sum (List (Nat × Nat)) Nat) :=
  match P.underlying T with
  | some (.array _ e) => (P.info? e).map fun i => .inr i.size
  | some (.struct fields) => (fields.toList.mapM fun f => (P.info? f.type).map fun i => (f.offset, i.size)).map .inl
  | _ => none
def placeX (q : Sum (List (Nat × Nat)) Nat) (i : Nat) : Option (Nat × Nat) :=
  match q with
  | .inl l => l[i]?
  | .inr s => some (i * s, s)
noncomputable def xBuild (q : Option (Sum (List (Nat × Nat)) Nat)) (zs : Option CV) (parts : List (Nat × CV)) (k : CV → Bool) : Bool :=
  match q, zs with
  | some q, some (.agg zs) => xFill (placeX q) parts zs fun ps => k (.agg ps)
  | _, _ => false
theorem xBuild_ok {P : Program} {T : TypeId} {zs : Option CV} {parts : List (Nat × CV)} {k : CV → Bool} (hz : ∀ z, zs = some z → ZeroV P T z) (hk : xBuild (bldK P T) zs parts k = true) :
    ∃ z, k z = true ∧ ∀ {m vs}, Prels m parts vs → ∃ v, buildE P T vs = some v ∧ Vrel m z v := by
  unfold xBuild at hk
  split at hk
  · rename_i q zs hq
    obtain ⟨qs, h1, h2⟩ := xFill_ok hk
    refine ⟨_, h1, fun {m vs} hp => ?_⟩
    obtain ⟨v, h3, h4⟩ := hz _ rfl
    obtain ⟨c, rfl, hc⟩ := h4 m
    obtain ⟨c', h5, _, h7⟩ := h2 hc hp
    refine ⟨.agg c', ?_, c', rfl, h7⟩
    unfold zeroE at h3
    simp only [Option.bind_eq_some_iff] at h3
    obtain ⟨i, hi, hiz⟩ := h3
    unfold buildE Program.built
    unfold bldK at hq
    split at hq
    · rename_i n e hu
      simp only [Option.map_eq_some_iff] at hq
      obtain ⟨ie, hie, rfl⟩ := hq
      rw [hi, hu]
      simp only [hiz, hie]
      rw [show Instr.fill (fun i => some (i * ie.size, ie.size)) (Value.agg c).cells vs = some c' from h5]
      rfl
    · rename_i fields hu
      simp only [Option.map_eq_some_iff] at hq
      obtain ⟨places, hpl, rfl⟩ := hq
      rw [hi, hu]
      simp only [hiz, hpl]
      have : (fun (i : Nat) => places.toArray[i]?) = placeX (.inl places) := by funext i; simp [placeX]
      rw [this, show Instr.fill (placeX (.inl places)) (Value.agg c).cells vs = some c' from h5]
      rfl
    · cases hq
  · cases hk

/-! ### Keys that are structs or arrays -/
noncomputable def findW (P : Program) (kt : TypeId) (k : Value) (es : List (CV × CV)) : Nat → Option (Option (Nat × Value)) :=
  List.rec (motive := fun _ => Nat → Option (Option (Nat × Value))) (fun _ => some none) (fun p _ ih i => Bool.rec none (match eqT P 10000 kt k (valP p.1) with
    | some true => some (some (i, valP p.1))
    | some false => ih (i + 1)
    | none => none) (plB p.1)) es
theorem findW_ok {P : Program} {kt : TypeId} {k : Value} {m : M} : ∀ {es : List (CV × CV)} {l : List MapEntry} {i : Nat} {r : Option (Nat × Value)}, Mrel m es l → findW P kt k es i = some r → findS P kt k l i = some r ∧ ∀ j v, r = some (j, v) → i ≤ j ∧ j < i + es.length
  | [], l, i, r, h, hf => by
    simp only [Mrel] at h; subst h
    have hf' : some none = some r := hf
    injection hf' with hf'; subst hf'
    exact ⟨rfl, fun j v h => by cases h⟩
  | (a, b) :: es, l, i, r, h, hf => by
    obtain ⟨x, l', rfl, _, h2, h3, h4⟩ := h
    have hf' : (Bool.rec (motive := fun _ => Option (Option (Nat × Value))) none (match eqT P 10000 kt k (valP a) with
      | some true => some (some (i, valP a))
      | some false => findW P kt k es (i + 1)
      | none => none) (plB a)) = some r := hf
    cases hp : plB a with
    | false => rw [hp] at hf'; cases hf'
    | true =>
      rw [hp] at hf'
      have hk := valP_ok a hp h2
      have hf2 : (match eqT P 10000 kt k x.key with
        | some true => some (some (i, x.key))
        | some false => findW P kt k es (i + 1)
        | none => none) = some r := by rw [hk]; exact hf'
      unfold findS
      split at hf2
      · rename_i hq
        injection hf2 with hf2; subst hf2
        simp only [hq]
        exact ⟨by first | trivial | rfl, fun j v h => by injection h with h; injection h with h1 _; subst h1; simp⟩
      · rename_i hq
        simp only [hq]
        obtain ⟨h5, h6⟩ := findW_ok h4 hf2
        exact ⟨h5, fun j v h => by have := h6 j v h; simp; omega⟩
      · cases hf2
noncomputable def xMapSetW (P : Program) (kt : TypeId) (x key v : CV) (h : CH) (k : CH → Bool) : Bool :=
  match x with
  | .map b => Bool.rec false (match h.get b with
    | some (.map es c) => (match findW P kt (valP key) es 0 with
      | some (some (i, old)) => Bool.rec false (xSet b (.map (es.set i (key, v)) c) h k) (Instr.sameBits 10000 old (valP key))
      | some none => forceN (c + 1) fun c' => xSet b (.map (es ++ [(key, v)]) c') h k
      | none => false)
    | _ => false) (plB key && keyB P kt (valP key))
  | _ => false
theorem xMapSetW_ok {P : Program} {kt : TypeId} {x key v : CV} {h : CH} {k : CH → Bool} (hk : xMapSetW P kt x key v h k = true) : ∃ h', k h' = true ∧ h'.wp = h.wp ∧ ∀ {H0 m H vx vk vv} {K : Hp → Prop}, Rel H0 m h H → Vrel m x vx → Vrel m key vk → Vrel m v vv → (∀ H', Rel H0 m h' H' → Stp h.wp m H m H' → K H') → Pu (mapSetS P kt vx vk vv H) K := by
  unfold xMapSetW at hk
  split at hk
  · rename_i b
    obtain ⟨hc, hk1⟩ := rec_false hk
    clear hk
    simp only [Bool.and_eq_true] at hc
    obtain ⟨hp, hkb⟩ := hc
    split at hk1
    · rename_i es c hg
      split at hk1
      · rename_i i old hf
        obtain ⟨hsb, hk2⟩ := rec_false hk1
        obtain ⟨h', hk3, hwp, hset⟩ := xSet_ok hk2
        refine ⟨h', hk3, hwp, fun {H0 m H vx vk vv K} hr hx hkey hv hK => ?_⟩
        obtain ⟨e, he, rfl⟩ := hx
        obtain ⟨e', O, h1, h2, ents, rfl, h3⟩ := hr.obj b _ hg
        rw [he] at h1; injection h1 with h1; subst h1
        have hvk := valP_ok key hp hkey
        obtain ⟨h5, h6⟩ := findW_ok h3 hf
        have hlt := (h6 i old rfl).2
        rw [Nat.zero_add] at hlt
        have hm : mapH H e.1 = some (ents, c) := by simp [mapH, h2]
        have hms : mapSetS P kt (.map (some e.1)) vk vv H = some (H.setIfInBounds e.1 (.map (ents.modify i fun e => { e with key := vk, val := vv }) c)) := by
          unfold mapSetS
          simp only [hm, Option.bind_some, hvk, hkb, h5, hsb]
        rw [hms, Pu_some]
        have hil : i < ents.size := by rw [← Array.length_toList, Mrel_len h3]; exact hlt
        have hor : Orel m e (.map (es.set i (key, v)) c) (.map (ents.modify i fun e => { e with key := vk, val := vv }) c) := by
          refine ⟨_, rfl, ?_⟩
          have e1 : (ents.modify i fun e => { e with key := vk, val := vv }).toList = ents.toList.set i { ents[i] with key := vk, val := vv } := by
            apply List.ext_getElem?
            intro j
            rw [Array.getElem?_toList, Array.getElem?_modify, List.getElem?_set, Array.getElem?_toList]
            by_cases hij : i = j
            · subst hij; simp [hil]
            · simp [hij]
          rw [e1]
          exact Mrel_set trivial hkey hv h3 hlt
        obtain ⟨r1, r2⟩ := hset hr hg he hor
        exact hK _ r1 r2
      · rename_i hf
        rw [forceN_eq] at hk1
        obtain ⟨h', hk3, hwp, hset⟩ := xSet_ok hk1
        refine ⟨h', hk3, hwp, fun {H0 m H vx vk vv K} hr hx hkey hv hK => ?_⟩
        obtain ⟨e, he, rfl⟩ := hx
        obtain ⟨e', O, h1, h2, ents, rfl, h3⟩ := hr.obj b _ hg
        rw [he] at h1; injection h1 with h1; subst h1
        have hvk := valP_ok key hp hkey
        obtain ⟨h5, h6⟩ := findW_ok h3 hf
        have hm : mapH H e.1 = some (ents, c) := by simp [mapH, h2]
        have hms : mapSetS P kt (.map (some e.1)) vk vv H = some (H.setIfInBounds e.1 (.map (ents.push { key := vk, val := vv, born := c }) (c + 1))) := by
          unfold mapSetS
          simp only [hm, Option.bind_some, hvk, hkb, h5]
        rw [hms, Pu_some]
        have hor : Orel m e (.map (es ++ [(key, v)]) (c + 1)) (.map (ents.push { key := vk, val := vv, born := c }) (c + 1)) := by
          refine ⟨_, rfl, ?_⟩
          rw [Array.toList_push]
          exact Mrel_snoc trivial hkey hv h3
        obtain ⟨r1, r2⟩ := hset hr hg he hor
        exact hK _ r1 r2
      · cases hk1
    · cases hk1
  · cases hk
end Go.Xc

/- Xc, part J: equality, copy, bytes of strings. -/
set_option linter.unusedVariables false
set_option linter.unusedSectionVars false
set_option linter.unusedSimpArgs false
namespace Go.Xc
open Go.Vc
variable [Sites]

/-! ### Equality -/
inductive Sh
  | int | bool | str
  | bytes (n : Nat)
  | done
  | fld (off : Nat) (q : Option (Option Nat)) (s rest : Sh)

def partX (q : Option (Option Nat)) (ps : List CV) (off : Nat) : Option CV :=
  match q with
  | some none => getP ps off
  | some (some n) => (match splitP ps off with
    | some (_, b) => (match splitP b n with | some (c, _) => some (.agg c) | none => none)
    | none => none)
  | none => none
theorem partX_ok {q : Option (Option Nat)} {ps : List CV} {off : Nat} {z : CV} (h : partX q ps off = some z) {m : M} {c : Array Value} (hc : Crel m ps c.toList) : ∃ v, partE q c off = some v ∧ Vrel m z v := by
  unfold partX at h
  split at h
  · obtain ⟨u, h1, h2⟩ := getP_ok hc h
    exact ⟨u, by simpa [partE] using h1, h2⟩
  · rename_i n
    split at h
    · rename_i a b h1
      split at h
      · rename_i cc d h2
        injection h with h; subst h
        obtain ⟨l1, l2, l3, hl, e1, e2, _, r, _⟩ := split_mid hc h1 h2
        refine ⟨.agg (c.extract off (off + n)), rfl, _, rfl, ?_⟩
        rw [Array.toList_extract, hl, List.extract_eq_take_drop, show off + n - off = n by omega, ← e1, List.drop_left, ← e2, List.take_left]
        exact r
      · cases h
    · cases h
  · cases h

def eqSh : Sh → CV → CV → Option Bool
  | .int, .int q a, .int q' b => if q = q' then some (a == b) else none
  | .bool, .bool a, .bool b => some (a == b)
  | .str, .str a, .str b => some (a.toList == b.toList)
  | .bytes n, .agg [.bytes n1 x], .agg [.bytes n2 y] => if n1 = n ∧ n2 = n then some (Nat.beq (x % 2 ^ (8 * n)) (y % 2 ^ (8 * n))) else none
  | .done, .agg _, .agg _ => some true
  | .fld off q s rest, .agg ps, .agg qs => (match partX q ps off, partX q qs off with
    | some a, some b => (match eqSh s a b with
      | some true => eqSh rest (.agg ps) (.agg qs)
      | r => r)
    | _, _ => none)
  | _, _, _ => none

def fieldsSh (P : Program) (g : TypeId → Option Sh) : List Field → Option Sh
  | [] => some .done
  | f :: fs => if f.name = "_" then none else (match g f.type, fieldsSh P g fs with
    | some s, some r => some (.fld f.offset (ldK P f.type) s r)
    | _, _ => none)
def itemsSh (P : Program) (e : TypeId) (s : Sh) : List Nat → Sh
  | [] => .done
  | j :: l => .fld (j * P.cellsOf e) (ldK P e) s (itemsSh P e s l)
def u8Row (P : Program) (T e : TypeId) : Bool :=
  match P.underlying e with
  | some (.int .u8) => P.cellsOf e == 1 && (P.info? e).isSome && !(P.eqGuardType P.depth T)
  | _ => false
def shapeOf (P : Program) : Nat → TypeId → Option Sh
  | 0, _ => none
  | d + 1, T =>
    match P.underlying T with
    | some .bool => some .bool
    | some (.int _) => some .int
    | some .string => some .str
    | some (.struct fs) => if P.stoodInHeld T then none else fieldsSh P (shapeOf P d) fs.toList
    | some (.array n e) => (match u8Row P T e, d with
      | true, _ + 1 => some (.bytes n)
      | _, _ => if (P.info? e).isSome then (shapeOf P d e).map fun s => itemsSh P e s (List.range n) else none)
    | _ => none

theorem fields_ok {P : Program} {d : Nat} {g : TypeId → Option Sh} (ih : ∀ {T s x y r m vx vy}, g T = some s → eqSh s x y = some r → Vrel m x vx → Vrel m y vy → eqT P d T vx vy = some r) {m : M} {ps qs : List CV} {xs ys : Array Value} (hp : Crel m ps xs.toList) (hq : Crel m qs ys.toList) :
    ∀ {fs : List Field} {s : Sh} {r : Bool}, fieldsSh P g fs = some s → eqSh s (.agg ps) (.agg qs) = some r → eqAll (fun f : Field => if f.name = "_" then some true else (partE (ldK P f.type) xs f.offset).bind fun a => (partE (ldK P f.type) ys f.offset).bind fun b => eqT P d f.type a b) fs = some r
  | [], s, r, h, he => by
    simp only [fieldsSh, Option.some.injEq] at h
    subst h
    simpa [eqSh, eqAll] using he
  | f :: fs, s, r, h, he => by
    unfold fieldsSh at h
    split at h
    · cases h
    · rename_i hn
      split at h
      · rename_i s1 s2 h1 h2
        injection h with h; subst h
        simp only [eqSh] at he
        split at he
        · rename_i a b ha hb
          obtain ⟨va, e1, r1⟩ := partX_ok ha hp
          obtain ⟨vb, e2, r2⟩ := partX_ok hb hq
          unfold eqAll
          simp only [if_neg hn, e1, e2, Option.bind_some]
          split at he
          · rename_i h3
            rw [ih h1 h3 r1 r2]
            exact fields_ok ih hp hq h2 he
          · rename_i h3
            rw [ih h1 he r1 r2]
            cases r with
            | true => exact absurd he h3
            | false => rfl
        · cases he
      · cases h
theorem items_ok {P : Program} {d : Nat} {e : TypeId} {s : Sh} (ih : ∀ {x y r m vx vy}, eqSh s x y = some r → Vrel m x vx → Vrel m y vy → eqT P d e vx vy = some r) {m : M} {ps qs : List CV} {xs ys : Array Value} (hp : Crel m ps xs.toList) (hq : Crel m qs ys.toList) :
    ∀ {l : List Nat} {r : Bool}, eqSh (itemsSh P e s l) (.agg ps) (.agg qs) = some r → eqAll (fun j => (partE (ldK P e) xs (j * P.cellsOf e)).bind fun a => (partE (ldK P e) ys (j * P.cellsOf e)).bind fun b => eqT P d e a b) l = some r
  | [], r, he => by simpa [itemsSh, eqSh, eqAll] using he
  | j :: l, r, he => by
    simp only [itemsSh, eqSh] at he
    split at he
    · rename_i a b ha hb
      obtain ⟨va, e1, r1⟩ := partX_ok ha hp
      obtain ⟨vb, e2, r2⟩ := partX_ok hb hq
      unfold eqAll
      simp only [e1, e2, Option.bind_some]
      split at he
      · rename_i h3
        rw [ih h3 r1 r2]
        exact items_ok ih hp hq he
      · rename_i h3
        rw [ih he r1 r2]
        cases r with
        | true => exact absurd he h3
        | false => rfl
    · cases he

theorem eqSh_ok {P : Program} : ∀ {d : Nat} {T : TypeId} {s : Sh} {x y : CV} {r : Bool} {m : M} {vx vy : Value}, shapeOf P d T = some s → eqSh s x y = some r → Vrel m x vx → Vrel m y vy → eqT P d T vx vy = some r
  | 0, _, _, _, _, _, _, _, _, h, _, _, _ => by simp [shapeOf] at h
  | d + 1, T, s, x, y, r, m, vx, vy, h, he, hx, hy => by
    unfold shapeOf at h
    unfold eqT
    split at h
    · rename_i hu
      injection h with h; subst h
      cases x <;> cases y <;> simp only [eqSh] at he <;> try (cases he; done)
      simp only [Vrel] at hx hy; subst hx hy
      rw [hu]; exact he
    · rename_i q hu
      injection h with h; subst h
      cases x <;> cases y <;> simp only [eqSh] at he <;> try (cases he; done)
      simp only [Vrel] at hx hy; subst hx hy
      rw [hu]; exact he
    · rename_i hu
      injection h with h; subst h
      cases x <;> cases y <;> simp only [eqSh] at he <;> try (cases he; done)
      simp only [Vrel] at hx hy; subst hx hy
      rw [hu]; exact he
    · rename_i fs hu
      split at h
      · cases h
      · rename_i hst
        have hag : ∃ ps qs, x = .agg ps ∧ y = .agg qs := by
          cases hfs : fs.toList with
          | nil =>
            rw [hfs] at h
            simp only [fieldsSh, Option.some.injEq] at h
            subst h
            cases x <;> cases y <;> simp only [eqSh] at he <;> first | (cases he; done) | exact ⟨_, _, rfl, rfl⟩
          | cons f l =>
            rw [hfs] at h
            unfold fieldsSh at h
            split at h
            · cases h
            · split at h
              · injection h with h; subst h
                cases x <;> cases y <;> simp only [eqSh] at he <;> first | (cases he; done) | exact ⟨_, _, rfl, rfl⟩
              · cases h
        obtain ⟨ps, qs, rfl, rfl⟩ := hag
        obtain ⟨cx, rfl, hcx⟩ := hx
        obtain ⟨cy, rfl, hcy⟩ := hy
        rw [hu]
        simp only
        rw [if_neg hst]
        exact fields_ok (fun h1 h2 h3 h4 => eqSh_ok h1 h2 h3 h4) hcx hcy h he
    · rename_i n e hu
      split at h
      · rename_i d' hrow
        injection h with h; subst h
        unfold u8Row at hrow
        split at hrow
        · rename_i hue
          simp only [Bool.and_eq_true, Bool.not_eq_true', beq_iff_eq] at hrow
          obtain ⟨⟨h1, h2⟩, h3⟩ := hrow
          have hr : IntRow P T n .u8 := ⟨⟨e, hu, hue, h1, h2⟩, h3⟩
          have hb : ∃ n1 x1 n2 y1, x = .agg [.bytes n1 x1] ∧ y = .agg [.bytes n2 y1] ∧ n1 = n ∧ n2 = n ∧ r = Nat.beq (x1 % 2 ^ (8 * n)) (y1 % 2 ^ (8 * n)) := by
            unfold eqSh at he
            split at he <;> try (cases he; done)
            all_goals first | (rename_i hh _ _; cases hh; done) | (rename_i hh; cases hh; done) | skip
            all_goals (split at he <;> try (cases he; done))
            all_goals first | (rename_i hh hc; injection hh with hh; subst hh; injection he with he; exact ⟨_, _, _, _, rfl, rfl, hc.1, hc.2, he.symm⟩; done) | skip
            all_goals simp_all
          obtain ⟨n1, x1, n2, y1, rfl, rfl, rfl, hn2, rfl⟩ := hb
          subst hn2
          obtain ⟨cx, rfl, l1, hl1, hz1⟩ := hx
          obtain ⟨cy, rfl, l2, hl2, hz2⟩ := hy
          simp only [Crel] at hz1 hz2
          subst hz1 hz2
          rw [List.append_nil] at hl1 hl2
          have cell : ∀ (c : Array Value) (z : Nat), c.toList = bytesL n2 z → ∀ i, i < n2 → ∃ x, c[i]? = some (.int .u8 x) := fun c z hc i hi => by
            rw [← Array.getElem?_toList, hc]
            exact ⟨_, bytesL_get n2 z i hi⟩
          have hrow := eqT_row hr (cell cx x1 hl1) (cell cy y1 hl2) d'
          have : eqT P (d' + 2) T (.agg cx) (.agg cy) = some (Nat.beq (x1 % 2 ^ (8 * n2)) (y1 % 2 ^ (8 * n2))) := by
            rw [hrow]
            congr 1
            rw [beq_dec, decide_eq_decide]
            constructor
            · intro hall
              apply bytesL_inj
              rw [← hl1, ← hl2]
              apply List.ext_getElem?
              intro i
              rw [Array.getElem?_toList, Array.getElem?_toList]
              by_cases hi : i < n2
              · exact hall i (List.mem_range.2 hi)
              · have s1 : cx.size = n2 := by rw [← Array.length_toList, hl1, bytesL_len]
                have s2 : cy.size = n2 := by rw [← Array.length_toList, hl2, bytesL_len]
                rw [Array.getElem?_eq_none (by omega), Array.getElem?_eq_none (by omega)]
            · intro heq i hi
              have := bytesL_eq heq
              rw [← hl1, ← hl2] at this
              rw [← Array.getElem?_toList, ← Array.getElem?_toList, this]
          unfold eqT at this
          exact this
        · cases hrow
      · split at h
        · rename_i hin
          simp only [Option.map_eq_some_iff] at h
          obtain ⟨s', h1, rfl⟩ := h
          have hag : ∃ ps qs, x = .agg ps ∧ y = .agg qs := by
            cases hl : List.range n with
            | nil =>
              rw [hl] at he
              cases x <;> cases y <;> simp only [itemsSh, eqSh] at he <;> first | (cases he; done) | exact ⟨_, _, rfl, rfl⟩
            | cons j l =>
              rw [hl] at he
              cases x <;> cases y <;> simp only [itemsSh, eqSh] at he <;> first | (cases he; done) | exact ⟨_, _, rfl, rfl⟩
          obtain ⟨ps, qs, rfl, rfl⟩ := hag
          obtain ⟨cx, rfl, hcx⟩ := hx
          obtain ⟨cy, rfl, hcy⟩ := hy
          rw [hu]
          obtain ⟨i, hi⟩ := Option.isSome_iff_exists.1 hin
          simp only [hi, Option.bind_some]
          exact items_ok (fun h2 h3 h4 => eqSh_ok h1 h2 h3 h4) hcx hcy he
        · cases h
    · cases h

inductive EqS | ptr | agg (s : Sh)
def eqK (P : Program) (T : TypeId) : Option EqS :=
  match P.underlying T with
  | some (.pointer e) => (match P.info? e with | some i => if i.size ≠ 0 then some .ptr else none | none => none)
  | some (.struct _) => if P.eqGuardType P.depth T then none else (shapeOf P 10000 T).map .agg
  | some (.array _ _) => if P.eqGuardType P.depth T then none else (shapeOf P 10000 T).map .agg
  | _ => none
noncomputable def xAlive (h : CH) (b : Nat) (r : Bool) : Bool := match h.get b with | some (.row _ _ _ _ _) => r | _ => false
noncomputable def xEq (q : Option EqS) (op : BinOp) (x y : CV) (h : CH) (k : CV → Bool) : Bool :=
  match q, x, y with
  | some .ptr, .nilp, .nilp => outO (some true) op k
  | some .ptr, .nilp, .ptr _ _ => outO (some false) op k
  | some .ptr, .ptr _ _, .nilp => outO (some false) op k
  | some .ptr, .ptr a i, .ptr b j => xAlive h a (xAlive h b (outO (some (Nat.beq a b && Nat.beq i j)) op k))
  | some (.agg s), .agg ps, .agg qs => outO (eqSh s (.agg ps) (.agg qs)) op k
  | _, _, _ => false
theorem outO_ok {o : Option Bool} {op : BinOp} {k : CV → Bool} (h : outO o op k = true) : ∃ b r, o = some b ∧ k (.bool r) = true ∧ (op = .eql ∧ r = b ∨ op = .neq ∧ r = !b) := by
  unfold outO at h
  split at h
  · rw [outB_eq] at h; exact ⟨_, _, rfl, h, .inl ⟨rfl, rfl⟩⟩
  · rw [outB_eq] at h; exact ⟨_, _, rfl, h, .inr ⟨rfl, rfl⟩⟩
  · cases h
theorem xAlive_ok {h : CH} {b : Nat} {r : Bool} (hk : xAlive h b r = true) : r = true ∧ ∃ T es len d t, h.get b = some (.row T es len d t) := by
  unfold xAlive at hk
  split at hk
  · rename_i T es len d t hg; exact ⟨hk, _, _, _, _, _, hg⟩
  · cases hk
theorem xEq_ok {P : Program} {T : TypeId} {lit : Bool} {op : BinOp} {x y : CV} {h : CH} {k : CV → Bool} (hk : xEq (eqK P T) op x y h k = true) : ∃ z, k z = true ∧ ∀ {H0 m H vx vy}, Rel H0 m h H → Vrel m x vx → Vrel m y vy → ∃ v, eqXE P T lit op vx vy H = some v ∧ Vrel m z v := by
  have fin : ∀ {o : Option Bool}, outO o op k = true → ∃ z, k z = true ∧ ∀ {vx vy H m}, eqE P T lit vx vy H = o → ∃ v, eqXE P T lit op vx vy H = some v ∧ Vrel m z v := by
    intro o ho
    obtain ⟨b, r, rfl, h1, h2⟩ := outO_ok ho
    refine ⟨_, h1, fun {vx vy H m} he => ⟨.bool r, ?_, rfl⟩⟩
    rcases h2 with ⟨rfl, rfl⟩ | ⟨rfl, rfl⟩ <;> simp [eqXE, he]
  unfold xEq at hk
  have hptr : eqK P T = some .ptr → ∃ e i, P.underlying T = some (.pointer e) ∧ P.info? e = some i ∧ i.size ≠ 0 := by
    intro hq
    unfold eqK at hq
    split at hq
    · rename_i e hu
      split at hq
      · rename_i i hi
        split at hq
        · rename_i hs; exact ⟨e, i, hu, hi, hs⟩
        · cases hq
      · cases hq
    · split at hq
      · cases hq
      · simp at hq
    · split at hq
      · cases hq
      · simp at hq
    · cases hq
  split at hk
  · rename_i hq
    obtain ⟨e, i, hu, hi, hs⟩ := hptr hq
    obtain ⟨z, h1, h2⟩ := fin hk
    refine ⟨z, h1, fun {H0 m H vx vy} hr hx hy => h2 ?_⟩
    simp only [Vrel] at hx hy; subst hx hy
    simp [eqE, eqD, hu]
  · rename_i b j hq
    obtain ⟨e, i, hu, hi, hs⟩ := hptr hq
    obtain ⟨z, h1, h2⟩ := fin hk
    refine ⟨z, h1, fun {H0 m H vx vy} hr hx hy => h2 ?_⟩
    simp only [Vrel] at hx; subst hx
    obtain ⟨e', _, rfl⟩ := hy
    simp [eqE, eqD, hu]
  · rename_i b j hq
    obtain ⟨e, i, hu, hi, hs⟩ := hptr hq
    obtain ⟨z, h1, h2⟩ := fin hk
    refine ⟨z, h1, fun {H0 m H vx vy} hr hx hy => h2 ?_⟩
    simp only [Vrel] at hy; subst hy
    obtain ⟨e', _, rfl⟩ := hx
    simp [eqE, eqD, hu]
  · rename_i a ia b jb hq
    obtain ⟨e, i, hu, hi, hs⟩ := hptr hq
    obtain ⟨hk1, Ta, esa, la, da, ta, hga⟩ := xAlive_ok hk
    obtain ⟨hk2, Tb, esb, lb, db, tb, hgb⟩ := xAlive_ok hk1
    obtain ⟨z, h1, h2⟩ := fin hk2
    refine ⟨z, h1, fun {H0 m H vx vy} hr hx hy => h2 ?_⟩
    obtain ⟨ea, hea, rfl⟩ := hx
    obtain ⟨eb, heb, rfl⟩ := hy
    obtain ⟨e1, O1, k1, k2, c1, rfl, _⟩ := hr.obj a _ hga
    obtain ⟨e2, O2, k3, k4, c2, rfl, _⟩ := hr.obj b _ hgb
    rw [hea] at k1; injection k1 with k1; subst k1
    rw [heb] at k3; injection k3 with k3; subst k3
    have hsa : standsH H ⟨ea.1, ia, none⟩ = true := by simp [standsH, k2]
    have hsb : standsH H ⟨eb.1, jb, none⟩ = true := by simp [standsH, k4]
    simp only [eqE, eqD, hu, Vc.ptrEq, hi, beq_dec]
    by_cases hab : a = b ∧ ia = jb
    · obtain ⟨rfl, rfl⟩ := hab
      rw [hea] at heb; injection heb with heb; subst heb
      simp
    · have hne : ¬ ((⟨ea.1, ia, none⟩ : Addr) = ⟨eb.1, jb, none⟩) := by
        intro heq
        injection heq with q1 q2
        exact hab ⟨hr.inj a b _ _ ea eb hga hgb hea heb q1, q2⟩
      rw [if_neg hne]
      have : (decide (a = b) && decide (ia = jb)) = false := by
        rw [Bool.and_eq_false_iff]
        by_cases h1 : a = b
        · right; exact decide_eq_false fun h2 => hab ⟨h1, h2⟩
        · left; exact decide_eq_false h1
      rw [this]
      simp [hs, hsa, hsb]
  · rename_i s ps qs hq
    obtain ⟨b, r, hb, h1, h2⟩ := outO_ok hk
    refine ⟨_, h1, fun {H0 m H vx vy} hr hx hy => ⟨.bool r, ?_, rfl⟩⟩
    have he : eqE P T lit vx vy H = some b := by
      obtain ⟨cx, rfl, hcx⟩ := hx
      obtain ⟨cy, rfl, hcy⟩ := hy
      unfold eqK at hq
      split at hq
      · split at hq
        · split at hq <;> simp at hq
        · cases hq
      · rename_i fs hu
        split at hq
        · cases hq
        · rename_i hg
          simp only [Option.map_eq_some_iff, EqS.agg.injEq] at hq
          obtain ⟨s', hsh, rfl⟩ := hq
          unfold eqE eqD
          rw [hu]
          simp only
          rw [if_neg hg]
          exact eqSh_ok hsh hb ⟨cx, rfl, hcx⟩ ⟨cy, rfl, hcy⟩
      · rename_i n e hu
        split at hq
        · cases hq
        · rename_i hg
          simp only [Option.map_eq_some_iff, EqS.agg.injEq] at hq
          obtain ⟨s', hsh, rfl⟩ := hq
          unfold eqE eqD
          rw [hu]
          simp only
          rw [if_neg hg]
          exact eqSh_ok hsh hb ⟨cx, rfl, hcx⟩ ⟨cy, rfl, hcy⟩
      · cases hq
    rcases h2 with ⟨rfl, rfl⟩ | ⟨rfl, rfl⟩ <;> simp [eqXE, he]
  · cases hk

/-! ### copy -/
noncomputable def xCopy0 (q : Option (Nat × Nat × Nat × Bool)) (d s : CV) (h : CH) (k : CV → CH → Bool) : Bool :=
  match q, slOf d, slOf s with
  | some (_, es, _, _), some (b, o, dl), some (b2, o2, sl) => forceN (min sl dl) fun n => Bool.rec false (xRow h b2 o2 fun _ _ _ _ _ _ j ps => (match splitP ps j with
      | some (_, r) => (match splitP r n with
        | some (c, _) => forceP c fun c => xStore (some n) (.ptr b o) (.agg c) h fun h' => k (.int .i64 (.ofNat n)) h'
        | none => false)
      | none => false)) (Nat.beq es 1 && Nat.ble 1 n)
  | _, _, _ => false
theorem slOf_exact {m : M} {s : CV} {b o len : Nat} {vs : Value} (hs : slOf s = some (b, o, len)) (hv : Vrel m s vs) (hl : 0 < len) : ∃ (e : Nat × Nat) (cap : Nat), m[b]? = some e ∧ vs = .slice (some ⟨e.1, o, none⟩) len cap := by
  cases s <;> simp only [slOf, Option.some.injEq, Prod.mk.injEq, reduceCtorEq] at hs
  · obtain ⟨rfl, rfl, rfl⟩ := hs
    obtain ⟨e', he, rfl⟩ := hv
    exact ⟨e', _, he, rfl⟩
  · obtain ⟨rfl, rfl, rfl⟩ := hs
    obtain ⟨e', base, cp, he, rfl, _, _, hsp, hbl, hoff⟩ := hv
    obtain ⟨bb, bo, bs⟩ := base
    simp only at hsp hbl hoff
    have := hoff (.inl hl)
    subst hsp hbl this
    exact ⟨e', _, he, rfl⟩
theorem xCopy0_ok {P : Program} {S : TypeId} {d s : CV} {h : CH} {k : CV → CH → Bool} (hk : xCopy0 (appK P S) d s h k = true) : ∃ z h', k z h' = true ∧ h'.wp = h.wp ∧ ∀ {H0 m H vd vs} {K : Value → Hp → Prop}, Rel H0 m h H → Vrel m d vd → Vrel m s vs → Fin H0 m h H z h' K →
    Pu (copyE (elemI P S) vd vs H) fun y => K y.1 y.2 := by
  unfold xCopy0 at hk
  split at hk
  · rename_i T es by' u b o dl b2 o2 sl hq hd hs
    obtain ⟨e, he, hT, hes, hby, hez, hb0⟩ := appK_spec hq
    rw [forceN_eq] at hk
    obtain ⟨hc, hk1⟩ := rec_false hk
    clear hk
    simp only [beq_dec, ble_dec, Bool.and_eq_true, decide_eq_true_eq] at hc
    obtain ⟨rfl, hn1⟩ := hc
    obtain ⟨T2, es2, len2, d2, t2, i, j, ps, hk2, hg, hi, hps, ho⟩ := xRow_ok hk1
    clear hk1
    split at hk2
    · rename_i a r h1
      split at hk2
      · rename_i cc dd h2
        rw [forceP_eq] at hk2
        obtain ⟨h', hk3, hwp, hst⟩ := xStore_ok hk2
        refine ⟨_, h', hk3, hwp, fun {H0 m H vd vs K} hr hvd hvs hf => ?_⟩
        obtain ⟨ed, capd, hed, rfl⟩ := slOf_exact hd hvd (by omega)
        obtain ⟨es', caps, hes', rfl⟩ := slOf_exact hs hvs (by omega)
        obtain ⟨e', O, k1, k2, c, rfl, k3, k4, k5⟩ := hr.obj b2 _ hg
        rw [hes'] at k1; injection k1 with k1; subst k1
        obtain ⟨ps', h6, h7⟩ := k5 i hi
        rw [hps] at h6; injection h6 with h6; subst h6
        obtain ⟨hl, hb⟩ := ext_len k3 k4 hi
        obtain ⟨l1, l2, l3, hl', e1, e2, _, r2, _⟩ := split_mid h7 h1 h2
        have hlen : j + min sl dl ≤ es2 := by rw [← hl, hl']; simp; omega
        have hcs : (c.extract o2 (o2 + min sl dl)).toList = l2 := by
          have h8 : (c.extract o2 (o2 + min sl dl)).toList = ((c.extract (i * es2) (i * es2 + es2)).toList.drop j).take (min sl dl) := by
            rw [Array.toList_extract, Array.toList_extract, List.extract_eq_take_drop, List.extract_eq_take_drop, show o2 + min sl dl - o2 = min sl dl by omega, show i * es2 + es2 - i * es2 = es2 by omega, List.drop_take, List.drop_drop, List.take_take, ho, show min (min sl dl) (es2 - j) = min sl dl by omega]
          rw [h8, hl', ← e1, List.drop_left, ← e2, List.take_left]
        have hst' := hst (K := fun H' => K (.int .i64 (min sl dl : Nat)) H') hr ⟨ed, hed, rfl⟩ ⟨c.extract o2 (o2 + min sl dl), rfl, by rw [hcs]; exact r2⟩ (fun H' r1 r2 => hf _ _ _ r1 r2 rfl)
        obtain ⟨H', hput, hK⟩ := hst'
        have hsz : (c.extract o2 (o2 + min sl dl)).size = min sl dl := by rw [← Array.length_toList, hcs, e2]
        rw [he]
        have : copyE (some e) (.slice (some ⟨ed.1, o, none⟩) dl capd) (.slice (some ⟨es'.1, o2, none⟩) sl caps) H = some (.int .i64 (min sl dl : Nat), H') := by
          have hcn : cellsN e.size (min sl dl) (.slice (some ⟨es'.1, o2, none⟩) sl caps) H = some (c.extract o2 (o2 + min sl dl)) := by
            show rowH H ⟨es'.1, o2, none⟩ (min sl dl * e.size) = _
            unfold rowH
            simp only [k2, hes, Nat.mul_one]
            rw [if_pos ⟨trivial, by omega⟩]
          unfold copyE
          simp only [lenX, Option.bind_some, hcn]
          have hp : putH H ⟨ed.1, o, none⟩ (c.extract o2 (o2 + min sl dl)) = some H' := by
            have := hput
            unfold storeE at this
            simp only [Value.cells, hsz, if_true] at this
            exact this
          rw [hp]; rfl
        rw [this, Pu_some]
        exact hK
      · cases hk2
    · cases hk2
  · cases hk

/-- copy out of bytes that are not written. -/
noncomputable def xCopyZ (q : Option (Nat × Nat × Nat × Bool)) (d : CV) (o2 sl N y : Nat) (h : CH) (k : CV → CH → Bool) : Bool :=
  match q, slOf d with
  | some (_, es, _, _), some (b, o, dl) => forceN (min sl dl) fun n => Bool.rec false (match splitP [.bytes N y] o2 with
      | some (_, r) => (match splitP r n with
        | some (c, _) => forceP c fun c => xStore (some n) (.ptr b o) (.agg c) h fun h' => k (.int .i64 (.ofNat n)) h'
        | none => false)
      | none => false) (Nat.beq es 1 && Nat.ble 1 n)
  | _, _ => false
noncomputable def xCopy (q : Option (Nat × Nat × Nat × Bool)) (d s : CV) (h : CH) (k : CV → CH → Bool) : Bool :=
  match slOf s with
  | some (b2, o2, sl) => (match h.get b2 with
    | some (.fz _ N y) => xCopyZ q d o2 sl N y h k
    | _ => xCopy0 q d s h k)
  | _ => xCopy0 q d s h k
theorem xCopyZ_ok {P : Program} {S T2 : TypeId} {d s : CV} {b2 o2 sl N y' : Nat} {h : CH} {k : CV → CH → Bool} (hs : slOf s = some (b2, o2, sl)) (hg : h.get b2 = some (.fz T2 N y')) (hk : xCopyZ (appK P S) d o2 sl N y' h k = true) : ∃ z h', k z h' = true ∧ h'.wp = h.wp ∧ ∀ {H0 m H vd vs} {K : Value → Hp → Prop}, Rel H0 m h H → Vrel m d vd → Vrel m s vs → Fin H0 m h H z h' K →
    Pu (copyE (elemI P S) vd vs H) fun y => K y.1 y.2 := by
  unfold xCopyZ at hk
  split at hk
  · rename_i T es by' u b o dl hq hd
    obtain ⟨e, he, hT, hes, hby, hez, hb0⟩ := appK_spec hq
    rw [forceN_eq] at hk
    obtain ⟨hc, hk2⟩ := rec_false hk
    clear hk
    simp only [beq_dec, ble_dec, Bool.and_eq_true, decide_eq_true_eq] at hc
    obtain ⟨rfl, hn1⟩ := hc
    split at hk2
    · rename_i a r h1
      split at hk2
      · rename_i cc dd h2
        rw [forceP_eq] at hk2
        obtain ⟨h', hk3, hwp, hst⟩ := xStore_ok hk2
        refine ⟨_, h', hk3, hwp, fun {H0 m H vd vs K} hr hvd hvs hf => ?_⟩
        obtain ⟨ed, capd, hed, rfl⟩ := slOf_exact hd hvd (by omega)
        obtain ⟨es', caps, hes', rfl⟩ := slOf_exact hs hvs (by omega)
        obtain ⟨e', O, k1, k2, c, T0, z, rfl, k3, k4, k5⟩ := hr.obj b2 _ hg
        rw [hes'] at k1; injection k1 with k1; subst k1
        have h7 : Crel m [.bytes N y'] (bytesL N y') := ⟨[], by simp, rfl⟩
        obtain ⟨l1, l2, l3, hl', e1, e2, _, r2, _⟩ := split_mid h7 h1 h2
        have hN : (bytesL N y').length = N := by rw [← k5]; simp; omega
        have hlen : o2 + min sl dl ≤ N := by rw [← hN, hl']; simp; omega
        have hcs : (c.extract o2 (o2 + min sl dl)).toList = l2 := by
          have h8 : (c.extract o2 (o2 + min sl dl)).toList = ((c.extract 0 N).toList.drop o2).take (min sl dl) := by
            rw [Array.toList_extract, Array.toList_extract, List.extract_eq_take_drop, List.extract_eq_take_drop, show o2 + min sl dl - o2 = min sl dl by omega, List.drop_zero, Nat.sub_zero, List.drop_take, List.take_take, show min (min sl dl) (N - o2) = min sl dl by omega]
          rw [h8, k5, hl', ← e1, List.drop_left, ← e2, List.take_left]
        have hst' := hst (K := fun H' => K (.int .i64 (min sl dl : Nat)) H') hr ⟨ed, hed, rfl⟩ ⟨c.extract o2 (o2 + min sl dl), rfl, by rw [hcs]; exact r2⟩ (fun H' r1 r2 => hf _ _ _ r1 r2 rfl)
        obtain ⟨H', hput, hK⟩ := hst'
        have hsz : (c.extract o2 (o2 + min sl dl)).size = min sl dl := by rw [← Array.length_toList, hcs, e2]
        rw [he]
        have : copyE (some e) (.slice (some ⟨ed.1, o, none⟩) dl capd) (.slice (some ⟨es'.1, o2, none⟩) sl caps) H = some (.int .i64 (min sl dl : Nat), H') := by
          have hcn : cellsN e.size (min sl dl) (.slice (some ⟨es'.1, o2, none⟩) sl caps) H = some (c.extract o2 (o2 + min sl dl)) := by
            show rowH H ⟨es'.1, o2, none⟩ (min sl dl * e.size) = _
            unfold rowH
            simp only [k2, hes, Nat.mul_one]
            rw [if_pos ⟨trivial, by omega⟩]
          unfold copyE
          simp only [lenX, Option.bind_some, hcn]
          have hp : putH H ⟨ed.1, o, none⟩ (c.extract o2 (o2 + min sl dl)) = some H' := by
            have := hput
            unfold storeE at this
            simp only [Value.cells, hsz, if_true] at this
            exact this
          rw [hp]; rfl
        rw [this, Pu_some]
        exact hK
      · cases hk2
    · cases hk2
  · cases hk
theorem xCopy_ok {P : Program} {S : TypeId} {d s : CV} {h : CH} {k : CV → CH → Bool} (hk : xCopy (appK P S) d s h k = true) : ∃ z h', k z h' = true ∧ h'.wp = h.wp ∧ ∀ {H0 m H vd vs} {K : Value → Hp → Prop}, Rel H0 m h H → Vrel m d vd → Vrel m s vs → Fin H0 m h H z h' K →
    Pu (copyE (elemI P S) vd vs H) fun y => K y.1 y.2 := by
  unfold xCopy at hk
  split at hk
  · rename_i b2 o2 sl hs
    split at hk
    · rename_i T2 N y hg
      exact xCopyZ_ok hs hg hk
    · exact xCopy0_ok hk
  · exact xCopy0_ok hk

/-! ### clear of a slice of bytes -/
noncomputable def xClr (q : Option (Nat × Nat × Nat × Bool)) (zs : Option (List CV)) (s : CV) (h : CH) (k : CH → Bool) : Bool :=
  match q, zs, slOf s with
  | some (_, es, _, _), some [.bytes w x], some (b, o, n) => Bool.rec false (xStore (some n) (.ptr b o) (.agg [.bytes n 0]) h k) (Nat.beq es 1 && Nat.beq w 1 && Nat.beq x 0 && Nat.ble 1 n)
  | _, _, _ => false
theorem xClr_ok {P : Program} {S : TypeId} {zs : Option (List CV)} {s : CV} {h : CH} {k : CH → Bool} (hz : ∀ e z, elemI P S = some e → zs = some z → ZeroOk P e.type z) (hk : xClr (appK P S) zs s h k = true) : ∃ h', k h' = true ∧ h'.wp = h.wp ∧ ∀ {H0 m H vs} {K : Hp → Prop}, Rel H0 m h H → Vrel m s vs → (∀ H', Rel H0 m h' H' → Stp h.wp m H m H' → K H') →
    Pu (clrE (elemI P S) vs H) K := by
  unfold xClr at hk
  split at hk
  · rename_i T es by' u w x b o n hq hs
    obtain ⟨e, he, hT, hes, hby, hez, hb0⟩ := appK_spec hq
    obtain ⟨hc, hk1⟩ := rec_false hk
    clear hk
    simp only [beq_dec, ble_dec, Bool.and_eq_true, decide_eq_true_eq] at hc
    obtain ⟨⟨⟨rfl, rfl⟩, rfl⟩, hn⟩ := hc
    obtain ⟨h', hk3, hwp, hst⟩ := xStore_ok hk1
    refine ⟨h', hk3, hwp, fun {H0 m H vs K} hr hvs hf => ?_⟩
    obtain ⟨ed, cap, hed, rfl⟩ := slOf_exact hs hvs hn
    have hzc : Crel m [.bytes n 0] (zl e.zero n).toList := bytes_zero (zero_elem he (hz e _ he rfl) m) n
    have hlen : (zl e.zero n).size = n := by rw [← Array.length_toList, zl_len, hez, Nat.mul_one]
    obtain ⟨H', hput, hK⟩ := hst (K := K) hr ⟨ed, hed, rfl⟩ ⟨zl e.zero n, rfl, hzc⟩ hf
    rw [he]
    have : clrE (some e) (.slice (some ⟨ed.1, o, none⟩) n cap) H = some H' := by
      obtain ⟨n', rfl⟩ : ∃ n', n = n' + 1 := ⟨n - 1, by omega⟩
      unfold clrE
      simp only
      have h2 := hput
      unfold storeE at h2
      simp only [Value.cells, hlen, if_true] at h2
      exact h2
    rw [this, Pu_some]; exact hK
  · cases hk

/-! ### Bytes as a string -/
def bytesU : Nat → Nat → List UInt8
  | 0, _ => []
  | n + 1, x => UInt8.ofNat (x % 256) :: bytesU n (x / 256)
theorem bytesU_nums : ∀ (n x : Nat), u8s (bytesL n x) = some ((bytesU n x).map fun b => ((b.toNat : Nat) : Int))
  | 0, x => rfl
  | n + 1, x => by
    simp only [bytesL, u8s, bytesU_nums n, Option.map_some, bytesU, List.map_cons]
    congr 2
    have : x % 256 < 256 := Nat.mod_lt _ (by decide)
    simp [UInt8.toNat_ofNat, Nat.mod_eq_of_lt this]
theorem strOf_bytes (l : List UInt8) : strOfNums (l.map fun b => ((b.toNat : Nat) : Int)) = ⟨l.toArray⟩ := by
  unfold strOfNums
  congr 2
  rw [List.map_map]
  conv => rhs; rw [← List.map_id l]
  apply List.map_congr_left
  intro b _
  simp
noncomputable def xStrOf (s : CV) (h : CH) (k : CV → Bool) : Bool :=
  match s with
  | .nils => k (.str ByteArray.empty)
  | s => (match slOf s with
    | some (b, o, n) => Bool.rec false (xRow h b o fun _ _ _ _ _ _ j ps => (match splitP ps j with
      | some (_, r) => (match splitP r n with
        | some ([.bytes n' x], _) => forceN n' fun n' => forceN x fun x => k (.str ⟨(bytesU n' x).toArray⟩)
        | _ => false)
      | none => false)) (Nat.ble 1 n)
    | none => false)
theorem xStrOf_ok {s : CV} {h : CH} {k : CV → Bool} (hk : xStrOf s h k = true) : ∃ z, k z = true ∧ ∀ {H0 m H vs}, Rel H0 m h H → Vrel m s vs → ∃ v, strOfE vs H = some v ∧ Vrel m z v := by
  have main : (match slOf s with
    | some (b, o, n) => Bool.rec false (xRow h b o fun _ _ _ _ _ _ j ps => (match splitP ps j with
      | some (_, r) => (match splitP r n with
        | some ([.bytes n' x], _) => forceN n' fun n' => forceN x fun x => k (.str ⟨(bytesU n' x).toArray⟩)
        | _ => false)
      | none => false)) (Nat.ble 1 n)
    | none => false) = true → ∃ z, k z = true ∧ ∀ {H0 m H vs}, Rel H0 m h H → Vrel m s vs → ∃ v, strOfE vs H = some v ∧ Vrel m z v := by
    intro hk
    split at hk
    · rename_i b2 o2 n hs
      obtain ⟨hc, hk1⟩ := rec_false hk
      simp only [ble_dec, decide_eq_true_eq] at hc
      obtain ⟨T2, es2, len2, d2, t2, i, j, ps, hk2, hg, hi, hps, ho⟩ := xRow_ok hk1
      clear hk1
      split at hk2
      · rename_i a r h1
        split at hk2
        · rename_i n' x dd h2
          rw [forceN_eq, forceN_eq] at hk2
          refine ⟨_, hk2, fun {H0 m H vs} hr hvs => ?_⟩
          obtain ⟨es', caps, hes', rfl⟩ := slOf_exact hs hvs (by omega)
          obtain ⟨e', O, k1, k2, c, rfl, k3, k4, k5⟩ := hr.obj b2 _ hg
          rw [hes'] at k1; injection k1 with k1; subst k1
          obtain ⟨ps', h6, h7⟩ := k5 i hi
          rw [hps] at h6; injection h6 with h6; subst h6
          obtain ⟨hl, hb⟩ := ext_len k3 k4 hi
          obtain ⟨l1, l2, l3, hl', e1, e2, _, r2, _⟩ := split_mid h7 h1 h2
          have hlen : j + n ≤ es2 := by rw [← hl, hl']; simp; omega
          have hcs : (c.extract o2 (o2 + n)).toList = l2 := by
            have h8 : (c.extract o2 (o2 + n)).toList = ((c.extract (i * es2) (i * es2 + es2)).toList.drop j).take n := by
              rw [Array.toList_extract, Array.toList_extract, List.extract_eq_take_drop, List.extract_eq_take_drop, show o2 + n - o2 = n by omega, show i * es2 + es2 - i * es2 = es2 by omega, List.drop_take, List.drop_drop, List.take_take, ho, show min n (es2 - j) = n by omega]
            rw [h8, hl', ← e1, List.drop_left, ← e2, List.take_left]
          obtain ⟨l4, r3, r4⟩ := r2
          simp only [Crel] at r4
          subst r4
          rw [List.append_nil] at r3
          refine ⟨.string ⟨(bytesU n' x).toArray⟩, ?_, rfl⟩
          have hrow : rowH H ⟨es'.1, o2, none⟩ n = some (c.extract o2 (o2 + n)) := by
            unfold rowH
            simp only [k2]
            rw [if_pos ⟨trivial, by omega⟩]
          unfold strOfE
          simp only [hrow, Option.bind_some, hcs, r3, bytesU_nums, Option.map_some, strOf_bytes]
        · cases hk2
      · cases hk2
    · cases hk
  unfold xStrOf at hk
  split at hk
  · refine ⟨_, hk, fun {H0 m H vs} hr hvs => ?_⟩
    simp only [Vrel] at hvs; subst hvs
    exact ⟨_, rfl, rfl⟩
  · exact main hk

/-! ### A string as bytes -/
def packB : List UInt8 → Nat
  | [] => 0
  | b :: l => b.toNat + 256 * packB l
theorem packB_ok : ∀ (l : List UInt8), bytesL l.length (packB l) = l.map fun b => Value.int .u8 (b.toNat : Int)
  | [] => rfl
  | b :: l => by
    have hb : b.toNat < 256 := b.toNat_lt
    simp only [List.length_cons, bytesL, packB, List.map_cons]
    rw [show (b.toNat + 256 * packB l) % 256 = b.toNat by omega, show (b.toNat + 256 * packB l) / 256 = packB l by omega, packB_ok l]
def isStr (d : Option TypeDesc) : Bool := match d with | some .string => true | _ => false
noncomputable def xBytesOf (u : Bool) (q : Option (Nat × Nat × Nat × Bool)) (x : CV) (h : CH) (k : CV → CH → Bool) : Bool :=
  match u, q, x with
  | true, some (T, _, _, _), .str s => forceN s.data.toList.length fun n => forceN (packB s.data.toList) fun y => xNew (.fz T n y) h fun b h' => k (.so b 0 n 1) h'
  | false, some (T, _, _, _), .sl b o n c => (match h.get b with
    | some (.row T2 es len d t) => (match elt t d 0 with
      | some [.bytes n' y] => Bool.rec false (xSet b (.fz T2 n' y) h fun h' => k (.sl b o n c) h') (Nat.beq n' es && Nat.ble 1 len)
      | _ => false)
    | _ => false)
  | _, _, _ => false
theorem xBytesOf_ok {P : Program} {S D : TypeId} {x : CV} {h : CH} {k : CV → CH → Bool} (hst : strT P S D = true) (hk : xBytesOf (isStr (P.underlying S)) (appK P D) x h k = true) :
    ∃ z h', k z h' = true ∧ h'.wp = h.wp ∧ ∀ {H0 m H vx} {K : Value → Hp → Prop}, Rel H0 m h H → Vrel m x vx → Fin H0 m h H z h' K → BytesS P S D vx H K := by
  unfold xBytesOf at hk
  split at hk
  · rename_i T es by' u s hu1 hq
    obtain ⟨e, he, hT, _⟩ := appK_spec hq
    obtain ⟨hu, _⟩ := elemI_spec he
    rw [forceN_eq, forceN_eq] at hk
    obtain ⟨h', hk2, hwp, hnew⟩ := xNew_ok hk
    refine ⟨_, h', hk2, hwp, fun {H0 m H vx K} hr hx hf => ?_⟩
    simp only [Vrel] at hx
    subst hx
    unfold strT at hst
    unfold BytesS
    rw [hu] at hst ⊢
    split at hst
    · rename_i e2 hs hd
      injection hd with hd
      rw [hs]
      simp only
      intro cap fz hcap
      have hsz : s.size = s.data.toList.length := Array.length_toList.symm
      have hrow : (bytesRow s cap).size = cap := by
        unfold bytesRow
        have : s.data.size = s.size := rfl
        rw [Array.size_append, Array.size_map, Array.size_replicate]; omega
      obtain ⟨r1, r2, r3⟩ := hnew (O := .cells (bytesRow s cap) e.type fz) (z := cap) hr (by
        refine ⟨bytesRow s cap, _, fz, rfl, hrow, by simp only; omega, ?_⟩
        rw [packB_ok]
        unfold bytesRow
        rw [Array.toList_extract, List.extract_eq_take_drop, Array.toList_append, Array.toList_map]
        simp only [Nat.sub_zero, List.drop_zero]
        exact List.take_left' (by rw [List.length_map]))
      refine hf _ _ _ r1 r2 ?_
      rw [← hsz]
      exact ⟨_, ⟨H.size, 0, none⟩, cap, r3, rfl, hcap, by simp, rfl, rfl, fun _ => rfl⟩
    · rename_i e2 e3 hs hd
      rw [hs] at hu1; cases hu1
    · cases hst
  · rename_i T es by' u b o n cp hu1 hq
    obtain ⟨e, he, hT, _⟩ := appK_spec hq
    obtain ⟨hu, _⟩ := elemI_spec he
    split at hk <;> try (cases hk; done)
    rename_i T2 es2 len2 d2 t2 hg
    split at hk <;> try (cases hk; done)
    rename_i n' y hel
    obtain ⟨hc, hk1⟩ := rec_false hk
    clear hk
    simp only [beq_dec, ble_dec, Bool.and_eq_true, decide_eq_true_eq] at hc
    obtain ⟨rfl, hl⟩ := hc
    obtain ⟨h', hk2, hwp, hset⟩ := xSet_ok hk1
    refine ⟨_, h', hk2, hwp, fun {H0 m H vx K} hr hx hf => ?_⟩
    obtain ⟨e1, O, k1, k2, c, rfl, k3, k4, k5⟩ := hr.obj b _ hg
    obtain ⟨e', he', rfl⟩ := hx
    rw [he'] at k1; injection k1 with k1; subst k1
    obtain ⟨ps, h6, h7⟩ := k5 0 (by omega)
    rw [hel] at h6; injection h6 with h6; subst h6
    obtain ⟨rest, h8, h9⟩ := h7
    simp only [Crel] at h9; subst h9
    rw [List.append_nil] at h8
    have hmul : n' ≤ len2 * n' := Nat.le_mul_of_pos_left n' (by omega)
    unfold strT at hst
    unfold BytesS
    rw [hu] at hst ⊢
    split at hst
    · rename_i e2 hs hd
      rw [hs] at hu1; cases hu1
    · rename_i e2 e3 hs hd
      rw [hs]
      simp only [k2]
      intro fz
      obtain ⟨r1, r2⟩ := hset (O := .cells c T2 fz) hr hg he' ⟨c, _, fz, rfl, k3, by omega, by simpa using h8⟩
      exact hf _ _ _ r1 r2 ⟨e', he', rfl⟩
    · cases hst
  · cases hk
end Go.Xc

/- Xc, part K: each operation of the program, run. -/
set_option linter.unusedVariables false
set_option linter.unusedSectionVars false
set_option linter.unusedSimpArgs false
namespace Go.Xc
open Go.Vc
variable [Sites]

/-- A function, run. -/
abbrev Ex := List CV → CH → (CV → CH → Bool) → Bool
/-- What it is worth. -/
def SimF (P : Program) (f : FuncId) (ex : Ex) : Prop :=
  ∀ args h k, ex args h k = true → ∃ z h', k z h' = true ∧ h'.wp = h.wp ∧ ∀ {H0 m H vargs} {K : Value → Hp → Prop}, Rel H0 m h H → Vrels m args vargs → Fin H0 m h H z h' K → Fc P f vargs.toArray H K

noncomputable def look {α : Type} (l : List (Nat × α)) (i : Nat) : Option α := List.rec (motive := fun _ => Option α) none (fun p _ ih => Bool.rec ih (some p.2) (Nat.beq p.1 i)) l
theorem look_ok {α : Type} {Q : Nat → α → Prop} : ∀ {l : List (Nat × α)} {i : Nat} {x : α}, (∀ p, p ∈ l → Q p.1 p.2) → look l i = some x → Q i x
  | [], _, _, _, h => by cases h
  | p :: l, i, x, hq, h => by
    have h' : (Bool.rec (motive := fun _ => Option α) (look l i) (some p.2) (Nat.beq p.1 i)) = some x := h
    cases hb : Nat.beq p.1 i with
    | true =>
      rw [hb] at h'
      have h2 : some p.2 = some x := h'
      injection h2 with h2; subst h2
      rw [← Nat.eq_of_beq_eq_true hb]; exact hq p List.mem_cons_self
    | false =>
      rw [hb] at h'
      exact look_ok (fun p hp => hq p (List.mem_cons_of_mem _ hp)) h'

/-- Rounds have numbers from here on. -/
abbrev RB : Nat := 1000000
/-- A round of loop n, run: it is handed what it is asked for by, the frame in which the loop was begun, and what the caller hands on. -/
def SimRd (P : Program) (n : Nat) (ex : Ex) : Prop :=
  ∀ b fr args h k, ex (.yv b :: .tup fr :: args) h k = true → (∃ st j, h.get b = some (.lp st j n fr)) → ∃ z h', k z h' = true ∧ h'.wp = h.wp ∧ ∀ {H0 m H vargs e} {K : Value → Hp → Prop}, Rel H0 m h H → Vrels m args vargs → m[b]? = some e → Fin H0 m h H z h' K → CallV P (.func (.yield e.1) #[] #[]) vargs.toArray H K
structure EnvOk (P : Program) (Z : List (Nat × CV)) (C : List (Nat × Ex)) : Prop where
  z : ∀ p, p ∈ Z → ZeroV P p.1 p.2
  c : ∀ p, p ∈ C → (Nat.ble RB p.1 = false → enterB P p.1 = true ∧ SimF P p.1 p.2) ∧ ∀ n, p.1 = RB + n → SimRd P n p.2

noncomputable def plainX (z : CV) : Option Value := Bool.rec none (some (valP z)) (plB z)
theorem plainX_ok {z : CV} {v : Value} (h : plainX z = some v) {m : M} {u : Value} (hu : Vrel m z u) : u = v := by
  unfold plainX at h
  cases hp : plB z with
  | false => rw [hp] at h; cases h
  | true => rw [hp] at h; injection h with h; rw [← h]; exact valP_ok z hp hu
theorem plainX_rel {z : CV} {v : Value} (h : plainX z = some v) (m : M) : Vrel m z v := by
  unfold plainX at h
  cases hp : plB z with
  | false => rw [hp] at h; cases h
  | true => rw [hp] at h; injection h with h; rw [← h]; exact valP_rel z hp m

theorem Fin.ext' {H0 : Hp} {m : M} {h : CH} {H H' : Hp} {z : CV} {h' : CH} {K : Value → Hp → Prop} (hf : Fin H0 m h H z h' K) (hx : Ext H H') : Fin H0 m h H' z h' K :=
  fun m' H'' v hr hs hv => hf m' H'' v hr ((Stp.ext hx).trans hs) hv
theorem forX {H0 : Hp} {m : M} {h : CH} {H : Hp} {z : CV} {h' : CH} {K : Value → Hp → Prop} {q : Bool} {X : Hp → Prop} (hr : Rel H0 m h H) (hf : Fin H0 m h H z h' K) (hX : ∀ H', Rel H0 m h H' → Fin H0 m h H' z h' K → X H') : ForX q H X := by
  cases q
  · exact hX H hr hf
  · exact fun H' hx => hX H' (hr.ext' hx) (hf.ext' hx)

noncomputable abbrev ifX (b A B : Bool) : Bool := Bool.rec B A b
theorem ifX_eq (b A B : Bool) : ifX b A B = if b then A else B := by cases b <;> rfl
noncomputable abbrev xIte (c : CV) (A B : Bool) : Bool :=
  match c with
  | .bool true => A
  | .bool false => B
  | _ => false
noncomputable abbrev xCall (ex : Option Ex) (args : List CV) (h : CH) (k : CV → CH → Bool) : Bool :=
  match ex with
  | some ex => ex args h k
  | none => false
noncomputable def xQuiet (ex : Option Ex) (args : List CV) (h : CH) (k : CV → CH → Bool) : Bool :=
  match ex, h with
  | some ex, .mk t n wp => ex args (.mk t n n) fun z _ => (match plainX z with | some _ => k z (.mk t n wp) | none => false)
  | none, _ => false
theorem Vrels_append {m : M} : ∀ {a b : List CV} {va vb : List Value}, Vrels m a va → Vrels m b vb → Vrels m (a ++ b) (va ++ vb)
  | [], _, _, _, h1, h2 => by simp only [Vrels] at h1; subst h1; exact h2
  | x :: a, b, va, vb, h1, h2 => by
    obtain ⟨v, l', rfl, h3, h4⟩ := h1
    exact ⟨v, l' ++ vb, rfl, h3, Vrels_append h4 h2⟩
noncomputable abbrev xCallF (C : List (Nat × Ex)) (f : Nat) (args : List CV) (h : CH) (k : CV → CH → Bool) : Bool := ifX (Nat.ble RB f) false (xCall (look C f) args h k)
noncomputable def xCallV (C : List (Nat × Ex)) (x : CV) (args : List CV) (h : CH) (k : CV → CH → Bool) : Bool :=
  match x with
  | .fn f a c => xCallF C f ((a ++ args) ++ c) h k
  | .yv b => (match h.get b with
    | some (.lp _ _ n fr) => xCall (look C (RB + n)) (.yv b :: .tup fr :: args) h k
    | _ => false)
  | _ => false
theorem xCallF_ok {P : Program} {Z : List (Nat × CV)} {C : List (Nat × Ex)} (he : EnvOk P Z C) {f : Nat} {args : List CV} {h : CH} {k : CV → CH → Bool} (hk : xCallF C f args h k = true) :
    enterB P f = true ∧ ∃ z h', k z h' = true ∧ h'.wp = h.wp ∧ ∀ {H0 m H vargs} {K : Value → Hp → Prop}, Rel H0 m h H → Vrels m args vargs → Fin H0 m h H z h' K → Fc P f vargs.toArray H K := by
  unfold xCallF at hk
  rw [ifX_eq] at hk
  split at hk
  · cases hk
  · rename_i hf
    unfold xCall at hk
    split at hk
    · rename_i ex hl
      obtain ⟨h1, _⟩ := look_ok (Q := fun f ex => (Nat.ble RB f = false → enterB P f = true ∧ SimF P f ex) ∧ ∀ n, f = RB + n → SimRd P n ex) he.c hl
      obtain ⟨hen, hsim⟩ := h1 (eq_false_of_ne_true hf)
      exact ⟨hen, hsim _ _ _ hk⟩
    · cases hk
theorem xCallV_ok {P : Program} {Z : List (Nat × CV)} {C : List (Nat × Ex)} (he : EnvOk P Z C) {x : CV} {args : List CV} {h : CH} {k : CV → CH → Bool} (hk : xCallV C x args h k = true) :
    ∃ z h', k z h' = true ∧ h'.wp = h.wp ∧ ∀ {H0 m H vx vargs} {K : Value → Hp → Prop}, Rel H0 m h H → Vrel m x vx → Vrels m args vargs → Fin H0 m h H z h' K → CallV P vx vargs.toArray H K := by
  unfold xCallV at hk
  split at hk
  · rename_i f a c
    obtain ⟨hen, z, h', h1, h2, h3⟩ := xCallF_ok he hk
    refine ⟨z, h', h1, h2, fun {H0 m H vx vargs K} hr hx ha hf => ?_⟩
    obtain ⟨va, vc, rfl, r1, r2⟩ := hx
    exact ⟨hen, h3 hr (Vrels_append (Vrels_append r1 ha) r2) hf⟩
  · rename_i b
    split at hk
    · rename_i st j n fr hg
      unfold xCall at hk
      split at hk
      · rename_i ex hl
        obtain ⟨_, h1⟩ := look_ok (Q := fun f ex => (Nat.ble RB f = false → enterB P f = true ∧ SimF P f ex) ∧ ∀ n, f = RB + n → SimRd P n ex) he.c hl
        obtain ⟨z, h', h2, h3, h4⟩ := h1 n rfl b fr args h k hk ⟨st, j, hg⟩
        refine ⟨z, h', h2, h3, fun {H0 m H vx vargs K} hr hx ha hf => ?_⟩
        obtain ⟨e, he', rfl⟩ := hx
        exact h4 hr ha he' hf
      · cases hk
    · cases hk
  · cases hk

def RhoRel (m : M) (ρ : Operand → CV) (ρv : Operand → Value) : Prop := ∀ o, Vrel m (ρ o) (ρv o)
theorem Vrels_map {m : M} {ρ : Operand → CV} {ρv : Operand → Value} (hρ : RhoRel m ρ ρv) : ∀ (l : List Operand), Vrels m (l.map ρ) (l.map ρv)
  | [] => rfl
  | o :: l => ⟨_, _, rfl, hρ o, Vrels_map hρ l⟩
theorem Prels_map {m : M} {ρ : Operand → CV} {ρv : Operand → Value} (hρ : RhoRel m ρ ρv) : ∀ (l : List (Nat × Operand)), Prels m (l.map fun (i, x) => (i, ρ x)) (l.map fun (i, x) => (i, ρv x))
  | [] => rfl
  | (i, o) :: l => ⟨_, _, rfl, hρ o, Prels_map hρ l⟩
theorem Orl_map {m : M} {ρ : Operand → CV} {ρv : Operand → Value} (hρ : RhoRel m ρ ρv) (o : Option Operand) : Orl m (o.map ρ) (o.map ρv) := by
  cases o with
  | none => trivial
  | some o => exact hρ o

noncomputable def elemZ (P : Program) (Z : List (Nat × CV)) (S : TypeId) : Option (List CV) :=
  match appK P S with
  | some (T, _, _, _) => (match look Z T with | some z => toP z | none => none)
  | none => none
theorem elemZ_ok {P : Program} {Z : List (Nat × CV)} {C : List (Nat × Ex)} (he : EnvOk P Z C) {S : TypeId} : ∀ e z, elemI P S = some e → elemZ P Z S = some z → ZeroOk P e.type z := by
  intro e z h1 h2
  unfold elemZ at h2
  split at h2
  · rename_i T es b u hq
    obtain ⟨e', h3, h4, _⟩ := appK_spec hq
    rw [h1] at h3; injection h3 with h3; subst h3
    split at h2
    · rename_i zv hl
      rw [h4]
      exact (look_ok he.z hl).ok h2
    · cases h2
  · cases h2
def mapET (mi : Option (TypeId × TypeDesc × TypeId)) : TypeId := match mi with | some (_, _, c) => c | none => 0

noncomputable def xBuiltin (P : Program) (Z : List (Nat × CV)) (b : Builtin) (ts : List TypeId) (xs : List CV) (h : CH) (k : CV → CH → Bool) : Bool :=
  match b, ts, xs with
  | .len, [T], [x] => (match isMapT (P.underlying T) with
    | true => xMapLen x h fun v => k v h
    | false => xLen (lenK P T) x fun v => k v h)
  | .min, _, [x, y] => xMin x y fun v => k v h
  | .max, _, [x, y] => xMax x y fun v => k v h
  | .append, [T, T2], [s, x] => (match P.underlying T2 with
    | some (.slice _) => xApp (appK P T) s x h k
    | _ => false)
  | .delete, [T, _], [m, key] => xMapDel (mapI P T) m key h fun h' => k (.tup []) h'
  | .clear, [T], [m] => (match isMapT (P.underlying T) with
    | true => xMapClr m h fun h' => k (.tup []) h'
    | false => xClr (appK P T) (elemZ P Z T) m h fun h' => k (.tup []) h')
  | .copy, [T, _], [d, s] => xCopy (appK P T) d s h k
  | _, _, _ => false

theorem map_one {α β : Type} {f : α → β} {l : List α} {x : β} (h : l.map f = [x]) : ∃ a, l = [a] ∧ f a = x := by
  match l, h with
  | [a], h => exact ⟨a, rfl, by simpa using h⟩
theorem map_two {α β : Type} {f : α → β} {l : List α} {x y : β} (h : l.map f = [x, y]) : ∃ a b, l = [a, b] ∧ f a = x ∧ f b = y := by
  match l, h with
  | [a, b], h => exact ⟨a, b, rfl, by simpa using h⟩

theorem unit_rel (m : M) : Vrel m (.tup []) (.tuple #[]) := ⟨#[], rfl, rfl⟩

theorem xBuiltin_ok {P : Program} {Z : List (Nat × CV)} {C : List (Nat × Ex)} (he : EnvOk P Z C) {b : Builtin} {ts : List TypeId} {l : List Operand} {ρ : Operand → CV} {h : CH} {k : CV → CH → Bool} (hk : xBuiltin P Z b ts (l.map ρ) h k = true) :
    ∃ z h', k z h' = true ∧ h'.wp = h.wp ∧ ∀ {H0 m H ρv q} {K : Value → Hp → Prop}, Rel H0 m h H → RhoRel m ρ ρv → Fin H0 m h H z h' K → vcBuiltin P q b ts (l.map ρv) H K := by
  unfold xBuiltin at hk
  split at hk
  · rename_i T x hxs
    obtain ⟨a, rfl, rfl⟩ := map_one hxs
    split at hk
    · rename_i hm
      obtain ⟨z, h1, h2⟩ := xMapLen_ok hk
      refine ⟨z, h, h1, rfl, fun {H0 m H ρv q K} hr hρ hf => ?_⟩
      obtain ⟨v, h3, h4⟩ := h2 hr (hρ a)
      show vcBuiltin P q .len [T] [ρv a] H K
      simp only [vcBuiltin, hm, h3, Pu_some]
      exact hf _ _ _ hr (Stp.refl _ _ _) h4
    · rename_i hm
      obtain ⟨z, h1, h2⟩ := xLen_ok hk
      refine ⟨z, h, h1, rfl, fun {H0 m H ρv q K} hr hρ hf => ?_⟩
      obtain ⟨v, h3, h4⟩ := h2 (hρ a)
      show vcBuiltin P q .len [T] [ρv a] H K
      simp only [vcBuiltin, hm, h3, Pu_some]
      exact hf _ _ _ hr (Stp.refl _ _ _) h4
  · rename_i x y hxs
    obtain ⟨a, b, rfl, rfl, rfl⟩ := map_two hxs
    obtain ⟨z, h1, h2⟩ := xMin_ok hk
    refine ⟨z, h, h1, rfl, fun {H0 m H ρv q K} hr hρ hf => ?_⟩
    obtain ⟨v, h3, h4⟩ := h2 (hρ a) (hρ b)
    show vcBuiltin P q .min _ [ρv a, ρv b] H K
    simp only [vcBuiltin, h3, Pu_some]
    exact hf _ _ _ hr (Stp.refl _ _ _) h4
  · rename_i x y hxs
    obtain ⟨a, b, rfl, rfl, rfl⟩ := map_two hxs
    obtain ⟨z, h1, h2⟩ := xMax_ok hk
    refine ⟨z, h, h1, rfl, fun {H0 m H ρv q K} hr hρ hf => ?_⟩
    obtain ⟨v, h3, h4⟩ := h2 (hρ a) (hρ b)
    show vcBuiltin P q .max _ [ρv a, ρv b] H K
    simp only [vcBuiltin, h3, Pu_some]
    exact hf _ _ _ hr (Stp.refl _ _ _) h4
  · rename_i T T2 s x hxs
    obtain ⟨a, b, rfl, rfl, rfl⟩ := map_two hxs
    split at hk
    · rename_i e2 hu
      obtain ⟨z, h', h1, h2, h3⟩ := xApp_ok hk
      refine ⟨z, h', h1, h2, fun {H0 m H ρv q K} hr hρ hf => ?_⟩
      show vcBuiltin P q .append [T, T2] [ρv a, ρv b] H K
      simp only [vcBuiltin, hu]
      exact forX hr hf fun H' hr' hf' => h3 hr' (hρ a) (hρ b) hf'
    · cases hk
  · rename_i T T2 m' key hxs
    obtain ⟨a, b, rfl, rfl, rfl⟩ := map_two hxs
    obtain ⟨h', h1, h2, h3⟩ := xMapDel_ok hk
    refine ⟨_, h', h1, h2, fun {H0 m H ρv q K} hr hρ hf => ?_⟩
    show vcBuiltin P q .delete [T, T2] [ρv a, ρv b] H K
    simp only [vcBuiltin]
    exact forX hr hf fun H' hr' hf' => h3 hr' (hρ a) (hρ b) fun H'' r1 r2 => hf' _ _ _ r1 r2 (unit_rel m)
  · rename_i T m' hxs
    obtain ⟨a, rfl, rfl⟩ := map_one hxs
    split at hk
    · rename_i hm
      obtain ⟨h', h1, h2, h3⟩ := xMapClr_ok hk
      refine ⟨_, h', h1, h2, fun {H0 m H ρv q K} hr hρ hf => ?_⟩
      show vcBuiltin P q .clear [T] [ρv a] H K
      simp only [vcBuiltin, hm]
      exact forX hr hf fun H' hr' hf' => h3 hr' (hρ a) fun H'' r1 r2 => hf' _ _ _ r1 r2 (unit_rel m)
    · rename_i hm
      obtain ⟨h', h1, h2, h3⟩ := xClr_ok (elemZ_ok he) hk
      refine ⟨_, h', h1, h2, fun {H0 m H ρv q K} hr hρ hf => ?_⟩
      show vcBuiltin P q .clear [T] [ρv a] H K
      simp only [vcBuiltin, hm]
      exact forX hr hf fun H' hr' hf' => h3 hr' (hρ a) fun H'' r1 r2 => hf' _ _ _ r1 r2 (unit_rel m)
  · rename_i T T2 d s hxs
    obtain ⟨a, b, rfl, rfl, rfl⟩ := map_two hxs
    obtain ⟨z, h', h1, h2, h3⟩ := xCopy_ok hk
    refine ⟨z, h', h1, h2, fun {H0 m H ρv q K} hr hρ hf => ?_⟩
    show vcBuiltin P q .copy [T, T2] [ρv a, ρv b] H K
    simp only [vcBuiltin]
    exact forX hr hf fun H' hr' hf' => h3 hr' (hρ a) (hρ b) hf'
  · cases hk

def opsX (ρ : Operand → CV) (xs : Array Operand) : List CV := xs.toList.map ρ
noncomputable def allocZ (Z : List (Nat × CV)) (T : TypeId) : Option (List CV) := match look Z T with | some z => toP z | none => none

noncomputable def xOp (P : Program) (qf : FuncId → Bool) (Z : List (Nat × CV)) (C : List (Nat × Ex)) (dr q : Bool) (o : Oper) (ρ : Operand → CV) (h : CH) (k : CV → CH → Bool) : Bool :=
  match o.op with
  | .move x | .assign x => k (ρ x) h
  | .pick c a b => xIte (ρ c) (k (ρ a) h) (k (ρ b) h)
  | .binOp op T x y _ => (match hardT (P.underlying T) with
    | true => xEq (eqK P T) op (ρ x) (ρ y) h fun v => k v h
    | false => xBin (P.underlying T) op (ρ x) (ρ y) fun v => k v h)
  | .unOp op _ x => xUn op (ρ x) fun v => k v h
  | .convert s d x => (match strT P s d with
    | true => xBytesOf (isStr (P.underlying s)) (appK P d) (ρ x) h k
    | false => (match bytesT P s d with
      | true => xStrOf (ρ x) h fun v => k v h
      | false => xConv (P.underlying s) (P.underlying d) (ρ x) fun v => k v h))
  | .fieldAddr S x f => xAddr (fieldO P S f) (ρ x) fun v => k v h
  | .field S x f => xField (fieldK P S f) (ρ x) fun v => k v h
  | .indexAddr T x i => xIdx (idxK P T) (ρ x) (ρ i) fun v => k v h
  | .index T x i => xIndex (idxVK P T) (ρ x) (ρ i) fun v => k v h
  | .sliceToArrayPointer T x => xArr (arrK P T) (ρ x) fun v => k v h
  | .extract t i => xExtract (ρ t) i fun v => k v h
  | .nilCheck x => xNilCheck (ρ x) fun v => k v h
  | .makeFunc fn first cap => (match fn with | .func f => k (.fn f (opsX ρ first) (opsX ρ cap)) h | _ => false)
  | .build T parts => xBuild (bldK P T) (look Z T) (parts.toList.map fun (i, x) => (i, ρ x)) fun v => k v h
  | .slice T x lo hi mx => (match strU P T with
    | true => xSliceS (ρ x) (lo.map ρ) (hi.map ρ) (mx.map ρ) fun v => k v h
    | false => xSlice (idxK P T) (ρ x) (lo.map ρ) (hi.map ρ) (mx.map ρ) fun v => k v h)
  | .load T a => xLoad (ldK P T) (ρ a) h fun v => k v h
  | .store T a x => xStore (szOf P T) (ρ a) (ρ x) h fun h' => k (.tup []) h'
  | .box T x => xBox T (ρ x) h k
  | .alloc T => (match allocZ Z T with | some ps => xBoxP T ps h k | none => false)
  | .buildSlice T n parts => xNewS (appK P T) (elemZ P Z T) n (parts.toList.map fun (i, x) => (i, ρ x)) h k
  | .lookup T x key ok => xLookup (mapI P T) (look Z (mapET (mapI P T))) ok (ρ x) (ρ key) h fun v => k v h
  | .mapUpdate T m key x => (match mapW P T with
    | some kt => xMapSetW P kt (ρ m) (ρ key) (ρ x) h fun h' => k (.tup []) h'
    | none => xMapSet (mapI P T) (ρ m) (ρ key) (ρ x) h fun h' => k (.tup []) h')
  | .insert T m key x => xMapSet (mapI P T) (ρ m) (ρ key) (ρ x) h fun h' => k (.tup []) h'
  | .makeMap _ none => xNewMap h k
  | .makeSlice T l c => xMake (appK P T) (elemZ P Z T) (ρ l) (ρ c) h k
  | .call c =>
    (match c.callee with
    | .builtin b => xBuiltin P Z b c.argTypes.toList (c.args.toList.map ρ) h k
    | .value (.func f) => (match dr && qf f with
      | true => (match q with | true => ifX (Nat.ble RB f) false (xQuiet (look C f) (opsX ρ c.args) h k) | false => false)
      | false => xCallF C f (opsX ρ c.args) h k)
    | .value x => xCallV C (ρ x) (opsX ρ c.args) h k
    | .invoke _ _ => false)
  | _ => false

theorem xOp_ok {P : Program} {qf : FuncId → Bool} {Z : List (Nat × CV)} {C : List (Nat × Ex)} {dr q : Bool} (he : EnvOk P Z C) {o : Oper} {ρ : Operand → CV} {h : CH} {k : CV → CH → Bool} (hk : xOp P qf Z C dr q o ρ h k = true) :
    ∃ z h', k z h' = true ∧ h'.wp = h.wp ∧ ∀ {H0 m H ρv} {K : Value → Hp → Prop}, Rel H0 m h H → RhoRel m ρ ρv → Fin H0 m h H z h' K → vcOp P qf dr q o ρv H K := by
  have pure1 : ∀ {z : CV} {X : (Operand → Value) → Hp → (Value → Hp → Prop) → Prop}, k z h = true → (∀ {H0 m H ρv} {K : Value → Hp → Prop}, Rel H0 m h H → RhoRel m ρ ρv → (∀ v, Vrel m z v → K v H) → X ρv H K) →
      ∃ z h', k z h' = true ∧ h'.wp = h.wp ∧ ∀ {H0 m H ρv} {K : Value → Hp → Prop}, Rel H0 m h H → RhoRel m ρ ρv → Fin H0 m h H z h' K → X ρv H K :=
    fun hz hX => ⟨_, h, hz, rfl, fun hr hρ hf => hX hr hρ fun v hv => hf _ _ _ hr (Stp.refl _ _ _) hv⟩
  obtain ⟨dst, op, type, pos, after, guard⟩ := o
  unfold xOp at hk
  unfold vcOp
  cases op <;> simp only at hk ⊢ <;> try (cases hk; done)
  case move x => exact pure1 hk fun hr hρ hK => hK _ (hρ x)
  case assign x => exact pure1 hk fun hr hρ hK => hK _ (hρ x)
  case pick c a b =>
    unfold xIte at hk
    split at hk
    · rename_i hc
      refine pure1 hk fun {H0 m H ρv K} hr hρ hK => ?_
      have h1 := hρ c
      rw [hc] at h1
      simp only [Vrel] at h1
      rw [h1]; exact hK _ (hρ a)
    · rename_i hc
      refine pure1 hk fun {H0 m H ρv K} hr hρ hK => ?_
      have h1 := hρ c
      rw [hc] at h1
      simp only [Vrel] at h1
      rw [h1]; exact hK _ (hρ b)
    · cases hk
  case binOp op T x y T2 =>
    cases hh : hardT (P.underlying T) with
    | true =>
      rw [hh] at hk
      obtain ⟨z, h1, h2⟩ := xEq_ok (lit := (isConst x || isConst y)) hk
      refine pure1 h1 fun {H0 m H ρv K} hr hρ hK => ?_
      obtain ⟨v, h3, h4⟩ := h2 hr (hρ x) (hρ y)
      rw [h3, Pu_some]; exact hK _ h4
    | false =>
      rw [hh] at hk
      obtain ⟨z, h1, h2⟩ := xBin_ok hk
      refine pure1 h1 fun {H0 m H ρv K} hr hρ hK => ?_
      obtain ⟨v, h3, h4⟩ := h2 (hρ x) (hρ y)
      rw [h3, Pu_some]; exact hK _ h4
  case unOp op T x =>
    obtain ⟨z, h1, h2⟩ := xUn_ok hk
    refine pure1 h1 fun {H0 m H ρv K} hr hρ hK => ?_
    obtain ⟨v, h3, h4⟩ := h2 (hρ x)
    rw [h3, Pu_some]; exact hK _ h4
  case convert s d x =>
    cases hst : strT P s d with
    | true =>
      rw [hst] at hk
      obtain ⟨z, h', h1, h2, h3⟩ := xBytesOf_ok hst hk
      refine ⟨z, h', h1, h2, fun {H0 m H ρv K} hr hρ hf => ?_⟩
      exact forX hr hf fun H' hr' hf' => h3 hr' (hρ x) hf'
    | false =>
    rw [hst] at hk
    simp only at hk ⊢
    cases hb : bytesT P s d with
    | true =>
      rw [hb] at hk
      obtain ⟨z, h1, h2⟩ := xStrOf_ok hk
      refine pure1 h1 fun {H0 m H ρv K} hr hρ hK => ?_
      obtain ⟨v, h3, h4⟩ := h2 hr (hρ x)
      rw [h3, Pu_some]; exact hK _ h4
    | false =>
      rw [hb] at hk
      obtain ⟨z, h1, h2⟩ := xConv_ok hk
      refine pure1 h1 fun {H0 m H ρv K} hr hρ hK => ?_
      obtain ⟨v, h3, h4⟩ := h2 (hρ x)
      rw [h3, Pu_some]; exact hK _ h4
  case fieldAddr S x f =>
    obtain ⟨z, h1, h2⟩ := xAddr_ok hk
    refine pure1 h1 fun {H0 m H ρv K} hr hρ hK => ?_
    obtain ⟨v, h3, h4⟩ := h2 (hρ x)
    rw [h3, Pu_some]; exact hK _ h4
  case field S x f =>
    obtain ⟨z, h1, h2⟩ := xField_ok hk
    refine pure1 h1 fun {H0 m H ρv K} hr hρ hK => ?_
    obtain ⟨v, h3, h4⟩ := h2 (hρ x)
    rw [h3, Pu_some]; exact hK _ h4
  case indexAddr T x i =>
    obtain ⟨z, h1, h2⟩ := xIdx_ok hk
    refine pure1 h1 fun {H0 m H ρv K} hr hρ hK => ?_
    obtain ⟨v, h3, h4⟩ := h2 (hρ x) (hρ i)
    rw [h3, Pu_some]; exact hK _ h4
  case index T x i =>
    obtain ⟨z, h1, h2⟩ := xIndex_ok hk
    refine pure1 h1 fun {H0 m H ρv K} hr hρ hK => ?_
    obtain ⟨v, h3, h4⟩ := h2 (hρ x) (hρ i)
    rw [h3, Pu_some]; exact hK _ h4
  case sliceToArrayPointer T x =>
    obtain ⟨z, h1, h2⟩ := xArr_ok hk
    refine pure1 h1 fun {H0 m H ρv K} hr hρ hK => ?_
    obtain ⟨v, h3, h4⟩ := h2 (hρ x)
    rw [h3, Pu_some]; exact hK _ h4
  case extract t i =>
    obtain ⟨z, h1, h2⟩ := xExtract_ok hk
    refine pure1 h1 fun {H0 m H ρv K} hr hρ hK => ?_
    obtain ⟨v, h3, h4⟩ := h2 (hρ t)
    rw [h3, Pu_some]; exact hK _ h4
  case nilCheck x =>
    obtain ⟨z, h1, h2⟩ := xNilCheck_ok hk
    refine pure1 h1 fun {H0 m H ρv K} hr hρ hK => ?_
    obtain ⟨v, h3, h4⟩ := h2 (hρ x)
    rw [h3, Pu_some]; exact hK _ h4
  case makeFunc fn first cap =>
    split at hk
    · rename_i f
      refine pure1 hk fun {H0 m H ρv K} hr hρ hK => hK _ ⟨_, _, rfl, ?_, ?_⟩
      · exact Vrels_map hρ first.toList
      · exact Vrels_map hρ cap.toList
    · cases hk
  case build T parts =>
    obtain ⟨z, h1, h2⟩ := xBuild_ok (fun z hz => look_ok he.z hz) hk
    refine pure1 h1 fun {H0 m H ρv K} hr hρ hK => ?_
    obtain ⟨v, h3, h4⟩ := h2 (Prels_map hρ parts.toList)
    unfold partsOf
    rw [h3, Pu_some]; exact hK _ h4
  case slice T x lo hi mx =>
    have hq : ∃ z, k z h = true ∧ ∀ {m vx vlo vhi vmx}, Vrel m (ρ x) vx → Orl m (lo.map ρ) vlo → Orl m (hi.map ρ) vhi → Orl m (mx.map ρ) vmx → ∃ v, sliceE P T vx vlo vhi vmx = some v ∧ Vrel m z v := by
      cases hsu : strU P T with
      | true => rw [hsu] at hk; exact xSliceS_ok hsu hk
      | false => rw [hsu] at hk; exact xSlice_ok hk
    obtain ⟨z, h1, h2⟩ := hq
    refine pure1 h1 fun {H0 m H ρv K} hr hρ hK => ?_
    obtain ⟨v, h3, h4⟩ := h2 (hρ x) (Orl_map hρ lo) (Orl_map hρ hi) (Orl_map hρ mx)
    rw [h3, Pu_some]; exact hK _ h4
  case load T a =>
    obtain ⟨z, h1, h2⟩ := xLoad_ok hk
    refine pure1 h1 fun {H0 m H ρv K} hr hρ hK => ?_
    obtain ⟨v, h3, h4⟩ := h2 hr (hρ a)
    rw [h3, Pu_some]; exact hK _ h4
  case store T a x =>
    obtain ⟨h', h1, h2, h3⟩ := xStore_ok hk
    refine ⟨_, h', h1, h2, fun {H0 m H ρv K} hr hρ hf => ?_⟩
    exact forX hr hf fun H' hr' hf' => h3 hr' (hρ a) (hρ x) fun H'' r1 r2 => hf' _ _ _ r1 r2 (unit_rel m)
  case box T x =>
    obtain ⟨z, h', h1, h2, h3⟩ := xBox_ok hk
    refine ⟨z, h', h1, h2, fun {H0 m H ρv K} hr hρ hf => ?_⟩
    exact forX hr hf fun H' hr' hf' => h3 hr' (hρ x) hf'
  case alloc T =>
    unfold allocZ at hk
    split at hk
    · rename_i ps hps
      split at hps
      · rename_i zv hz
        obtain ⟨z, h', h1, h2, h3⟩ := xBoxP_ok hk
        refine ⟨z, h', h1, h2, fun {H0 m H ρv K} hr hρ hf => ?_⟩
        obtain ⟨v, h4, h5⟩ := (look_ok he.z hz).ok hps
        refine forX hr hf fun H' hr' hf' => ?_
        rw [h4, Pu_some]
        exact h3 hr' (h5 m) hf'
      · cases hps
    · cases hk
  case buildSlice T n parts =>
    obtain ⟨z, h', h1, h2, h3⟩ := xNewS_ok (elemZ_ok he) hk
    refine ⟨z, h', h1, h2, fun {H0 m H ρv K} hr hρ hf => ?_⟩
    exact forX hr hf fun H' hr' hf' => h3 hr' (Prels_map hρ parts.toList) hf'
  case lookup T x key ok =>
    obtain ⟨z, h1, h2⟩ := xLookup_ok (P := P) (fun a b c z hm hz => by
      rw [hm] at hz
      exact look_ok he.z hz) hk
    refine pure1 h1 fun {H0 m H ρv K} hr hρ hK => ?_
    obtain ⟨v, h3, h4⟩ := h2 hr (hρ x) (hρ key)
    rw [h3, Pu_some]; exact hK _ h4
  case mapUpdate T m' key x =>
    cases hmw : mapW P T with
    | some kt =>
      rw [hmw] at hk
      obtain ⟨h', h1, h2, h3⟩ := xMapSetW_ok hk
      refine ⟨_, h', h1, h2, fun {H0 m H ρv K} hr hρ hf => ?_⟩
      exact forX hr hf fun H' hr' hf' => h3 hr' (hρ m') (hρ key) (hρ x) fun H'' r1 r2 => hf' _ _ _ r1 r2 (unit_rel m)
    | none =>
      rw [hmw] at hk
      obtain ⟨h', h1, h2, h3⟩ := xMapSet_ok hk
      refine ⟨_, h', h1, h2, fun {H0 m H ρv K} hr hρ hf => ?_⟩
      exact forX hr hf fun H' hr' hf' => h3 hr' (hρ m') (hρ key) (hρ x) fun H'' r1 r2 => hf' _ _ _ r1 r2 (unit_rel m)
  case insert T m' key x =>
    obtain ⟨h', h1, h2, h3⟩ := xMapSet_ok hk
    refine ⟨_, h', h1, h2, fun {H0 m H ρv K} hr hρ hf => ?_⟩
    exact forX hr hf fun H' hr' hf' => h3 hr' (hρ m') (hρ key) (hρ x) fun H'' r1 r2 => hf' _ _ _ r1 r2 (unit_rel m)
  case makeMap t r =>
    cases r with
    | some r => cases hk
    | none =>
      obtain ⟨z, h', h1, h2, h3⟩ := xNewMap_ok hk
      refine ⟨z, h', h1, h2, fun {H0 m H ρv K} hr hρ hf => ?_⟩
      exact forX hr hf fun H' hr' hf' => h3 hr' hf'
  case makeSlice T l c =>
    obtain ⟨z, h', h1, h2, h3⟩ := xMake_ok (elemZ_ok he) hk
    refine ⟨z, h', h1, h2, fun {H0 m H ρv K} hr hρ hf => ?_⟩
    exact forX hr hf fun H' hr' hf' => h3 hr' (hρ l) (hρ c) hf'
  case call c =>
    obtain ⟨callee, args, ats⟩ := c
    cases callee <;> simp only at hk ⊢ <;> try (cases hk; done)
    case builtin b =>
      obtain ⟨z, h', h1, h2, h3⟩ := xBuiltin_ok he hk
      exact ⟨z, h', h1, h2, fun {H0 m H ρv K} hr hρ hf => h3 hr hρ hf⟩
    case value x =>
      by_cases hx : ∃ f, x = .func f
      · obtain ⟨f, rfl⟩ := hx
        simp only at hk ⊢
        cases hq : (dr && qf f) with
        | true =>
          rw [hq] at hk
          cases q with
          | false => cases hk
          | true =>
            simp only at hk
            rw [ifX_eq] at hk
            split at hk
            · cases hk
            · rename_i hRB
              unfold xQuiet at hk
              split at hk
              · rename_i ex t n wp hl
                obtain ⟨h1, _⟩ := look_ok (Q := fun f ex => (Nat.ble RB f = false → enterB P f = true ∧ SimF P f ex) ∧ ∀ n, f = RB + n → SimRd P n ex) he.c hl
                obtain ⟨hen, hsim⟩ := h1 (eq_false_of_ne_true hRB)
                obtain ⟨z, h', h1, h2, h3⟩ := hsim _ _ _ hk
                split at h1
                · rename_i v hv
                  refine ⟨z, _, h1, rfl, fun {H0 m H ρv K} hr hρ hf => ?_⟩
                  rw [if_pos hen]
                  simp only [if_true]
                  refine ⟨v, fun H' hx => ?_, hf _ _ _ hr (Stp.refl _ _ _) (plainX_rel hv m)⟩
                  have hr' : Rel H0 m (.mk t n n) H' := by
                    have := hr.ext' hx
                    exact ⟨this.ext, this.len, this.new, this.obj, this.inj, this.low⟩
                  have := h3 (K := fun u H'' => u = v ∧ Ext H' H'') hr' (Vrels_map hρ args.toList) (fun m' H'' u r1 r2 r3 => ⟨plainX_ok hv r3, r2.kp.ext fun b hb hw => by
                    obtain ⟨i, e, hi, hge, _⟩ := hw
                    have hl2 : m.length = n := hr.len
                    simp only [CH.wp] at hge
                    rw [List.getElem?_eq_none (by omega)] at hi
                    cases hi⟩)
                  unfold opsA
                  exact this
                · cases h1
              · cases hk
        | false =>
          rw [hq] at hk
          simp only at hk
          obtain ⟨hen, z, h', h1, h2, h3⟩ := xCallF_ok he hk
          refine ⟨z, h', h1, h2, fun {H0 m H ρv K} hr hρ hf => ?_⟩
          rw [if_pos hen]
          simp only [Bool.false_eq_true, if_false]
          exact forX hr hf fun H' hr' hf' => h3 hr' (Vrels_map hρ args.toList) hf'
      · have hk' : xCallV C (ρ x) (opsX ρ args) h k = true := by
          cases x <;> first | exact hk | exact absurd ⟨_, rfl⟩ hx
        obtain ⟨z, h', h1, h2, h3⟩ := xCallV_ok he hk'
        refine ⟨z, h', h1, h2, fun {H0 m H ρv K} hr hρ hf => ?_⟩
        have hgoal : ForX q H fun H => CallV P (ρv x) (opsA ρv args) H K :=
          forX hr hf fun H' hr' hf' => h3 hr' (hρ x) (Vrels_map hρ args.toList) hf'
        cases x <;> first | exact hgoal | exact absurd ⟨_, rfl⟩ hx
end Go.Xc
