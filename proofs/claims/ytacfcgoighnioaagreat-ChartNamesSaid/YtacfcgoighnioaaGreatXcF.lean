/- Xc, part F: append. -/
import Derived.Test.YtacfcgoighnioaaGreatXcE
set_option linter.unusedVariables false
set_option linter.unusedSectionVars false
set_option linter.unusedSimpArgs false
namespace Go.Xc
open Go.Vc
variable [Sites]

/-- A slice's block, first cell, length. -/
def slOf : CV → Option (Nat × Nat × Nat)
  | .sl b o len _ => some (b, o, len)
  | .so b o len _ => some (b, o, len)
  | _ => none

structure View (m : M) (H : Hp) (T es0 L : Nat) (d : Option (List CV)) (t : Tr (List CV)) (b o len es : Nat) (vs : Value) : Prop where
  is : ∃ (e : Nat × Nat) (c : Array Value) (cap : Nat), m[b]? = some e ∧ H[e.1]? = some (.cells c T) ∧ c.size = e.2 ∧ L * es0 ≤ e.2 ∧ (∀ i, i < L → ∃ ps, elt t d i = some ps ∧ Crel m ps (c.extract (i * es0) (i * es0 + es0)).toList) ∧
    vs = .slice (some ⟨e.1, o, none⟩) len cap ∧ cellsS es vs H = some (c.extract o (o + len * es))

theorem view_of {H0 : Hp} {m : M} {h : CH} {H : Hp} {s : CV} {vs : Value} {b o len es T es0 L : Nat} {d : Option (List CV)} {t : Tr (List CV)} (hr : Rel H0 m h H) (hs : slOf s = some (b, o, len)) (hv : Vrel m s vs) (hg : h.get b = some (.row T es0 L d t))
    (hb : o + len * es ≤ L * es0) (hz : 0 < len ∨ o = 0) : View m H T es0 L d t b o len es vs := by
  obtain ⟨e, O, h1, h2, c, rfl, h3, h4, h5⟩ := hr.obj b _ hg
  have fin : ∀ cap, vs = .slice (some ⟨e.1, o, none⟩) len cap → View m H T es0 L d t b o len es vs := by
    intro cap hvs
    refine ⟨e, c, cap, h1, h2, h3, h4, h5, hvs, ?_⟩
    subst hvs
    show rowH H ⟨e.1, o, none⟩ (len * es) = _
    unfold rowH
    simp only [h2]
    rw [if_pos ⟨trivial, by omega⟩]
  cases s <;> simp only [slOf, Option.some.injEq, Prod.mk.injEq, reduceCtorEq] at hs
  · obtain ⟨rfl, rfl, rfl⟩ := hs
    obtain ⟨e', he, rfl⟩ := hv
    rw [h1] at he; injection he with he; subst he
    exact fin _ rfl
  · obtain ⟨rfl, rfl, rfl⟩ := hs
    obtain ⟨e', base, cp, he, rfl, _, _, hsp, hbl, hoff⟩ := hv
    rw [h1] at he; injection he with he; subst he
    obtain ⟨bb, bo, bs⟩ := base
    simp only at hsp hbl hoff
    have := hoff hz
    subst hsp hbl this
    exact fin _ rfl

/-- The elements that are appended. -/
noncomputable def xArgE (es : Nat) (x : CV) (h : CH) (k : List (List CV) → Bool) : Bool :=
  match x with
  | .nils => k []
  | x => (match slOf x with
    | some (b, o, n) => (match h.get b with
      | some (.row _ es2 L d t) => Bool.rec false (xElems t d n (o / es) k) (Nat.beq es2 es && Nat.beq (o / es * es) o && Nat.ble (o / es + n) L && (Nat.ble 1 n || Nat.beq o 0))
      | _ => false)
    | none => false)
theorem xArgE_ok {es : Nat} {x : CV} {h : CH} {k : List (List CV) → Bool} (hk : xArgE es x h k = true) : ∃ r, k r = true ∧ ∀ {H0 m H vx}, Rel H0 m h H → Vrel m x vx → ∃ new : Array Value, cellsS es vx H = some new ∧ lenS vx = r.length ∧ Elems m es r new.toList := by
  unfold xArgE at hk
  split at hk
  · refine ⟨[], hk, fun {H0 m H vx} hr hx => ?_⟩
    simp only [Vrel] at hx; subst hx
    exact ⟨#[], rfl, rfl, rfl⟩
  · split at hk
    · rename_i b o n hs
      split at hk
      · rename_i T es2 L d t hg
        cases hc : (Nat.beq es2 es && Nat.beq (o / es * es) o && Nat.ble (o / es + n) L && (Nat.ble 1 n || Nat.beq o 0)) with
        | false => rw [hc] at hk; cases hk
        | true =>
          rw [hc] at hk
          simp only [beq_dec, ble_dec, Bool.and_eq_true, Bool.or_eq_true, decide_eq_true_eq] at hc
          obtain ⟨⟨⟨c1, c2⟩, c3⟩, c4⟩ := hc
          subst c1
          obtain ⟨r, h1, h2, h3⟩ := xElems_ok hk
          refine ⟨r, h1, fun {H0 m H vx} hr hx => ?_⟩
          have hb := Nat.mul_le_mul_right es2 c3
          rw [Nat.add_mul, c2] at hb
          obtain ⟨e, c, cap, k1, k2, k3, k4, k5, rfl, k7⟩ := (view_of (es := es2) hr hs hx hg hb (by omega)).is
          refine ⟨_, k7, by simp [lenS, h2], ?_⟩
          have := h3 c3 (by omega) k5
          rw [c2] at this; exact this
      · cases hk
    · cases hk

/-- The end of an append: the block o' behind s. -/
noncomputable def xAppEnd (o' : CO) (s : CV) (len n es : Nat) (h : CH) (k : CV → CH → Bool) : Bool :=
  match s with
  | .nils => xNew o' h fun b h' => k (.so b 0 (len + n) es) h'
  | .sl _ _ _ cap => Bool.rec (xNew o' h fun b h' => k (.so b 0 (len + n) es) h') false (Nat.ble (len + n) cap)
  | .so b _ _ _ => xMove b o' h fun b' h' => k (.so b' 0 (len + n) es) h'
  | _ => false

theorem so_new {m : M} {b len es : Nat} {e : Nat × Nat} {c : Nat} (he : m[b]? = some e) (hc : len ≤ c) (hr : c * es ≤ e.2) : Vrel m (.so b 0 len es) (.slice (some ⟨e.1, 0, none⟩) len c) :=
  ⟨e, ⟨e.1, 0, none⟩, c, he, rfl, hc, by omega, rfl, rfl, fun _ => rfl⟩

/-- A slice as an append sees it: of len elements from cell 0 of its block on; 'whole': the block's known cells are just these. -/
structure Base (m : M) (H : Hp) (T es : Nat) (s : CV) (vs : Value) (len : Nat) (old : Array Value) : Prop where
  cells : cellsS es vs H = some old
  size : old.size = len * es
  is : s = .nils ∧ vs = .slice none 0 0 ∧ len = 0 ∨ (∃ b cap e, s = .sl b 0 len cap ∧ m[b]? = some e ∧ vs = .slice (some ⟨e.1, 0, none⟩) len cap) ∨
    (∃ (b cap : Nat) (e : Nat × Nat) (c : Array Value), s = .so b 0 len es ∧ m[b]? = some e ∧ vs = .slice (some ⟨e.1, 0, none⟩) len cap ∧ H[e.1]? = some (.cells c T) ∧ c.size = e.2 ∧ len ≤ cap ∧ cap * es ≤ e.2 ∧ old = c.extract 0 (len * es))

theorem xAppEnd_ok {o' : CO} {s : CV} {len n es : Nat} {h : CH} {k : CV → CH → Bool} (hk : xAppEnd o' s len n es h k = true) : ∃ z h', k z h' = true ∧ h'.wp = h.wp ∧
    ∀ {H0 m H vs vx} {K : Value → Hp → Prop} {e : ElemI} {old new : Array Value}, Rel H0 m h H → (∀ b, s = .so b 0 len es → ∃ o, h.get b = some o) → Base m H e.type es s vs len old → e.size = es → e.zero.size = es → cellsS es vx H = some new → lenS vx = n → new.size = n * es → cellsOk new → 0 < e.bytes → (len + n) * e.bytes ≤ 2 ^ 47 →
      (s = .nils → 0 < n) → Grown m e.type es o' old.toList new.toList → Fin H0 m h H z h' K → AppS (some e) vs vx H K := by
  have fresh : ∀ {len n : Nat}, (xNew o' h fun b h' => k (.so b 0 (len + n) es) h') = true → ∃ z h', k z h' = true ∧ h'.wp = h.wp ∧ ∀ {H0 m H} {K : Value → Hp → Prop} {T : Nat} {old new : Array Value} {c : Nat} {C : Array Value}, Rel H0 m h H → Grown m T es o' old.toList new.toList → old.size = len * es → new.size = n * es →
      len + n ≤ c → C.size = c * es → C.toList.take (old.toList.length + new.toList.length) = old.toList ++ new.toList → Fin H0 m h H z h' K → K (.slice (some ⟨H.size, 0, none⟩) (len + n) c) (H.push (.cells C T)) := by
    intro len n hk
    obtain ⟨h', hk', hwp, hnew⟩ := xNew_ok hk
    refine ⟨_, h', hk', hwp, fun {H0 m H K T old new c C} hr hg hol hnl hc hC hpre hf => ?_⟩
    have hm := Nat.mul_le_mul_right es hc
    rw [Nat.add_mul] at hm
    obtain ⟨h1, h2, h3⟩ := hnew hr (hg H.size C (by rw [Array.length_toList, Array.length_toList, hol, hnl, hC]; exact hm) hpre)
    exact hf _ _ _ h1 h2 (so_new h3 hc (by simp only; omega))
  unfold xAppEnd at hk
  split at hk
  · obtain ⟨z, h', h1, h2, h3⟩ := fresh hk
    refine ⟨z, h', h1, h2, fun {H0 m H vs vx K e old new} hr hal hb hes hez hcx hlx hnl hok hby hlim hn hg hf => ?_⟩
    rcases hb.is with ⟨_, rfl, rfl⟩ | ⟨_, _, _, h, _⟩ | ⟨_, _, _, _, h, _⟩
    · subst hes
      exact app_new (base := none) (cap := 0) rfl hlx hcx hb.cells hb.size hnl hby hlim hez (fun hle => by have := hn rfl; omega) (fun c C hc hC hpre => h3 hr hg hb.size hnl hc hC hpre hf)
    · cases h
    · cases h
  · rename_i b o l cap
    rw [ble_dec] at hk
    by_cases hcap : len + n ≤ cap
    · rw [decide_eq_true hcap] at hk; cases hk
    · rw [decide_eq_false hcap] at hk
      obtain ⟨z, h', h1, h2, h3⟩ := fresh hk
      refine ⟨z, h', h1, h2, fun {H0 m H vs vx K e old new} hr hal hb hes hez hcx hlx hnl hok hby hlim hn hg hf => ?_⟩
      rcases hb.is with ⟨h, _⟩ | ⟨b', cap', e', hs, _, rfl⟩ | ⟨_, _, _, _, h, _⟩
      · cases h
      · injection hs with _ _ _ h4
        subst h4 hes
        exact app_new rfl hlx hcx hb.cells hb.size hnl hby hlim hez (fun hle => absurd hle hcap) (fun c C hc hC hpre => h3 hr hg hb.size hnl hc hC hpre hf)
      · cases h
  · rename_i b o l es'
    obtain ⟨t, q, wp⟩ := h
    unfold xMove at hk
    simp only at hk
    rw [ble_dec] at hk
    by_cases hwb : wp ≤ b
    · rw [decide_eq_true hwb] at hk
      obtain ⟨t1, hk, k1, k2⟩ := Tr.setK_ok hk
      obtain ⟨t2, hk, k3, k4⟩ := Tr.setK_ok hk
      rw [forceN_eq] at hk
      refine ⟨_, _, hk, rfl, fun {H0 m H vs vx K e old new} hr hal hb hes hez hcx hlx hnl hok hby hlim hn hg hf => ?_⟩
      rcases hb.is with ⟨h, _⟩ | ⟨_, _, _, h, _⟩ | ⟨b', cap, e', c, hs, he, rfl, hc, hcs, hlc, hcap, rfl⟩
      · cases h
      · cases h
      · injection hs with hb1 hb2 hb3 hb4
        subst hb1 hb2 hb3 hb4 hes
        obtain ⟨ob, hob⟩ := hal b rfl
        have hr1 : Rel H0 m (.mk t1 q wp) H := hr.kill k1 k2
        have hne : ∀ k x (d : Nat × Nat), t1.get k = some x → m[k]? = some d → d.1 ≠ e'.1 := fun k x d hk hd hde => by
          have hkb : k ≠ b := fun e => by rw [e, k1] at hk; cases hk
          rw [k2 k hkb] at hk
          exact hkb (hr.inj k b x ob d e' hk hob hd he hde)
        have hol : (c.extract 0 (l * e.size)).toList.length = l * e.size := by rw [Array.length_toList, hb.size]
        refine app_new rfl hlx hcx hb.cells hb.size hnl hby hlim hez (fun hle => ⟨_, rfl, ?_⟩) (fun c2 C hc2 hC hpre => ?_)
        · have hm := Nat.mul_le_mul_right e.size hle
          rw [Nat.add_mul] at hm
          have hput : putH H ((⟨e'.1, 0, none⟩ : Addr).add (l * e.size)) new = some (H.setIfInBounds e'.1 (.cells (splice c (l * e.size) new) e.type)) := by
            rw [Addr.add_mk]
            unfold putH
            simp only [hc]
            rw [if_pos ⟨trivial, by show 0 + l * e.size + new.size ≤ c.size; omega, hok⟩, Nat.zero_add]
          rw [hput, Pu_some]
          have hsz : (splice c (l * e.size) new).size = c.size := splice_size (by omega)
          have hpre : (splice c (l * e.size) new).toList.take ((c.extract 0 (l * e.size)).toList.length + new.toList.length) = (c.extract 0 (l * e.size)).toList ++ new.toList := by
            show (c.toList.take (l * e.size) ++ (new.toList ++ c.toList.drop (l * e.size + new.size))).take _ = _
            rw [hol]
            have e1 : (c.extract 0 (l * e.size)).toList = c.toList.take (l * e.size) := by rw [Array.toList_extract, List.extract_eq_take_drop, Nat.sub_zero, List.drop_zero]
            rw [e1, ← List.append_assoc]
            have hlen : (c.toList.take (l * e.size) ++ new.toList).length = l * e.size + new.toList.length := by
              rw [List.length_append, List.length_take, Array.length_toList]; omega
            rw [List.take_left' hlen]
          have hor := hg e'.1 (splice c (l * e.size) new) (by rw [hol, Array.length_toList, hnl, hsz]; omega) hpre
          have hor' : Orel m e' o' (.cells (splice c (l * e.size) new) e.type) := by
            have : (e'.1, (splice c (l * e.size) new).size) = e' := by rw [hsz, hcs]
            rw [this] at hor; exact hor
          have hH1 := hr.new b e' he
          obtain ⟨r1, r2, r3⟩ := Rel.add hr1 k3 k4 (get_set_same (o := .cells (splice c (l * e.size) new) e.type) hc) hor' hH1 (by simp) (hr.ext.set hH1) (fun k x d hk hd => ⟨hne k x d hk hd, get_set_other fun h => hne k x d hk hd h.symm⟩)
          refine hf _ _ _ r1 ⟨r2, by simp, ⟨by simp, fun k hk hn => get_set_other fun h => hn ⟨b, e', he, hwb, h⟩⟩, fun k d hd => ?_⟩ (so_new r3 hle hcap)
          rw [List.getElem?_append] at hd
          split at hd
          · exact .inl hd
          · have : d = e' := by
              cases hkk : k - m.length with
              | zero => rw [hkk] at hd; simpa using hd.symm
              | succ j => rw [hkk] at hd; simp at hd
            subst this
            exact .inr (.inr ⟨b, d, he, hwb, rfl⟩)
        · have hm := Nat.mul_le_mul_right e.size hc2
          rw [Nat.add_mul] at hm
          have hor := hg H.size C (by rw [hol, Array.length_toList, hnl, hC]; exact hm) hpre
          obtain ⟨r1, r2, r3⟩ := Rel.add hr1 k3 k4 (get_push_new H _) hor hr.ext.le (Ext.push H _).le (hr.ext.trans (Ext.push H _)) (fun k x d hk hd => by
            obtain ⟨d', O', h4, h5, _⟩ := hr1.obj k x hk
            rw [hd] at h4; injection h4 with h4; subst h4
            have := Vc.lt_of_block h5
            exact ⟨by simp only; omega, (Ext.push H _).same _ this⟩)
          refine hf _ _ _ r1 ⟨r2, by simp, (Ext.push H _).kp _, fun k d hd => ?_⟩ (so_new r3 hc2 (by simp only; omega))
          rw [List.getElem?_append] at hd
          split at hd
          · exact .inl hd
          · have : d = (H.size, C.size) := by
              cases hkk : k - m.length with
              | zero => rw [hkk] at hd; simpa using hd.symm
              | succ j => rw [hkk] at hd; simp at hd
            subst this
            exact .inr (.inl (Nat.le_refl _))
    · rw [decide_eq_false hwb] at hk; cases hk
  · cases hk
end Go.Xc
