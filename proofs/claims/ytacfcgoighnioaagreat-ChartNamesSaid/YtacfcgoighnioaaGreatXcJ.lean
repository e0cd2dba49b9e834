/- Xc, part J: equality, copy, bytes of strings. -/
import Derived.Test.YtacfcgoighnioaaGreatXcI
set_option linter.unusedVariables false
set_option linter.unusedSectionVars false
set_option linter.unusedSimpArgs false
namespace Go.Xc
open Go.Vc
variable [Sites]

/-! ### Equality -/
inductive Sh
  | int | bool | str
  | bytes (n : Nat)
  | done
  | fld (off : Nat) (q : Option (Option Nat)) (s rest : Sh)

def partX (q : Option (Option Nat)) (ps : List CV) (off : Nat) : Option CV :=
  match q with
  | some none => getP ps off
  | some (some n) => (match splitP ps off with
    | some (_, b) => (match splitP b n with | some (c, _) => some (.agg c) | none => none)
    | none => none)
  | none => none
theorem partX_ok {q : Option (Option Nat)} {ps : List CV} {off : Nat} {z : CV} (h : partX q ps off = some z) {m : M} {c : Array Value} (hc : Crel m ps c.toList) : ∃ v, partE q c off = some v ∧ Vrel m z v := by
  unfold partX at h
  split at h
  · obtain ⟨u, h1, h2⟩ := getP_ok hc h
    exact ⟨u, by simpa [partE] using h1, h2⟩
  · rename_i n
    split at h
    · rename_i a b h1
      split at h
      · rename_i cc d h2
        injection h with h; subst h
        obtain ⟨l1, l2, l3, hl, e1, e2, _, r, _⟩ := split_mid hc h1 h2
        refine ⟨.agg (c.extract off (off + n)), rfl, _, rfl, ?_⟩
        rw [Array.toList_extract, hl, List.extract_eq_take_drop, show off + n - off = n by omega, ← e1, List.drop_left, ← e2, List.take_left]
        exact r
      · cases h
    · cases h
  · cases h

def eqSh : Sh → CV → CV → Option Bool
  | .int, .int q a, .int q' b => if q = q' then some (a == b) else none
  | .bool, .bool a, .bool b => some (a == b)
  | .str, .str a, .str b => some (a.toList == b.toList)
  | .bytes n, .agg [.bytes n1 x], .agg [.bytes n2 y] => if n1 = n ∧ n2 = n then some (Nat.beq (x % 2 ^ (8 * n)) (y % 2 ^ (8 * n))) else none
  | .done, .agg _, .agg _ => some true
  | .fld off q s rest, .agg ps, .agg qs => (match partX q ps off, partX q qs off with
    | some a, some b => (match eqSh s a b with
      | some true => eqSh rest (.agg ps) (.agg qs)
      | r => r)
    | _, _ => none)
  | _, _, _ => none

def fieldsSh (P : Program) (g : TypeId → Option Sh) : List Field → Option Sh
  | [] => some .done
  | f :: fs => if f.name = "_" then none else (match g f.type, fieldsSh P g fs with
    | some s, some r => some (.fld f.offset (ldK P f.type) s r)
    | _, _ => none)
def itemsSh (P : Program) (e : TypeId) (s : Sh) : List Nat → Sh
  | [] => .done
  | j :: l => .fld (j * P.cellsOf e) (ldK P e) s (itemsSh P e s l)
def u8Row (P : Program) (T e : TypeId) : Bool :=
  match P.underlying e with
  | some (.int .u8) => P.cellsOf e == 1 && (P.info? e).isSome && !(P.eqGuardType P.depth T)
  | _ => false
def shapeOf (P : Program) : Nat → TypeId → Option Sh
  | 0, _ => none
  | d + 1, T =>
    match P.underlying T with
    | some .bool => some .bool
    | some (.int _) => some .int
    | some .string => some .str
    | some (.struct fs) => if P.stoodInHeld T then none else fieldsSh P (shapeOf P d) fs.toList
    | some (.array n e) => (match u8Row P T e, d with
      | true, _ + 1 => some (.bytes n)
      | _, _ => if (P.info? e).isSome then (shapeOf P d e).map fun s => itemsSh P e s (List.range n) else none)
    | _ => none

theorem fields_ok {P : Program} {d : Nat} {g : TypeId → Option Sh} (ih : ∀ {T s x y r m vx vy}, g T = some s → eqSh s x y = some r → Vrel m x vx → Vrel m y vy → eqT P d T vx vy = some r) {m : M} {ps qs : List CV} {xs ys : Array Value} (hp : Crel m ps xs.toList) (hq : Crel m qs ys.toList) :
    ∀ {fs : List Field} {s : Sh} {r : Bool}, fieldsSh P g fs = some s → eqSh s (.agg ps) (.agg qs) = some r → eqAll (fun f : Field => if f.name = "_" then some true else (partE (ldK P f.type) xs f.offset).bind fun a => (partE (ldK P f.type) ys f.offset).bind fun b => eqT P d f.type a b) fs = some r
  | [], s, r, h, he => by
    simp only [fieldsSh, Option.some.injEq] at h
    subst h
    simpa [eqSh, eqAll] using he
  | f :: fs, s, r, h, he => by
    unfold fieldsSh at h
    split at h
    · cases h
    · rename_i hn
      split at h
      · rename_i s1 s2 h1 h2
        injection h with h; subst h
        simp only [eqSh] at he
        split at he
        · rename_i a b ha hb
          obtain ⟨va, e1, r1⟩ := partX_ok ha hp
          obtain ⟨vb, e2, r2⟩ := partX_ok hb hq
          unfold eqAll
          simp only [if_neg hn, e1, e2, Option.bind_some]
          split at he
          · rename_i h3
            rw [ih h1 h3 r1 r2]
            exact fields_ok ih hp hq h2 he
          · rename_i h3
            rw [ih h1 he r1 r2]
            cases r with
            | true => exact absurd he h3
            | false => rfl
        · cases he
      · cases h
theorem items_ok {P : Program} {d : Nat} {e : TypeId} {s : Sh} (ih : ∀ {x y r m vx vy}, eqSh s x y = some r → Vrel m x vx → Vrel m y vy → eqT P d e vx vy = some r) {m : M} {ps qs : List CV} {xs ys : Array Value} (hp : Crel m ps xs.toList) (hq : Crel m qs ys.toList) :
    ∀ {l : List Nat} {r : Bool}, eqSh (itemsSh P e s l) (.agg ps) (.agg qs) = some r → eqAll (fun j => (partE (ldK P e) xs (j * P.cellsOf e)).bind fun a => (partE (ldK P e) ys (j * P.cellsOf e)).bind fun b => eqT P d e a b) l = some r
  | [], r, he => by simpa [itemsSh, eqSh, eqAll] using he
  | j :: l, r, he => by
    simp only [itemsSh, eqSh] at he
    split at he
    · rename_i a b ha hb
      obtain ⟨va, e1, r1⟩ := partX_ok ha hp
      obtain ⟨vb, e2, r2⟩ := partX_ok hb hq
      unfold eqAll
      simp only [e1, e2, Option.bind_some]
      split at he
      · rename_i h3
        rw [ih h3 r1 r2]
        exact items_ok ih hp hq he
      · rename_i h3
        rw [ih he r1 r2]
        cases r with
        | true => exact absurd he h3
        | false => rfl
    · cases he

theorem eqSh_ok {P : Program} : ∀ {d : Nat} {T : TypeId} {s : Sh} {x y : CV} {r : Bool} {m : M} {vx vy : Value}, shapeOf P d T = some s → eqSh s x y = some r → Vrel m x vx → Vrel m y vy → eqT P d T vx vy = some r
  | 0, _, _, _, _, _, _, _, _, h, _, _, _ => by simp [shapeOf] at h
  | d + 1, T, s, x, y, r, m, vx, vy, h, he, hx, hy => by
    unfold shapeOf at h
    unfold eqT
    split at h
    · rename_i hu
      injection h with h; subst h
      cases x <;> cases y <;> simp only [eqSh] at he <;> try (cases he; done)
      simp only [Vrel] at hx hy; subst hx hy
      rw [hu]; exact he
    · rename_i q hu
      injection h with h; subst h
      cases x <;> cases y <;> simp only [eqSh] at he <;> try (cases he; done)
      simp only [Vrel] at hx hy; subst hx hy
      rw [hu]; exact he
    · rename_i hu
      injection h with h; subst h
      cases x <;> cases y <;> simp only [eqSh] at he <;> try (cases he; done)
      simp only [Vrel] at hx hy; subst hx hy
      rw [hu]; exact he
    · rename_i fs hu
      split at h
      · cases h
      · rename_i hst
        have hag : ∃ ps qs, x = .agg ps ∧ y = .agg qs := by
          cases hfs : fs.toList with
          | nil =>
            rw [hfs] at h
            simp only [fieldsSh, Option.some.injEq] at h
            subst h
            cases x <;> cases y <;> simp only [eqSh] at he <;> first | (cases he; done) | exact ⟨_, _, rfl, rfl⟩
          | cons f l =>
            rw [hfs] at h
            unfold fieldsSh at h
            split at h
            · cases h
            · split at h
              · injection h with h; subst h
                cases x <;> cases y <;> simp only [eqSh] at he <;> first | (cases he; done) | exact ⟨_, _, rfl, rfl⟩
              · cases h
        obtain ⟨ps, qs, rfl, rfl⟩ := hag
        obtain ⟨cx, rfl, hcx⟩ := hx
        obtain ⟨cy, rfl, hcy⟩ := hy
        rw [hu]
        simp only
        rw [if_neg hst]
        exact fields_ok (fun h1 h2 h3 h4 => eqSh_ok h1 h2 h3 h4) hcx hcy h he
    · rename_i n e hu
      split at h
      · rename_i d' hrow
        injection h with h; subst h
        unfold u8Row at hrow
        split at hrow
        · rename_i hue
          simp only [Bool.and_eq_true, Bool.not_eq_true', beq_iff_eq] at hrow
          obtain ⟨⟨h1, h2⟩, h3⟩ := hrow
          have hr : IntRow P T n .u8 := ⟨⟨e, hu, hue, h1, h2⟩, h3⟩
          have hb : ∃ n1 x1 n2 y1, x = .agg [.bytes n1 x1] ∧ y = .agg [.bytes n2 y1] ∧ n1 = n ∧ n2 = n ∧ r = Nat.beq (x1 % 2 ^ (8 * n)) (y1 % 2 ^ (8 * n)) := by
            unfold eqSh at he
            split at he <;> try (cases he; done)
            all_goals first | (rename_i hh _ _; cases hh; done) | (rename_i hh; cases hh; done) | skip
            all_goals (split at he <;> try (cases he; done))
            all_goals first | (rename_i hh hc; injection hh with hh; subst hh; injection he with he; exact ⟨_, _, _, _, rfl, rfl, hc.1, hc.2, he.symm⟩; done) | skip
            all_goals simp_all
          obtain ⟨n1, x1, n2, y1, rfl, rfl, rfl, hn2, rfl⟩ := hb
          subst hn2
          obtain ⟨cx, rfl, l1, hl1, hz1⟩ := hx
          obtain ⟨cy, rfl, l2, hl2, hz2⟩ := hy
          simp only [Crel] at hz1 hz2
          subst hz1 hz2
          rw [List.append_nil] at hl1 hl2
          have cell : ∀ (c : Array Value) (z : Nat), c.toList = bytesL n2 z → ∀ i, i < n2 → ∃ x, c[i]? = some (.int .u8 x) := fun c z hc i hi => by
            rw [← Array.getElem?_toList, hc]
            exact ⟨_, bytesL_get n2 z i hi⟩
          have hrow := eqT_row hr (cell cx x1 hl1) (cell cy y1 hl2) d'
          have : eqT P (d' + 2) T (.agg cx) (.agg cy) = some (Nat.beq (x1 % 2 ^ (8 * n2)) (y1 % 2 ^ (8 * n2))) := by
            rw [hrow]
            congr 1
            rw [beq_dec, decide_eq_decide]
            constructor
            · intro hall
              apply bytesL_inj
              rw [← hl1, ← hl2]
              apply List.ext_getElem?
              intro i
              rw [Array.getElem?_toList, Array.getElem?_toList]
              by_cases hi : i < n2
              · exact hall i (List.mem_range.2 hi)
              · have s1 : cx.size = n2 := by rw [← Array.length_toList, hl1, bytesL_len]
                have s2 : cy.size = n2 := by rw [← Array.length_toList, hl2, bytesL_len]
                rw [Array.getElem?_eq_none (by omega), Array.getElem?_eq_none (by omega)]
            · intro heq i hi
              have := bytesL_eq heq
              rw [← hl1, ← hl2] at this
              rw [← Array.getElem?_toList, ← Array.getElem?_toList, this]
          unfold eqT at this
          exact this
        · cases hrow
      · split at h
        · rename_i hin
          simp only [Option.map_eq_some_iff] at h
          obtain ⟨s', h1, rfl⟩ := h
          have hag : ∃ ps qs, x = .agg ps ∧ y = .agg qs := by
            cases hl : List.range n with
            | nil =>
              rw [hl] at he
              cases x <;> cases y <;> simp only [itemsSh, eqSh] at he <;> first | (cases he; done) | exact ⟨_, _, rfl, rfl⟩
            | cons j l =>
              rw [hl] at he
              cases x <;> cases y <;> simp only [itemsSh, eqSh] at he <;> first | (cases he; done) | exact ⟨_, _, rfl, rfl⟩
          obtain ⟨ps, qs, rfl, rfl⟩ := hag
          obtain ⟨cx, rfl, hcx⟩ := hx
          obtain ⟨cy, rfl, hcy⟩ := hy
          rw [hu]
          obtain ⟨i, hi⟩ := Option.isSome_iff_exists.1 hin
          simp only [hi, Option.bind_some]
          exact items_ok (fun h2 h3 h4 => eqSh_ok h1 h2 h3 h4) hcx hcy he
        · cases h
    · cases h

inductive EqS | ptr | agg (s : Sh)
def eqK (P : Program) (T : TypeId) : Option EqS :=
  match P.underlying T with
  | some (.pointer e) => (match P.info? e with | some i => if i.size ≠ 0 then some .ptr else none | none => none)
  | some (.struct _) => if P.eqGuardType P.depth T then none else (shapeOf P 10000 T).map .agg
  | some (.array _ _) => if P.eqGuardType P.depth T then none else (shapeOf P 10000 T).map .agg
  | _ => none
noncomputable def xAlive (h : CH) (b : Nat) (r : Bool) : Bool := match h.get b with | some (.row _ _ _ _ _) => r | _ => false
noncomputable def xEq (q : Option EqS) (op : BinOp) (x y : CV) (h : CH) (k : CV → Bool) : Bool :=
  match q, x, y with
  | some .ptr, .nilp, .nilp => outO (some true) op k
  | some .ptr, .nilp, .ptr _ _ => outO (some false) op k
  | some .ptr, .ptr _ _, .nilp => outO (some false) op k
  | some .ptr, .ptr a i, .ptr b j => xAlive h a (xAlive h b (outO (some (Nat.beq a b && Nat.beq i j)) op k))
  | some (.agg s), .agg ps, .agg qs => outO (eqSh s (.agg ps) (.agg qs)) op k
  | _, _, _ => false
theorem outO_ok {o : Option Bool} {op : BinOp} {k : CV → Bool} (h : outO o op k = true) : ∃ b r, o = some b ∧ k (.bool r) = true ∧ (op = .eql ∧ r = b ∨ op = .neq ∧ r = !b) := by
  unfold outO at h
  split at h
  · rw [outB_eq] at h; exact ⟨_, _, rfl, h, .inl ⟨rfl, rfl⟩⟩
  · rw [outB_eq] at h; exact ⟨_, _, rfl, h, .inr ⟨rfl, rfl⟩⟩
  · cases h
theorem xAlive_ok {h : CH} {b : Nat} {r : Bool} (hk : xAlive h b r = true) : r = true ∧ ∃ T es len d t, h.get b = some (.row T es len d t) := by
  unfold xAlive at hk
  split at hk
  · rename_i T es len d t hg; exact ⟨hk, _, _, _, _, _, hg⟩
  · cases hk
theorem xEq_ok {P : Program} {T : TypeId} {lit : Bool} {op : BinOp} {x y : CV} {h : CH} {k : CV → Bool} (hk : xEq (eqK P T) op x y h k = true) : ∃ z, k z = true ∧ ∀ {H0 m H vx vy}, Rel H0 m h H → Vrel m x vx → Vrel m y vy → ∃ v, eqXE P T lit op vx vy H = some v ∧ Vrel m z v := by
  have fin : ∀ {o : Option Bool}, outO o op k = true → ∃ z, k z = true ∧ ∀ {vx vy H m}, eqE P T lit vx vy H = o → ∃ v, eqXE P T lit op vx vy H = some v ∧ Vrel m z v := by
    intro o ho
    obtain ⟨b, r, rfl, h1, h2⟩ := outO_ok ho
    refine ⟨_, h1, fun {vx vy H m} he => ⟨.bool r, ?_, rfl⟩⟩
    rcases h2 with ⟨rfl, rfl⟩ | ⟨rfl, rfl⟩ <;> simp [eqXE, he]
  unfold xEq at hk
  have hptr : eqK P T = some .ptr → ∃ e i, P.underlying T = some (.pointer e) ∧ P.info? e = some i ∧ i.size ≠ 0 := by
    intro hq
    unfold eqK at hq
    split at hq
    · rename_i e hu
      split at hq
      · rename_i i hi
        split at hq
        · rename_i hs; exact ⟨e, i, hu, hi, hs⟩
        · cases hq
      · cases hq
    · split at hq
      · cases hq
      · simp at hq
    · split at hq
      · cases hq
      · simp at hq
    · cases hq
  split at hk
  · rename_i hq
    obtain ⟨e, i, hu, hi, hs⟩ := hptr hq
    obtain ⟨z, h1, h2⟩ := fin hk
    refine ⟨z, h1, fun {H0 m H vx vy} hr hx hy => h2 ?_⟩
    simp only [Vrel] at hx hy; subst hx hy
    simp [eqE, eqD, hu]
  · rename_i b j hq
    obtain ⟨e, i, hu, hi, hs⟩ := hptr hq
    obtain ⟨z, h1, h2⟩ := fin hk
    refine ⟨z, h1, fun {H0 m H vx vy} hr hx hy => h2 ?_⟩
    simp only [Vrel] at hx; subst hx
    obtain ⟨e', _, rfl⟩ := hy
    simp [eqE, eqD, hu]
  · rename_i b j hq
    obtain ⟨e, i, hu, hi, hs⟩ := hptr hq
    obtain ⟨z, h1, h2⟩ := fin hk
    refine ⟨z, h1, fun {H0 m H vx vy} hr hx hy => h2 ?_⟩
    simp only [Vrel] at hy; subst hy
    obtain ⟨e', _, rfl⟩ := hx
    simp [eqE, eqD, hu]
  · rename_i a ia b jb hq
    obtain ⟨e, i, hu, hi, hs⟩ := hptr hq
    obtain ⟨hk1, Ta, esa, la, da, ta, hga⟩ := xAlive_ok hk
    obtain ⟨hk2, Tb, esb, lb, db, tb, hgb⟩ := xAlive_ok hk1
    obtain ⟨z, h1, h2⟩ := fin hk2
    refine ⟨z, h1, fun {H0 m H vx vy} hr hx hy => h2 ?_⟩
    obtain ⟨ea, hea, rfl⟩ := hx
    obtain ⟨eb, heb, rfl⟩ := hy
    obtain ⟨e1, O1, k1, k2, c1, rfl, _⟩ := hr.obj a _ hga
    obtain ⟨e2, O2, k3, k4, c2, rfl, _⟩ := hr.obj b _ hgb
    rw [hea] at k1; injection k1 with k1; subst k1
    rw [heb] at k3; injection k3 with k3; subst k3
    have hsa : standsH H ⟨ea.1, ia, none⟩ = true := by simp [standsH, k2]
    have hsb : standsH H ⟨eb.1, jb, none⟩ = true := by simp [standsH, k4]
    simp only [eqE, eqD, hu, Vc.ptrEq, hi, beq_dec]
    by_cases hab : a = b ∧ ia = jb
    · obtain ⟨rfl, rfl⟩ := hab
      rw [hea] at heb; injection heb with heb; subst heb
      simp
    · have hne : ¬ ((⟨ea.1, ia, none⟩ : Addr) = ⟨eb.1, jb, none⟩) := by
        intro heq
        injection heq with q1 q2
        exact hab ⟨hr.inj a b _ _ ea eb hga hgb hea heb q1, q2⟩
      rw [if_neg hne]
      have : (decide (a = b) && decide (ia = jb)) = false := by
        rw [Bool.and_eq_false_iff]
        by_cases h1 : a = b
        · right; exact decide_eq_false fun h2 => hab ⟨h1, h2⟩
        · left; exact decide_eq_false h1
      rw [this]
      simp [hs, hsa, hsb]
  · rename_i s ps qs hq
    obtain ⟨b, r, hb, h1, h2⟩ := outO_ok hk
    refine ⟨_, h1, fun {H0 m H vx vy} hr hx hy => ⟨.bool r, ?_, rfl⟩⟩
    have he : eqE P T lit vx vy H = some b := by
      obtain ⟨cx, rfl, hcx⟩ := hx
      obtain ⟨cy, rfl, hcy⟩ := hy
      unfold eqK at hq
      split at hq
      · split at hq
        · split at hq <;> simp at hq
        · cases hq
      · rename_i fs hu
        split at hq
        · cases hq
        · rename_i hg
          simp only [Option.map_eq_some_iff, EqS.agg.injEq] at hq
          obtain ⟨s', hsh, rfl⟩ := hq
          unfold eqE eqD
          rw [hu]
          simp only
          rw [if_neg hg]
          exact eqSh_ok hsh hb ⟨cx, rfl, hcx⟩ ⟨cy, rfl, hcy⟩
      · rename_i n e hu
        split at hq
        · cases hq
        · rename_i hg
          simp only [Option.map_eq_some_iff, EqS.agg.injEq] at hq
          obtain ⟨s', hsh, rfl⟩ := hq
          unfold eqE eqD
          rw [hu]
          simp only
          rw [if_neg hg]
          exact eqSh_ok hsh hb ⟨cx, rfl, hcx⟩ ⟨cy, rfl, hcy⟩
      · cases hq
    rcases h2 with ⟨rfl, rfl⟩ | ⟨rfl, rfl⟩ <;> simp [eqXE, he]
  · cases hk

/-! ### copy -/
noncomputable def xCopy0 (q : Option (Nat × Nat × Nat × Bool)) (d s : CV) (h : CH) (k : CV → CH → Bool) : Bool :=
  match q, slOf d, slOf s with
  | some (_, es, _, _), some (b, o, dl), some (b2, o2, sl) => forceN (min sl dl) fun n => Bool.rec false (xRow h b2 o2 fun _ _ _ _ _ _ j ps => (match splitP ps j with
      | some (_, r) => (match splitP r n with
        | some (c, _) => forceP c fun c => xStore (some n) (.ptr b o) (.agg c) h fun h' => k (.int .i64 (.ofNat n)) h'
        | none => false)
      | none => false)) (Nat.beq es 1 && Nat.ble 1 n)
  | _, _, _ => false
theorem slOf_exact {m : M} {s : CV} {b o len : Nat} {vs : Value} (hs : slOf s = some (b, o, len)) (hv : Vrel m s vs) (hl : 0 < len) : ∃ (e : Nat × Nat) (cap : Nat), m[b]? = some e ∧ vs = .slice (some ⟨e.1, o, none⟩) len cap := by
  cases s <;> simp only [slOf, Option.some.injEq, Prod.mk.injEq, reduceCtorEq] at hs
  · obtain ⟨rfl, rfl, rfl⟩ := hs
    obtain ⟨e', he, rfl⟩ := hv
    exact ⟨e', _, he, rfl⟩
  · obtain ⟨rfl, rfl, rfl⟩ := hs
    obtain ⟨e', base, cp, he, rfl, _, _, hsp, hbl, hoff⟩ := hv
    obtain ⟨bb, bo, bs⟩ := base
    simp only at hsp hbl hoff
    have := hoff (.inl hl)
    subst hsp hbl this
    exact ⟨e', _, he, rfl⟩
theorem xCopy0_ok {P : Program} {S : TypeId} {d s : CV} {h : CH} {k : CV → CH → Bool} (hk : xCopy0 (appK P S) d s h k = true) : ∃ z h', k z h' = true ∧ h'.wp = h.wp ∧ ∀ {H0 m H vd vs} {K : Value → Hp → Prop}, Rel H0 m h H → Vrel m d vd → Vrel m s vs → Fin H0 m h H z h' K →
    Pu (copyE (elemI P S) vd vs H) fun y => K y.1 y.2 := by
  unfold xCopy0 at hk
  split at hk
  · rename_i T es by' u b o dl b2 o2 sl hq hd hs
    obtain ⟨e, he, hT, hes, hby, hez, hb0⟩ := appK_spec hq
    rw [forceN_eq] at hk
    obtain ⟨hc, hk1⟩ := rec_false hk
    clear hk
    simp only [beq_dec, ble_dec, Bool.and_eq_true, decide_eq_true_eq] at hc
    obtain ⟨rfl, hn1⟩ := hc
    obtain ⟨T2, es2, len2, d2, t2, i, j, ps, hk2, hg, hi, hps, ho⟩ := xRow_ok hk1
    clear hk1
    split at hk2
    · rename_i a r h1
      split at hk2
      · rename_i cc dd h2
        rw [forceP_eq] at hk2
        obtain ⟨h', hk3, hwp, hst⟩ := xStore_ok hk2
        refine ⟨_, h', hk3, hwp, fun {H0 m H vd vs K} hr hvd hvs hf => ?_⟩
        obtain ⟨ed, capd, hed, rfl⟩ := slOf_exact hd hvd (by omega)
        obtain ⟨es', caps, hes', rfl⟩ := slOf_exact hs hvs (by omega)
        obtain ⟨e', O, k1, k2, c, rfl, k3, k4, k5⟩ := hr.obj b2 _ hg
        rw [hes'] at k1; injection k1 with k1; subst k1
        obtain ⟨ps', h6, h7⟩ := k5 i hi
        rw [hps] at h6; injection h6 with h6; subst h6
        obtain ⟨hl, hb⟩ := ext_len k3 k4 hi
        obtain ⟨l1, l2, l3, hl', e1, e2, _, r2, _⟩ := split_mid h7 h1 h2
        have hlen : j + min sl dl ≤ es2 := by rw [← hl, hl']; simp; omega
        have hcs : (c.extract o2 (o2 + min sl dl)).toList = l2 := by
          have h8 : (c.extract o2 (o2 + min sl dl)).toList = ((c.extract (i * es2) (i * es2 + es2)).toList.drop j).take (min sl dl) := by
            rw [Array.toList_extract, Array.toList_extract, List.extract_eq_take_drop, List.extract_eq_take_drop, show o2 + min sl dl - o2 = min sl dl by omega, show i * es2 + es2 - i * es2 = es2 by omega, List.drop_take, List.drop_drop, List.take_take, ho, show min (min sl dl) (es2 - j) = min sl dl by omega]
          rw [h8, hl', ← e1, List.drop_left, ← e2, List.take_left]
        have hst' := hst (K := fun H' => K (.int .i64 (min sl dl : Nat)) H') hr ⟨ed, hed, rfl⟩ ⟨c.extract o2 (o2 + min sl dl), rfl, by rw [hcs]; exact r2⟩ (fun H' r1 r2 => hf _ _ _ r1 r2 rfl)
        obtain ⟨H', hput, hK⟩ := hst'
        have hsz : (c.extract o2 (o2 + min sl dl)).size = min sl dl := by rw [← Array.length_toList, hcs, e2]
        rw [he]
        have : copyE (some e) (.slice (some ⟨ed.1, o, none⟩) dl capd) (.slice (some ⟨es'.1, o2, none⟩) sl caps) H = some (.int .i64 (min sl dl : Nat), H') := by
          have hcn : cellsN e.size (min sl dl) (.slice (some ⟨es'.1, o2, none⟩) sl caps) H = some (c.extract o2 (o2 + min sl dl)) := by
            show rowH H ⟨es'.1, o2, none⟩ (min sl dl * e.size) = _
            unfold rowH
            simp only [k2, hes, Nat.mul_one]
            rw [if_pos ⟨trivial, by omega⟩]
          unfold copyE
          simp only [lenX, Option.bind_some, hcn]
          have hp : putH H ⟨ed.1, o, none⟩ (c.extract o2 (o2 + min sl dl)) = some H' := by
            have := hput
            unfold storeE at this
            simp only [Value.cells, hsz, if_true] at this
            exact this
          rw [hp]; rfl
        rw [this, Pu_some]
        exact hK
      · cases hk2
    · cases hk2
  · cases hk

/-- copy out of bytes that are not written. -/
noncomputable def xCopyZ (q : Option (Nat × Nat × Nat × Bool)) (d : CV) (o2 sl N y : Nat) (h : CH) (k : CV → CH → Bool) : Bool :=
  match q, slOf d with
  | some (_, es, _, _), some (b, o, dl) => forceN (min sl dl) fun n => Bool.rec false (match splitP [.bytes N y] o2 with
      | some (_, r) => (match splitP r n with
        | some (c, _) => forceP c fun c => xStore (some n) (.ptr b o) (.agg c) h fun h' => k (.int .i64 (.ofNat n)) h'
        | none => false)
      | none => false) (Nat.beq es 1 && Nat.ble 1 n)
  | _, _ => false
noncomputable def xCopy (q : Option (Nat × Nat × Nat × Bool)) (d s : CV) (h : CH) (k : CV → CH → Bool) : Bool :=
  match slOf s with
  | some (b2, o2, sl) => (match h.get b2 with
    | some (.fz _ N y) => xCopyZ q d o2 sl N y h k
    | _ => xCopy0 q d s h k)
  | _ => xCopy0 q d s h k
theorem xCopyZ_ok {P : Program} {S T2 : TypeId} {d s : CV} {b2 o2 sl N y' : Nat} {h : CH} {k : CV → CH → Bool} (hs : slOf s = some (b2, o2, sl)) (hg : h.get b2 = some (.fz T2 N y')) (hk : xCopyZ (appK P S) d o2 sl N y' h k = true) : ∃ z h', k z h' = true ∧ h'.wp = h.wp ∧ ∀ {H0 m H vd vs} {K : Value → Hp → Prop}, Rel H0 m h H → Vrel m d vd → Vrel m s vs → Fin H0 m h H z h' K →
    Pu (copyE (elemI P S) vd vs H) fun y => K y.1 y.2 := by
  unfold xCopyZ at hk
  split at hk
  · rename_i T es by' u b o dl hq hd
    obtain ⟨e, he, hT, hes, hby, hez, hb0⟩ := appK_spec hq
    rw [forceN_eq] at hk
    obtain ⟨hc, hk2⟩ := rec_false hk
    clear hk
    simp only [beq_dec, ble_dec, Bool.and_eq_true, decide_eq_true_eq] at hc
    obtain ⟨rfl, hn1⟩ := hc
    split at hk2
    · rename_i a r h1
      split at hk2
      · rename_i cc dd h2
        rw [forceP_eq] at hk2
        obtain ⟨h', hk3, hwp, hst⟩ := xStore_ok hk2
        refine ⟨_, h', hk3, hwp, fun {H0 m H vd vs K} hr hvd hvs hf => ?_⟩
        obtain ⟨ed, capd, hed, rfl⟩ := slOf_exact hd hvd (by omega)
        obtain ⟨es', caps, hes', rfl⟩ := slOf_exact hs hvs (by omega)
        obtain ⟨e', O, k1, k2, c, T0, z, rfl, k3, k4, k5⟩ := hr.obj b2 _ hg
        rw [hes'] at k1; injection k1 with k1; subst k1
        have h7 : Crel m [.bytes N y'] (bytesL N y') := ⟨[], by simp, rfl⟩
        obtain ⟨l1, l2, l3, hl', e1, e2, _, r2, _⟩ := split_mid h7 h1 h2
        have hN : (bytesL N y').length = N := by rw [← k5]; simp; omega
        have hlen : o2 + min sl dl ≤ N := by rw [← hN, hl']; simp; omega
        have hcs : (c.extract o2 (o2 + min sl dl)).toList = l2 := by
          have h8 : (c.extract o2 (o2 + min sl dl)).toList = ((c.extract 0 N).toList.drop o2).take (min sl dl) := by
            rw [Array.toList_extract, Array.toList_extract, List.extract_eq_take_drop, List.extract_eq_take_drop, show o2 + min sl dl - o2 = min sl dl by omega, List.drop_zero, Nat.sub_zero, List.drop_take, List.take_take, show min (min sl dl) (N - o2) = min sl dl by omega]
          rw [h8, k5, hl', ← e1, List.drop_left, ← e2, List.take_left]
        have hst' := hst (K := fun H' => K (.int .i64 (min sl dl : Nat)) H') hr ⟨ed, hed, rfl⟩ ⟨c.extract o2 (o2 + min sl dl), rfl, by rw [hcs]; exact r2⟩ (fun H' r1 r2 => hf _ _ _ r1 r2 rfl)
        obtain ⟨H', hput, hK⟩ := hst'
        have hsz : (c.extract o2 (o2 + min sl dl)).size = min sl dl := by rw [← Array.length_toList, hcs, e2]
        rw [he]
        have : copyE (some e) (.slice (some ⟨ed.1, o, none⟩) dl capd) (.slice (some ⟨es'.1, o2, none⟩) sl caps) H = some (.int .i64 (min sl dl : Nat), H') := by
          have hcn : cellsN e.size (min sl dl) (.slice (some ⟨es'.1, o2, none⟩) sl caps) H = some (c.extract o2 (o2 + min sl dl)) := by
            show rowH H ⟨es'.1, o2, none⟩ (min sl dl * e.size) = _
            unfold rowH
            simp only [k2, hes, Nat.mul_one]
            rw [if_pos ⟨trivial, by omega⟩]
          unfold copyE
          simp only [lenX, Option.bind_some, hcn]
          have hp : putH H ⟨ed.1, o, none⟩ (c.extract o2 (o2 + min sl dl)) = some H' := by
            have := hput
            unfold storeE at this
            simp only [Value.cells, hsz, if_true] at this
            exact this
          rw [hp]; rfl
        rw [this, Pu_some]
        exact hK
      · cases hk2
    · cases hk2
  · cases hk
theorem xCopy_ok {P : Program} {S : TypeId} {d s : CV} {h : CH} {k : CV → CH → Bool} (hk : xCopy (appK P S) d s h k = true) : ∃ z h', k z h' = true ∧ h'.wp = h.wp ∧ ∀ {H0 m H vd vs} {K : Value → Hp → Prop}, Rel H0 m h H → Vrel m d vd → Vrel m s vs → Fin H0 m h H z h' K →
    Pu (copyE (elemI P S) vd vs H) fun y => K y.1 y.2 := by
  unfold xCopy at hk
  split at hk
  · rename_i b2 o2 sl hs
    split at hk
    · rename_i T2 N y hg
      exact xCopyZ_ok hs hg hk
    · exact xCopy0_ok hk
  · exact xCopy0_ok hk

/-! ### clear of a slice of bytes -/
noncomputable def xClr (q : Option (Nat × Nat × Nat × Bool)) (zs : Option (List CV)) (s : CV) (h : CH) (k : CH → Bool) : Bool :=
  match q, zs, slOf s with
  | some (_, es, _, _), some [.bytes w x], some (b, o, n) => Bool.rec false (xStore (some n) (.ptr b o) (.agg [.bytes n 0]) h k) (Nat.beq es 1 && Nat.beq w 1 && Nat.beq x 0 && Nat.ble 1 n)
  | _, _, _ => false
theorem xClr_ok {P : Program} {S : TypeId} {zs : Option (List CV)} {s : CV} {h : CH} {k : CH → Bool} (hz : ∀ e z, elemI P S = some e → zs = some z → ZeroOk P e.type z) (hk : xClr (appK P S) zs s h k = true) : ∃ h', k h' = true ∧ h'.wp = h.wp ∧ ∀ {H0 m H vs} {K : Hp → Prop}, Rel H0 m h H → Vrel m s vs → (∀ H', Rel H0 m h' H' → Stp h.wp m H m H' → K H') →
    Pu (clrE (elemI P S) vs H) K := by
  unfold xClr at hk
  split at hk
  · rename_i T es by' u w x b o n hq hs
    obtain ⟨e, he, hT, hes, hby, hez, hb0⟩ := appK_spec hq
    obtain ⟨hc, hk1⟩ := rec_false hk
    clear hk
    simp only [beq_dec, ble_dec, Bool.and_eq_true, decide_eq_true_eq] at hc
    obtain ⟨⟨⟨rfl, rfl⟩, rfl⟩, hn⟩ := hc
    obtain ⟨h', hk3, hwp, hst⟩ := xStore_ok hk1
    refine ⟨h', hk3, hwp, fun {H0 m H vs K} hr hvs hf => ?_⟩
    obtain ⟨ed, cap, hed, rfl⟩ := slOf_exact hs hvs hn
    have hzc : Crel m [.bytes n 0] (zl e.zero n).toList := bytes_zero (zero_elem he (hz e _ he rfl) m) n
    have hlen : (zl e.zero n).size = n := by rw [← Array.length_toList, zl_len, hez, Nat.mul_one]
    obtain ⟨H', hput, hK⟩ := hst (K := K) hr ⟨ed, hed, rfl⟩ ⟨zl e.zero n, rfl, hzc⟩ hf
    rw [he]
    have : clrE (some e) (.slice (some ⟨ed.1, o, none⟩) n cap) H = some H' := by
      obtain ⟨n', rfl⟩ : ∃ n', n = n' + 1 := ⟨n - 1, by omega⟩
      unfold clrE
      simp only
      have h2 := hput
      unfold storeE at h2
      simp only [Value.cells, hlen, if_true] at h2
      exact h2
    rw [this, Pu_some]; exact hK
  · cases hk

/-! ### Bytes as a string -/
def bytesU : Nat → Nat → List UInt8
  | 0, _ => []
  | n + 1, x => UInt8.ofNat (x % 256) :: bytesU n (x / 256)
theorem bytesU_nums : ∀ (n x : Nat), u8s (bytesL n x) = some ((bytesU n x).map fun b => ((b.toNat : Nat) : Int))
  | 0, x => rfl
  | n + 1, x => by
    simp only [bytesL, u8s, bytesU_nums n, Option.map_some, bytesU, List.map_cons]
    congr 2
    have : x % 256 < 256 := Nat.mod_lt _ (by decide)
    simp [UInt8.toNat_ofNat, Nat.mod_eq_of_lt this]
theorem strOf_bytes (l : List UInt8) : strOfNums (l.map fun b => ((b.toNat : Nat) : Int)) = ⟨l.toArray⟩ := by
  unfold strOfNums
  congr 2
  rw [List.map_map]
  conv => rhs; rw [← List.map_id l]
  apply List.map_congr_left
  intro b _
  simp
noncomputable def xStrOf (s : CV) (h : CH) (k : CV → Bool) : Bool :=
  match s with
  | .nils => k (.str ByteArray.empty)
  | s => (match slOf s with
    | some (b, o, n) => Bool.rec false (xRow h b o fun _ _ _ _ _ _ j ps => (match splitP ps j with
      | some (_, r) => (match splitP r n with
        | some ([.bytes n' x], _) => forceN n' fun n' => forceN x fun x => k (.str ⟨(bytesU n' x).toArray⟩)
        | _ => false)
      | none => false)) (Nat.ble 1 n)
    | none => false)
theorem xStrOf_ok {s : CV} {h : CH} {k : CV → Bool} (hk : xStrOf s h k = true) : ∃ z, k z = true ∧ ∀ {H0 m H vs}, Rel H0 m h H → Vrel m s vs → ∃ v, strOfE vs H = some v ∧ Vrel m z v := by
  have main : (match slOf s with
    | some (b, o, n) => Bool.rec false (xRow h b o fun _ _ _ _ _ _ j ps => (match splitP ps j with
      | some (_, r) => (match splitP r n with
        | some ([.bytes n' x], _) => forceN n' fun n' => forceN x fun x => k (.str ⟨(bytesU n' x).toArray⟩)
        | _ => false)
      | none => false)) (Nat.ble 1 n)
    | none => false) = true → ∃ z, k z = true ∧ ∀ {H0 m H vs}, Rel H0 m h H → Vrel m s vs → ∃ v, strOfE vs H = some v ∧ Vrel m z v := by
    intro hk
    split at hk
    · rename_i b2 o2 n hs
      obtain ⟨hc, hk1⟩ := rec_false hk
      simp only [ble_dec, decide_eq_true_eq] at hc
      obtain ⟨T2, es2, len2, d2, t2, i, j, ps, hk2, hg, hi, hps, ho⟩ := xRow_ok hk1
      clear hk1
      split at hk2
      · rename_i a r h1
        split at hk2
        · rename_i n' x dd h2
          rw [forceN_eq, forceN_eq] at hk2
          refine ⟨_, hk2, fun {H0 m H vs} hr hvs => ?_⟩
          obtain ⟨es', caps, hes', rfl⟩ := slOf_exact hs hvs (by omega)
          obtain ⟨e', O, k1, k2, c, rfl, k3, k4, k5⟩ := hr.obj b2 _ hg
          rw [hes'] at k1; injection k1 with k1; subst k1
          obtain ⟨ps', h6, h7⟩ := k5 i hi
          rw [hps] at h6; injection h6 with h6; subst h6
          obtain ⟨hl, hb⟩ := ext_len k3 k4 hi
          obtain ⟨l1, l2, l3, hl', e1, e2, _, r2, _⟩ := split_mid h7 h1 h2
          have hlen : j + n ≤ es2 := by rw [← hl, hl']; simp; omega
          have hcs : (c.extract o2 (o2 + n)).toList = l2 := by
            have h8 : (c.extract o2 (o2 + n)).toList = ((c.extract (i * es2) (i * es2 + es2)).toList.drop j).take n := by
              rw [Array.toList_extract, Array.toList_extract, List.extract_eq_take_drop, List.extract_eq_take_drop, show o2 + n - o2 = n by omega, show i * es2 + es2 - i * es2 = es2 by omega, List.drop_take, List.drop_drop, List.take_take, ho, show min n (es2 - j) = n by omega]
            rw [h8, hl', ← e1, List.drop_left, ← e2, List.take_left]
          obtain ⟨l4, r3, r4⟩ := r2
          simp only [Crel] at r4
          subst r4
          rw [List.append_nil] at r3
          refine ⟨.string ⟨(bytesU n' x).toArray⟩, ?_, rfl⟩
          have hrow : rowH H ⟨es'.1, o2, none⟩ n = some (c.extract o2 (o2 + n)) := by
            unfold rowH
            simp only [k2]
            rw [if_pos ⟨trivial, by omega⟩]
          unfold strOfE
          simp only [hrow, Option.bind_some, hcs, r3, bytesU_nums, Option.map_some, strOf_bytes]
        · cases hk2
      · cases hk2
    · cases hk
  unfold xStrOf at hk
  split at hk
  · refine ⟨_, hk, fun {H0 m H vs} hr hvs => ?_⟩
    simp only [Vrel] at hvs; subst hvs
    exact ⟨_, rfl, rfl⟩
  · exact main hk

/-! ### A string as bytes -/
def packB : List UInt8 → Nat
  | [] => 0
  | b :: l => b.toNat + 256 * packB l
theorem packB_ok : ∀ (l : List UInt8), bytesL l.length (packB l) = l.map fun b => Value.int .u8 (b.toNat : Int)
  | [] => rfl
  | b :: l => by
    have hb : b.toNat < 256 := b.toNat_lt
    simp only [List.length_cons, bytesL, packB, List.map_cons]
    rw [show (b.toNat + 256 * packB l) % 256 = b.toNat by omega, show (b.toNat + 256 * packB l) / 256 = packB l by omega, packB_ok l]
def isStr (d : Option TypeDesc) : Bool := match d with | some .string => true | _ => false
noncomputable def xBytesOf (u : Bool) (q : Option (Nat × Nat × Nat × Bool)) (x : CV) (h : CH) (k : CV → CH → Bool) : Bool :=
  match u, q, x with
  | true, some (T, _, _, _), .str s => forceN s.data.toList.length fun n => forceN (packB s.data.toList) fun y => xNew (.fz T n y) h fun b h' => k (.so b 0 n 1) h'
  | false, some (T, _, _, _), .sl b o n c => (match h.get b with
    | some (.row T2 es len d t) => (match elt t d 0 with
      | some [.bytes n' y] => Bool.rec false (xSet b (.fz T2 n' y) h fun h' => k (.sl b o n c) h') (Nat.beq n' es && Nat.ble 1 len)
      | _ => false)
    | _ => false)
  | _, _, _ => false
theorem xBytesOf_ok {P : Program} {S D : TypeId} {x : CV} {h : CH} {k : CV → CH → Bool} (hst : strT P S D = true) (hk : xBytesOf (isStr (P.underlying S)) (appK P D) x h k = true) :
    ∃ z h', k z h' = true ∧ h'.wp = h.wp ∧ ∀ {H0 m H vx} {K : Value → Hp → Prop}, Rel H0 m h H → Vrel m x vx → Fin H0 m h H z h' K → BytesS P S D vx H K := by
  unfold xBytesOf at hk
  split at hk
  · rename_i T es by' u s hu1 hq
    obtain ⟨e, he, hT, _⟩ := appK_spec hq
    obtain ⟨hu, _⟩ := elemI_spec he
    rw [forceN_eq, forceN_eq] at hk
    obtain ⟨h', hk2, hwp, hnew⟩ := xNew_ok hk
    refine ⟨_, h', hk2, hwp, fun {H0 m H vx K} hr hx hf => ?_⟩
    simp only [Vrel] at hx
    subst hx
    unfold strT at hst
    unfold BytesS
    rw [hu] at hst ⊢
    split at hst
    · rename_i e2 hs hd
      injection hd with hd
      rw [hs]
      simp only
      intro cap fz hcap
      have hsz : s.size = s.data.toList.length := Array.length_toList.symm
      have hrow : (bytesRow s cap).size = cap := by
        unfold bytesRow
        have : s.data.size = s.size := rfl
        rw [Array.size_append, Array.size_map, Array.size_replicate]; omega
      obtain ⟨r1, r2, r3⟩ := hnew (O := .cells (bytesRow s cap) e.type fz) (z := cap) hr (by
        refine ⟨bytesRow s cap, _, fz, rfl, hrow, by simp only; omega, ?_⟩
        rw [packB_ok]
        unfold bytesRow
        rw [Array.toList_extract, List.extract_eq_take_drop, Array.toList_append, Array.toList_map]
        simp only [Nat.sub_zero, List.drop_zero]
        exact List.take_left' (by rw [List.length_map]))
      refine hf _ _ _ r1 r2 ?_
      rw [← hsz]
      exact ⟨_, ⟨H.size, 0, none⟩, cap, r3, rfl, hcap, by simp, rfl, rfl, fun _ => rfl⟩
    · rename_i e2 e3 hs hd
      rw [hs] at hu1; cases hu1
    · cases hst
  · rename_i T es by' u b o n cp hu1 hq
    obtain ⟨e, he, hT, _⟩ := appK_spec hq
    obtain ⟨hu, _⟩ := elemI_spec he
    split at hk <;> try (cases hk; done)
    rename_i T2 es2 len2 d2 t2 hg
    split at hk <;> try (cases hk; done)
    rename_i n' y hel
    obtain ⟨hc, hk1⟩ := rec_false hk
    clear hk
    simp only [beq_dec, ble_dec, Bool.and_eq_true, decide_eq_true_eq] at hc
    obtain ⟨rfl, hl⟩ := hc
    obtain ⟨h', hk2, hwp, hset⟩ := xSet_ok hk1
    refine ⟨_, h', hk2, hwp, fun {H0 m H vx K} hr hx hf => ?_⟩
    obtain ⟨e1, O, k1, k2, c, rfl, k3, k4, k5⟩ := hr.obj b _ hg
    obtain ⟨e', he', rfl⟩ := hx
    rw [he'] at k1; injection k1 with k1; subst k1
    obtain ⟨ps, h6, h7⟩ := k5 0 (by omega)
    rw [hel] at h6; injection h6 with h6; subst h6
    obtain ⟨rest, h8, h9⟩ := h7
    simp only [Crel] at h9; subst h9
    rw [List.append_nil] at h8
    have hmul : n' ≤ len2 * n' := Nat.le_mul_of_pos_left n' (by omega)
    unfold strT at hst
    unfold BytesS
    rw [hu] at hst ⊢
    split at hst
    · rename_i e2 hs hd
      rw [hs] at hu1; cases hu1
    · rename_i e2 e3 hs hd
      rw [hs]
      simp only [k2]
      intro fz
      obtain ⟨r1, r2⟩ := hset (O := .cells c T2 fz) hr hg he' ⟨c, _, fz, rfl, k3, by omega, by simpa using h8⟩
      exact hf _ _ _ r1 r2 ⟨e', he', rfl⟩
    · cases hst
  · cases hk
end Go.Xc
