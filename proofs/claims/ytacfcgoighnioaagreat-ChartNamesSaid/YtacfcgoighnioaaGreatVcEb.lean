/- Vc, part E, behind: maps whose keys are numbers, strings or bools; copy; make of a slice. -/
import Derived.Laws.BytesArg
import Derived.Laws.IdiomStrings
import Derived.DeepKeys3
import Derived.Test.YtacfcgoighnioaaGreatVcE
import Derived.Test.YtacfcgoighnioaaGreatVcDb
set_option linter.unusedVariables false
set_option linter.unusedSimpArgs false
namespace Go.Vc

def plainK (td : Option TypeDesc) : Option TypeDesc :=
  match td with
  | some (.int k) => some (.int k)
  | some .string => some .string
  | some .bool => some .bool
  | _ => none
/-- A map's kind of key (a plain one) and type of element. -/
def mapI (P : Program) (T : TypeId) : Option (TypeId × TypeDesc × TypeId) :=
  match P.underlying T with
  | some (.map kt et) => (plainK (P.underlying kt)).map fun kd => (kt, kd, et)
  | _ => none
def mapH (H : Hp) (r : Nat) : Option (Array MapEntry × Nat) := match H[r]? with | some (.map es c) => some (es, c) | _ => none
def entsH (x : Value) (H : Hp) : Option (Array MapEntry) :=
  match x with
  | .map none => some #[]
  | .map (some r) => (mapH H r).map (·.1)
  | _ => none
def mkOk (ok : Bool) (v : Value) (b : Bool) : Value := if ok then .tuple #[v, .bool b] else v
def lookupE (P : Program) (mi : Option (TypeId × TypeDesc × TypeId)) (ok : Bool) (x k : Value) (H : Hp) : Option Value :=
  match mi with
  | some (_, kd, et) => (entsH x H).bind fun es => (Instr.findNow kd k es.toList 0).bind fun r => match r with
    | some (_, v) => some (mkOk ok v true)
    | none => (zeroE P et).map fun z => mkOk ok z false
  | none => none
def mapSetE (mi : Option (TypeId × TypeDesc × TypeId)) (x k v : Value) (H : Hp) : Option Hp :=
  match mi, x with
  | some (_, kd, _), .map (some r) => (mapH H r).bind fun (es, c) => (Instr.findNow kd k es.toList 0).map fun f => match f with
    | some (i, _) => H.setIfInBounds r (.map (es.modify i fun e => { e with key := k, val := v }) c)
    | none => H.setIfInBounds r (.map (es.push { key := k, val := v, born := c }) (c + 1))
  | _, _ => none
def delO (es : Array MapEntry) (c : Nat) : Option (Nat × Value) → Obj
  | some (i, _) => .map (es.eraseIdxIfInBounds i) c
  | none => .map es c
def mapDelE (mi : Option (TypeId × TypeDesc × TypeId)) (x k : Value) (H : Hp) : Option Hp :=
  match mi, x with
  | some (_, kd, _), .map (some r) => (mapH H r).bind fun (es, c) => (Instr.findNow kd k es.toList 0).map fun f => H.setIfInBounds r (delO es c f)
  | _, _ => none
def mapClrE (x : Value) (H : Hp) : Option Hp :=
  match x with
  | .map none => some H
  | .map (some r) => (mapH H r).map fun (_, c) => H.setIfInBounds r (.map #[] c)
  | _ => none
def mapLenE (x : Value) (H : Hp) : Option Value := (entsH x H).map fun es => .int .i64 es.size

section
variable {P : Program} {w : World}

theorem mapI_spec {T : TypeId} {mi : TypeId × TypeDesc × TypeId} (h : mapI P T = some mi) : P.underlying T = some (.map mi.1 mi.2.2) ∧ P.underlying mi.1 = some mi.2.1 ∧ ((∃ k, mi.2.1 = .int k) ∨ mi.2.1 = .string ∨ mi.2.1 = .bool) := by
  unfold mapI at h
  split at h
  · rename_i kt et hu
    simp only [Option.map_eq_some_iff] at h
    obtain ⟨kd, hk, rfl⟩ := h
    refine ⟨hu, ?_⟩
    unfold plainK at hk
    split at hk
    · rename_i k hk2; injection hk with hk; subst hk; exact ⟨hk2, .inl ⟨k, rfl⟩⟩
    · rename_i hk2; injection hk with hk; subst hk; exact ⟨hk2, .inr (.inl rfl)⟩
    · rename_i hk2; injection hk with hk; subst hk; exact ⟨hk2, .inr (.inr rfl)⟩
    · cases hk
  · cases h
theorem checkKey_plain {b : Bool} {n : Nat} {t : TypeId} {kd : TypeDesc} {v : Value} (hu : P.underlying t = some kd) (hk : (∃ k, kd = .int k) ∨ kd = .string ∨ kd = .bool) : (Instr.checkKey b (n + 1) t v).run P w = .ok () w := by
  rcases hk with ⟨k, rfl⟩ | rfl | rfl <;> simp [Instr.checkKey, underlying, hu]
theorem checkKey_ok {b : Bool} {t : TypeId} {kd : TypeDesc} {v : Value} (hu : P.underlying t = some kd) (hk : (∃ k, kd = .int k) ∨ kd = .string ∨ kd = .bool) : (Instr.checkKey b 10000 t v).run P w = .ok () w := checkKey_plain (n := 9999) hu hk
theorem findKey_ok {t : TypeId} {kd : TypeDesc} {k : Value} {l : List MapEntry} {r : Option (Nat × Value)} (hu : P.underlying t = some kd) (h : Instr.findNow kd k l 0 = some r) : (Instr.findKey t k l).run P w = .ok r w := by
  simp [Instr.findKey, underlying, hu, h]
theorem mapH_get {H : Hp} {r : Nat} {es : Array MapEntry} {c : Nat} (h : mapH H r = some (es, c)) : H[r]? = some (.map es c) := by
  unfold mapH at h
  split at h
  · injection h with h; cases h; assumption
  · cases h
theorem getObj_ok {r : Nat} {es : Array MapEntry} {c : Nat} (h : w.heap[r]? = some (.map es c)) : (getObj r).run P w = .ok (.map es c) w := by
  simp [getObj, Sem.run, h, bind, Sem.bind]
theorem setObj_ok {r : Nat} {es : Array MapEntry} {c : Nat} {o : Obj} (h : w.heap[r]? = some (.map es c)) : ∃ w', (setObj r o).run P w = .ok () w' ∧ Sm w w' ∧ w'.heap = w.heap.setIfInBounds r o := by
  refine ⟨{ w with heap := w.heap.setIfInBounds r o }, ?_, ⟨rfl, rfl, rfl⟩, rfl⟩
  simp [setObj, Sem.run, h]

theorem lookupE_ok {T : TypeId} {x k v : Value} {ok : Bool} (h : lookupE P (mapI P T) ok x k w.heap = some v) : (Instr.lookup T x k ok).run P w = .ok v w := by
  unfold lookupE at h
  split at h
  · rename_i kt kd et hmi
    obtain ⟨hu, huk, hk⟩ := mapI_spec hmi
    simp only at hu huk hk
    simp only [Option.bind_eq_some_iff] at h
    obtain ⟨es, hes, r, hr, h⟩ := h
    unfold entsH at hes
    have fin : ∀ (r : Option (Nat × Value)) (v' : Value), (match r with
        | some (_, v) => some (mkOk ok v true)
        | none => (zeroE P et).map fun z => mkOk ok z false) = some v' →
        ((match r with
          | some (_, v) => do
            let __x ← pure (v, true)
            pure (if ok = true then Value.tuple #[__x.fst, Value.bool __x.snd] else __x.fst)
          | none => do
            let __do_lift ← zeroValue et
            let __x ← pure (__do_lift, false)
            pure (if ok = true then Value.tuple #[__x.fst, Value.bool __x.snd] else __x.fst) : Sem Value).run P w) = .ok v' w := by
      intro r v' h
      cases r with
      | some iv =>
        obtain ⟨i, u⟩ := iv
        simp only at h
        injection h with h; subst h
        simp [mkOk]
      | none =>
        simp only [Option.map_eq_some_iff] at h
        obtain ⟨z, hz, rfl⟩ := h
        unfold zeroE at hz
        simp only [Option.bind_eq_some_iff] at hz
        obtain ⟨i, hi, hz⟩ := hz
        simp [zeroValue, typeInfo, hi, hz, mkOk]
    split at hes
    · injection hes with hes; subst hes
      unfold Instr.lookup
      simp only [Sem.run_bind, underlying, run_program, Result.andThen_ok, hu, Sem.run_pure, checkKey_ok huk hk, findKey_ok huk hr]
      exact fin _ v h
    · rename_i r
      simp only [Option.map_eq_some_iff] at hes
      obtain ⟨⟨es', c⟩, hm, rfl⟩ := hes
      unfold Instr.lookup
      simp only [Sem.run_bind, underlying, run_program, Result.andThen_ok, hu, Sem.run_pure, getObj_ok (mapH_get hm), checkKey_ok huk hk, findKey_ok huk hr]
      exact fin _ v h
    · cases hes
  · cases h

theorem findNow_key {kd : TypeDesc} {k : Value} (hk : (∃ q, kd = .int q) ∨ kd = .string ∨ kd = .bool) : ∀ {l : List MapEntry} {n i : Nat} {v : Value}, Instr.findNow kd k l n = some (some (i, v)) →
    n ≤ i ∧ ∃ e, l[i - n]? = some e ∧ Instr.sameNow kd k e.key = some true ∧ e.val = v
  | [], _, _, _, h => by simp [Instr.findNow] at h
  | e :: l, n, i, v, h => by
    unfold Instr.findNow at h
    split at h
    · rename_i hs
      injection h with h; injection h with h; injection h with h1 h2
      subst h1 h2
      exact ⟨Nat.le_refl _, e, by simp, hs, rfl⟩
    · obtain ⟨h1, e', h2, h3, h4⟩ := findNow_key hk h
      exact ⟨by omega, e', by rw [show i - n = (i - (n + 1)) + 1 by omega]; simpa using h2, h3, h4⟩
    · cases h
theorem same_bits {kd : TypeDesc} {a b : Value} (h : Instr.sameNow kd a b = some true) (n : Nat) : Instr.sameBits n b a = true := by
  unfold Instr.sameNow at h
  split at h
  · split at h
    · rename_i hk; injection h with h; subst hk; simp only [Instr.sameBits]; rw [beq_kindB]; simp at h ⊢; exact h.symm
    · cases h
  · injection h with h; simp only [Instr.sameBits]; exact beq_symm_bytes h
  · injection h with h; simp only [Instr.sameBits]; simp at h ⊢; exact h.symm
  · cases h
where
  beq_kindB {k : IntKind} : (k == k) = true := by cases k <;> rfl
  beq_symm_bytes {a b : ByteArray} (h : (a == b) = true) : (b == a) = true := by
    rw [Go.beq_toListBytes] at h ⊢
    simp at h ⊢; exact h.symm

theorem mapSetE_ok {T : TypeId} {x k v : Value} {H' : Hp} (h : mapSetE (mapI P T) x k v w.heap = some H') : ∃ w', (Instr.mapUpdate T x k v).run P w = .ok () w' ∧ Sm w w' ∧ w'.heap = H' := by
  unfold mapSetE at h
  split at h
  · rename_i kt kd et r hmi
    obtain ⟨hu, huk, hk⟩ := mapI_spec hmi
    simp only at hu huk hk
    simp only [Option.bind_eq_some_iff, Option.map_eq_some_iff] at h
    obtain ⟨⟨es, c⟩, hm, f, hf, h⟩ := h
    have hg := getObj_ok (P := P) (mapH_get hm)
    have hrun : (Instr.mapUpdate T (.map (some r)) k v).run P w = (match f with
        | some (i, _) => (do
          let key ← Instr.keyThatStays (((es[i]?).map fun (e : MapEntry) => e.key).getD k) k
          setObj r (.map (es.modify i fun e => { e with key, val := v }) c) : Sem Unit)
        | none => setObj r (.map (es.push { key := k, val := v, born := c }) (c + 1))).run P w := by
      unfold Instr.mapUpdate
      simp only [Sem.run_bind, underlying, run_program, Result.andThen_ok, hu, Sem.run_pure, hg, checkKey_ok huk hk, findKey_ok huk hf]
      cases f with
      | none => rfl
      | some iv => rfl
    rw [hrun]
    cases f with
    | none =>
      simp only at h ⊢
      subst h
      exact setObj_ok (mapH_get hm)
    | some iv =>
      obtain ⟨i, u⟩ := iv
      simp only at h ⊢
      subst h
      obtain ⟨_, e, he, hs, _⟩ := findNow_key hk hf
      have he' : es[i]? = some e := by simpa using he
      have hkey : (Instr.keyThatStays (((es[i]?).map fun (e : MapEntry) => e.key).getD k) k).run P w = .ok k w := by
        rw [he']
        unfold Instr.keyThatStays
        simp [same_bits hs 10000]
      obtain ⟨w', h1, h2, h3⟩ := setObj_ok (P := P) (mapH_get hm) (o := .map (es.modify i fun e => { e with key := k, val := v }) c)
      exact ⟨w', by rw [Sem.run_bind, hkey]; exact h1, h2, h3⟩
  · cases h

/-! ### Keys that are structs or arrays -/
def wideK (P : Program) (kt : TypeId) : Bool := (match P.underlying kt with | some (.array _ _) | some (.struct _) => true | _ => false) && P.keyTypeAt 100 kt
/-- A map's type of key, if it is a wide one. -/
def mapW (P : Program) (T : TypeId) : Option TypeId :=
  match P.underlying T with
  | some (.map kt _) => (match wideK P kt with | true => some kt | false => none)
  | _ => none
def keyB (P : Program) (kt : TypeId) (k : Value) : Bool := k.formed P kt && (P.keyLits 100 kt k.cells.toList).isSome
def findS (P : Program) (kt : TypeId) (k : Value) : List MapEntry → Nat → Option (Option (Nat × Value))
  | [], _ => some none
  | e :: es, i => (match eqT P 10000 kt k e.key with
    | some true => some (some (i, e.key))
    | some false => findS P kt k es (i + 1)
    | none => none)
def mapSetS (P : Program) (kt : TypeId) (x k v : Value) (H : Hp) : Option Hp :=
  match x with
  | .map (some r) => (mapH H r).bind fun (es, c) => (match keyB P kt k with
    | true => (findS P kt k es.toList 0).bind fun f => (match f with
      | some (i, old) => (match Instr.sameBits 10000 old k with
        | true => some (H.setIfInBounds r (.map (es.modify i fun e => { e with key := k, val := v }) c))
        | false => none)
      | none => some (H.setIfInBounds r (.map (es.push { key := k, val := v, born := c }) (c + 1))))
    | false => none)
  | _ => none
theorem mapW_spec {T kt : TypeId} (h : mapW P T = some kt) : ∃ et, P.underlying T = some (.map kt et) ∧ wideK P kt = true := by
  unfold mapW at h
  split at h
  · rename_i kt' et hu
    split at h
    · rename_i hw
      injection h with h; subst h
      exact ⟨et, hu, hw⟩
    · cases h
  · cases h
theorem findS_ok {kt : TypeId} {k : Value} : ∀ {l : List MapEntry} {i : Nat} {r : Option (Nat × Value)}, findS P kt k l i = some r →
    ∃ r', (Instr.findAsking kt k l i).run P w = .ok r' w ∧ (match r, r' with
      | some (j, old), some (j', _) => j = j' ∧ i ≤ j ∧ ∃ e, l[j - i]? = some e ∧ e.key = old
      | none, none => True
      | _, _ => False)
  | [], i, r, h => by
    simp only [findS, Option.some.injEq] at h; subst h
    exact ⟨none, by simp [Instr.findAsking], trivial⟩
  | e :: l, i, r, h => by
    unfold findS at h
    split at h
    · rename_i hq
      injection h with h; subst h
      have he : (Op.equal kt k e.key).run P w = .ok true w := eqT_ok (d := 10000) hq
      exact ⟨some (i, e.val), by simp [Instr.findAsking, he], rfl, Nat.le_refl _, e, by simp, rfl⟩
    · rename_i hq
      have he : (Op.equal kt k e.key).run P w = .ok false w := eqT_ok (d := 10000) hq
      obtain ⟨r', h1, h2⟩ := findS_ok h
      refine ⟨r', by simp [Instr.findAsking, he, h1], ?_⟩
      match r, r', h2 with
      | some (j, old), some (j', u), h2 =>
        obtain ⟨h3, h4, e', h5, h6⟩ := h2
        exact ⟨h3, by omega, e', by rw [show j - i = (j - (i + 1)) + 1 by omega]; simpa using h5, h6⟩
      | none, none, h2 => trivial
    · cases h
theorem mapSetS_ok {T kt : TypeId} {x k v : Value} {H' : Hp} (hw : mapW P T = some kt) (h : mapSetS P kt x k v w.heap = some H') : ∃ w', (Instr.mapUpdate T x k v).run P w = .ok () w' ∧ Sm w w' ∧ w'.heap = H' := by
  obtain ⟨et, hu, hwk⟩ := mapW_spec hw
  unfold wideK at hwk
  simp only [Bool.and_eq_true] at hwk
  unfold mapSetS at h
  split at h
  · rename_i r
    simp only [Option.bind_eq_some_iff] at h
    obtain ⟨⟨es, c⟩, hm, h⟩ := h
    have hg := getObj_ok (P := P) (mapH_get hm)
    simp only at h
    split at h
    · rename_i hkb
      unfold keyB at hkb
      simp only [Bool.and_eq_true, Option.isSome_iff_exists] at hkb
      obtain ⟨hfm, la, hla⟩ := hkb
      have hck : (Instr.checkKey false 10000 kt k).run P w = .ok () w := run_checkKey_deep false 9900 100 kt hwk.2 w 100 k la hfm hla
      simp only [Option.bind_eq_some_iff] at h
      obtain ⟨f, hf, h⟩ := h
      obtain ⟨r', hr1, hr2⟩ := findS_ok (w := w) hf
      have hfk : (Instr.findKey kt k es.toList).run P w = .ok r' w := by rw [run_findKey_eq w hwk.1]; exact hr1
      match f, r', hr2, h, hfk with
      | some (j, old), some (j', u), hr2, h, hfk =>
        obtain ⟨rfl, _, e, he, rfl⟩ := hr2
        simp only at h
        split at h
        · rename_i hsb
          injection h with h; subst h
          obtain ⟨w', h1, h2, h3⟩ := setObj_ok (P := P) (mapH_get hm) (o := .map (es.modify j fun e => { e with key := k, val := v }) c)
          refine ⟨w', ?_, h2, h3⟩
          have hk2 : ((es[j]?).map fun (e : MapEntry) => e.key) = some e.key := by
            rw [← Array.getElem?_toList]
            simp only [Nat.sub_zero] at he
            rw [he]; rfl
          simp [Instr.mapUpdate, underlying, hu, hg, hck, hfk, hk2, Instr.keyThatStays, hsb, h1]
        · cases h
      | none, none, hr2, h, hfk =>
        injection h with h; subst h
        obtain ⟨w', h1, h2, h3⟩ := setObj_ok (P := P) (mapH_get hm) (o := .map (es.push { key := k, val := v, born := c }) (c + 1))
        refine ⟨w', ?_, h2, h3⟩
        simp [Instr.mapUpdate, underlying, hu, hg, hck, hfk, h1]
    · cases h
  · cases h

theorem mapDelE_ok {T R : TypeId} {ats : Array TypeId} {x k : Value} {H' : Hp} (hat : ats[0]? = some T) (h : mapDelE (mapI P T) x k w.heap = some H') : ∃ w', (Builtin.delete_ ats R #[x, k]).run P w = .ok (.tuple #[]) w' ∧ Sm w w' ∧ w'.heap = H' := by
  unfold mapDelE at h
  split at h
  · rename_i kt kd et r hmi
    obtain ⟨hu, huk, hk⟩ := mapI_spec hmi
    simp only at hu huk hk
    simp only [Option.bind_eq_some_iff, Option.map_eq_some_iff] at h
    obtain ⟨⟨es, c⟩, hm, f, hf, h⟩ := h
    have hg := getObj_ok (P := P) (mapH_get hm)
    obtain ⟨w', h1, h2, h3⟩ := setObj_ok (P := P) (mapH_get hm) (o := delO es c f)
    refine ⟨w', ?_, h2, ?_⟩
    · unfold Builtin.delete_
      simp only [hat, List.getElem?_toArray, List.getElem?_cons_zero, List.getElem?_cons_succ, Sem.run_bind, underlying, run_program, Result.andThen_ok, hu, Sem.run_pure, hg, checkKey_ok huk hk, findKey_ok huk hf]
      cases f with
      | none => simp only [delO] at h1 ⊢; simp only [Sem.run_bind, h1]; rfl
      | some iv => simp only [delO] at h1 ⊢; simp only [Sem.run_bind, h1]; rfl
    · rw [h3, ← h]
  · cases h

theorem mapClrE_ok {T kt et R : TypeId} {ats : Array TypeId} {x : Value} {H' : Hp} (hat : ats[0]? = some T) (hu : P.underlying T = some (.map kt et)) (h : mapClrE x w.heap = some H') : ∃ w', (Builtin.clear_ ats R #[x]).run P w = .ok (.tuple #[]) w' ∧ Sm w w' ∧ w'.heap = H' := by
  unfold mapClrE at h
  split at h
  · injection h with h; subst h
    exact ⟨w, by simp [Builtin.clear_, hat, underlying, hu], Sm.refl w, rfl⟩
  · rename_i r
    simp only [Option.map_eq_some_iff] at h
    obtain ⟨⟨es, c⟩, hm, h⟩ := h
    obtain ⟨w', h1, h2, h3⟩ := setObj_ok (P := P) (mapH_get hm) (o := .map #[] c)
    refine ⟨w', ?_, h2, by rw [h3, ← h]⟩
    simp [Builtin.clear_, hat, underlying, hu, getObj_ok (P := P) (mapH_get hm), h1]
  · cases h

theorem mapLenE_ok {T kt et R : TypeId} {ats : Array TypeId} {x v : Value} (hat : ats[0]? = some T) (hu : P.underlying T = some (.map kt et)) (h : mapLenE x w.heap = some v) : (Builtin.len_ ats R #[x]).run P w = .ok v w := by
  unfold mapLenE entsH at h
  split at h
  · simp only [Option.map_some, Option.some.injEq] at h
    subst h
    simp [Builtin.len_, hat, underlying, hu, goInt]
  · rename_i r
    cases hm : mapH w.heap r with
    | none => rw [hm] at h; simp at h
    | some ec =>
      obtain ⟨es, c⟩ := ec
      rw [hm] at h
      simp only [Option.map_some, Option.some.injEq] at h
      subst h
      simp [Builtin.len_, hat, underlying, hu, getObj_ok (P := P) (mapH_get hm), goInt]
  · simp at h

theorem mapH_ext {H H' : Hp} (hx : Ext H H') {r : Nat} {y : Array MapEntry × Nat} (h : mapH H r = some y) : mapH H' r = some y := by
  obtain ⟨es, c⟩ := y
  have := hx.at (mapH_get h)
  simp [mapH, this]
theorem entsH_ext {H H' : Hp} (hx : Ext H H') {x : Value} {es : Array MapEntry} (h : entsH x H = some es) : entsH x H' = some es := by
  unfold entsH at h ⊢
  split at h
  · exact h
  · simp only [Option.map_eq_some_iff] at h ⊢
    obtain ⟨y, h1, h2⟩ := h
    exact ⟨y, mapH_ext hx h1, h2⟩
  · cases h
theorem lookupE_ext {H H' : Hp} (hx : Ext H H') {mi : Option (TypeId × TypeDesc × TypeId)} {ok : Bool} {x k v : Value} (h : lookupE P mi ok x k H = some v) : lookupE P mi ok x k H' = some v := by
  unfold lookupE at h ⊢
  split at h
  · simp only [Option.bind_eq_some_iff] at h
    obtain ⟨es, hes, r, hr, h⟩ := h
    simp only [entsH_ext hx hes, Option.bind_some, hr]
    exact h
  · cases h
theorem mapLenE_ext {H H' : Hp} (hx : Ext H H') {x v : Value} (h : mapLenE x H = some v) : mapLenE x H' = some v := by
  unfold mapLenE at h ⊢
  simp only [Option.map_eq_some_iff] at h ⊢
  obtain ⟨y, h1, h2⟩ := h
  exact ⟨y, entsH_ext hx h1, h2⟩

/-! ### copy -/
/-- The cells of the first n elements. -/
def cellsN (es n : Nat) (x : Value) (H : Hp) : Option (Array Value) :=
  match x with
  | .slice (some a) _ _ => rowH H a (n * es)
  | .slice none _ _ => some #[]
  | .string s => some ((s.extract 0 n).data.map fun b => .int .u8 b.toNat)
  | _ => none
def lenX (x : Value) : Option Nat := match x with | .slice _ n _ => some n | .string s => some s.size | _ => none
def copyE (e : Option ElemI) (d s : Value) (H : Hp) : Option (Value × Hp) :=
  match e, d with
  | some e, .slice base dLen _ => (lenX s).bind fun sl => (cellsN e.size (min sl dLen) s H).bind fun cs => match base with
    | some a => (putH H a cs).map fun H' => (.int .i64 (min sl dLen : Nat), H')
    | none => some (.int .i64 (min sl dLen : Nat), H)
  | _, _ => none
theorem cellsN_ok {es n : Nat} {x : Value} {cs : Array Value} (h : cellsN es n x w.heap = some cs) : (Builtin.firstCells es n x).run P w = .ok cs w := by
  unfold cellsN at h
  split at h
  · simp [Builtin.firstCells, loadCells_ok h]
  · injection h with h; subst h; simp [Builtin.firstCells]
  · injection h with h; subst h; simp [Builtin.firstCells]
  · cases h
theorem copyE_ok {T R : TypeId} {ats : Array TypeId} {e : Option ElemI} {d s v : Value} {H' : Hp} (hat : ats[0]? = some T) (he : elemI P T = e) (h : copyE e d s w.heap = some (v, H')) : ∃ w', (Builtin.copy_ ats R #[d, s]).run P w = .ok v w' ∧ Sm w w' ∧ w'.heap = H' := by
  unfold copyE at h
  split at h
  · rename_i e' base dLen cap
    obtain ⟨hu, i, z, hi, hsz, _, _, _⟩ := elemI_spec he
    simp only [Option.bind_eq_some_iff] at h
    obtain ⟨sl, hsl, cs, hcs, h⟩ := h
    have hl : (Builtin.lenOf s).run P w = .ok sl w := by
      unfold lenX at hsl
      split at hsl
      · injection hsl with hsl; subst hsl; simp [Builtin.lenOf]
      · injection hsl with hsl; subst hsl; simp [Builtin.lenOf]
      · cases hsl
    have hc := cellsN_ok (P := P) hcs
    cases base with
    | none =>
      simp only [Option.some.injEq, Prod.mk.injEq] at h
      obtain ⟨rfl, rfl⟩ := h
      refine ⟨w, ?_, Sm.refl w, rfl⟩
      have hc' : (Builtin.firstCells e'.size (Nat.min sl dLen) s).run P w = .ok cs w := hc
      simp [Builtin.copy_, hat, underlying, hu, hl, sizeOf, typeInfo, hi, hsz, hc', goInt]
    | some a =>
      simp only [Option.map_eq_some_iff, Prod.mk.injEq] at h
      obtain ⟨H1, hp, rfl, rfl⟩ := h
      obtain ⟨w', h1, h2, h3⟩ := putH_ok (P := P) hp
      refine ⟨w', ?_, h2, h3⟩
      have hc' : (Builtin.firstCells e'.size (Nat.min sl dLen) s).run P w = .ok cs w := hc
      simp [Builtin.copy_, hat, underlying, hu, hl, sizeOf, typeInfo, hi, hsz, hc', h1, goInt]
  · cases h

/-! ### clear of a slice -/
def clrE (e : Option ElemI) (x : Value) (H : Hp) : Option Hp :=
  match e, x with
  | some e, .slice (some a) (n + 1) _ => putH H a (Builtin.zeroCells e.zero (n + 1))
  | some _, .slice none _ _ => some H
  | _, _ => none
theorem clrE_ok {T R : TypeId} {ats : Array TypeId} {e : Option ElemI} {x : Value} {H' : Hp} (hat : ats[0]? = some T) (he : elemI P T = e) (h : clrE e x w.heap = some H') : ∃ w', (Builtin.clear_ ats R #[x]).run P w = .ok (.tuple #[]) w' ∧ Sm w w' ∧ w'.heap = H' := by
  unfold clrE at h
  split at h
  · rename_i e' a n cap
    obtain ⟨hu, i, z, hi, hsz, hby, hz, hzc⟩ := elemI_spec he
    obtain ⟨w', h1, h2, h3⟩ := putH_ok (P := P) h
    refine ⟨w', ?_, h2, h3⟩
    simp [Builtin.clear_, hat, underlying, hu, zeroValue, typeInfo, hi, hz, hzc, h1]
  · rename_i e' l c
    obtain ⟨hu, _⟩ := elemI_spec he
    injection h with h; subst h
    exact ⟨w, by simp [Builtin.clear_, hat, underlying, hu], Sm.refl w, rfl⟩
  · cases h

/-! ### make of a slice -/
def makeE (e : Option ElemI) (l c : Value) (H : Hp) : Option (Value × Hp) :=
  match e, l, c with
  | some e, .int _ l, .int _ c => if 0 ≤ l ∧ l ≤ c ∧ c ≤ 2 ^ 48 ∧ e.bytes * c ≤ 2 ^ 47 ∧ (c = 0 ∨ e.size ≠ 0) then
      some (.slice (some ⟨H.size, 0, none⟩) l.toNat c.toNat, H.push (.cells ((Array.range (c.toNat * e.size)).map (e.zero[· % e.zero.size]!)) e.type)) else none
  | _, _, _ => none
theorem makeE_ok {T : TypeId} {e : Option ElemI} {l c v : Value} {H' : Hp} (he : elemI P T = e) (h : makeE e l c w.heap = some (v, H')) : ∃ w', (Instr.makeSlice T l c).run P w = .ok v w' ∧ Sm w w' ∧ w'.heap = H' := by
  unfold makeE at h
  split at h
  · rename_i e' k l k' c
    obtain ⟨hu, i, z, hi, hsz, hby, hz, hzc⟩ := elemI_spec he
    split at h
    · rename_i hc
      obtain ⟨h0, h1, h2, h3, h4⟩ := hc
      simp only [Option.some.injEq, Prod.mk.injEq] at h
      obtain ⟨rfl, rfl⟩ := h
      have wl : IntKind.i64.wrap l = l := by unfold IntKind.wrap; simp [IntKind.bits, IntKind.signed]; omega
      have wc : IntKind.i64.wrap c = c := by unfold IntKind.wrap; simp [IntKind.bits, IntKind.signed]; omega
      have hb : ¬ (c < 0) := by omega
      have hb2 : ¬ ((2 : Int) ^ 48 < (i.bytes : Int) * c) := by rw [hby]; omega
      have hl1 : ¬ l < 0 := by omega
      have hl2 : ¬ c < l := by omega
      refine ⟨{ w with heap := w.heap.push (.cells ((Array.range (c.toNat * e'.size)).map (e'.zero[· % e'.zero.size]!)) e'.type) }, ?_, ⟨rfl, rfl, rfl⟩, rfl⟩
      unfold Instr.makeSlice
      simp only [Sem.run_bind, underlying, run_program, Result.andThen_ok, hu, Sem.run_pure, asInt, asIntOf, typeInfo, hi, wl, wc, sizeOf, hsz]
      simp only [hb, hb2, hl1, hl2, decide_false, Bool.or_self, gt_iff_lt, Bool.false_eq_true, if_false]
      by_cases hn : c.toNat * e'.size = 0
      · rcases h4 with h4 | h4
        · subst h4
          simp [askRoom, newRow, hi, show Array.range 0 = #[] from rfl]
        · have h5 : c.toNat = 0 := by rcases Nat.mul_eq_zero.1 hn with h5 | h5 <;> first | exact h5 | exact absurd h5 h4
          simp [askRoom, newRow, h5, hi, show Array.range 0 = #[] from rfl]
      · unfold askRoom
        have hn' : ¬ c.toNat * i.size = 0 := by rw [hsz]; exact hn
        split <;> (simp [newRow, zeroValue, typeInfo, hi, hz, hzc, hsz]; intro h0; exact absurd h0 hn)
    · cases h
  · cases h
end
/-! ### Bytes as a string -/
def bytesT (P : Program) (s d : TypeId) : Bool :=
  match P.underlying s, P.underlying d with
  | some (.slice e), some .string => (match P.underlying e with | some (.int .u8) => true | _ => false)
  | _, _ => false
def u8s : List Value → Option (List Int)
  | [] => some []
  | .int .u8 n :: l => (u8s l).map (n :: ·)
  | _ :: _ => none
theorem u8s_ok : ∀ {l : List Value} {ns : List Int}, u8s l = some ns → l = ns.map (Value.int .u8)
  | [], ns, h => by simp only [u8s, Option.some.injEq] at h; subst h; rfl
  | v :: l, ns, h => by
    unfold u8s at h
    split at h
    · rename_i heq; cases heq
    · rename_i n l' heq
      injection heq with h1 h2
      subst h1 h2
      simp only [Option.map_eq_some_iff] at h
      obtain ⟨ns', h1, rfl⟩ := h
      rw [u8s_ok h1]; rfl
    · cases h
def strOfE (x : Value) (H : Hp) : Option Value :=
  match x with
  | .slice (some a) len _ => (rowH H a len).bind fun cs => (u8s cs.toList).map fun ns => .string (strOfNums ns)
  | .slice none _ _ => some (.string ByteArray.empty)
  | _ => none
theorem strOfE_ok {P : Program} {w : World} {S D : TypeId} {x v : Value} (hb : bytesT P S D = true) (h : strOfE x w.heap = some v) : (convert S D x).run P w = .ok v w := by
  unfold bytesT at hb
  split at hb
  · rename_i e hs hd
    split at hb
    · rename_i he
      unfold strOfE at h
      split at h
      · rename_i a len cap
        simp only [Option.bind_eq_some_iff, Option.map_eq_some_iff] at h
        obtain ⟨cs, h1, ns, h2, rfl⟩ := h
        have hl := loadCells_ok (P := P) h1
        have hcs : cs = (ns.map (Value.int .u8)).toArray := by rw [← u8s_ok h2]
        rw [hcs] at hl
        rw [run_convert_bytes_string w S D e _ len cap hs he hd, run_bytesToString w _ len cap ns hl, foldl_push_bytes]
        simp [strOfNums, ByteArray.empty, ByteArray.emptyWithCapacity]
        rfl
      · injection h with h; subst h
        exact run_convert_bytes_nil w S e hs he _ _ D hd
      · cases h
    · cases hb
  · cases hb
/-! ### A string as bytes -/
def strT (P : Program) (s d : TypeId) : Bool :=
  match P.underlying s, P.underlying d with
  | some .string, some (.slice e) => (match P.underlying e with | some (.int .u8) => true | _ => false)
  | some (.slice _), some (.slice e) => Nat.beq s d && (match P.underlying e with | some (.int .u8) => true | _ => false)
  | _, _ => false
/-- A string as bytes; or a row of bytes that stands for a string of the text: it is marked. -/
def BytesS (P : Program) (s d : TypeId) (x : Value) (H : Hp) (K : Value → Hp → Prop) : Prop :=
  match P.underlying s, P.underlying d, x with
  | some .string, some (.slice e), .string s => ∀ cap fz, s.size ≤ cap → K (.slice (some ⟨H.size, 0, none⟩) s.size cap) (H.push (.cells (bytesRow s cap) e fz))
  | some (.slice _), some (.slice _), .slice (some a) len cap => (match H[a.block]? with
    | some (.cells c T _) => ∀ fz, K (.slice (some a) len cap) (H.setIfInBounds a.block (.cells c T fz))
    | _ => False)
  | _, _, _ => False
theorem modify_set {H : Hp} {b : Nat} {o : Obj} (h : H[b]? = some o) (f : Obj → Obj) : H.modify b f = H.setIfInBounds b (f o) := by
  apply Array.ext
  · simp
  · intro i h1 h2
    have hi : i < H.size := by simpa using h1
    rw [Array.getElem_modify, Array.getElem_setIfInBounds (by simpa using h2)]
    by_cases hb : b = i
    · subst hb
      rw [Array.getElem?_eq_getElem hi] at h
      injection h with h
      simp [h]
    · simp [hb]
theorem mark_ok {P : Program} {w : World} {S e : TypeId} {a : Addr} {len cap : Nat} {c : Array Value} {T : TypeId} {fz : Nat × Nat} (hs : P.underlying S = some (.slice e)) (he : P.underlying e = some (.int .u8)) (ho : w.heap[a.block]? = some (.cells c T fz)) :
    ∃ fz', (convert S S (.slice (some a) len cap)).run P w = .ok (.slice (some a) len cap) { w with heap := w.heap.setIfInBounds a.block (.cells c T fz') } := by
  have hsh : w.shape? a.block = some (T, c.size) := by
    unfold World.shape?
    rw [ho]
  obtain ⟨lo, hi⟩ := fz
  refine ⟨if lo == hi then (c.size, c.size + 1) else (min lo c.size, max hi (c.size + 1)), ?_⟩
  simp [convert, underlying, hs, he, markStringish, hsh]
  show World.freeze w ⟨a.block, c.size, none⟩ 1 = _
  unfold World.freeze
  rw [if_neg (by decide), modify_set ho]
  simp
theorem BytesS_ok {P : Program} {w : World} {S D : TypeId} {x : Value} {K : Value → Hp → Prop} (hb : strT P S D = true) (h : BytesS P S D x w.heap K) : ∃ v w', (convert S D x).run P w = .ok v w' ∧ Sm w w' ∧ K v w'.heap := by
  unfold strT at hb
  unfold BytesS at h
  split at h
  · rename_i s hs hd
    rw [hs, hd] at hb
    simp only at hb
    split at hb
    · rename_i he
      exact ⟨_, _, run_bytes_of_string w S D _ _ hs hd he, ⟨rfl, rfl, rfl⟩, h _ _ (grownCap_ge w _ 0 _)⟩
    · cases hb
  · rename_i a len cap hs hd
    rw [hs, hd] at hb
    simp only [Bool.and_eq_true] at hb
    obtain ⟨hsd, hb⟩ := hb
    have hsd := Nat.eq_of_beq_eq_true hsd
    subst hsd
    split at hb
    · rename_i he
      split at h
      · rename_i c' T fz ho
        obtain ⟨fz', hm⟩ := mark_ok (len := len) (cap := cap) hd he ho
        exact ⟨_, _, hm, ⟨rfl, rfl, rfl⟩, h fz'⟩
      · exact h.elim
    · cases hb
  · exact h.elim
theorem rowH_ext {H H' : Hp} {a : Addr} {n : Nat} {cs : Array Value} (hx : Ext H H') (h : rowH H a n = some cs) : rowH H' a n = some cs := by
  unfold rowH at h ⊢
  split at h
  · rename_i c _ _ hc
    rw [hx.at hc]; exact h
  · cases h
theorem strOfE_ext {H H' : Hp} {x v : Value} (hx : Ext H H') (h : strOfE x H = some v) : strOfE x H' = some v := by
  unfold strOfE at h ⊢
  split at h
  · simp only [Option.bind_eq_some_iff] at h
    obtain ⟨cs, h1, h2⟩ := h
    rw [rowH_ext hx h1]; exact h2
  · exact h
  · cases h
end Go.Vc
