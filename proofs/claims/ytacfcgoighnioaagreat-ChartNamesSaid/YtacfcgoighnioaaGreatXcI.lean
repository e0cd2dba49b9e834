/- Xc, part I: maps, equality, structs out of parts, copy. -/
import Derived.Test.YtacfcgoighnioaaGreatXcH
set_option linter.unusedVariables false
set_option linter.unusedSectionVars false
set_option linter.unusedSimpArgs false
namespace Go.Xc
open Go.Vc
variable [Sites]

/-! ### Values that are the same wherever blocks lie -/
mutual
def plB : CV → Bool
  | .int _ _ | .bool _ | .str _ | .nilp | .nils | .nilm | .nilf => true
  | .agg ps => plP ps
  | .tup vs => plL vs
  | _ => false
def plP : List CV → Bool
  | [] => true
  | .bytes _ _ :: ps => plP ps
  | p :: ps => scalar p && plB p && plP ps
def plL : List CV → Bool
  | [] => true
  | v :: vs => plB v && plL vs
end
mutual
def valP : CV → Value
  | .int q n => .int q n
  | .bool b => .bool b
  | .str s => .string s
  | .nilp => .pointer none
  | .nils => .slice none 0 0
  | .nilm => .map none
  | .nilf => .nilFunc
  | .agg ps => .agg (valC ps).toArray
  | .tup vs => .tuple (valL vs).toArray
  | _ => undef
def valC : List CV → List Value
  | [] => []
  | .bytes n x :: ps => bytesL n x ++ valC ps
  | p :: ps => valP p :: valC ps
def valL : List CV → List Value
  | [] => []
  | v :: vs => valP v :: valL vs
end
theorem plP_cons {p : CV} {ps : List CV} (hs : scalar p = true) : plP (p :: ps) = (scalar p && plB p && plP ps) := by
  cases p <;> first | (cases hs; done) | rfl
theorem valC_cons {p : CV} {ps : List CV} (hs : scalar p = true) : valC (p :: ps) = valP p :: valC ps := by
  cases p <;> first | (cases hs; done) | rfl
mutual
theorem valP_ok : ∀ (z : CV), plB z = true → ∀ {m : M} {u : Value}, Vrel m z u → u = valP z
  | .int _ _, _, _, _, hu | .bool _, _, _, _, hu | .str _, _, _, _, hu | .nilp, _, _, _, hu | .nils, _, _, _, hu | .nilm, _, _, _, hu | .nilf, _, _, _, hu => hu
  | .agg ps, h, m, u, hu => by
    obtain ⟨c, rfl, hc⟩ := hu
    have : c.toList = valC ps := valC_ok ps h hc
    simp only [valP]
    rw [← this]
  | .tup vs, h, m, u, hu => by
    obtain ⟨c, rfl, hc⟩ := hu
    have : c.toList = valL vs := valL_ok vs h hc
    simp only [valP]
    rw [← this]
  | .ptr _ _, h, _, _, _ | .sl _ _ _ _, h, _, _, _ | .so _ _ _ _, h, _, _, _ | .map _, h, _, _, _ | .fn _ _ _, h, _, _, _ | .bytes _ _, h, _, _, _ | .yv _, h, _, _, _ | .junk, h, _, _, _ => by cases h
theorem valC_ok : ∀ (ps : List CV), plP ps = true → ∀ {m : M} {l : List Value}, Crel m ps l → l = valC ps
  | [], _, _, _, hu => hu
  | p :: ps, h, m, l, hu => by
    rcases Crel_scalar hu with ⟨n, x, rfl⟩ | hs
    · obtain ⟨l', rfl, h2⟩ := hu
      rw [valC_ok ps h h2]; rfl
    · rw [Crel_cons hs] at hu
      rw [plP_cons hs] at h
      simp only [Bool.and_eq_true] at h
      obtain ⟨v, l', rfl, _, h3, h4⟩ := hu
      rw [valC_cons hs, valP_ok p h.1.2 h3, valC_ok ps h.2 h4]
theorem valL_ok : ∀ (vs : List CV), plL vs = true → ∀ {m : M} {l : List Value}, Vrels m vs l → l = valL vs
  | [], _, _, _, hu => hu
  | v :: vs, h, m, l, hu => by
    simp only [plL, Bool.and_eq_true] at h
    obtain ⟨x, l', rfl, h3, h4⟩ := hu
    rw [valP_ok v h.1 h3, valL_ok vs h.2 h4]; rfl
end
mutual
theorem valP_rel : ∀ (z : CV), plB z = true → ∀ (m : M), Vrel m z (valP z)
  | .int _ _, _, _ | .bool _, _, _ | .str _, _, _ | .nilp, _, _ | .nils, _, _ | .nilm, _, _ | .nilf, _, _ => rfl
  | .agg ps, h, m => ⟨_, rfl, valC_rel ps h m⟩
  | .tup vs, h, m => ⟨_, rfl, valL_rel vs h m⟩
  | .ptr _ _, h, _ | .sl _ _ _ _, h, _ | .so _ _ _ _, h, _ | .map _, h, _ | .fn _ _ _, h, _ | .bytes _ _, h, _ | .yv _, h, _ | .junk, h, _ => by cases h
theorem valC_rel : ∀ (ps : List CV), plP ps = true → ∀ (m : M), Crel m ps (valC ps)
  | [], _, _ => rfl
  | p :: ps, h, m => by
    by_cases hs : scalar p = true
    · rw [plP_cons hs] at h
      simp only [Bool.and_eq_true] at h
      rw [Crel_cons hs, valC_cons hs]
      exact ⟨_, _, rfl, hs, valP_rel p h.1.2 m, valC_rel ps h.2 m⟩
    · cases p <;> first | exact absurd rfl hs | skip
      · exact ⟨_, rfl, valC_rel ps h m⟩
      all_goals (simp only [plP, scalar, Bool.false_and] at h; cases h)
theorem valL_rel : ∀ (vs : List CV), plL vs = true → ∀ (m : M), Vrels m vs (valL vs)
  | [], _, _ => rfl
  | v :: vs, h, m => by
    simp only [plL, Bool.and_eq_true] at h
    exact ⟨_, _, rfl, valP_rel v h.1 m, valL_rel vs h.2 m⟩
end

/-! ### Maps -/
def keyEq (a b : CV) : Option Bool :=
  match a, b with
  | .int .i64 (.ofNat x), .int .i64 (.ofNat y) => some (Nat.beq x y)
  | .int q x, .int q' y => if q = q' then some (x == y) else none
  | .str x, .str y => some (x == y)
  | .bool x, .bool y => some (x == y)
  | _, _ => none
def kdOk (kd : TypeDesc) (a : CV) : Bool :=
  match kd, a with
  | .int _, .int _ _ => true
  | .string, .str _ => true
  | .bool, .bool _ => true
  | _, _ => false
theorem keyEq_ok {kd : TypeDesc} {a b : CV} {r : Bool} (h : keyEq a b = some r) (hk : kdOk kd a = true) {m : M} {va vb : Value} (ha : Vrel m a va) (hb : Vrel m b vb) : Instr.sameNow kd va vb = some r := by
  unfold keyEq at h
  split at h
  · rename_i x y
    injection h with h; subst h
    simp only [Vrel] at ha hb; subst ha hb
    unfold kdOk at hk
    split at hk <;> try (cases hk; done)
    all_goals first | (rename_i he; cases he; done) | skip
    show (if IntKind.i64 = IntKind.i64 then some ((Int.ofNat x) == (Int.ofNat y)) else none) = _
    rw [if_pos rfl, beq_dec]
    congr 1; rw [Bool.eq_iff_iff]; simp; omega
  · rename_i q x q' y _
    split at h
    · rename_i hq
      injection h with h; subst h hq
      simp only [Vrel] at ha hb; subst ha hb
      unfold kdOk at hk
      split at hk <;> try (cases hk; done)
      all_goals first | (rename_i he; cases he; done) | skip
      simp [Instr.sameNow]
    · cases h
  · injection h with h; subst h
    simp only [Vrel] at ha hb; subst ha hb
    unfold kdOk at hk
    split at hk <;> try (cases hk; done)
    all_goals first | (rename_i he; cases he; done) | skip
    rfl
  · injection h with h; subst h
    simp only [Vrel] at ha hb; subst ha hb
    unfold kdOk at hk
    split at hk <;> try (cases hk; done)
    all_goals first | (rename_i he; cases he; done) | skip
    rfl
  · cases h

noncomputable def findX (a : CV) (es : List (CV × CV)) : Nat → Option (Option (Nat × CV)) :=
  List.rec (motive := fun _ => Nat → Option (Option (Nat × CV))) (fun _ => some none) (fun p _ ih i => match keyEq a p.1 with
    | some true => some (some (i, p.2))
    | some false => ih (i + 1)
    | none => none) es
def SameF (m : M) (r : Option (Nat × CV)) (r' : Option (Nat × Value)) : Prop :=
  match r, r' with
  | some (j, v), some (j', u) => j = j' ∧ Vrel m v u
  | none, none => True
  | _, _ => False
theorem findX_ok {kd : TypeDesc} {a : CV} {m : M} {va : Value} (hk : kdOk kd a = true) (ha : Vrel m a va) : ∀ {es : List (CV × CV)} {l : List MapEntry} {i : Nat} {r : Option (Nat × CV)}, Mrel m es l → findX a es i = some r → ∃ r', Instr.findNow kd va l i = some r' ∧ SameF m r r'
  | [], l, i, r, h, hf => by
    simp only [Mrel] at h; subst h
    have hf' : some none = some r := hf
    injection hf' with hf'; subst hf'
    exact ⟨none, rfl, trivial⟩
  | (b, v) :: es, l, i, r, h, hf => by
    obtain ⟨x, l', rfl, h1, h2, h3, h4⟩ := h
    have hf' : (match keyEq a b with
      | some true => some (some (i, v))
      | some false => findX a es (i + 1)
      | none => none) = some r := hf
    unfold Instr.findNow
    split at hf'
    · rename_i hq
      rw [keyEq_ok hq hk ha h2]
      injection hf' with hf'; subst hf'
      exact ⟨_, rfl, rfl, h3⟩
    · rename_i hq
      rw [keyEq_ok hq hk ha h2]
      exact findX_ok hk ha h4 hf'
    · cases hf'
theorem Mrel_set {m : M} {a b : CV} {x : MapEntry} (hs : True) (h1 : Vrel m a x.key) (h2 : Vrel m b x.val) : ∀ {es : List (CV × CV)} {l : List MapEntry} {i : Nat}, Mrel m es l → i < es.length → Mrel m (es.set i (a, b)) (l.set i x)
  | [], _, _, _, hi => by simp at hi
  | p :: es, l, 0, h, _ => by
    obtain ⟨y, l', rfl, _, _, _, h4⟩ := h
    exact ⟨x, l', rfl, hs, h1, h2, h4⟩
  | (p, q) :: es, l, i + 1, h, hi => by
    obtain ⟨y, l', rfl, h3, h4, h5, h6⟩ := h
    exact ⟨y, l'.set i x, rfl, h3, h4, h5, Mrel_set hs h1 h2 h6 (by simpa using hi)⟩
theorem Mrel_snoc {m : M} {a b : CV} {x : MapEntry} (hs : True) (h1 : Vrel m a x.key) (h2 : Vrel m b x.val) : ∀ {es : List (CV × CV)} {l : List MapEntry}, Mrel m es l → Mrel m (es ++ [(a, b)]) (l ++ [x])
  | [], l, h => by simp only [Mrel] at h; subst h; exact ⟨x, [], rfl, hs, h1, h2, rfl⟩
  | (p, q) :: es, l, h => by
    obtain ⟨y, l', rfl, h3, h4, h5, h6⟩ := h
    exact ⟨y, l' ++ [x], rfl, h3, h4, h5, Mrel_snoc hs h1 h2 h6⟩
theorem Mrel_erase {m : M} : ∀ {es : List (CV × CV)} {l : List MapEntry} {i : Nat}, Mrel m es l → Mrel m (es.eraseIdx i) (l.eraseIdx i)
  | [], l, i, h => by simp only [Mrel] at h; subst h; rfl
  | (p, q) :: es, l, 0, h => by obtain ⟨y, l', rfl, _, _, _, h4⟩ := h; exact h4
  | (p, q) :: es, l, i + 1, h => by
    obtain ⟨y, l', rfl, h3, h4, h5, h6⟩ := h
    exact ⟨y, l'.eraseIdx i, rfl, h3, h4, h5, Mrel_erase h6⟩
theorem Mrel_len {m : M} : ∀ {es : List (CV × CV)} {l : List MapEntry}, Mrel m es l → l.length = es.length
  | [], l, h => by simp only [Mrel] at h; subst h; rfl
  | (p, q) :: es, l, h => by obtain ⟨y, l', rfl, _, _, _, h4⟩ := h; simp [Mrel_len h4]
theorem findX_lt {a : CV} : ∀ {es : List (CV × CV)} {i j : Nat} {v : CV}, findX a es i = some (some (j, v)) → i ≤ j ∧ j < i + es.length
  | [], i, j, v, h => by
    have h' : (some none : Option (Option (Nat × CV))) = some (some (j, v)) := h
    injection h' with h'; cases h'
  | (b, w) :: es, i, j, v, h => by
    have h' : (match keyEq a b with
      | some true => some (some (i, w))
      | some false => findX a es (i + 1)
      | none => none) = some (some (j, v)) := h
    split at h'
    · injection h' with h'; injection h' with h'; injection h' with h1 h2; subst h1
      simp
    · obtain ⟨h1, h2⟩ := findX_lt h'
      simp; omega
    · cases h'

def ZeroV (P : Program) (T : TypeId) (z : CV) : Prop := ∃ v, zeroE P T = some v ∧ ∀ m, Vrel m z v
theorem ZeroV.ok {P : Program} {T : TypeId} {z : CV} {ps : List CV} (h : ZeroV P T z) (hp : toP z = some ps) : ZeroOk P T ps := by
  obtain ⟨v, h1, h2⟩ := h
  exact ⟨v, h1, fun m => toP_ok (h2 m) hp⟩

noncomputable def mkX (ok : Bool) (v : CV) (b : Bool) (k : CV → Bool) : Bool := Bool.rec (k v) (k (.tup [v, .bool b])) ok
theorem mkX_ok {ok : Bool} {v : CV} {b : Bool} {k : CV → Bool} (h : mkX ok v b k = true) : ∃ z, k z = true ∧ ∀ {m u}, Vrel m v u → Vrel m z (mkOk ok u b) := by
  cases ok
  · exact ⟨_, h, fun hv => hv⟩
  · exact ⟨_, h, fun {m u} hv => ⟨#[u, .bool b], rfl, u, [.bool b], rfl, hv, .bool b, [], rfl, rfl, rfl⟩⟩

noncomputable def xLookup (mi : Option (TypeId × TypeDesc × TypeId)) (zs : Option CV) (ok : Bool) (x key : CV) (h : CH) (k : CV → Bool) : Bool :=
  match mi, zs with
  | some (_, kd, _), some zv => Bool.rec false (match (match x with | .nilm => some [] | .map b => (match h.get b with | some (.map es _) => some es | _ => none) | _ => none) with
    | some es => (match findX key es 0 with
      | some (some (_, v)) => mkX ok v true k
      | some none => mkX ok zv false k
      | none => false)
    | none => false) (kdOk kd key)
  | _, _ => false
theorem xLookup_ok {P : Program} {mi : Option (TypeId × TypeDesc × TypeId)} {zs : Option CV} {ok : Bool} {x key : CV} {h : CH} {k : CV → Bool} (hz : ∀ a b c z, mi = some (a, b, c) → zs = some z → ZeroV P c z) (hk : xLookup mi zs ok x key h k = true) :
    ∃ z, k z = true ∧ ∀ {H0 m H vx vk}, Rel H0 m h H → Vrel m x vx → Vrel m key vk → ∃ v, lookupE P mi ok vx vk H = some v ∧ Vrel m z v := by
  unfold xLookup at hk
  split at hk
  · rename_i kt kd et zv
    obtain ⟨hkd, hk1⟩ := rec_false hk
    clear hk
    split at hk1
    · rename_i es hes
      have ents : ∀ {H0 m H vx}, Rel H0 m h H → Vrel m x vx → ∃ ents, entsH vx H = some ents ∧ Mrel m es ents.toList := by
        intro H0 m H vx hr hx
        split at hes
        · injection hes with hes; subst hes
          simp only [Vrel] at hx; subst hx
          exact ⟨#[], rfl, rfl⟩
        · rename_i b
          split at hes
          · rename_i es' c hg
            injection hes with hes; subst hes
            obtain ⟨e, he, rfl⟩ := hx
            obtain ⟨e', O, h1, h2, h3⟩ := hr.obj b _ hg
            rw [he] at h1; injection h1 with h1; subst h1
            obtain ⟨ents, rfl, h4⟩ := h3
            exact ⟨ents, by simp [entsH, mapH, h2], h4⟩
          · cases hes
        · cases hes
      split at hk1
      · rename_i i v hf
        obtain ⟨z, h1, h2⟩ := mkX_ok hk1
        refine ⟨z, h1, fun {H0 m H vx vk} hr hx hkey => ?_⟩
        obtain ⟨es', h3, h4⟩ := ents hr hx
        obtain ⟨r', h5, h6⟩ := findX_ok hkd hkey h4 hf
        match r', h6 with
        | some (j, u), h6 => exact ⟨_, by simp only [lookupE, h3, Option.bind_some, h5], h2 h6.2⟩
      · rename_i hf
        obtain ⟨z, h1, h2⟩ := mkX_ok hk1
        refine ⟨z, h1, fun {H0 m H vx vk} hr hx hkey => ?_⟩
        obtain ⟨es', h3, h4⟩ := ents hr hx
        obtain ⟨r', h5, h6⟩ := findX_ok hkd hkey h4 hf
        obtain ⟨vz, h7, h8⟩ := hz _ _ _ _ rfl rfl
        match r', h6 with
        | none, h6 => exact ⟨_, by simp only [lookupE, h3, Option.bind_some, h5, h7, Option.map_some], h2 (h8 m)⟩
      · cases hk1
    · cases hk1
  · cases hk

noncomputable def xMapSet (mi : Option (TypeId × TypeDesc × TypeId)) (x key v : CV) (h : CH) (k : CH → Bool) : Bool :=
  match mi, x with
  | some (_, kd, _), .map b => Bool.rec false (match h.get b with
    | some (.map es c) => (match findX key es 0 with
      | some (some (i, _)) => xSet b (.map (es.set i (key, v)) c) h k
      | some none => forceN (c + 1) fun c' => xSet b (.map (es ++ [(key, v)]) c') h k
      | none => false)
    | _ => false) (kdOk kd key && scalar key)
  | _, _ => false
theorem xMapSet_ok {mi : Option (TypeId × TypeDesc × TypeId)} {x key v : CV} {h : CH} {k : CH → Bool} (hk : xMapSet mi x key v h k = true) : ∃ h', k h' = true ∧ h'.wp = h.wp ∧ ∀ {H0 m H vx vk vv} {K : Hp → Prop}, Rel H0 m h H → Vrel m x vx → Vrel m key vk → Vrel m v vv →
    (∀ H', Rel H0 m h' H' → Stp h.wp m H m H' → K H') → Pu (mapSetE mi vx vk vv H) K := by
  unfold xMapSet at hk
  split at hk
  · rename_i kt kd et b
    obtain ⟨hkd, hk1⟩ := rec_false hk
    clear hk
    simp only [Bool.and_eq_true] at hkd
    split at hk1
    · rename_i es c hg
      split at hk1
      · rename_i i w hf
        obtain ⟨h', hk2, hwp, hset⟩ := xSet_ok hk1
        refine ⟨h', hk2, hwp, fun {H0 m H vx vk vv K} hr hx hkey hv hK => ?_⟩
        obtain ⟨e, he, rfl⟩ := hx
        obtain ⟨e', O, h1, h2, ents, rfl, h3⟩ := hr.obj b _ hg
        rw [he] at h1; injection h1 with h1; subst h1
        obtain ⟨r', h5, h6⟩ := findX_ok hkd.1 hkey h3 hf
        have hlt := (findX_lt hf).2
        rw [Nat.zero_add] at hlt
        match r', h5, h6 with
        | some (j, u), h5, h6 =>
          obtain ⟨rfl, _⟩ := h6
          have hm : mapH H e.1 = some (ents, c) := by simp [mapH, h2]
          have hms : mapSetE (some (kt, kd, et)) (.map (some e.1)) vk vv H = some (H.setIfInBounds e.1 (.map (ents.modify i fun e => { e with key := vk, val := vv }) c)) := by
            simp only [mapSetE, hm, Option.bind_some, h5, Option.map_some]
          rw [hms, Pu_some]
          have hil : i < ents.size := by rw [← Array.length_toList, Mrel_len h3]; exact hlt
          have hor : Orel m e (.map (es.set i (key, v)) c) (.map (ents.modify i fun e => { e with key := vk, val := vv }) c) := by
            refine ⟨_, rfl, ?_⟩
            have e1 : (ents.modify i fun e => { e with key := vk, val := vv }).toList = ents.toList.set i { ents[i] with key := vk, val := vv } := by
              apply List.ext_getElem?
              intro j
              rw [Array.getElem?_toList, Array.getElem?_modify, List.getElem?_set, Array.getElem?_toList]
              by_cases hij : i = j
              · subst hij; simp [hil]
              · simp [hij]
            rw [e1]
            exact Mrel_set trivial hkey hv h3 hlt
          obtain ⟨r1, r2⟩ := hset hr hg he hor
          exact hK _ r1 r2
      · rename_i hf
        rw [forceN_eq] at hk1
        obtain ⟨h', hk2, hwp, hset⟩ := xSet_ok hk1
        refine ⟨h', hk2, hwp, fun {H0 m H vx vk vv K} hr hx hkey hv hK => ?_⟩
        obtain ⟨e, he, rfl⟩ := hx
        obtain ⟨e', O, h1, h2, ents, rfl, h3⟩ := hr.obj b _ hg
        rw [he] at h1; injection h1 with h1; subst h1
        obtain ⟨r', h5, h6⟩ := findX_ok hkd.1 hkey h3 hf
        match r', h5, h6 with
        | none, h5, h6 =>
          have hm : mapH H e.1 = some (ents, c) := by simp [mapH, h2]
          have hms : mapSetE (some (kt, kd, et)) (.map (some e.1)) vk vv H = some (H.setIfInBounds e.1 (.map (ents.push { key := vk, val := vv, born := c }) (c + 1))) := by
            simp only [mapSetE, hm, Option.bind_some, h5, Option.map_some]
          rw [hms, Pu_some]
          have hor : Orel m e (.map (es ++ [(key, v)]) (c + 1)) (.map (ents.push { key := vk, val := vv, born := c }) (c + 1)) := by
            refine ⟨_, rfl, ?_⟩
            rw [Array.toList_push]
            exact Mrel_snoc trivial hkey hv h3
          obtain ⟨r1, r2⟩ := hset hr hg he hor
          exact hK _ r1 r2
      · cases hk1
    · cases hk1
  · cases hk

noncomputable def xMapDel (mi : Option (TypeId × TypeDesc × TypeId)) (x key : CV) (h : CH) (k : CH → Bool) : Bool :=
  match mi, x with
  | some (_, kd, _), .map b => Bool.rec false (match h.get b with
    | some (.map es c) => (match findX key es 0 with
      | some (some (i, _)) => xSet b (.map (es.eraseIdx i) c) h k
      | some none => xSet b (.map es c) h k
      | none => false)
    | _ => false) (kdOk kd key)
  | _, _ => false
theorem xMapDel_ok {mi : Option (TypeId × TypeDesc × TypeId)} {x key : CV} {h : CH} {k : CH → Bool} (hk : xMapDel mi x key h k = true) : ∃ h', k h' = true ∧ h'.wp = h.wp ∧ ∀ {H0 m H vx vk} {K : Hp → Prop}, Rel H0 m h H → Vrel m x vx → Vrel m key vk →
    (∀ H', Rel H0 m h' H' → Stp h.wp m H m H' → K H') → Pu (mapDelE mi vx vk H) K := by
  unfold xMapDel at hk
  split at hk
  · rename_i kt kd et b
    obtain ⟨hkd, hk1⟩ := rec_false hk
    clear hk
    split at hk1
    · rename_i es c hg
      split at hk1
      · rename_i i w hf
        obtain ⟨h', hk2, hwp, hset⟩ := xSet_ok hk1
        refine ⟨h', hk2, hwp, fun {H0 m H vx vk K} hr hx hkey hK => ?_⟩
        obtain ⟨e, he, rfl⟩ := hx
        obtain ⟨e', O, h1, h2, ents, rfl, h3⟩ := hr.obj b _ hg
        rw [he] at h1; injection h1 with h1; subst h1
        obtain ⟨r', h5, h6⟩ := findX_ok hkd hkey h3 hf
        match r', h5, h6 with
        | some (j, u), h5, h6 =>
          obtain ⟨rfl, _⟩ := h6
          have hm : mapH H e.1 = some (ents, c) := by simp [mapH, h2]
          have hms : mapDelE (some (kt, kd, et)) (.map (some e.1)) vk H = some (H.setIfInBounds e.1 (.map (ents.eraseIdxIfInBounds i) c)) := by
            simp only [mapDelE, hm, Option.bind_some, h5, Option.map_some, delO]
          rw [hms, Pu_some]
          have hor : Orel m e (.map (es.eraseIdx i) c) (.map (ents.eraseIdxIfInBounds i) c) := by
            refine ⟨_, rfl, ?_⟩
            rw [Array.toList_eraseIdxIfInBounds]
            exact Mrel_erase h3
          obtain ⟨r1, r2⟩ := hset hr hg he hor
          exact hK _ r1 r2
      · rename_i hf
        obtain ⟨h', hk2, hwp, hset⟩ := xSet_ok hk1
        refine ⟨h', hk2, hwp, fun {H0 m H vx vk K} hr hx hkey hK => ?_⟩
        obtain ⟨e, he, rfl⟩ := hx
        obtain ⟨e', O, h1, h2, ents, rfl, h3⟩ := hr.obj b _ hg
        rw [he] at h1; injection h1 with h1; subst h1
        obtain ⟨r', h5, h6⟩ := findX_ok hkd hkey h3 hf
        match r', h5, h6 with
        | none, h5, h6 =>
          have hm : mapH H e.1 = some (ents, c) := by simp [mapH, h2]
          have hms : mapDelE (some (kt, kd, et)) (.map (some e.1)) vk H = some (H.setIfInBounds e.1 (.map ents c)) := by
            simp only [mapDelE, hm, Option.bind_some, h5, Option.map_some, delO]
          rw [hms, Pu_some]
          obtain ⟨r1, r2⟩ := hset hr hg he ⟨ents, rfl, h3⟩
          exact hK _ r1 r2
      · cases hk1
    · cases hk1
  · cases hk

noncomputable def xMapClr (x : CV) (h : CH) (k : CH → Bool) : Bool :=
  match x with
  | .nilm => k h
  | .map b => (match h.get b with
    | some (.map _ c) => xSet b (.map [] c) h k
    | _ => false)
  | _ => false
theorem xMapClr_ok {x : CV} {h : CH} {k : CH → Bool} (hk : xMapClr x h k = true) : ∃ h', k h' = true ∧ h'.wp = h.wp ∧ ∀ {H0 m H vx} {K : Hp → Prop}, Rel H0 m h H → Vrel m x vx →
    (∀ H', Rel H0 m h' H' → Stp h.wp m H m H' → K H') → Pu (mapClrE vx H) K := by
  unfold xMapClr at hk
  split at hk
  · refine ⟨h, hk, rfl, fun {H0 m H vx K} hr hx hK => ?_⟩
    simp only [Vrel] at hx; subst hx
    exact ⟨H, rfl, hK H hr (Stp.refl _ _ _)⟩
  · rename_i b
    split at hk
    · rename_i es c hg
      obtain ⟨h', hk2, hwp, hset⟩ := xSet_ok hk
      refine ⟨h', hk2, hwp, fun {H0 m H vx K} hr hx hK => ?_⟩
      obtain ⟨e, he, rfl⟩ := hx
      obtain ⟨e', O, h1, h2, ents, rfl, h3⟩ := hr.obj b _ hg
      rw [he] at h1; injection h1 with h1; subst h1
      have hm : mapH H e.1 = some (ents, c) := by simp [mapH, h2]
      have hms : mapClrE (.map (some e.1)) H = some (H.setIfInBounds e.1 (.map #[] c)) := by
        simp only [mapClrE, hm, Option.map_some]
      rw [hms, Pu_some]
      obtain ⟨r1, r2⟩ := hset hr hg he ⟨#[], rfl, rfl⟩
      exact hK _ r1 r2
    · cases hk
  · cases hk
noncomputable def xMapLen (x : CV) (h : CH) (k : CV → Bool) : Bool :=
  match x with
  | .nilm => k (.int .i64 0)
  | .map b => (match h.get b with
    | some (.map es _) => forceN es.length fun n => k (.int .i64 (.ofNat n))
    | _ => false)
  | _ => false
theorem xMapLen_ok {x : CV} {h : CH} {k : CV → Bool} (hk : xMapLen x h k = true) : ∃ z, k z = true ∧ ∀ {H0 m H vx}, Rel H0 m h H → Vrel m x vx → ∃ v, mapLenE vx H = some v ∧ Vrel m z v := by
  unfold xMapLen at hk
  split at hk
  · refine ⟨_, hk, fun {H0 m H vx} hr hx => ?_⟩
    simp only [Vrel] at hx; subst hx
    exact ⟨_, rfl, rfl⟩
  · rename_i b
    split at hk
    · rename_i es c hg
      rw [forceN_eq] at hk
      refine ⟨_, hk, fun {H0 m H vx} hr hx => ?_⟩
      obtain ⟨e, he, rfl⟩ := hx
      obtain ⟨e', O, h1, h2, ents, rfl, h3⟩ := hr.obj b _ hg
      rw [he] at h1; injection h1 with h1; subst h1
      refine ⟨.int .i64 ents.size, by simp [mapLenE, entsH, mapH, h2], ?_⟩
      have := Mrel_len h3
      rw [Array.length_toList] at this
      rw [this]; rfl
    · cases hk
  · cases hk
noncomputable def xNewMap (h : CH) (k : CV → CH → Bool) : Bool := xNew (.map [] 0) h fun b h' => k (.map b) h'
theorem xNewMap_ok {h : CH} {k : CV → CH → Bool} (hk : xNewMap h k = true) : ∃ z h', k z h' = true ∧ h'.wp = h.wp ∧ ∀ {H0 m H} {K : Value → Hp → Prop}, Rel H0 m h H → Fin H0 m h H z h' K → K (.map (some H.size)) (H.push (.map #[] 0)) := by
  obtain ⟨h', hk', hwp, hnew⟩ := xNew_ok hk
  refine ⟨_, h', hk', hwp, fun {H0 m H K} hr hf => ?_⟩
  obtain ⟨h1, h2, h3⟩ := hnew (z := 0) hr ⟨#[], rfl, rfl⟩
  exact hf _ _ _ h1 h2 ⟨_, h3, rfl⟩

/-! ### Structs and arrays out of parts -/
def bldK (P : Program) (T : TypeId) : Option (Sum (List (Nat × Nat)) Nat) :=
  match P.underlying T with
  | some (.array _ e) => (P.info? e).map fun i => .inr i.size
  | some (.struct fields) => (fields.toList.mapM fun f => (P.info? f.type).map fun i => (f.offset, i.size)).map .inl
  | _ => none
def placeX (q : Sum (List (Nat × Nat)) Nat) (i : Nat) : Option (Nat × Nat) :=
  match q with
  | .inl l => l[i]?
  | .inr s => some (i * s, s)
noncomputable def xBuild (q : Option (Sum (List (Nat × Nat)) Nat)) (zs : Option CV) (parts : List (Nat × CV)) (k : CV → Bool) : Bool :=
  match q, zs with
  | some q, some (.agg zs) => xFill (placeX q) parts zs fun ps => k (.agg ps)
  | _, _ => false
theorem xBuild_ok {P : Program} {T : TypeId} {zs : Option CV} {parts : List (Nat × CV)} {k : CV → Bool} (hz : ∀ z, zs = some z → ZeroV P T z) (hk : xBuild (bldK P T) zs parts k = true) :
    ∃ z, k z = true ∧ ∀ {m vs}, Prels m parts vs → ∃ v, buildE P T vs = some v ∧ Vrel m z v := by
  unfold xBuild at hk
  split at hk
  · rename_i q zs hq
    obtain ⟨qs, h1, h2⟩ := xFill_ok hk
    refine ⟨_, h1, fun {m vs} hp => ?_⟩
    obtain ⟨v, h3, h4⟩ := hz _ rfl
    obtain ⟨c, rfl, hc⟩ := h4 m
    obtain ⟨c', h5, _, h7⟩ := h2 hc hp
    refine ⟨.agg c', ?_, c', rfl, h7⟩
    unfold zeroE at h3
    simp only [Option.bind_eq_some_iff] at h3
    obtain ⟨i, hi, hiz⟩ := h3
    unfold buildE Program.built
    unfold bldK at hq
    split at hq
    · rename_i n e hu
      simp only [Option.map_eq_some_iff] at hq
      obtain ⟨ie, hie, rfl⟩ := hq
      rw [hi, hu]
      simp only [hiz, hie]
      rw [show Instr.fill (fun i => some (i * ie.size, ie.size)) (Value.agg c).cells vs = some c' from h5]
      rfl
    · rename_i fields hu
      simp only [Option.map_eq_some_iff] at hq
      obtain ⟨places, hpl, rfl⟩ := hq
      rw [hi, hu]
      simp only [hiz, hpl]
      have : (fun (i : Nat) => places.toArray[i]?) = placeX (.inl places) := by funext i; simp [placeX]
      rw [this, show Instr.fill (placeX (.inl places)) (Value.agg c).cells vs = some c' from h5]
      rfl
    · cases hq
  · cases hk

/-! ### Keys that are structs or arrays -/
noncomputable def findW (P : Program) (kt : TypeId) (k : Value) (es : List (CV × CV)) : Nat → Option (Option (Nat × Value)) :=
  List.rec (motive := fun _ => Nat → Option (Option (Nat × Value))) (fun _ => some none) (fun p _ ih i => Bool.rec none (match eqT P 10000 kt k (valP p.1) with
    | some true => some (some (i, valP p.1))
    | some false => ih (i + 1)
    | none => none) (plB p.1)) es
theorem findW_ok {P : Program} {kt : TypeId} {k : Value} {m : M} : ∀ {es : List (CV × CV)} {l : List MapEntry} {i : Nat} {r : Option (Nat × Value)}, Mrel m es l → findW P kt k es i = some r → findS P kt k l i = some r ∧ ∀ j v, r = some (j, v) → i ≤ j ∧ j < i + es.length
  | [], l, i, r, h, hf => by
    simp only [Mrel] at h; subst h
    have hf' : some none = some r := hf
    injection hf' with hf'; subst hf'
    exact ⟨rfl, fun j v h => by cases h⟩
  | (a, b) :: es, l, i, r, h, hf => by
    obtain ⟨x, l', rfl, _, h2, h3, h4⟩ := h
    have hf' : (Bool.rec (motive := fun _ => Option (Option (Nat × Value))) none (match eqT P 10000 kt k (valP a) with
      | some true => some (some (i, valP a))
      | some false => findW P kt k es (i + 1)
      | none => none) (plB a)) = some r := hf
    cases hp : plB a with
    | false => rw [hp] at hf'; cases hf'
    | true =>
      rw [hp] at hf'
      have hk := valP_ok a hp h2
      have hf2 : (match eqT P 10000 kt k x.key with
        | some true => some (some (i, x.key))
        | some false => findW P kt k es (i + 1)
        | none => none) = some r := by rw [hk]; exact hf'
      unfold findS
      split at hf2
      · rename_i hq
        injection hf2 with hf2; subst hf2
        simp only [hq]
        exact ⟨by first | trivial | rfl, fun j v h => by injection h with h; injection h with h1 _; subst h1; simp⟩
      · rename_i hq
        simp only [hq]
        obtain ⟨h5, h6⟩ := findW_ok h4 hf2
        exact ⟨h5, fun j v h => by have := h6 j v h; simp; omega⟩
      · cases hf2
noncomputable def xMapSetW (P : Program) (kt : TypeId) (x key v : CV) (h : CH) (k : CH → Bool) : Bool :=
  match x with
  | .map b => Bool.rec false (match h.get b with
    | some (.map es c) => (match findW P kt (valP key) es 0 with
      | some (some (i, old)) => Bool.rec false (xSet b (.map (es.set i (key, v)) c) h k) (Instr.sameBits 10000 old (valP key))
      | some none => forceN (c + 1) fun c' => xSet b (.map (es ++ [(key, v)]) c') h k
      | none => false)
    | _ => false) (plB key && keyB P kt (valP key))
  | _ => false
theorem xMapSetW_ok {P : Program} {kt : TypeId} {x key v : CV} {h : CH} {k : CH → Bool} (hk : xMapSetW P kt x key v h k = true) : ∃ h', k h' = true ∧ h'.wp = h.wp ∧ ∀ {H0 m H vx vk vv} {K : Hp → Prop}, Rel H0 m h H → Vrel m x vx → Vrel m key vk → Vrel m v vv → (∀ H', Rel H0 m h' H' → Stp h.wp m H m H' → K H') → Pu (mapSetS P kt vx vk vv H) K := by
  unfold xMapSetW at hk
  split at hk
  · rename_i b
    obtain ⟨hc, hk1⟩ := rec_false hk
    clear hk
    simp only [Bool.and_eq_true] at hc
    obtain ⟨hp, hkb⟩ := hc
    split at hk1
    · rename_i es c hg
      split at hk1
      · rename_i i old hf
        obtain ⟨hsb, hk2⟩ := rec_false hk1
        obtain ⟨h', hk3, hwp, hset⟩ := xSet_ok hk2
        refine ⟨h', hk3, hwp, fun {H0 m H vx vk vv K} hr hx hkey hv hK => ?_⟩
        obtain ⟨e, he, rfl⟩ := hx
        obtain ⟨e', O, h1, h2, ents, rfl, h3⟩ := hr.obj b _ hg
        rw [he] at h1; injection h1 with h1; subst h1
        have hvk := valP_ok key hp hkey
        obtain ⟨h5, h6⟩ := findW_ok h3 hf
        have hlt := (h6 i old rfl).2
        rw [Nat.zero_add] at hlt
        have hm : mapH H e.1 = some (ents, c) := by simp [mapH, h2]
        have hms : mapSetS P kt (.map (some e.1)) vk vv H = some (H.setIfInBounds e.1 (.map (ents.modify i fun e => { e with key := vk, val := vv }) c)) := by
          unfold mapSetS
          simp only [hm, Option.bind_some, hvk, hkb, h5, hsb]
        rw [hms, Pu_some]
        have hil : i < ents.size := by rw [← Array.length_toList, Mrel_len h3]; exact hlt
        have hor : Orel m e (.map (es.set i (key, v)) c) (.map (ents.modify i fun e => { e with key := vk, val := vv }) c) := by
          refine ⟨_, rfl, ?_⟩
          have e1 : (ents.modify i fun e => { e with key := vk, val := vv }).toList = ents.toList.set i { ents[i] with key := vk, val := vv } := by
            apply List.ext_getElem?
            intro j
            rw [Array.getElem?_toList, Array.getElem?_modify, List.getElem?_set, Array.getElem?_toList]
            by_cases hij : i = j
            · subst hij; simp [hil]
            · simp [hij]
          rw [e1]
          exact Mrel_set trivial hkey hv h3 hlt
        obtain ⟨r1, r2⟩ := hset hr hg he hor
        exact hK _ r1 r2
      · rename_i hf
        rw [forceN_eq] at hk1
        obtain ⟨h', hk3, hwp, hset⟩ := xSet_ok hk1
        refine ⟨h', hk3, hwp, fun {H0 m H vx vk vv K} hr hx hkey hv hK => ?_⟩
        obtain ⟨e, he, rfl⟩ := hx
        obtain ⟨e', O, h1, h2, ents, rfl, h3⟩ := hr.obj b _ hg
        rw [he] at h1; injection h1 with h1; subst h1
        have hvk := valP_ok key hp hkey
        obtain ⟨h5, h6⟩ := findW_ok h3 hf
        have hm : mapH H e.1 = some (ents, c) := by simp [mapH, h2]
        have hms : mapSetS P kt (.map (some e.1)) vk vv H = some (H.setIfInBounds e.1 (.map (ents.push { key := vk, val := vv, born := c }) (c + 1))) := by
          unfold mapSetS
          simp only [hm, Option.bind_some, hvk, hkb, h5]
        rw [hms, Pu_some]
        have hor : Orel m e (.map (es ++ [(key, v)]) (c + 1)) (.map (ents.push { key := vk, val := vv, born := c }) (c + 1)) := by
          refine ⟨_, rfl, ?_⟩
          rw [Array.toList_push]
          exact Mrel_snoc trivial hkey hv h3
        obtain ⟨r1, r2⟩ := hset hr hg he hor
        exact hK _ r1 r2
      · cases hk1
    · cases hk1
  · cases hk
end Go.Xc
