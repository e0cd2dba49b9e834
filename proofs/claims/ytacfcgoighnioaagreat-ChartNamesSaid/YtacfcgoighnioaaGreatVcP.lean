/- Vc, part P: a region by two walks, in words. -/
import Derived.Test.YtacfcgoighnioaaGreatVcO
set_option linter.unusedVariables false
set_option linter.unusedSimpArgs false
namespace Go.Vc

/-- A stretch of operations; what follows is told which of them were passed over. -/
def vcA (P : Program) (qf : FuncId → Bool) (dr q : Bool) (all : Array Oper) : List Oper → List Nat → Fr → Hp → (List Nat → Fr → Hp → Prop) → Prop
  | [], sk, fr, H, K => K sk fr H
  | o :: rest, sk, fr, H, K =>
    match o.guard with
    | none => vcOp P qf dr q o (ev fr) H fun v H' => vcA P qf dr q all rest sk (putF fr o.dst v) H' K
    | some (j, want) =>
      match (all[j]?).bind (·.dst) with
      | none => False
      | some d =>
        if sk.contains d then
          (match slot fr d with
           | .tuple _ => vcA P qf dr q all rest (addSk sk o.dst) (putF fr o.dst undef) H K
           | _ => False)
        else
          Ite (slot fr d)
            (if want then vcOp P qf dr q o (ev (fr.set d (.bool true))) H fun v H' => vcA P qf dr q all rest sk (putF (fr.set d (.bool true)) o.dst v) H' K
             else vcA P qf dr q all rest (addSk sk o.dst) (putF (fr.set d (.bool true)) o.dst undef) H K)
            (if want then vcA P qf dr q all rest (addSk sk o.dst) (putF (fr.set d (.bool false)) o.dst undef) H K
             else vcOp P qf dr q o (ev (fr.set d (.bool false))) H fun v H' => vcA P qf dr q all rest sk (putF (fr.set d (.bool false)) o.dst v) H' K)

section
variable {P : Program} {qf : FuncId → Bool} {dr q : Bool} {all : Array Oper}
theorem runA_of_vcA {fz : Bool} (hq : dr = false → q = false) (hz : fz = true → q = true) {W : List Nat} {ds : List Deferred} {fr₀ : Fr} {K : List Nat → Fr → Hp → Prop} {K' : Act → Hp → Prop}
    (hK : ∀ sk fr a H, At a fr → a.defers = ds → Agree W fr₀ fr → K sk fr H → K' a H) : ∀ (is : List Nat) (l : List Oper) (sk : List Nat) (fr : Fr) (a : Act) (H : Hp),
    is.map (all[·]?) = l.map some → (∀ d ∈ dstsOf l, d ∈ W) → At a fr → a.defers = ds → Agree W fr₀ fr → vcA P qf dr q all l sk fr H K →
    runA q P all (clAt P qf dr fz all) is K' a H
  | [], l, sk, fr, a, H, hl, _, ha, hd, hA, h => by
    cases l with
    | nil => exact hK _ _ _ _ ha hd hA h
    | cons => cases hl
  | k :: is, [], sk, fr, a, H, hl, _, ha, hd, hA, h => by cases hl
  | k :: is, o :: rest, sk, fr, a, H, hl, hW, ha, hd, hA, h => by
    simp only [List.map_cons, List.cons.injEq] at hl
    obtain ⟨ho, hl'⟩ := hl
    have hW' : ∀ d ∈ dstsOf rest, d ∈ W := fun d hd => hW d (by
      unfold dstsOf at *; rw [List.filterMap_cons]; split
      · exact hd
      · exact List.mem_cons_of_mem _ hd)
    have hWo : ∀ d, o.dst = some d → d ∈ W := fun d hdd => hW d (by unfold dstsOf; rw [List.filterMap_cons, hdd]; exact List.mem_cons_self)
    have hdp : ∀ v, (a.put o.dst v).defers = ds := fun v => by rw [← hd]; cases o.dst <;> rfl
    simp only [runA]
    have next : ∀ (sk : List Nat) (v : Value) (H' : Hp), vcA P qf dr q all rest sk (putF fr o.dst v) H' K → runA q P all (clAt P qf dr fz all) is K' (a.put o.dst v) H' :=
      fun sk v H' h' => runA_of_vcA hq hz hK is rest sk (putF fr o.dst v) (a.put o.dst v) H' hl' hW' (ha.put o.dst v) (hdp v) (hA.trans (Agree.put hWo)) h'
    simp only [vcA] at h
    cases hg : o.guard with
    | none =>
      simp only [hg] at h
      exact step_of_vcOp hq hz ho ha (by simp [Region.wanted, hg]) h fun v H' h' => next sk v H' h'
    | some g =>
      obtain ⟨j, want⟩ := g
      simp only [hg] at h
      cases hjd : (all[j]?).bind (·.dst) with
      | none => simp only [hjd] at h
      | some d =>
        simp only [hjd] at h
        obtain ⟨hy1, hy2⟩ := yielded_slot ha hjd
        split at h
        · split at h
          · rename_i vs hv
            exact skip_of ho (by simp [Region.wanted, hg, hy2 _ hv]) (next _ undef H h)
          · exact h.elim
        · unfold Ite at h
          split at h
          · rename_i hv
            rw [set_same hv (by simp [undef])] at h
            have hyt := hy1 true hv
            cases want
            · simp only [Bool.false_eq_true, if_false] at h
              exact skip_of ho (by simp [Region.wanted, hg, hyt]) (next _ undef H h)
            · simp only [if_true] at h
              exact step_of_vcOp hq hz ho ha (by simp [Region.wanted, hg, hyt]) h fun v H' h' => next sk v H' h'
          · rename_i hv
            rw [set_same hv (by simp [undef])] at h
            have hyt := hy1 false hv
            cases want
            · simp only [Bool.false_eq_true, if_false] at h
              exact step_of_vcOp hq hz ho ha (by simp [Region.wanted, hg, hyt]) h fun v H' h' => next sk v H' h'
            · simp only [if_true] at h
              exact skip_of ho (by simp [Region.wanted, hg, hyt]) (next _ undef H h)
          · exact h.elim

theorem vcA_of_ops : ∀ (l : List Oper) (sk : List Nat) (fr : Fr) (H : Hp) (K : Fr → Hp → Prop), vcOps P qf dr q all l sk fr H K → vcA P qf dr q all l sk fr H fun _ fr H => ForX q H (K fr)
  | [], sk, fr, H, K, h => h
  | o :: rest, sk, fr, H, K, h => by
    have ih := vcA_of_ops rest
    have e : ∀ sk fr H, vcOps P qf dr q all rest sk fr H K = vcA P qf dr q all rest sk fr H fun _ fr H => ForX q H (K fr) := by
      intro sk fr H
      exact propext ⟨ih sk fr H K, vcA_to_ops rest sk fr H K⟩
    simp only [vcOps, e] at h
    simp only [vcA]
    exact h
where
  vcA_to_ops : ∀ (l : List Oper) (sk : List Nat) (fr : Fr) (H : Hp) (K : Fr → Hp → Prop), (vcA P qf dr q all l sk fr H fun _ fr H => ForX q H (K fr)) → vcOps P qf dr q all l sk fr H K
  | [], sk, fr, H, K, h => h
  | o :: rest, sk, fr, H, K, h => by
    have e : ∀ sk fr H, vcOps P qf dr q all rest sk fr H K = vcA P qf dr q all rest sk fr H fun _ fr H => ForX q H (K fr) := by
      intro sk fr H
      exact propext ⟨vcA_of_ops rest sk fr H K, vcA_to_ops rest sk fr H K⟩
    simp only [vcA] at h
    simp only [vcOps, e]
    exact h
end

/-- The order of two walks: what comes first, the pair, the rest. -/
structure Two where
  A : List Nat
  k : Nat
  i : Nat
  C : List Nat
def prcB (ops : Array Oper) (cl : Nat → Cls) (ms : List Nat) (k i : Nat) : Bool := (ms.getD i 0).testBit k || swapB ops cl k i
def pairsB (f : Nat → Nat → Bool) : List Nat → Bool
  | [] => true
  | x :: l => l.all (f x) && pairsB f l
theorem pairsB_ok {f : Nat → Nat → Bool} : ∀ {l : List Nat}, pairsB f l = true → l.Pairwise fun a b => f a b = true
  | [], _ => List.Pairwise.nil
  | x :: l, h => by
    simp only [pairsB, Bool.and_eq_true, List.all_eq_true] at h
    exact List.pairwise_cons.2 ⟨h.1, pairsB_ok h.2⟩
def twoB (ops : Array Oper) (cl : Nat → Cls) (t : Two) : Bool :=
  let ms := masksFrom ops.toList []
  let l := t.A ++ t.k :: t.i :: t.C
  noSelB ops && edgesB ops && pairsB (fun a b => !(Nat.beq a b)) l && l.all (fun x => decide (x < ops.size)) && (List.range ops.size).all (fun x => l.contains x) &&
  pairsB (prcB ops cl ms) (t.A ++ t.i :: t.C) && pairsB (prcB ops cl ms) (t.A ++ t.k :: t.C) &&
  t.C.all fun x => (ms.getD x 0).testBit t.k || (ms.getD x 0).testBit t.i
def pick (ops : Array Oper) (l : List Nat) : List Oper := l.filterMap (ops[·]?)
theorem pick_ok {ops : Array Oper} : ∀ {l : List Nat}, (∀ x ∈ l, x < ops.size) → l.map (ops[·]?) = (pick ops l).map some
  | [], _ => rfl
  | x :: l, h => by
    obtain ⟨o, hx⟩ : ∃ o, ops[x]? = some o := ⟨_, Array.getElem?_eq_getElem (h x List.mem_cons_self)⟩
    unfold pick
    rw [List.filterMap_cons, hx]
    simp only [List.map_cons, hx]
    congr 1
    exact pick_ok fun y hy => h y (List.mem_cons_of_mem _ hy)
theorem pick_dsts {ops : Array Oper} {l : List Nat} : ∀ d ∈ dstsOf (pick ops l), d ∈ dstsOf ops.toList := by
  intro d hd
  unfold dstsOf pick at *
  simp only [List.mem_filterMap] at hd ⊢
  obtain ⟨o, ⟨x, _, hx⟩, ho⟩ := hd
  exact ⟨o, by simpa using Array.mem_of_getElem? hx, ho⟩

def vcTwo (P : Program) (qf : FuncId → Bool) (ops : Array Oper) (t : Two) (fr : Fr) (H : Hp) (K : Fr → Hp → Prop) : Prop :=
  vcA P qf true true ops (pick ops t.A) [] fr H fun sk fr H => vcOps P qf true true ops (pick ops (t.k :: t.i :: t.C)) sk fr H K ∧ vcOps P qf true true ops (pick ops (t.i :: t.k :: t.C)) sk fr H K

theorem two_sound {P : Program} {qf : FuncId → Bool} {r : Option Nat} {ops : Array Oper} {t : Two} {id : Nat} (hm : P.follows .mixedOrders = true) (hB : twoB ops (clAt P qf true true ops) t = true) {Q : Exit → Ks} {fr : Fr} {a : Act} {w : World} (ha : At a fr) (h : vcTwo P qf ops t fr w.heap fun fr' H' => Q .normal fr' a.defers H') :
    (Code.region id ops true).wpIn (wideR r) 0 P (Post (dstsOf ops.toList) true Q fr a w) a w := by
  have out : ∀ (a' : Act) (w' : World), (∃ fr', At a' fr' ∧ a'.defers = a.defers ∧ Agree (dstsOf ops.toList) fr fr' ∧ Q .normal fr' a.defers w'.heap) → Sm w w' → Post (dstsOf ops.toList) true Q fr a w .normal a' w' := by
    rintro a' w' ⟨fr', h1, h2, h3, h4⟩ hsm
    exact ⟨fr', h1, fun _ => h2, h3, by rw [h2]; exact h4, hsm⟩
  obtain ⟨A, k, i, C⟩ := t
  simp only [twoB, Bool.and_eq_true, List.all_eq_true, decide_eq_true_eq, Bool.or_eq_true] at hB
  obtain ⟨⟨⟨⟨⟨⟨⟨hn, hE⟩, hnd⟩, hlt⟩, hall⟩, hp1⟩, hp2⟩, hC⟩ := hB
  have msk : ∀ {x y : Nat}, ((masksFrom ops.toList []).getD x 0).testBit y = true → Waits ops x y := fun {x y} h1 => masks_spec ops.toList [] (fun j => by simp) (fun j k hj => by simp at hj) x y h1
  have prc : ∀ {x y : Nat}, prcB ops (clAt P qf true true ops) (masksFrom ops.toList []) x y = true → Prc ops (clAt P qf true true ops) x y := fun {x y} h1 => by
    simp only [prcB, Bool.or_eq_true] at h1
    rcases h1 with h1 | h1
    · exact .inl (msk h1)
    · exact .inr h1
  have hnd' : (A ++ k :: i :: C).Nodup := (pairsB_ok hnd).imp fun {a b} hab e => by subst e; simp at hab
  have hsub : ∀ {l : List Nat}, (∀ x ∈ l, x ∈ A ++ k :: i :: C) → ∀ x ∈ l, x < ops.size := fun hs x hx => hlt x (hs x hx)
  have tail : ∀ {l : List Nat}, (∀ x ∈ l, x ∈ A ++ k :: i :: C) → ∀ {sk fr' a' H'}, At a' fr' → a'.defers = a.defers → Agree (dstsOf ops.toList) fr fr' → vcOps P qf true true ops (pick ops l) sk fr' H' (fun fr' H' => Q .normal fr' a.defers H') →
      runD true P ops (clAt P qf true true ops) (fun a' H' => ∃ fr', At a' fr' ∧ a'.defers = a.defers ∧ Agree (dstsOf ops.toList) fr fr' ∧ Q .normal fr' a.defers H') l a' H' := by
    intro l hs sk fr' a' H' h1 h2 h3 h4
    rw [runD_A]
    exact runA_of_vcA (fz := true) (ds := a.defers) (W := dstsOf ops.toList) (fr₀ := fr) (fun h => by cases h) (fun _ => rfl) (fun sk fr a H p1 p2 p3 p4 H' hx => ⟨fr, p1, p2, p3, p4 H' hx⟩) l _ sk fr' a' H' (pick_ok (hsub hs)) (fun d hd => pick_dsts d hd) h1 h2 h3 (vcA_of_ops _ _ _ _ _ h4)
  have hA := runA_of_vcA (P := P) (qf := qf) (dr := true) (q := true) (all := ops) (fz := true) (ds := a.defers) (W := dstsOf ops.toList) (fr₀ := fr) (fun h => by cases h) (fun _ => rfl)
    (K' := fun a' H' => runD true P ops (clAt P qf true true ops) (fun a' H' => ∃ fr', At a' fr' ∧ a'.defers = a.defers ∧ Agree (dstsOf ops.toList) fr fr' ∧ Q .normal fr' a.defers H') (k :: i :: C) a' H' ∧ runD true P ops (clAt P qf true true ops) (fun a' H' => ∃ fr', At a' fr' ∧ a'.defers = a.defers ∧ Agree (dstsOf ops.toList) fr fr' ∧ Q .normal fr' a.defers H') (i :: k :: C) a' H')
    (fun sk fr' a' H' p1 p2 p3 p4 => ⟨tail (fun x hx => List.mem_append_right _ hx) p1 p2 p3 p4.1, tail (l := i :: k :: C) (fun x hx => List.mem_append_right _ ((List.Perm.swap k i C).mem_iff.1 hx)) p1 p2 p3 p4.2⟩)
    A _ [] fr a w.heap (pick_ok (hsub fun x hx => List.mem_append_left _ hx)) (fun d hd => pick_dsts d hd) ha rfl (Agree.refl _ _) h
  refine wpIn_region_any hm ?_
  have hlen : ops.size = A.length + 2 + C.length := by
    have hperm : List.Perm (List.range ops.size) (A ++ k :: i :: C) := by
      refine (List.perm_ext_iff_of_nodup List.nodup_range hnd').2 fun x => ?_
      rw [List.mem_range]
      exact ⟨fun hx => by simpa using hall x (List.mem_range.2 hx), fun hx => hlt x hx⟩
    have := hperm.length_eq
    simp at this; omega
  have hmem : ∀ j, j ∈ A ++ k :: i :: C ↔ j < ops.size := fun j => ⟨fun hx => hlt j hx, fun hx => by simpa using hall j (List.mem_range.2 hx)⟩
  rw [hlen]
  refine any_two (cl := clAt P qf true true ops) (q := true) (w₀ := w) hn hE (fun a' w' hk hsm => out a' w' hk hsm) (fun x hx => (hC x hx).imp msk msk) A _ a w.heap _ hnd' ((pairsB_ok hp1).imp prc) ((pairsB_ok hp2).imp prc) (by simp [hlen]) (fun j => ?_) (fun j oj hj hlj => ?_) (Ex.refl true _) ⟨rfl, rfl, rfl⟩ hA
  · rw [hmem]
    simp only [← hlen, Array.getD_eq_getD_getElem?, Array.getElem?_replicate]
    constructor
    · intro hi; exact ⟨hi, by rw [if_pos hi]; rfl⟩
    · exact fun h => h.1
  · simp only [← hlen, Array.getD_eq_getD_getElem?, Array.getElem?_replicate] at hlj
    split at hlj <;> cases hlj
end Go.Vc
