/- Vc, part Q: a region in an order of one's choice; and one where one load may come ahead of one operation that writes, or behind it, and finds the same. -/
import Derived.Test.YtacfcgoighnioaaGreatVcP
set_option linter.unusedVariables false
set_option linter.unusedSimpArgs false
namespace Go.Vc

section
variable {q : Bool} {P : Program} {ops : Array Oper} {cl : Nat → Cls}
/-- k finds v, ahead of i and behind it. -/
def pairL (q : Bool) (P : Program) (ops : Array Oper) (k i : Nat) (K : Act → Hp → Prop) (a : Act) (H : Hp) : Prop :=
  ∃ ok oi v, ops[k]? = some ok ∧ ops[i]? = some oi ∧ ok.apart ops oi = true ∧ Region.wanted ok (yielded ops a.tmps) = true ∧ Region.wanted oi (yielded ops a.tmps) = true ∧
    Qw q P (execOp a.eval ok) H v ∧ ∀ H', Ex q H H' → Eff P (execOp a.eval oi) H' fun u H'' => Qw q P (execOp a.eval ok) H'' v ∧ K ((a.put ok.dst v).put oi.dst u) H''
theorem pairL_both (hn : noSelB ops = true) {k i : Nat} (ck : cl k = .quiet) (ci : cl i = .eff) {K : Act → Hp → Prop} {a : Act} {H : Hp} (h : pairL q P ops k i K a H) :
    stepD q P ops cl k (stepD q P ops cl i K) a H ∧ stepD q P ops cl i (stepD q P ops cl k K) a H := by
  obtain ⟨ok, oi, v, hk, hi, hap, wk, wi, hv, hK⟩ := h
  obtain ⟨h1, h2, h3⟩ := Oper.apart_spec hap
  have nk := (noSel_spec hn hk).1
  have ni := (noSel_spec hn hi).1
  have ek : ∀ v, execOp (a.put oi.dst v).eval ok = execOp a.eval ok := fun v => execOp_put ok nk a oi.dst v h3
  have ei : ∀ v, execOp (a.put ok.dst v).eval oi = execOp a.eval oi := fun v => execOp_put oi ni a ok.dst v h1
  have wk' : ∀ v, Region.wanted ok (yielded ops (a.put oi.dst v).tmps) = Region.wanted ok (yielded ops a.tmps) := fun v => wanted_put ok a oi.dst v h3
  have wi' : ∀ v, Region.wanted oi (yielded ops (a.put ok.dst v).tmps) = Region.wanted oi (yielded ops a.tmps) := fun v => wanted_put oi a ok.dst v h1
  have pc : ∀ v u, (a.put oi.dst v).put ok.dst u = (a.put ok.dst u).put oi.dst v := fun v u => (Act.put_comm a u v h2).symm
  constructor
  · simp only [stepD, hk, hi, wk, wi, wi', ei, ck, ci, if_true]
    exact ⟨v, hv, fun H' hx => (hK H' hx).mono fun u H'' hh => hh.2⟩
  · simp only [stepD, hk, hi, wk, wi, wk', ek, ck, ci, if_true]
    exact fun H' hx => (hK H' hx).mono fun u H'' hh => ⟨v, hh.1, by rw [pc]; exact hh.2⟩
end

def ordB (ops : Array Oper) (cl : Nat → Cls) (l : List Nat) : Bool :=
  let ms := masksFrom ops.toList []
  noSelB ops && edgesB ops && pairsB (fun a b => !(Nat.beq a b)) l && l.all (fun x => decide (x < ops.size)) && (List.range ops.size).all (fun x => l.contains x) && pairsB (prcB ops cl ms) l

section
variable {P : Program} {qf : FuncId → Bool} {r : Option Nat} {ops : Array Oper} {id : Nat}
theorem msk {x y : Nat} (h1 : ((masksFrom ops.toList []).getD x 0).testBit y = true) : Waits ops x y := masks_spec ops.toList [] (fun j => by simp) (fun j k hj => by simp at hj) x y h1
theorem prc_of {cl : Nat → Cls} {x y : Nat} (h1 : prcB ops cl (masksFrom ops.toList []) x y = true) : Prc ops cl x y := by
  simp only [prcB, Bool.or_eq_true] at h1
  rcases h1 with h1 | h1
  · exact .inl (msk h1)
  · exact .inr h1
theorem perm_len {l : List Nat} (hnd : l.Nodup) (hlt : ∀ x ∈ l, x < ops.size) (hall : ∀ x, x < ops.size → x ∈ l) : ops.size = l.length := by
  have hperm : List.Perm (List.range ops.size) l := by
    refine (List.perm_ext_iff_of_nodup List.nodup_range hnd).2 fun x => ?_
    rw [List.mem_range]
    exact ⟨fun hx => hall x hx, fun hx => hlt x hx⟩
  have := hperm.length_eq
  simpa using this
theorem post_of {Q : Exit → Ks} {fr : Fr} {a : Act} {w : World} {a' : Act} {w' : World} (h : ∃ fr', At a' fr' ∧ a'.defers = a.defers ∧ Agree (dstsOf ops.toList) fr fr' ∧ Q .normal fr' a.defers w'.heap) (hsm : Sm w w') : Post (dstsOf ops.toList) true Q fr a w .normal a' w' := by
  obtain ⟨fr', h1, h2, h3, h4⟩ := h
  exact ⟨fr', h1, fun _ => h2, h3, by rw [h2]; exact h4, hsm⟩

theorem ord_sound {l : List Nat} (hm : P.follows .mixedOrders = true) (hB : ordB ops (clAt P qf true true ops) l = true) {Q : Exit → Ks} {fr : Fr} {a : Act} {w : World} (ha : At a fr) (h : vcOps P qf true true ops (pick ops l) [] fr w.heap fun fr' H' => Q .normal fr' a.defers H') :
    (Code.region id ops true).wpIn (wideR r) 0 P (Post (dstsOf ops.toList) true Q fr a w) a w := by
  simp only [ordB, Bool.and_eq_true, List.all_eq_true, decide_eq_true_eq] at hB
  obtain ⟨⟨⟨⟨⟨hn, hE⟩, hnd⟩, hlt⟩, hall⟩, hp⟩ := hB
  have hnd' : l.Nodup := (pairsB_ok hnd).imp fun {a b} hab e => by subst e; simp at hab
  have hall' : ∀ x, x < ops.size → x ∈ l := fun x hx => by simpa using hall x (List.mem_range.2 hx)
  have hlen := perm_len hnd' hlt hall'
  have hrun : runD true P ops (clAt P qf true true ops) (fun a' H' => ∃ fr', At a' fr' ∧ a'.defers = a.defers ∧ Agree (dstsOf ops.toList) fr fr' ∧ Q .normal fr' a.defers H') l a w.heap := by
    rw [runD_A]
    exact runA_of_vcA (fz := true) (ds := a.defers) (W := dstsOf ops.toList) (fr₀ := fr) (fun h => by cases h) (fun _ => rfl) (fun sk fr a H p1 p2 p3 p4 H' hx => ⟨fr, p1, p2, p3, p4 H' hx⟩) l _ [] fr a w.heap (pick_ok hlt) (fun d hd => pick_dsts d hd) ha rfl (Agree.refl _ _) (vcA_of_ops _ _ _ _ _ h)
  refine wpIn_region_any hm ?_
  rw [hlen]
  have hmem : ∀ j, j ∈ l ↔ j < ops.size := fun j => ⟨fun hx => hlt j hx, fun hx => hall' j hx⟩
  refine any_one (cl := clAt P qf true true ops) (q := true) (w₀ := w) hn hE (fun a' w' hk hsm => post_of hk hsm) l _ a w.heap _ hnd' ((pairsB_ok hp).imp prc_of) (by simp [hlen]) (fun j => ?_) (fun j oj hj hlj => ?_) (Ex.refl true _) ⟨rfl, rfl, rfl⟩ hrun
  · rw [hmem]
    simp only [← hlen, Array.getD_eq_getD_getElem?, Array.getElem?_replicate]
    constructor
    · intro hi; exact ⟨hi, by rw [if_pos hi]; rfl⟩
    · exact fun h => h.1
  · simp only [← hlen, Array.getD_eq_getD_getElem?, Array.getElem?_replicate] at hlj
    split at hlj <;> cases hlj

/-- The pair, in words: a load and an operation that is no load. -/
def vcPair (P : Program) (qf : FuncId → Bool) (ops : Array Oper) (t : Two) (sk : List Nat) (fr : Fr) (H : Hp) (K : Fr → Hp → Prop) : Prop :=
  ∃ ok oi v, ops[t.k]? = some ok ∧ ops[t.i]? = some oi ∧ ok.guard = none ∧ oi.guard = none ∧ vcOp P qf true true ok (ev fr) H (fun u _ => u = v) ∧
    vcOp P qf true true oi (ev fr) H fun u H' => vcOp P qf true true ok (ev fr) H' (fun u _ => u = v) ∧ vcOps P qf true true ops (pick ops t.C) sk (putF (putF fr ok.dst v) oi.dst u) H' K
def vcLd (P : Program) (qf : FuncId → Bool) (ops : Array Oper) (t : Two) (fr : Fr) (H : Hp) (K : Fr → Hp → Prop) : Prop :=
  vcA P qf true true ops (pick ops t.A) [] fr H fun sk fr H => vcPair P qf ops t sk fr H K
def ldB (ops : Array Oper) (cl : Nat → Cls) (t : Two) : Bool :=
  twoB ops cl t && (match ops[t.k]?, ops[t.i]? with | some ok, some oi => ok.apart ops oi | _, _ => false) && decide (cl t.k = .quiet) && decide (cl t.i = .eff)

theorem ld_sound {t : Two} (hm : P.follows .mixedOrders = true) (hB : ldB ops (clAt P qf true true ops) t = true) {Q : Exit → Ks} {fr : Fr} {a : Act} {w : World} (ha : At a fr) (h : vcLd P qf ops t fr w.heap fun fr' H' => Q .normal fr' a.defers H') :
    (Code.region id ops true).wpIn (wideR r) 0 P (Post (dstsOf ops.toList) true Q fr a w) a w := by
  obtain ⟨A, k, i, C⟩ := t
  simp only [ldB, Bool.and_eq_true, decide_eq_true_eq] at hB
  obtain ⟨⟨⟨hB, hap⟩, ck⟩, ci⟩ := hB
  simp only [twoB, Bool.and_eq_true, List.all_eq_true, decide_eq_true_eq, Bool.or_eq_true] at hB
  obtain ⟨⟨⟨⟨⟨⟨⟨hn, hE⟩, hnd⟩, hlt⟩, hall⟩, hp1⟩, hp2⟩, hC⟩ := hB
  have hnd' : (A ++ k :: i :: C).Nodup := (pairsB_ok hnd).imp fun {a b} hab e => by subst e; simp at hab
  have hall' : ∀ x, x < ops.size → x ∈ A ++ k :: i :: C := fun x hx => by simpa using hall x (List.mem_range.2 hx)
  have hsub : ∀ {l : List Nat}, (∀ x ∈ l, x ∈ A ++ k :: i :: C) → ∀ x ∈ l, x < ops.size := fun hs x hx => hlt x (hs x hx)
  have clo : ∀ {j : Nat} {o : Oper} {c : Cls}, ops[j]? = some o → clAt P qf true true ops j = c → c ≠ .fresh → clsOf P qf o = c := fun {j o c} hj hc hne => by
    simp only [clAt, hj] at hc
    cases hz : (true && freshOp o) with
    | true => rw [hz] at hc; exact absurd hc.symm hne
    | false => rw [hz] at hc; exact hc
  have tail : ∀ {sk fr' a' H'}, At a' fr' → a'.defers = a.defers → Agree (dstsOf ops.toList) fr fr' → vcOps P qf true true ops (pick ops C) sk fr' H' (fun fr' H' => Q .normal fr' a.defers H') →
      runD true P ops (clAt P qf true true ops) (fun a' H' => ∃ fr', At a' fr' ∧ a'.defers = a.defers ∧ Agree (dstsOf ops.toList) fr fr' ∧ Q .normal fr' a.defers H') C a' H' := by
    intro sk fr' a' H' h1 h2 h3 h4
    rw [runD_A]
    exact runA_of_vcA (fz := true) (ds := a.defers) (W := dstsOf ops.toList) (fr₀ := fr) (fun h => by cases h) (fun _ => rfl) (fun sk fr a H p1 p2 p3 p4 H' hx => ⟨fr, p1, p2, p3, p4 H' hx⟩) C _ sk fr' a' H' (pick_ok (hsub fun x hx => List.mem_append_right _ (List.mem_cons_of_mem _ (List.mem_cons_of_mem _ hx)))) (fun d hd => pick_dsts d hd) h1 h2 h3 (vcA_of_ops _ _ _ _ _ h4)
  have hdst : ∀ {j : Nat} {o : Oper}, ops[j]? = some o → ∀ d, o.dst = some d → d ∈ dstsOf ops.toList := fun {j o} hj d hd => by
    unfold dstsOf
    exact List.mem_filterMap.2 ⟨o, by simpa using Array.mem_of_getElem? hj, hd⟩
  have hA := runA_of_vcA (P := P) (qf := qf) (dr := true) (q := true) (all := ops) (fz := true) (ds := a.defers) (W := dstsOf ops.toList) (fr₀ := fr) (fun h => by cases h) (fun _ => rfl)
    (K' := fun a' H' => runD true P ops (clAt P qf true true ops) (fun a' H' => ∃ fr', At a' fr' ∧ a'.defers = a.defers ∧ Agree (dstsOf ops.toList) fr fr' ∧ Q .normal fr' a.defers H') (k :: i :: C) a' H' ∧ runD true P ops (clAt P qf true true ops) (fun a' H' => ∃ fr', At a' fr' ∧ a'.defers = a.defers ∧ Agree (dstsOf ops.toList) fr fr' ∧ Q .normal fr' a.defers H') (i :: k :: C) a' H')
    (fun sk fr' a' H' p1 p2 p3 p4 => by
      obtain ⟨ok, oi, v, hk, hi, gk, gi, hv, hK⟩ := p4
      simp only at hk hi hK
      refine pairL_both (q := true) hn ck ci ⟨ok, oi, v, hk, hi, ?_, by simp [Region.wanted, gk], by simp [Region.wanted, gi], ?_, fun H2 hx => ?_⟩
      · simp only [hk, hi] at hap; exact hap
      · rw [p1.ev]
        obtain ⟨v', h1, h2⟩ := quietS (Good_ev fr') (clo hk ck (by simp)) hv
        rw [h2] at h1; exact h1
      · rw [p1.ev]
        refine (effS (Good_ev fr') (.inl (clo hi ci (by simp))) (forX_op (clo hi ci (by simp)) hK hx)).mono fun u H3 hh => ⟨?_, ?_⟩
        · obtain ⟨v', h1, h2⟩ := quietS (Good_ev fr') (clo hk ck (by simp)) hh.1
          rw [h2] at h1; exact h1
        · refine tail ((p1.put ok.dst v).put oi.dst u) ?_ ((p3.trans (Agree.put (hdst hk))).trans (Agree.put (hdst hi))) hh.2
          rw [← p2]
          cases ok.dst <;> cases oi.dst <;> rfl)
    A _ [] fr a w.heap (pick_ok (hsub fun x hx => List.mem_append_left _ hx)) (fun d hd => pick_dsts d hd) ha rfl (Agree.refl _ _) h
  have hlen0 := perm_len hnd' hlt hall'
  refine wpIn_region_any hm ?_
  have hlen : ops.size = A.length + 2 + C.length := by rw [hlen0]; simp; omega
  have hmem : ∀ j, j ∈ A ++ k :: i :: C ↔ j < ops.size := fun j => ⟨fun hx => hlt j hx, fun hx => hall' j hx⟩
  rw [hlen]
  refine any_two (cl := clAt P qf true true ops) (q := true) (w₀ := w) hn hE (fun a' w' hk hsm => post_of hk hsm) (fun x hx => (hC x hx).imp msk msk) A _ a w.heap _ hnd' ((pairsB_ok hp1).imp prc_of) ((pairsB_ok hp2).imp prc_of) (by simp [hlen]) (fun j => ?_) (fun j oj hj hlj => ?_) (Ex.refl true _) ⟨rfl, rfl, rfl⟩ hA
  · rw [hmem]
    simp only [← hlen, Array.getD_eq_getD_getElem?, Array.getElem?_replicate]
    constructor
    · intro hi; exact ⟨hi, by rw [if_pos hi]; rfl⟩
    · exact fun h => h.1
  · simp only [← hlen, Array.getD_eq_getD_getElem?, Array.getElem?_replicate] at hlj
    split at hlj <;> cases hlj
end
end Go.Vc
