/- Vc, part R: a region whose orders are a tree of walks. -/
import Derived.Test.YtacfcgoighnioaaGreatVcQ
set_option linter.unusedVariables false
set_option linter.unusedSimpArgs false
namespace Go.Vc

mutual
/-- line: what is left, in one order that serves every order; fork: first A, then one of several operations, each with what is left behind it. -/
inductive OT
  | line (l : List Nat)
  | fork (A : List Nat) (bs : OB)
inductive OB
  | nil
  | cons (i : Nat) (t : OT) (bs : OB)
end
def heads : OB → List Nat
  | .nil => []
  | .cons i _ bs => i :: heads bs

section
variable (q : Bool) (P : Program) (ops : Array Oper) (cl : Nat → Cls) (K : Act → Hp → Prop)
mutual
def runT : OT → Act → Hp → Prop
  | .line l => runD q P ops cl K l
  | .fork A bs => runA q P ops cl A (runB bs)
def runB : OB → Act → Hp → Prop
  | .nil => fun _ _ => True
  | .cons i t bs => fun a H => stepD q P ops cl i (runT t) a H ∧ runB bs a H
end
mutual
def ValT : OT → List Nat → (Nat → Prop) → Prop
  | .line l, A, R => (A ++ l).Nodup ∧ (A ++ l).Pairwise (Prc ops cl) ∧ ∀ x, x ∈ A ++ l ↔ R x
  | .fork B bs, A, R => (A ++ B).Nodup ∧ (A ++ B).Pairwise (Prc ops cl) ∧ (∀ x ∈ A ++ B, R x) ∧ (∀ x, R x → x ∈ A ++ B ∨ x ∈ heads bs ∨ ∃ h ∈ heads bs, Waits ops x h) ∧ (∀ h ∈ heads bs, R h ∧ h ∉ A ++ B) ∧ (∃ h, h ∈ heads bs) ∧ ValB bs (A ++ B) R
def ValB : OB → List Nat → (Nat → Prop) → Prop
  | .nil, _, _ => True
  | .cons i t bs, A, R => (∀ k ∈ A, Prc ops cl k i) ∧ ValT t A (fun x => R x ∧ x ≠ i) ∧ ValB bs A R
end
end

section
variable {q : Bool} {P : Program} {ops : Array Oper} {cl : Nat → Cls} {K : Act → Hp → Prop}
theorem mem_mid {l1 l2 : List Nat} {i x : Nat} (hnd : (l1 ++ i :: l2).Nodup) : x ∈ l1 ++ l2 ↔ x ∈ l1 ++ i :: l2 ∧ x ≠ i := by
  rw [List.nodup_append] at hnd
  obtain ⟨_, h2, h3⟩ := hnd
  have h4 := (List.nodup_cons.1 h2).1
  have h5 : i ∉ l1 := fun hm => h3 i hm i List.mem_cons_self rfl
  by_cases hx : x = i
  · subst hx; simp [h4, h5]
  · simp [hx]
theorem minus_comm {R : Nat → Prop} {i j : Nat} : (fun x => (R x ∧ x ≠ i) ∧ x ≠ j) = fun x => (R x ∧ x ≠ j) ∧ x ≠ i := by
  funext x; apply propext; constructor <;> rintro ⟨⟨a, b⟩, c⟩ <;> exact ⟨⟨a, c⟩, b⟩
mutual
theorem ValT_drop : ∀ (t : OT) {l1 l2 : List Nat} {i : Nat} {R : Nat → Prop}, ValT ops cl t (l1 ++ i :: l2) R → ValT ops cl t (l1 ++ l2) (fun x => R x ∧ x ≠ i)
  | .line l, l1, l2, i, R, h => by
    simp only [ValT, List.append_assoc, List.cons_append] at h ⊢
    obtain ⟨h1, h2, h3⟩ := h
    exact ⟨h1.sublist (by simp), pw_drop h2, fun x => by rw [mem_mid h1, h3]⟩
  | .fork B bs, l1, l2, i, R, h => by
    simp only [ValT] at h ⊢
    simp only [List.append_assoc, List.cons_append] at h ⊢
    obtain ⟨h1, h2, h3, h4, h5, hh, h6⟩ := h
    refine ⟨h1.sublist (by simp), pw_drop h2, fun x hx => ?_, fun x hx => ?_, fun y hy => ?_, hh, ?_⟩
    · rw [mem_mid h1] at hx; exact ⟨h3 x hx.1, hx.2⟩
    · rcases h4 x hx.1 with h7 | h7
      · exact .inl ((mem_mid h1).2 ⟨h7, hx.2⟩)
      · exact .inr h7
    · obtain ⟨h7, h8⟩ := h5 y hy
      refine ⟨⟨h7, fun e => h8 (by rw [e]; simp)⟩, fun hm => h8 ((mem_mid h1).1 hm).1⟩
    · exact ValB_drop bs h6
theorem ValB_drop : ∀ (bs : OB) {l1 l2 : List Nat} {i : Nat} {R : Nat → Prop}, ValB ops cl bs (l1 ++ i :: l2) R → ValB ops cl bs (l1 ++ l2) (fun x => R x ∧ x ≠ i)
  | .nil, _, _, _, _, _ => by simp only [ValB]
  | .cons j t bs, l1, l2, i, R, h => by
    simp only [ValB] at h ⊢
    obtain ⟨h1, h2, h3⟩ := h
    refine ⟨fun k hk => h1 k ?_, ?_, ValB_drop bs h3⟩
    · rcases List.mem_append.1 hk with h4 | h4
      · exact List.mem_append_left _ h4
      · exact List.mem_append_right _ (List.mem_cons_of_mem _ h4)
    · have := ValT_drop t h2
      rw [minus_comm] at this; exact this
end
theorem ValB_head : ∀ (bs : OB) {A : List Nat} {R : Nat → Prop} {i : Nat}, ValB ops cl bs A R → i ∈ heads bs → ∃ t, (∀ k ∈ A, Prc ops cl k i) ∧ ValT ops cl t A (fun x => R x ∧ x ≠ i) ∧ ∀ a H, runB q P ops cl K bs a H → stepD q P ops cl i (runT q P ops cl K t) a H
  | .nil, _, _, _, _, hi => by simp [heads] at hi
  | .cons j t bs, A, R, i, h, hi => by
    simp only [ValB] at h
    obtain ⟨h1, h2, h3⟩ := h
    simp only [heads, List.mem_cons] at hi
    by_cases hij : i = j
    · subst hij
      exact ⟨t, h1, h2, fun a H hr => by simp only [runB] at hr; exact hr.1⟩
    · obtain ⟨t', q1, q2, q3⟩ := ValB_head bs h3 (hi.resolve_left hij)
      exact ⟨t', q1, q2, fun a H hr => q3 a H (by simp only [runB] at hr; exact hr.2)⟩

variable {r : Option Nat} {Q : Exit → Act → World → Prop} {w₀ : World}
theorem any_tree (hn : noSelB ops = true) (hE : edgesB ops = true) (hQ : ∀ a w, K a w.heap → Sm w₀ w → Q .normal a w) : ∀ (n : Nat) (R : List Nat) (t : OT) (A : List Nat) (listed : Array Bool) (a : Act) (H : Hp) (w : World),
      R.length = n → R.Nodup → ValT ops cl t A (· ∈ R) → listed.size = ops.size → (∀ i, i ∈ R ↔ i < ops.size ∧ listed.getD i false = false) →
      (∀ j oj, ops[j]? = some oj → listed.getD j false = true → ∀ e ∈ oj.after, Region.binds .any e = true → listed.getD e.on false = true) →
      Ex q H w.heap → Sm w₀ w → runA q P ops cl A (runT q P ops cl K t) a H → wpAnyIn (wideR r) 0 P .any ops Q n listed a w := by
  intro n
  induction n with
  | zero => ?_
  | succ n ih => ?_
  all_goals
    intro R t A listed a H w hlen hnd hV hsz hl hcl hx hsm h
    cases t with
    | line l => ?_
    | fork B bs => ?_
  case zero.line | succ.line =>
    simp only [ValT] at hV
    obtain ⟨h1, h2, h3⟩ := hV
    have hlen2 : (A ++ l).length = R.length := (List.Perm.length_eq ((List.perm_ext_iff_of_nodup h1 hnd).2 h3))
    simp only [runT] at h
    rw [hlen] at hlen2
    refine (fun hw => by rw [hlen2] at hw; exact hw : wpAnyIn (wideR r) 0 P .any ops Q (A ++ l).length listed a w → _) ?_
    refine any_one hn hE hQ (A ++ l) listed a H w h1 h2 hsz (fun i => by rw [h3, hl]) hcl hx hsm ?_
    rw [runD_A]
    rw [show runD q P ops cl K l = _ from runD_A l] at h
    exact runA_app _ _ _ _ h
  case zero.fork =>
    have hR : R = [] := List.eq_nil_of_length_eq_zero hlen
    subst hR
    simp only [ValT] at hV
    obtain ⟨h1, h2, h3, h4, h5, ⟨x, hx⟩, h6⟩ := hV
    have := (h5 x hx).1
    simp at this
  case succ.fork =>
    simp only [ValT] at hV
    obtain ⟨h1, h2, h3, h4, h5, hh, h6⟩ := hV
    simp only [runT] at h
    have h := runA_app _ _ _ _ h
    refine ⟨fun hr => (by have := rdy_emp hE hsz hl hr; rw [this] at hlen; cases hlen), fun i hi => ?_⟩
    have him := rdy_mem hsz hl hi
    obtain ⟨_, oi, hoi, hall⟩ := mem_ready.1 hi
    have hlt : i < ops.size := (Array.getElem?_eq_some_iff.1 hoi).1
    have not : ∀ k ∈ R, ¬ Waits ops i k := fun k hk hw => by
      have h2 := hw.listed hcl fun o ho e he hb => by rw [hoi] at ho; cases ho; exact hall e he hb
      rw [((hl k).1 hk).2] at h2; cases h2
    obtain ⟨r1, r2, rfl⟩ := List.append_of_mem him
    have hR : (fun x => x ∈ r1 ++ i :: r2 ∧ x ≠ i) = fun x => x ∈ r1 ++ r2 := by
      funext x; exact propext (mem_mid hnd).symm
    have go : ∀ {t' : OT} {A' : List Nat}, ValT ops cl t' A' (fun x => x ∈ r1 ++ i :: r2 ∧ x ≠ i) → stepD q P ops cl i (runA q P ops cl A' (runT q P ops cl K t')) a H → wpOpIn (wideR r) 0 P ops Q i (fun a w => wpAnyIn (wideR r) 0 P .any ops Q n (listed.setIfInBounds i true) a w) a w := by
      intro t' A' hV' hs
      rw [hR] at hV'
      refine wpOpIn_of_stepD hn hx hs fun a' H' w' hr hx' hsm' => ?_
      exact ih (r1 ++ r2) t' A' (listed.setIfInBounds i true) a' H' w' (by simp at hlen ⊢; omega) (hnd.sublist (by simp)) hV' (by simp [hsz]) (listed_step hsz hlt hnd hl) (closed_step hsz hi hcl) hx' (hsm.trans hsm') hr
    have free : ∀ k ∈ A ++ B, listed.getD k false = false := fun k hk => ((hl k).1 (h3 k hk)).2
    rcases h4 i him with h7 | h7 | ⟨hd, h7, h8⟩
    · obtain ⟨l1, l2, he⟩ := List.append_of_mem h7
      rw [he] at h h1 h2 h3 h4 h5 h6 free
      have hp := runA_pull hn l1 a H (swaps (fun k hk => free k (List.mem_append_left _ hk)) hi hcl (pw_left h2)) h
      refine go (t' := .fork (l1 ++ l2) bs) (A' := []) ?_ hp
      have hT : ValT ops cl (.fork [] bs) (l1 ++ i :: l2) (· ∈ r1 ++ i :: r2) := by
        simp only [ValT, List.append_nil]
        exact ⟨h1, h2, h3, h4, h5, hh, h6⟩
      have := ValT_drop _ hT
      simp only [ValT, List.append_nil, List.nil_append] at this ⊢
      exact this
    · obtain ⟨t', q1, q2, q3⟩ := ValB_head (q := q) (P := P) (K := K) bs h6 h7
      have h8 : runA q P ops cl ((A ++ B) ++ i :: []) (runT q P ops cl K t') a H := runA_app _ _ _ _ (runA_mono (fun a H hr => q3 a H hr) _ a H h)
      have hp := runA_pull hn (A ++ B) a H (swaps free hi hcl q1) h8
      rw [List.append_nil] at hp
      exact go q2 hp
    · exact absurd h8 (not hd (h5 hd h7).1)

/-! ### The test -/
def nodB (l : List Nat) : Bool := pairsB (fun a b => !(Nat.beq a b)) l
theorem nodB_ok {l : List Nat} (h : nodB l = true) : l.Nodup := (pairsB_ok h).imp fun {a b} hab e => by subst e; simp at hab
mutual
def valTB (ops : Array Oper) (cl : Nat → Cls) (ms : List Nat) : OT → List Nat → List Nat → Bool
  | .line l, A, R => nodB (A ++ l) && pairsB (prcB ops cl ms) (A ++ l) && (A ++ l).all (R.contains ·) && R.all ((A ++ l).contains ·)
  | .fork B bs, A, R => nodB (A ++ B) && pairsB (prcB ops cl ms) (A ++ B) && (A ++ B).all (R.contains ·) && R.all (fun x => (A ++ B).contains x || (heads bs).contains x || (heads bs).any fun h => (ms.getD x 0).testBit h) &&
      (heads bs).all (fun h => R.contains h && !(A ++ B).contains h) && !(heads bs).isEmpty && valBB ops cl ms bs (A ++ B) R
def valBB (ops : Array Oper) (cl : Nat → Cls) (ms : List Nat) : OB → List Nat → List Nat → Bool
  | .nil, _, _ => true
  | .cons i t bs, A, R => A.all (fun k => prcB ops cl ms k i) && valTB ops cl ms t A (R.filter fun x => !(Nat.beq x i)) && valBB ops cl ms bs A R
end
theorem filter_ne (R : List Nat) (i : Nat) : (· ∈ R.filter fun x => !(Nat.beq x i)) = fun x => x ∈ R ∧ x ≠ i := by
  funext x
  apply propext
  rw [List.mem_filter]
  constructor
  · rintro ⟨h1, h2⟩
    exact ⟨h1, fun e => by subst e; simp at h2⟩
  · rintro ⟨h1, h2⟩
    refine ⟨h1, ?_⟩
    cases hb : Nat.beq x i with
    | false => rfl
    | true => exact absurd (Nat.eq_of_beq_eq_true hb) h2
mutual
theorem valTB_ok {ms : List Nat} (hms : ms = masksFrom ops.toList []) : ∀ (t : OT) {A R : List Nat}, valTB ops cl ms t A R = true → ValT ops cl t A (· ∈ R)
  | .line l, A, R, h => by
    simp only [valTB, Bool.and_eq_true, List.all_eq_true, List.contains_iff_mem] at h
    simp only [ValT]
    obtain ⟨⟨⟨h1, h2⟩, h3⟩, h4⟩ := h
    subst hms
    exact ⟨nodB_ok h1, (pairsB_ok h2).imp prc_of, fun x => ⟨fun hx => h3 x hx, fun hx => h4 x hx⟩⟩
  | .fork B bs, A, R, h => by
    simp only [valTB, Bool.and_eq_true, List.all_eq_true, List.contains_iff_mem, Bool.or_eq_true, List.any_eq_true, Bool.not_eq_true'] at h
    simp only [ValT]
    obtain ⟨⟨⟨⟨⟨⟨h1, h2⟩, h3⟩, h4⟩, h5⟩, h6⟩, h7⟩ := h
    refine ⟨nodB_ok h1, ?_, fun x hx => h3 x hx, fun x hx => ?_, fun x hx => ⟨(h5 x hx).1, fun hm => ?_⟩, ?_, valBB_ok hms bs h7⟩
    · subst hms; exact (pairsB_ok h2).imp prc_of
    · rcases h4 x hx with (h8 | h8) | ⟨y, h8, h9⟩
      · exact .inl h8
      · exact .inr (.inl h8)
      · subst hms; exact .inr (.inr ⟨y, h8, msk h9⟩)
    · have := (h5 x hx).2
      have h9 : (A ++ B).contains x = true := List.contains_iff_mem.2 hm
      rw [h9] at this; cases this
    · cases hh : heads bs with
      | nil => rw [hh] at h6; cases h6
      | cons x l => exact ⟨x, List.mem_cons_self⟩
theorem valBB_ok {ms : List Nat} (hms : ms = masksFrom ops.toList []) : ∀ (bs : OB) {A R : List Nat}, valBB ops cl ms bs A R = true → ValB ops cl bs A (· ∈ R)
  | .nil, _, _, _ => by simp only [ValB]
  | .cons i t bs, A, R, h => by
    simp only [valBB, Bool.and_eq_true, List.all_eq_true] at h
    simp only [ValB]
    obtain ⟨⟨h1, h2⟩, h3⟩ := h
    refine ⟨fun k hk => ?_, ?_, valBB_ok hms bs h3⟩
    · have := h1 k hk
      subst hms; exact prc_of this
    · have := valTB_ok hms t h2
      rw [filter_ne] at this; exact this
end
def treeB (ops : Array Oper) (cl : Nat → Cls) (t : OT) : Bool := noSelB ops && edgesB ops && valTB ops cl (masksFrom ops.toList []) t [] (List.range ops.size)
end

/-! ### In words -/
section
variable (P : Program) (qf : FuncId → Bool) (ops : Array Oper) (K : Fr → Hp → Prop)
mutual
def vcT : OT → List Nat → Fr → Hp → Prop
  | .line l => fun sk fr H => vcOps P qf true true ops (pick ops l) sk fr H K
  | .fork A bs => fun sk fr H => vcA P qf true true ops (pick ops A) sk fr H (vcB bs)
def vcB : OB → List Nat → Fr → Hp → Prop
  | .nil => fun _ _ _ => True
  | .cons i t bs => fun sk fr H => vcA P qf true true ops (pick ops [i]) sk fr H (vcT t) ∧ vcB bs sk fr H
end
end
section
variable {P : Program} {qf : FuncId → Bool} {ops : Array Oper} {r : Option Nat} {id : Nat}
mutual
theorem runT_of_vcT {fr₀ : Fr} {ds : List Deferred} {Kv : Fr → Hp → Prop} : ∀ (t : OT) {A : List Nat} {R : Nat → Prop} {cl : Nat → Cls}, ValT ops cl t A R → (∀ x, R x → x < ops.size) → ∀ {sk : List Nat} {fr : Fr} {a : Act} {H : Hp}, At a fr → a.defers = ds → Agree (dstsOf ops.toList) fr₀ fr → vcT P qf ops Kv t sk fr H →
    runT true P ops (clAt P qf true true ops) (fun a' H' => ∃ fr', At a' fr' ∧ a'.defers = ds ∧ Agree (dstsOf ops.toList) fr₀ fr' ∧ Kv fr' H') t a H
  | .line l, A, R, cl, hV, hR, sk, fr, a, H, h1, h2, h3, h => by
    simp only [ValT] at hV
    simp only [vcT] at h
    simp only [runT]
    rw [show runD true P ops (clAt P qf true true ops) _ l = _ from runD_A l]
    exact runA_of_vcA (P := P) (qf := qf) (dr := true) (q := true) (all := ops) (fz := true) (ds := ds) (W := dstsOf ops.toList) (fr₀ := fr₀) (fun h => by cases h) (fun _ => rfl) (fun sk fr a H p1 p2 p3 p4 H' hx => ⟨fr, p1, p2, p3, p4 H' hx⟩) l _ sk fr a H (pick_ok fun x hx => hR x ((hV.2.2 x).1 (List.mem_append_right _ hx))) (fun d hd => pick_dsts d hd) h1 h2 h3 (vcA_of_ops _ _ _ _ _ h)
  | .fork B bs, A, R, cl, hV, hR, sk, fr, a, H, h1, h2, h3, h => by
    simp only [ValT] at hV
    simp only [vcT] at h
    simp only [runT]
    exact runA_of_vcA (K := vcB P qf ops Kv bs) (P := P) (qf := qf) (dr := true) (q := true) (all := ops) (fz := true) (ds := ds) (W := dstsOf ops.toList) (fr₀ := fr₀) (fun h => by cases h) (fun _ => rfl) (fun sk fr a H p1 p2 p3 p4 => runB_of_vcB bs hV.2.2.2.2.2.2 hR (fun x hx => (hV.2.2.2.2.1 x hx).1) p1 p2 p3 p4) B _ sk fr a H (pick_ok fun x hx => hR x (hV.2.2.1 x (List.mem_append_right _ hx))) (fun d hd => pick_dsts d hd) h1 h2 h3 h
theorem runB_of_vcB {fr₀ : Fr} {ds : List Deferred} {Kv : Fr → Hp → Prop} : ∀ (bs : OB) {A : List Nat} {R : Nat → Prop} {cl : Nat → Cls}, ValB ops cl bs A R → (∀ x, R x → x < ops.size) → (∀ x ∈ heads bs, R x) → ∀ {sk : List Nat} {fr : Fr} {a : Act} {H : Hp}, At a fr → a.defers = ds → Agree (dstsOf ops.toList) fr₀ fr → vcB P qf ops Kv bs sk fr H →
    runB true P ops (clAt P qf true true ops) (fun a' H' => ∃ fr', At a' fr' ∧ a'.defers = ds ∧ Agree (dstsOf ops.toList) fr₀ fr' ∧ Kv fr' H') bs a H
  | .nil, _, _, _, _, _, _, _, _, _, _, _, _, _, _ => by simp only [runB]
  | .cons i t bs, A, R, cl, hV, hR, hh, sk, fr, a, H, h1, h2, h3, h => by
    simp only [ValB] at hV
    simp only [vcB] at h
    simp only [runB]
    refine ⟨?_, runB_of_vcB bs hV.2.2 hR (fun x hx => hh x (by simp only [heads]; exact List.mem_cons_of_mem _ hx)) h1 h2 h3 h.2⟩
    exact runA_of_vcA (K := vcT P qf ops Kv t) (P := P) (qf := qf) (dr := true) (q := true) (all := ops) (fz := true) (ds := ds) (W := dstsOf ops.toList) (fr₀ := fr₀) (fun h => by cases h) (fun _ => rfl) (fun sk fr a H p1 p2 p3 p4 => runT_of_vcT t hV.2.1 (fun x hx => hR x hx.1) p1 p2 p3 p4) [i] _ sk fr a H (pick_ok fun x hx => by
      rw [List.mem_singleton] at hx; subst hx
      exact hR x (hh x (by simp [heads]))) (fun d hd => pick_dsts d hd) h1 h2 h3 h.1
end

theorem tree_sound {t : OT} (hm : P.follows .mixedOrders = true) (hB : treeB ops (clAt P qf true true ops) t = true) {Q : Exit → Ks} {fr : Fr} {a : Act} {w : World} (ha : At a fr) (h : vcT P qf ops (fun fr' H' => Q .normal fr' a.defers H') t [] fr w.heap) :
    (Code.region id ops true).wpIn (wideR r) 0 P (Post (dstsOf ops.toList) true Q fr a w) a w := by
  simp only [treeB, Bool.and_eq_true] at hB
  obtain ⟨⟨hn, hE⟩, hV⟩ := hB
  have hV := valTB_ok rfl t hV
  have hrun := runT_of_vcT t hV (fun x hx => List.mem_range.1 hx) (fr₀ := fr) (ds := a.defers) ha rfl (Agree.refl _ _) h
  refine wpIn_region_any hm ?_
  refine any_tree (cl := clAt P qf true true ops) (q := true) (w₀ := w) hn hE (fun a' w' hk hsm => post_of hk hsm) ops.size (List.range ops.size) t [] _ a w.heap _ List.length_range List.nodup_range hV (by simp) (fun j => ?_) (fun j oj hj hlj => ?_) (Ex.refl true _) ⟨rfl, rfl, rfl⟩ hrun
  · rw [List.mem_range]
    simp only [Array.getD_eq_getD_getElem?, Array.getElem?_replicate]
    constructor
    · intro hi; exact ⟨hi, by rw [if_pos hi]; rfl⟩
    · exact fun h => h.1
  · simp only [Array.getD_eq_getD_getElem?, Array.getElem?_replicate] at hlj
    split at hlj <;> cases hlj
end
end Go.Vc
