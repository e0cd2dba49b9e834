/- Vc, part O: a region that draws its order, where one pair of operations may come either way round: two walks serve every order. -/
import Derived.Test.YtacfcgoighnioaaGreatVcN
set_option linter.unusedVariables false
set_option linter.unusedSimpArgs false
namespace Go.Vc

section
variable {q : Bool} {P : Program} {ops : Array Oper} {cl : Nat → Cls}

/-- k, which stands ahead of i, does so in every order, or may come behind it. -/
def Prc (ops : Array Oper) (cl : Nat → Cls) (k i : Nat) : Prop := Waits ops i k ∨ swapB ops cl k i = true

def edgesB (ops : Array Oper) : Bool := ops.toList.zipIdx.all fun (o, i) => o.after.toList.all fun e => !Region.binds .any e || decide (e.on < i)
theorem edges_back (h : edgesB ops = true) {i : Nat} {o : Oper} (hi : ops[i]? = some o) {e : Edge} (he : e ∈ o.after) (hb : Region.binds .any e = true) : e.on < i := by
  have h2 := (List.all_eq_true.1 h) (o, i) (by rw [List.mem_zipIdx_iff_getElem?]; simpa using hi)
  have h3 := (List.all_eq_true.1 h2) e (by simpa using he)
  simpa [hb] using h3

theorem rdy_mem {l : List Nat} {listed : Array Bool} (hsz : listed.size = ops.size) (hl : ∀ i, i ∈ l ↔ i < ops.size ∧ listed.getD i false = false) {i : Nat} (hi : i ∈ Region.ready .any ops listed) : i ∈ l := by
  obtain ⟨h1, o, ho, _⟩ := mem_ready.1 hi
  have hlt : i < ops.size := (Array.getElem?_eq_some_iff.1 ho).1
  refine (hl i).2 ⟨hlt, ?_⟩
  simp [hsz, hlt] at h1 ⊢
  exact h1
theorem rdy_emp (hE : edgesB ops = true) {l : List Nat} {listed : Array Bool} (hsz : listed.size = ops.size) (hl : ∀ i, i ∈ l ↔ i < ops.size ∧ listed.getD i false = false) (hr : Region.ready .any ops listed = []) : l = [] := by
  have none : ∀ n i, i ≤ n → i ∉ l := by
    intro n
    induction n with
    | zero =>
      intro i hi hm
      have h0 := (hl i).1 hm
      obtain ⟨o, ho⟩ : ∃ o, ops[i]? = some o := ⟨_, Array.getElem?_eq_getElem h0.1⟩
      have : i ∈ Region.ready .any ops listed := mem_ready.2 ⟨by simp [hsz, h0.1] at h0 ⊢; exact h0, o, ho, fun e he hb => by have := edges_back hE ho he hb; omega⟩
      rw [hr] at this; cases this
    | succ n ih =>
      intro i hi hm
      have h0 := (hl i).1 hm
      obtain ⟨o, ho⟩ : ∃ o, ops[i]? = some o := ⟨_, Array.getElem?_eq_getElem h0.1⟩
      have : i ∈ Region.ready .any ops listed := mem_ready.2 ⟨by simp [hsz, h0.1] at h0 ⊢; exact h0, o, ho, fun e he hb => by
        have hlt := edges_back hE ho he hb
        cases hg : listed.getD e.on false with
        | true => rfl
        | false => exact absurd ((hl e.on).2 ⟨by omega, hg⟩) (ih e.on (by omega))⟩
      rw [hr] at this; cases this
  cases l with
  | nil => rfl
  | cons i l => exact absurd List.mem_cons_self (none i i (Nat.le_refl i))

/-- What one step leaves of what is known of the order. -/
theorem listed_step {l1 l2 : List Nat} {i : Nat} {listed : Array Bool} (hsz : listed.size = ops.size) (hlt : i < ops.size) (hnd : (l1 ++ i :: l2).Nodup) (hl : ∀ j, j ∈ l1 ++ i :: l2 ↔ j < ops.size ∧ listed.getD j false = false) :
    ∀ j, j ∈ l1 ++ l2 ↔ j < ops.size ∧ (listed.setIfInBounds i true).getD j false = false := by
  intro j
  have hset : (listed.setIfInBounds i true).getD j false = (if j = i then true else listed.getD j false) := by
    by_cases hji : j = i
    · subst hji; simp [hsz, hlt]
    · rw [getD_set_ne false (Ne.symm hji), if_neg hji]
  rw [hset]
  by_cases hji : j = i
  · subst hji
    rw [List.nodup_append] at hnd
    obtain ⟨h1, h2, h3⟩ := hnd
    have := (List.nodup_cons.1 h2).1
    have h4 : j ∉ l1 := fun hm => h3 j hm j List.mem_cons_self rfl
    simp [this, h4]
  · rw [if_neg hji, ← hl j]; simp [hji]
theorem closed_step {i : Nat} {listed : Array Bool} (hsz : listed.size = ops.size) (hi : i ∈ Region.ready .any ops listed)
    (hcl : ∀ j oj, ops[j]? = some oj → listed.getD j false = true → ∀ e ∈ oj.after, Region.binds .any e = true → listed.getD e.on false = true) :
    ∀ j oj, ops[j]? = some oj → (listed.setIfInBounds i true).getD j false = true → ∀ e ∈ oj.after, Region.binds .any e = true → (listed.setIfInBounds i true).getD e.on false = true := by
  obtain ⟨_, oi, hoi, hall⟩ := mem_ready.1 hi
  have hlt : i < ops.size := (Array.getElem?_eq_some_iff.1 hoi).1
  have hset : ∀ j, (listed.setIfInBounds i true).getD j false = (if j = i then true else listed.getD j false) := fun j => by
    by_cases hji : j = i
    · subst hji; simp [hsz, hlt]
    · rw [getD_set_ne false (Ne.symm hji), if_neg hji]
  intro j oj hj hlj e he hb
  rw [hset] at hlj ⊢
  by_cases hei : e.on = i
  · rw [if_pos hei]
  · rw [if_neg hei]
    by_cases hji : j = i
    · subst hji; rw [hoi] at hj; cases hj; exact hall e he hb
    · rw [if_neg hji] at hlj; exact hcl j oj hj hlj e he hb

/-- A stretch of operations, with what follows it. -/
def runA (q : Bool) (P : Program) (ops : Array Oper) (cl : Nat → Cls) : List Nat → (Act → Hp → Prop) → Act → Hp → Prop
  | [], K, a, H => K a H
  | i :: l, K, a, H => stepD q P ops cl i (runA q P ops cl l K) a H
theorem runD_A {K : Act → Hp → Prop} : ∀ (l : List Nat), runD q P ops cl K l = runA q P ops cl l fun a H => ∀ H', Ex q H H' → K a H'
  | [] => rfl
  | i :: l => by funext a H; simp only [runD, runA, runD_A l]
theorem runA_mono {K K' : Act → Hp → Prop} (h : ∀ a H, K a H → K' a H) : ∀ (l : List Nat) (a : Act) (H : Hp), runA q P ops cl l K a H → runA q P ops cl l K' a H
  | [], a, H, hr => h a H hr
  | i :: l, a, H, hr => stepD_mono (fun a H hr => runA_mono h l a H hr) hr
theorem runA_app {K : Act → Hp → Prop} : ∀ (l l' : List Nat) (a : Act) (H : Hp), runA q P ops cl l (runA q P ops cl l' K) a H → runA q P ops cl (l ++ l') K a H
  | [], l', a, H, h => h
  | i :: l, l', a, H, h => stepD_mono (fun a H hr => runA_app l l' a H hr) h
theorem runA_pull (hn : noSelB ops = true) {i : Nat} {K : Act → Hp → Prop} {l2 : List Nat} : ∀ (l1 : List Nat) (a : Act) (H : Hp), (∀ k ∈ l1, swapB ops cl k i = true) →
    runA q P ops cl (l1 ++ i :: l2) K a H → stepD q P ops cl i (runA q P ops cl (l1 ++ l2) K) a H
  | [], _, _, _, h => h
  | k :: l1, a, H, hs, h => by
    have h1 : stepD q P ops cl k (stepD q P ops cl i (runA q P ops cl (l1 ++ l2) K)) a H :=
      stepD_mono (fun a' H' h' => runA_pull hn l1 a' H' (fun k' hk' => hs k' (List.mem_cons_of_mem _ hk')) h') h
    exact stepD_swap hn (hs k List.mem_cons_self) h1

/-- Whatever stands ahead of a ready operation in the list may come behind it. -/
theorem swaps {l1 : List Nat} {i : Nat} {listed : Array Bool} (hl : ∀ k ∈ l1, listed.getD k false = false) (hi : i ∈ Region.ready .any ops listed)
    (hcl : ∀ j oj, ops[j]? = some oj → listed.getD j false = true → ∀ e ∈ oj.after, Region.binds .any e = true → listed.getD e.on false = true)
    (hp : ∀ k ∈ l1, Prc ops cl k i) : ∀ k ∈ l1, swapB ops cl k i = true := by
  obtain ⟨_, oi, hoi, hall⟩ := mem_ready.1 hi
  intro k hk
  rcases hp k hk with h1 | h1
  · exfalso
    have h2 := h1.listed hcl fun o ho e he hb => by rw [hoi] at ho; cases ho; exact hall e he hb
    rw [hl k hk] at h2; cases h2
  · exact h1

theorem pw_drop {R : Nat → Nat → Prop} {l1 l2 : List Nat} {i : Nat} (h : (l1 ++ i :: l2).Pairwise R) : (l1 ++ l2).Pairwise R := by
  obtain ⟨hp1, hp2, hp3⟩ := List.pairwise_append.1 h
  exact List.pairwise_append.2 ⟨hp1, (List.pairwise_cons.1 hp2).2, fun x hx y hy => hp3 x hx y (List.mem_cons_of_mem _ hy)⟩
theorem pw_left {R : Nat → Nat → Prop} {l1 l2 : List Nat} {i : Nat} (h : (l1 ++ i :: l2).Pairwise R) : ∀ k ∈ l1, R k i :=
  fun k hk => (List.pairwise_append.1 h).2.2 k hk i List.mem_cons_self

variable {r : Option Nat} {Q : Exit → Act → World → Prop} {K : Act → Hp → Prop} {w₀ : World}
theorem any_one (hn : noSelB ops = true) (hE : edgesB ops = true) (hQ : ∀ a w, K a w.heap → Sm w₀ w → Q .normal a w) : ∀ (l : List Nat) (listed : Array Bool) (a : Act) (H : Hp) (w : World),
      l.Nodup → l.Pairwise (Prc ops cl) → listed.size = ops.size → (∀ i, i ∈ l ↔ i < ops.size ∧ listed.getD i false = false) →
      (∀ j oj, ops[j]? = some oj → listed.getD j false = true → ∀ e ∈ oj.after, Region.binds .any e = true → listed.getD e.on false = true) →
      Ex q H w.heap → Sm w₀ w → runD q P ops cl K l a H → wpAnyIn (wideR r) 0 P .any ops Q l.length listed a w := by
  intro l
  induction hlen : l.length generalizing l with
  | zero =>
    intro listed a H w hnd hp hsz hl hcl hx hsm h
    have : l = [] := List.eq_nil_of_length_eq_zero hlen
    subst this
    refine (⟨?_, hQ a w (h _ hx) hsm⟩ : _ ∧ _)
    cases hr : Region.ready .any ops listed with
    | nil => rfl
    | cons i t => have := rdy_mem hsz hl (i := i) (by rw [hr]; exact List.mem_cons_self); cases this
  | succ n ih =>
    intro listed a H w hnd hp hsz hl hcl hx hsm h
    refine ⟨fun hr => (by have := rdy_emp hE hsz hl hr; rw [this] at hlen; cases hlen), fun i hi => ?_⟩
    have him := rdy_mem hsz hl hi
    obtain ⟨l1, l2, rfl⟩ := List.append_of_mem him
    obtain ⟨_, oi, hoi, _⟩ := mem_ready.1 hi
    have hlt : i < ops.size := (Array.getElem?_eq_some_iff.1 hoi).1
    rw [runD_A] at h
    have h1 := runA_pull hn l1 a H (swaps (fun k hk => ((hl k).1 (List.mem_append_left _ hk)).2) hi hcl (pw_left hp)) h
    refine wpOpIn_of_stepD hn hx h1 fun a' H' w' hr hx' hsm' => ?_
    exact ih (l1 ++ l2) (by simp at hlen ⊢; omega) (listed.setIfInBounds i true) a' H' w' (hnd.sublist (by simp)) (pw_drop hp) (by simp [hsz]) (listed_step hsz hlt hnd hl) (closed_step hsz hi hcl) hx' (hsm.trans hsm') (by rw [runD_A]; exact hr)

/-- Two walks: behind A, k0 and i0 come in either order, C behind both. -/
theorem any_two {k0 i0 : Nat} {C : List Nat} (hn : noSelB ops = true) (hE : edgesB ops = true) (hQ : ∀ a w, K a w.heap → Sm w₀ w → Q .normal a w)
    (hC : ∀ x ∈ C, Waits ops x k0 ∨ Waits ops x i0) : ∀ (A : List Nat) (listed : Array Bool) (a : Act) (H : Hp) (w : World),
      (A ++ k0 :: i0 :: C).Nodup → (A ++ i0 :: C).Pairwise (Prc ops cl) → (A ++ k0 :: C).Pairwise (Prc ops cl) → listed.size = ops.size → (∀ i, i ∈ A ++ k0 :: i0 :: C ↔ i < ops.size ∧ listed.getD i false = false) →
      (∀ j oj, ops[j]? = some oj → listed.getD j false = true → ∀ e ∈ oj.after, Region.binds .any e = true → listed.getD e.on false = true) →
      Ex q H w.heap → Sm w₀ w → runA q P ops cl A (fun a H => runD q P ops cl K (k0 :: i0 :: C) a H ∧ runD q P ops cl K (i0 :: k0 :: C) a H) a H → wpAnyIn (wideR r) 0 P .any ops Q (A.length + 2 + C.length) listed a w := by
  intro A
  induction hlen : A.length generalizing A with
  | zero => ?_
  | succ n ih => ?_
  all_goals
    intro listed a H w hnd hp hp' hsz hl hcl hx hsm h
    have sz : ∀ m, m + 2 + C.length = (m + 1 + C.length) + 1 := fun m => by omega
    rw [sz]
    refine ⟨fun hr => (by have := rdy_emp hE hsz hl hr; simp at this), fun i hi => ?_⟩
    have him := rdy_mem hsz hl hi
    obtain ⟨_, oi, hoi, hall⟩ := mem_ready.1 hi
    have hlt : i < ops.size := (Array.getElem?_eq_some_iff.1 hoi).1
    have not : ∀ k ∈ A ++ k0 :: i0 :: C, ¬ Waits ops i k := fun k hk hw => by
      have h2 := hw.listed hcl fun o ho e he hb => by rw [hoi] at ho; cases ho; exact hall e he hb
      rw [((hl k).1 hk).2] at h2; cases h2
    have free : ∀ k ∈ A, listed.getD k false = false := fun k hk => ((hl k).1 (List.mem_append_left _ hk)).2
    have atk : i = k0 → wpOpIn (wideR r) 0 P ops Q i (fun a w => wpAnyIn (wideR r) 0 P .any ops Q (A.length + 1 + C.length) (listed.setIfInBounds i true) a w) a w := fun hik => by
      subst hik
      have h0 : runA q P ops cl (A ++ i :: i0 :: C) (fun a H => ∀ H', Ex q H H' → K a H') a H := runA_app _ _ _ _ (runA_mono (fun a H hh => by rw [runD_A] at hh; exact hh.1) A a H h)
      have h1 := runA_pull hn A a H (swaps free hi hcl (pw_left hp')) h0
      refine wpOpIn_of_stepD hn hx h1 fun a' H' w' hr hx' hsm' => ?_
      have := any_one (cl := cl) (q := q) (r := r) hn hE hQ (A ++ i0 :: C) (listed.setIfInBounds i true) a' H' w' (hnd.sublist (by simp)) hp (by simp [hsz]) (listed_step hsz hlt hnd hl) (closed_step hsz hi hcl) hx' (hsm.trans hsm') (by rw [runD_A]; exact hr)
      simpa [Nat.add_assoc, Nat.add_comm 1] using this
    have ati : i = i0 → wpOpIn (wideR r) 0 P ops Q i (fun a w => wpAnyIn (wideR r) 0 P .any ops Q (A.length + 1 + C.length) (listed.setIfInBounds i true) a w) a w := fun hik => by
      subst hik
      have hnd' : (A ++ i :: k0 :: C).Nodup := by
        refine (List.Perm.nodup_iff ?_).1 hnd
        exact List.Perm.append_left A (List.Perm.swap _ _ _)
      have hl' : ∀ j, j ∈ A ++ i :: k0 :: C ↔ j < ops.size ∧ listed.getD j false = false := fun j => by
        rw [← hl j]
        exact (List.Perm.append_left A (List.Perm.swap _ _ _)).mem_iff
      have h0 : runA q P ops cl (A ++ i :: k0 :: C) (fun a H => ∀ H', Ex q H H' → K a H') a H := runA_app _ _ _ _ (runA_mono (fun a H hh => by have := hh.2; rw [runD_A] at this; exact this) A a H h)
      have h1 := runA_pull hn A a H (swaps free hi hcl (pw_left hp)) h0
      refine wpOpIn_of_stepD hn hx h1 fun a' H' w' hr hx' hsm' => ?_
      have := any_one (cl := cl) (q := q) (r := r) hn hE hQ (A ++ k0 :: C) (listed.setIfInBounds i true) a' H' w' (hnd'.sublist (by simp)) hp' (by simp [hsz]) (listed_step hsz hlt hnd' hl') (closed_step hsz hi hcl) hx' (hsm.trans hsm') (by rw [runD_A]; exact hr)
      simpa [Nat.add_assoc, Nat.add_comm 1] using this
    have atC : i ∈ C → False := fun hm => by
      rcases hC i hm with hw | hw
      · exact not _ (by simp) hw
      · exact not _ (by simp) hw
  · have hA : A = [] := List.eq_nil_of_length_eq_zero hlen
    subst hA
    simp only [List.length_nil] at atk ati
    rcases List.mem_cons.1 him with h1 | h1
    · exact atk h1
    · rcases List.mem_cons.1 h1 with h1 | h1
      · exact ati h1
      · exact (atC h1).elim
  · rw [hlen] at atk ati
    rcases List.mem_append.1 him with h1 | h1
    · obtain ⟨l1, l2, rfl⟩ := List.append_of_mem h1
      have h2 := runA_pull hn l1 a H (swaps (fun k hk => free k (List.mem_append_left _ hk)) hi hcl (fun k hk => pw_left (by simpa using hp : (l1 ++ i :: (l2 ++ i0 :: C)).Pairwise (Prc ops cl)) k hk)) h
      refine wpOpIn_of_stepD hn hx h2 fun a' H' w' hr hx' hsm' => ?_
      have e : n = (l1 ++ l2).length := by simp at hlen ⊢; omega
      have e2 : n + 1 + 1 + C.length = (n + 2 + C.length) := by omega
      rw [e2]
      have hnd2 : (l1 ++ i :: (l2 ++ k0 :: i0 :: C)).Nodup := by simpa using hnd
      have hl2 : ∀ j, j ∈ l1 ++ i :: (l2 ++ k0 :: i0 :: C) ↔ j < ops.size ∧ listed.getD j false = false := fun j => by rw [← hl j]; simp
      refine ih (l1 ++ l2) e.symm (listed.setIfInBounds i true) a' H' w' ?_ ?_ ?_ (by simp [hsz]) ?_ (closed_step hsz hi hcl) hx' (hsm.trans hsm') hr
      · have := hnd2.sublist (l₁ := l1 ++ (l2 ++ k0 :: i0 :: C)) (by simp)
        simpa using this
      · have := pw_drop (by simpa using hp : (l1 ++ i :: (l2 ++ i0 :: C)).Pairwise (Prc ops cl))
        simpa using this
      · have := pw_drop (by simpa using hp' : (l1 ++ i :: (l2 ++ k0 :: C)).Pairwise (Prc ops cl))
        simpa using this
      · intro j
        have := listed_step hsz hlt hnd2 hl2 j
        rw [← this]; simp
    · rcases List.mem_cons.1 h1 with h1 | h1
      · exact atk h1
      · rcases List.mem_cons.1 h1 with h1 | h1
        · exact ati h1
        · exact (atC h1).elim
end
end Go.Vc
