/- Parts of a proof, joined in build order: a calculus of contracts, contracts of functions. -/
import Derived.Test.YtfegkmmifpgpfaaGreatRTH
import Derived.Test.YtfegkmmifpgpfaaGreatRTG
set_option linter.unusedVariables false
set_option linter.unusedSimpArgs false
namespace Go.Vc
open Go.Proofs Classical
def Za (fs : List Fl) : List Int := fs.flatMap fun x => x.sp.map (·.2)
theorem blksP_app (a b : List Fl) : Za (a ++ b) = Za a ++ Za b := List.flatMap_append ..
theorem blksP_one (x : Fl) : Za [x] = x.sp.map (·.2) := by simp [Za]
theorem blksP_len {fs : List Fl} (h : ∀ x ∈ fs, x.sp.length ≤ 66100) : (Za fs).length ≤ 66100 * fs.length := by
 induction fs with
 | nil => simp [Za]
 | cons x r ih =>
   have h1 := ih fun y hy => h y (List.mem_cons_of_mem _ hy)
   have h2 := h x (List.mem_cons_self ..)
   have e : Za (x :: r) = x.sp.map (·.2) ++ Za r := by simp [Za]
   rw [e, List.length_append, List.length_map, List.length_cons]; omega
def ownC (ps : List Int) (b : Nat) : Nat := ps.countP fun y : Int => decide (y = (b : Int))
theorem ownC_app (ps : List Int) (y : Int) (b : Nat) : ownC (ps ++ [y]) b = ownC ps b + if y = b then 1 else 0 := by
 unfold ownC
 rw [List.countP_append, List.countP_singleton]
 simp only [decide_eq_true_eq]
theorem ownC_le (ps : List Int) (b : Nat) : ownC ps b ≤ ps.length := List.countP_le_length
def nC (n : Nat) : Array Value := #[zm n]
def cN (c : Nat → Nat) (n : Nat) : List (Array Value) := (List.range n).map fun b => nC (c b)
theorem cN_len (c : Nat → Nat) (n : Nat) : (cN c n).length = n := by simp [cN]
theorem cN_get {c : Nat → Nat} {n b : Nat} (h : b < n) : (cN c n)[b]? = some (nC (c b)) := by
 unfold cN; rw [List.getElem?_map, List.getElem?_range h]; rfl
theorem cN_set {c c' : Nat → Nat} {n y : Nat} {u : Nat} (h1 : c' y = u) (h2 : ∀ b, b ≠ y → c' b = c b) : (cN c n).set y (nC u) = cN c' n := by
 apply List.ext_getElem?
 intro b
 by_cases hb : b < n
 · rw [cN_get hb]
   by_cases e : y = b
   · subst e
     rw [List.getElem?_set_self (by rw [cN_len]; exact hb), h1]
   · rw [List.getElem?_set_ne e, cN_get hb, h2 b (Ne.symm e)]
 · rw [List.getElem?_eq_none (by rw [List.length_set, cN_len]; omega), List.getElem?_eq_none (by rw [cN_len]; omega)]
theorem cN_zero (n : Nat) : cN (fun _ => 0) n = List.replicate n #[zm 0] := by
 unfold cN; apply List.ext_getElem? ; intro b; by_cases hb : b < n
 · rw [List.getElem?_map, List.getElem?_range hb, List.getElem?_replicate, if_pos hb]; rfl
 · rw [List.getElem?_eq_none (by simp; omega), List.getElem?_eq_none (by simp; omega)]
noncomputable def eIn : ZN := orE (zK Tryz.prog 29)
set_option maxRecDepth 100000 in
theorem elIn : zK Tryz.prog 29 = some eIn := by kernel_rfl
set_option maxRecDepth 100000 in
theorem eIn_f : eIn.type = 3 ∧ eIn.size = 1 ∧ eIn.zero.size = 1 ∧ eIn.bytes = 8 := ⟨by kernel_rfl, by kernel_rfl, by kernel_rfl, by kernel_rfl⟩
theorem eIn_z : eIn.zero = #[zm 0] := by kernel_rfl
theorem undIn : Tryz.prog.underlying 29 = some (.slice 3) := by kernel_rfl
section
variable {P : Program} {S : Nat → Prop} {H0 H : Hp} {l : List Ob}
theorem Lo.put1 {T : Nat} {kk : IntKind} {K : Hp → Prop} (h : Lo S H0 H l) {i j : Nat} {s : Value} {v : Array Value} {u : Value} {vs : List (Array Value)} (hi : l[i]? = some (.sl T 1 s vs)) (hj : vs[j]? = some v) (hv : zG v) (hu : u.oneCell' = true) (hc : u.cells = #[u]) (k : ∀ H', Lo S H0 H' (l.set i (.sl T 1 s (vs.set j (v.setIfInBounds 0 u)))) → K H') :
   Pu (zi (some (none, 1)) s (.int kk j)) fun x => Pu (zj (some 1) x u H) K := by
 obtain ⟨b, o, ha, hp⟩ := h.slCell (x := 0) hi hj (by omega) hv hu hc k
 rw [ha, za]; exact hp
end
theorem ids_step {α : Type} {Q : α → Prop} {ps : List α} {y : α} {ys : List Int} {p : Prop} (hp : p ↔ ∀ z ∈ ps, Q z) : (p ∧ Q y) ↔ ∀ z ∈ ps ++ [y], Q z := by
 rw [hp]
 constructor
 · rintro ⟨h1, h2⟩ z hz
   rcases List.mem_append.1 hz with h | h
   · exact h1 z h
   · rw [List.mem_singleton.1 h]; exact h2
 · exact fun h => ⟨fun z hz => h z (List.mem_append_left _ hz), h y (List.mem_append_right _ (List.mem_singleton.2 rfl))⟩
section
variable {H : Hp} {R : Value → Hp → Prop} {d : Nat} {dv : Value} {B L I : Int} {l : List (Int × Blk)} {s : Value} {fs : List Fl}
theorem pointers29 (h : Lk H d dv B L I l) (hf : Fls H s fs) (k : ∀ H' s' ps, Ext H H' → New H H' (.sl 251 2 s' (ps.map (fC 5))) → (ps = [] ↔ ∀ y ∈ Za fs, isDat B L I y) → R s' H') : Fc Tryz.prog 152 #[z7 d, s] H R := by
 have hfl := hf.len
 refine fn152 ?_
 simp only [sh152, Yf, zu, za]
 refine (Lo.start _ H : Lx H H []).flts fun p H1 e1 l1 => ?_
 have l1 : Lx H H1 [ye p 5 []] := l1
 simp only [zc, zh, Nat.zero_add, Nat.add_zero, Nat.reduceAdd, za]
 refine zz.mk (fun t H' => ∃ (i : Nat) (ps : List Int), i ≤ fs.length ∧ t = (zm i, ()) ∧ ps.length ≤ 66100 * i ∧ (ps = [] ↔ ∀ y ∈ Za (fs.take i), isDat B L I y) ∧ Lx H H' [ye p 5 ps])
   (fun t _ => mi t.1 fun i => (fs.length - i).toNat) ⟨0, [], by omega, rfl, by simp, by simp [Za], l1⟩ ?_
 rintro _ H2 ⟨i, ps, hi, rfl, hpl, hps, l2⟩
 rw [hf.row.lenE yA, za, List.length_map, zt, za, zf]
 refine ⟨fun hlt => ?_, fun hge => ?_⟩
 · have hil : i < fs.length := by omega
   have hei : (fs.map flC)[i]? = some (flC fs[i]) := by rw [List.getElem?_map, List.getElem?_eq_getElem hil]; rfl
   have htk : fs.take (i + 1) = fs.take i ++ [fs[i]] := List.take_succ_eq_append_getElem hil
   have hmem : fs[i] ∈ fs := List.getElem_mem hil
   generalize fs[i] = x at hei htk hmem
   have hsub := hf.sub x hmem
   have hfew := hf.few x hmem
   refine zz.mk (fun t H' => ∃ (j : Nat) (ps : List Int), j ≤ x.sp.length ∧ t = (zm j, ()) ∧ ps.length ≤ 66100 * i + j ∧ (ps = [] ↔ ∀ y ∈ Za (fs.take i) ++ (x.sp.take j).map (·.2), isDat B L I y) ∧ Lx H H' [ye p 5 ps])
     (fun t _ => mi t.1 fun j => (x.sp.length - j).toNat) ⟨0, ps, by omega, rfl, by omega, by simpa using hps, l2⟩ ?_
   rintro _ H3 ⟨j, ps, hj, rfl, hpl, hps, l3⟩
   obtain ⟨b, o, ha, hcl, _⟩ := (hf.ext l3.ext0).row.el hei
   rw [ha, za, zh, za, hcl 17 (by omega), show (flC x)[17]? = some x.v from rfl, za, hsub.lenE YO, za, List.length_map, zt, za, zf]
   refine ⟨fun hlt2 => ?_, fun hge2 => ?_⟩
   · have hjl : j < x.sp.length := by omega
     have hej : (x.sp.map spC)[j]? = some (spC x.sp[j]) := by rw [List.getElem?_map, List.getElem?_eq_getElem hjl]; rfl
     have htj : x.sp.take (j + 1) = x.sp.take j ++ [x.sp[j]] := List.take_succ_eq_append_getElem hjl
     generalize x.sp[j] = y at hej htj
     obtain ⟨b2, o2, ha2, hcl2, _⟩ := (hsub.ext l3.ext0).el hej
     have hst := ids_step (y := y.2) (ys := []) hps
     rw [List.append_assoc, show (x.sp.take j).map (·.2) ++ [y.2] = (x.sp.take (j + 1)).map (·.2) by rw [htj, List.map_append]; rfl] at hst
     rw [za, zh, za, hcl 17 (by omega), show (flC x)[17]? = some x.v from rfl, za, ha2, za, zh, za, hcl2 1 (by omega), show (spC y)[1]? = some (zm y.2) from rfl, za]
     refine data29 (h.ext l3.ext0) ?_
     rw [zM, za, Z9]
     refine ⟨fun hd => ?_, fun hd => ?_⟩
     · rw [decide_eq_false_iff_not] at hd
       rw [za, zh, za, Nat.add_zero]
       have := hcl 0 (by omega)
       rw [Nat.add_zero] at this
       rw [this, show (flC x)[0]? = some (zm x.i) from rfl, za]
       obtain ⟨O, ho, st⟩ := l3.call (i := 0) rfl
       refine flt_add ho (by omega) fun H11 O11 ps' hne hle s11 h11 => ?_
       have l11 := st H11 _ O11 s11 h11
       rw [zk, za, zL, zw (by omega)]
       refine ⟨⟨j + 1, ps', by omega, rfl, by omega, ?_, l11⟩, by simp only [zC]; omega⟩
       rw [← hst]
       exact ⟨fun e => absurd e hne, fun e => absurd e.2 hd⟩
     · rw [decide_eq_true_eq] at hd
       rw [zk, za, zL, zw (by omega)]
       refine ⟨⟨j + 1, ps, by omega, rfl, by omega, ?_, l3⟩, by simp only [zC]; omega⟩
       rw [← hst]
       exact ⟨fun e => ⟨e, hd⟩, fun e => e.1⟩
   · have ej : j = x.sp.length := by omega
     subst ej
     rw [List.take_length, ← blksP_one, ← blksP_app, ← htk] at hps
     rw [zk, za, zL, zw (by omega)]
     exact ⟨⟨i + 1, ps, by omega, rfl, by omega, hps, l3⟩, by simp only [zC]; omega⟩
 · have ei : i = fs.length := by omega
   subst ei
   rw [List.take_length] at hps
   obtain ⟨s', hg, l15⟩ := l2.fltEnd (i := 0) rfl
   rw [zo hg]
   show Pu (some s') _
   rw [za]
   exact k H2 s' ps l2.ext0 (l15.outN (i := 0) rfl) hps
theorem owned29 (h : Lk H d dv B L I l) (hf : Fls H s fs) (hd : ∀ y ∈ Za fs, isDat B L I y) (k : ∀ H' s', Ext H H' → New H H' (.sl 3 1 s' (cN (ownC (Za fs)) B.toNat)) → R s' H') : Fc Tryz.prog 182 #[z7 d, s] H R := by
 have hfl := hf.len
 obtain ⟨gL1, gL2, gI1, gI2, gB1, gB2, gD⟩ := id h.ok
 have hB : (zq B L I).B = B := rfl
 obtain ⟨Bn, eB⟩ : ∃ Bn : Nat, B = Bn := ⟨B.toNat, by omega⟩
 have hdat : ∀ y, isDat B L I y → 0 ≤ y ∧ y < B := fun y hy => by
   have h1 : (zq B L I).dataAt = 1 + L + (I + 16) / 16 + (B + 8191) / 8192 := rfl
   obtain ⟨h2, h3⟩ := hy
   exact ⟨by omega, h3⟩
 refine fn182 ?_
 simp only [sh182, zu, zc, zh, Nat.zero_add, Nat.add_zero, Nat.reduceAdd, za]
 rw [zo h.top, lkC2, za, hB]
 have eBt : B.toNat = Bn := by omega
 rw [eBt] at k
 rw [eB]
 refine (Lo.start _ H : Lx H H []).make elIn eIn_f (by omega) (by omega) (by omega) fun b0 H1 _ l1 => ?_
 rw [eIn_z, ← cN_zero] at l1
 generalize hsv : Value.slice (some ⟨b0, 0, none⟩) Bn Bn = sv at l1
 have l1 : Lx H H1 [.sl 3 1 sv (cN (ownC (Za (fs.take 0))) Bn)] := l1
 simp only []
 refine zz.mk (fun t H' => ∃ (i : Nat), i ≤ fs.length ∧ t = (zm i, ()) ∧ Lx H H' [.sl 3 1 sv (cN (ownC (Za (fs.take i))) Bn)])
   (fun t _ => mi t.1 fun i => (fs.length - i).toNat) ⟨0, by omega, rfl, l1⟩ ?_
 rintro _ H2 ⟨i, hi, rfl, l2⟩
 rw [hf.row.lenE yA, za, List.length_map, zt, za, zf]
 refine ⟨fun hlt => ?_, fun hge => ?_⟩
 · have hil : i < fs.length := by omega
   have hei : (fs.map flC)[i]? = some (flC fs[i]) := by rw [List.getElem?_map, List.getElem?_eq_getElem hil]; rfl
   have htk : fs.take (i + 1) = fs.take i ++ [fs[i]] := List.take_succ_eq_append_getElem hil
   have hmem : fs[i] ∈ fs := List.getElem_mem hil
   have hpl := blksP_len (fs := fs.take i) fun y hy => hf.few y (List.mem_of_mem_take hy)
   rw [List.length_take] at hpl
   generalize fs[i] = x at hei htk hmem
   have hsub := hf.sub x hmem
   have hfew := hf.few x hmem
   refine zz.mk (fun t H' => ∃ (j : Nat), j ≤ x.sp.length ∧ t = (zm j, ()) ∧ Lx H H' [.sl 3 1 sv (cN (ownC (Za (fs.take i) ++ (x.sp.take j).map (·.2))) Bn)])
     (fun t _ => mi t.1 fun j => (x.sp.length - j).toNat) ⟨0, by omega, rfl, by simpa using l2⟩ ?_
   rintro _ H3 ⟨j, hj, rfl, l3⟩
   obtain ⟨b, o, ha, hcl, _⟩ := (hf.ext l3.ext0).row.el hei
   rw [ha, za, zh, za, hcl 17 (by omega), show (flC x)[17]? = some x.v from rfl, za, hsub.lenE YO, za, List.length_map, zt, za, zf]
   refine ⟨fun hlt2 => ?_, fun hge2 => ?_⟩
   · have hjl : j < x.sp.length := by omega
     have hej : (x.sp.map spC)[j]? = some (spC x.sp[j]) := by rw [List.getElem?_map, List.getElem?_eq_getElem hjl]; rfl
     have htj : x.sp.take (j + 1) = x.sp.take j ++ [x.sp[j]] := List.take_succ_eq_append_getElem hjl
     have hym : x.sp[j] ∈ x.sp := List.getElem_mem hjl
     generalize x.sp[j] = y at hej htj hym
     obtain ⟨b2, o2, ha2, hcl2, _⟩ := (hsub.ext l3.ext0).el hej
     have hy := hdat y.2 (hd y.2 (List.mem_flatMap.2 ⟨x, hmem, List.mem_map.2 ⟨y, hym, rfl⟩⟩))
     obtain ⟨yn, ey⟩ : ∃ yn : Nat, y.2 = yn := ⟨y.2.toNat, by omega⟩
     have hyn : yn < Bn := by omega
     rw [za, zh, za, hcl 17 (by omega), show (flC x)[17]? = some x.v from rfl, za, ha2, za, zh, za, hcl2 1 (by omega), show (spC y)[1]? = some (zm y.2) from rfl, za, ey]
     have hcnt := ownC_le (Za (fs.take i) ++ (x.sp.take j).map (·.2)) yn
     rw [List.length_append, List.length_map, List.length_take] at hcnt
     have hg := cN_get (c := ownC (Za (fs.take i) ++ (x.sp.take j).map (·.2))) hyn
     obtain ⟨b3, o3, ha3, hcl3, _⟩ := (l3.sv (i := 0) rfl).sr.el hg
     have hc0 := hcl3 0 (by omega)
     rw [Nat.add_zero] at hc0
     rw [ha3, za, hc0, show (nC (ownC (Za (fs.take i) ++ (x.sp.take j).map (·.2)) yn))[0]? = some (zm (ownC (Za (fs.take i) ++ (x.sp.take j).map (·.2)) yn)) from rfl, za, zk, za, zL, zw (by omega), ← ha3 .i64]
     refine l3.put1 (i := 0) (u := zm ((ownC (Za (fs.take i) ++ (x.sp.take j).map (·.2)) yn + 1 : Nat) : Int)) rfl hg (by unfold zG; rw [← Array.all_toList]; rfl) rfl rfl fun H4 l4 => ?_
     rw [zk, za, zL, zw (by omega)]
     refine ⟨⟨j + 1, by omega, rfl, ?_⟩, by simp only [zC]; omega⟩
     have e : (cN (ownC (Za (fs.take i) ++ (x.sp.take j).map (·.2))) Bn).set yn (nC (ownC (Za (fs.take i) ++ (x.sp.take j).map (·.2)) yn + 1)) = cN (ownC (Za (fs.take i) ++ (x.sp.take (j + 1)).map (·.2))) Bn := by
       rw [htj, List.map_append, ← List.append_assoc, show List.map (·.2) [y] = [y.2] from rfl, ey]
       refine cN_set ?_ fun b hb => ?_
       · rw [ownC_app, if_pos rfl]
       · rw [ownC_app, if_neg (by omega)]; rfl
     rw [← e]; exact l4
   · have ej : j = x.sp.length := by omega
     subst ej
     rw [List.take_length, ← blksP_one, ← blksP_app, ← htk] at l3
     rw [zk, za, zL, zw (by omega)]
     exact ⟨⟨i + 1, by omega, rfl, l3⟩, by simp only [zC]; omega⟩
 · have ei : i = fs.length := by omega
   subst ei
   rw [List.take_length] at l2
   exact k H2 sv l2.ext0 (l2.outN (i := 0) rfl)
end
end Go.Vc
namespace Go.Vc
open Go.Proofs Classical
theorem dec_dec {p q : Prop} {a : Decidable p} {b : Decidable q} (h : p ↔ q) : @decide p a = @decide q b := by
 rw [Bool.eq_iff_iff]; simp [h]
theorem Yi {p q : Prop} {a : Decidable p} {b : Decidable q} (h : p ↔ q) : Value.bool (@decide p a) = Value.bool (@decide q b) := by rw [dec_dec h]
theorem yj {p : Prop} {a : Decidable p} (h : p) : Value.bool true = Value.bool (@decide p a) := by rw [decide_eq_true h]
theorem YM {p : Prop} {a : Decidable p} (h : ¬ p) : Value.bool false = Value.bool (@decide p a) := by rw [decide_eq_false h]
theorem YX {c : Array Value} {n : Nat} (h : c.size = n) : c.extract 0 (0 + n) = c := by rw [Nat.zero_add, ← h]; simp
theorem zeroSpot : zD Tryz.prog 233 = some (.agg #[zm 0, zm 0]) := by kernel_rfl
section
variable (B L I : Int) (l : List (Int × Blk))
def Yg (kd : Int) (x : Fl) (y : Spt) : Prop := (kd = 8 ∧ ((x.f 2 : Int) + 1023) / 1024 ≤ y.1) ∨ (kd = 7 ∧ y.1 < 0 ∧ Zi l y.2 = zB)
def yL (kd : Int) (x : Fl) : Prop :=
 if kd = 10 then x.f 3 ≠ x.sp.length
 else if kd = 12 then x.f 0 = 2 ∧ ∃ i : Nat, (i : Int) < ((x.f 2 : Int) + 1023) / 1024 ∧ mapP x.sp i = 0
 else if kd = 9 then mapP x.sp ((x.f 2 : Int) / 1024) ≠ 0 ∧ x.f 2 % 1024 ≠ 0 ∧ ∃ i, x.f 2 % 1024 ≤ i ∧ i < 1024 ∧ byt (Zi l (mapP x.sp ((x.f 2 : Int) / 1024))) i ≠ 0
 else ∃ y ∈ x.sp, Yg l kd x y
end
section
variable {H : Hp} {R : Value → Hp → Prop} {d : Nat} {dv : Value} {B L I : Int} {l : List (Int × Blk)} {s : Value} {fs : List Fl}
theorem blank29 (h : Lk H d dv B L I l) {a : Int} (k : ∀ H', Ext H H' → R (.bool (decide (Zi l a = zB))) H') : Fc Tryz.prog 196 #[z7 d, zm a] H R := by
 refine fn196 ?_
 simp only [sh196, Yo, za]
 refine lk_at h fun H1 e1 => ?_
 rw [eqXE_eql, eqB rowB (ZA h.is a) Zo, Option.map_some, za]
 exact k H1 e1
set_option maxHeartbeats 1000000 in
theorem wrong29 (h : Lk H d dv B L I l) {x : Fl} (hsub : Sr 2 H x.v (x.sp.map spC)) (hfew : x.sp.length ≤ 66100) (hok : InoOk x.f) {kd : Int} (k : ∀ H', Ext H H' → R (.bool (decide (yL l kd x))) H') : Fc Tryz.prog 183 #[z7 d, .agg (flC x), .int .u8 kd] H R := by
 have h2 := hok 2 (by omega)
 have h3 := hok 3 (by omega)
 simp only [fw, Nat.reduceLT, if_false, Nat.reducePow, Nat.lt_irrefl] at h2 h3
 have f0 : (flC x)[0]? = some (zm x.i) := rfl
 have f1 : (flC x)[1]? = some (.int .u16 (x.f 0)) := rfl
 have f3 : (flC x)[3]? = some (.int .u32 (x.f 2)) := rfl
 have f4 : (flC x)[4]? = some (.int .u32 (x.f 3)) := rfl
 have f17 : (flC x)[17]? = some x.v := rfl
 refine fn183 ?_
 simp only [sh183, zu]
 refine (Lo.start _ H : Lx H H []).boxA fun b1 H1 _ l1 => ?_
 have l1 : Lx H H1 [.box b1 (flC x) 192] := l1
 have fin : ∀ {H'} (b : Bool), Ext H H' → (b = true ↔ yL l kd x) → R (.bool b) H' := fun {H'} b e hb => by
   have := k H' e
   rw [show decide (yL l kd x) = b from by rw [Bool.eq_iff_iff, decide_eq_true_eq, hb]] at this
   exact this
 simp only [zh, Nat.zero_add, Nat.add_zero, Nat.reduceAdd, za, Z0]
 rw [l1.ld (i := 0) rfl, f3, za, zE, za, zw (by omega)]
 refine up29 (by omega) ?_
 rw [zA, za, zf]
 refine ⟨fun h10 => ?_, fun h10 => ?_⟩
 · rw [l1.ld (i := 0) rfl, f4, za, zE, za, zw (by omega), l1.ld (i := 0) rfl, f17, za, hsub.lenE YO, za, List.length_map, zx, za]
   refine fin _ l1.ext0 ?_
   unfold yL
   rw [if_pos h10, decide_eq_true_eq]; omega
 · rw [zA, za, zf]
   refine ⟨fun h12 => ?_, fun h12 => ?_⟩
   · have hw : yL l kd x ↔ x.f 0 = 2 ∧ ∃ i : Nat, (i : Int) < ((x.f 2 : Int) + 1023) / 1024 ∧ mapP x.sp i = 0 := by unfold yL; rw [if_neg h10, if_pos h12]
     refine zz.mk (fun t H' => H' = H1 ∧ ∃ i : Nat, (i : Int) ≤ ((x.f 2 : Int) + 1023) / 1024 ∧ t = (zm i, ()) ∧ ∀ j : Nat, j < i → mapP x.sp j ≠ 0) (fun t _ => mi t.1 fun i => (((x.f 2 : Int) + 1023) / 1024 - i).toNat) ⟨rfl, 0, by omega, rfl, fun j hj => by omega⟩ ?_
     rintro _ H3 ⟨rfl, i, hi, rfl, hno⟩
     refine zT.mk (fun t H' => H' = H3 ∧ t.1 = .bool (decide ((i : Int) < ((x.f 2 : Int) + 1023) / 1024 ∧ x.f 0 = 2))) ?_ ?_
     · rintro ⟨t, u⟩ H4 ⟨rfl, ht⟩
       simp only at ht
       subst ht
       rw [zf]
       refine ⟨fun hb => ?_, fun hb => ?_⟩
       · rw [l1.ld (i := 0) rfl, f17, za]
         refine mapped29 (hsub.ext l1.ext0) (by omega) ?_
         rw [zA, za, zf]
         refine ⟨fun h0 => fin true l1.ext0 ?_, fun h0 => ?_⟩
         · rw [hw]; exact ⟨fun _ => ⟨hb.2, i, hb.1, h0⟩, fun _ => rfl⟩
         · rw [zk, za, zL, zw (by omega)]
           refine ⟨⟨rfl, i + 1, by omega, rfl, fun j hj => ?_⟩, by simp only [zC]; omega⟩
           by_cases e : j = i
           · rw [e]; exact h0
           · exact hno j (by omega)
       · refine fin false l1.ext0 ?_
         rw [hw]
         refine ⟨fun e => (by cases e), fun ⟨h1, j, hj, h4⟩ => ?_⟩
         by_cases e : (i : Int) < ((x.f 2 : Int) + 1023) / 1024
         · exact absurd ⟨e, h1⟩ hb
         · exact absurd h4 (hno j (by omega))
     · rw [zt, za, zf]
       refine ⟨fun hlt => ?_, fun hge => ⟨rfl, YM fun e => hge e.1⟩⟩
       · rw [l1.ld (i := 0) rfl, f1, za, zA, za]
         refine ⟨rfl, Yi ?_⟩
         omega
   · rw [zA, za, zf]
     refine ⟨fun h9 => ?_, fun h9 => ?_⟩
     · have hw : yL l kd x ↔ mapP x.sp ((x.f 2 : Int) / 1024) ≠ 0 ∧ x.f 2 % 1024 ≠ 0 ∧ ∃ i, x.f 2 % 1024 ≤ i ∧ i < 1024 ∧ byt (Zi l (mapP x.sp ((x.f 2 : Int) / 1024))) i ≠ 0 := by unfold yL; rw [if_neg h10, if_neg h12, if_pos h9]
       rw [l1.ld (i := 0) rfl, f17, za, l1.ld (i := 0) rfl, f3, za, zE, za, zw (by omega), Zm (by decide), za, Zv (by omega), zg (by omega) (by omega)]
       refine mapped29 (hsub.ext l1.ext0) (by omega) ?_
       refine zT.mk (fun t H' => H' = H1 ∧ t.1 = .bool (decide (mapP x.sp ((x.f 2 : Int) / 1024) = 0 ∨ x.f 2 % 1024 = 0))) ?_ ?_
       · rintro ⟨t, u⟩ H4 ⟨rfl, ht⟩
         simp only at ht
         subst ht
         rw [zf]
         refine ⟨fun hb => fin false l1.ext0 ?_, fun hb => ?_⟩
         · rw [hw]
           refine ⟨fun e => (by cases e), fun ⟨h1, h4, _⟩ => ?_⟩
           rcases hb with e | e
           · exact absurd e h1
           · exact absurd e h4
         · have hb1 : mapP x.sp ((x.f 2 : Int) / 1024) ≠ 0 := fun e => hb (.inl e)
           have hb2 : x.f 2 % 1024 ≠ 0 := fun e => hb (.inr e)
           refine lk_at (h.ext l1.ext0) fun H5 e5 => ?_
           have hbl := ZA h.is (mapP x.sp ((x.f 2 : Int) / 1024))
           generalize Zi l (mapP x.sp ((x.f 2 : Int) / 1024)) = c at hbl hw
           refine (l1.ext e5).boxA fun b2 H6 _ l6 => ?_
           refine l6.stAll (i := 1) rfl zI hbl.size hbl.ok fun H7 l7 => ?_
           have l7 : Lx H H7 [.box b1 (flC x) 192, .box b2 c 65] := l7
           rw [l7.ld (i := 0) rfl, f3, za, zE, za, zw (by omega), z8 (by decide), za, Zd (by omega)]
           refine zz.mk (fun t H' => H' = H7 ∧ ∃ i : Nat, x.f 2 % 1024 ≤ i ∧ i ≤ 1024 ∧ t = (zm i, ()) ∧ ∀ j, x.f 2 % 1024 ≤ j → j < i → byt c j = 0) (fun t _ => mi t.1 fun i => (1024 - i).toNat) ⟨rfl, x.f 2 % 1024, by omega, by omega, by congr 2, fun j _ _ => by omega⟩ ?_
           rintro _ H8 ⟨rfl, i, hi1, hi2, rfl, hz⟩
           rw [zt, za, zf]
           refine ⟨fun hlt => ?_, fun hge => ?_⟩
           · rw [zF (by omega), za, Nat.zero_add, Nat.mul_one, l7.ld (i := 1) rfl, hbl.get (by omega), za, zx, za, zf]
             refine ⟨fun hne => fin true l7.ext0 ?_, fun he => ?_⟩
             · rw [hw]; exact ⟨fun _ => ⟨hb1, hb2, i, hi1, by omega, by omega⟩, fun _ => rfl⟩
             · rw [zk, za, zL, zw (by omega)]
               refine ⟨⟨rfl, i + 1, by omega, by omega, rfl, fun j h1 h4 => ?_⟩, by simp only [zC]; omega⟩
               by_cases e : j = i
               · subst e; omega
               · exact hz j h1 (by omega)
           · refine fin false l7.ext0 ?_
             rw [hw]
             refine ⟨fun e => (by cases e), fun ⟨_, _, j, h4, h5, h6⟩ => ?_⟩
             exact absurd (hz j h4 (by omega)) h6
       · rw [zA, za, zf]
         refine ⟨fun h0 => ⟨rfl, yj (.inl h0)⟩, fun h0 => ?_⟩
         · rw [l1.ld (i := 0) rfl, f3, za, z8 (by decide), za, Zd (by omega), zA, za]
           refine ⟨rfl, Yi ?_⟩
           constructor
           · intro e; exact .inr (by omega)
           · rintro (e | e)
             · exact absurd e h0
             · omega
     · have hw : yL l kd x ↔ ∃ y ∈ x.sp, Yg l kd x y := by unfold yL; rw [if_neg h10, if_neg h12, if_neg h9]
       refine zz.mk (fun t H' => ∃ i : Nat, i ≤ x.sp.length ∧ t = (zm i, ()) ∧ (∀ y ∈ x.sp.take i, ¬ Yg l kd x y) ∧ Lx H H' [.box b1 (flC x) 192]) (fun t _ => mi t.1 fun i => (x.sp.length - i).toNat) ⟨0, by omega, rfl, by simp, l1⟩ ?_
       rintro _ H3 ⟨i, hi, rfl, hno, l3⟩
       rw [l3.ld (i := 0) rfl, f17, za, hsub.lenE YO, za, List.length_map, zt, za, zf]
       refine ⟨fun hlt => ?_, fun hge => ?_⟩
       · have hjl : i < x.sp.length := by omega
         have hej : (x.sp.map spC)[i]? = some (spC x.sp[i]) := by rw [List.getElem?_map, List.getElem?_eq_getElem hjl]; rfl
         have htj : x.sp.take (i + 1) = x.sp.take i ++ [x.sp[i]] := List.take_succ_eq_append_getElem hjl
         have hym : x.sp[i] ∈ x.sp := List.getElem_mem hjl
         generalize x.sp[i] = y at hej htj hym
         obtain ⟨b2, o2, ha2, hcl2, hrow2⟩ := (hsub.ext l3.ext0).el hej
         have hr2 := hrow2 0 2 (by omega)
         rw [Nat.add_zero, show (spC y).extract 0 (0 + 2) = spC y from rfl] at hr2
         rw [za, ha2, za, hr2, za, zeroSpot, za]
         refine l3.boxA fun b3 H4 _ l4 => ?_
         refine l4.stAll (i := 1) (vs := spC y) rfl rfl rfl (spC_ok _) fun H5 l5 => ?_
         have l5 : Lx H H5 [.box b1 (flC x) 192, .box b3 (spC y) 233] := l5
         have y0 : (spC y)[0]? = some (zm y.1) := rfl
         have y1 : (spC y)[1]? = some (zm y.2) := rfl
         refine zT.mk (fun t H' => t.1 = .bool (decide (Yg l kd x y)) ∧ Lx H H' [.box b1 (flC x) 192, .box b3 (spC y) 233]) ?_ ?_
         · rintro ⟨t, u⟩ H6 ⟨ht, l6⟩
           simp only at ht
           subst ht
           rw [zf]
           refine ⟨fun hb => fin true l6.ext0 ?_, fun hb => ?_⟩
           · rw [hw]; exact ⟨fun _ => ⟨y, hym, hb⟩, fun _ => rfl⟩
           · rw [zk, za, zL, zw (by omega)]
             refine ⟨⟨i + 1, by omega, rfl, fun z hz => ?_, l6.takeN 1⟩, by simp only [zC]; omega⟩
             rw [htj] at hz
             rcases List.mem_append.1 hz with h1 | h1
             · exact hno z h1
             · rw [List.mem_singleton.1 h1]; exact hb
         · have b1 : ∀ {c : Bool}, (c = true ↔ Yg l kd x y) → (Value.bool c) = .bool (decide (Yg l kd x y)) := fun hc => by congr 1; rw [Bool.eq_iff_iff, hc, decide_eq_true_eq]
           simp only [zh, Nat.zero_add, Nat.add_zero, za]
           rw [zA, za, zf]
           refine ⟨fun h8 => ?_, fun h8 => ?_⟩
           · rw [l5.ld (i := 1) rfl, y0, za, zY, za, zf]
             refine ⟨fun hb => ⟨b1 (by simp [Yg, h8, hb]), l5⟩, fun hb => ?_⟩
             rw [zA, za, zf]
             refine ⟨fun h7 => by omega, fun h7 => ⟨b1 (by simp [Yg, h7, hb]), l5⟩⟩
           · rw [zA, za, zf]
             refine ⟨fun h7 => ?_, fun h7 => ⟨b1 (by simp [Yg, h7, h8]), l5⟩⟩
             rw [l5.ld (i := 1) rfl, y0, za, zt, za, zf]
             refine ⟨fun hb => ?_, fun hb => ⟨b1 (by simp [Yg, h8, hb]), l5⟩⟩
             rw [l5.ld (i := 1) rfl, y1, za]
             refine blank29 (h.ext l5.ext0) fun H9 e9 => ⟨b1 (by simp [Yg, h7, hb]), l5.ext e9⟩
       · have ei : i = x.sp.length := by omega
         subst ei
         rw [List.take_length] at hno
         refine fin false l3.ext0 ?_
         rw [hw]
         exact ⟨fun e => (by cases e), fun ⟨y, hy, hb⟩ => absurd hb (hno y hy)⟩
theorem files29 (h : Lk H d dv B L I l) (hf : Fls H s fs) {kd : Int} (hkd : kd ≠ 1000) (k : ∀ H' s' ps, Ext H H' → New H H' (.sl 251 2 s' (ps.map (fC kd))) → (ps = [] ↔ ∀ x ∈ fs, ¬ yL l kd x) → R s' H') : Fc Tryz.prog 154 #[z7 d, s, .int .u8 kd] H R := by
 have hfl := hf.len
 refine fn154 ?_
 simp only [sh154, Yf, zu, za]
 refine (Lo.start _ H : Lx H H []).flts fun p H1 e1 l1 => ?_
 have l1 : Lx H H1 [ye p kd []] := l1
 simp only [zc, zh, Nat.zero_add, Nat.add_zero, Nat.reduceAdd, za]
 refine zz.mk (fun t H' => ∃ (i : Nat) (ps : List Int), i ≤ fs.length ∧ t = (zm i, ()) ∧ ps.length ≤ i ∧ (ps = [] ↔ ∀ y ∈ fs.take i, ¬ yL l kd y) ∧ Lx H H' [ye p kd ps])
   (fun t _ => mi t.1 fun i => (fs.length - i).toNat) ⟨0, [], by omega, rfl, by simp, by simp, l1⟩ ?_
 rintro _ H2 ⟨i, ps, hi, rfl, hpl, hps, l2⟩
 rw [hf.row.lenE yA, za, List.length_map, zt, za, zf]
 refine ⟨fun hlt => ?_, fun hge => ?_⟩
 · have hil : i < fs.length := by omega
   have hei : (fs.map flC)[i]? = some (flC fs[i]) := by rw [List.getElem?_map, List.getElem?_eq_getElem hil]; rfl
   have htk : fs.take (i + 1) = fs.take i ++ [fs[i]] := List.take_succ_eq_append_getElem hil
   have hmem : fs[i] ∈ fs := List.getElem_mem hil
   generalize fs[i] = x at hei htk hmem
   have hst := ids_step (y := x) (ys := []) hps
   rw [← htk] at hst
   obtain ⟨b, o, ha, hcl, hrow⟩ := (hf.ext l2.ext0).row.el hei
   have hr := hrow 0 18 (by omega)
   rw [Nat.add_zero, YX (c := flC x) (n := 18) rfl] at hr
   rw [ha, za, hr, za]
   refine wrong29 (h.ext l2.ext0) ((hf.sub x hmem).ext l2.ext0) (hf.few x hmem) (hf.ok x hmem) fun H3 e3 => ?_
   have l3 := l2.ext e3
   rw [zf]
   refine ⟨fun hb => ?_, fun hb => ?_⟩
   · obtain ⟨b, o, ha', hcl, hrow⟩ := (hf.ext l3.ext0).row.el hei
     have h0 := hcl 0 (by omega)
     rw [Nat.add_zero] at h0
     rw [← ha .i64, ha' .i64, za, zh, za, Nat.add_zero, h0, show (flC x)[0]? = some (zm x.i) from rfl, za]
     obtain ⟨O, ho, st⟩ := l3.call (i := 0) rfl
     refine flt_add ho (by omega) fun H11 O11 ps' hne hle s11 h11 => ?_
     have l11 := st H11 _ O11 s11 h11
     rw [zk, za, zL, zw (by omega)]
     refine ⟨⟨i + 1, ps', by omega, rfl, by omega, ?_, l11⟩, by simp only [zC]; omega⟩
     rw [← hst]
     exact ⟨fun e => absurd e hne, fun e => absurd hb e.2⟩
   · rw [zk, za, zL, zw (by omega)]
     refine ⟨⟨i + 1, ps, by omega, rfl, by omega, ?_, l3⟩, by simp only [zC]; omega⟩
     rw [← hst]
     exact ⟨fun e => ⟨e, hb⟩, fun e => e.1⟩
 · have ei : i = fs.length := by omega
   subst ei
   rw [List.take_length] at hps
   obtain ⟨s', hg, l15⟩ := l2.fltEnd (i := 0) rfl
   rw [zo hg]
   show Pu (some s') _
   rw [za]
   exact k H2 s' ps l2.ext0 (l15.outN (i := 0) rfl) hps
theorem twice29 (h : Lk H d dv B L I l) (hf : Fls H s fs) (hd : ∀ y ∈ Za fs, isDat B L I y) (k : ∀ H' s' ps, Ext H H' → New H H' (.sl 251 2 s' (ps.map (fC 6))) → (ps = [] ↔ ∀ b : Nat, (b : Int) < B → ownC (Za fs) b ≤ 1) → R s' H') : Fc Tryz.prog 153 #[z7 d, s] H R := by
 obtain ⟨gL1, gL2, gI1, gI2, gB1, gB2, gD⟩ := id h.ok
 refine fn153 ?_
 simp only [sh153, Yf, zu, za]
 refine (Lo.start _ H : Lx H H []).boxA fun p H1 e1 l1 => ?_
 have l1 := l1.nilS 251 2
 refine owned29 (h.ext l1.ext0) (hf.ext l1.ext0) hd fun H2 sv e2 n2 => ?_
 have l2 := l1.new e2 n2
 obtain ⟨Bn, eB⟩ : ∃ Bn : Nat, B = Bn := ⟨B.toNat, by omega⟩
 have eBt : B.toNat = Bn := by omega
 rw [eBt] at l2
 simp only [zc, zh, Nat.zero_add, Nat.add_zero, Nat.reduceAdd, za]
 refine zz.mk (fun t H' => ∃ (i : Nat) (s' : Value) (ps : List Int), i ≤ Bn ∧ t = (zm i, ()) ∧ ps.length ≤ i ∧ (ps = [] ↔ ∀ b : Nat, b < i → ownC (Za fs) b ≤ 1) ∧ Lx H H' [.box p #[.int .u8 6, s'] 255, .sl 251 2 s' (ps.map (fC 6)), .sl 3 1 sv (cN (ownC (Za fs)) Bn)])
   (fun t _ => mi t.1 fun i => (Bn - i).toNat) ⟨0, .slice none 0 0, [], by omega, rfl, by simp, by simp, l2⟩ ?_
 rintro _ H3 ⟨i, s', ps, hi, rfl, hpl, hps, l3⟩
 have f1 : (#[.int .u8 6, s'] : Array Value)[1]? = some s' := rfl
 have hst : ∀ b, b < i + 1 ↔ b < i ∨ b = i := fun b => by omega
 rw [(l3.sv (i := 2) rfl).lenE undIn, za, cN_len, zt, za, zf]
 refine ⟨fun hlt => ?_, fun hge => ?_⟩
 · have hg := cN_get (c := ownC (Za fs)) (n := Bn) (b := i) (by omega)
   obtain ⟨b3, o3, ha3, hcl3, _⟩ := (l3.sv (i := 2) rfl).sr.el hg
   have hc0 := hcl3 0 (by omega)
   rw [Nat.add_zero] at hc0
   rw [ha3, za, hc0, show (nC (ownC (Za fs) i))[0]? = some (zm (ownC (Za fs) i)) from rfl, za, zN, za, zf]
   refine ⟨fun hgt => ?_, fun hle => ?_⟩
   · rw [l3.ld (i := 0) rfl, f1, za, buildFlt, za]
     refine l3.appO elFlt eFlt_f (i := 1) rfl (by rfl) (by omega) (by omega) rfl (fC_ok _ _) (by rw [List.length_map]; omega) fun v3 H4 l4 => ?_
     have hone := (l4.sv (i := 1) rfl).one
     refine l4.st (i := 0) (j := 1) (v := v3) rfl (by simp) hone.2 hone.1 fun H5 l5 => ?_
     rw [zk, za, zL, zw (by omega)]
     refine ⟨⟨i + 1, v3, ps ++ [(i : Int)], by omega, rfl, by rw [List.length_append]; simp only [List.length_cons, List.length_nil]; omega, ⟨fun e => absurd (List.append_eq_nil_iff.1 e).2 (List.cons_ne_nil _ _), fun hh => ?_⟩, ?_⟩, by simp only [zC]; omega⟩
     · have := hh i (by omega); omega
     · rw [List.map_append]; exact l5
   · rw [zk, za, zL, zw (by omega)]
     refine ⟨⟨i + 1, s', ps, by omega, rfl, by omega, ⟨fun e b hb => ?_, fun hh => hps.2 fun b hb => hh b (by omega)⟩, l3⟩, by simp only [zC]; omega⟩
     rcases (hst b).1 hb with h1 | h1
     · exact hps.1 e b h1
     · rw [h1]; omega
 · have ei : i = Bn := by omega
   subst ei
   rw [l3.ld (i := 0) rfl, f1, za]
   refine k H3 s' ps l3.ext0 (l3.outN (i := 1) rfl) ?_
   rw [hps, eB]
   exact ⟨fun hh b hb => hh b (by omega), fun hh b hb => hh b (by omega)⟩
end
end Go.Vc
namespace Go.Vc
open Go.Proofs Classical
section
variable {P : Program} {T : TypeId} {a b : Array Value} {lit : Bool} {H : Hp}
def fldE (P : Program) (d : Nat) (xs ys : Array Value) (f : Field) : Option Bool := if f.name = "_" then some true else (yH (ldK P f.type) xs f.offset).bind fun a => (yH (ldK P f.type) ys f.offset).bind fun b => eqT P d f.type a b
theorem eqE_struct {fs : Array Field} {l : List Field} (hu : P.underlying T = some (.struct fs)) (hl : fs.toList = l) (hg : P.eqGuardType P.depth T = false) (hs : P.stoodInHeld T = false) : eqE P T lit (.agg a) (.agg b) H = Yt (fldE P 9999 a b) l := by
 unfold eqE eqD
 rw [hu]
 simp only [hg, Bool.false_eq_true, if_false]
 unfold eqT
 rw [hu]
 simp only [hs, Bool.false_eq_true, if_false, hl]
 rfl
theorem Ym {d : Nat} {f : Field} {k : IntKind} {x y : Int} (hn : f.name ≠ "_") (hu : P.underlying f.type = some (.int k)) (ha : a[f.offset]? = some (.int k x)) (hb : b[f.offset]? = some (.int k y)) : fldE P (d + 1) a b f = some (decide (x = y)) := by
 unfold fldE
 rw [if_neg hn]
 have hk : ldK P f.type = some none := by unfold ldK; rw [hu]
 simp only [hk, yH, ha, hb, Option.bind_some]
 unfold eqT
 rw [hu]
 simp only [if_true, Option.some.injEq]
 rw [Bool.eq_iff_iff]; simp
theorem str_eq (s t : ByteArray) : (s.toList == t.toList) = decide (s = t) := by
 rw [ByteArray.toList_eq, ByteArray.toList_eq, Bool.eq_iff_iff, beq_iff_eq, decide_eq_true_eq]
 constructor
 · intro h
   cases s; cases t
   simp only at h
   congr 1
   exact Array.toList_inj.1 h
 · intro h; rw [h]
theorem fldE_str {d : Nat} {f : Field} {x y : ByteArray} (hn : f.name ≠ "_") (hu : P.underlying f.type = some .string) (ha : a[f.offset]? = some (.string x)) (hb : b[f.offset]? = some (.string y)) : fldE P (d + 1) a b f = some (decide (x = y)) := by
 unfold fldE
 rw [if_neg hn]
 have hk : ldK P f.type = some none := by unfold ldK; rw [hu]
 simp only [hk, yH, ha, hb, Option.bind_some]
 unfold eqT
 rw [hu]
 simp only [Option.some.injEq]
 exact str_eq x y
end
noncomputable def fsOf (T : TypeId) : Array Field := match Tryz.prog.underlying T with | some (.struct fs) => fs | _ => #[]
noncomputable def ZY (T : TypeId) (i : Nat) : Field := (fsOf T).toList.getD i default
theorem entU : Tryz.prog.underlying 241 = some (.struct (fsOf 241)) := by kernel_rfl
theorem entL2 : (fsOf 241).toList = [ZY 241 0, ZY 241 1] := by kernel_rfl
theorem entN0 : (ZY 241 0).name = "Inum" := by kernel_rfl
theorem entN1 : (ZY 241 1).name = "Name" := by kernel_rfl
theorem entO0 : (ZY 241 0).offset = 0 := by kernel_rfl
theorem entO1 : (ZY 241 1).offset = 1 := by kernel_rfl
theorem entT0 : Tryz.prog.underlying (ZY 241 0).type = some (.int .u16) := by kernel_rfl
theorem entT1 : Tryz.prog.underlying (ZY 241 1).type = some .string := by kernel_rfl
theorem entG : Tryz.prog.eqGuardType Tryz.prog.depth 241 = false := by kernel_rfl
theorem entS : Tryz.prog.stoodInHeld 241 = false := by kernel_rfl
theorem eqEnt {x y : Ent} {lit : Bool} {H : Hp} : eqE Tryz.prog 241 lit (.agg (ZS x)) (.agg (ZS y)) H = some (decide (x = y)) := by
 rw [eqE_struct entU entL2 entG entS]
 have h0 : fldE Tryz.prog 9999 (ZS x) (ZS y) (ZY 241 0) = some (decide ((x.1 : Int) = y.1)) := Ym (d := 9998) (by rw [entN0]; decide) entT0 (by rw [entO0]; rfl) (by rw [entO0]; rfl)
 have h1 : fldE Tryz.prog 9999 (ZS x) (ZS y) (ZY 241 1) = some (decide (x.2 = y.2)) := fldE_str (d := 9998) (by rw [entN1]; decide) entT1 (by rw [entO1]; rfl) (by rw [entO1]; rfl)
 obtain ⟨x1, x2⟩ := x
 obtain ⟨y1, y2⟩ := y
 simp only at h0 h1
 unfold Yt
 rw [h0]
 by_cases e1 : (x1 : Int) = y1
 · rw [decide_eq_true e1]
   unfold Yt
   rw [h1]
   have e1 : x1 = y1 := by omega
   by_cases e2 : x2 = y2
   · simp [e1, e2, Yt]
   · simp [e1, e2]
 · have e1' : x1 ≠ y1 := fun e => e1 (by omega)
   simp [e1, e1']
def sB (m : Nat) : ByteArray := strOfNums [(m : Int)]
theorem sB_size (m : Nat) : (sB m).size = 1 := rfl
def decS (c : Array Value) : Nat → ByteArray
 | 0 => ⟨#[]⟩
 | n + 1 => decS c n ++ sB (byt c (2 + n))
theorem decS_size (c : Array Value) : ∀ n, (decS c n).size = n
 | 0 => rfl
 | n + 1 => by rw [decS, ByteArray.size_append, decS_size c n, sB_size]
def nulS (c : Array Value) : Nat → Nat → Nat
 | 0, i => i
 | f + 1, i => if byt c (2 + i) = 0 then i else nulS c f (i + 1)
theorem nulS_eq {c : Array Value} : ∀ (f i : Nat) {n : Nat}, i ≤ n → (∀ j, i ≤ j → j < n → byt c (2 + j) ≠ 0) → (n = i + f ∨ (n < i + f ∧ byt c (2 + n) = 0)) → nulS c f i = n
 | 0, i, n, h1, h2, h3 => by
   show i = n
   omega
 | f + 1, i, n, h1, h2, h3 => by
   unfold nulS
   by_cases e : i = n
   · subst e
     rcases h3 with h | h
     · omega
     · rw [if_pos h.2]
   · rw [if_neg (h2 i (Nat.le_refl _) (by omega))]
     exact nulS_eq f (i + 1) (by omega) (fun j h4 h5 => h2 j (by omega) h5) (by omega)
def decE (c : Array Value) : Ent := (byt c 0 + 256 * byt c 1, decS c (nulS c 14 0))
def fineE (c : Array Value) : Prop := encR (decE c) = 0 ∧ encE (decE c) = c
noncomputable def slotE (c : Array Value) : Ent := if fineE c then decE c else (0, ⟨#[]⟩)
theorem slotE_lt {c : Array Value} (h : IsN 16 c) : (slotE c).1 < 65536 := by
 unfold slotE
 split
 · have h0 := h.lt 0
   have h1 := h.lt 1
   show byt c 0 + 256 * byt c 1 < _
   omega
 · exact (by decide : (0 : Nat) < 65536)
theorem und16 : Tryz.prog.underlying 237 = some (.array 16 5) := by kernel_rfl
noncomputable def inf8 : TypeInfo := (Tryz.prog.info? 5).getD default
theorem inf8_e : Tryz.prog.info? 5 = some inf8 := by kernel_rfl
theorem inf8_s : inf8.size = 1 := by kernel_rfl
theorem sl16 {b i : Nat} (hi : i < 16) : yb Tryz.prog 237 (.pointer (some ⟨b, 0, none⟩)) (some (zm i)) (some (zm ((i + 1 : Nat) : Int))) none = some (.slice (some ⟨b, i, none⟩) 1 (16 - i)) := by
 unfold yb
 rw [und16]
 have h1 : (0 : Int) ≤ ((i + 1 : Nat) : Int) ∧ ((i + 1 : Nat) : Int) ≤ ((16 : Nat) : Int) := by omega
 have h2 : (0 : Int) ≤ (i : Int) ∧ (i : Int) ≤ ((i + 1 : Nat) : Int) := by omega
 simp only [ZD, hiE, Option.bind_some, Int.toNat_natCast, inf8_e, Option.map_some]
 rw [if_pos h1]
 simp only [Option.bind_some]
 rw [if_pos h2]
 simp only [Option.bind_some, Option.map_some, inf8_s, Nat.mul_one]
 rw [if_neg (by omega)]
 simp only [Addr.add_mk, Nat.zero_add]
 congr 2
 omega
theorem strOf1 {H : Hp} {b i m c' : Nat} {c : Array Value} {T : TypeId} (hb : H[b]? = some (.cells c T)) (hi : c[i]? = some (.int .u8 m)) : strOfE (.slice (some ⟨b, i, none⟩) 1 c') H = some (.string (sB m)) := by
 have hlt : i < c.size := by
   rcases Nat.lt_or_ge i c.size with h | h
   · exact h
   · rw [Array.getElem?_eq_none h] at hi; cases hi
 have hr : rowH H ⟨b, i, none⟩ 1 = some #[.int .u8 m] := by
   unfold rowH
   simp only [hb]
   rw [if_pos ⟨trivial, by omega⟩]
   congr 1
   apply Array.ext_getElem?
   intro j
   rw [Array.getElem?_extract]
   by_cases hj : j = 0
   · subst hj
     rw [if_pos (by omega), Nat.add_zero, hi]; rfl
   · rw [if_neg (by omega), Array.getElem?_eq_none (by simp; omega)]
 unfold strOfE
 simp only [hr, Option.bind_some]
 rfl
theorem str_add {s t : ByteArray} (h : s.size + t.size < 1000000) : zn (some .string) .add (.string s) (.string t) = some (.string (s ++ t)) := by
 show strE .add s t = _
 unfold strE
 have : IntKind.i64.max = 9223372036854775807 := by decide
 simp only
 rw [if_neg (by omega)]
theorem str_cmp {s t : ByteArray} : zn (some .string) .eql (.string s) (.string t) = some (.bool (decide (s = t))) := by
 show some (Value.bool (s.toList == t.toList)) = _
 rw [str_eq]
theorem str_ncmp {s t : ByteArray} : zn (some .string) .neq (.string s) (.string t) = some (.bool (decide (s ≠ t))) := by
 show some (Value.bool (!(s.toList == t.toList))) = _
 rw [str_eq]; congr 2; rw [Bool.eq_iff_iff]; simp
theorem row16 : IntRow Tryz.prog 237 16 .u8 := ⟨⟨5, by kernel_rfl, by kernel_rfl, by kernel_rfl, by kernel_rfl⟩, by kernel_rfl⟩
theorem eq16 {a b : Array Value} (ha : IsN 16 a) (hb : IsN 16 b) {lit : Bool} {H : Hp} : eqE Tryz.prog 237 lit (.agg a) (.agg b) H = some (decide (a = b)) :=
 eqX_row row16 ha.size hb.size (fun i hi => ⟨_, ha.get hi⟩) (fun i hi => ⟨_, hb.get hi⟩)
theorem zeroEnt : zD Tryz.prog 241 = some (.agg (ZS (0, ⟨#[]⟩))) := by kernel_rfl
theorem buildEnt0 : zv Tryz.prog 241 [] = some (.agg (ZS (0, ⟨#[]⟩))) := by kernel_rfl
theorem buildEnt1 (a : Int) : zv Tryz.prog 241 [(0, .int .u16 a)] = some (.agg #[.int .u16 a, .string ⟨#[]⟩]) := by kernel_rfl
theorem entC_okk (e : Ent) : zG (ZS e) := by unfold zG; rw [← Array.all_toList]; rfl
section
variable {H : Hp} {R : Value → Hp → Prop}
theorem dec18 {c : Array Value} (hc : IsN 16 c) (k : ∀ H', Ext H H' → R (.tuple #[.agg (ZS (slotE c)), zm (if fineE c then 0 else 4)]) H') : Fc Tryz.prog 191 #[.agg c] H R := by
 have hb0 := hc.lt 0
 have hb1 := hc.lt 1
 refine fn191 ?_
 simp only [sh191, zu, zeroEnt, za]
 refine (Lo.start _ H : Lx H H []).boxA fun b1 H1 _ l1 => ?_
 refine l1.boxA fun b2 H2 _ l2 => ?_
 rw [show (Value.int .i64 0) = zm ((0 : Nat) : Int) from rfl, show (Value.int .i64 1) = zm ((1 : Nat) : Int) from rfl]
 rw [zF (by omega), za, Nat.zero_add, Nat.zero_mul, l2.ld (i := 0) rfl, hc.get (by omega), za, zE, za, Zu (by omega) (by omega), zF (by omega), za, Nat.zero_add, Nat.mul_one, l2.ld (i := 0) rfl, hc.get (by omega), za, zE, za, Zu (by omega) (by omega), zX, za, Zu (by omega) (by omega), zk, za, Zu (by omega) (by omega), buildEnt1, za]
 refine l2.boxA fun b3 H3 _ l3 => ?_
 have hnum : (byt c 0 : Int) + 256 * (byt c 1 : Int) = ((byt c 0 + 256 * byt c 1 : Nat) : Int) := by omega
 rw [hnum]
 refine l3.stAll (i := 2) (vs := ZS (byt c 0 + 256 * byt c 1, decS c 0)) rfl rfl rfl (entC_okk _) fun H4 l4 => ?_
 refine zz.mk (fun t H' => ∃ i : Nat, i ≤ 14 ∧ t = (zm ((2 + i : Nat) : Int), ()) ∧ (∀ j, j < i → byt c (2 + j) ≠ 0) ∧ Lx H H' [.box b1 c 237, .box b2 (ZS (0, ⟨#[]⟩)) 241, .box b3 (ZS (byt c 0 + 256 * byt c 1, decS c i)) 241])
   (fun t _ => mi t.1 fun i => (16 - i).toNat) ⟨0, by omega, rfl, fun j hj => by omega, l4⟩ ?_
 rintro _ H5 ⟨i, hi, rfl, hno, l5⟩
 have e1 : ∀ {v : ByteArray}, (ZS (byt c 0 + 256 * byt c 1, v))[1]? = some (.string v) := rfl
 refine zT.mk (fun t H' => H' = H5 ∧ t.1 = .bool (decide (i < 14 ∧ byt c (2 + i) ≠ 0))) ?_ ?_
 · rintro ⟨t, u⟩ H6 ⟨rfl, ht⟩
   simp only at ht
   subst ht
   simp only [zh, Nat.zero_add, za]
   rw [zf]
   refine ⟨fun hgo => ?_, fun hend => ?_⟩
   · rw [l5.ld (i := 2) rfl, e1, za, zk, za, addN (2 + i) 1, zw (v := 2 + i + 1) (by omega), sl16 (by omega), za, strOf1 (l5.at (i := 0) rfl) (hc.get (by omega)), za, str_add (by rw [decS_size, sB_size]; omega), za]
     refine l5.st (i := 2) (j := 1) (v := .string (decS c i ++ sB (byt c (2 + i)))) rfl (by exact (by decide : 1 < 2)) rfl rfl fun H7 l7 => ?_
     rw [za]
     refine ⟨⟨i + 1, by omega, rfl, fun j hj => ?_, l7⟩, by simp only [zC]; omega⟩
     by_cases e : j = i
     · rw [e]; exact hgo.2
     · exact hno j (by omega)
   · have hlen : nulS c 14 0 = i := nulS_eq 14 0 (by omega) (fun j _ hj => hno j hj) (by
       by_cases e : i = 14
       · omega
       · by_cases e2 : byt c (2 + i) = 0
         · omega
         · exact absurd ⟨by omega, e2⟩ hend)
     have hdec : ((byt c 0 + 256 * byt c 1, decS c i) : Ent) = decE c := by unfold decE; rw [hlen]
     have hsz : (decE c).2.size ≤ 14 := by rw [← hdec]; show (decS c i).size ≤ 14; rw [decS_size]; exact hi
     have hlt : (decE c).1 < 65536 := by rw [← hdec]; show byt c 0 + 256 * byt c 1 < _; omega
     rw [hdec] at l5
     rw [l5.ldAll (i := 2) (n := 2) rfl rfl, za]
     refine enc18 hlt (by omega) fun H8 e8 => ?_
     have l8 := l5.ext e8
     have hei := encE_is (decE c)
     rw [show ze (.tuple #[.agg (encE (decE c)), zm (encR (decE c))]) 0 = some (.agg (encE (decE c))) from rfl, za, show ze (.tuple #[.agg (encE (decE c)), zm (encR (decE c))]) 1 = some (zm (encR (decE c))) from rfl, za, zero16, za]
     refine l8.boxA fun b4 H9 _ l9 => ?_
     refine l9.stAll (i := 3) (vs := encE (decE c)) rfl (yu 16) hei.size hei.ok fun H10 l10 => ?_
     have l10 : Lx H H10 [.box b1 c 237, .box b2 (ZS (0, ⟨#[]⟩)) 241, .box b3 (ZS (decE c)) 241, .box b4 (encE (decE c)) 237] := l10
     refine zT.mk (fun t H' => H' = H10 ∧ t.1 = .bool (decide (¬ fineE c))) ?_ ?_
     · rintro ⟨t, u⟩ H11 ⟨rfl, ht⟩
       simp only at ht
       subst ht
       rw [zf]
       refine ⟨fun hb => ?_, fun hb => ?_⟩
       · rw [buildEnt0, za]
         refine l10.ret (i := 1) rfl rfl rfl (entC_okk _) fun H' l' => ?_
         have := k H' l'.ext0
         unfold slotE at this
         rw [if_neg hb, if_neg hb] at this
         exact this
       · have hb := Classical.not_not.1 hb
         rw [l10.ldAll (i := 2) (n := 2) rfl rfl, za]
         refine l10.ret (i := 1) rfl rfl rfl (entC_okk _) fun H' l' => ?_
         have := k H' l'.ext0
         unfold slotE at this
         rw [if_pos hb, if_pos hb] at this
         exact this
     · rw [zx, za, zf]
       refine ⟨fun hne => ⟨rfl, yj fun e => hne e.1⟩, fun he => ?_⟩
       have he : encR (decE c) = 0 := Classical.not_not.1 he
       rw [l10.ldAll (i := 3) (n := 16) rfl hei.size, za, l10.ldAll (i := 0) (n := 16) rfl hc.size, za, yS, eq16 hei hc, Option.map_some, za]
       refine ⟨rfl, ?_⟩
       show Value.bool (!decide (encE (decE c) = c)) = _
       congr 1
       rw [Bool.eq_iff_iff]
       simp [fineE, he]
 · rw [zt, za, zf]
   refine ⟨fun hlt => ?_, fun hge => ⟨rfl, YM fun e => hge (by omega)⟩⟩
   rw [zF (by omega), za, Nat.zero_add, Nat.mul_one, l5.ld (i := 0) rfl, hc.get (by omega), za, zx, za]
   refine ⟨rfl, Yi ?_⟩
   omega
end
end Go.Vc
namespace Go.Vc
open Go.Proofs Classical
def cutE (c : Blk) (o : Nat) : Array Value := c.extract o (o + 16)
theorem cutE_is {c : Blk} (h : IsB c) {o : Nat} (ho : o + 16 ≤ 1024) : IsN 16 (cutE c o) := by
 unfold cutE
 refine ⟨by rw [Array.size_extract, h.size]; omega, fun i hi => ?_⟩
 rw [Array.getElem?_extract, if_pos (by rw [h.size]; omega)]
 exact h.cell _ (by omega)
theorem byt_cutE {c : Blk} (h : IsB c) {o : Nat} (ho : o + 16 ≤ 1024) {i : Nat} (hi : i < 16) : byt (cutE c o) i = byt c (o + i) := by
 unfold byt cutE
 rw [Array.getElem?_extract, if_pos (by rw [h.size]; omega)]
noncomputable def rawS (l : List (Int × Blk)) (x : Fl) (s : Nat) : Array Value := cutE (Zi l (mapP x.sp ((s / 64 : Nat) : Int))) (16 * (s % 64))
noncomputable def ZP (l : List (Int × Blk)) (x : Fl) (n : Nat) : List Ent := (List.range n).map fun s => slotE (rawS l x s)
def YW (l : List (Int × Blk)) (x : Fl) (n : Nat) : Prop := ∀ s, s < n → fineE (rawS l x s)
theorem rawS_is {l : List (Int × Blk)} (h : ∀ x ∈ l, IsB x.2) (x : Fl) (s : Nat) : IsN 16 (rawS l x s) := cutE_is (ZA h _) (by omega)
theorem slotsP_len (l : List (Int × Blk)) (x : Fl) (n : Nat) : (ZP l x n).length = n := by simp [ZP]
theorem slotsP_succ (l : List (Int × Blk)) (x : Fl) (n : Nat) : ZP l x (n + 1) = ZP l x n ++ [slotE (rawS l x n)] := by unfold ZP; rw [List.range_succ, List.map_append]; rfl
theorem slotsP_get (l : List (Int × Blk)) (x : Fl) {n i : Nat} (h : i < n) : (ZP l x n)[i]? = some (slotE (rawS l x i)) := by unfold ZP; rw [List.getElem?_map, List.getElem?_range h]; rfl
noncomputable def eEn : ZN := orE (zK Tryz.prog 140)
set_option maxRecDepth 100000 in
theorem elEn : zK Tryz.prog 140 = some eEn := by kernel_rfl
set_option maxRecDepth 100000 in
theorem eEn_f : eEn.type = 241 ∧ eEn.size = 2 ∧ eEn.zero.size = 2 ∧ eEn.bytes = 24 := ⟨by kernel_rfl, by kernel_rfl, by kernel_rfl, by kernel_rfl⟩
section
variable {H : Hp} {R : Value → Hp → Prop} {d : Nat} {dv : Value} {B L I : Int} {l : List (Int × Blk)} {s : Value} {fs : List Fl}
theorem slots29 (h : Lk H d dv B L I l) {x : Fl} (hsub : Sr 2 H x.v (x.sp.map spC)) (hfew : x.sp.length ≤ 66100) (hok : InoOk x.f) (k : ∀ H' s', Ext H H' → New H H' (.sl 241 2 s' ((ZP l x (x.f 2 / 16)).map ZS)) → R (.tuple #[s', .bool (decide (YW l x (x.f 2 / 16)))]) H') : Fc Tryz.prog 162 #[z7 d, .agg (flC x)] H R := by
 have h2 := hok 2 (by omega)
 simp only [fw, Nat.reduceLT, if_false, Nat.reducePow, Nat.lt_irrefl] at h2
 have f3 : (flC x)[3]? = some (.int .u32 (x.f 2)) := rfl
 have f17 : (flC x)[17]? = some x.v := rfl
 refine fn162 ?_
 simp only [sh162, zu]
 refine (Lo.start _ H : Lx H H []).boxA fun b1 H1 _ l1 => ?_
 have l1 := l1.nilS 241 2
 simp only [zh, Nat.zero_add, Nat.add_zero, Nat.reduceAdd, za, Z0, zero16, zeroEnt]
 generalize hn : x.f 2 / 16 = n at k
 refine zz.mk (fun t H' => ∃ (i : Nat) (v : Value), i ≤ n ∧ t = (.bool (decide (YW l x i)), v, zm i, ()) ∧ Lx H H' [.box b1 (flC x) 192, .sl 241 2 v ((ZP l x i).map ZS)])
   (fun t _ => mi t.2.2.1 fun i => (n - i).toNat) ⟨0, .slice none 0 0, by omega, by rw [decide_eq_true (show YW l x 0 from fun s hs => by omega)]; rfl, l1⟩ ?_
 rintro _ H2 ⟨i, v, hi, rfl, l2⟩
 rw [l2.ld (i := 0) rfl, f3, za, zE, za, zw (by omega), Zm (by decide), za, Zv (by omega), zg (by omega) (by omega), zt, za, zf]
 refine ⟨fun hlt => ?_, fun hge => ?_⟩
 · rw [l2.ld (i := 0) rfl, f17, za, zX, za, zg (by omega) (by omega), Zm (by decide), za, Zv (by omega), zg (by omega) (by omega), show ((i : Int) * 16 / 1024) = ((i / 64 : Nat) : Int) by omega]
   refine mapped29 (hsub.ext l2.ext0) (by omega) ?_
   refine lk_at (h.ext l2.ext0) fun H3 e3 => ?_
   have hraw := rawS_is h.is x i
   have hby : ∀ j, j < 16 → byt (rawS l x i) j = byt (Zi l (mapP x.sp ((i / 64 : Nat) : Int))) (16 * (i % 64) + j) := fun j hj => byt_cutE (ZA h.is _) (by omega) hj
   have hbl := ZA h.is (mapP x.sp ((i / 64 : Nat) : Int))
   have hsl := slotE_lt hraw
   have hfs : YW l x (i + 1) ↔ YW l x i ∧ fineE (rawS l x i) := ⟨fun hh => ⟨fun s hs => hh s (by omega), hh i (by omega)⟩, fun hh s hs => by
     by_cases e : s = i
     · rw [e]; exact hh.2
     · exact hh.1 s (by omega)⟩
   have hsc := slotsP_succ l x i
   generalize Zi l (mapP x.sp ((i / 64 : Nat) : Int)) = c at hbl hby
   generalize rawS l x i = r at hraw hby hsl hfs hsc
   refine (l2.ext e3).boxA fun b2 H4 _ l4 => ?_
   refine l4.stAll (i := 2) rfl zI hbl.size hbl.ok fun H5 l5 => ?_
   refine l5.boxA fun b3 H6 _ l6 => ?_
   refine zz.mk (fun t H' => ∃ (j : Nat) (y : Array Value), j ≤ 16 ∧ t = (zm j, ()) ∧ IsN 16 y ∧ (∀ z, z < j → byt y z = byt r z) ∧ Lx H H' [.box b1 (flC x) 192, .sl 241 2 v ((ZP l x i).map ZS), .box b2 c 65, .box b3 y 237])
     (fun t _ => mi t.1 fun j => (16 - j).toNat) ⟨0, zR 16, by omega, rfl, Z6 16, fun z hz => by omega, l6⟩ ?_
   rintro _ H7 ⟨j, y, hj, rfl, hy, hyz, l7⟩
   rw [zt, za, zf]
   refine ⟨fun hlt2 => ?_, fun hge2 => ?_⟩
   · rw [za, z8 (by decide), za, Zd (by omega), zk, za, zg (by omega) (by omega), show (((i : Int) * 16) % 1024 + (j : Int)) = ((16 * (i % 64) + j : Nat) : Int) by omega, zF (by omega), za, Nat.zero_add, Nat.mul_one, l7.ld (i := 2) rfl, hbl.get (by omega), za, zF (by omega), za, Nat.zero_add, Nat.mul_one]
     refine l7.st (i := 3) (j := j) (v := .int .u8 (byt c (16 * (i % 64) + j))) rfl (by rw [hy.size]; omega) rfl rfl fun H8 l8 => ?_
     rw [zk, za, zL, zw (by omega)]
     refine ⟨⟨j + 1, _, by omega, rfl, hy.set j (hbl.lt _), fun z hz => ?_, l8⟩, by simp only [zC]; omega⟩
     rw [hy.byt_set (by omega)]
     by_cases e : j = z
     · subst e
       rw [if_pos rfl]; exact (hby j (by omega)).symm
     · rw [if_neg e]; exact hyz z (by omega)
   · have ej : j = 16 := by omega
     subst ej
     have e : y = r := hy.ext hraw fun z hz => hyz z hz
     subst e
     rw [l7.ldAll (i := 3) (n := 16) rfl hy.size, za]
     refine dec18 hy fun H9 e9 => ?_
     rw [show ze (.tuple #[.agg (ZS (slotE y)), zm (if fineE y then 0 else 4)]) 0 = some (.agg (ZS (slotE y))) from rfl, za, show ze (.tuple #[.agg (ZS (slotE y)), zm (if fineE y then 0 else 4)]) 1 = some (zm (if fineE y then 0 else 4)) from rfl, za]
     refine (l7.ext e9).boxA fun b4 H10 _ l10 => ?_
     refine l10.stAll (i := 4) (vs := ZS (slotE y)) rfl rfl rfl (entC_okk _) fun H11 l11 => ?_
     have l11 : Lx H H11 [.box b1 (flC x) 192, .sl 241 2 v ((ZP l x i).map ZS), .box b2 c 65, .box b3 y 237, .box b4 (ZS (slotE y)) 241] := l11
     refine zT.mk (fun t H' => H' = H11 ∧ t.1 = .bool (decide (YW l x (i + 1)))) ?_ ?_
     · rintro ⟨t, u⟩ H12 ⟨rfl, ht⟩
       simp only at ht
       subst ht
       rw [l11.ldAll (i := 4) (n := 2) rfl rfl, za]
       refine l11.appO elEn eEn_f (i := 1) rfl (by rfl) (by omega) (by omega) rfl (entC_okk _) (by rw [List.length_map, slotsP_len]; omega) fun s' H13 l13 => ?_
       have l13 := l13.takeN 2
       rw [zk, za, zL, zw (by omega)]
       refine ⟨⟨i + 1, s', by omega, rfl, ?_⟩, by simp only [zC]; omega⟩
       rw [hsc, List.map_append]
       exact l13
     · rw [zf]
       refine ⟨fun hf => ?_, fun hf => ⟨rfl, YM fun e => hf (hfs.1 e).1⟩⟩
       rw [zA, za]
       refine ⟨rfl, Yi ?_⟩
       rw [hfs]
       constructor
       · intro h0
         refine ⟨hf, ?_⟩
         by_cases e : fineE y
         · exact e
         · rw [if_neg e] at h0; omega
       · intro h0; rw [if_pos h0.2]
 · have ei : i = n := by omega
   subst ei
   exact k H2 v l2.ext0 (l2.outN (i := 1) rfl)
def usedP (fs : List Fl) (a : Int) : Prop := ∃ x ∈ fs, (x.i : Int) = a
theorem used29 (hf : Fls H s fs) {a : Int} (k : R (.bool (decide (usedP fs a))) H) : Fc Tryz.prog 197 #[s, zm a] H R := by
 have hfl := hf.len
 refine fn197 ?_
 simp only [sh197, zu]
 refine zz.mk (fun t H' => H' = H ∧ ∃ i : Nat, i ≤ fs.length ∧ t = (zm i, ()) ∧ ∀ x ∈ fs.take i, (x.i : Int) ≠ a) (fun t _ => mi t.1 fun i => (fs.length - i).toNat) ⟨rfl, 0, by omega, rfl, by simp⟩ ?_
 rintro _ H3 ⟨rfl, i, hi, rfl, hno⟩
 rw [hf.row.lenE yA, za, List.length_map, zt, za, zf]
 refine ⟨fun hlt => ?_, fun hge => ?_⟩
 · have hil : i < fs.length := by omega
   have hei : (fs.map flC)[i]? = some (flC fs[i]) := by rw [List.getElem?_map, List.getElem?_eq_getElem hil]; rfl
   have htk : fs.take (i + 1) = fs.take i ++ [fs[i]] := List.take_succ_eq_append_getElem hil
   have hmem : fs[i] ∈ fs := List.getElem_mem hil
   generalize fs[i] = x at hei htk hmem
   obtain ⟨b, o, ha, hcl, _⟩ := hf.row.el hei
   have h0 := hcl 0 (by omega)
   rw [Nat.add_zero] at h0
   rw [ha, za, zh, za, Nat.add_zero, h0, show (flC x)[0]? = some (zm x.i) from rfl, za, zA, za, zf]
   refine ⟨fun he => ?_, fun hne => ?_⟩
   · have e : decide (usedP fs a) = true := decide_eq_true ⟨x, hmem, he⟩
     rw [e] at k; exact k
   · rw [zk, za, zL, zw (by omega)]
     refine ⟨⟨rfl, i + 1, by omega, rfl, fun y hy => ?_⟩, by simp only [zC]; omega⟩
     rw [htk] at hy
     rcases List.mem_append.1 hy with h1 | h1
     · exact hno y h1
     · rw [List.mem_singleton.1 h1]; exact hne
 · have ei : i = fs.length := by omega
   subst ei
   rw [List.take_length] at hno
   have e : decide (usedP fs a) = false := decide_eq_false fun ⟨x, hx, he⟩ => hno x hx he
   rw [e] at k; exact k
end
end Go.Vc
namespace Go.Vc
open Go.Proofs Classical
def dotS : ByteArray := ⟨#[46]⟩
def dotsS : ByteArray := ⟨#[46, 46]⟩
noncomputable def enS (l : List (Int × Blk)) (x : Fl) (i : Nat) : Ent := slotE (rawS l x i)
def badEn (l : List (Int × Blk)) (fs : List Fl) (x : Fl) (i : Nat) : Prop := (enS l x i).1 ≠ 0 ∧ (¬ usedP fs (enS l x i).1 ∨ (1 < i ∧ ((enS l x i).2 = dotS ∨ (enS l x i).2 = dotsS)) ∨ ∃ k, k < i ∧ (enS l x k).2 = (enS l x i).2)
def yp (l : List (Int × Blk)) (fs : List Fl) (x : Fl) : Prop := ¬ YW l x (x.f 2 / 16) ∨ (x.f 1 ≠ 0 ∧ (enS l x 0 ≠ (x.i, dotS) ∨ (enS l x 1).2 ≠ dotsS ∨ ∃ i, i < x.f 2 / 16 ∧ badEn l fs x i))
theorem buildEnt2 (a : Nat) : zv Tryz.prog 241 [(0, .int .u16 (a : Int)), (1, .string ⟨#[46]⟩)] = some (.agg (ZS (a, dotS))) := by kernel_rfl
def NdOk (fs : List Fl) : Prop := ∀ x ∈ fs, x.f 2 ≤ 67381248 ∧ (x.f 0 = 2 → x.f 1 ≠ 0 → 32 ≤ x.f 2)
abbrev Nm := Nat × Nat
def nmC (x : Nm) : Array Value := #[zm x.1, zm x.2]
theorem nmC_ok (x : Nm) : zG (nmC x) := by unfold zG; rw [← Array.all_toList]; rfl
noncomputable def eNm : ZN := orE (zK Tryz.prog 225)
set_option maxRecDepth 100000 in
theorem elNm : zK Tryz.prog 225 = some eNm := by kernel_rfl
set_option maxRecDepth 100000 in
theorem eNm_f : eNm.type = 262 ∧ eNm.size = 2 ∧ eNm.zero.size = 2 ∧ eNm.bytes = 16 := ⟨by kernel_rfl, by kernel_rfl, by kernel_rfl, by kernel_rfl⟩
theorem undNms : Tryz.prog.underlying 225 = some (.slice 262) := by kernel_rfl
theorem buildNm (a b : Nat) : zv Tryz.prog 262 [(0, zm a), (1, zm b)] = some (.agg (nmC (a, b))) := by kernel_rfl
def isTree (x : Fl) : Prop := x.f 0 = 2 ∧ x.f 1 ≠ 0
noncomputable def nmD (l : List (Int × Blk)) (x : Fl) : Nat → List Nm
 | 0 => []
 | n + 1 => nmD l x n ++ (if 2 ≤ n ∧ (enS l x n).1 ≠ 0 then [(x.i, (enS l x n).1)] else [])
theorem nmD_succ (l : List (Int × Blk)) (x : Fl) (n : Nat) : nmD l x (n + 1) = nmD l x n ++ (if 2 ≤ n ∧ (enS l x n).1 ≠ 0 then [(x.i, (enS l x n).1)] else []) := rfl
theorem nmD_two (l : List (Int × Blk)) (x : Fl) : ∀ n, n ≤ 2 → nmD l x n = []
 | 0, _ => rfl
 | n + 1, h => by rw [nmD_succ, nmD_two l x n (by omega), if_neg (fun e => by omega)]; rfl
theorem nmD_len (l : List (Int × Blk)) (x : Fl) : ∀ n, (nmD l x n).length ≤ n
 | 0 => by simp [nmD]
 | n + 1 => by
   have := nmD_len l x n
   rw [nmD_succ, List.length_append]
   split <;> simp <;> omega
noncomputable def nmX (l : List (Int × Blk)) (x : Fl) : List Nm := if isTree x then nmD l x (x.f 2 / 16) else []
noncomputable def yq (l : List (Int × Blk)) (fs : List Fl) : List Nm := fs.flatMap (nmX l)
theorem namesP_app (l : List (Int × Blk)) (a b : List Fl) : yq l (a ++ b) = yq l a ++ yq l b := List.flatMap_append ..
theorem namesP_one (l : List (Int × Blk)) (x : Fl) : yq l [x] = nmX l x := by simp [yq]
theorem nmX_len (l : List (Int × Blk)) {x : Fl} (h : x.f 2 ≤ 67381248) : (nmX l x).length ≤ 4211328 := by
 unfold nmX
 split
 · have := nmD_len l x (x.f 2 / 16); omega
 · simp
theorem namesP_len (l : List (Int × Blk)) : ∀ {fs : List Fl}, NdOk fs → (yq l fs).length ≤ 4211328 * fs.length
 | [], _ => by simp [yq]
 | x :: r, h => by
   have h1 := namesP_len l (fs := r) fun y hy => h y (List.mem_cons_of_mem _ hy)
   have h2 := nmX_len l (h x (List.mem_cons_self ..)).1
   have e : yq l (x :: r) = nmX l x ++ yq l r := by simp [yq]
   rw [e, List.length_append, List.length_cons]; omega
section
variable {H : Hp} {R : Value → Hp → Prop} {d : Nat} {dv : Value} {B L I : Int} {l : List (Int × Blk)} {s : Value} {fs : List Fl}
set_option maxHeartbeats 1000000 in
theorem badSlots29 (h : Lk H d dv B L I l) (hf : Fls H s fs) {x : Fl} (hx : x ∈ fs) (hlk : x.f 1 ≠ 0 → 32 ≤ x.f 2) (k : ∀ H', Ext H H' → R (.bool (decide (yp l fs x))) H') : Fc Tryz.prog 184 #[z7 d, s, .agg (flC x)] H R := by
 have hnum := hf.num x hx
 have hok := hf.ok x hx
 have h2 := hok 2 (by omega)
 simp only [fw, Nat.reduceLT, if_false, Nat.reducePow, Nat.lt_irrefl] at h2
 have f0 : (flC x)[0]? = some (zm x.i) := rfl
 have f2 : (flC x)[2]? = some (.int .u16 (x.f 1)) := rfl
 refine fn184 ?_
 simp only [sh184, zu]
 refine (Lo.start _ H : Lx H H []).boxA fun b1 H1 _ l1 => ?_
 have l1 : Lx H H1 [.box b1 (flC x) 192] := l1
 have fin : ∀ {H'} (b : Bool), Ext H H' → (b = true ↔ yp l fs x) → R (.bool b) H' := fun {H'} b e hb => by
   have := k H' e
   rw [show decide (yp l fs x) = b from by rw [Bool.eq_iff_iff, decide_eq_true_eq, hb]] at this
   exact this
 rw [l1.ldAll (i := 0) (n := 18) rfl rfl, za]
 refine slots29 (h.ext l1.ext0) ((hf.sub x hx).ext l1.ext0) (hf.few x hx) hok fun H2 sv e2 n2 => ?_
 have l2 : Lx H H2 [.box b1 (flC x) 192, .sl 241 2 sv ((ZP l x (x.f 2 / 16)).map ZS)] := l1.new e2 n2
 have hgt : ∀ i, i < x.f 2 / 16 → ((ZP l x (x.f 2 / 16)).map ZS)[i]? = some (ZS (enS l x i)) := fun i hi => by rw [List.getElem?_map, slotsP_get l x hi]; rfl
 have hlt16 : ∀ i, (enS l x i).1 < 65536 := fun i => slotE_lt (rawS_is h.is x i)
 have hlen : ((ZP l x (x.f 2 / 16)).map ZS).length = x.f 2 / 16 := by rw [List.length_map, slotsP_len]
 rw [show ze (.tuple #[sv, .bool (decide (YW l x (x.f 2 / 16)))]) 0 = some sv from rfl, za, show ze (.tuple #[sv, .bool (decide (YW l x (x.f 2 / 16)))]) 1 = some (.bool (decide (YW l x (x.f 2 / 16)))) from rfl, za, zM, za, Z9]
 refine ⟨fun hnf => ?_, fun hfi => ?_⟩
 · rw [decide_eq_false_iff_not] at hnf
   exact fin true l2.ext0 ⟨fun _ => .inl hnf, fun _ => rfl⟩
 · rw [decide_eq_true_eq] at hfi
   rw [zh, za, zh, za, l2.ld (i := 0) rfl, f2, za, zA, za, zf]
   refine ⟨fun h0 => fin false l2.ext0 ⟨fun e => (by cases e), fun e => ?_⟩, fun h0 => ?_⟩
   · rcases e with e | e
     · exact absurd hfi e
     · omega
   · have h0 : x.f 1 ≠ 0 := by omega
     have h32 := hlk h0
     have hbad : yp l fs x ↔ (enS l x 0 ≠ (x.i, dotS) ∨ (enS l x 1).2 ≠ dotsS) ∨ ∃ i, i < x.f 2 / 16 ∧ badEn l fs x i := by
       unfold yp
       constructor
       · rintro (e | ⟨_, e | e | e⟩)
         · exact absurd hfi e
         · exact .inl (.inl e)
         · exact .inl (.inr e)
         · exact .inr e
       · rintro ((e | e) | e)
         · exact .inr ⟨h0, .inl e⟩
         · exact .inr ⟨h0, .inr (.inl e)⟩
         · exact .inr ⟨h0, .inr (.inr e)⟩
     have sv2 := (l2.sv (i := 1) rfl).sr
     refine zT.mk (fun t H' => H' = H2 ∧ t.1 = .bool (decide (enS l x 0 ≠ (x.i, dotS) ∨ (enS l x 1).2 ≠ dotsS))) ?_ ?_
     · rintro ⟨t, u⟩ H3 ⟨rfl, ht⟩
       simp only at ht
       subst ht
       rw [zf]
       refine ⟨fun hb => fin true l2.ext0 ⟨fun _ => hbad.2 (.inl hb), fun _ => rfl⟩, fun hb => ?_⟩
       refine zz.mk (fun t H' => Ext H3 H' ∧ ∃ i : Nat, i ≤ x.f 2 / 16 ∧ t = (zm i, ()) ∧ ∀ j, j < i → ¬ badEn l fs x j) (fun t _ => mi t.1 fun i => (((x.f 2 / 16 : Nat) : Int) - i).toNat) ⟨Ext.refl _, 0, by omega, rfl, fun j hj => by omega⟩ ?_
       rintro _ H4 ⟨x4, i, hi, rfl, hno⟩
       have sv4 := sv2.ext x4
       rw [sv4.lenE undEnts, za, hlen, zt, za, zf]
       refine ⟨fun hlt => ?_, fun hge => ?_⟩
       · have hst : ∀ j, j < i + 1 ↔ j < i ∨ j = i := fun j => by omega
         obtain ⟨b, o, ha, hcl, _⟩ := sv4.el (hgt i (by omega))
         have c0 := hcl 0 (by omega)
         have c1 := hcl 1 (by omega)
         rw [Nat.add_zero, show (ZS (enS l x i))[0]? = some (.int .u16 (enS l x i).1) from rfl] at c0
         rw [show (ZS (enS l x i))[1]? = some (.string (enS l x i).2) from rfl] at c1
         have hl16 := hlt16 i
         rw [ha, za, zh, za, Nat.add_zero, c0, za, zA, za, zf]
         refine ⟨fun hz => ?_, fun hz => ?_⟩
         · rw [zk, za, zL, zw (by omega)]
           refine ⟨⟨x4, i + 1, by omega, rfl, fun j hj => ?_⟩, by simp only [zC]; omega⟩
           rcases (hst j).1 hj with e | e
           · exact hno j e
           · rw [e]; exact fun e2 => e2.1 (by omega)
         · have hz : (enS l x i).1 ≠ 0 := by omega
           rw [za, zh, za, Nat.add_zero, c0, za, zE, za, zw (by omega)]
           refine used29 (hf.ext (l2.ext0.trans x4)) ?_
           refine zT.mk (fun t H' => H' = H4 ∧ t.1 = .bool (decide (¬ usedP fs (enS l x i).1 ∨ (1 < i ∧ ((enS l x i).2 = dotS ∨ (enS l x i).2 = dotsS))))) ?_ ?_
           · rintro ⟨t, u⟩ H5 ⟨rfl, ht⟩
             simp only at ht
             subst ht
             rw [zf]
             refine ⟨fun hb1 => fin true (l2.ext0.trans x4) ⟨fun _ => hbad.2 (.inr ⟨i, by omega, hz, ?_⟩), fun _ => rfl⟩, fun hb1 => ?_⟩
             · rcases hb1 with e | e
               · exact .inl e
               · exact .inr (.inl e)
             · refine zz.mk (fun t H' => H' = H5 ∧ ∃ j : Nat, j ≤ i ∧ t = (zm j, ()) ∧ ∀ z, z < j → (enS l x z).2 ≠ (enS l x i).2) (fun t _ => mi t.1 fun j => (i - j).toNat) ⟨rfl, 0, by omega, rfl, fun z hz => by omega⟩ ?_
               rintro _ H6 ⟨rfl, j, hj, rfl, hnz⟩
               rw [zt, za, zf]
               refine ⟨fun hlt2 => ?_, fun hge2 => ?_⟩
               · obtain ⟨b', o', ha', hcl', _⟩ := sv4.el (hgt j (by omega))
                 have c1' := hcl' 1 (by omega)
                 rw [show (ZS (enS l x j))[1]? = some (.string (enS l x j).2) from rfl] at c1'
                 rw [ha', za, zh, za, c1', za, za, zh, za, c1, za, str_cmp, za, zf]
                 refine ⟨fun he => fin true (l2.ext0.trans x4) ⟨fun _ => hbad.2 (.inr ⟨i, by omega, hz, .inr (.inr ⟨j, by omega, he⟩)⟩), fun _ => rfl⟩, fun hne => ?_⟩
                 rw [zk, za, zL, zw (by omega)]
                 refine ⟨⟨rfl, j + 1, by omega, rfl, fun z hz => ?_⟩, by simp only [zC]; omega⟩
                 by_cases e : z = j
                 · rw [e]; exact hne
                 · exact hnz z (by omega)
               · rw [zk, za, zL, zw (by omega)]
                 refine ⟨⟨x4, i + 1, by omega, rfl, fun z hz2 => ?_⟩, by simp only [zC]; omega⟩
                 rcases (hst z).1 hz2 with e | e
                 · exact hno z e
                 · rw [e]
                   rintro ⟨_, e2 | e2 | ⟨q, e3, e4⟩⟩
                   · exact hb1 (.inl e2)
                   · exact hb1 (.inr e2)
                   · exact hnz q (by omega) e4
           · rw [zM, za, Z9]
             refine ⟨fun hu => ⟨rfl, ?_⟩, fun hu => ?_⟩
             · rw [decide_eq_false_iff_not] at hu
               exact yj (.inl hu)
             · rw [decide_eq_true_eq] at hu
               rw [zN, za, zf]
               refine ⟨fun h1 => ?_, fun h1 => ⟨rfl, YM fun e => ?_⟩⟩
               · rw [za, zh, za, c1, za, str_cmp, za, zf]
                 refine ⟨fun hd => ⟨rfl, yj (.inr ⟨by omega, .inl hd⟩)⟩, fun hd => ?_⟩
                 rw [za, zh, za, c1, za, str_cmp, za]
                 refine ⟨rfl, Yi ⟨fun e => .inr ⟨by omega, .inr e⟩, fun e => ?_⟩⟩
                 rcases e with e | ⟨_, e | e⟩
                 · exact absurd hu e
                 · exact absurd e hd
                 · exact e
               · rcases e with e | e
                 · exact e hu
                 · omega
       · refine fin false (l2.ext0.trans x4) ⟨fun e => (by cases e), fun e => ?_⟩
         rcases hbad.1 e with e | ⟨j, hj, e⟩
         · exact absurd e hb
         · exact absurd e (hno j (by omega))
     · obtain ⟨b, o, ha, hcl, hrow⟩ := sv2.el (hgt 0 (by omega))
       have hr := hrow 0 2 (by omega)
       rw [Nat.add_zero, YX (c := ZS (enS l x 0)) (n := 2) rfl] at hr
       rw [show (Value.int .i64 0) = (.int .i64 ((0 : Nat) : Int)) from rfl, ha, za, hr, za, zh, za, l2.ld (i := 0) rfl, f0, za, zE, za, Zu (by omega) (by omega), buildEnt2, za, yS, eqEnt, Option.map_some, za]
       rw [show (!decide (enS l x 0 = (x.i, dotS))) = decide (enS l x 0 ≠ (x.i, dotS)) from by rw [Bool.eq_iff_iff]; simp, zf]
       refine ⟨fun hb => ⟨rfl, yj (.inl hb)⟩, fun hb => ?_⟩
       obtain ⟨b', o', ha', hcl', hrow'⟩ := sv2.el (hgt 1 (by omega))
       have c1 := hcl' 1 (by omega)
       rw [show (Value.int .i64 1) = (.int .i64 ((1 : Nat) : Int)) from rfl, ha', za, zh, za, c1, show (ZS (enS l x 1))[1]? = some (.string (enS l x 1).2) from rfl, za, str_ncmp, za]
       refine ⟨rfl, Yi ⟨fun e => .inr e, fun e => ?_⟩⟩
       rcases e with e | e
       · exact absurd e hb
       · exact e
theorem slotsC29 (h : Lk H d dv B L I l) (hf : Fls H s fs) (hnd : NdOk fs) (k : ∀ H' s' ps, Ext H H' → New H H' (.sl 251 2 s' (ps.map (fC 13))) → (ps = [] ↔ ∀ x ∈ fs, ¬ (x.f 0 = 2 ∧ yp l fs x)) → R s' H') : Fc Tryz.prog 156 #[z7 d, s] H R := by
 have hfl := hf.len
 refine fn156 ?_
 simp only [sh156, Yf, zu, za]
 refine (Lo.start _ H : Lx H H []).flts fun p H1 e1 l1 => ?_
 have l1 : Lx H H1 [ye p 13 []] := l1
 simp only [zc, zh, Nat.zero_add, Nat.add_zero, Nat.reduceAdd, za]
 refine zz.mk (fun t H' => ∃ (i : Nat) (ps : List Int), i ≤ fs.length ∧ t = (zm i, ()) ∧ ps.length ≤ i ∧ (ps = [] ↔ ∀ y ∈ fs.take i, ¬ (y.f 0 = 2 ∧ yp l fs y)) ∧ Lx H H' [ye p 13 ps])
   (fun t _ => mi t.1 fun i => (fs.length - i).toNat) ⟨0, [], by omega, rfl, by simp, by simp, l1⟩ ?_
 rintro _ H2 ⟨i, ps, hi, rfl, hpl, hps, l2⟩
 rw [hf.row.lenE yA, za, List.length_map, zt, za, zf]
 refine ⟨fun hlt => ?_, fun hge => ?_⟩
 · have hil : i < fs.length := by omega
   have hei : (fs.map flC)[i]? = some (flC fs[i]) := by rw [List.getElem?_map, List.getElem?_eq_getElem hil]; rfl
   have htk : fs.take (i + 1) = fs.take i ++ [fs[i]] := List.take_succ_eq_append_getElem hil
   have hmem : fs[i] ∈ fs := List.getElem_mem hil
   generalize fs[i] = x at hei htk hmem
   have hst := ids_step (y := x) (ys := []) hps
   rw [← htk] at hst
   obtain ⟨b, o, ha, hcl, hrow⟩ := (hf.ext l2.ext0).row.el hei
   have hr := hrow 0 18 (by omega)
   rw [Nat.add_zero, YX (c := flC x) (n := 18) rfl] at hr
   rw [ha, za, zh, za, zh, za, Nat.add_zero, hcl 1 (by omega), show (flC x)[1]? = some (.int .u16 (x.f 0)) from rfl, za, zA, za, zf]
   refine ⟨fun hk => ?_, fun hk => ?_⟩
   · have hk : x.f 0 = 2 := by omega
     rw [za, hr, za]
     refine badSlots29 (h.ext l2.ext0) (hf.ext l2.ext0) hmem ((hnd x hmem).2 hk) fun H3 e3 => ?_
     have l3 := l2.ext e3
     rw [zf]
     refine ⟨fun hb => ?_, fun hb => ?_⟩
     · obtain ⟨b, o, ha', hcl, hrow⟩ := (hf.ext l3.ext0).row.el hei
       have h0 := hcl 0 (by omega)
       rw [Nat.add_zero] at h0
       rw [← ha .i64, ha' .i64, za, zh, za, Nat.add_zero, h0, show (flC x)[0]? = some (zm x.i) from rfl, za]
       obtain ⟨O, ho, st⟩ := l3.call (i := 0) rfl
       refine flt_add ho (by omega) fun H11 O11 ps' hne hle s11 h11 => ?_
       have l11 := st H11 _ O11 s11 h11
       rw [zk, za, zL, zw (by omega)]
       refine ⟨⟨i + 1, ps', by omega, rfl, by omega, ?_, l11⟩, by simp only [zC]; omega⟩
       rw [← hst]
       exact ⟨fun e => absurd e hne, fun e => absurd ⟨hk, hb⟩ e.2⟩
     · rw [zk, za, zL, zw (by omega)]
       refine ⟨⟨i + 1, ps, by omega, rfl, by omega, ?_, l3⟩, by simp only [zC]; omega⟩
       rw [← hst]
       exact ⟨fun e => ⟨e, fun e2 => hb e2.2⟩, fun e => e.1⟩
   · rw [zk, za, zL, zw (by omega)]
     refine ⟨⟨i + 1, ps, by omega, rfl, by omega, ?_, l2⟩, by simp only [zC]; omega⟩
     rw [← hst]
     exact ⟨fun e => ⟨e, fun e2 => hk (by omega)⟩, fun e => e.1⟩
 · have ei : i = fs.length := by omega
   subst ei
   rw [List.take_length] at hps
   obtain ⟨s', hg, l15⟩ := l2.fltEnd (i := 0) rfl
   rw [zo hg]
   show Pu (some s') _
   rw [za]
   exact k H2 s' ps l2.ext0 (l15.outN (i := 0) rfl) hps
theorem names29 (h : Lk H d dv B L I l) (hf : Fls H s fs) (hnd : NdOk fs) (k : ∀ H' s', Ext H H' → New H H' (.sl 262 2 s' ((yq l fs).map nmC)) → R s' H') : Fc Tryz.prog 157 #[z7 d, s] H R := by
 have hfl := hf.len
 refine fn157 ?_
 simp only [sh157, zu]
 have l1 := (Lo.start _ H : Lx H H []).nilS 262 2
 refine zz.mk (fun t H' => ∃ (i : Nat) (v : Value), i ≤ fs.length ∧ t = (v, zm i, ()) ∧ Lx H H' [.sl 262 2 v ((yq l (fs.take i)).map nmC)])
   (fun t _ => mi t.2.1 fun i => (fs.length - i).toNat) ⟨0, .slice none 0 0, by omega, rfl, l1⟩ ?_
 rintro _ H2 ⟨i, v, hi, rfl, l2⟩
 rw [hf.row.lenE yA, za, List.length_map, zt, za, zf]
 refine ⟨fun hlt => ?_, fun hge => ?_⟩
 · have hil : i < fs.length := by omega
   have hei : (fs.map flC)[i]? = some (flC fs[i]) := by rw [List.getElem?_map, List.getElem?_eq_getElem hil]; rfl
   have htk : fs.take (i + 1) = fs.take i ++ [fs[i]] := List.take_succ_eq_append_getElem hil
   have hmem : fs[i] ∈ fs := List.getElem_mem hil
   have hpl := namesP_len l (fs := fs.take i) fun y hy => hnd y (List.mem_of_mem_take hy)
   rw [List.length_take] at hpl
   generalize fs[i] = x at hei htk hmem
   have hok := hf.ok x hmem
   have hnx := hnd x hmem
   have hsz := hnx.1
   have hnext : yq l (fs.take (i + 1)) = yq l (fs.take i) ++ nmX l x := by rw [htk, namesP_app, namesP_one]
   obtain ⟨b, o, ha, hcl, hrow⟩ := (hf.ext l2.ext0).row.el hei
   have hr := hrow 0 18 (by omega)
   rw [Nat.add_zero, YX (c := flC x) (n := 18) rfl] at hr
   refine zT.mk (fun t H' => H' = H2 ∧ t.1 = .bool (decide (¬ isTree x))) ?_ ?_
   · rintro ⟨t, u⟩ H3 ⟨rfl, ht⟩
     simp only at ht
     subst ht
     rw [zf]
     refine ⟨fun hb => ?_, fun hb => ?_⟩
     · rw [zk, za, zL, zw (by omega)]
       refine ⟨⟨i + 1, v, by omega, rfl, ?_⟩, by simp only [zC]; omega⟩
       rw [hnext]
       unfold nmX
       rw [if_neg hb, List.append_nil]; exact l2
     · have hb := Classical.not_not.1 hb
       have hxx : nmX l x = nmD l x (x.f 2 / 16) := by unfold nmX; rw [if_pos hb]
       have h32 := hnx.2 hb.1 hb.2
       rw [ha, za, hr, za]
       refine slots29 (h.ext l2.ext0) ((hf.sub x hmem).ext l2.ext0) (hf.few x hmem) hok fun H4 sv e4 n4 => ?_
       have l4 := l2.new e4 n4
       have hlen : ((ZP l x (x.f 2 / 16)).map ZS).length = x.f 2 / 16 := by rw [List.length_map, slotsP_len]
       have hgt : ∀ i, i < x.f 2 / 16 → ((ZP l x (x.f 2 / 16)).map ZS)[i]? = some (ZS (enS l x i)) := fun i hi => by rw [List.getElem?_map, slotsP_get l x hi]; rfl
       have hlt16 : ∀ i, (enS l x i).1 < 65536 := fun i => slotE_lt (rawS_is h.is x i)
       rw [show ze (.tuple #[sv, .bool (decide (YW l x (x.f 2 / 16)))]) 0 = some sv from rfl, za, show ze (.tuple #[sv, .bool (decide (YW l x (x.f 2 / 16)))]) 1 = some (.bool (decide (YW l x (x.f 2 / 16)))) from rfl, za]
       refine zz.mk (fun t H' => ∃ (j : Nat) (v : Value), 2 ≤ j ∧ j ≤ x.f 2 / 16 ∧ t = (v, zm j, ()) ∧ Lx H H' [.sl 262 2 v ((yq l (fs.take i) ++ nmD l x j).map nmC), .sl 241 2 sv ((ZP l x (x.f 2 / 16)).map ZS)])
         (fun t _ => mi t.2.1 fun j => (((x.f 2 / 16 : Nat) : Int) - j).toNat) ⟨2, v, by omega, by omega, rfl, by rw [nmD_two l x 2 (by omega), List.append_nil]; exact l4⟩ ?_
       rintro _ H5 ⟨j, v5, hj1, hj2, rfl, l5⟩
       have sv5 := (l5.sv (i := 1) rfl).sr
       rw [sv5.lenE undEnts, za, hlen, zt, za, zf]
       refine ⟨fun hlt2 => ?_, fun hge2 => ?_⟩
       · obtain ⟨b2, o2, ha2, hcl2, _⟩ := sv5.el (hgt j (by omega))
         have c0 := hcl2 0 (by omega)
         rw [Nat.add_zero, show (ZS (enS l x j))[0]? = some (.int .u16 (enS l x j).1) from rfl] at c0
         have hl16 := hlt16 j
         have hsu := nmD_succ l x j
         have hle := nmD_len l x j
         rw [ha2, za, zh, za, Nat.add_zero, c0, za, zx, za, zf]
         refine ⟨fun hne => ?_, fun he => ?_⟩
         · rw [if_pos ⟨hj1, by omega⟩] at hsu
           obtain ⟨b3, o3, ha3, hcl3, _⟩ := (hf.ext l5.ext0).row.el hei
           have q0 := hcl3 0 (by omega)
           rw [Nat.add_zero] at q0
           rw [← ha .i64, ha3 .i64, za, zh, za, Nat.add_zero, q0, show (flC x)[0]? = some (zm x.i) from rfl, za, za, zh, za, Nat.add_zero, c0, za, zE, za, zw (by omega), buildNm, za]
           refine l5.appO elNm eNm_f (i := 0) rfl (by rfl) (by omega) (by omega) rfl (nmC_ok _) (by rw [List.length_map, List.length_append]; omega) fun s' H6 l6 => ?_
           rw [zk, za, zL, zw (by omega)]
           refine ⟨⟨j + 1, s', by omega, by omega, rfl, ?_⟩, by simp only [zC]; omega⟩
           rw [hsu, ← List.append_assoc, List.map_append]
           exact l6
         · rw [if_neg (fun e => by omega), List.append_nil] at hsu
           rw [zk, za, zL, zw (by omega)]
           refine ⟨⟨j + 1, v5, by omega, by omega, rfl, ?_⟩, by simp only [zC]; omega⟩
           rw [hsu]; exact l5
       · have ej : j = x.f 2 / 16 := by omega
         subst ej
         rw [zk, za, zL, zw (by omega)]
         refine ⟨⟨i + 1, v5, by omega, rfl, ?_⟩, by simp only [zC]; omega⟩
         rw [hnext, hxx]
         exact l5.takeN 1
   · rw [ha, za, zh, za, zh, za, Nat.add_zero, hcl 1 (by omega), show (flC x)[1]? = some (.int .u16 (x.f 0)) from rfl, za, zx, za, zf]
     refine ⟨fun hk => ⟨rfl, yj fun e => hk (by have := e.1; omega)⟩, fun hk => ?_⟩
     rw [za, zh, za, zh, za, hcl 2 (by omega), show (flC x)[2]? = some (.int .u16 (x.f 1)) from rfl, za, zA, za]
     refine ⟨rfl, Yi ⟨fun e e2 => e2.2 (by omega), fun e => ?_⟩⟩
     by_cases e2 : x.f 1 = 0
     · omega
     · exact absurd ⟨by omega, e2⟩ e
 · have ei : i = fs.length := by omega
   subst ei
   rw [List.take_length] at l2
   exact k H2 v l2.ext0 (l2.outN (i := 0) rfl)
end
end Go.Vc
namespace Go.Vc
open Go.Proofs Classical
theorem exists_least {Q : Nat → Prop} (h : ∃ m, Q m) : ∃ m, Q m ∧ ∀ k, Q k → m ≤ k := by
 obtain ⟨m, hm⟩ := h
 induction m using Nat.strongRecOn with
 | _ m ih =>
   by_cases h2 : ∃ k, k < m ∧ Q k
   · obtain ⟨k, hk, hq⟩ := h2
     exact ih k hk hq
   · exact ⟨m, hm, fun k hk => Nat.le_of_not_lt fun hlt => h2 ⟨k, hlt, hk⟩⟩
noncomputable def leastM (Q : Nat → Prop) : Nat := if h : ∃ m, Q m then Classical.choose (exists_least h) else 0
theorem leastM_is {Q : Nat → Prop} {m : Nat} (h : Q m) : Q (leastM Q) ∧ leastM Q ≤ m := by
 have h0 : ∃ m, Q m := ⟨m, h⟩
 unfold leastM
 rw [dif_pos h0]
 obtain ⟨h1, h2⟩ := Classical.choose_spec (exists_least h0)
 exact ⟨h1, h2 m h⟩
def parP (ns : List Nm) (a : Nat) : Nat × Nat := ns.foldl (fun p x => if x.2 = a then (x.1, p.2 + 1) else p) (0, 0)
theorem parP_snoc (ns : List Nm) (x : Nm) (a : Nat) : parP (ns ++ [x]) a = if x.2 = a then (x.1, (parP ns a).2 + 1) else parP ns a := by
 unfold parP; rw [List.foldl_append]; rfl
theorem parP_take (ns : List Nm) (a : Nat) : ∀ n, n ≤ ns.length → (parP (ns.take n) a).2 ≤ n
 | 0, _ => by simp [parP]
 | n + 1, h => by
   have ih := parP_take ns a n (by omega)
   rw [List.take_succ_eq_append_getElem (by omega), parP_snoc]
   split
   · show (parP (ns.take n) a).2 + 1 ≤ n + 1; omega
   · omega
noncomputable def kindP (fs : List Fl) (a : Nat) : Nat := ((fs.find? fun x => decide (x.i = a)).map (·.f 0)).getD 0
inductive Rch (ns : List Nm) : Nat → Prop where
 | root : Rch ns 1
 | step {y : Nm} : y ∈ ns → Rch ns y.1 → Rch ns y.2
def bC (b : Bool) : Array Value := #[.bool b]
def bN (c : Nat → Bool) (n : Nat) : List (Array Value) := (List.range n).map fun b => bC (c b)
theorem bN_len (c : Nat → Bool) (n : Nat) : (bN c n).length = n := by simp [bN]
theorem bN_get {c : Nat → Bool} {n b : Nat} (h : b < n) : (bN c n)[b]? = some (bC (c b)) := by
 unfold bN; rw [List.getElem?_map, List.getElem?_range h]; rfl
theorem bN_set (c : Nat → Bool) (n y : Nat) : (bN c n).set y (bC true) = bN (fun b => if b = y then true else c b) n := by
 apply List.ext_getElem?
 intro b
 by_cases hb : b < n
 · rw [bN_get hb]
   by_cases e : y = b
   · subst e
     rw [List.getElem?_set_self (by rw [bN_len]; exact hb), if_pos rfl]
   · rw [List.getElem?_set_ne e, bN_get hb, if_neg (Ne.symm e)]
 · rw [List.getElem?_eq_none (by rw [List.length_set, bN_len]; omega), List.getElem?_eq_none (by rw [bN_len]; omega)]
theorem bN_false (n : Nat) : bN (fun _ => false) n = List.replicate n #[.bool false] := by
 unfold bN; apply List.ext_getElem? ; intro b; by_cases hb : b < n
 · rw [List.getElem?_map, List.getElem?_range hb, List.getElem?_replicate, if_pos hb]; rfl
 · rw [List.getElem?_eq_none (by simp; omega), List.getElem?_eq_none (by simp; omega)]
def leftC (c : Nat → Bool) : Nat → Nat
 | 0 => 0
 | n + 1 => leftC c n + if c n then 0 else 1
theorem leftC_set (c : Nat → Bool) {y : Nat} (hy : c y = false) : ∀ n, y < n → leftC (fun b => if b = y then true else c b) n + 1 = leftC c n
 | 0, h => by omega
 | n + 1, h => by
   have e1 : leftC (fun b => if b = y then true else c b) (n + 1) = leftC (fun b => if b = y then true else c b) n + if (if n = y then true else c n) then 0 else 1 := rfl
   have e2 : leftC c (n + 1) = leftC c n + if c n then 0 else 1 := rfl
   rw [e1, e2]
   by_cases hn : n = y
   · subst hn
     rw [if_pos rfl, if_pos rfl, hy]
     have key : ∀ m, m ≤ n → leftC (fun b => if b = n then true else c b) m = leftC c m := by
       intro m
       induction m with
       | zero => intro _; rfl
       | succ m ih =>
         intro hm
         show leftC (fun b => if b = n then true else c b) m + (if (if m = n then true else c m) then 0 else 1) = leftC c m + if c m then 0 else 1
         rw [ih (by omega), show (if m = n then true else c m) = c m from if_neg (by omega)]
     rw [key n (Nat.le_refl _)]
     simp
   · rw [if_neg hn]
     have := leftC_set c hy n (by omega)
     omega
section
variable {H : Hp} {R : Value → Hp → Prop} {d : Nat} {dv : Value} {B L I : Int} {l : List (Int × Blk)} {s nv : Value} {fs : List Fl} {ns : List Nm}
theorem parent29 (hn : Sr 2 H nv (ns.map nmC)) (hlen : ns.length < 1099511627776) {a : Nat} (k : R (.tuple #[zm (parP ns a).1, zm (parP ns a).2]) H) : Fc Tryz.prog 186 #[nv, zm a] H R := by
 refine fn186 ?_
 simp only [sh186, zu]
 refine zz.mk (fun t H' => H' = H ∧ ∃ i : Nat, i ≤ ns.length ∧ t = (zm (parP (ns.take i) a).1, zm (parP (ns.take i) a).2, zm i, ())) (fun t _ => mi t.2.2.1 fun i => (ns.length - i).toNat) ⟨rfl, 0, by omega, rfl⟩ ?_
 rintro _ H3 ⟨rfl, i, hi, rfl⟩
 rw [hn.lenE undNms, za, List.length_map, zt, za, zf]
 refine ⟨fun hlt => ?_, fun hge => ?_⟩
 · have hil : i < ns.length := by omega
   have hei : (ns.map nmC)[i]? = some (nmC ns[i]) := by rw [List.getElem?_map, List.getElem?_eq_getElem hil]; rfl
   have htk : ns.take (i + 1) = ns.take i ++ [ns[i]] := List.take_succ_eq_append_getElem hil
   have hle := parP_take ns a i (by omega)
   generalize ns[i] = x at hei htk
   have hsn := parP_snoc (ns.take i) x a
   rw [← htk] at hsn
   obtain ⟨b, o, ha, hcl, _⟩ := hn.el hei
   have c0 := hcl 0 (by omega)
   rw [Nat.add_zero] at c0
   rw [ha, za, zh, za, hcl 1 (by omega), show (nmC x)[1]? = some (zm x.2) from rfl, za, zA, za, zf]
   refine ⟨fun he => ?_, fun hne => ?_⟩
   · rw [if_pos (by omega)] at hsn
     rw [za, zh, za, Nat.add_zero, c0, show (nmC x)[0]? = some (zm x.1) from rfl, za, zk, za, zL, zw (by omega), zk, za, zL, zw (by omega)]
     refine ⟨⟨rfl, i + 1, by omega, ?_⟩, by simp only [zC]; omega⟩
     rw [hsn]; rfl
   · rw [if_neg (by omega)] at hsn
     rw [zk, za, zL, zw (by omega)]
     refine ⟨⟨rfl, i + 1, by omega, ?_⟩, by simp only [zC]; omega⟩
     rw [hsn]; rfl
 · have ei : i = ns.length := by omega
   subst ei
   rw [List.take_length]; exact k
theorem kind29 (hf : Fls H s fs) {a : Nat} (k : R (.int .u16 (kindP fs a)) H) : Fc Tryz.prog 187 #[s, zm a] H R := by
 have hfl := hf.len
 refine fn187 ?_
 simp only [sh187, zu]
 refine zz.mk (fun t H' => H' = H ∧ ∃ i : Nat, i ≤ fs.length ∧ t = (zm i, ()) ∧ ∀ x ∈ fs.take i, x.i ≠ a) (fun t _ => mi t.1 fun i => (fs.length - i).toNat) ⟨rfl, 0, by omega, rfl, by simp⟩ ?_
 rintro _ H3 ⟨rfl, i, hi, rfl, hno⟩
 rw [hf.row.lenE yA, za, List.length_map, zt, za, zf]
 refine ⟨fun hlt => ?_, fun hge => ?_⟩
 · have hil : i < fs.length := by omega
   have hei : (fs.map flC)[i]? = some (flC fs[i]) := by rw [List.getElem?_map, List.getElem?_eq_getElem hil]; rfl
   have htk : fs.take (i + 1) = fs.take i ++ [fs[i]] := List.take_succ_eq_append_getElem hil
   have hdr : fs.drop i = fs[i] :: fs.drop (i + 1) := List.drop_eq_getElem_cons hil
   generalize fs[i] = x at hei htk hdr
   obtain ⟨b, o, ha, hcl, _⟩ := hf.row.el hei
   have h0 := hcl 0 (by omega)
   rw [Nat.add_zero] at h0
   rw [ha, za, zh, za, Nat.add_zero, h0, show (flC x)[0]? = some (zm x.i) from rfl, za, zA, za, zf]
   refine ⟨fun he => ?_, fun hne => ?_⟩
   · rw [za, zh, za, zh, za, Nat.add_zero, hcl 1 (by omega), show (flC x)[1]? = some (.int .u16 (x.f 0)) from rfl, za]
     have e : kindP fs a = x.f 0 := by
       unfold kindP
       rw [show fs = fs.take i ++ fs.drop i from (List.take_append_drop i fs).symm, List.find?_append, List.find?_eq_none.2 (fun y hy => by simpa using hno y hy), hdr, List.find?_cons_of_pos (by simpa using (by omega : x.i = a))]
       rfl
     rw [← e]; exact k
   · rw [zk, za, zL, zw (by omega)]
     refine ⟨⟨rfl, i + 1, by omega, rfl, fun y hy => ?_⟩, by simp only [zC]; omega⟩
     rw [htk] at hy
     rcases List.mem_append.1 hy with h1 | h1
     · exact hno y h1
     · rw [List.mem_singleton.1 h1]; omega
 · have ei : i = fs.length := by omega
   subst ei
   rw [List.take_length] at hno
   have e : kindP fs a = 0 := by
     unfold kindP
     rw [List.find?_eq_none.2 (fun y hy => by simpa using hno y hy)]; rfl
   rw [e] at k; exact k
set_option maxHeartbeats 1000000 in
theorem reached29 (h : Lk H d dv B L I l) (hn : Sr 2 H nv (ns.map nmC)) (hlen : ns.length < 1099511627776) (hin : ∀ y ∈ ns, (y.1 : Int) ≤ I ∧ (y.2 : Int) ≤ I) (k : ∀ H' s', Ext H H' → New H H' (.sl 4 1 s' (bN (fun i => decide (Rch ns i)) (I.toNat + 1))) → R s' H') : Fc Tryz.prog 185 #[z7 d, nv] H R := by
 obtain ⟨gL1, gL2, gI1, gI2, gB1, gB2, gD⟩ := id h.ok
 have hI : (zq B L I).I = I := rfl
 obtain ⟨In, eI⟩ : ∃ In : Nat, I = In := ⟨I.toNat, by omega⟩
 have eIt : I.toNat = In := by omega
 rw [eIt] at k
 refine fn185 ?_
 simp only [sh185, zu, zc, zh, Nat.zero_add, Nat.add_zero, Nat.reduceAdd, za]
 rw [zo h.top, lkC4, za, hI, eI, zk, za, zL, zw (by omega)]
 refine (Lo.start _ H : Lx H H []).make elBo eBo_f (by omega) (by omega) (by omega) fun b0 H1 _ l1 => ?_
 rw [eBo_z, ← bN_false] at l1
 generalize hsv : Value.slice (some ⟨b0, 0, none⟩) (In + 1) (In + 1) = sv at l1
 have l1 : Lx H H1 [.sl 4 1 sv (bN (fun _ => false) (In + 1))] := l1
 refine l1.put1 (i := 0) (j := 1) (u := .bool true) rfl (bN_get (by omega)) (by unfold zG; rw [← Array.all_toList]; rfl) rfl rfl fun H2 l2 => ?_
 have l2 : Lx H H2 [.sl 4 1 sv (bN (fun b => if b = 1 then true else false) (In + 1))] := by rw [← bN_set]; exact l2
 let Q : Tup 1 → Hp → Nat → Prop := fun t H' m => ∃ (mo : Bool) (c : Nat → Bool), t = (.bool mo, ()) ∧ m = 2 * leftC c (In + 1) + (if mo then 1 else 0) ∧ c 1 = true ∧ (∀ i, c i = true → Rch ns i) ∧ (mo = false → ∀ y ∈ ns, c y.1 = true → c y.2 = true) ∧ Lx H H' [.sl 4 1 sv (bN c (In + 1))]
 refine zz.mk (fun t H' => ∃ m, Q t H' m) (fun t H' => leastM (Q t H')) ⟨_, true, (fun b => if b = 1 then true else false), rfl, rfl, rfl, fun i hi => ?_, fun e => (by cases e), l2⟩ ?_
 · have : i = 1 := by
     by_cases e : i = 1
     · exact e
     · simp [e] at hi
   rw [this]; exact .root
 rintro t H3 ⟨m, hm⟩
 obtain ⟨hq, -⟩ := leastM_is hm
 generalize leastM (Q t H3) = m0 at hq
 obtain ⟨mo, c, rfl, em, h1, hc, hmo, l3⟩ := hq
 rw [ZB]
 refine ⟨fun e => ?_, fun e => ?_⟩
 · subst e
   rw [if_pos rfl] at em
   refine zz.mk (fun t H' => ∃ (j : Nat) (mo : Bool) (c' : Nat → Bool), j ≤ ns.length ∧ t = (.bool mo, zm j, ()) ∧ c' 1 = true ∧ (∀ i, c' i = true → Rch ns i) ∧ leftC c' (In + 1) + (if mo then 1 else 0) ≤ leftC c (In + 1) ∧ (mo = false → ∀ y ∈ ns.take j, c' y.1 = true → c' y.2 = true) ∧ Lx H H' [.sl 4 1 sv (bN c' (In + 1))])
     (fun t _ => mi t.2.1 fun j => (ns.length - j).toNat) ⟨0, false, c, by omega, rfl, h1, hc, by simp, by simp, l3⟩ ?_
   rintro _ H4 ⟨j, mo, c', hj, rfl, h1', hc', hle, hst, l4⟩
   have hn4 := hn.ext l4.ext0
   rw [hn4.lenE undNms, za, List.length_map, zt, za, zf]
   refine ⟨fun hlt => ?_, fun hge => ?_⟩
   · have hil : j < ns.length := by omega
     have hei : (ns.map nmC)[j]? = some (nmC ns[j]) := by rw [List.getElem?_map, List.getElem?_eq_getElem hil]; rfl
     have htk : ns.take (j + 1) = ns.take j ++ [ns[j]] := List.take_succ_eq_append_getElem hil
     have hmem : ns[j] ∈ ns := List.getElem_mem hil
     generalize ns[j] = y at hei htk hmem
     have hy := hin y hmem
     obtain ⟨b, o, ha, hcl, _⟩ := hn4.el hei
     have c0 := hcl 0 (by omega)
     rw [Nat.add_zero, show (nmC y)[0]? = some (zm y.1) from rfl] at c0
     have c1 := hcl 1 (by omega)
     rw [show (nmC y)[1]? = some (zm y.2) from rfl] at c1
     have hg1 := bN_get (c := c') (n := In + 1) (b := y.1) (by omega)
     have hg2 := bN_get (c := c') (n := In + 1) (b := y.2) (by omega)
     refine zT.mk (fun t H' => H' = H4 ∧ t.1 = .bool (c' y.1 && !c' y.2)) ?_ ?_
     · rintro ⟨t, u⟩ H5 ⟨rfl, ht⟩
       simp only at ht
       subst ht
       rw [ZB]
       refine ⟨fun hb => ?_, fun hb => ?_⟩
       · rw [Bool.and_eq_true, Bool.not_eq_true'] at hb
         rw [ha, za, zh, za, c1, za]
         refine l4.put1 (i := 0) (u := .bool true) rfl hg2 (by unfold zG; rw [← Array.all_toList]; rfl) rfl rfl fun H6 l6 => ?_
         have l6 : Lx H H6 [.sl 4 1 sv (bN (fun b => if b = y.2 then true else c' b) (In + 1))] := by rw [← bN_set]; exact l6
         have hlf := leftC_set c' hb.2 (In + 1) (by omega)
         rw [zk, za, zL, zw (by omega)]
         refine ⟨⟨j + 1, true, _, by omega, rfl, ?_, fun i hi => ?_, ?_, fun e => (by cases e), l6⟩, by simp only [zC]; omega⟩
         · by_cases e : 1 = y.2
           · rw [if_pos e]
           · rw [if_neg e]; exact h1'
         · by_cases e : i = y.2
           · rw [e]; exact .step hmem (hc' _ hb.1)
           · rw [if_neg e] at hi; exact hc' i hi
         · simp only [if_true]
           split at hle <;> omega
       · rw [zk, za, zL, zw (by omega)]
         refine ⟨⟨j + 1, mo, c', by omega, rfl, h1', hc', hle, fun e z hz hz1 => ?_, l4⟩, by simp only [zC]; omega⟩
         rw [htk] at hz
         rcases List.mem_append.1 hz with h3 | h3
         · exact hst e z h3 hz1
         · rw [List.mem_singleton.1 h3] at hz1 ⊢
           rw [hz1] at hb
           simpa using hb
     · have svr := (l4.sv (i := 0) rfl).sr
       obtain ⟨b1, o1, ha1, hcl1, _⟩ := svr.el hg1
       have d0 := hcl1 0 (by omega)
       rw [Nat.add_zero, show (bC (c' y.1))[0]? = some (.bool (c' y.1)) from rfl] at d0
       rw [ha, za, zh, za, Nat.add_zero, c0, za, ha1, za, d0, za, ZB]
       refine ⟨fun hb => ?_, fun hb => ⟨rfl, by rw [hb]; rfl⟩⟩
       obtain ⟨b2, o2, ha2, hcl2, _⟩ := svr.el hg2
       have d1 := hcl2 0 (by omega)
       rw [Nat.add_zero, show (bC (c' y.2))[0]? = some (.bool (c' y.2)) from rfl] at d1
       rw [za, zh, za, c1, za, ha2, za, d1, za, zM, za]
       exact ⟨rfl, by rw [hb]; rfl⟩
   · have ej : j = ns.length := by omega
     subst ej
     rw [List.take_length] at hst
     have hq : Q (.bool mo, ()) H4 (2 * leftC c' (In + 1) + (if mo then 1 else 0)) := ⟨mo, c', rfl, rfl, h1', hc', hst, l4⟩
     refine ⟨⟨_, hq⟩, Nat.lt_of_le_of_lt (leastM_is hq).2 ?_⟩
     rw [em]
     split at hle <;> simp_all <;> omega
 · have e2 : bN c (In + 1) = bN (fun i => decide (Rch ns i)) (In + 1) := by
     have : c = fun i => decide (Rch ns i) := by
       funext i
       rw [Bool.eq_iff_iff, decide_eq_true_eq]
       refine ⟨hc i, fun hr => ?_⟩
       induction hr with
       | root => exact h1
       | step hy _ ih => exact hmo e _ hy ih
     rw [this]
   rw [e2] at l3
   exact k H3 sv l3.ext0 (l3.outN (i := 0) rfl)
end
end Go.Vc
namespace Go.Vc
open Go.Proofs Classical
def yz (l : List (Int × Blk)) (ns : List Nm) (x : Fl) : Prop :=
 isTree x ∧ if x.i = 1 then (parP ns 1).2 ≠ 0 ∨ (enS l x 1).1 ≠ 1 else (parP ns x.i).2 ≠ 1 ∨ (enS l x 1).1 ≠ (parP ns x.i).1 ∨ ¬ Rch ns x.i
noncomputable def subsP (fs : List Fl) (a : Nat) (ns : List Nm) : Nat := ns.countP fun y => decide (y.1 = a ∧ kindP fs y.2 = 2)
theorem subsP_snoc (fs : List Fl) (a : Nat) (ns : List Nm) (y : Nm) : subsP fs a (ns ++ [y]) = subsP fs a ns + if y.1 = a ∧ kindP fs y.2 = 2 then 1 else 0 := by
 unfold subsP
 rw [List.countP_append, List.countP_singleton]
 simp only [decide_eq_true_eq]
theorem subsP_le (fs : List Fl) (a : Nat) (ns : List Nm) : subsP fs a ns ≤ ns.length := List.countP_le_length
noncomputable def linksP (fs : List Fl) (ns : List Nm) (x : Fl) : Nat := if isTree x then 2 + subsP fs x.i ns else (parP ns x.i).2
theorem zeroFile : zD Tryz.prog 192 = some (.agg (flC ⟨0, fun _ => 0, .slice none 0 0, []⟩)) := by kernel_rfl
section
variable {H : Hp} {R : Value → Hp → Prop} {d : Nat} {dv : Value} {B L I : Int} {l : List (Int × Blk)} {s nv : Value} {fs : List Fl} {ns : List Nm}
theorem Fls.okC (hf : Fls H s fs) {x : Fl} (hx : x ∈ fs) : zG (flC x) := by
 obtain ⟨b, c, e⟩ := (hf.sub x hx).len
 exact flC_ok e
set_option maxHeartbeats 1000000 in
theorem tree29 (h : Lk H d dv B L I l) (hf : Fls H s fs) (hnd : NdOk fs) (hI : ∀ x ∈ fs, (x.i : Int) ≤ I) (hn : Sr 2 H nv (ns.map nmC)) (hlen : ns.length < 1099511627776) (hin : ∀ y ∈ ns, (y.1 : Int) ≤ I ∧ (y.2 : Int) ≤ I) (k : ∀ H' s' ps, Ext H H' → New H H' (.sl 251 2 s' (ps.map (fC 14))) → (ps = [] ↔ ∀ x ∈ fs, ¬ yz l ns x) → R s' H') : Fc Tryz.prog 158 #[z7 d, s, nv] H R := by
 have hfl := hf.len
 obtain ⟨gL1, gL2, gI1, gI2, gB1, gB2, gD⟩ := id h.ok
 refine fn158 ?_
 simp only [sh158, Yf, zeroFile, zu, za]
 refine (Lo.start _ H : Lx H H []).flts fun p H1 e1 l1 => ?_
 refine reached29 (h.ext l1.ext0) (hn.ext l1.ext0) hlen hin fun H2 rv e2 n2 => ?_
 have l2 : Lx H H2 [ye p 14 [], .sl 4 1 rv (bN (fun i => decide (Rch ns i)) (I.toNat + 1))] := l1.new e2 n2
 refine zz.mk (fun t H' => ∃ (i : Nat) (ps : List Int), i ≤ fs.length ∧ t = (zm i, ()) ∧ ps.length ≤ i ∧ (ps = [] ↔ ∀ y ∈ fs.take i, ¬ yz l ns y) ∧ Lx H H' [ye p 14 ps, .sl 4 1 rv (bN (fun i => decide (Rch ns i)) (I.toNat + 1))])
   (fun t _ => mi t.1 fun i => (fs.length - i).toNat) ⟨0, [], by omega, rfl, by simp, by simp, l2⟩ ?_
 rintro _ H3 ⟨i, ps, hi, rfl, hpl, hps, l3⟩
 rw [hf.row.lenE yA, za, List.length_map, zt, za, zf]
 refine ⟨fun hlt => ?_, fun hge => ?_⟩
 · have hil : i < fs.length := by omega
   have hei : (fs.map flC)[i]? = some (flC fs[i]) := by rw [List.getElem?_map, List.getElem?_eq_getElem hil]; rfl
   have htk : fs.take (i + 1) = fs.take i ++ [fs[i]] := List.take_succ_eq_append_getElem hil
   have hmem : fs[i] ∈ fs := List.getElem_mem hil
   generalize fs[i] = x at hei htk hmem
   have hst := ids_step (y := x) (ys := []) hps
   rw [← htk] at hst
   have hxI := hI x hmem
   have hnx := hnd x hmem
   obtain ⟨b, o, ha, hcl, hrow⟩ := (hf.ext l3.ext0).row.el hei
   have hr := hrow 0 18 (by omega)
   rw [Nat.add_zero, YX (c := flC x) (n := 18) rfl] at hr
   have f0 : (flC x)[0]? = some (zm x.i) := rfl
   have f1 : (flC x)[1]? = some (.int .u16 (x.f 0)) := rfl
   have f2 : (flC x)[2]? = some (.int .u16 (x.f 1)) := rfl
   rw [ha, za, hr, za]
   refine l3.boxA fun b1 H4 _ l4 => ?_
   refine l4.stAll (i := 2) (vs := flC x) rfl rfl rfl (hf.okC hmem) fun H5 l5 => ?_
   have l5 : Lx H H5 [ye p 14 ps, .sl 4 1 rv (bN (fun i => decide (Rch ns i)) (I.toNat + 1)), .box b1 (flC x) 192] := l5
   simp only [zc, zh, Nat.zero_add, Nat.add_zero, Nat.reduceAdd, za]
   have keep : ∀ {H' : Hp} {l' : List Ob}, ¬ yz l ns x → Lx H H' ([ye p 14 ps, .sl 4 1 rv (bN (fun i => decide (Rch ns i)) (I.toNat + 1))] ++ l') → Pu (zn (some (.int .i64)) .add (zm i) (.int .i64 1)) fun x14 => (fun (t : Tup 1) H' => (∃ (i : Nat) (ps : List Int), i ≤ fs.length ∧ t = (zm i, ()) ∧ ps.length ≤ i ∧ (ps = [] ↔ ∀ y ∈ fs.take i, ¬ yz l ns y) ∧ Lx H H' [ye p 14 ps, .sl 4 1 rv (bN (fun i => decide (Rch ns i)) (I.toNat + 1))]) ∧ mi t.1 (fun i => (fs.length - i).toNat) < mi (zm i) (fun i => (fs.length - i).toNat)) (x14, ()) H' := by
     intro H' l' hb l6
     rw [zk, za, zL i, zw (v := i + 1) (by omega)]
     refine ⟨⟨i + 1, ps, by omega, rfl, by omega, ?_, l6.take⟩, by simp only [zC]; omega⟩
     rw [← hst]
     exact ⟨fun e => ⟨e, hb⟩, fun e => e.1⟩
   have more : ∀ {H' : Hp} {l' : List Ob} {n : Int}, yz l ns x → Lx H H' ([ye p 14 ps, .sl 4 1 rv (bN (fun i => decide (Rch ns i)) (I.toNat + 1))] ++ l') → Fc Tryz.prog 180 #[z7 p, zm n] H' fun _ H'' => Pu (zn (some (.int .i64)) .add (zm i) (.int .i64 1)) fun x14 => (fun (t : Tup 1) H' => (∃ (i : Nat) (ps : List Int), i ≤ fs.length ∧ t = (zm i, ()) ∧ ps.length ≤ i ∧ (ps = [] ↔ ∀ y ∈ fs.take i, ¬ yz l ns y) ∧ Lx H H' [ye p 14 ps, .sl 4 1 rv (bN (fun i => decide (Rch ns i)) (I.toNat + 1))]) ∧ mi t.1 (fun i => (fs.length - i).toNat) < mi (zm i) (fun i => (fs.length - i).toNat)) (x14, ()) H'' := by
     intro H' l' n hb l6
     obtain ⟨O, ho, st⟩ := (l6.take).call (i := 0) rfl
     refine flt_add ho (by omega) fun H11 O11 ps' hne hle s11 h11 => ?_
     have l11 := st H11 _ O11 s11 h11
     rw [zk, za, zL i, zw (v := i + 1) (by omega)]
     refine ⟨⟨i + 1, ps', by omega, rfl, by omega, ?_, l11⟩, by simp only [zC]; omega⟩
     rw [← hst]
     exact ⟨fun e => absurd e hne, fun e => absurd hb e.2⟩
   refine zT.mk (fun t H' => H' = H5 ∧ t.1 = .bool (decide (¬ isTree x))) ?_ ?_
   · rintro ⟨t, u⟩ H6 ⟨rfl, ht⟩
     simp only at ht
     subst ht
     rw [zf]
     refine ⟨fun hb => keep (l' := [_]) (fun e => hb e.1) l5, fun hb => ?_⟩
     have hb := Classical.not_not.1 hb
     have h32 := hnx.2 hb.1 hb.2
     rw [l5.ldAll (i := 2) (n := 18) rfl rfl, za]
     refine slots29 (h.ext l5.ext0) ((hf.sub x hmem).ext l5.ext0) (hf.few x hmem) (hf.ok x hmem) fun H7 sv e7 n7 => ?_
     have l7 := l5.new e7 n7
     have l7 : Lx H H7 [ye p 14 ps, .sl 4 1 rv (bN (fun i => decide (Rch ns i)) (I.toNat + 1)), .box b1 (flC x) 192, .sl 241 2 sv ((ZP l x (x.f 2 / 16)).map ZS)] := l7
     have hgt : ((ZP l x (x.f 2 / 16)).map ZS)[1]? = some (ZS (enS l x 1)) := by rw [List.getElem?_map, slotsP_get l x (by omega)]; rfl
     have hl16 : (enS l x 1).1 < 65536 := slotE_lt (rawS_is h.is x 1)
     obtain ⟨b2, o2, ha2, hcl2, _⟩ := (l7.sv (i := 3) rfl).sr.el hgt
     have c0 := hcl2 0 (by omega)
     rw [Nat.add_zero, show (ZS (enS l x 1))[0]? = some (.int .u16 (enS l x 1).1) from rfl] at c0
     rw [show ze (.tuple #[sv, .bool (decide (YW l x (x.f 2 / 16)))]) 0 = some sv from rfl, za, show ze (.tuple #[sv, .bool (decide (YW l x (x.f 2 / 16)))]) 1 = some (.bool (decide (YW l x (x.f 2 / 16)))) from rfl, za]
     rw [l7.ld (i := 2) rfl, f0, za]
     refine parent29 (hn.ext l7.ext0) hlen ?_
     have hpt := parP_take ns x.i ns.length (Nat.le_refl _)
     rw [List.take_length] at hpt
     rw [show ze (.tuple #[zm (parP ns x.i).1, zm (parP ns x.i).2]) 0 = some (zm (parP ns x.i).1) from rfl, za, show ze (.tuple #[zm (parP ns x.i).1, zm (parP ns x.i).2]) 1 = some (zm (parP ns x.i).2) from rfl, za, l7.ld (i := 2) rfl, f0, za, zA, za, zf]
     refine ⟨fun hx1 => ?_, fun hx1 => ?_⟩
     · have hx1 : x.i = 1 := by omega
       have hbt : yz l ns x ↔ (parP ns x.i).2 ≠ 0 ∨ (enS l x 1).1 ≠ 1 := by
         unfold yz; rw [if_pos hx1, hx1]; exact ⟨fun e => e.2, fun e => ⟨hb, e⟩⟩
       refine zT.mk (fun t H' => H' = H7 ∧ t.1 = .bool (decide (yz l ns x))) ?_ ?_
       · rintro ⟨t, u⟩ H8 ⟨rfl, ht⟩
         simp only at ht
         subst ht
         rw [zf]
         exact ⟨fun hbd => more (l' := [_, _]) (n := 1) hbd l7, fun hbd => keep (l' := [_, _]) hbd l7⟩
       · rw [zx, za, zf]
         refine ⟨fun h0 => ⟨rfl, yj (hbt.2 (.inl (by omega)))⟩, fun h0 => ?_⟩
         have ha1 : zi (some (none, 2)) sv (.int .i64 1) = some (.pointer (some ⟨b2, o2, none⟩)) := ha2 .i64
         rw [ha1, za, zh, za, Nat.add_zero, c0, za, zx, za]
         refine ⟨rfl, Yi ⟨fun e => hbt.2 (.inr (by omega)), fun e => ?_⟩⟩
         rcases hbt.1 e with e | e <;> omega
     · have hx1 : x.i ≠ 1 := by omega
       have hbt : yz l ns x ↔ (parP ns x.i).2 ≠ 1 ∨ (enS l x 1).1 ≠ (parP ns x.i).1 ∨ ¬ Rch ns x.i := by
         unfold yz; rw [if_neg hx1]; exact ⟨fun e => e.2, fun e => ⟨hb, e⟩⟩
       refine zT.mk (fun t H' => H' = H7 ∧ t.1 = .bool (decide (yz l ns x))) ?_ ?_
       · rintro ⟨t, u⟩ H8 ⟨rfl, ht⟩
         simp only at ht
         subst ht
         rw [zf]
         refine ⟨fun hbd => ?_, fun hbd => keep (l' := [_, _]) hbd l7⟩
         rw [l7.ld (i := 2) rfl, f0, za]
         exact more (l' := [_, _]) (n := x.i) hbd l7
       · rw [zx, za, zf]
         refine ⟨fun h0 => ⟨rfl, yj (hbt.2 (.inl (by omega)))⟩, fun h0 => ?_⟩
         have ha1 : zi (some (none, 2)) sv (.int .i64 1) = some (.pointer (some ⟨b2, o2, none⟩)) := ha2 .i64
         rw [ha1, za, zh, za, Nat.add_zero, c0, za, zE, za, zw (by omega), zx, za, zf]
         refine ⟨fun h3 => ⟨rfl, yj (hbt.2 (.inr (.inl (by omega))))⟩, fun h3 => ?_⟩
         have hgr := bN_get (c := fun i => decide (Rch ns i)) (n := I.toNat + 1) (b := x.i) (by omega)
         obtain ⟨b4, o4, ha4, hcl4, _⟩ := (l7.sv (i := 1) rfl).sr.el hgr
         have d0 := hcl4 0 (by omega)
         rw [Nat.add_zero, show (bC (decide (Rch ns x.i)))[0]? = some (.bool (decide (Rch ns x.i))) from rfl] at d0
         rw [za, ha4, za, d0, za, zM, za]
         refine ⟨rfl, ?_⟩
         show Value.bool (!decide (Rch ns x.i)) = _
         congr 1
         rw [Bool.eq_iff_iff, decide_eq_true_eq, hbt]
         constructor
         · intro e; exact .inr (.inr (by simpa using e))
         · rintro (e | e | e)
           · omega
           · omega
           · simpa using e
   · rw [l5.ld (i := 2) rfl, f1, za, zx, za, zf]
     refine ⟨fun hk => ⟨rfl, yj fun e => hk (by have := e.1; omega)⟩, fun hk => ?_⟩
     rw [l5.ld (i := 2) rfl, f2, za, zA, za]
     refine ⟨rfl, Yi ⟨fun e e2 => e2.2 (by omega), fun e => ?_⟩⟩
     by_cases e2 : x.f 1 = 0
     · omega
     · exact absurd ⟨by omega, e2⟩ e
 · have ei : i = fs.length := by omega
   subst ei
   rw [List.take_length] at hps
   obtain ⟨s', hg, l15⟩ := l3.fltEnd (i := 0) rfl
   simp only [zc, zh, Nat.zero_add, Nat.add_zero, Nat.reduceAdd, za]
   rw [zo hg]
   show Pu (some s') _
   rw [za]
   exact k H3 s' ps l3.ext0 (l15.outN (i := 0) rfl) hps
set_option maxHeartbeats 1000000 in
theorem links29 (hf : Fls H s fs) (hn : Sr 2 H nv (ns.map nmC)) (hlen : ns.length < 1099511627776) (k : ∀ H' s' ps, Ext H H' → New H H' (.sl 251 2 s' (ps.map (fC 15))) → (ps = [] ↔ ∀ x ∈ fs, ¬ x.f 1 ≠ linksP fs ns x) → R s' H') : Fc Tryz.prog 159 #[z7 d, s, nv] H R := by
 have hfl := hf.len
 refine fn159 ?_
 simp only [sh159, Yf, zeroFile, zu, za]
 refine (Lo.start _ H : Lx H H []).flts fun p H1 e1 l1 => ?_
 have l1 : Lx H H1 [ye p 15 []] := l1
 refine zz.mk (fun t H' => ∃ (i : Nat) (ps : List Int), i ≤ fs.length ∧ t = (zm i, ()) ∧ ps.length ≤ i ∧ (ps = [] ↔ ∀ y ∈ fs.take i, ¬ y.f 1 ≠ linksP fs ns y) ∧ Lx H H' [ye p 15 ps])
   (fun t _ => mi t.1 fun i => (fs.length - i).toNat) ⟨0, [], by omega, rfl, by simp, by simp, l1⟩ ?_
 rintro _ H3 ⟨i, ps, hi, rfl, hpl, hps, l3⟩
 rw [hf.row.lenE yA, za, List.length_map, zt, za, zf]
 refine ⟨fun hlt => ?_, fun hge => ?_⟩
 · have hil : i < fs.length := by omega
   have hei : (fs.map flC)[i]? = some (flC fs[i]) := by rw [List.getElem?_map, List.getElem?_eq_getElem hil]; rfl
   have htk : fs.take (i + 1) = fs.take i ++ [fs[i]] := List.take_succ_eq_append_getElem hil
   have hmem : fs[i] ∈ fs := List.getElem_mem hil
   generalize fs[i] = x at hei htk hmem
   have hst := ids_step (y := x) (ys := []) hps
   rw [← htk] at hst
   obtain ⟨b, o, ha, hcl, hrow⟩ := (hf.ext l3.ext0).row.el hei
   have hr := hrow 0 18 (by omega)
   rw [Nat.add_zero, YX (c := flC x) (n := 18) rfl] at hr
   have f0 : (flC x)[0]? = some (zm x.i) := rfl
   have f1 : (flC x)[1]? = some (.int .u16 (x.f 0)) := rfl
   have f2 : (flC x)[2]? = some (.int .u16 (x.f 1)) := rfl
   have hok := (hf.ok x hmem) 1 (by omega)
   simp only [fw, Nat.reduceLT, if_true, Nat.reducePow] at hok
   rw [ha, za, hr, za]
   refine l3.boxA fun b1 H4 _ l4 => ?_
   refine l4.stAll (i := 1) (vs := flC x) rfl rfl rfl (hf.okC hmem) fun H5 l5 => ?_
   have l5 : Lx H H5 [ye p 15 ps, .box b1 (flC x) 192] := l5
   simp only [zc, zh, Nat.zero_add, Nat.add_zero, Nat.reduceAdd, za]
   rw [l5.ld (i := 1) rfl, f0, za]
   refine parent29 (hn.ext l5.ext0) hlen ?_
   have hpt := parP_take ns x.i ns.length (Nat.le_refl _)
   rw [List.take_length] at hpt
   rw [show ze (.tuple #[zm (parP ns x.i).1, zm (parP ns x.i).2]) 0 = some (zm (parP ns x.i).1) from rfl, za, show ze (.tuple #[zm (parP ns x.i).1, zm (parP ns x.i).2]) 1 = some (zm (parP ns x.i).2) from rfl, za]
   refine zT.mk (fun t H' => t.1 = zm (linksP fs ns x) ∧ Lx H H' [ye p 15 ps, .box b1 (flC x) 192]) ?_ ?_
   · rintro ⟨t, u⟩ H6 ⟨ht, l6⟩
     simp only at ht
     subst ht
     rw [l6.ld (i := 1) rfl, f2, za, zE, za, zw (by omega), zx, za, zf]
     refine ⟨fun hb => ?_, fun hb => ?_⟩
     · rw [l6.ld (i := 1) rfl, f0, za]
       obtain ⟨O, ho, st⟩ := (l6.takeN 1).call (i := 0) rfl
       refine flt_add ho (by omega) fun H11 O11 ps' hne hle s11 h11 => ?_
       have l11 := st H11 _ O11 s11 h11
       rw [zk, za, zL, zw (by omega)]
       refine ⟨⟨i + 1, ps', by omega, rfl, by omega, ?_, l11⟩, by simp only [zC]; omega⟩
       rw [← hst]
       exact ⟨fun e => absurd e hne, fun e => absurd (by omega) e.2⟩
     · rw [zk, za, zL, zw (by omega)]
       refine ⟨⟨i + 1, ps, by omega, rfl, by omega, ?_, l6.takeN 1⟩, by simp only [zC]; omega⟩
       rw [← hst]
       exact ⟨fun e => ⟨e, by omega⟩, fun e => e.1⟩
   · refine zT.mk (fun t H' => H' = H5 ∧ t.1 = .bool (decide (isTree x))) ?_ ?_
     · rintro ⟨t, u⟩ H6 ⟨rfl, ht⟩
       simp only at ht
       subst ht
       rw [zf]
       refine ⟨fun hb => ?_, fun hb => ?_⟩
       · have hlk : linksP fs ns x = 2 + subsP fs x.i ns := by unfold linksP; rw [if_pos hb]
         refine zz.mk (fun t H' => H' = H6 ∧ ∃ j : Nat, j ≤ ns.length ∧ t = (zm ((2 + subsP fs x.i (ns.take j) : Nat) : Int), zm j, ())) (fun t _ => mi t.2.1 fun j => (ns.length - j).toNat) ⟨rfl, 0, by omega, rfl⟩ ?_
         rintro _ H7 ⟨rfl, j, hj, rfl⟩
         have hn7 := hn.ext l5.ext0
         rw [hn7.lenE undNms, za, List.length_map, zt, za, zf]
         refine ⟨fun hlt2 => ?_, fun hge2 => ?_⟩
         · have hjl : j < ns.length := by omega
           have hej : (ns.map nmC)[j]? = some (nmC ns[j]) := by rw [List.getElem?_map, List.getElem?_eq_getElem hjl]; rfl
           have htj : ns.take (j + 1) = ns.take j ++ [ns[j]] := List.take_succ_eq_append_getElem hjl
           generalize ns[j] = y at hej htj
           have hsn := subsP_snoc fs x.i (ns.take j) y
           rw [← htj] at hsn
           have hsl := subsP_le fs x.i (ns.take j)
           rw [List.length_take] at hsl
           obtain ⟨b2, o2, ha2, hcl2, _⟩ := hn7.el hej
           have c0 := hcl2 0 (by omega)
           rw [Nat.add_zero, show (nmC y)[0]? = some (zm y.1) from rfl] at c0
           have c1 := hcl2 1 (by omega)
           rw [show (nmC y)[1]? = some (zm y.2) from rfl] at c1
           refine zT.mk (fun t H' => H' = H7 ∧ t.1 = .bool (decide (y.1 = x.i ∧ kindP fs y.2 = 2))) ?_ ?_
           · rintro ⟨t, u⟩ H8 ⟨rfl, ht⟩
             simp only at ht
             subst ht
             rw [zf]
             refine ⟨fun hc => ?_, fun hc => ?_⟩
             · rw [if_pos hc] at hsn
               rw [zk, za, zL, zw (by omega), zk, za, zL, zw (by omega)]
               refine ⟨⟨rfl, j + 1, by omega, ?_⟩, by simp only [zC]; omega⟩
               rw [hsn]; rfl
             · rw [if_neg hc] at hsn
               rw [zk, za, zL j, zw (v := j + 1) (by omega)]
               refine ⟨⟨rfl, j + 1, by omega, ?_⟩, by simp only [zC]; omega⟩
               rw [hsn]; rfl
           · rw [ha2, za, zh, za, Nat.add_zero, c0, za, l5.ld (i := 1) rfl, f0, za, zA, za, zf]
             refine ⟨fun he => ?_, fun he => ⟨rfl, YM fun e => he (by omega)⟩⟩
             rw [za, zh, za, c1, za]
             refine kind29 (hf.ext l5.ext0) ?_
             rw [zA, za]
             exact ⟨rfl, Yi (by omega)⟩
         · have ej : j = ns.length := by omega
           subst ej
           rw [List.take_length]
           exact ⟨by rw [hlk], l5⟩
       · refine ⟨?_, l5⟩
         unfold linksP
         rw [if_neg hb]
     · rw [l5.ld (i := 1) rfl, f1, za, zA, za, zf]
       refine ⟨fun hk => ?_, fun hk => ⟨rfl, YM fun e => hk (by have := e.1; omega)⟩⟩
       rw [l5.ld (i := 1) rfl, f2, za, zx, za]
       refine ⟨rfl, Yi ⟨fun e => ⟨by omega, by omega⟩, fun e => ?_⟩⟩
       have := e.2; omega
 · have ei : i = fs.length := by omega
   subst ei
   rw [List.take_length] at hps
   obtain ⟨s', hg, l15⟩ := l3.fltEnd (i := 0) rfl
   simp only [zc, zh, Nat.zero_add, Nat.add_zero, Nat.reduceAdd, za]
   rw [zo hg]
   show Pu (some s') _
   rw [za]
   exact k H3 s' ps l3.ext0 (l15.outN (i := 0) rfl) hps
end
end Go.Vc
namespace Go.Vc
open Go.Proofs Classical
section
variable {P : Program} {S : Nat → Prop} {H0 H : Hp} {l : List Ob}
theorem Lo.appOX {e : ZN} {ty T n by' : Nat} {K : Value → Hp → Prop} (h : Lo S H0 H l) (he : zK P ty = some e) (hf : e.type = T ∧ e.size = n ∧ e.zero.size = n ∧ e.bytes = by') {i : Nat} {s v : Value} {c : Array Value} {vs : List (Array Value)} (hi : l[i]? = some (.sl T n s vs)) (hv : v.cells = c) (hn : 0 < n ∧ n ≤ 2 ^ 24) (hby : 0 < by') (hc : c.size = n) (hok : zG c)
   (hlim : (vs.length + 1) * by' ≤ 2 ^ 47) (k : ∀ s' H', Lo S H0 H' (l.set i (.sl T n s' (vs ++ [c]))) → K s' H') : Pu (zK P ty) fun x => Pu (zJ (some x) 1 [(0, v)]) fun cs => NewS x.type 1 cs H fun x2 H2 => ForX true H2 fun H3 => YI (zK P ty) s x2 H3 K := by
 obtain ⟨f1, f2, f3, f4⟩ := hf
 rw [he, za, newS_one (by omega) (by omega) (by rw [hv, hc, f2]), za, hv]
 refine newS_i fun b H2 hb e2 hs2 g => ?_
 rw [zp]
 intro H3 e3
 exact ((h.ext e2).ext e3).app hi f1 f2 f3 (by omega) ((Sv.single g hc).ext e3) (by simpa using hok) (by rw [f4]; simpa using hlim) k
end
theorem New.subs2 {H H' : Hp} {T n T' n' : Nat} {s : Value} {vs : List (Array Value)} (h : New H H' (.sl T n s vs)) : New H H' (.subs [⟨.slice none 0 0, T', n', []⟩, ⟨s, T, n, vs⟩]) := by
 obtain ⟨O, ho, hn⟩ := h
 refine ⟨O, ⟨fun x hx => ?_, ho.2⟩, hn⟩
 rcases List.mem_cons.1 hx with e | e
 · rw [e]; exact ⟨Sv.nil T' n' H', fun b hb => by cases hb⟩
 · rw [List.mem_singleton.1 e]; exact ho.1
theorem New.subs2' {H H' : Hp} {T n T' n' : Nat} {s : Value} {vs : List (Array Value)} (h : New H H' (.sl T n s vs)) : New H H' (.subs [⟨s, T, n, vs⟩, ⟨.slice none 0 0, T', n', []⟩]) := by
 obtain ⟨O, ho, hn⟩ := h
 refine ⟨O, ⟨fun x hx => ?_, ho.2⟩, hn⟩
 rcases List.mem_cons.1 hx with e | e
 · rw [e]; exact ho.1
 · rw [List.mem_singleton.1 e]; exact ⟨Sv.nil T' n' H', fun b hb => by cases hb⟩
theorem mlt {n j : Nat} (h : j < n) : ((n : Int) - ((j + 1 : Nat) : Int)).toNat < ((n : Int) - (j : Int)).toNat := by omega
def bitP (B L I : Int) (fs : List Fl) (a : Nat) : Prop := (a : Int) < (zq B L I).dataAt ∨ ((a : Int) < B ∧ 0 < ownC (Za fs) a)
def bitOk (B L I : Int) (l : List (Int × Blk)) (fs : List Fl) (a : Nat) : Prop := bitB (Zi l ((zq B L I).bitsAt + ((a / 8192 : Nat) : Int))) (a % 8192) = decide (bitP B L I fs a)
noncomputable def dataP (l : List (Int × Blk)) (x : Fl) (n : Nat) : List (Int × Blk) := ((x.sp.take n).filter fun y => decide (0 ≤ y.1)).map fun y => (y.1, Zi l y.2)
theorem dataP_len (l : List (Int × Blk)) (x : Fl) (n : Nat) : (dataP l x n).length ≤ n := by
 unfold dataP
 rw [List.length_map]
 refine Nat.le_trans (List.length_filter_le _ _) ?_
 rw [List.length_take]; omega
noncomputable def itP (l : List (Int × Blk)) (x : Fl) : Itm := ⟨x.i, x.f 0, x.f 1, x.f 2, x.f 3, if x.f 0 = 2 then [] else dataP l x x.sp.length, if x.f 0 = 2 then ZP l x (x.f 2 / 16) else []⟩
theorem zeroItm : zD Tryz.prog 142 = some (.agg (Yy ⟨0, 0, 0, 0, 0, [], []⟩ (.slice none 0 0) (.slice none 0 0))) := by kernel_rfl
theorem buildItm (a b c d e : Int) : zv Tryz.prog 142 [(0, zm a), (1, .int .u16 b), (2, zm c), (3, zm d), (4, zm e)] = some (.agg #[zm a, .int .u16 b, zm c, zm d, zm e, .slice none 0 0, .slice none 0 0]) := by kernel_rfl
theorem itmC_ok {t : Itm} {b b' : Option Addr} {n n' c c' : Nat} : zG (Yy t (.slice b n c) (.slice b' n' c')) := by unfold zG; rw [← Array.all_toList]; rfl
section
variable {H : Hp} {R : Value → Hp → Prop} {d : Nat} {dv : Value} {B L I : Int} {l : List (Int × Blk)} {s nv : Value} {fs : List Fl} {ns : List Nm}
set_option maxRecDepth 100000 in
set_option maxHeartbeats 1000000 in
theorem wrongBits29 (h : Lk H d dv B L I l) (hf : Fls H s fs) (hd : ∀ y ∈ Za fs, isDat B L I y) (k : ∀ H' s' ps, Ext H H' → New H H' (.sl 251 2 s' (ps.map (fC 11))) → (ps = [] ↔ ∀ a : Nat, (a : Int) < 8192 * (zq B L I).bitsBlocks → bitOk B L I l fs a) → R s' H') : Fc Tryz.prog 155 #[z7 d, s] H R := by
 obtain ⟨gL1, gL2, gI1, gI2, gB1, gB2, gD⟩ := id h.ok
 obtain ⟨Bn, eB⟩ : ∃ Bn : Nat, B = Bn := ⟨B.toNat, by omega⟩
 have eBt : B.toNat = Bn := by omega
 have hBB : (zq B L I).bitsBlocks = (B + 8191) / 8192 := rfl
 have hDA : (zq B L I).dataAt = 1 + L + (I + 16) / 16 + (B + 8191) / 8192 := rfl
 have hBA : (zq B L I).bitsAt = 1 + L + (I + 16) / 16 := rfl
 obtain ⟨Kn, eK⟩ : ∃ Kn : Nat, (zq B L I).bitsBlocks = Kn := ⟨(zq B L I).bitsBlocks.toNat, by omega⟩
 have hKn : Kn ≤ 129 := by omega
 refine fn155 ?_
 simp only [sh155, zu, Z0, zc, zh, Nat.zero_add, Nat.add_zero, Nat.reduceAdd, za]
 refine owned29 h hf hd fun H1 ov e1 n1 => ?_
 rw [eBt] at n1
 have l1 : Lx H H1 [.sl 3 1 ov (cN (ownC (Za fs)) Bn)] := ((Lo.start _ H : Lx H H []).new e1 n1)
 have l1 := l1.nilS 251 2
 refine zz.mk (fun t H' => ∃ (i : Nat) (v : Value) (ps : List Int), i ≤ Kn ∧ t = (v, zm i, ()) ∧ ps.length ≤ 8192 * i ∧ (ps = [] ↔ ∀ a : Nat, a < 8192 * i → bitOk B L I l fs a) ∧ Lx H H' [.sl 3 1 ov (cN (ownC (Za fs)) Bn), .sl 251 2 v (ps.map (fC 11))])
   (fun t _ => mi t.2.1 fun i => (Kn - i).toNat) ⟨0, .slice none 0 0, [], by omega, rfl, by simp, by simp, l1⟩ ?_
 rintro _ H2 ⟨i, v, ps, hi, rfl, hpl, hps, l2⟩
 have h2 := h.ext l2.ext0
 rw [zo h2.top, lkC9, za, eK, zt, za, zf]
 refine ⟨fun hlt => ?_, fun hge => ?_⟩
 · rw [zo h2.top, lkC8, za, zk, za, zg (by omega) (by omega)]
   refine lk_at h2 fun H3 e3 => ?_
   have hbl := ZA h.is ((zq B L I).bitsAt + (i : Int))
   have hbo : ∀ j, j < 8192 → (bitOk B L I l fs (8192 * i + j) ↔ bitB (Zi l ((zq B L I).bitsAt + (i : Int))) j = decide (bitP B L I fs (8192 * i + j))) := fun j hj => by
     unfold bitOk
     rw [show (8192 * i + j) / 8192 = i by omega, show (8192 * i + j) % 8192 = j by omega]
   generalize Zi l ((zq B L I).bitsAt + (i : Int)) = c at hbl hbo
   refine (l2.ext e3).boxA fun b2 H4 _ l4 => ?_
   refine l4.stAll (i := 2) rfl zI hbl.size hbl.ok fun H5 l5 => ?_
   refine zz.mk (fun t H' => ∃ (j : Nat) (v : Value) (ps : List Int), j ≤ 8192 ∧ t = (v, zm j, ()) ∧ ps.length ≤ 8192 * i + j ∧ (ps = [] ↔ ∀ a : Nat, a < 8192 * i + j → bitOk B L I l fs a) ∧ Lx H H' [.sl 3 1 ov (cN (ownC (Za fs)) Bn), .sl 251 2 v (ps.map (fC 11)), .box b2 c 65])
     (fun t _ => mi t.2.1 fun j => (((8192 : Nat) : Int) - j).toNat) ⟨0, v, ps, by omega, rfl, by omega, hps, l5⟩ ?_
   rintro _ H6 ⟨j, v, ps, hj, rfl, hpl, hps, l6⟩
   have hst : ∀ a, a < 8192 * i + (j + 1) ↔ a < 8192 * i + j ∨ a = 8192 * i + j := fun a => by omega
   rw [zt, za, zf]
   refine ⟨fun hlt2 => ?_, fun hge2 => ?_⟩
   · rw [zX, za, zg (by omega) (by omega), zk, za, zg (by omega) (by omega), show (8192 * (i : Int) + (j : Int)) = ((8192 * i + j : Nat) : Int) by omega]
     have hbo := hbo j (by omega)
     have hpd : bitP B L I fs (8192 * i + j) ↔ ((8192 * i + j : Nat) : Int) < (zq B L I).dataAt ∨ (((8192 * i + j : Nat) : Int) < B ∧ 0 < ownC (Za fs) (8192 * i + j)) := Iff.rfl
     generalize hat : 8192 * i + j = at' at hbo hpd hst hpl hps
     have hjn : j < 8192 := by omega
     refine zT.mk (fun t H' => H' = H6 ∧ t.1 = .bool (decide (bitP B L I fs at'))) ?_ ?_
     · rintro ⟨t, u⟩ H7 ⟨rfl, ht⟩
       simp only at ht
       subst ht
       rw [l6.ldAll (i := 2) (n := 1024) rfl hbl.size, za]
       refine has_ok hbl (by omega) fun H8 e8 => ?_
       have l8 := l6.ext e8
       rw [binE_neb, za, ZB]
       refine ⟨fun hb => ?_, fun hb => ?_⟩
       · have hb : ¬ bitOk B L I l fs at' := fun e => by rw [hbo.1 e] at hb; simp at hb
         rw [buildFlt, za]
         refine l8.appO elFlt eFlt_f (i := 1) rfl (by rfl) (by omega) (by omega) rfl (fC_ok _ _) (by rw [List.length_map]; omega) fun v3 H9 l9 => ?_
         rw [zk, za, zL, zw (by omega)]
         refine ⟨⟨j + 1, v3, ps ++ [(at' : Int)], by omega, rfl, by rw [List.length_append]; simp only [List.length_cons, List.length_nil]; omega, ⟨fun e => absurd (List.append_eq_nil_iff.1 e).2 (List.cons_ne_nil _ _), fun hh => absurd (hh at' ((hst at').2 (.inr rfl))) hb⟩, ?_⟩, by simp only [zC]; exact mlt (n := 8192) hjn⟩
         rw [List.map_append]; exact l9
       · have hb : bitOk B L I l fs at' := hbo.2 (by simpa using hb)
         rw [zk, za, zL, zw (by omega)]
         refine ⟨⟨j + 1, v, ps, by omega, rfl, by omega, ⟨fun e a ha => ?_, fun hh => hps.2 fun a ha => hh a ((hst a).2 (.inl ha))⟩, l8⟩, by simp only [zC]; exact mlt (n := 8192) hjn⟩
         rcases (hst a).1 ha with e2 | e2
         · exact hps.1 e a e2
         · rw [e2]; exact hb
     · have h6 := h.ext l6.ext0
       rw [zo h6.top, lkC10, za, zt, za, zf]
       refine ⟨fun h1 => ⟨rfl, yj (hpd.2 (.inl h1))⟩, fun h1 => ?_⟩
       rw [(l6.sv (i := 0) rfl).lenE undIn, za, cN_len, zt, za, zf]
       refine ⟨fun h3 => ?_, fun h3 => ⟨rfl, YM fun e => ?_⟩⟩
       · have hg := cN_get (c := ownC (Za fs)) (n := Bn) (b := at') (by omega)
         obtain ⟨b3, o3, ha3, hcl3, _⟩ := (l6.sv (i := 0) rfl).sr.el hg
         have hc0 := hcl3 0 (by omega)
         rw [Nat.add_zero] at hc0
         rw [ha3, za, hc0, show (nC (ownC (Za fs) at'))[0]? = some (zm (ownC (Za fs) at')) from rfl, za, zN, za]
         refine ⟨rfl, Yi ?_⟩
         rw [hpd]
         omega
       · rcases hpd.1 e with e | e <;> omega
   · have ej : 8192 * i + j = 8192 * (i + 1) := by omega
     rw [ej] at hps hpl
     rw [zk, za, zL, zw (by omega)]
     exact ⟨⟨i + 1, v, ps, by omega, rfl, hpl, hps, l6.takeN 2⟩, by simp only [zC]; omega⟩
 · have ei : i = Kn := by omega
   subst ei
   refine k H2 v ps l2.ext0 (l2.outN (i := 1) rfl) ?_
   rw [hps, eK]
   exact ⟨fun hh a ha => hh a (by omega), fun hh a ha => hh a (by omega)⟩
set_option maxHeartbeats 1000000 in
theorem item29 (h : Lk H d dv B L I l) {x : Fl} (hsub : Sr 2 H x.v (x.sp.map spC)) (hfew : x.sp.length ≤ 66100) (hok : InoOk x.f) (hokc : zG (flC x)) (k : ∀ H' v1 v2, Ext H H' → New H H' (.subs [⟨v1, 149, 1025, (itP l x).data.map zS⟩, ⟨v2, 241, 2, (itP l x).slots.map ZS⟩]) → R (.agg (Yy (itP l x) v1 v2)) H') : Fc Tryz.prog 119 #[z7 d, .agg (flC x)] H R := by
 have h1 := hok 1 (by omega)
 have h2 := hok 2 (by omega)
 have h3 := hok 3 (by omega)
 simp only [fw, Nat.reduceLT, if_false, if_true, Nat.reducePow, Nat.lt_irrefl] at h1 h2 h3
 have f0 : (flC x)[0]? = some (zm x.i) := rfl
 have f1 : (flC x)[1]? = some (.int .u16 (x.f 0)) := rfl
 have f2 : (flC x)[2]? = some (.int .u16 (x.f 1)) := rfl
 have f3 : (flC x)[3]? = some (.int .u32 (x.f 2)) := rfl
 have f4 : (flC x)[4]? = some (.int .u32 (x.f 3)) := rfl
 have f17 : (flC x)[17]? = some x.v := rfl
 refine fn119 ?_
 simp only [sh119, zu, zeroItm, za]
 refine (Lo.start _ H : Lx H H []).boxA fun b1 H1 _ l1 => ?_
 refine l1.boxA fun b2 H2 _ l2 => ?_
 simp only [zh, Nat.zero_add, Nat.add_zero, Nat.reduceAdd, za]
 rw [l2.ld (i := 0) rfl, f0, za, l2.ld (i := 0) rfl, f1, za, l2.ld (i := 0) rfl, f2, za, zE, za, zw (by omega), l2.ld (i := 0) rfl, f3, za, zE, za, zw (by omega), l2.ld (i := 0) rfl, f4, za, zE, za, zw (by omega), buildItm, za]
 refine l2.boxA fun b3 H3 _ l3 => ?_
 refine l3.stAll (i := 2) (vs := Yy (itP l x) (.slice none 0 0) (.slice none 0 0)) rfl rfl rfl itmC_ok fun H4 l4 => ?_
 have l4 : Lx H H4 [.box b1 (flC x) 192, .box b2 (Yy ⟨0, 0, 0, 0, 0, [], []⟩ (.slice none 0 0) (.slice none 0 0)) 142, .box b3 (Yy (itP l x) (.slice none 0 0) (.slice none 0 0)) 142] := l4
 have g1 : ∀ {v1 v2 : Value}, (Yy (itP l x) v1 v2)[1]? = some (.int .u16 (x.f 0)) := rfl
 have g5 : ∀ {v1 v2 : Value}, (Yy (itP l x) v1 v2)[5]? = some v1 := rfl
 rw [zh, za, l4.ld (i := 2) rfl, g1, za, zA, za, zf]
 refine ⟨fun hk => ?_, fun hk => ?_⟩
 · have hk : x.f 0 = 2 := by omega
   have hdt : (itP l x).data = [] := by unfold itP; simp only [hk, if_true]
   have hsl : (itP l x).slots = ZP l x (x.f 2 / 16) := by unfold itP; simp only [hk, if_true]
   rw [l4.ldAll (i := 0) (n := 18) rfl rfl, za]
   refine slots29 (h.ext l4.ext0) (hsub.ext l4.ext0) hfew hok fun H5 sv e5 n5 => ?_
   have l5 := l4.new e5 n5
   rw [show ze (.tuple #[sv, .bool (decide (YW l x (x.f 2 / 16)))]) 0 = some sv from rfl, za, show ze (.tuple #[sv, .bool (decide (YW l x (x.f 2 / 16)))]) 1 = some (.bool (decide (YW l x (x.f 2 / 16)))) from rfl, za, zh, za]
   have hone := (l5.sv (i := 3) rfl).one
   obtain ⟨bb, cc, esv⟩ := (l5.sv (i := 3) rfl).len
   refine l5.st (i := 2) (j := 6) (v := sv) rfl (by exact (by decide : 6 < 7)) hone.2 hone.1 fun H6 l6 => ?_
   have l6 : Lx H H6 [.box b1 (flC x) 192, .box b2 (Yy ⟨0, 0, 0, 0, 0, [], []⟩ (.slice none 0 0) (.slice none 0 0)) 142, .box b3 (Yy (itP l x) (.slice none 0 0) sv) 142, .sl 241 2 sv ((ZP l x (x.f 2 / 16)).map ZS)] := l6
   rw [l6.ldAll (i := 2) (n := 7) rfl rfl, za]
   refine l6.ret (i := 1) rfl rfl rfl (by rw [esv]; exact itmC_ok) fun H' l' => ?_
   refine k H' (.slice none 0 0) sv l'.ext0 ?_
   rw [hdt, hsl]
   exact (l'.outN (i := 3) rfl).subs2
 · have hk : x.f 0 ≠ 2 := by omega
   have hdt : (itP l x).data = dataP l x x.sp.length := by unfold itP; simp only [hk, if_false]
   have hsl : (itP l x).slots = [] := by unfold itP; simp only [hk, if_false]
   have l4 := l4.nilS 149 1025
   refine zz.mk (fun t H' => ∃ (i : Nat) (v1 : Value), i ≤ x.sp.length ∧ t = (zm i, ()) ∧ Lx H H' [.box b1 (flC x) 192, .box b2 (Yy ⟨0, 0, 0, 0, 0, [], []⟩ (.slice none 0 0) (.slice none 0 0)) 142, .box b3 (Yy (itP l x) v1 (.slice none 0 0)) 142, .sl 149 1025 v1 ((dataP l x i).map zS)])
     (fun t _ => mi t.1 fun i => (x.sp.length - i).toNat) ⟨0, .slice none 0 0, by omega, rfl, l4⟩ ?_
   rintro _ H5 ⟨i, v1, hi, rfl, l5⟩
   rw [l5.ld (i := 0) rfl, f17, za, hsub.lenE YO, za, List.length_map, zt, za, zf]
   refine ⟨fun hlt => ?_, fun hge => ?_⟩
   · have hjl : i < x.sp.length := by omega
     have hej : (x.sp.map spC)[i]? = some (spC x.sp[i]) := by rw [List.getElem?_map, List.getElem?_eq_getElem hjl]; rfl
     have htj : x.sp.take (i + 1) = x.sp.take i ++ [x.sp[i]] := List.take_succ_eq_append_getElem hjl
     generalize x.sp[i] = y at hej htj
     have hds : dataP l x (i + 1) = dataP l x i ++ (if 0 ≤ y.1 then [(y.1, Zi l y.2)] else []) := by
       unfold dataP
       rw [htj, List.filter_append, List.map_append]
       congr 1
       by_cases e : 0 ≤ y.1 <;> simp [e]
     have hdl := dataP_len l x i
     obtain ⟨b6, o6, ha6, hcl6, _⟩ := (hsub.ext l5.ext0).el hej
     have c0 := hcl6 0 (by omega)
     rw [Nat.add_zero, show (spC y)[0]? = some (zm y.1) from rfl] at c0
     have c1 := hcl6 1 (by omega)
     rw [show (spC y)[1]? = some (zm y.2) from rfl] at c1
     rw [za, ha6, za, zh, za, Nat.add_zero, c0, za, zY, za, zf]
     refine ⟨fun hp => ?_, fun hp => ?_⟩
     · rw [if_pos hp] at hds
       have hbl := ZA h.is y.2
       rw [zh, za, l5.ld (i := 2) rfl, g5, za, za, ha6, za, zh, za, Nat.add_zero, c0, za, za, ha6, za, zh, za, c1, za]
       refine ⟨.agg (Zi l y.2), fun H'' e'' => lk_at (h.ext (l5.ext0.trans e'')) fun H3 e3 => ⟨rfl, e3⟩, ?_⟩
       rw [build_held hbl, za, zp]
       intro H9 e9
       refine (l5.ext e9).appOX elHeld eHeld_f (i := 3) (c := zS (y.1, Zi l y.2)) rfl rfl (by omega) (by omega) (ZC hbl) (heldC_ok hbl) (by rw [List.length_map]; omega) fun s' H12 l12 => ?_
       rw [za, zp]
       intro H13 e13
       have l13 := l12.ext e13
       have hone := (l13.sv (i := 3) rfl).one
       refine l13.st (i := 2) (j := 5) (v := s') rfl (by exact (by decide : 5 < 7)) hone.2 hone.1 fun H14 l14 => ?_
       rw [zp]
       intro H15 e15
       rw [zk, za, zL, zw (by omega)]
       refine ⟨⟨i + 1, s', by omega, rfl, ?_⟩, by simp only [zC]; omega⟩
       rw [hds, List.map_append]
       exact l14.ext e15
     · rw [if_neg hp, List.append_nil] at hds
       rw [zk, za, zL, zw (by omega)]
       refine ⟨⟨i + 1, v1, by omega, rfl, ?_⟩, by simp only [zC]; omega⟩
       rw [hds]; exact l5
   · have ei : i = x.sp.length := by omega
     subst ei
     obtain ⟨bb, cc, esv⟩ := (l5.sv (i := 3) rfl).len
     rw [l5.ldAll (i := 2) (n := 7) rfl rfl, za]
     refine l5.ret (i := 1) rfl rfl rfl (by rw [esv]; exact itmC_ok) fun H' l' => ?_
     refine k H' v1 (.slice none 0 0) l'.ext0 ?_
     rw [hdt, hsl]
     exact (l'.outN (i := 3) rfl).subs2'
end
end Go.Vc
namespace Go.Vc
open Go.Proofs Classical
structure Sound (B L I : Int) (l : List (Int × Blk)) (fs : List Fl) : Prop where
 nodes : NodesOk B L I l
 ptr : ∀ y ∈ Za fs, isDat B L I y
 twice : ∀ b : Nat, (b : Int) < B → ownC (Za fs) b ≤ 1
 alone : ∀ kd ∈ ([7, 8, 9, 10] : List Int), ∀ x ∈ fs, ¬ yL l kd x
 bits : ∀ a : Nat, (a : Int) < 8192 * (zq B L I).bitsBlocks → bitOk B L I l fs a
 hole : ∀ x ∈ fs, ¬ yL l 12 x
 slots : ∀ x ∈ fs, ¬ (x.f 0 = 2 ∧ yp l fs x)
 tree : ∀ x ∈ fs, ¬ yz l (yq l fs) x
 links : ∀ x ∈ fs, ¬ x.f 1 ≠ linksP fs (yq l fs) x
theorem nodes_nd {B L I : Int} {l : List (Int × Blk)} {fs : List Fl} (hI : 1 ≤ I) (h : NodesOk B L I l) (hf : FlsOk B L I l I.toNat fs) : NdOk fs := by
 intro x hx
 have hm := hf.mem hx
 have hb := h.1 x.i (by omega)
 have e := (hf.is x hx).1
 have hno : ¬ oddP (rawP B L I l x.i) (Yh B L I l x.i) := fun ho => hb (.inl (.inl ⟨hm.2.2, ho⟩))
 rw [← e] at hno
 unfold oddP at hno
 refine ⟨?_, fun h0 h1 => ?_⟩
 · exact Nat.le_of_not_lt fun hh => hno (.inr (.inr (.inl hh)))
 · exact Nat.le_of_not_lt fun hh => hno (.inr (.inr (.inr (.inr ⟨h0, .inr ⟨h1, .inl hh⟩⟩))))
theorem names_in {B L I : Int} {l : List (Int × Blk)} {fs : List Fl} (hI : 1 ≤ I) (hf : FlsOk B L I l I.toNat fs) (hs : ∀ x ∈ fs, ¬ (x.f 0 = 2 ∧ yp l fs x)) : ∀ y ∈ yq l fs, (y.1 : Int) ≤ I ∧ (y.2 : Int) ≤ I := by
 intro y hy
 obtain ⟨x, hx, hy⟩ := List.mem_flatMap.1 hy
 have hm := hf.mem hx
 unfold nmX at hy
 split at hy
 · rename_i ht
   have hb := hs x hx
   have key : ∀ n, n ≤ x.f 2 / 16 → y ∈ nmD l x n → y.1 = x.i ∧ ∃ i, i < x.f 2 / 16 ∧ (enS l x i).1 ≠ 0 ∧ y.2 = (enS l x i).1 := by
     intro n
     induction n with
     | zero => intro _ h; cases h
     | succ n ih =>
       intro hn h
       rw [nmD_succ] at h
       rcases List.mem_append.1 h with h1 | h1
       · exact ih (by omega) h1
       · split at h1
         · rename_i h2
           rw [List.mem_singleton.1 h1]
           exact ⟨rfl, n, by omega, h2.2, rfl⟩
         · cases h1
   obtain ⟨e1, i, hi, hne, e2⟩ := key _ (Nat.le_refl _) hy
   have hu : usedP fs (enS l x i).1 := by
     by_cases hu : usedP fs (enS l x i).1
     · exact hu
     · exact absurd ⟨ht.1, .inr ⟨ht.2, .inr (.inr ⟨i, hi, hne, .inl hu⟩)⟩⟩ hb
   obtain ⟨z, hz, e3⟩ := hu
   have := hf.mem hz
   rw [e1, e2]
   exact ⟨by omega, by omega⟩
 · cases hy
theorem elKd : zK Tryz.prog 223 = some ⟨219, 1, 1, #[.int .u8 0]⟩ := by kernel_rfl
theorem undKds : Tryz.prog.underlying 223 = some (.slice 219) := by kernel_rfl
theorem newKds : zJ (some ⟨219, 1, 1, #[.int .u8 0]⟩) 4 [(0, (.int .u8 7)), (1, (.int .u8 8)), (2, (.int .u8 9)), (3, (.int .u8 10))] = some #[.int .u8 7, .int .u8 8, .int .u8 9, .int .u8 10] := by kernel_rfl
def kdC (n : Int) : Array Value := #[.int .u8 n]
theorem kds_sr {H : Hp} {b : Nat} {T : TypeId} (g : H[b]? = some (.cells #[.int .u8 7, .int .u8 8, .int .u8 9, .int .u8 10] T)) : Sr 1 H (.slice (some ⟨b, 0, none⟩) 4 4) (([7, 8, 9, 10] : List Int).map kdC) := by
 refine ⟨_, 4, rfl, by decide, fun _ => ⟨b, 0, rfl, fun i v hi => ?_⟩⟩
 have r : ∀ j, j < 4 → rowH H ⟨b, 0 + j * 1, none⟩ 1 = some ((#[.int .u8 7, .int .u8 8, .int .u8 9, .int .u8 10] : Array Value).extract j (j + 1)) := fun j hj => by
   unfold rowH
   simp only [g]
   rw [if_pos ⟨trivial, by show 0 + j * 1 + 1 ≤ 4; omega⟩, Nat.zero_add, Nat.mul_one]
 match i, hi with
 | 0, hi => rw [r 0 (by omega)]; injection hi with hi; rw [← hi]; rfl
 | 1, hi => rw [r 1 (by omega)]; injection hi with hi; rw [← hi]; rfl
 | 2, hi => rw [r 2 (by omega)]; injection hi with hi; rw [← hi]; rfl
 | 3, hi => rw [r 3 (by omega)]; injection hi with hi; rw [← hi]; rfl
section
variable {H : Hp} {R : Value → Hp → Prop} {d : Nat} {dv : Value} {B L I : Int} {l : List (Int × Blk)} {s nv : Value} {fs : List Fl} {ns : List Nm}
theorem Ys {H H' : Hp} {s : Value} {ps : List Int} {kd : Int} (h : New H H' (.sl 251 2 s (ps.map (fC kd)))) : lenE Tryz.prog 131 s = some (zm ps.length) := by
 rw [h.sv.lenE undFlts, List.length_map]
theorem yG {ps : List Int} : (0 : Int) < (ps.length : Int) ↔ ps ≠ [] := by
 cases ps with
 | nil => simp
 | cons a r => simp
set_option maxHeartbeats 1000000 in
theorem wrongs29 (h : Lk H d dv B L I l) (k : ∀ H' s' (ps : List Int) kd fs, Ext H H' → New H H' (.sl 251 2 s' (ps.map (fC kd))) → FlsOk B L I l I.toNat fs → (ps = [] ↔ Sound B L I l fs) → R s' H') : Fc Tryz.prog 117 #[z7 d] H R := by
 obtain ⟨gL1, gL2, gI1, gI2, gB1, gB2, gD⟩ := id h.ok
 have hgo : ∃ fs, FlsOk B L I l I.toNat fs := by
   have : ∀ n, ∃ fs, FlsOk B L I l n fs := fun n => by
     induction n with
     | zero => exact ⟨[], rfl, fun x hx => by cases hx⟩
     | succ n ih =>
       obtain ⟨fs, hfs⟩ := ih
       by_cases e : Yh B L I l (n + 1) 0 = 0
       · exact ⟨fs, hfs.skip e⟩
       · exact ⟨_, hfs.add (x := ⟨n + 1, Yh B L I l (n + 1), .bool false, yY B L I l (Yh B L I l (n + 1))⟩) rfl rfl rfl e⟩
   exact this _
 refine fn117 ?_
 simp only [sh117, zu]
 refine lk_nodes h fun H1 s1 p1 e1 n1 q1 => ?_
 rw [Ys n1, za, zN, za, zf]
 refine ⟨fun hp => ?_, fun hp => ?_⟩
 · have hp := yG.1 hp
   obtain ⟨fs, hfs⟩ := hgo
   exact k H1 s1 p1 4 fs e1 n1 hfs ⟨fun e => absurd e hp, fun e => absurd (q1.2 e.nodes) hp⟩
 have hN : NodesOk B L I l := q1.1 (Classical.not_not.1 fun e => hp (yG.2 e))
 refine lk_files (h.ext e1) fun H2 fv fs e2 n2 hfs => ?_
 have hf2 : Fls H2 fv fs := files_fr (h.ext e1) (by omega) hfs n2
 have hnd := nodes_nd gI1 hN hfs
 have x2 := e1.trans e2
 refine pointers29 (h.ext x2) hf2 fun H3 s3 p3 e3 n3 q3 => ?_
 have x3 := x2.trans e3
 have stop : ∀ {H' : Hp} {s' : Value} {ps : List Int} {kd : Int} {Hm : Hp}, Ext H Hm → Ext Hm H' → New Hm H' (.sl 251 2 s' (ps.map (fC kd))) → ps ≠ [] → (Sound B L I l fs → ps = []) → R s' H' := fun xm em nm hp hq => k _ _ _ _ fs (xm.trans em) (nm.old xm.le) hfs ⟨fun e => absurd e hp, fun e => absurd (hq e) hp⟩
 have e0 : ∀ {ps : List Int}, ¬ (0 : Int) < (ps.length : Int) → ps = [] := fun hp => Classical.not_not.1 fun e => hp (yG.2 e)
 rw [Ys n3, za, zN, za, zf]
 refine ⟨fun hp => stop x2 e3 n3 (yG.1 hp) fun S => q3.2 S.ptr, fun hp => ?_⟩
 have hP := q3.1 (e0 hp)
 refine twice29 (h.ext x3) (hf2.ext e3) hP fun H4 s4 p4 e4 n4 q4 => ?_
 have x4 := x3.trans e4
 have f4 := (hf2.ext e3).ext e4
 rw [Ys n4, za, zN, za, zf]
 refine ⟨fun hp => stop x3 e4 n4 (yG.1 hp) fun S => q4.2 S.twice, fun hp => ?_⟩
 have hT := q4.1 (e0 hp)
 rw [elKd, za, newKds, za]
 refine newS_i fun b H5 hb e5 hs5 g5 => ?_
 have x5 := x4.trans e5
 have f5 := f4.ext e5
 have sr5 := kds_sr g5
 refine zz.mk (fun t H' => Ext H5 H' ∧ ∃ i : Nat, i ≤ 4 ∧ t = (zm i, ()) ∧ ∀ kd ∈ ([7, 8, 9, 10] : List Int).take i, ∀ x ∈ fs, ¬ yL l kd x) (fun t _ => mi t.1 fun i => (4 - i).toNat) ⟨Ext.refl _, 0, by omega, rfl, by simp⟩ ?_
 rintro _ H6 ⟨e6, i, hi, rfl, hal⟩
 have x6 := x5.trans e6
 have f6 := f5.ext e6
 have sr6 := sr5.ext e6
 rw [sr6.lenE undKds, za, show ((([7, 8, 9, 10] : List Int).map kdC).length : Int) = 4 from rfl, zt, za, zf]
 refine ⟨fun hlt => ?_, fun hge => ?_⟩
 · have hil : i < 4 := by omega
   have hei : (([7, 8, 9, 10] : List Int).map kdC)[i]? = some (kdC ([7, 8, 9, 10] : List Int)[i]) := by rw [List.getElem?_map, List.getElem?_eq_getElem hil]; rfl
   have htk : ([7, 8, 9, 10] : List Int).take (i + 1) = ([7, 8, 9, 10] : List Int).take i ++ [([7, 8, 9, 10] : List Int)[i]] := List.take_succ_eq_append_getElem hil
   have hmem : ([7, 8, 9, 10] : List Int)[i] ∈ ([7, 8, 9, 10] : List Int) := List.getElem_mem hil
   generalize ([7, 8, 9, 10] : List Int)[i] = kd at hei htk hmem
   have hkd : kd ≠ 1000 := by
     rintro rfl
     simp at hmem
   obtain ⟨b2, o2, ha2, hcl2, _⟩ := sr6.el hei
   have c0 := hcl2 0 (by omega)
   rw [Nat.add_zero, show (kdC kd)[0]? = some (.int .u8 kd) from rfl] at c0
   rw [ha2, za, c0, za]
   refine files29 (h.ext x6) f6 hkd fun H7 s7 p7 e7 n7 q7 => ?_
   rw [Ys n7, za, zN, za, zf]
   refine ⟨fun hp => stop x6 e7 n7 (yG.1 hp) fun S => q7.2 (S.alone kd hmem), fun hp => ?_⟩
   rw [zk, za, zL, zw (by omega)]
   refine ⟨⟨e6.trans e7, i + 1, by omega, rfl, fun z hz => ?_⟩, by simp only [zC]; omega⟩
   rw [htk] at hz
   rcases List.mem_append.1 hz with h1 | h1
   · exact hal z h1
   · rw [List.mem_singleton.1 h1]; exact q7.1 (e0 hp)
 · have ei : i = 4 := by omega
   subst ei
   have hA : ∀ kd ∈ ([7, 8, 9, 10] : List Int), ∀ x ∈ fs, ¬ yL l kd x := hal
   refine wrongBits29 (h.ext x6) f6 hP fun H8 s8 p8 e8 n8 q8 => ?_
   have x8 := x6.trans e8
   have f8 := f6.ext e8
   rw [Ys n8, za, zN, za, zf]
   refine ⟨fun hp => stop x6 e8 n8 (yG.1 hp) fun S => q8.2 S.bits, fun hp => ?_⟩
   have hB := q8.1 (e0 hp)
   refine files29 (h.ext x8) f8 (by decide) fun H9 s9 p9 e9 n9 q9 => ?_
   have x9 := x8.trans e9
   have f9 := f8.ext e9
   rw [Ys n9, za, zN, za, zf]
   refine ⟨fun hp => stop x8 e9 n9 (yG.1 hp) fun S => q9.2 S.hole, fun hp => ?_⟩
   have hH := q9.1 (e0 hp)
   refine slotsC29 (h.ext x9) f9 hnd fun H10 s10 p10 e10 n10 q10 => ?_
   have x10 := x9.trans e10
   have f10 := f9.ext e10
   rw [Ys n10, za, zN, za, zf]
   refine ⟨fun hp => stop x9 e10 n10 (yG.1 hp) fun S => q10.2 S.slots, fun hp => ?_⟩
   have hS := q10.1 (e0 hp)
   refine names29 (h.ext x10) f10 hnd fun H11 nv e11 n11 => ?_
   have x11 := x10.trans e11
   have f11 := f10.ext e11
   have sn := n11.sv.sr
   have hnl := namesP_len l hnd
   have hfl := f11.len
   have hin := names_in gI1 hfs hS
   refine tree29 (h.ext x11) f11 hnd (fun x hx => by have := hfs.mem hx; omega) sn (by omega) hin fun H12 s12 p12 e12 n12 q12 => ?_
   have x12 := x11.trans e12
   rw [Ys n12, za, zN, za, zf]
   refine ⟨fun hp => stop x11 e12 n12 (yG.1 hp) fun S => q12.2 S.tree, fun hp => ?_⟩
   have hTr := q12.1 (e0 hp)
   refine links29 (f11.ext e12) (sn.ext e12) (by omega) fun H13 s13 p13 e13 n13 q13 => ?_
   exact k H13 s13 p13 15 fs (x12.trans e13) (n13.old x12.le) hfs ⟨fun e => ⟨hN, hP, hT, hA, hB, hH, hS, hTr, q13.1 e⟩, fun S => q13.2 S.links⟩
end
end Go.Vc
namespace Go.Vc
open Go.Proofs Classical
def a3 (f : Nat → Int) : Array Value := #[zm (f 0), zm (f 1), zm (f 2)]
theorem a3_get (f : Nat → Int) {i : Nat} (h : i < 3) : (a3 f)[i]? = some (zm (f i)) := by
 match i, h with
 | 0, _ => rfl
 | 1, _ => rfl
 | 2, _ => rfl
theorem a3_set (f : Nat → Int) {i : Nat} (h : i < 3) (v : Int) : (a3 f).setIfInBounds i (zm v) = a3 fun j => if j = i then v else f j := by
 match i, h with
 | 0, _ => rfl
 | 1, _ => rfl
 | 2, _ => rfl
theorem zero3 : zD Tryz.prog 252 = some (.agg (a3 fun _ => 0)) := by kernel_rfl
theorem buildGeo (a b c : Int) : zv Tryz.prog 23 [(0, zm a), (1, zm b), (2, zm c)] = some (.agg #[zm a, zm b, zm c]) := by kernel_rfl
section
variable {H : Hp} {R : Value → Hp → Prop} {d : Nat} {dv : Value} {B L I : Int} {l : List (Int × Blk)}
theorem whole05 (hB : 1 ≤ B ∧ B ≤ 1048576) (hrd : Sr 1025 H dv (l.map zS)) (hl : okL B (-1) l) (hlen : l.length ≤ 1048576) (k : ∀ H', Ext H H' → R (zm 0) H') : Fc Tryz.prog 147 #[.agg #[zm B, dv]] H R := by
 refine fn147 ?_
 simp only [sh147, Z0, zeroHeld, za, zu]
 refine (Lo.start _ H : Lx H H []).boxA fun b1 H1 _ l1 => ?_
 have d0 : (#[zm B, dv] : Array Value)[0]? = some (zm B) := rfl
 have d1 : (#[zm B, dv] : Array Value)[1]? = some dv := rfl
 have l1 : Lx H H1 [.box b1 #[zm B, dv] 81] := l1
 simp only [zh, Nat.zero_add, Nat.add_zero, za]
 refine zT.mk (fun t H' => H' = H1 ∧ t.1 = .bool false) ?_ ?_
 · rintro ⟨t, u⟩ H2 ⟨rfl, ht⟩
   simp only at ht
   subst ht
   rw [zl]
   refine l1.boxA fun b2 H3 _ l3 => ?_
   refine zz.mk (fun t H' => ∃ (i : Nat) (p : Int), i ≤ l.length ∧ t = (zm p, zm i, ()) ∧ okL B p (l.drop i) ∧ Lx H H' [.box b1 #[zm B, dv] 81, .box b2 zB 65])
     (fun t _ => mi t.2.1 fun i => (l.length - i).toNat) ⟨0, -1, by omega, rfl, hl, l3⟩ ?_
   rintro _ H4 ⟨i, p, hi, rfl, hdr, l4⟩
   have h4 := hrd.ext l4.ext0
   rw [l4.ld (i := 0) rfl, d1, za, h4.lenE yO, za, List.length_map, zt, za, zf]
   refine ⟨fun hlt => ?_, fun hge => k H4 l4.ext0⟩
   have hil : i < l.length := by omega
   have hei : (l.map zS)[i]? = some (zS l[i]) := by rw [List.getElem?_map, List.getElem?_eq_getElem hil]; rfl
   have hdrop : l.drop i = l[i] :: l.drop (i + 1) := List.drop_eq_getElem_cons hil
   generalize l[i] = x at hei hdrop
   rw [hdrop] at hdr
   obtain ⟨q1, q2, q3, q4, q5⟩ := hdr
   obtain ⟨b, o, ha, hcl, hrow⟩ := h4.el hei
   have hr := hrow 0 1025 (by omega)
   rw [Nat.add_zero, YX (c := zS x) (n := 1025) (ZC q4)] at hr
   rw [za, ha, za, hr, za]
   refine l4.boxA fun b3 H5 _ l5 => ?_
   refine l5.stAll (i := 2) rfl ZU (ZC q4) (heldC_ok q4) fun H6 l6 => ?_
   have l6 : Lx H H6 [.box b1 #[zm B, dv] 81, .box b2 zB 65, .box b3 (zS x) 149] := l6
   simp only [zh, Nat.zero_add, Nat.add_zero, za]
   refine zT.mk (fun t H' => H' = H6 ∧ t.1 = .bool false) ?_ ?_
   · rintro ⟨t, u⟩ H7 ⟨rfl, ht⟩
     simp only at ht
     subst ht
     rw [zl, l6.ld (i := 2) rfl, Yr, za, zk, za, zL, zw (by omega)]
     exact ⟨⟨i + 1, x.1, by omega, rfl, q5, l6.takeN 2⟩, by simp only [zC]; omega⟩
   · rw [l6.ld (i := 2) rfl, Yr, za, yT, za, decide_eq_false (by omega), zl, za, l6.ld (i := 0) rfl, d0, za, zY, za, decide_eq_false (by omega), zl]
     rw [Zj (l6.at (i := 2) rfl) (by rw [ZC q4]; omega), za, heldC_1 q4, l6.ldAll (i := 1) (n := 1024) rfl zI, za, eqXE_eql, eqB rowB q4 Zo, Option.map_some, za, decide_eq_false q3]
     exact ⟨rfl, rfl⟩
 · rw [l1.ld (i := 0) rfl, d0, za, zt, za, decide_eq_false (by omega), zl, za, zN, za, decide_eq_false (by omega)]
   exact ⟨rfl, rfl⟩
theorem dec3 (hg : Zn B L I) (k : ∀ H', Ext H H' → R (.tuple #[.agg (zq B L I).cells, zm 0]) H') : Fc Tryz.prog 149 #[.agg (ZO (zq B L I)), zm B] H R := by
 obtain ⟨gL1, gL2, gI1, gI2, gB1, gB2, gD⟩ := id hg
 have hnum : ∀ i, i < 3 → (leB (ZO (zq B L I)) (8 + 4 * i) 4 : Int) = numI (zq B L I) i := fun i hi => by
   have h1 := supN_num (zq B L I) 9 (by omega) i (by omega)
   have h2 := numI_ok hg i
   show ((leB (supN (zq B L I) 9) (8 + 4 * i) 4 : Nat) : Int) = _
   rw [h1]; omega
 have hb : IsB (ZO (zq B L I)) := YQ _ 9
 refine fn149 ?_
 simp only [sh149, yt, buildLay, zero3, Z0, za, zu]
 generalize hc : ZO (zq B L I) = c at hnum hb
 refine (Lo.start _ H : Lx H H []).boxA fun b1 H1 _ l1 => ?_
 refine l1.boxA fun b2 H2 _ l2 => ?_
 refine l2.boxA fun b3 H3 _ l3 => ?_
 refine zz.mk (fun t H' => ∃ (i : Nat) (f : Nat → Int), i ≤ 3 ∧ t = (zm i, ()) ∧ (∀ j, j < i → f j = numI (zq B L I) j) ∧ (∀ j, i ≤ j → f j = 0) ∧ Lx H H' [.box b1 c 65, .box b2 zLay 62, .box b3 (a3 f) 252])
   (fun t _ => mi t.1 fun i => (3 - i).toNat) ⟨0, fun _ => 0, by omega, rfl, fun j hj => by omega, fun j _ => rfl, l3⟩ ?_
 rintro _ H4 ⟨i, f, hi, rfl, hf1, hf2, l4⟩
 rw [zt, za, zf]
 refine ⟨fun hlt => ?_, fun hge => ?_⟩
 · refine zz.mk (fun t H' => ∃ (j : Nat), j ≤ 4 ∧ t = (zm (3 - (j : Int)), ()) ∧ Lx H H' [.box b1 c 65, .box b2 zLay 62, .box b3 (a3 fun z => if z = i then (leB c (8 + 4 * i + (4 - j)) j : Nat) else f z) 252])
     (fun t _ => mi t.1 fun x => (x + 1).toNat) ⟨0, by omega, rfl, by
       have e : (fun z => if z = i then ((leB c (8 + 4 * i + (4 - 0)) 0 : Nat) : Int) else f z) = f := by
         funext z
         by_cases hz : z = i
         · rw [if_pos hz, hf2 z (by omega)]; rfl
         · rw [if_neg hz]
       rw [e]; exact l4⟩ ?_
   rintro _ H5 ⟨j, hj, rfl, l5⟩
   have hv := leB_lt (c := c) hb.lt j (8 + 4 * i + (4 - j))
   have hv2 : 256 ^ j ≤ 256 ^ 4 := Nat.pow_le_pow_right (by omega) hj
   generalize hv3 : leB c (8 + 4 * i + (4 - j)) j = v at hv l5
   rw [zY, za, zf]
   refine ⟨fun hge => ?_, fun hlt2 => ?_⟩
   · have hv4 : 256 ^ j ≤ 256 ^ 3 := Nat.pow_le_pow_right (by omega) (by omega)
     rw [zF (by omega), za, Nat.zero_add, Nat.mul_one, l5.ld (i := 2) rfl, a3_get _ (by omega), if_pos rfl, za, zX, za, zg (x := 256 * (v : Int)) (by omega) (by omega), zX, za, zg (x := 4 * (i : Int)) (by omega) (by omega), zk, za, zg (by omega) (by omega), zk, za, zg (by omega) (by omega), show ((8 : Int) + 4 * (i : Int) + (3 - (j : Int))) = ((8 + 4 * i + (3 - j) : Nat) : Int) by omega, zF (by omega), za, Nat.zero_add, Nat.mul_one, l5.ld (i := 0) rfl, hb.get (by omega), za, zE, za]
     have hbl := hb.lt (8 + 4 * i + (3 - j))
     rw [zw (by omega), zk, za, zg (by omega) (by omega), za]
     refine l5.st (i := 2) (j := i) (v := zm (256 * (v : Int) + (byt c (8 + 4 * i + (3 - j)) : Int))) rfl (by show i < 3; omega) rfl rfl fun H6 l6 => ?_
     rw [zU, za, zg (by omega) (by omega)]
     refine ⟨⟨j + 1, by omega, ?_, ?_⟩, by simp only [zC]; omega⟩
     · rw [show (3 - (j : Int) - 1) = 3 - ((j + 1 : Nat) : Int) by omega]; rfl
     · have e1 : leB c (8 + 4 * i + (4 - (j + 1))) (j + 1) = byt c (8 + 4 * i + (3 - j)) + 256 * v := by
         show byt c (8 + 4 * i + (4 - (j + 1))) + 256 * leB c (8 + 4 * i + (4 - (j + 1)) + 1) j = _
         rw [show 8 + 4 * i + (4 - (j + 1)) + 1 = 8 + 4 * i + (4 - j) by omega, hv3, show 8 + 4 * i + (4 - (j + 1)) = 8 + 4 * i + (3 - j) by omega]
       rw [a3_set _ (by omega)] at l6
       have e2 : (fun z => if z = i then 256 * (v : Int) + (byt c (8 + 4 * i + (3 - j)) : Int) else if z = i then (v : Int) else f z) = fun z => if z = i then ((leB c (8 + 4 * i + (4 - (j + 1))) (j + 1) : Nat) : Int) else f z := by
         funext z
         by_cases hz : z = i
         · rw [if_pos hz, if_pos hz, e1]; omega
         · rw [if_neg hz, if_neg hz, if_neg hz]
       rw [← e2]; exact l6
   · have ej : j = 4 := by omega
     subst ej
     rw [Nat.sub_self, Nat.add_zero] at hv3
     rw [zk, za, zL, zw (by omega)]
     refine ⟨⟨i + 1, _, by omega, rfl, fun z hz => ?_, fun z hz => ?_, l5⟩, by simp only [zC]; omega⟩
     · by_cases e : z = i
       · simp only [e, if_true]
         rw [← hv3]; exact hnum i (by omega)
       · simp only [e, if_false]; exact hf1 z (by omega)
     · simp only [show z ≠ i by omega, if_false]; exact hf2 z (by omega)
 · have ei : i = 3 := by omega
   subst ei
   have e0 : f 0 = B := hf1 0 (by omega)
   have e1 : f 1 = L := hf1 1 (by omega)
   have e2 : f 2 = I := hf1 2 (by omega)
   have a0 : ∀ {k : IntKind}, zi (some (some 3, 1)) (.pointer (some ⟨b3, 0, none⟩)) (.int k 0) = some (.pointer (some ⟨b3, 0, none⟩)) := fun {k} => by
     have := @zF 3 1 b3 0 0 k (by omega)
     simpa using this
   have a1 : ∀ {k : IntKind}, zi (some (some 3, 1)) (.pointer (some ⟨b3, 0, none⟩)) (.int k 1) = some (.pointer (some ⟨b3, 1, none⟩)) := fun {k} => by
     have := @zF 3 1 b3 0 1 k (by omega)
     simpa using this
   have a2 : ∀ {k : IntKind}, zi (some (some 3, 1)) (.pointer (some ⟨b3, 0, none⟩)) (.int k 2) = some (.pointer (some ⟨b3, 2, none⟩)) := fun {k} => by
     have := @zF 3 1 b3 0 2 k (by omega)
     simpa using this
   rw [a0, za, l4.ld (i := 2) rfl, a3_get f (by omega), za, a1, za, l4.ld (i := 2) rfl, a3_get f (by omega), za, a2, za, l4.ld (i := 2) rfl, a3_get f (by omega), za, e0, e1, e2, buildGeo, za]
   refine of3 (by omega) (fun H5 e5 _ => ?_) (fun H5 e5 hno => absurd hg hno)
   rw [show ze (.tuple #[.agg (zq B L I).cells, .int .i64 0]) 0 = some (.agg (zq B L I).cells) from rfl, za, show ze (.tuple #[.agg (zq B L I).cells, .int .i64 0]) 1 = some (zm 0) from rfl, za]
   refine (l4.ext e5).boxA fun b4 H6 _ l6 => ?_
   refine l6.stAll (i := 3) rfl rfl (Lay.size _) (Lay.cok _) fun H7 l7 => ?_
   rw [l7.ldAll (i := 3) (n := 9) rfl (Lay.size _), za]
   refine enc3 (by omega) hg fun H8 e8 => ?_
   rw [hc, show ze (.tuple #[.agg c, zm 0]) 0 = some (.agg c) from rfl, za, show ze (.tuple #[.agg c, zm 0]) 1 = some (zm 0) from rfl, za]
   refine (l7.ext e8).boxA fun b5 H9 _ l9 => ?_
   refine l9.stAll (i := 4) rfl zI hb.size hb.ok fun H10 l10 => ?_
   have l10 : Lx H H10 [.box b1 c 65, .box b2 zLay 62, .box b3 (a3 f) 252, .box b4 (zq B L I).cells 62, .box b5 c 65] := l10
   refine zT.mk (fun t H' => H' = H10 ∧ t.1 = .bool false) ?_ ?_
   · rintro ⟨t, u⟩ H11 ⟨rfl, ht⟩
     simp only at ht
     subst ht
     rw [zl, l10.ldAll (i := 3) (n := 9) rfl (Lay.size _), za]
     exact l10.ret (i := 1) (K := fun x H4 => R (.tuple #[x, zm 0]) H4) rfl rfl (Lay.size _) (Lay.cok _) fun H' l' => k H' l'.ext0
   · rw [zx, za, decide_eq_false (by omega), zl, za, zl, l10.ldAll (i := 4) (n := 1024) rfl hb.size, za, l10.ldAll (i := 0) (n := 1024) rfl hb.size, za, yS, eqB rowB hb hb, Option.map_some, za]
     simp only [decide_true, Bool.not_true, zl]
     rw [za, l10.ld (i := 2) rfl, a3_get f (by omega), za, e0, zN, za, decide_eq_false (by omega)]
     exact ⟨trivial, rfl⟩
end
end Go.Vc
namespace Go.Vc
open Go.Proofs Classical
theorem buildDisk (B B' L I a b c d e f : Int) (x : Option Addr) (n m : Nat) : zv Tryz.prog 188 [(0, .agg #[zm B, .slice x n m]), (1, .agg (Lay.cells ⟨B', L, I, a, b, c, d, e, f⟩)), (2, .agg zHd)] = some (.agg #[zm B, .slice x n m, zm B', zm L, zm I, zm a, zm b, zm c, zm d, zm e, zm f, .slice none 0 0]) := by kernel_rfl
theorem zHd_ok : zG zHd := by unfold zG; rw [← Array.all_toList]; rfl
section
variable {H : Hp} {R : Value → Hp → Prop} {d : Nat} {dv : Value} {B L I : Int} {l : List (Int × Blk)}
theorem inside1 {a : Int} (k : R (.bool (decide (0 ≤ a ∧ a < 1024))) H) : Fc Tryz.prog 198 #[zm a] H R := by
 refine fn198 ?_
 simp only [sh198]
 rw [zY, za, zf]
 refine ⟨fun h => ?_, fun h => ?_⟩
 · rw [zt, za, show decide (a < 1024) = decide (0 ≤ a ∧ a < 1024) from dec_dec ⟨fun e => ⟨h, e⟩, fun e => e.2⟩]; exact k
 · rw [show decide (0 ≤ a ∧ a < 1024) = false from decide_eq_false fun e => h e.1] at k; exact k
theorem u32z (k : ∀ H', Ext H H' → R (.int .u32 0) H') : Fc Tryz.prog 172 #[.agg zB, zm 0] H R := by
 refine fn172 ?_
 simp only [sh172]
 refine (Lo.start _ H : Lx H H []).boxA fun b1 H1 _ l1 => ?_
 rw [l1.ldAll (i := 0) (n := 1024) rfl zI, za]
 refine fn193 ?_
 simp only [sh193, zu]
 refine l1.boxA fun b2 H2 _ l2 => ?_
 refine zT.mk (fun t H' => H' = H2 ∧ t.1 = .bool false) ?_ ?_
 · rintro ⟨t, u⟩ H3 ⟨rfl, ht⟩
   simp only at ht
   subst ht
   rw [zl, zU, za, zg (by omega) (by omega)]
   refine zz.mk (fun t H' => H' = H3 ∧ ∃ j : Nat, j ≤ 4 ∧ t = (.int .u32 0, zm (3 - (j : Int)), ())) (fun t _ => mi t.2.1 fun x => (x + 1).toNat) ⟨rfl, 0, by omega, rfl⟩ ?_
   rintro _ H4 ⟨rfl, j, hj, rfl⟩
   rw [zY, za, zf]
   refine ⟨fun hge => ?_, fun hlt => k _ l2.ext0⟩
   rw [zX, za, Zl (by omega) (by omega), zk, za, zg (by omega) (by omega), show (0 : Int) + (3 - (j : Int)) = ((3 - j : Nat) : Int) by omega, zF (by omega), za, Nat.zero_add, Nat.mul_one, l2.ld (i := 1) rfl, zB_get (by omega), za, zE, za, Zl (by omega) (by omega), zk, za, Zl (by omega) (by omega), zU, za, zg (by omega) (by omega)]
   refine ⟨⟨rfl, j + 1, by omega, ?_⟩, by simp only [zC]; omega⟩
   rw [show (3 - (j : Int) - 1) = 3 - ((j + 1 : Nat) : Int) by omega]; rfl
 · refine inside1 ?_
   rw [decide_eq_true (by omega), zM, za, Bool.not_true, zl, zk, za, zg (by omega) (by omega), zU, za, zg (by omega) (by omega)]
   refine inside1 ?_
   rw [decide_eq_true (by omega), zM, za, Bool.not_true]
   exact ⟨rfl, rfl⟩
theorem may7 {x : Lay} (hL : 1 ≤ x.L ∧ x.L ≤ 9223372036854775807) (k : ∀ H', Ext H H' → R (.bool true) H') : Fc Tryz.prog 173 #[.agg x.cells, .agg zHd] H R := by
 refine fn173 ?_
 simp only [sh173, zu]
 refine (Lo.start _ H : Lx H H []).boxA fun b1 H1 _ l1 => ?_
 refine l1.boxA fun b2 H2 _ l2 => ?_
 have z0 : zHd[0]? = some (.slice none 0 0) := rfl
 have x1 : x.cells[1]? = some (zm x.L) := rfl
 simp only [zh, Nat.zero_add, Nat.add_zero, za]
 rw [l2.ld (i := 1) rfl, z0, za, lenNilInts, za, l2.ld (i := 0) rfl, x1, za, zU, za, zg (by omega) (by omega), zN, za, decide_eq_false (by omega), zl]
 refine zz.mk (fun t H' => H' = H2 ∧ t = (zm 0, ())) (fun _ _ => 0) ⟨rfl, rfl⟩ ?_
 rintro _ H3 ⟨rfl, rfl⟩
 rw [l2.ld (i := 1) rfl, z0, za, lenNilInts, za, zt, za, decide_eq_false (by omega), zl]
 exact k _ l2.ext0
theorem dec7 (hg : Zn B L I) (k : ∀ H', Ext H H' → R (.tuple #[.agg zHd, zm 0]) H') : Fc Tryz.prog 133 #[.agg (zq B L I).cells, .agg zB] H R := by
 obtain ⟨gL1, gL2, gI1, gI2, gB1, gB2, gD⟩ := id hg
 have c1 : (zq B L I).cells[1]? = some (zm L) := rfl
 refine fn133 ?_
 simp only [sh133, zeroHd, za, zu]
 refine (Lo.start _ H : Lx H H []).boxA fun b1 H1 _ l1 => ?_
 refine l1.boxA fun b2 H2 _ l2 => ?_
 refine l2.boxA fun b3 H3 _ l3 => ?_
 rw [l3.ldAll (i := 0) (n := 9) rfl (Lay.size _), za]
 refine fits3 (by omega) hg fun H4 e4 => ?_
 have l4 := l3.ext e4
 rw [zM, za, Bool.not_true, zl, l4.ldAll (i := 1) (n := 1024) rfl zI, za]
 refine u32z fun H5 e5 => ?_
 have l5 := l4.ext e5
 rw [zE, za, zg (by omega) (by omega), zh, za, zh, za, Nat.zero_add, l5.ld (i := 0) rfl, c1, za, zU, za, zg (by omega) (by omega), zN, za, decide_eq_false (by omega), zl]
 refine l5.boxA fun b6 H6 _ l6 => ?_
 refine zz.mk (fun t H' => H' = H6 ∧ t = (zm 0, ())) (fun _ _ => 0) ⟨rfl, rfl⟩ ?_
 rintro _ H7 ⟨rfl, rfl⟩
 rw [zt, za, decide_eq_false (by omega), zl, l6.ldAll (i := 0) (n := 9) rfl (Lay.size _), za, l6.ldAll (i := 3) (n := 1) rfl rfl, za]
 refine may7 (x := zq B L I) (show 1 ≤ L ∧ L ≤ 9223372036854775807 by omega) fun H8 e8 => ?_
 have l8 := l6.ext e8
 rw [zM, za, Bool.not_true, zl, l8.ldAll (i := 3) (n := 1) rfl rfl, za]
 exact l8.ret (i := 2) (K := fun x H4 => R (.tuple #[x, zm 0]) H4) rfl rfl rfl zHd_ok fun H' l' => k H' l'.ext0
structure ImOk (H : Hp) (dv : Value) (B L I : Int) (l : List (Int × Blk)) : Prop where
 rd : Sr 1025 H dv (l.map zS)
 whole : okL B (-1) l
 is : ∀ x ∈ l, IsB x.2
 len : l.length ≤ 1048576
 ok : Zn B L I
 sup : Zi l 0 = ZO (zq B L I)
 hd : Zi l 1 = zB
set_option maxHeartbeats 1000000 in
theorem open29 (h : ImOk H dv B L I l) (k : ∀ H' d, Ext H H' → Lk H' d dv B L I l → R (.tuple #[z7 d, .slice none 0 0]) H') : Fc Tryz.prog 116 #[.agg #[zm B, dv]] H R := by
 obtain ⟨gL1, gL2, gI1, gI2, gB1, gB2, gD⟩ := id h.ok
 have hsup : IsB (ZO (zq B L I)) := YQ _ 9
 obtain ⟨vb, vc, ev⟩ := h.rd.len
 have d0 : (#[zm B, dv] : Array Value)[0]? = some (zm B) := rfl
 have c3 : (zq B L I).cells[3]? = some (zm 1) := rfl
 refine fn116 ?_
 simp only [sh116, zu]
 refine (Lo.start _ H : Lx H H []).boxA fun b1 H1 _ l1 => ?_
 have l1 : Lx H H1 [.box b1 #[zm B, dv] 81] := l1
 rw [l1.ldAll (i := 0) (n := 2) rfl rfl, za]
 refine whole05 ⟨gB1, gB2⟩ (h.rd.ext l1.ext0) h.whole h.len fun H2 e2 => ?_
 have l2 := l1.ext e2
 rw [zx, za, decide_eq_false (by omega), zl, l2.ldAll (i := 0) (n := 2) rfl rfl, za]
 refine ⟨.agg (ZO (zq B L I)), fun H'' e'' => at05 (h.rd.ext (l2.ext0.trans e'')) h.is h.len fun H3 e3 => ⟨by rw [h.sup], e3⟩, ?_⟩
 rw [zh, za, Nat.zero_add, l2.ld (i := 0) rfl, d0, za]
 have x3 : ∀ {a b : Value}, ze (.tuple #[a, b]) 0 = some a := rfl
 have x4 : ∀ {a b : Value}, ze (.tuple #[a, b]) 1 = some b := rfl
 have fin : ∀ {H' : Hp} {b2 b3 : Nat}, Lx H H' [.box b1 #[zm B, dv] 81, .box b2 (zq B L I).cells 62, .box b3 zHd 151] →
     Pu (zb (some (some 2)) (z7 b1) H') fun x77 => Pu (zb (some (some 9)) (z7 b2) H') fun x78 => Pu (zb (some (some 1)) (z7 b3) H') fun x79 => Pu (zv Tryz.prog 188 [(0, x77), (1, x78), (2, x79)]) fun x80 => Box 188 x80 H' fun x81 H55 => R (.tuple #[x81, (.slice none 0 0)]) H55 := by
   intro H' b2 b3 l3
   rw [l3.ldAll (i := 0) (n := 2) rfl rfl, za, l3.ldAll (i := 1) (n := 9) rfl (Lay.size _), za, l3.ldAll (i := 2) (n := 1) rfl rfl, za]
   subst ev
   unfold zq
   rw [buildDisk, za]
   refine l3.boxA fun d H4 e4 l4 => ?_
   exact k H4 d l4.ext0 ⟨l4.at (i := 3) rfl, h.rd.ext l4.ext0, h.is, h.len, h.ok⟩
 have qz : ∀ {H' : Hp}, Ext H H' → QC true Tryz.prog 150 #[.agg #[zm B, dv], zm 1] H' (.agg zB) := fun e H'' e'' => at05 (h.rd.ext (e.trans e'')) h.is h.len fun H3 e3 => ⟨by rw [h.hd], e3⟩
 refine ⟨?_, ?_, trivial⟩
 · rw [zp]
   intro H3 e3
   refine dec3 h.ok fun H4 e4 => ?_
   rw [x3, za, x4, za, zp]
   intro H5 e5
   rw [yt, za]
   refine (((l2.ext e3).ext e4).ext e5).boxA fun b2 H6 _ l6 => ?_
   rw [zp]
   intro H7 e7
   refine (l6.ext e7).stAll (i := 1) (n := 9) rfl rfl (Lay.size _) (Lay.cok _) fun H8 l8 => ?_
   rw [zp]
   intro H9 e9
   have l9 : Lx H H9 [.box b1 #[zm B, dv] 81, .box b2 (zq B L I).cells 62] := l8.ext e9
   rw [zx, za, decide_eq_false (by omega), zl, l9.ldAll (i := 1) (n := 9) rfl (Lay.size _), za, l9.ldAll (i := 0) (n := 2) rfl rfl, za, zh, za, Nat.zero_add, l9.ld (i := 1) rfl, c3, za]
   refine ⟨_, qz l9.ext0, ?_⟩
   refine ⟨?_, ?_, trivial⟩
   · rw [zp]
     intro K1 f1
     refine dec7 h.ok fun K2 f2 => ?_
     rw [x3, za, x4, za, zp]
     intro K3 f3
     rw [zeroHd, za]
     refine (((l9.ext f1).ext f2).ext f3).boxA fun b3 K4 _ l10 => ?_
     rw [zp]
     intro K5 f5
     refine (l10.ext f5).stAll (i := 2) (n := 1) rfl rfl rfl zHd_ok fun K6 l11 => ?_
     rw [zp]
     intro K7 f7
     rw [zx, za, decide_eq_false (by omega), zl]
     exact fin (l11.ext f7)
   · rw [zp]
     intro K1 f1
     rw [zeroHd, za]
     refine (l9.ext f1).boxA fun b3 K2 _ l10 => ?_
     rw [zp]
     intro K3 f3
     refine dec7 h.ok fun K4 f4 => ?_
     rw [x3, za, x4, za, zp]
     intro K5 f5
     refine (((l10.ext f3).ext f4).ext f5).stAll (i := 2) (n := 1) rfl rfl rfl zHd_ok fun K6 l11 => ?_
     rw [zp]
     intro K7 f7
     rw [zx, za, decide_eq_false (by omega), zl]
     exact fin (l11.ext f7)
 · rw [zp]
   intro H3 e3
   rw [yt, za]
   refine (l2.ext e3).boxA fun b2 H4 _ l4 => ?_
   rw [zp]
   intro H5 e5
   refine dec3 h.ok fun H6 e6 => ?_
   rw [x3, za, x4, za, zp]
   intro H7 e7
   refine (((l4.ext e5).ext e6).ext e7).stAll (i := 1) (n := 9) rfl rfl (Lay.size _) (Lay.cok _) fun H8 l8 => ?_
   rw [zp]
   intro H9 e9
   have l9 : Lx H H9 [.box b1 #[zm B, dv] 81, .box b2 (zq B L I).cells 62] := l8.ext e9
   rw [zx, za, decide_eq_false (by omega), zl, l9.ldAll (i := 1) (n := 9) rfl (Lay.size _), za, l9.ldAll (i := 0) (n := 2) rfl rfl, za, zh, za, Nat.zero_add, l9.ld (i := 1) rfl, c3, za]
   refine ⟨_, qz l9.ext0, ?_⟩
   refine ⟨?_, ?_, trivial⟩
   · rw [zp]
     intro K1 f1
     refine dec7 h.ok fun K2 f2 => ?_
     rw [x3, za, x4, za, zp]
     intro K3 f3
     rw [zeroHd, za]
     refine (((l9.ext f1).ext f2).ext f3).boxA fun b3 K4 _ l10 => ?_
     rw [zp]
     intro K5 f5
     refine (l10.ext f5).stAll (i := 2) (n := 1) rfl rfl rfl zHd_ok fun K6 l11 => ?_
     rw [zp]
     intro K7 f7
     rw [zx, za, decide_eq_false (by omega), zl]
     exact fin (l11.ext f7)
   · rw [zp]
     intro K1 f1
     rw [zeroHd, za]
     refine (l9.ext f1).boxA fun b3 K2 _ l10 => ?_
     rw [zp]
     intro K3 f3
     refine dec7 h.ok fun K4 f4 => ?_
     rw [x3, za, x4, za, zp]
     intro K5 f5
     refine (((l10.ext f3).ext f4).ext f5).stAll (i := 2) (n := 1) rfl rfl rfl zHd_ok fun K6 l11 => ?_
     rw [zp]
     intro K7 f7
     rw [zx, za, decide_eq_false (by omega), zl]
     exact fin (l11.ext f7)
end
end Go.Vc
namespace Go.Vc
open Go.Proofs Classical
abbrev Ei := Itm × Value × Value
def iN (e : Ei) : Nel := ⟨Yy e.1 e.2.1 e.2.2, [⟨e.2.1, 149, 1025, e.1.data.map zS⟩, ⟨e.2.2, 241, 2, e.1.slots.map ZS⟩]⟩
def stC (iv : Value) (f s : Int) : Array Value := #[iv, zm f, zm s]
theorem zeroSt : zD Tryz.prog 26 = some (.agg (stC (.slice none 0 0) 0 0)) := by kernel_rfl
theorem buildSt0 : zv Tryz.prog 26 [] = some (.agg (stC (.slice none 0 0) 0 0)) := by kernel_rfl
theorem buildSt (a b : Int) : zv Tryz.prog 26 [(1, zm a), (2, zm b)] = some (.agg (stC (.slice none 0 0) a b)) := by kernel_rfl
theorem stC_ok {b : Option Addr} {n c : Nat} {f s : Int} : zG (stC (.slice b n c) f s) := by unfold zG; rw [← Array.all_toList]; rfl
noncomputable def eItm : ZN := orE (zK Tryz.prog 24)
set_option maxRecDepth 100000 in
theorem elItm : zK Tryz.prog 24 = some eItm := by kernel_rfl
set_option maxRecDepth 100000 in
theorem eItm_f : eItm.type = 142 ∧ eItm.size = 7 ∧ eItm.zero.size = 7 ∧ eItm.bytes = 88 := ⟨by kernel_rfl, by kernel_rfl, by kernel_rfl, by kernel_rfl⟩
noncomputable def idsP (B L I : Int) (l : List (Int × Blk)) (n : Nat) : List Nat := ((List.range n).map (· + 1)).filter fun i => decide (Yh B L I l i 0 ≠ 0)
noncomputable def itI (B L I : Int) (l : List (Int × Blk)) (i : Nat) : Itm := itP l ⟨i, Yh B L I l i, .bool false, yY B L I l (Yh B L I l i)⟩
theorem FlsOk.its {B L I : Int} {l : List (Int × Blk)} {n : Nat} {fs : List Fl} (h : FlsOk B L I l n fs) : fs.map (itP l) = (idsP B L I l n).map (itI B L I l) := by
 have e : idsP B L I l n = fs.map (·.i) := h.ids.symm
 rw [e, List.map_map]
 refine List.map_congr_left fun x hx => ?_
 obtain ⟨h1, h2⟩ := h.is x hx
 obtain ⟨i, f, v, sp⟩ := x
 simp only at h1 h2
 subst h1
 subst h2
 rfl
theorem FlsOk.blks {B L I : Int} {l : List (Int × Blk)} {n : Nat} {fs : List Fl} (h : FlsOk B L I l n fs) : Za fs = (idsP B L I l n).flatMap fun i => (yY B L I l (Yh B L I l i)).map (·.2) := by
 have e : idsP B L I l n = fs.map (·.i) := h.ids.symm
 have key : ∀ gs : List Fl, (∀ x ∈ gs, x ∈ fs) → Za gs = (gs.map (·.i)).flatMap fun i => (yY B L I l (Yh B L I l i)).map (·.2) := by
   intro gs
   induction gs with
   | nil => intro _; rfl
   | cons x r ih =>
     intro hg
     obtain ⟨h1, h2⟩ := h.is x (hg x (List.mem_cons_self ..))
     have e1 : Za (x :: r) = x.sp.map (·.2) ++ Za r := by simp [Za]
     rw [e1, ih fun y hy => hg y (List.mem_cons_of_mem _ hy), List.map_cons, List.flatMap_cons, h2, h1]
 rw [e]; exact key fs fun x hx => hx
theorem FlsOk.lenI {B L I : Int} {l : List (Int × Blk)} {n : Nat} {fs : List Fl} (h : FlsOk B L I l n fs) : fs.length = (idsP B L I l n).length := by
 have e : idsP B L I l n = fs.map (·.i) := h.ids.symm
 rw [e, List.length_map]
section
variable {H : Hp} {R : Value → Hp → Prop} {d : Nat} {dv : Value} {B L I : Int} {l : List (Int × Blk)}
theorem st_at {H H' : Hp} {iv : Value} {es : List Ei} (h : New H H' (.nest 142 7 iv (es.map iN))) : StAt H' iv (es.map (·.1)) := by
 refine ⟨es.map fun e => Yy e.1 e.2.1 e.2.2, ?_, by simp, fun i t ht => ?_⟩
 · have := h.nest_sv.sr
   rw [List.map_map] at this
   exact this
 · rw [List.getElem?_map] at ht
   cases he : es[i]? with
   | none => rw [he] at ht; cases ht
   | some e =>
     rw [he] at ht
     injection ht with ht
     have hm : iN e ∈ es.map iN := List.mem_map.2 ⟨e, List.mem_of_getElem? he, rfl⟩
     refine ⟨e.2.1, e.2.2, by rw [List.getElem?_map, he, ← ht]; rfl, ?_, ?_⟩
     · rw [← ht]; exact (h.nest_sub _ hm _ (List.mem_cons_self ..)).sr
     · rw [← ht]; exact (h.nest_sub _ hm _ (List.mem_cons_of_mem _ (List.mem_cons_self ..))).sr
set_option maxHeartbeats 1000000 in
theorem look29 (h : ImOk H dv B L I l)
   (kbad : ∀ H' s' (n : Nat) fs, Ext H H' → n ≠ 0 → lenE Tryz.prog 131 s' = some (zm n) → FlsOk B L I l I.toNat fs → ¬ Sound B L I l fs → R (.tuple #[.agg (stC (.slice none 0 0) 0 0), s']) H')
   (k : ∀ H' iv (es : List Ei) fs, Ext H H' → FlsOk B L I l I.toNat fs → Sound B L I l fs → es.map (·.1) = fs.map (itP l) → New H H' (.nest 142 7 iv (es.map iN)) → R (.tuple #[.agg (stC iv (B - (zq B L I).dataAt - ((Za fs).length : Nat)) (I - (fs.length : Nat))), .slice none 0 0]) H') :
   Fc Tryz.prog 74 #[.agg #[zm B, dv]] H R := by
 obtain ⟨gL1, gL2, gI1, gI2, gB1, gB2, gD⟩ := id h.ok
 have hDA : (zq B L I).dataAt = 1 + L + (I + 16) / 16 + (B + 8191) / 8192 := rfl
 have hBB : (zq B L I).B = B := rfl
 have hII : (zq B L I).I = I := rfl
 have x3 : ∀ {a b : Value}, ze (.tuple #[a, b]) 0 = some a := rfl
 have x4 : ∀ {a b : Value}, ze (.tuple #[a, b]) 1 = some b := rfl
 refine fn74 ?_
 simp only [sh74, zeroSt, buildSt0, za, zu]
 refine (Lo.start _ H : Lx H H []).boxA fun b1 H1 _ l1 => ?_
 refine l1.boxA fun b2 H2 _ l2 => ?_
 have l2 : Lx H H2 [.box b1 #[zm B, dv] 81, .box b2 (stC (.slice none 0 0) 0 0) 26] := l2
 rw [l2.ldAll (i := 0) (n := 2) rfl rfl, za]
 have hx : ∀ {H'}, Ext H H' → ImOk H' dv B L I l := fun e => ⟨h.rd.ext e, h.whole, h.is, h.len, h.ok, h.sup, h.hd⟩
 refine open29 (hx l2.ext0) fun H3 d e3 lk => ?_
 have l3 := l2.ext e3
 rw [x3, za, x4, za, show yr Tryz.prog 181 true .eql (z7 d) (.pointer none) H3 = some (.bool false) from Yc (e := 188) (by kernel_rfl), za, zl]
 refine wrongs29 lk fun H4 s4 ps kd fs e4 n4 hfs q4 => ?_
 have l4 := l3.ext e4
 rw [Ys n4, za, zN, za, zf]
 refine ⟨fun hp => ?_, fun hp => ?_⟩
 · have hne := yG.1 hp
   refine l4.ret (i := 1) (K := fun x H4 => R (.tuple #[x, s4]) H4) rfl rfl rfl stC_ok fun H' l' => kbad H' s4 ps.length fs l'.ext0 ?_ (Ys n4) hfs fun S => hne (q4.2 S)
   rintro e
   exact hne (List.length_eq_zero_iff.1 e)
 · have hs := q4.1 (Classical.not_not.1 fun e => hp (yG.2 e))
   refine lk_files (lk.ext e4) fun H5 fv fs2 e5 n5 hfs2 => ?_
   have hf5 := files_fr (lk.ext e4) (by omega) hfs2 n5
   have lk5 := (lk.ext e4).ext e5
   have l5 := l4.ext e5
   have hfl := hf5.len
   have hbl := blksP_len hf5.few
   simp only [zc, zh, Nat.zero_add, Nat.add_zero, Nat.reduceAdd, za]
   rw [zo lk5.top, lkC2, za, zo lk5.top, lkC10, za, zU, za, zo lk5.top, lkC4, za, hf5.row.lenE yA, za, List.length_map, zU, za, hBB, hII, zg (x := B - (zq B L I).dataAt) (by omega) (by omega), zg (x := I - (fs2.length : Int)) (by omega) (by omega), buildSt, za, zp]
   intro H6 e6
   refine ((Lo.start _ H5 : Lx H5 H5 []).ext e6).boxA fun b3 H7 _ l7 => ?_
   rw [zp]
   intro H8 e8
   refine (l7.ext e8).stAll (i := 0) (n := 3) rfl rfl rfl stC_ok fun H9 l9 => ?_
   rw [zp]
   intro H10 e10
   have l10 := (l9.ext e10).new (Ext.refl _) (New.nilN H10 142 7)
   have s0 : ∀ {iv : Value} {f s : Int}, (stC iv f s)[0]? = some iv := rfl
   have s1 : ∀ {iv : Value} {f s : Int}, (stC iv f s)[1]? = some (zm f) := rfl
   refine zz.mk (fun t H' => ∃ (i : Nat) (iv : Value) (es : List Ei), i ≤ fs2.length ∧ t = (zm i, ()) ∧ es.map (·.1) = (fs2.take i).map (itP l) ∧ Lx H5 H' [.box b3 (stC iv (B - (zq B L I).dataAt - ((Za (fs2.take i)).length : Nat)) (I - (fs2.length : Nat))) 26, .nest 142 7 iv (es.map iN)])
     (fun t _ => mi t.1 fun i => (fs2.length - i).toNat) ⟨0, .slice none 0 0, [], by omega, rfl, rfl, by
       have e0 : B - (zq B L I).dataAt - ((Za (fs2.take 0)).length : Nat) = B - (zq B L I).dataAt := by simp [Za]
       rw [e0]; exact l10⟩ ?_
   rintro _ H11 ⟨i, iv, es, hi, rfl, hes, l11⟩
   have hf11 := hf5.ext l11.ext0
   have lk11 := lk5.ext l11.ext0
   rw [za, zt, za, zf]
   refine ⟨fun hlt => ?_, fun hge => ?_⟩
   · have hil : i < fs2.length := by omega
     have hei : (fs2.map flC)[i]? = some (flC fs2[i]) := by rw [List.getElem?_map, List.getElem?_eq_getElem hil]; rfl
     have htk : fs2.take (i + 1) = fs2.take i ++ [fs2[i]] := List.take_succ_eq_append_getElem hil
     have hmem : fs2[i] ∈ fs2 := List.getElem_mem hil
     have hpl := blksP_len (fs := fs2.take i) fun y hy => hf5.few y (List.mem_of_mem_take hy)
     rw [List.length_take] at hpl
     have hel : es.length ≤ i := by
       have := congrArg List.length hes
       rw [List.length_map, List.length_map, List.length_take] at this; omega
     generalize fs2[i] = x at hei htk hmem
     have hbt : (Za (fs2.take (i + 1))).length = (Za (fs2.take i)).length + x.sp.length := by rw [htk, blksP_app, blksP_one, List.length_append, List.length_map]
     have hfew := hf5.few x hmem
     obtain ⟨bv, cv, exv⟩ := (hf5.sub x hmem).len
     obtain ⟨b, o, ha, hcl, hrow⟩ := hf11.row.el hei
     have hr := hrow 0 18 (by omega)
     rw [Nat.add_zero, YX (c := flC x) (n := 18) rfl] at hr
     refine zT.mk (fun _ H' => ∃ (iv' : Value) (e : Ei), e.1 = itP l x ∧ Lx H5 H' [.box b3 (stC iv' (B - (zq B L I).dataAt - ((Za (fs2.take i)).length : Nat)) (I - (fs2.length : Nat))) 26, .nest 142 7 iv' ((es ++ [e]).map iN)]) ?_ ?_
     · rintro t H12 ⟨iv', e, he, l12⟩
       obtain ⟨b', o', ha', hcl', _⟩ := (hf5.ext l12.ext0).row.el hei
       simp only [zh, Nat.zero_add, Nat.add_zero, za]
       rw [l12.ld (i := 0) rfl, s1, za, ha', za, zh, za, hcl' 17 (by omega), show (flC x)[17]? = some x.v from rfl, za, (hf5.sub x hmem).lenE YO, za, List.length_map, zU, za, zg (by omega) (by omega)]
       refine l12.st (i := 0) (j := 1) (v := zm (B - (zq B L I).dataAt - ((Za (fs2.take i)).length : Nat) - (x.sp.length : Int))) rfl (by exact (by decide : 1 < 3)) rfl rfl fun H13 l13 => ?_
       rw [zk, za, zL, zw (by omega)]
       refine ⟨⟨i + 1, iv', es ++ [e], by omega, rfl, ?_, ?_⟩, by simp only [zC]; omega⟩
       · rw [htk, List.map_append, List.map_append, hes]
         show _ ++ [e.1] = _ ++ [itP l x]
         rw [he]
       · have e2 : B - (zq B L I).dataAt - ((Za (fs2.take i)).length : Nat) - (x.sp.length : Int) = B - (zq B L I).dataAt - ((Za (fs2.take (i + 1))).length : Nat) := by rw [hbt]; omega
         rw [← e2]; exact l13
     · simp only [zh, Nat.zero_add, Nat.add_zero, za]
       rw [ha, za, hr, za]
       have fin : ∀ {H' : Hp} {v1 v2 : Value} {C : Hp → Prop}, Lx H5 H' [.box b3 (stC iv (B - (zq B L I).dataAt - ((Za (fs2.take i)).length : Nat)) (I - (fs2.length : Nat))) 26, .nest 142 7 iv (es.map iN), .subs [⟨v1, 149, 1025, (itP l x).data.map zS⟩, ⟨v2, 241, 2, (itP l x).slots.map ZS⟩]] →
           (∀ H'' iv' , Lx H5 H'' [.box b3 (stC iv' (B - (zq B L I).dataAt - ((Za (fs2.take i)).length : Nat)) (I - (fs2.length : Nat))) 26, .nest 142 7 iv' ((es ++ [(itP l x, v1, v2)]).map iN)] → C H'') →
           ForX true H' fun H27 => Pu (zK Tryz.prog 24) fun x64 => Pu (zJ (some x64) 1 [(0, .agg (Yy (itP l x) v1 v2))]) fun x65 => NewS x64.type 1 x65 H27 fun x66 H28 => ForX true H28 fun H29 => YI (zK Tryz.prog 24) iv x66 H29 fun x67 H30 => ForX true H30 fun H31 => Pu (zj (some 1) (z7 b3) x67 H31) fun H32 => ForX true H32 fun H33 => C H33 := by
         intro H' v1 v2 C l6 hk
         rw [zp]
         intro H27 e27
         obtain ⟨q1, w1, ew1⟩ := ((l6.ssub (i := 2) rfl) _ (List.mem_cons_self ..)).len
         obtain ⟨q2, w2, ew2⟩ := ((l6.ssub (i := 2) rfl) _ (List.mem_cons_of_mem _ (List.mem_cons_self ..))).len
         simp only at ew1 ew2
         subst ew1
         subst ew2
         refine (l6.ext e27).nestAppX elItm (i := 1) (j := 2) (by decide) (x := iN (itP l x, _, _)) rfl rfl eItm_f (by omega) (by omega) rfl rfl itmC_ok (by rw [List.length_map]; omega) fun s' H30 l30 => ?_
         have l30 := l30.takeN 2
         rw [zp]
         intro H31 e31
         obtain ⟨q3, w3, ew3⟩ := (l30.nsv (i := 1) rfl).len
         have hone := (l30.nsv (i := 1) rfl).one
         refine (l30.ext e31).st (i := 0) (j := 0) (v := s') rfl (by exact (by decide : 0 < 3)) hone.2 hone.1 fun H32 l32 => ?_
         rw [zp]
         intro H33 e33
         refine hk H33 s' ?_
         rw [List.map_append]
         exact l32.ext e33
       refine ⟨?_, ?_, trivial⟩
       · rw [l11.ld (i := 0) rfl, s0, za, zp]
         intro H25 e25
         refine item29 (lk11.ext e25) ((hf11.ext e25).sub x hmem) hfew (hf5.ok x hmem) (flC_ok exv) fun H26 v1 v2 e26 n26 => ?_
         refine fin ((l11.ext e25).new e26 n26) ?_
         exact fun H'' iv' l' => ⟨iv', _, rfl, l'⟩
       · rw [zp]
         intro H25 e25
         refine item29 (lk11.ext e25) ((hf11.ext e25).sub x hmem) hfew (hf5.ok x hmem) (flC_ok exv) fun H26 v1 v2 e26 n26 => ?_
         have l26 := (l11.ext e25).new e26 n26
         rw [l26.ld (i := 0) rfl, s0, za]
         refine fin l26 ?_
         exact fun H'' iv' l' => ⟨iv', _, rfl, l'⟩
   · have ei : i = fs2.length := by omega
     subst ei
     rw [List.take_length] at hes l11
     have ivs := l11.nsv (i := 1) rfl
     obtain ⟨q3, w3, ew3⟩ := ivs.len
     have lf := l5.new l11.ext0 (l11.outN (i := 1) rfl)
     rw [l11.ldAll (i := 0) (n := 3) rfl rfl, za]
     refine lf.ret (i := 1) (K := fun x H4 => R (.tuple #[x, .slice none 0 0]) H4) rfl rfl rfl (by rw [ew3]; exact stC_ok) fun H' l' => ?_
     have := k H' iv es fs l'.ext0 hfs hs (by rw [hes, hfs2.its, hfs.its]) (l'.outN (i := 2) rfl)
     rw [hfs.blks, ← hfs2.blks, hfs.lenI, ← hfs2.lenI] at this
     exact this
end
end Go.Vc
namespace Go.Vc
open Go.Proofs Classical
section
variable {P : Program} {T : TypeId} {a b x y : Array Value} {lit : Bool} {H : Hp}
theorem fldE_row {d : Nat} {f : Field} {n : Nat} {k : IntKind} (hn : f.name ≠ "_") (hr : IntRow P f.type n k) (hk : ldK P f.type = some (some n)) (ea : a.extract f.offset (f.offset + n) = x) (eb : b.extract f.offset (f.offset + n) = y) (hsx : x.size = n) (hsy : y.size = n) (hx : ∀ i, i < n → ∃ z, x[i]? = some (.int k z)) (hy : ∀ i, i < n → ∃ z, y[i]? = some (.int k z)) : fldE P (d + 2) a b f = some (decide (x = y)) := by
 unfold fldE
 rw [if_neg hn]
 simp only [hk, yH, ea, eb, Option.bind_some]
 rw [eqT_row hr hx hy d, Option.some.injEq]
 refine dec_dec ⟨fun h => ?_, fun h i _ => by rw [h]⟩
 apply Array.ext_getElem?
 intro i
 by_cases hi : i < n
 · exact h i (List.mem_range.2 hi)
 · rw [Array.getElem?_eq_none (by omega), Array.getElem?_eq_none (by omega)]
end
theorem heldU : Tryz.prog.underlying 149 = some (.struct (fsOf 149)) := by kernel_rfl
theorem heldL2 : (fsOf 149).toList = [ZY 149 0, ZY 149 1] := by kernel_rfl
theorem heldN0 : (ZY 149 0).name = "Index" := by kernel_rfl
theorem heldN1 : (ZY 149 1).name = "Data" := by kernel_rfl
theorem heldO0 : (ZY 149 0).offset = 0 := by kernel_rfl
theorem heldO1 : (ZY 149 1).offset = 1 := by kernel_rfl
theorem heldT0 : Tryz.prog.underlying (ZY 149 0).type = some (.int .i64) := by kernel_rfl
theorem heldT1 : (ZY 149 1).type = 65 := by kernel_rfl
theorem heldG : Tryz.prog.eqGuardType Tryz.prog.depth 149 = false := by kernel_rfl
theorem heldS : Tryz.prog.stoodInHeld 149 = false := by kernel_rfl
theorem blkK : ldK Tryz.prog 65 = some (some 1024) := by kernel_rfl
theorem eqHeld {x y : Int × Blk} (hx : IsB x.2) (hy : IsB y.2) {lit : Bool} {H : Hp} : eqE Tryz.prog 149 lit (.agg (zS x)) (.agg (zS y)) H = some (decide (x = y)) := by
 rw [eqE_struct heldU heldL2 heldG heldS]
 have h0 : fldE Tryz.prog 9999 (zS x) (zS y) (ZY 149 0) = some (decide (x.1 = y.1)) := Ym (d := 9998) (by rw [heldN0]; decide) heldT0 (by rw [heldO0]; exact Yr x) (by rw [heldO0]; exact Yr y)
 have h1 : fldE Tryz.prog 9999 (zS x) (zS y) (ZY 149 1) = some (decide (x.2 = y.2)) := fldE_row (d := 9997) (by rw [heldN1]; decide) (by rw [heldT1]; exact rowB) (by rw [heldT1]; exact blkK) (by rw [heldO1]; exact heldC_1 hx) (by rw [heldO1]; exact heldC_1 hy) hx.size hy.size (fun i hi => ⟨_, hx.get hi⟩) (fun i hi => ⟨_, hy.get hi⟩)
 obtain ⟨x1, x2⟩ := x
 obtain ⟨y1, y2⟩ := y
 simp only at h0 h1
 unfold Yt
 rw [h0]
 by_cases e1 : x1 = y1
 · rw [decide_eq_true e1]
   unfold Yt
   rw [h1]
   by_cases e2 : x2 = y2
   · simp [e1, e2, Yt]
   · simp [e1, e2]
 · simp [e1]
theorem list_same {α : Type} {a b : List α} (hl : a.length = b.length) {i : Nat} {x y : α} (hx : a[i]? = some x) (hy : b[i]? = some y) (h : a.take i = b.take i) : (a.take (i + 1) = b.take (i + 1) ↔ x = y) := by
 have h1 : i < a.length := by
   rcases Nat.lt_or_ge i a.length with h1 | h1
   · exact h1
   · rw [List.getElem?_eq_none h1] at hx; cases hx
 have h2 : i < b.length := by omega
 rw [List.take_succ_eq_append_getElem h1, List.take_succ_eq_append_getElem h2, h]
 rw [List.getElem?_eq_getElem h1] at hx
 rw [List.getElem?_eq_getElem h2] at hy
 injection hx with hx; injection hy with hy
 rw [hx, hy]
 exact ⟨fun e => by simpa using e, fun e => by rw [e]⟩
section
variable {H : Hp} {R : Value → Hp → Prop}
theorem sameHeld {v w : Value} {a b : List (Int × Blk)} (hv : Sr 1025 H v (a.map zS)) (hw : Sr 1025 H w (b.map zS)) (ha : ∀ x ∈ a, IsB x.2) (hb : ∀ x ∈ b, IsB x.2) (hla : a.length < 281474976710656) (hlb : b.length < 281474976710656) (k : R (.bool (decide (a = b))) H) : Fc Tryz.prog 164 #[v, w] H R := by
 refine fn164 ?_
 simp only [sh164, zu]
 rw [hv.lenE yO, za, List.length_map, hw.lenE yO, za, List.length_map, zx, za, zf]
 have fin : ∀ {c : Bool}, (c = true ↔ a = b) → R (.bool c) H := fun {c} hc => by
   rw [show decide (a = b) = c from by rw [Bool.eq_iff_iff, decide_eq_true_eq, hc]] at k; exact k
 refine ⟨fun hne => fin ⟨fun e => (by cases e), fun e => (by rw [e] at hne; exact absurd rfl hne)⟩, fun hl => ?_⟩
 have hl : a.length = b.length := by omega
 refine zz.mk (fun t H' => H' = H ∧ ∃ i : Nat, i ≤ a.length ∧ t = (zm i, ()) ∧ a.take i = b.take i) (fun t _ => mi t.1 fun i => (a.length - i).toNat) ⟨rfl, 0, by omega, rfl, rfl⟩ ?_
 rintro _ H3 ⟨rfl, i, hi, rfl, hs⟩
 rw [za, zt, za, zf]
 refine ⟨fun hlt => ?_, fun hge => ?_⟩
 · have h1 : i < a.length := by omega
   have h2 : i < b.length := by omega
   have g1 : a[i]? = some a[i] := List.getElem?_eq_getElem h1
   have g2 : b[i]? = some b[i] := List.getElem?_eq_getElem h2
   have m1 := ha _ (List.getElem_mem h1)
   have m2 := hb _ (List.getElem_mem h2)
   generalize a[i] = x at g1 m1
   generalize b[i] = y at g2 m2
   have hst := list_same hl g1 g2 hs
   obtain ⟨b1, o1, ha1, hr1⟩ := hv.row (i := i) (v := zS x) (by rw [List.getElem?_map, g1]; rfl)
   obtain ⟨b2, o2, ha2, hr2⟩ := hw.row (i := i) (v := zS y) (by rw [List.getElem?_map, g2]; rfl)
   rw [ha1, za, hr1, za, ha2, za, hr2, za, yS, eqHeld m1 m2, Option.map_some, za, Z9]
   refine ⟨fun e => fin ⟨fun e => (by cases e), fun e2 => ?_⟩, fun e => ?_⟩
   · rw [decide_eq_false_iff_not] at e
     exact absurd (hst.1 (by rw [e2])) e
   · rw [decide_eq_true_eq] at e
     rw [zk, za, zL, zw (by omega)]
     exact ⟨⟨rfl, i + 1, by omega, rfl, hst.2 e⟩, by simp only [zC]; omega⟩
 · have ei : i = a.length := by omega
   subst ei
   refine fin ⟨fun _ => ?_, fun _ => rfl⟩
   rw [List.take_length, hl, List.take_length] at hs
   exact hs
theorem sameEnts {v w : Value} {a b : List Ent} (hv : Sr 2 H v (a.map ZS)) (hw : Sr 2 H w (b.map ZS)) (hla : a.length < 281474976710656) (hlb : b.length < 281474976710656) (k : R (.bool (decide (a = b))) H) : Fc Tryz.prog 165 #[v, w] H R := by
 refine fn165 ?_
 simp only [sh165, zu]
 rw [hv.lenE undEnts, za, List.length_map, hw.lenE undEnts, za, List.length_map, zx, za, zf]
 have fin : ∀ {c : Bool}, (c = true ↔ a = b) → R (.bool c) H := fun {c} hc => by
   rw [show decide (a = b) = c from by rw [Bool.eq_iff_iff, decide_eq_true_eq, hc]] at k; exact k
 refine ⟨fun hne => fin ⟨fun e => (by cases e), fun e => (by rw [e] at hne; exact absurd rfl hne)⟩, fun hl => ?_⟩
 have hl : a.length = b.length := by omega
 refine zz.mk (fun t H' => H' = H ∧ ∃ i : Nat, i ≤ a.length ∧ t = (zm i, ()) ∧ a.take i = b.take i) (fun t _ => mi t.1 fun i => (a.length - i).toNat) ⟨rfl, 0, by omega, rfl, rfl⟩ ?_
 rintro _ H3 ⟨rfl, i, hi, rfl, hs⟩
 rw [za, zt, za, zf]
 refine ⟨fun hlt => ?_, fun hge => ?_⟩
 · have h1 : i < a.length := by omega
   have h2 : i < b.length := by omega
   have g1 : a[i]? = some a[i] := List.getElem?_eq_getElem h1
   have g2 : b[i]? = some b[i] := List.getElem?_eq_getElem h2
   generalize a[i] = x at g1
   generalize b[i] = y at g2
   have hst := list_same hl g1 g2 hs
   obtain ⟨b1, o1, ha1, hr1⟩ := hv.row (i := i) (v := ZS x) (by rw [List.getElem?_map, g1]; rfl)
   obtain ⟨b2, o2, ha2, hr2⟩ := hw.row (i := i) (v := ZS y) (by rw [List.getElem?_map, g2]; rfl)
   rw [ha1, za, hr1, za, ha2, za, hr2, za, yS, eqEnt, Option.map_some, za, Z9]
   refine ⟨fun e => fin ⟨fun e => (by cases e), fun e2 => ?_⟩, fun e => ?_⟩
   · rw [decide_eq_false_iff_not] at e
     exact absurd (hst.1 (by rw [e2])) e
   · rw [decide_eq_true_eq] at e
     rw [zk, za, zL, zw (by omega)]
     exact ⟨⟨rfl, i + 1, by omega, rfl, hst.2 e⟩, by simp only [zC]; omega⟩
 · have ei : i = a.length := by omega
   subst ei
   refine fin ⟨fun _ => ?_, fun _ => rfl⟩
   rw [List.take_length, hl, List.take_length] at hs
   exact hs
theorem sameItem {t u : Itm} {d1 s1 d2 s2 : Value} (hd1 : Sr 1025 H d1 (t.data.map zS)) (hs1 : Sr 2 H s1 (t.slots.map ZS)) (hd2 : Sr 1025 H d2 (u.data.map zS)) (hs2 : Sr 2 H s2 (u.slots.map ZS)) (ht : Z5 t) (hu : Z5 u) (k : ∀ H', Ext H H' → R (.bool (decide (t = u))) H') : Fc Tryz.prog 120 #[.agg (Yy t d1 s1), .agg (Yy u d2 s2)] H R := by
 have g0 : ∀ {t : Itm} {d s : Value}, (Yy t d s)[0]? = some (zm t.inum) := rfl
 have g1 : ∀ {t : Itm} {d s : Value}, (Yy t d s)[1]? = some (.int .u16 t.kind) := rfl
 have g2 : ∀ {t : Itm} {d s : Value}, (Yy t d s)[2]? = some (zm t.links) := rfl
 have g3 : ∀ {t : Itm} {d s : Value}, (Yy t d s)[3]? = some (zm t.size) := rfl
 have g4 : ∀ {t : Itm} {d s : Value}, (Yy t d s)[4]? = some (zm t.blocks) := rfl
 have g5 : ∀ {t : Itm} {d s : Value}, (Yy t d s)[5]? = some d := rfl
 have g6 : ∀ {t : Itm} {d s : Value}, (Yy t d s)[6]? = some s := rfl
 refine fn120 ?_
 simp only [sh120]
 refine (Lo.start _ H : Lx H H []).boxA fun b1 H1 _ l1 => ?_
 refine l1.boxA fun b2 H2 _ l2 => ?_
 have l2 : Lx H H2 [.box b1 (Yy t d1 s1) 142, .box b2 (Yy u d2 s2) 142] := l2
 have fin : ∀ {H'} {c : Bool}, Ext H H' → (c = true ↔ t = u) → R (.bool c) H' := fun {H' c} e hc => by
   have := k H' e
   rw [show decide (t = u) = c from by rw [Bool.eq_iff_iff, decide_eq_true_eq, hc]] at this; exact this
 have no : ∀ {H'}, Ext H H' → t ≠ u → R (.bool false) H' := fun e h => fin e ⟨fun e => (by cases e), fun e => absurd e h⟩
 simp only [zh, Nat.zero_add, Nat.add_zero, za]
 rw [l2.ld (i := 0) rfl, g0, za, l2.ld (i := 1) rfl, g0, za, zA, za, zf]
 refine ⟨fun e0 => ?_, fun e => no l2.ext0 fun h => e (by rw [h])⟩
 rw [l2.ld (i := 0) rfl, g1, za, l2.ld (i := 1) rfl, g1, za, zA, za, zf]
 refine ⟨fun e1 => ?_, fun e => no l2.ext0 fun h => e (by rw [h])⟩
 rw [l2.ld (i := 0) rfl, g2, za, l2.ld (i := 1) rfl, g2, za, zA, za, zf]
 refine ⟨fun e2 => ?_, fun e => no l2.ext0 fun h => e (by rw [h])⟩
 rw [l2.ld (i := 0) rfl, g3, za, l2.ld (i := 1) rfl, g3, za, zA, za, zf]
 refine ⟨fun e3 => ?_, fun e => no l2.ext0 fun h => e (by rw [h])⟩
 rw [l2.ld (i := 0) rfl, g4, za, l2.ld (i := 1) rfl, g4, za, zA, za, zf]
 refine ⟨fun e4 => ?_, fun e => no l2.ext0 fun h => e (by rw [h])⟩
 rw [l2.ld (i := 0) rfl, g5, za, l2.ld (i := 1) rfl, g5, za]
 refine sameHeld (hd1.ext l2.ext0) (hd2.ext l2.ext0) (fun x hx => (ht.data x hx).2) (fun x hx => (hu.data x hx).2) ht.dlen hu.dlen ?_
 rw [zf]
 refine ⟨fun e5 => ?_, fun e => no l2.ext0 fun h => e (by rw [h])⟩
 rw [l2.ld (i := 0) rfl, g6, za, l2.ld (i := 1) rfl, g6, za]
 refine sameEnts (hs1.ext l2.ext0) (hs2.ext l2.ext0) ht.slen hu.slen ?_
 refine fin l2.ext0 ?_
 rw [decide_eq_true_eq]
 refine ⟨fun e6 => ?_, fun h => by rw [h]⟩
 obtain ⟨a0, a1, a2, a3, a4, a5, a6⟩ := t
 obtain ⟨c0, c1, c2, c3, c4, c5, c6⟩ := u
 simp only at e0 e1 e2 e3 e4 e5 e6
 have e1 : a1 = c1 := by omega
 subst e0 e1 e2 e3 e4 e5 e6
 rfl
theorem sameSt {iv jv : Value} {is js : List Itm} {f s f' s' : Int} (hi : StAt H iv is) (hj : StAt H jv js) (hio : ∀ t ∈ is, Z5 t) (hjo : ∀ t ∈ js, Z5 t) (hli : is.length < 281474976710656) (hlj : js.length < 281474976710656) (k : ∀ H', Ext H H' → R (.bool (decide (f = f' ∧ s = s' ∧ is = js))) H') : Fc Tryz.prog 75 #[.agg (stC iv f s), .agg (stC jv f' s')] H R := by
 have g0 : ∀ {iv : Value} {f s : Int}, (stC iv f s)[0]? = some iv := rfl
 have g1 : ∀ {iv : Value} {f s : Int}, (stC iv f s)[1]? = some (zm f) := rfl
 have g2 : ∀ {iv : Value} {f s : Int}, (stC iv f s)[2]? = some (zm s) := rfl
 have undItms : Tryz.prog.underlying 24 = some (.slice 142) := by kernel_rfl
 obtain ⟨cs, i1, i2, i3⟩ := hi
 obtain ⟨ds, j1, j2, j3⟩ := hj
 refine fn75 ?_
 simp only [sh75, zu]
 refine (Lo.start _ H : Lx H H []).boxA fun b1 H1 _ l1 => ?_
 refine l1.boxA fun b2 H2 _ l2 => ?_
 have l2 : Lx H H2 [.box b1 (stC iv f s) 26, .box b2 (stC jv f' s') 26] := l2
 have fin : ∀ {H'} {c : Bool}, Ext H H' → (c = true ↔ f = f' ∧ s = s' ∧ is = js) → R (.bool c) H' := fun {H' c} e hc => by
   have := k H' e
   rw [show decide (f = f' ∧ s = s' ∧ is = js) = c from by rw [Bool.eq_iff_iff, decide_eq_true_eq, hc]] at this; exact this
 simp only [zh, Nat.zero_add, Nat.add_zero, za]
 refine zT.mk (fun t H' => H' = H2 ∧ t.1 = .bool (decide (¬ (f = f' ∧ s = s' ∧ is.length = js.length)))) ?_ ?_
 · rintro ⟨t, u⟩ H3 ⟨rfl, ht⟩
   simp only at ht
   subst ht
   rw [zf]
   refine ⟨fun hb => fin l2.ext0 ⟨fun e => (by cases e), fun e => absurd ⟨e.1, e.2.1, by rw [e.2.2]⟩ hb⟩, fun hb => ?_⟩
   obtain ⟨hf, hs, hl⟩ := Classical.not_not.1 hb
   refine zz.mk (fun t H' => ∃ i : Nat, i ≤ is.length ∧ t = (zm i, ()) ∧ is.take i = js.take i ∧ Lx H H' [.box b1 (stC iv f s) 26, .box b2 (stC jv f' s') 26]) (fun t _ => mi t.1 fun i => (is.length - i).toNat) ⟨0, by omega, rfl, rfl, l2⟩ ?_
   rintro _ H4 ⟨i, hi, rfl, hst, l4⟩
   rw [l4.ld (i := 0) rfl, g0, za, i1.lenE undItms, za, i2, zt, za, zf]
   refine ⟨fun hlt => ?_, fun hge => ?_⟩
   · have q1 : i < is.length := by omega
     have q2 : i < js.length := by omega
     have e1 : is[i]? = some is[i] := List.getElem?_eq_getElem q1
     have e2 : js[i]? = some js[i] := List.getElem?_eq_getElem q2
     have m1 := hio _ (List.getElem_mem q1)
     have m2 := hjo _ (List.getElem_mem q2)
     generalize is[i] = x at e1 m1
     generalize js[i] = y at e2 m2
     have hss := list_same hl e1 e2 hst
     obtain ⟨d1, s1, r1, r2, r3⟩ := i3 i x e1
     obtain ⟨d2, s2, t1, t2, t3⟩ := j3 i y e2
     obtain ⟨b3, o3, ha3, hr3⟩ := (i1.ext l4.ext0).row r1
     obtain ⟨b4, o4, ha4, hr4⟩ := (j1.ext l4.ext0).row t1
     rw [za, ha3, za, hr3, za, l4.ld (i := 1) rfl, g0, za, ha4, za, hr4, za]
     refine sameItem (r2.ext l4.ext0) (r3.ext l4.ext0) (t2.ext l4.ext0) (t3.ext l4.ext0) m1 m2 fun H5 e5 => ?_
     rw [zM, za, Z9]
     refine ⟨fun e => ?_, fun e => ?_⟩
     · rw [decide_eq_false_iff_not] at e
       exact fin (l4.ext0.trans e5) ⟨fun e => (by cases e), fun h => absurd (hss.1 (by rw [h.2.2])) e⟩
     · rw [decide_eq_true_eq] at e
       rw [zk, za, zL, zw (by omega)]
       exact ⟨⟨i + 1, by omega, rfl, hss.2 e, l4.ext e5⟩, by simp only [zC]; omega⟩
   · have ei : i = is.length := by omega
     subst ei
     rw [List.take_length, hl, List.take_length] at hst
     exact fin l4.ext0 ⟨fun _ => ⟨hf, hs, hst⟩, fun _ => rfl⟩
 · rw [l2.ld (i := 0) rfl, g1, za, l2.ld (i := 1) rfl, g1, za, zx, za, zf]
   refine ⟨fun e => ⟨rfl, yj fun h => e h.1⟩, fun e => ?_⟩
   have e := Classical.not_not.1 e
   rw [l2.ld (i := 0) rfl, g2, za, l2.ld (i := 1) rfl, g2, za, zx, za, zf]
   refine ⟨fun e => ⟨rfl, yj fun h => e h.2.1⟩, fun e' => ?_⟩
   have e' := Classical.not_not.1 e'
   rw [l2.ld (i := 0) rfl, g0, za, i1.lenE undItms, za, l2.ld (i := 1) rfl, g0, za, j1.lenE undItms, za, i2, j2, zx, za]
   refine ⟨rfl, Yi ⟨fun h h2 => h (by rw [h2.2.2]), fun h h2 => h ⟨e, e', by omega⟩⟩⟩
end
end Go.Vc
namespace Go.Vc
open Go.Proofs Classical
theorem imgL_ge : ∀ (L : List Blk) (k : Nat) (x : Int × Blk), x ∈ Yl k L → (k : Int) ≤ x.1
 | [], _, _, h => by cases h
 | c :: l, k, x, h => by
   rw [yD] at h
   split at h
   · have := imgL_ge l (k + 1) x h; omega
   · rcases List.mem_cons.1 h with e | e
     · rw [e]; show (k : Int) ≤ k; omega
     · have := imgL_ge l (k + 1) x e; omega
theorem imgL_is : ∀ (L : List Blk) (k : Nat), (∀ c ∈ L, IsB c) → ∀ x ∈ Yl k L, IsB x.2
 | [], _, _, _, h => by cases h
 | c :: l, k, hL, x, h => by
   rw [yD] at h
   split at h
   · exact imgL_is l (k + 1) (fun z hz => hL z (List.mem_cons_of_mem _ hz)) x h
   · rcases List.mem_cons.1 h with e | e
     · rw [e]; exact hL c (List.mem_cons_self ..)
     · exact imgL_is l (k + 1) (fun z hz => hL z (List.mem_cons_of_mem _ hz)) x e
theorem imgL_okL {n : Int} : ∀ (L : List Blk) (k : Nat) (b : Int), (∀ c ∈ L, IsB c) → b < k → (k : Int) + L.length ≤ n → okL n b (Yl k L)
 | [], _, _, _, _, _ => trivial
 | c :: l, k, b, hL, hb, hn => by
   have hn' : ((k + 1 : Nat) : Int) + l.length ≤ n := by simp only [List.length_cons] at hn; omega
   have hL' : ∀ z ∈ l, IsB z := fun z hz => hL z (List.mem_cons_of_mem _ hz)
   rw [yD]
   split
   · exact imgL_okL l (k + 1) b hL' (by omega) hn'
   · rename_i hc
     exact ⟨hb, by show (k : Int) < n; omega, hc, hL c (List.mem_cons_self ..), imgL_okL l (k + 1) k hL' (by omega) hn'⟩
theorem imgAt_cons (x : Int × Blk) (l : List (Int × Blk)) (a : Int) : Zi (x :: l) a = if x.1 = a then x.2 else Zi l a := by
 unfold Zi
 by_cases h : x.1 = a
 · rw [List.find?_cons_of_pos (by simpa using h), if_pos h]; rfl
 · rw [List.find?_cons_of_neg (by simpa using h), if_neg h]
theorem imgAt_out {l : List (Int × Blk)} {a : Int} (h : ∀ x ∈ l, x.1 ≠ a) : Zi l a = zB := by
 unfold Zi
 rw [List.find?_eq_none.2 fun x hx => by simpa using h x hx]; rfl
theorem YA : ∀ (L : List Blk) (k j : Nat) (c : Blk), L[j]? = some c → Zi (Yl k L) ((k + j : Nat) : Int) = c
 | [], _, _, _, h => by simp at h
 | z :: l, k, 0, c, h => by
   injection h with h
   subst h
   rw [yD]
   split
   · rename_i hz
     rw [imgAt_out fun x hx => by have := imgL_ge l (k + 1) x hx; omega, hz]
   · rw [imgAt_cons, if_pos (by show (k : Int) = ((k + 0 : Nat) : Int); omega)]
 | z :: l, k, j + 1, c, h => by
   have ih := YA l (k + 1) j c h
   rw [show k + 1 + j = k + (j + 1) by omega] at ih
   rw [yD]
   split
   · exact ih
   · rw [imgAt_cons, if_neg (by show ¬ (k : Int) = ((k + (j + 1) : Nat) : Int); omega)]; exact ih
theorem dirN_idx {f : Ino} {n : Nat} {y : Spt} (h : y ∈ dirN f n) : -1 ≤ y.1 ∧ y.1 ≤ n := by
 unfold dirN at h
 obtain ⟨i, hi, e⟩ := List.mem_filterMap.1 h
 rw [List.mem_range] at hi
 split at e
 · cases e
 · injection e with e; rw [← e]; show -1 ≤ (i : Int) ∧ (i : Int) ≤ n; omega
theorem one_idx {n : Nat} {y : Spt} (h : y ∈ one_ n) : y.1 = -1 := by
 unfold one_ at h
 split at h
 · cases h
 · rw [List.mem_singleton.1 h]
theorem unN_idx {B L I : Int} {l : List (Int × Blk)} {a : Nat} {first : Int} {y : Spt} (h : y ∈ unN B L I l a first) : first ≤ y.1 ∧ y.1 ≤ first + 256 := by
 unfold unN at h
 split at h
 · unfold underP at h
   obtain ⟨i, hi, e⟩ := List.mem_filterMap.1 h
   rw [List.mem_range] at hi
   split at e
   · cases e
   · injection e with e; rw [← e]; show first ≤ first + (i : Int) ∧ first + (i : Int) ≤ first + 256; omega
 · cases h
theorem spotsP_idx {B L I : Int} {l : List (Int × Blk)} {f : Ino} {y : Spt} (h : y ∈ yY B L I l f) : -1 ≤ y.1 ∧ y.1 ≤ 70000 := by
 unfold yY at h
 simp only [List.mem_append] at h
 rcases h with (((h | h) | h) | h) | h
 · have := dirN_idx h; omega
 · have := one_idx h; omega
 · have := unN_idx h; omega
 · have := one_idx h; omega
 · split at h
   · unfold dblN at h
     obtain ⟨i, hi, h⟩ := List.mem_flatMap.1 h
     rw [List.mem_range] at hi
     rcases List.mem_append.1 h with h | h
     · have := one_idx h; omega
     · have := unN_idx h; omega
   · cases h
theorem nulS_le (c : Array Value) : ∀ f i, nulS c f i ≤ i + f
 | 0, i => Nat.le_refl _
 | f + 1, i => by
   unfold nulS
   split
   · omega
   · have := nulS_le c f (i + 1); omega
theorem slotE_size (c : Array Value) : (slotE c).2.size ≤ 14 := by
 unfold slotE
 split
 · show (decS c (nulS c 14 0)).size ≤ 14
   rw [decS_size]
   have := nulS_le c 14 0; omega
 · exact Nat.zero_le _
theorem itP_ok {B L I : Int} {l : List (Int × Blk)} {n : Nat} {fs : List Fl} (his : ∀ x ∈ l, IsB x.2) (hn : n ≤ 65535) (hf : FlsOk B L I l n fs) : ∀ t ∈ fs.map (itP l), Z5 t := by
 intro t ht
 obtain ⟨x, hx, rfl⟩ := List.mem_map.1 ht
 have hm := hf.mem hx
 obtain ⟨e1, e2⟩ := hf.is x hx
 have hok : InoOk x.f := by rw [e1]; exact inoP_ok his _
 have h0 := hok 0 (by omega)
 have h1 := hok 1 (by omega)
 have h2 := hok 2 (by omega)
 have h3 := hok 3 (by omega)
 simp only [fw, Nat.reduceLT, if_false, if_true, Nat.reducePow, Nat.lt_irrefl] at h0 h1 h2 h3
 have hsp : x.sp.length ≤ 66100 := by rw [e2]; exact spotsP_len _ _ _ _ _
 refine ⟨?_, h0, ?_, ?_, ?_, ?_, ?_, fun y hy => ?_, fun e he => ?_⟩
 · show -9223372036854775808 ≤ (x.i : Int) ∧ (x.i : Int) ≤ 9223372036854775807; omega
 · show -9223372036854775808 ≤ (x.f 1 : Int) ∧ (x.f 1 : Int) ≤ 9223372036854775807; omega
 · show -9223372036854775808 ≤ (x.f 2 : Int) ∧ (x.f 2 : Int) ≤ 9223372036854775807; omega
 · show -9223372036854775808 ≤ (x.f 3 : Int) ∧ (x.f 3 : Int) ≤ 9223372036854775807; omega
 · unfold itP
   simp only
   split
   · simp
   · have := dataP_len l x x.sp.length; omega
 · unfold itP
   simp only
   split
   · rw [slotsP_len]; omega
   · simp
 · unfold itP at hy
   simp only at hy
   split at hy
   · cases hy
   · unfold dataP at hy
     obtain ⟨z, hz, rfl⟩ := List.mem_map.1 hy
     have hz := List.mem_of_mem_take (List.mem_filter.1 hz).1
     rw [e2] at hz
     have := spotsP_idx hz
     exact ⟨by show -9223372036854775808 ≤ z.1 ∧ z.1 ≤ 9223372036854775807; omega, ZA his _⟩
 · unfold itP at he
   simp only at he
   split at he
   · unfold ZP at he
     obtain ⟨i, _, rfl⟩ := List.mem_map.1 he
     refine ⟨slotE_lt (rawS_is his x i), ?_⟩
     have := slotE_size (rawS l x i); omega
   · cases he
section
variable {H : Hp} {R : Value → Hp → Prop}
theorem lenNilFlts : lenE Tryz.prog 131 (.slice none 0 0) = some (zm 0) := by kernel_rfl
theorem im_ok {B L I : Int} {m : Pm} {its : List Itm} {sd : Nat} {dv : Value} (hg : Zn B L I) (hm : MOf m B L I) (hits : ∀ t ∈ its, Z5 t) (hb : (m.B : Int) = B) (hr : Sr 1025 H dv ((Yl 0 (Zy m (zH m its (pg0 m)) sd)).map zS)) : ImOk H dv B L I (Yl 0 (Zy m (zH m its (pg0 m)) sd)) := by
 obtain ⟨gL1, gL2, gI1, gI2, gB1, gB2, gD⟩ := id hg
 obtain ⟨h0, h1, h2, h3⟩ := laid_low hm hg hits sd
 refine ⟨hr, imgL_okL _ 0 (-1) h3 (by omega) (by omega), imgL_is _ 0 h3, ?_, hg, ?_, ?_⟩
 · have := imgL_len (Zy m (zH m its (pg0 m)) sd) 0
   omega
 · exact YA _ 0 0 _ h0
 · exact YA _ 0 1 _ h1
structure MaySt (B L I : Int) (its : List Itm) (fr sp : Int) (m : Pm) (fs : List Fl) : Prop where
 small : B ≤ 4096
 ok : Zn B L I
 mof : MOf m B L I
 room : (zH m its (pg0 m)).full = false
 files : FlsOk B L I (Yl 0 (Zy m (zH m its (pg0 m)) 0)) I.toNat fs
 sound : Sound B L I (Yl 0 (Zy m (zH m its (pg0 m)) 0)) fs
 its : its = fs.map (itP (Yl 0 (Zy m (zH m its (pg0 m)) 0)))
 free : fr = B - (zq B L I).dataAt - ((Za fs).length : Nat)
 spare : sp = I - (fs.length : Nat)
set_option maxHeartbeats 1000000 in
theorem may_kit {B L I : Int} (hB : -9223372036854775808 ≤ B ∧ B ≤ 9223372036854775807) {iv : Value} {its : List Itm} (hst : StAt H iv its) (hits : ∀ t ∈ its, Z5 t) (hlen : its.length < 281474976710656) {fr sp : Int} (hiv : ∃ b n c, iv = .slice b n c)
   (k0 : ∀ H', Ext H H' → R (.bool false) H') (k : ∀ H' m fs, Ext H H' → MaySt B L I its fr sp m fs → R (.bool true) H') :
   Fc Tryz.prog 27 #[.agg #[zm B, zm L, zm I], .agg (stC iv fr sp)] H R := by
 have x3 : ∀ {a b : Value}, ze (.tuple #[a, b]) 0 = some a := rfl
 have x4 : ∀ {a b : Value}, ze (.tuple #[a, b]) 1 = some b := rfl
 refine fn27 ?_
 simp only [sh27, zeroImg, zeroSt, za]
 refine (Lo.start _ H : Lx H H []).boxA fun b1 H1 _ l1 => ?_
 refine l1.boxA fun b2 H2 _ l2 => ?_
 have l2 : Lx H H2 [.box b1 #[zm B, zm L, zm I] 23, .box b2 (stC iv fr sp) 26] := l2
 simp only [zh, Nat.zero_add, Nat.add_zero, za]
 rw [l2.ld (i := 0) rfl, show (#[zm B, zm L, zm I] : Array Value)[0]? = some (zm B) from rfl, za, zN, za, zf]
 refine ⟨fun _ => k0 _ l2.ext0, fun hsm => ?_⟩
 rw [l2.ldAll (i := 0) (n := 3) rfl rfl, za, l2.ldAll (i := 1) (n := 3) rfl rfl, za]
 refine laid_ok hB (hst.ext l2.ext0) hits hlen (by decide) (fun H3 e3 _ => ?_) (fun H3 dv m e3 hg hm hfull n3 => ?_)
 · refine (l2.ext e3).boxA fun b3 H4 _ l4 => ?_
   refine l4.stAll (i := 2) (n := 2) (vs := #[zm 0, .slice none 0 0]) rfl rfl rfl (by unfold zG; rw [← Array.all_toList]; rfl) fun H5 l5 => ?_
   rw [zh, za, Nat.zero_add, l5.ld (i := 2) rfl, show (#[zm 0, .slice none 0 0] : Array Value)[0]? = some (zm 0) from rfl, za, zA, za, decide_eq_true rfl, zZ]
   exact k0 _ l5.ext0
 · obtain ⟨gL1, gL2, gI1, gI2, gB1, gB2, gD⟩ := id hg
   have hsd : ((0 : Int) % 1000003).toNat = 0 := rfl
   rw [hsd] at n3
   obtain ⟨q, r, edv⟩ := n3.sv.sr.len
   have his : ∀ x ∈ Yl 0 (Zy m (zH m its (pg0 m)) 0), IsB x.2 := imgL_is _ 0 (laid_low hm hg hits 0).2.2.2
   have im : ImOk H3 dv B L I (Yl 0 (Zy m (zH m its (pg0 m)) 0)) := im_ok hg hm hits hm.B n3.sv.sr
   have hx : ∀ {H'}, Sr 1025 H' dv ((Yl 0 (Zy m (zH m its (pg0 m)) 0)).map zS) → ImOk H' dv B L I (Yl 0 (Zy m (zH m its (pg0 m)) 0)) := fun hr => ⟨hr, im.whole, im.is, im.len, im.ok, im.sup, im.hd⟩
   have hmay : ∀ fs, FlsOk B L I (Yl 0 (Zy m (zH m its (pg0 m)) 0)) I.toNat fs → Sound B L I (Yl 0 (Zy m (zH m its (pg0 m)) 0)) fs → its = fs.map (itP (Yl 0 (Zy m (zH m its (pg0 m)) 0))) → fr = B - (zq B L I).dataAt - ((Za fs).length : Nat) → sp = I - (fs.length : Nat) → MaySt B L I its fr sp m fs := fun fs h1 h2 h3 h4 h5 => ⟨by omega, hg, hm, hfull, h1, h2, h3, h4, h5⟩
   have l3 := l2.new e3 n3
   generalize Yl 0 (Zy m (zH m its (pg0 m)) 0) = l at his im hx hmay l3
   have e00 : (#[zm B, dv] : Array Value)[0]? = some (zm B) := rfl
   refine l3.boxA fun b3 H4 f4 l4 => ?_
   refine l4.stAll (i := 3) (n := 2) (vs := #[zm B, dv]) rfl rfl rfl (by rw [edv]; unfold zG; rw [← Array.all_toList]; rfl) fun H5 l5 => ?_
   have l5 : Lx H H5 [.box b1 #[zm B, zm L, zm I] 23, .box b2 (stC iv fr sp) 26, .sl 149 1025 dv (l.map zS), .box b3 #[zm B, dv] 81] := l5
   rw [zh, za, Nat.zero_add, l5.ld (i := 3) rfl, e00, za, zA, za, decide_eq_false (by omega), zl, l5.ldAll (i := 3) (n := 2) rfl rfl, za]
   refine look29 (hx (l5.sv (i := 2) rfl).sr) (fun H6 s' n fs e6 hn hle _ _ => ?_) (fun H6 iv2 es fs e6 hfs hS hes n6 => ?_)
   · rw [x3, za, x4, za]
     refine (l5.ext e6).boxA fun b4 H7 _ l7 => ?_
     refine l7.stAll (i := 4) (n := 3) (vs := stC (.slice none 0 0) 0 0) rfl rfl rfl stC_ok fun H8 l8 => ?_
     rw [hle, za, zA, za, decide_eq_false (by omega), zl]
     exact k0 _ l8.ext0
   · have l6 := l5.new e6 n6
     obtain ⟨q2, r2, eiv⟩ := n6.nest_sv.len
     rw [x3, za, x4, za]
     refine l6.boxA fun b4 H7 _ l7 => ?_
     refine l7.stAll (i := 5) (n := 3) (vs := stC iv2 (B - (zq B L I).dataAt - ((Za fs).length : Nat)) (I - (fs.length : Nat))) rfl rfl rfl (by rw [eiv]; exact stC_ok) fun H8 l8 => ?_
     rw [lenNilFlts, za, zA, za, decide_eq_true rfl, zZ, l8.ldAll (i := 5) (n := 3) rfl rfl, za, l8.ldAll (i := 1) (n := 3) rfl rfl, za]
     have st2 := st_at (l8.outN (i := 4) rfl)
     have hfl := hfs.len
     rw [hes] at st2
     refine sameSt st2 (hst.ext l8.ext0) (itP_ok his (by omega) hfs) hits (by rw [List.length_map]; omega) hlen fun H9 e9 => ?_
     by_cases hc : B - (zq B L I).dataAt - ((Za fs).length : Nat) = fr ∧ I - (fs.length : Nat) = sp ∧ fs.map (itP l) = its
     · rw [decide_eq_true hc]
       exact k H9 m fs (l8.ext0.trans e9) (hmay fs hfs hS hc.2.2.symm hc.1.symm hc.2.1.symm)
     · rw [decide_eq_false hc]
       exact k0 _ (l8.ext0.trans e9)
end
end Go.Vc
namespace Go.Vc
open Go.Proofs Classical
structure RDk where
 n : Int
 held : List (Int × Blk)
 wait : List (Int × Blk)
 fused : Bool
 left : Int
 dead : Bool
 ops : List (Array Value)
 count : Int
 seen : Int
 claims : Int
 owner : Int
def rdkC (D : RDk) (hv wv ov : Value) : Array Value := #[zm D.n, hv, wv, .bool D.fused, zm D.left, .bool D.dead, ov, zm D.count, zm D.seen, zm D.claims, zm D.owner]
structure RDkOk (D : RDk) : Prop where
 held : ∀ x ∈ D.held, IsB x.2
 wait : ∀ x ∈ D.wait, IsB x.2
 hlen : D.held.length ≤ 1048576
 wlen : D.wait.length < 1099511627776
 seen : 0 ≤ D.seen ∧ D.seen < 4611686018427387904
 claims : 0 ≤ D.claims ∧ D.claims < 4611686018427387904
def rdkAll (r : Nat) (D : RDk) (hv wv ov : Value) : List Ob := [.box r (rdkC D hv wv ov) 130, .sl 149 1025 hv (D.held.map zS), .sl 149 1025 wv (D.wait.map zS), .sl 211 1026 ov D.ops]
def yZ (r : Nat) (D : RDk) : Ob :=
 ⟨fun H O => ∃ hv wv ov, (Ob.all (rdkAll r D hv wv ov)).at_ H O,
  fun ⟨_, _, _, h⟩ => Ob.own _ h, fun ⟨hv, wv, ov, h⟩ hb hs ho hl => ⟨hv, wv, ov, Ob.frame _ h hb hs ho hl⟩⟩
def RDk.load (n : Int) (l : List (Int × Blk)) : RDk := ⟨n, l, [], false, 0, false, [], 0, 0, 0, 0⟩
theorem RDk.load_ok {n : Int} {l : List (Int × Blk)} (h : ∀ x ∈ l, IsB x.2) (hl : l.length ≤ 1048576) : RDkOk (RDk.load n l) := ⟨h, fun x hx => (by cases hx), hl, (by simp [RDk.load]), (by simp [RDk.load]), (by simp [RDk.load])⟩
theorem buildRdk (n : Int) (b : Option Addr) (k c : Nat) : zv Tryz.prog 130 [(0, zm n), (1, .slice b k c)] = some (.agg (rdkC (RDk.load n []) (.slice b k c) (.slice none 0 0) (.slice none 0 0))) := by kernel_rfl
noncomputable def RDk.at_ (D : RDk) (a : Int) : Blk := match D.wait.reverse.find? fun x => decide (x.1 = a) with
 | some x => x.2
 | none => Zi D.held a
section
variable {H : Hp} {R : Value → Hp → Prop} {dv : Value} {B L I : Int} {l : List (Int × Blk)}
theorem blank01 {c : Blk} (hc : IsB c) (k : ∀ H', Ext H H' → R (.bool (decide (c = zB))) H') : Fc Tryz.prog 131 #[.agg c] H R := by
 refine fn131 ?_
 simp only [sh131, zu]
 refine (Lo.start _ H : Lx H H []).boxA fun b1 H1 _ l1 => ?_
 have fin : ∀ {b : Bool}, (b = true ↔ c = zB) → R (.bool b) H1 := fun {b} hb => by
   have := k H1 l1.ext0
   rw [show decide (c = zB) = b from by rw [Bool.eq_iff_iff, decide_eq_true_eq, hb]] at this; exact this
 refine zz.mk (fun t H' => H' = H1 ∧ ∃ i : Nat, i ≤ 1024 ∧ t = (zm i, ()) ∧ ∀ j, j < i → byt c j = 0) (fun t _ => mi t.1 fun i => (1024 - i).toNat) ⟨rfl, 0, by omega, rfl, fun j hj => by omega⟩ ?_
 rintro _ H2 ⟨rfl, i, hi, rfl, hz⟩
 rw [zt, za, zf]
 refine ⟨fun hlt => ?_, fun hge => ?_⟩
 · rw [zF (by omega), za, Nat.zero_add, Nat.mul_one, l1.ld (i := 0) rfl, hc.get (by omega), za, zx, za, zf]
   refine ⟨fun hne => fin ⟨fun e => (by cases e), fun e => ?_⟩, fun he => ?_⟩
   · exfalso
     have : byt c i = 0 := by rw [e]; unfold byt; rw [zB_get (by omega)]; rfl
     omega
   · rw [zk, za, zL, zw (by omega)]
     refine ⟨⟨rfl, i + 1, by omega, rfl, fun j hj => ?_⟩, by simp only [zC]; omega⟩
     by_cases e : j = i
     · subst e; omega
     · exact hz j (by omega)
 · refine fin ⟨fun _ => hc.ext Zo fun j hj => ?_, fun _ => rfl⟩
   rw [hz j (by omega)]
   unfold byt
   rw [zB_get hj]; rfl
theorem may04 (hB : 1 ≤ B ∧ B ≤ 1048576) (hrd : Sr 1025 H dv (l.map zS)) (hl : okL B (-1) l) (hlen : l.length ≤ 1048576) (k : ∀ H', Ext H H' → R (.bool true) H') : Fc Tryz.prog 86 #[.agg #[zm B, dv]] H R := by
 have d0 : (#[zm B, dv] : Array Value)[0]? = some (zm B) := rfl
 have d1 : (#[zm B, dv] : Array Value)[1]? = some dv := rfl
 refine fn86 ?_
 simp only [sh86, zu]
 refine (Lo.start _ H : Lx H H []).boxA fun b1 H1 _ l1 => ?_
 have l1 : Lx H H1 [.box b1 #[zm B, dv] 81] := l1
 simp only [zh, Nat.zero_add, Nat.add_zero, za]
 refine zT.mk (fun t H' => H' = H1 ∧ t.1 = .bool false) ?_ ?_
 · rintro ⟨t, u⟩ H2 ⟨rfl, ht⟩
   simp only at ht
   subst ht
   rw [zl]
   refine zz.mk (fun t H' => ∃ (i : Nat) (p : Int), i ≤ l.length ∧ t = (zm i, ()) ∧ okL B p (l.drop i) ∧ -1 ≤ p ∧ (∀ j, i = j + 1 → ∃ x, l[j]? = some x ∧ x.1 = p) ∧ Lx H H' [.box b1 #[zm B, dv] 81])
     (fun t _ => mi t.1 fun i => (l.length - i).toNat) ⟨0, -1, by omega, rfl, hl, by omega, fun j hj => by omega, l1⟩ ?_
   rintro _ H4 ⟨i, p, hi, rfl, hdr, hp1, hpv, l4⟩
   have h4 := hrd.ext l4.ext0
   rw [l4.ld (i := 0) rfl, d1, za, h4.lenE yO, za, List.length_map, zt, za, zf]
   refine ⟨fun hlt => ?_, fun hge => k H4 l4.ext0⟩
   have hil : i < l.length := by omega
   have hei : (l.map zS)[i]? = some (zS l[i]) := by rw [List.getElem?_map, List.getElem?_eq_getElem hil]; rfl
   have hel : l[i]? = some l[i] := List.getElem?_eq_getElem hil
   have hdrop : l.drop i = l[i] :: l.drop (i + 1) := List.drop_eq_getElem_cons hil
   generalize l[i] = x at hei hdrop hel
   rw [hdrop] at hdr
   obtain ⟨q1, q2, q3, q4, q5⟩ := hdr
   obtain ⟨b, o, ha, hcl, hrow⟩ := h4.el hei
   have c0 := hcl 0 (by omega)
   rw [Nat.add_zero, Yr] at c0
   rw [za, ha, za, zh, za, Nat.add_zero, c0, za]
   refine zT.mk (fun t H' => t.1 = .bool false ∧ Lx H H' [.box b1 #[zm B, dv] 81]) ?_ ?_
   · rintro ⟨t, u⟩ H7 ⟨ht, l7⟩
     simp only at ht
     subst ht
     rw [zl, zk, za, zL, zw (by omega)]
     refine ⟨⟨i + 1, x.1, by omega, rfl, q5, by omega, fun j hj => ⟨x, ?_, rfl⟩, l7⟩, by simp only [zC]; omega⟩
     rw [← show i = j by omega]; exact hel
   · rw [zt, za, decide_eq_false (by omega), zl, l4.ld (i := 0) rfl, d0, za, zY, za, decide_eq_false (by omega), zl, zN, za, zf]
     refine ⟨fun h0 => ?_, fun h0 => ?_⟩
     · obtain ⟨j, ej⟩ : ∃ j : Nat, i = j + 1 := ⟨i - 1, by omega⟩
       obtain ⟨z, hz, ez⟩ := hpv j ej
       obtain ⟨b', o', ha', hcl', _⟩ := h4.el (v := zS z) (i := j) (by rw [List.getElem?_map, hz]; rfl)
       have c0' := hcl' 0 (by omega)
       rw [Nat.add_zero, Yr] at c0'
       rw [za, zU, za, zg (by omega) (by omega), show (i : Int) - 1 = (j : Int) by omega, ha', za, zh, za, Nat.add_zero, c0', za, zY, za, decide_eq_false (by omega), zl, za, ha, za, zh, za, hrow 1 1024 (by omega), heldC_1 q4, za]
       refine blank01 q4 fun H5 e5 => ?_
       rw [decide_eq_false q3]
       exact ⟨rfl, l4.ext e5⟩
     · rw [za, ha, za, zh, za, hrow 1 1024 (by omega), heldC_1 q4, za]
       refine blank01 q4 fun H5 e5 => ?_
       rw [decide_eq_false q3]
       exact ⟨rfl, l4.ext e5⟩
 · rw [l1.ld (i := 0) rfl, d0, za, zt, za, decide_eq_false (by omega), zl, za, zN, za, decide_eq_false (by omega)]
   exact ⟨rfl, rfl⟩
theorem copy04 (hrd : Sr 1025 H dv (l.map zS)) (his : ∀ x ∈ l, IsB x.2) (hlen : l.length ≤ 1048576) (k : ∀ H' hv, Ext H H' → New H H' (.sl 149 1025 hv (l.map zS)) → R hv H') : Fc Tryz.prog 87 #[dv] H R := by
 refine fn87 ?_
 simp only [sh87, zu]
 have l1 := (Lo.start _ H : Lx H H []).nilS 149 1025
 refine zz.mk (fun t H' => ∃ (i : Nat) (v : Value), i ≤ l.length ∧ t = (v, zm i, ()) ∧ Lx H H' [.sl 149 1025 v ((l.take i).map zS)])
   (fun t _ => mi t.2.1 fun i => (l.length - i).toNat) ⟨0, .slice none 0 0, by omega, rfl, l1⟩ ?_
 rintro _ H2 ⟨i, v, hi, rfl, l2⟩
 have h2 := hrd.ext l2.ext0
 rw [h2.lenE yO, za, List.length_map, zt, za, zf]
 refine ⟨fun hlt => ?_, fun hge => ?_⟩
 · have hil : i < l.length := by omega
   have hei : (l.map zS)[i]? = some (zS l[i]) := by rw [List.getElem?_map, List.getElem?_eq_getElem hil]; rfl
   have htk : l.take (i + 1) = l.take i ++ [l[i]] := List.take_succ_eq_append_getElem hil
   have hm := his _ (List.getElem_mem hil)
   generalize l[i] = x at hei htk hm
   obtain ⟨b, o, ha, hr⟩ := h2.row hei
   rw [ha, za, hr, za]
   refine l2.appO elHeld eHeld_f (i := 0) (c := zS x) rfl rfl (by omega) (by omega) (ZC hm) (heldC_ok hm) (by rw [List.length_map, List.length_take]; omega) fun s' H3 l3 => ?_
   rw [zk, za, zL, zw (by omega)]
   refine ⟨⟨i + 1, s', by omega, rfl, ?_⟩, by simp only [zC]; omega⟩
   rw [htk, List.map_append]; exact l3
 · have ei : i = l.length := by omega
   subst ei
   rw [List.take_length] at l2
   exact k H2 v l2.ext0 (l2.outN (i := 0) rfl)
theorem load04 (hB : 1 ≤ B ∧ B ≤ 1048576) (hrd : Sr 1025 H dv (l.map zS)) (hl : okL B (-1) l) (his : ∀ x ∈ l, IsB x.2) (hlen : l.length ≤ 1048576) (k : ∀ H' r, Ext H H' → New H H' (yZ r (RDk.load B l)) → R (.tuple #[z7 r, zm 0]) H') : Fc Tryz.prog 32 #[.agg #[zm B, dv]] H R := by
 have d0 : (#[zm B, dv] : Array Value)[0]? = some (zm B) := rfl
 have d1 : (#[zm B, dv] : Array Value)[1]? = some dv := rfl
 refine fn32 ?_
 simp only [sh32]
 refine (Lo.start _ H : Lx H H []).boxA fun b1 H1 _ l1 => ?_
 have l1 : Lx H H1 [.box b1 #[zm B, dv] 81] := l1
 rw [l1.ldAll (i := 0) (n := 2) rfl rfl, za]
 refine may04 hB (hrd.ext l1.ext0) hl hlen fun H2 e2 => ?_
 have l2 := l1.ext e2
 rw [zM, za, Bool.not_true, zl]
 simp only [zh, Nat.zero_add, Nat.add_zero, za]
 rw [l2.ld (i := 0) rfl, d1, za]
 have fin : ∀ {H' : Hp} {hv : Value}, Lx H H' [.box b1 #[zm B, dv] 81, .sl 149 1025 hv (l.map zS)] →
     Pu (zv Tryz.prog 130 [(0, zm B), (1, hv)]) fun x14 => ForX true H' fun H10 => Box 130 x14 H10 fun x15 H11 => ForX true H11 fun H12 => R (.tuple #[x15, zm 0]) H12 := by
   intro H' hv l3
   obtain ⟨q, w, e⟩ := (l3.sv (i := 1) rfl).len
   subst e
   rw [buildRdk, za, zp]
   intro H10 e10
   refine (l3.ext e10).boxA fun r H11 _ l4 => ?_
   rw [zp]
   intro H12 e12
   have l5 := ((l4.ext e12).nilS 149 1025).nilS 211 1026
   have l6 := l5.pick [2, 1, 3, 4] (by decide) (by simp)
   have l7 := Lo.pack (l := []) l6
   have n7 := l7.outN (i := 0) rfl
   obtain ⟨O, ho, hO⟩ := n7
   exact k H12 r l7.ext0 ⟨O, ⟨_, _, _, ho⟩, hO⟩
 refine ⟨?_, ?_, trivial⟩
 · rw [l2.ld (i := 0) rfl, d0, za, zp]
   intro H8 e8
   refine copy04 (hrd.ext (l2.ext0.trans e8)) his hlen fun H9 hv e9 n9 => ?_
   exact fin ((l2.ext e8).new e9 n9)
 · rw [zp]
   intro H8 e8
   refine copy04 (hrd.ext (l2.ext0.trans e8)) his hlen fun H9 hv e9 n9 => ?_
   have l9 := (l2.ext e8).new e9 n9
   rw [l9.ld (i := 0) rfl, d0, za]
   exact fin l9
end
end Go.Vc
namespace Go.Vc
open Go.Proofs Classical
theorem undRdk : Tryz.prog.underlying 39 = some (.pointer 130) := by kernel_rfl
section
variable {D : RDk} {hv wv ov : Value}
theorem rdk0 : (rdkC D hv wv ov)[0]? = some (zm D.n) := rfl
theorem rdk1 : (rdkC D hv wv ov)[1]? = some hv := rfl
theorem rdk2 : (rdkC D hv wv ov)[2]? = some wv := rfl
theorem rdk5 : (rdkC D hv wv ov)[5]? = some (.bool D.dead) := rfl
theorem rdk8 : (rdkC D hv wv ov)[8]? = some (zm D.seen) := rfl
theorem rdk9 : (rdkC D hv wv ov)[9]? = some (zm D.claims) := rfl
end
noncomputable def RDk.read (D : RDk) (a : Int) : RDk × Blk × Int :=
 if D.dead then (D, zB, 3) else if a < 0 ∨ D.n ≤ a then (D, zB, 2) else ({ D with seen := D.seen + 1 }, D.at_ a, 0)
def RDk.claim (D : RDk) : RDk := { D with claims := D.claims + 1, owner := D.claims + 1 }
section
variable {H : Hp} {R : Value → Hp → Prop} {r : Nat} {D : RDk} {O : Nat → Prop}
theorem rdk_top (h : (yZ r D).at_ H O) : ∃ hv wv ov, H[r]? = some (.cells (rdkC D hv wv ov) 130) := by
 obtain ⟨hv, wv, ov, ha⟩ := h
 exact ⟨hv, wv, ov, (Lo.open ha).at (i := 0) rfl⟩
theorem len04 (h : (yZ r D).at_ H O) (k : R (zm D.n) H) : Fc Tryz.prog 73 #[z7 r] H R := by
 obtain ⟨hv, wv, ov, ht⟩ := rdk_top h
 refine fn73 ?_
 simp only [sh73]
 rw [show yr Tryz.prog 39 true .eql (z7 r) (.pointer none) H = some (.bool false) from Yc undRdk, za, zl]
 simp only [zc, zh, Nat.zero_add, Nat.add_zero, za]
 rw [zo ht, rdk0, za]
 exact k
theorem at04 {hv : Value} {l : List (Int × Blk)} {a : Int} (hrd : Sr 1025 H hv (l.map zS)) (his : ∀ x ∈ l, IsB x.2) (hlen : l.length ≤ 1048576) (k : ∀ H', Ext H H' → R (.agg (Zi l a)) H') : Fc Tryz.prog 137 #[hv, zm a] H R := by
 refine fn137 ?_
 simp only [sh137, Z0, Yo, za, zu]
 refine (Lo.start _ H : Lx H H []).boxA fun b2 H2 _ l2 => ?_
 refine zz.mk (fun t H' => H' = H2 ∧ ∃ i : Nat, i ≤ l.length ∧ t = (zm i, ()) ∧ ∀ x ∈ l.take i, x.1 ≠ a) (fun t _ => mi t.1 fun i => (l.length - i).toNat) ⟨rfl, 0, by omega, rfl, by simp⟩ ?_
 rintro _ H3 ⟨rfl, i, hi, rfl, hno⟩
 have h3 := hrd.ext l2.ext0
 rw [h3.lenE yO, za, List.length_map, zt, za, zf]
 refine ⟨fun hlt => ?_, fun hge => ?_⟩
 · have hil : i < l.length := by omega
   have hei : (l.map zS)[i]? = some (zS l[i]) := by rw [List.getElem?_map, List.getElem?_eq_getElem hil]; rfl
   have hem : l[i] ∈ l := List.getElem_mem hil
   have hdr : l.drop i = l[i] :: l.drop (i + 1) := List.drop_eq_getElem_cons hil
   have htk : l.take (i + 1) = l.take i ++ [l[i]] := List.take_succ_eq_append_getElem hil
   generalize l[i] = x at hei hem hdr htk
   obtain ⟨b, o, ha, hcl, hrow⟩ := h3.el hei
   rw [ha, za, zh, za, hcl 0 (by omega), Yr, za, zA, za, zf]
   refine ⟨fun he => ?_, fun hne => ?_⟩
   · rw [za, zh, za, hrow 1 1024 (by omega), za, heldC_1 (his x hem)]
     have e : Zi l a = x.2 := by
       unfold Zi
       rw [show l = l.take i ++ l.drop i from (List.take_append_drop i l).symm, List.find?_append, List.find?_eq_none.2 (fun y hy => by simpa using hno y hy), hdr, List.find?_cons_of_pos (by simpa using he)]
       rfl
     refine l2.ret (i := 0) rfl zI (his x hem).size (his x hem).ok fun H' l' => ?_
     rw [← e]; exact k H' l'.ext0
   · rw [zk, za, zL, zw (by omega)]
     refine ⟨⟨rfl, i + 1, by omega, rfl, fun y hy => ?_⟩, by simp only [zC]; omega⟩
     rw [htk] at hy
     rcases List.mem_append.1 hy with h1 | h1
     · exact hno y h1
     · rw [List.mem_singleton.1 h1]; exact hne
 · have ei : i = l.length := by omega
   subst ei
   rw [List.take_length] at hno
   refine l2.ret (i := 0) rfl zI zI Zo.ok fun H' l' => ?_
   rw [← imgAt_out hno]; exact k H' l'.ext0
set_option maxHeartbeats 1000000 in
theorem read04 (h : (yZ r D).at_ H O) (hok : RDkOk D) {a : Int} (k : ∀ H' O', Stp O O' H H' → (yZ r (D.read a).1).at_ H' O' → R (.tuple #[.agg (D.read a).2.1, zm (D.read a).2.2]) H') : Fc Tryz.prog 91 #[z7 r, zm a] H R := by
 obtain ⟨hv, wv, ov, hall⟩ := h
 have hs := hok.seen
 have hw := hok.wlen
 have l0 : Lo O H H (rdkAll r D hv wv ov) := Lo.open hall
 refine fn91 ?_
 simp only [sh91, Z0, Yo, za, zu]
 refine l0.boxA fun b2 H1 _ l1 => ?_
 have l1 : Lo O H H1 [.box r (rdkC D hv wv ov) 130, .sl 149 1025 hv (D.held.map zS), .sl 149 1025 wv (D.wait.map zS), .sl 211 1026 ov D.ops, .box b2 zB 65] := l1
 rw [show yr Tryz.prog 39 true .eql (z7 r) (.pointer none) H1 = some (.bool false) from Yc undRdk, za, zl]
 simp only [zc, zh, Nat.zero_add, Nat.add_zero, za]
 have out : ∀ {H' : Hp} {D' : RDk} {c : Blk}, Lo O H H' [.box r (rdkC D' hv wv ov) 130, .sl 149 1025 hv (D'.held.map zS), .sl 149 1025 wv (D'.wait.map zS), .sl 211 1026 ov D'.ops, .box b2 c 65] → ∃ O', Stp O O' H H' ∧ (yZ r D').at_ H' O' := fun l' => by
   obtain ⟨O', st, ha⟩ := Lo.close (l := [_, _, _, _]) (r := [_]) l'
   exact ⟨O', st, ⟨_, _, _, ha⟩⟩
 rw [l1.ld (i := 0) rfl, rdk5, za, ZB]
 refine ⟨fun hd => ?_, fun hd => ?_⟩
 · have e : D.read a = (D, zB, 3) := by unfold RDk.read; rw [if_pos hd]
   rw [e] at k
   refine l1.ret (i := 4) rfl zI zI Zo.ok fun H' l' => ?_
   obtain ⟨O', st, ha⟩ := out (D' := D) l'
   exact k H' O' st ha
 · refine zT.mk (fun t H' => H' = H1 ∧ t.1 = .bool (decide (a < 0 ∨ D.n ≤ a))) ?_ ?_
   · rintro ⟨t, u⟩ H2 ⟨rfl, ht⟩
     simp only at ht
     subst ht
     rw [zf]
     refine ⟨fun hb => ?_, fun hb => ?_⟩
     · have e : D.read a = (D, zB, 2) := by unfold RDk.read; rw [if_neg (by simp [hd]), if_pos hb]
       rw [e] at k
       refine l1.ret (i := 4) rfl zI zI Zo.ok fun H' l' => ?_
       obtain ⟨O', st, ha⟩ := out (D' := D) l'
       exact k H' O' st ha
     · have e : D.read a = ({ D with seen := D.seen + 1 }, D.at_ a, 0) := by unfold RDk.read; rw [if_neg (by simp [hd]), if_neg hb]
       rw [e] at k
       rw [l1.ld (i := 0) rfl, rdk8, za, zk, za, zg (by omega) (by omega)]
       refine l1.st (i := 0) (j := 8) (v := zm (D.seen + 1)) rfl (by exact (by decide : 8 < 11)) rfl rfl fun H3 l3 => ?_
       have l3 : Lo O H H3 [.box r (rdkC { D with seen := D.seen + 1 } hv wv ov) 130, .sl 149 1025 hv (D.held.map zS), .sl 149 1025 wv (D.wait.map zS), .sl 211 1026 ov D.ops, .box b2 zB 65] := l3
       have hwl := (l3.sv (i := 2) rfl).sr
       rw [l3.ld (i := 0) rfl, rdk2, za, hwl.lenE yO, za, List.length_map, zU, za, zg (by omega) (by omega)]
       refine zz.mk (fun t H' => H' = H3 ∧ ∃ j : Nat, j ≤ D.wait.length ∧ t = (zm ((j : Int) - 1), ()) ∧ ∀ x ∈ D.wait.drop j, x.1 ≠ a) (fun t _ => mi t.1 fun x => (x + 1).toNat) ⟨rfl, D.wait.length, by omega, rfl, by simp⟩ ?_
       rintro _ H4 ⟨rfl, j, hj, rfl, hno⟩
       rw [zY, za, zf]
       refine ⟨fun hge => ?_, fun hlt => ?_⟩
       · obtain ⟨i, ei⟩ : ∃ i : Nat, j = i + 1 := ⟨j - 1, by omega⟩
         subst ei
         have hil : i < D.wait.length := by omega
         have hei : (D.wait.map zS)[i]? = some (zS D.wait[i]) := by rw [List.getElem?_map, List.getElem?_eq_getElem hil]; rfl
         have hem : D.wait[i] ∈ D.wait := List.getElem_mem hil
         have hdr : D.wait.drop i = D.wait[i] :: D.wait.drop (i + 1) := List.drop_eq_getElem_cons hil
         generalize D.wait[i] = x at hei hem hdr
         have hxb := hok.wait x hem
         obtain ⟨b, o, ha, hcl, hrow⟩ := hwl.el hei
         have ha' : zi (some (none, 1025)) wv (zm (((i + 1 : Nat) : Int) - 1)) = some (.pointer (some ⟨b, o, none⟩)) := by rw [show ((i + 1 : Nat) : Int) - 1 = (i : Int) by omega]; exact ha .i64
         rw [l3.ld (i := 0) rfl, rdk2, za, ha', za, zh, za, hcl 0 (by omega), Yr, za, zA, za, zf]
         refine ⟨fun he => ?_, fun hne => ?_⟩
         · rw [za, ha', za, zh, za, hrow 1 1024 (by omega), za, heldC_1 hxb]
           have ea : D.at_ a = x.2 := by
             unfold RDk.at_
             have er : D.wait.reverse.find? (fun x => decide (x.1 = a)) = some x := by
               rw [show D.wait = D.wait.take i ++ D.wait.drop i from (List.take_append_drop i _).symm, hdr, List.reverse_append, List.reverse_cons, List.append_assoc, List.find?_append, List.find?_eq_none.2 (fun y hy => by simpa using hno y (List.mem_reverse.1 hy))]
               rw [List.singleton_append, List.find?_cons_of_pos (by simpa using he)]
               rfl
             rw [er]
           rw [ea] at k
           refine l3.ret (i := 4) rfl zI hxb.size hxb.ok fun H' l' => ?_
           obtain ⟨O', st, ha⟩ := out (D' := { D with seen := D.seen + 1 }) l'
           exact k H' O' st ha
         · rw [zU, za, zg (by omega) (by omega)]
           refine ⟨⟨rfl, i, by omega, ?_, fun y hy => ?_⟩, by simp only [zC]; omega⟩
           · rw [show (((i + 1 : Nat) : Int) - 1 - 1) = (i : Int) - 1 by omega]; rfl
           · rw [hdr] at hy
             rcases List.mem_cons.1 hy with e2 | e2
             · rw [e2]; exact hne
             · exact hno y e2
       · have ej : j = 0 := by omega
         subst ej
         rw [List.drop_zero] at hno
         have ea : D.at_ a = Zi D.held a := by
           unfold RDk.at_
           rw [List.find?_eq_none.2 fun x hx => by simpa using hno x (List.mem_reverse.1 hx)]
         rw [ea] at k
         have hb := ZA hok.held a
         rw [l3.ld (i := 0) rfl, rdk1, za]
         refine at04 (l3.sv (i := 1) rfl).sr hok.held hok.hlen fun H5 e5 => ?_
         refine (l3.ext e5).ret (i := 4) rfl zI hb.size hb.ok fun H' l' => ?_
         obtain ⟨O', st, ha⟩ := out (D' := { D with seen := D.seen + 1 }) l'
         exact k H' O' st ha
   · rw [zt, za, zf]
     refine ⟨fun h0 => ⟨rfl, yj (.inl h0)⟩, fun h0 => ?_⟩
     rw [l1.ld (i := 0) rfl, rdk0, za, zY, za]
     exact ⟨rfl, Yi ⟨fun e => .inr e, fun e => e.resolve_left h0⟩⟩
theorem claim04 (h : (yZ r D).at_ H O) (hok : RDkOk D) (hd : D.dead = false) (k : ∀ H' O', Stp O O' H H' → (yZ r D.claim).at_ H' O' → R (zm (D.claims + 1)) H') : Fc Tryz.prog 89 #[z7 r] H R := by
 obtain ⟨hv, wv, ov, hall⟩ := h
 have hc := hok.claims
 have l0 : Lo O H H [.box r (rdkC D hv wv ov) 130, .sl 149 1025 hv (D.held.map zS), .sl 149 1025 wv (D.wait.map zS), .sl 211 1026 ov D.ops] := Lo.open hall
 refine fn89 ?_
 simp only [sh89, zu]
 simp only [zc, zh, Nat.zero_add, Nat.add_zero, za]
 refine zT.mk (fun t H' => H' = H ∧ t.1 = .bool false) ?_ ?_
 · rintro ⟨t, u⟩ H2 ⟨rfl, ht⟩
   simp only at ht
   subst ht
   rw [zl, l0.ld (i := 0) rfl, rdk9, za, zk, za, zg (by omega) (by omega)]
   refine l0.st (i := 0) (j := 9) (v := zm (D.claims + 1)) rfl (by exact (by decide : 9 < 11)) rfl rfl fun H3 l3 => ?_
   have l3 : Lo O H2 H3 [.box r (rdkC { D with claims := D.claims + 1 } hv wv ov) 130, .sl 149 1025 hv (D.held.map zS), .sl 149 1025 wv (D.wait.map zS), .sl 211 1026 ov D.ops] := l3
   rw [l3.ld (i := 0) rfl, rdk9, za]
   refine l3.st (i := 0) (j := 10) (v := zm (D.claims + 1)) rfl (by exact (by decide : 10 < 11)) rfl rfl fun H4 l4 => ?_
   have l4 : Lo O H2 H4 [.box r (rdkC D.claim hv wv ov) 130, .sl 149 1025 hv (D.held.map zS), .sl 149 1025 wv (D.wait.map zS), .sl 211 1026 ov D.ops] := l4
   rw [l4.ld (i := 0) rfl, rdk9, za]
   obtain ⟨O', st, ha⟩ := Lo.close (l := [_, _, _, _]) (r := []) l4
   exact k H4 O' st ⟨_, _, _, ha⟩
 · rw [show yr Tryz.prog 39 true .eql (z7 r) (.pointer none) H = some (.bool false) from Yc undRdk, za, zl, l0.ld (i := 0) rfl, rdk5, za, hd]
   exact ⟨rfl, rfl⟩
end
end Go.Vc
namespace Go.Vc
open Go.Proofs Classical
theorem Lo.close1 {O : Nat → Prop} {H H' : Hp} {x : Ob} {r : List Ob} (l : Lo O H H' (x :: r)) : ∃ O', Stp O O' H H' ∧ x.at_ H' O' := by
 obtain ⟨O', s, ha⟩ := Lo.close (l := [x]) (r := r) l
 refine ⟨O', s, ?_⟩
 obtain ⟨⟨col, w, hc⟩, hl⟩ := ha
 exact Ob.frame _ (w.obs 0 _ rfl) (fun _ _ => rfl) (Nat.le_refl _) (fun b hb => hc b (by have hb : col b = 0 + 1 := hb; omega)) hl
structure RLg where
 mine : Int
 made : Bool
 group : List (Int × Blk)
 step : Bool
 room : Int
 wrote : List Int
 commit : Int
 over : Int
def rlgC (r : Nat) (x : Lay) (G : RLg) (gv tv : Value) : Array Value := #[z7 r, zm x.B, zm x.L, zm x.I, zm x.logAt, zm x.nodeAt, zm x.nodeBlocks, zm x.bitsAt, zm x.bitsBlocks, zm x.dataAt, zm G.mine, .bool G.made, gv, .bool G.step, zm G.room, tv, zm G.commit, zm G.over]
def nI (n : Int) : Array Value := #[zm n]
def docAll (w r : Nat) (D : RDk) (x : Lay) (G : RLg) (gv tv : Value) : List Ob := [yZ r D, .box w (rlgC r x G gv tv) 128, .sl 161 1025 gv (G.group.map zS), .sl 3 1 tv (G.wrote.map nI)]
def docOb (w r : Nat) (D : RDk) (x : Lay) (G : RLg) : Ob :=
 ⟨fun H O => ∃ gv tv, (Ob.all (docAll w r D x G gv tv)).at_ H O,
  fun ⟨_, _, h⟩ => Ob.own _ h, fun ⟨gv, tv, h⟩ hb hs ho hl => ⟨gv, tv, Ob.frame _ h hb hs ho hl⟩⟩
def RLg.new (mine : Int) : RLg := ⟨mine, true, [], false, 0, [], 0, 0⟩
theorem buildRlg (r : Nat) (a b c d e f g h i mine : Int) : zv Tryz.prog 128 [(0, z7 r), (1, .agg (Lay.cells ⟨a, b, c, d, e, f, g, h, i⟩)), (2, zm mine), (3, .bool true)] = some (.agg (rlgC r ⟨a, b, c, d, e, f, g, h, i⟩ (RLg.new mine) (.slice none 0 0) (.slice none 0 0))) := by kernel_rfl
section
variable {H : Hp} {R : Value → Hp → Prop} {r : Nat} {D : RDk} {O : Nat → Prop} {B L I : Int}
theorem may08 (h : (yZ r D).at_ H O) (hg : Zn B L I) (hn : B ≤ D.n) (k : ∀ H', Ext H H' → R (.bool true) H') : Fc Tryz.prog 132 #[z7 r, .agg (zq B L I).cells] H R := by
 obtain ⟨gL1, gL2, gI1, gI2, gB1, gB2, gD⟩ := id hg
 have c0 : (zq B L I).cells[0]? = some (zm B) := rfl
 have hx : ∀ {H'}, Ext H H' → ∃ O', (yZ r D).at_ H' O' := fun e => ((Lo.own h).ext e).get (i := 0) rfl
 refine fn132 ?_
 simp only [sh132]
 refine (Lo.start _ H : Lx H H []).boxA fun b1 H1 _ l1 => ?_
 rw [l1.ldAll (i := 0) (n := 9) rfl (Lay.size _), za]
 refine fits3 (by omega) hg fun H2 e2 => ?_
 have l2 := l1.ext e2
 rw [zZ]
 simp only [zh, Nat.zero_add, Nat.add_zero, za]
 refine ⟨?_, ?_, trivial⟩
 · rw [l2.ld (i := 0) rfl, c0, za, zp]
   intro H3 e3
   obtain ⟨O', h3⟩ := hx (l2.ext0.trans e3)
   refine len04 h3 ?_
   rw [yT, za, decide_eq_true hn, zp]
   exact fun H4 e4 => k H4 ((l2.ext0.trans e3).trans e4)
 · rw [zp]
   intro H3 e3
   obtain ⟨O', h3⟩ := hx (l2.ext0.trans e3)
   refine len04 h3 ?_
   rw [(l2.ext e3).ld (i := 0) rfl, c0, za, yT, za, decide_eq_true hn, zp]
   exact fun H4 e4 => k H4 ((l2.ext0.trans e3).trans e4)
theorem RDk.read_alive {a : Int} (hd : D.dead = false) (h0 : 0 ≤ a) (h1 : a < D.n) : D.read a = ({ D with seen := D.seen + 1 }, D.at_ a, 0) := by
 unfold RDk.read; rw [if_neg (by simp [hd]), if_neg (by omega)]
theorem header08 (h : (yZ r D).at_ H O) (hok : RDkOk D) (hd : D.dead = false) (hg : Zn B L I) (hn : B ≤ D.n) (hz : D.at_ 1 = zB) (k : ∀ H' O', Stp O O' H H' → (yZ r { D with seen := D.seen + 1 }).at_ H' O' → R (.tuple #[.agg zHd, zm 0]) H') : Fc Tryz.prog 88 #[z7 r, .agg (zq B L I).cells] H R := by
 obtain ⟨gL1, gL2, gI1, gI2, gB1, gB2, gD⟩ := id hg
 have hDA : (zq B L I).dataAt = 1 + L + (I + 16) / 16 + (B + 8191) / 8192 := rfl
 have c3 : (zq B L I).cells[3]? = some (zm 1) := rfl
 have x3 : ∀ {a b : Value}, ze (.tuple #[a, b]) 0 = some a := rfl
 have x4 : ∀ {a b : Value}, ze (.tuple #[a, b]) 1 = some b := rfl
 have hrd := RDk.read_alive (a := 1) hd (by omega) (by omega)
 refine fn88 ?_
 simp only [sh88, zeroHd, Z0, za]
 refine (Lo.own h).boxA fun b1 H1 _ l1 => ?_
 refine l1.boxA fun b2 H2 _ l2 => ?_
 have l2 : Lo O H H2 [yZ r D, .box b1 (zq B L I).cells 62, .box b2 zHd 151] := l2
 rw [show yr Tryz.prog 39 true .eql (z7 r) (.pointer none) H2 = some (.bool false) from Yc undRdk, za, zl, l2.ldAll (i := 1) (n := 9) rfl (Lay.size _), za]
 obtain ⟨O2, h2, _⟩ := l2.call (i := 0) rfl
 refine may08 h2 hg hn fun H3 e3 => ?_
 have l3 := l2.ext e3
 rw [zM, za, Bool.not_true, zl, zh, za, Nat.zero_add, l3.ld (i := 1) rfl, c3, za]
 obtain ⟨O3, h3, st3⟩ := l3.call (i := 0) rfl
 refine read04 h3 hok fun H4 O4 s4 h4 => ?_
 rw [hrd] at h4 ⊢
 have l4 : Lo O H H4 [yZ r { D with seen := D.seen + 1 }, .box b1 (zq B L I).cells 62, .box b2 zHd 151] := st3 H4 _ O4 s4 h4
 simp only [hz]
 rw [x3, za, x4, za]
 refine l4.boxA fun b3 H5 _ l5 => ?_
 refine l5.stAll (i := 3) rfl zI zI Zo.ok fun H6 l6 => ?_
 rw [zx, za, decide_eq_false (by omega), zl, l6.ldAll (i := 1) (n := 9) rfl (Lay.size _), za, l6.ldAll (i := 3) (n := 1024) rfl zI, za]
 refine dec7 hg fun H7 e7 => ?_
 rw [x3, za, x4, za]
 refine (l6.ext e7).boxA fun b4 H8 _ l8 => ?_
 refine l8.stAll (i := 4) rfl rfl rfl zHd_ok fun H9 l9 => ?_
 rw [zx, za, decide_eq_false (by omega), zl, l9.ldAll (i := 4) (n := 1) rfl rfl, za]
 refine l9.ret (i := 2) (K := fun x H4 => R (.tuple #[x, zm 0]) H4) rfl rfl rfl zHd_ok fun H' l' => ?_
 obtain ⟨O', s', h'⟩ := Lo.close1 (x := yZ r { D with seen := D.seen + 1 }) (r := [_, _, _, _]) l'
 exact k H' O' s' h'
theorem new08 (h : (yZ r D).at_ H O) (hok : RDkOk D) (hd : D.dead = false) (hg : Zn B L I) (hn : B ≤ D.n) (hz : D.at_ 1 = zB) (hs : D.seen < 4611686018427387903) (k : ∀ H' O' w, Stp O O' H H' → (docOb w r ({ D with seen := D.seen + 1 } : RDk).claim (zq B L I) (RLg.new (D.claims + 1))).at_ H' O' → R (.tuple #[z7 w, zm 0]) H') : Fc Tryz.prog 33 #[z7 r, .agg (zq B L I).cells] H R := by
 have x3 : ∀ {a b : Value}, ze (.tuple #[a, b]) 0 = some a := rfl
 have x4 : ∀ {a b : Value}, ze (.tuple #[a, b]) 1 = some b := rfl
 have z0 : zHd[0]? = some (.slice none 0 0) := rfl
 have hok1 : RDkOk { D with seen := D.seen + 1 } := { hok with seen := by have := hok.seen; exact ⟨by show 0 ≤ D.seen + 1; omega, by show D.seen + 1 < _; omega⟩ }
 refine fn33 ?_
 simp only [sh33, zeroHd, za]
 refine (Lo.own h).boxA fun b1 H1 _ l1 => ?_
 have l1 : Lo O H H1 [yZ r D, .box b1 (zq B L I).cells 62] := l1
 rw [l1.ldAll (i := 1) (n := 9) rfl (Lay.size _), za]
 obtain ⟨O1, h1, st1⟩ := l1.call (i := 0) rfl
 refine header08 h1 hok hd hg hn hz fun H2 O2 s2 h2 => ?_
 have l2 : Lo O H H2 [yZ r { D with seen := D.seen + 1 }, .box b1 (zq B L I).cells 62] := st1 H2 _ O2 s2 h2
 rw [x3, za, x4, za]
 refine l2.boxA fun b2 H3 _ l3 => ?_
 refine l3.stAll (i := 2) rfl rfl rfl zHd_ok fun H4 l4 => ?_
 have l4 : Lo O H H4 [yZ r { D with seen := D.seen + 1 }, .box b1 (zq B L I).cells 62, .box b2 zHd 151] := l4
 rw [zx, za, decide_eq_false (by omega), zl, zh, za, Nat.zero_add, l4.ld (i := 2) rfl, z0, za, lenNilInts, za, zN, za, decide_eq_false (by omega), zl]
 have fin : ∀ {H' : Hp}, Lo O H H' [yZ r ({ D with seen := D.seen + 1 } : RDk).claim, .box b1 (zq B L I).cells 62, .box b2 zHd 151] →
     Pu (zv Tryz.prog 128 [(0, z7 r), (1, .agg (zq B L I).cells), (2, zm (D.claims + 1)), (3, (.bool true))]) fun x19 => ForX true H' fun H12 => Box 128 x19 H12 fun x20 H13 => ForX true H13 fun H14 => R (.tuple #[x20, zm 0]) H14 := by
   intro H' l5
   unfold zq
   rw [buildRlg, za, zp]
   intro H12 e12
   refine (l5.ext e12).boxA fun w H13 _ l6 => ?_
   rw [zp]
   intro H14 e14
   have l7 := ((l6.ext e14).nilS 161 1025).nilS 3 1
   have l8 := l7.pick [0, 3, 4, 5] (by decide) (by simp)
   obtain ⟨O', s', h'⟩ := Lo.close (l := [_, _, _, _]) (r := []) l8
   exact k H14 O' w s' ⟨_, _, h'⟩
 refine ⟨?_, ?_, trivial⟩
 · rw [l4.ldAll (i := 1) (n := 9) rfl (Lay.size _), za, zp]
   intro H5 e5
   obtain ⟨O5, h5, st5⟩ := (l4.ext e5).call (i := 0) rfl
   refine claim04 h5 hok1 hd fun H6 O6 s6 h6 => ?_
   exact fin (st5 H6 _ O6 s6 h6)
 · rw [zp]
   intro H5 e5
   obtain ⟨O5, h5, st5⟩ := (l4.ext e5).call (i := 0) rfl
   refine claim04 h5 hok1 hd fun H6 O6 s6 h6 => ?_
   have l6 : Lo O H H6 [yZ r ({ D with seen := D.seen + 1 } : RDk).claim, .box b1 (zq B L I).cells 62, .box b2 zHd 151] := st5 H6 _ O6 s6 h6
   rw [l6.ldAll (i := 1) (n := 9) rfl (Lay.size _), za]
   exact fin l6
end
end Go.Vc
namespace Go.Vc
open Go.Proofs Classical
theorem okL_gt {n : Int} : ∀ {l : List (Int × Blk)} {b : Int}, okL n b l → ∀ x ∈ l, b < x.1
 | [], _, _, x, h => by cases h
 | y :: l, b, h, x, hx => by
   rcases List.mem_cons.1 hx with e | e
   · rw [e]; exact h.1
   · have := okL_gt h.2.2.2.2 x e
     have := h.1
     omega
theorem held_fold {n : Int} : ∀ {l : List (Int × Blk)} {b : Int} (g : Int → Blk) (a : Int), okL n b l → (l.foldl (fun g x => updB g x.1 x.2) g) a = if ∃ x ∈ l, x.1 = a then Zi l a else g a
 | [], _, g, a, _ => by simp
 | y :: l, b, g, a, h => by
   rw [List.foldl_cons, held_fold (updB g y.1 y.2) a h.2.2.2.2, imgAt_cons]
   have hgt := okL_gt h.2.2.2.2
   by_cases e : y.1 = a
   · rw [if_neg (by rintro ⟨x, hx, ex⟩; have := hgt x hx; omega), if_pos ⟨y, List.mem_cons_self .., e⟩, if_pos e]
     unfold updB
     rw [if_pos e.symm]
   · rw [if_neg e]
     by_cases e2 : ∃ x ∈ l, x.1 = a
     · rw [if_pos e2, if_pos]
       obtain ⟨x, hx, ex⟩ := e2
       exact ⟨x, List.mem_cons_of_mem _ hx, ex⟩
     · rw [if_neg e2, if_neg]
       · unfold updB
         rw [if_neg (fun e3 => e e3.symm)]
       · rintro ⟨x, hx, ex⟩
         rcases List.mem_cons.1 hx with e4 | e4
         · rw [e4] at ex; exact e ex
         · exact e2 ⟨x, e4, ex⟩
theorem heldL_img {n b : Int} {l : List (Int × Blk)} (h : okL n b l) (a : Int) : heldL l a = Zi l a := by
 unfold heldL
 rw [held_fold _ a h]
 split
 · rfl
 · rename_i hno
   rw [imgAt_out fun x hx e => hno ⟨x, hx, e⟩]
def diskOb (p : Nat) (s : DS) : Ob :=
 ⟨fun H O => (∃ Od, DiskAt H p s Od ∧ ∀ b, Od b → O b) ∧ ∀ b, O b → b < H.size, fun h => h.2,
  fun ⟨⟨Od, h1, h2⟩, _⟩ hb hs ho hl => ⟨⟨Od, h1.of (fun b hh => hb b (h2 b hh)) hs, fun b hh => ho b (h2 b hh)⟩, hl⟩⟩
theorem LogRd.of {H H' : Hp} {lb p cb mb : Nat} {s : DS} {cs : List Pl} {x : Lay} {mine : Int} {O Oc : Nat → Prop} (h : LogRd H lb p cb mb s cs x mine O Oc) (h1 : ∀ b, O b → H'[b]? = H[b]?) (h2 : ∀ b, Oc b → H'[b]? = H[b]?) (h3 : H'[mb]? = H[mb]?) (h4 : H'[lb]? = H[lb]?) (hs : H.size ≤ H'.size) : LogRd H' lb p cb mb s cs x mine O Oc :=
 { h with dk := h.dk.of h1 hs, ca := h.ca.of h2 hs, mp := h.mp.of h3, top := by rw [h4]; exact h.top }
def logOb (lb p : Nat) (s : DS) (cs : List Pl) (x : Lay) (mine : Int) : Ob :=
 ⟨fun H O => (∃ cb mb Od Oc, LogRd H lb p cb mb s cs x mine Od Oc ∧ (∀ b, Od b → O b) ∧ (∀ b, Oc b → O b) ∧ O mb ∧ O lb) ∧ ∀ b, O b → b < H.size, fun h => h.2,
  fun ⟨⟨cb, mb, Od, Oc, h1, h2, h3, h4, h5⟩, _⟩ hb hs ho hl => ⟨⟨cb, mb, Od, Oc, h1.of (fun b hh => hb b (h2 b hh)) (fun b hh => hb b (h3 b hh)) (hb _ h4) (hb _ h5) hs, fun b hh => ho b (h2 b hh), fun b hh => ho b (h3 b hh), ho _ h4, ho _ h5⟩, hl⟩⟩
theorem eqX_ptrN {P : Program} {T e : TypeId} {lit : Bool} {a : Addr} {H : Hp} (hu : P.underlying T = some (.pointer e)) : yr P T lit .neq (.pointer (some a)) (.pointer none) H = some (.bool true) := by
 simp [yr, eqE, eqD, hu]
def prC (p lb r w : Nat) : Array Value := #[z7 p, z7 lb, z7 r, z7 w]
theorem buildPr (p lb r w : Nat) : zv Tryz.prog 42 [(0, z7 p), (1, z7 lb), (2, z7 r), (3, z7 w)] = some (.agg (prC p lb r w)) := by kernel_rfl
def wldC (B L I : Int) (iv : Value) (fr sp seed : Int) : Array Value := #[zm B, zm L, zm I, iv, zm fr, zm sp, zm seed]
noncomputable def dsOf (B : Int) (l : List (Int × Blk)) : DS := ({ DS.load B l with reads := 1 } : DS).claimed
noncomputable def rdOf (B : Int) (l : List (Int × Blk)) : RDk := ({ RDk.load B l with seen := 1 } : RDk).claim
section
variable {H : Hp} {R : Value → Hp → Prop}
set_option maxHeartbeats 2000000 in
theorem begin_kit {B L I : Int} (hB : -9223372036854775808 ≤ B ∧ B ≤ 9223372036854775807) {iv : Value} {its : List Itm} (hst : StAt H iv its) (hits : ∀ t ∈ its, Z5 t) (hlen : its.length < 281474976710656) {fr sp seed : Int} (hseed : -9223372036854775808 ≤ seed ∧ seed ≤ 9223372036854775807) (hiv : ∃ b n c, iv = .slice b n c)
   (kno : ∀ H', Ext H H' → R (.tuple #[.pointer none, .bool false, .bool false]) H')
   (k : ∀ H' pp p lb r w m0 fs m, MaySt B L I its fr sp m0 fs → MOf m B L I → (zH m its (pg0 m)).full = false →
     Lx H H' [.box pp (prC p lb r w) 42, logOb lb p (dsOf B (Yl 0 (Zy m (zH m its (pg0 m)) (seed % 1000003).toNat))) [] (zq B L I) 1, docOb w r (rdOf B (Yl 0 (Zy m (zH m its (pg0 m)) (seed % 1000003).toNat))) (zq B L I) (RLg.new 1)] → R (.tuple #[z7 pp, .bool true, .bool true]) H') :
   Fc Tryz.prog 6 #[.agg (wldC B L I iv fr sp seed)] H R := by
 have x3 : ∀ {a b : Value}, ze (.tuple #[a, b]) 0 = some a := rfl
 have x4 : ∀ {a b : Value}, ze (.tuple #[a, b]) 1 = some b := rfl
 obtain ⟨ivb, ivn, ivc, eiv⟩ := hiv
 have w0 : (wldC B L I iv fr sp seed).extract 0 (0 + 3) = #[zm B, zm L, zm I] := by simp [wldC]
 have w3 : (wldC B L I iv fr sp seed).extract 3 (3 + 3) = stC iv fr sp := by simp [wldC, stC]
 have w6 : (wldC B L I iv fr sp seed)[6]? = some (zm seed) := rfl
 have wsz : (wldC B L I iv fr sp seed).size = 7 := rfl
 refine fn6 ?_
 simp only [sh6, zeroImg, yt, za, zu]
 refine (Lo.start _ H : Lx H H []).boxA fun b1 H1 _ l1 => ?_
 have l1 : Lx H H1 [.box b1 (wldC B L I iv fr sp seed) 28] := l1
 simp only [zh, Nat.zero_add, Nat.add_zero, za]
 rw [Zj (l1.at (i := 0) rfl) (show 0 + 3 ≤ 7 by omega), za, w0, Zj (l1.at (i := 0) rfl) (show 3 + 3 ≤ 7 by omega), za, w3]
 refine may_kit hB (hst.ext l1.ext0) hits hlen ⟨ivb, ivn, ivc, eiv⟩ (fun H2 e2 => ?_) (fun H2 m0 fs e2 hmay => ?_)
 · rw [zM, za, Bool.not_false, zZ]
   exact kno H2 (l1.ext e2).ext0
 have l2 := l1.ext e2
 rw [zM, za, Bool.not_true, zl]
 rw [Zj (l2.at (i := 0) rfl) (show 0 + 3 ≤ 7 by omega), za, w0, Zj (l2.at (i := 0) rfl) (show 3 + 3 ≤ 7 by omega), za, w3, l2.ld (i := 0) rfl, w6, za]
 refine laid_ok hB (hst.ext l2.ext0) hits hlen hseed (fun H3 e3 hbad => ?_) (fun H3 dv m e3 hg hm hfull n3 => ?_)
 · exfalso
   obtain ⟨m', hm', hf'⟩ := hbad hmay.ok
   have := (room_same hmay.mof hm' hmay.ok hits).full
   rw [hf', hmay.room] at this
   cases this
 have k := fun H' pp p lb r w => k H' pp p lb r w m0 fs m hmay hm hfull
 obtain ⟨gL1, gL2, gI1, gI2, gB1, gB2, gD⟩ := id hg
 have hDA : (zq B L I).dataAt = 1 + L + (I + 16) / 16 + (B + 8191) / 8192 := rfl
 have im := im_ok hg hm hits hm.B n3.sv.sr
 obtain ⟨q, r0, edv⟩ := n3.sv.len
 have l3 := l2.new e3 n3
 generalize Yl 0 (Zy m (zH m its (pg0 m)) (seed % 1000003).toNat) = l at im l3 k n3 edv
 refine l3.boxA fun b3 H4 _ l4 => ?_
 refine l4.stAll (i := 2) (n := 2) (vs := #[zm B, dv]) rfl rfl rfl (by rw [edv]; unfold zG; rw [← Array.all_toList]; rfl) fun H5 l5 => ?_
 rw [Zj (l5.at (i := 0) rfl) (show 0 + 3 ≤ 7 by omega), za, w0]
 refine of3 hB (fun H6 e6 _ => ?_) (fun H6 e6 hno => absurd hg hno)
 rw [x3, za, x4, za]
 refine (l5.ext e6).boxA fun b4 H7 _ l7 => ?_
 refine l7.stAll (i := 3) (n := 9) rfl rfl (Lay.size _) (Lay.cok _) fun H8 l8 => ?_
 have l8 : Lx H H8 [.box b1 (wldC B L I iv fr sp seed) 28, .sl 149 1025 dv (l.map zS), .box b3 #[zm B, dv] 81, .box b4 (zq B L I).cells 62] := l8
 rw [l8.ldAll (i := 2) (n := 2) rfl rfl, za]
 refine disk_load gB1 gB2 (l8.sv (i := 1) rfl) im.whole im.len fun H9 p e9 hdk => ?_
 have l9 : Lx H H9 [.box b1 (wldC B L I iv fr sp seed) 28, .sl 149 1025 dv (l.map zS), .box b3 #[zm B, dv] 81, .box b4 (zq B L I).cells 62, diskOb p (DS.load B l)] := l8.add e9 (x := diskOb p (DS.load B l)) (O := fun b => H8.size ≤ b ∧ b < H9.size) ⟨⟨_, hdk, fun b hb => hb⟩, fun b hb => hb.2⟩ fun b hb => hb.1
 rw [x3, za, x4, za]
 refine zT.mk (fun t H' => H' = H9 ∧ t.1 = .bool false) ?_ ?_
 rotate_left
 · rw [show yr Tryz.prog 37 true .eql (z7 p) (.pointer none) H9 = some (.bool false) from Yc (e := 115) (by kernel_rfl), za, zl, zx, za]
   exact ⟨rfl, rfl⟩
 rintro ⟨t, u⟩ H10 ⟨rfl, ht⟩
 simp only at ht
 subst ht
 rw [zl, l9.ldAll (i := 3) (n := 9) rfl (Lay.size _), za]
 obtain ⟨O9, ⟨⟨Od, hd9, hsub⟩, hO9⟩, st9⟩ := l9.call (i := 4) rfl
 refine wal_new hd9 hB hg (show B ≤ B from Int.le_refl _) rfl (by show (0 : Int) < _ ∧ (0 : Int) ≤ 0; omega) (by show heldL l 1 = zB; rw [heldL_img im.whole]; exact im.hd) (by show (0 : Int) ≤ 0 ∧ (0 : Int) < _; omega) fun H11 lb mb cb Oc s11 hd11 hc11 hm11 o1 o2 o3 o4 o5 o6 htop => ?_
 have hdl := hd9.lt
 have l11 : Lx H H11 [.box b1 (wldC B L I iv fr sp seed) 28, .sl 149 1025 dv (l.map zS), .box b3 #[zm B, dv] 81, .box b4 (zq B L I).cells 62, logOb lb p (dsOf B l) [] (zq B L I) 1] := by
   refine st9 H11 (logOb lb p (dsOf B l) [] (zq B L I) 1) (fun b => O9 b ∨ Oc b ∨ b = mb ∨ b = lb) ⟨s11.kp.mono fun b _ hb => hsub b hb, fun b hb => ?_⟩ ⟨⟨cb, mb, Od, Oc, ⟨hd11, hc11, hm11, htop, fun b hb hc => ?_, ⟨fun hh => ?_, o5, fun hh => ?_, o4, o6⟩, ⟨by omega, rfl⟩⟩, fun b hb => .inl (hsub b hb), fun b hb => .inr (.inl hb), .inr (.inr (.inl rfl)), .inr (.inr (.inr rfl))⟩, fun b hb => ?_⟩
   · rcases hb with hb | hb | hb | hb
     · exact .inl hb
     · exact .inr (o1 b hb)
     · rw [hb]; exact .inr o2
     · rw [hb]; exact .inr o3
   · have := hdl b hb; have := o1 b hc; omega
   · have := hdl _ hh; omega
   · have := hdl _ hh; omega
   · rcases hb with hb | hb | hb | hb
     · exact Nat.lt_of_lt_of_le (hO9 b hb) s11.kp.le
     · exact hc11.lt b hb
     · rw [hb]; exact hm11.lt
     · rw [hb]; exact (Array.getElem?_eq_some_iff.1 htop).1
 rw [x3, za, x4, za]
 refine zT.mk (fun t H' => H' = H11 ∧ t.1 = .bool false) ?_ ?_
 rotate_left
 · rw [show yr Tryz.prog 38 true .eql (z7 lb) (.pointer none) H11 = some (.bool false) from Yc (e := 100) (by kernel_rfl), za, zl, zx, za]
   exact ⟨rfl, rfl⟩
 rintro ⟨t, u⟩ H12 ⟨rfl, ht⟩
 simp only at ht
 subst ht
 rw [zl, l11.ldAll (i := 2) (n := 2) rfl rfl, za]
 refine load04 ⟨gB1, gB2⟩ (l11.sv (i := 1) rfl).sr im.whole im.is im.len fun H13 r e13 n13 => ?_
 have l13 := l11.new e13 n13
 have l13 : Lx H H13 [.box b1 (wldC B L I iv fr sp seed) 28, .sl 149 1025 dv (l.map zS), .box b3 #[zm B, dv] 81, .box b4 (zq B L I).cells 62, logOb lb p (dsOf B l) [] (zq B L I) 1, yZ r (RDk.load B l)] := l13
 rw [x3, za, x4, za, l13.ldAll (i := 3) (n := 9) rfl (Lay.size _), za]
 obtain ⟨O13, h13, st13⟩ := l13.call (i := 5) rfl
 refine new08 h13 (RDk.load_ok im.is im.len) rfl hg (show B ≤ B from Int.le_refl _) (by rw [show (RDk.load B l).at_ 1 = Zi l 1 from rfl]; exact im.hd) (by show (0 : Int) < _; omega) fun H14 O14 w s14 h14 => ?_
 have l14 : Lx H H14 [.box b1 (wldC B L I iv fr sp seed) 28, .sl 149 1025 dv (l.map zS), .box b3 #[zm B, dv] 81, .box b4 (zq B L I).cells 62, logOb lb p (dsOf B l) [] (zq B L I) 1, docOb w r (rdOf B l) (zq B L I) (RLg.new 1)] := st13 H14 _ O14 s14 h14
 rw [x3, za, x4, za, buildPr, za]
 refine l14.boxA fun pp H15 _ l15 => ?_
 rw [show yr Tryz.prog 40 true .neq (z7 w) (.pointer none) H15 = some (.bool true) from eqX_ptrN (e := 128) (by kernel_rfl), za]
 exact k H15 pp p lb r w (l15.pick [6, 4, 5] (by decide) (by simp))
end
end Go.Vc
namespace Go.Vc
open Go.Proofs Classical
theorem or_add {x y e z : Nat} (hx : x < 2 ^ e) (hy : y = 2 ^ e * z) : x ||| y = x + y := by
 rw [hy, Nat.or_comm, ← Nat.two_pow_add_eq_or_of_lt hx, Nat.add_comm]
section
variable {H : Hp} {R : Value → Hp → Prop}
theorem orU16 {x y e z : Nat} (hx : x < 2 ^ e) (hy : y = 2 ^ e * z) (hs : x + y < 65536) {td : Option TypeDesc} : zn td .or (.int .u16 x) (.int .u16 y) = some (.int .u16 ((x + y : Nat) : Int)) := by
 rw [binE_or]
 have e1 : bitsE .or .u16 (x : Int) (y : Int) = IntKind.u16.wrap (((BitVec.ofInt 16 (x : Int) ||| BitVec.ofInt 16 (y : Int)).toNat : Nat) : Int) := rfl
 rw [e1, BitVec.ofInt_natCast, BitVec.ofInt_natCast, BitVec.toNat_or, BitVec.toNat_ofNat, BitVec.toNat_ofNat, Nat.mod_eq_of_lt (by omega), Nat.mod_eq_of_lt (by omega), or_add hx hy, Zu (by omega) (by omega)]
theorem orU32 {x y e z : Nat} (hx : x < 2 ^ e) (hy : y = 2 ^ e * z) (hs : x + y < 4294967296) {td : Option TypeDesc} : zn td .or (.int .u32 x) (.int .u32 y) = some (.int .u32 ((x + y : Nat) : Int)) := by
 rw [binE_or]
 have e1 : bitsE .or .u32 (x : Int) (y : Int) = IntKind.u32.wrap (((BitVec.ofInt 32 (x : Int) ||| BitVec.ofInt 32 (y : Int)).toNat : Nat) : Int) := rfl
 rw [e1, BitVec.ofInt_natCast, BitVec.ofInt_natCast, BitVec.toNat_or, BitVec.toNat_ofNat, BitVec.toNat_ofNat, Nat.mod_eq_of_lt (by omega), Nat.mod_eq_of_lt (by omega), or_add hx hy, Zl (by omega) (by omega)]
theorem shU16 {x : Nat} (hx : x < 256) {td : Option TypeDesc} : zn td .shl (.int .u16 x) (.int .u64 8) = some (.int .u16 ((256 * x : Nat) : Int)) := by
 rw [binE_shl (by decide), show min (8 : Int).toNat IntKind.u16.bits = 8 from rfl, show (x : Int) * 2 ^ 8 = ((256 * x : Nat) : Int) by omega, Zu (by omega) (by omega)]
theorem shU32 {x s : Nat} (hs : s = 8 ∨ s = 16 ∨ s = 24) (hx : x < 256) {td : Option TypeDesc} : zn td .shl (.int .u32 x) (.int .u64 s) = some (.int .u32 ((2 ^ s * x : Nat) : Int)) := by
 rw [binE_shl (by omega)]
 rcases hs with rfl | rfl | rfl
 · rw [show min ((8 : Nat) : Int).toNat IntKind.u32.bits = 8 from rfl, show (x : Int) * 2 ^ 8 = ((2 ^ 8 * x : Nat) : Int) by omega, Zl (by omega) (by omega)]
 · rw [show min ((16 : Nat) : Int).toNat IntKind.u32.bits = 16 from rfl, show (x : Int) * 2 ^ 16 = ((2 ^ 16 * x : Nat) : Int) by omega, Zl (by omega) (by omega)]
 · rw [show min ((24 : Nat) : Int).toNat IntKind.u32.bits = 24 from rfl, show (x : Int) * 2 ^ 24 = ((2 ^ 24 * x : Nat) : Int) by omega, Zl (by omega) (by omega)]
theorem slab_u16 {c : Blk} (hc : IsB c) {a : Nat} (ha : a + 2 ≤ 1024) (k : ∀ H', Ext H H' → R (.int .u16 (leB c a 2)) H') : Fc Tryz.prog 135 #[.agg c, zm a] H R := by
 have q0 := hc.lt a
 have q1 := hc.lt (a + 1)
 refine fn135 ?_
 simp only [sh135]
 refine (Lo.start _ H : Lx H H []).boxA fun b1 H1 _ l1 => ?_
 refine inside_ok (by omega) ?_
 rw [decide_eq_true (by omega), zM, za, Bool.not_true, zl]
 rw [zF (by omega), za, Nat.zero_add, Nat.mul_one, l1.ld (i := 0) rfl, hc.get (by omega), za, zE, za, Zu (by omega) (by omega), zk, za, zL, zw (by omega), zF (by omega), za, Nat.zero_add, Nat.mul_one, l1.ld (i := 0) rfl, hc.get (by omega), za, zE, za, Zu (by omega) (by omega), shU16 q1, za, orU16 (e := 8) (z := byt c (a + 1)) (by omega) (by omega) (by omega), za]
 have e : leB c a 2 = byt c a + 256 * byt c (a + 1) := by
   show byt c a + 256 * (byt c (a + 1) + 256 * 0) = _; omega
 rw [← e]
 exact k H1 l1.ext0
theorem slab_u32 {c : Blk} (hc : IsB c) {a : Nat} (ha : a + 4 ≤ 1024) (k : ∀ H', Ext H H' → R (.int .u32 (leB c a 4)) H') : Fc Tryz.prog 136 #[.agg c, zm a] H R := by
 have q0 := hc.lt a
 have q1 := hc.lt (a + 1)
 have q2 := hc.lt (a + 2)
 have q3 := hc.lt (a + 3)
 have sh : ∀ {x : Nat} (n : Nat), n = 8 ∨ n = 16 ∨ n = 24 → x < 256 → zn (some (.int .u32)) .shl (.int .u32 x) (.int .u64 n) = some (.int .u32 ((2 ^ n * x : Nat) : Int)) := fun n hn hx => shU32 hn hx
 have s8 := @sh (byt c (a + 1)) 8 (by omega) q1
 have s16 := @sh (byt c (a + 2)) 16 (by omega) q2
 have s24 := @sh (byt c (a + 3)) 24 (by omega) q3
 refine fn136 ?_
 simp only [sh136]
 refine (Lo.start _ H : Lx H H []).boxA fun b1 H1 _ l1 => ?_
 refine inside_ok (by omega) ?_
 rw [decide_eq_true (by omega), zM, za, Bool.not_true, zl]
 rw [zF (by omega), za, Nat.zero_add, Nat.mul_one, l1.ld (i := 0) rfl, hc.get (by omega), za, zE, za, Zl (by omega) (by omega)]
 rw [zk, za, zL a, zw (v := a + 1) (by omega), zF (by omega), za, Nat.zero_add, Nat.mul_one, l1.ld (i := 0) rfl, hc.get (by omega), za, zE, za, Zl (by omega) (by omega)]
 erw [s8]
 rw [za, orU32 (e := 8) (z := byt c (a + 1)) (by omega) (by omega) (by omega), za]
 rw [zk, za, show (a : Int) + 2 = ((a + 2 : Nat) : Int) by omega, zw (v := a + 2) (by omega), zF (by omega), za, Nat.zero_add, Nat.mul_one, l1.ld (i := 0) rfl, hc.get (by omega), za, zE, za, Zl (by omega) (by omega)]
 erw [s16]
 rw [za, orU32 (e := 16) (z := byt c (a + 2)) (by omega) (by omega) (by omega), za]
 rw [zk, za, show (a : Int) + 3 = ((a + 3 : Nat) : Int) by omega, zw (v := a + 3) (by omega), zF (by omega), za, Nat.zero_add, Nat.mul_one, l1.ld (i := 0) rfl, hc.get (by omega), za, zE, za, Zl (by omega) (by omega)]
 erw [s24]
 rw [za, orU32 (e := 24) (z := byt c (a + 3)) (by omega) (by omega) (by omega), za]
 have e : leB c a 4 = byt c a + 2 ^ 8 * byt c (a + 1) + 2 ^ 16 * byt c (a + 2) + 2 ^ 24 * byt c (a + 3) := by
   show byt c a + 256 * (byt c (a + 1) + 256 * (byt c (a + 1 + 1) + 256 * (byt c (a + 1 + 1 + 1) + 256 * 0))) = _
   rw [show a + 1 + 1 = a + 2 by omega, show a + 2 + 1 = a + 3 by omega]; omega
 rw [← e]
 exact k H1 l1.ext0
end
end Go.Vc
namespace Go.Vc
open Go.Proofs Classical
theorem sl_arr {P : Program} {T e n : Nat} {i : TypeInfo} (hu : P.underlying T = some (.array n e)) (hi : P.info? e = some i) (hs : i.size = 1) {b lo hi' : Nat} (h1 : lo ≤ hi') (h2 : hi' ≤ n) (h3 : lo < n) : yb P T (.pointer (some ⟨b, 0, none⟩)) (some (zm lo)) (some (zm hi')) none = some (.slice (some ⟨b, lo, none⟩) (hi' - lo) (n - lo)) := by
 unfold yb
 rw [hu]
 have q1 : (0 : Int) ≤ (hi' : Int) ∧ (hi' : Int) ≤ (n : Int) := by omega
 have q2 : (0 : Int) ≤ (lo : Int) ∧ (lo : Int) ≤ (hi' : Int) := by omega
 simp only [ZD, hiE, Option.bind_some, Int.toNat_natCast, hi, Option.map_some]
 rw [if_pos q1]
 simp only [Option.bind_some]
 rw [if_pos q2]
 simp only [Option.bind_some, Option.map_some, hs, Nat.mul_one]
 rw [if_neg (by omega)]
 simp only [Addr.add_mk, Nat.zero_add]
theorem sl_all {P : Program} {T e n : Nat} {i : TypeInfo} (hu : P.underlying T = some (.array n e)) (hi : P.info? e = some i) (hs : i.size = 1) {b : Nat} (h3 : 0 < n) : yb P T (.pointer (some ⟨b, 0, none⟩)) none none none = some (.slice (some ⟨b, 0, none⟩) n n) := by
 unfold yb
 rw [hu]
 simp only [ZD, hiE, Option.bind_some, hi, Option.map_some]
 rw [if_neg (by omega)]
 simp only [Addr.add_mk, Nat.zero_mul, Nat.zero_add, Nat.sub_zero]
theorem und64 : Tryz.prog.underlying 105 = some (.array 64 5) := by kernel_rfl
theorem undByt : Tryz.prog.underlying 107 = some (.slice 5) := by kernel_rfl
theorem buildNode6 (a b c d e f : Int) : zv Tryz.prog 54 [(0, .int .u16 a), (1, .int .u16 b), (2, .int .u32 c), (3, .int .u32 d), (5, .int .u32 e), (6, .int .u32 f)] = some (.agg #[.int .u16 a, .int .u16 b, .int .u32 c, .int .u32 d, .int .u32 0, .int .u32 0, .int .u32 0, .int .u32 0, .int .u32 0, .int .u32 0, .int .u32 0, .int .u32 0, .int .u32 0, .int .u32 0, .int .u32 e, .int .u32 f]) := by kernel_rfl
def inoU (f : Ino) (n : Nat) : Ino := fun j => if j < 4 + n ∨ 14 ≤ j then f j else 0
theorem inoU_set (f : Ino) {n : Nat} (h : n < 10) : (zO (inoU f n)).setIfInBounds (4 + n) (.int .u32 (f (4 + n))) = zO (inoU f (n + 1)) := by
 rw [yQ _ _ (4 + n) (by omega) (by omega)]
 refine ZX fun j hj => ?_
 unfold upd inoU
 by_cases e : j = 4 + n
 · subst e; rw [if_pos rfl, if_pos (by omega)]
 · rw [if_neg e]
   by_cases h3 : j < 4 + n ∨ 14 ≤ j
   · rw [if_pos h3, if_pos (by omega)]
   · rw [if_neg h3, if_neg (by omega)]
section
variable {H : Hp} {R : Value → Hp → Prop}
theorem span64 (k : R (.tuple #[zm 0, zm 64]) H) : Fc Tryz.prog 174 #[zm 0, zm 64] H R := by
 refine fn174 ?_
 simp only [sh174, zu]
 refine zT.mk (fun t H' => H' = H ∧ t.1 = .bool false) ?_ ?_
 · rintro ⟨t, u⟩ H2 ⟨rfl, ht⟩
   simp only at ht
   subst ht
   rw [zl, show maxE (zm 0) (.int .i64 0) = some (zm 0) from rfl, za, zt, za, decide_eq_false (by omega), zl, zU, za, zg (by omega) (by omega), zt, za, decide_eq_true (by omega), zZ, zk, za, zg (by omega) (by omega), show maxE (zm 0) (.int .i64 (0 + 64)) = some (zm 64) from rfl, za]
   exact k
 · rw [zt, za, decide_eq_false (by omega), zl, zY, za, decide_eq_false (by omega), zl, zt, za, decide_eq_false (by omega), zl]
   exact ⟨rfl, rfl⟩
theorem lay64 {pb : Nat} {pc : Array Value} {T : TypeId} (hp : H[pb]? = some (.cells pc T)) (hpc : IsN 64 pc) (k : ∀ H', Ext H H' → R (.agg (zV zB 0 pc)) H') : Fc Tryz.prog 134 #[.agg zB, zm 0, .slice (some ⟨pb, 0, none⟩) 64 64] H R := by
 have x3 : ∀ {a b : Value}, ze (.tuple #[a, b]) 0 = some a := rfl
 have x4 : ∀ {a b : Value}, ze (.tuple #[a, b]) 1 = some b := rfl
 have hsp : IsB (zV zB 0 pc) := (yk Zo.n hpc (by omega)).b
 refine fn134 ?_
 simp only [sh134, Z0, za, zu]
 refine (Lo.start _ H : Lx H H []).boxA fun b1 H1 _ l1 => ?_
 refine l1.boxA fun b2 H2 _ l2 => ?_
 rw [show lenE Tryz.prog 107 (.slice (some ⟨pb, 0, none⟩) 64 64) = some (zm 64) from len_slice undByt, za]
 refine span64 ?_
 rw [x3, za, x4, za]
 refine zz.mk (fun t H' => ∃ (i : Nat) (c : Blk), i ≤ 64 ∧ t = (zm i, ()) ∧ CpyI zB pc 0 i c ∧ Lx H H' [.box b1 c 65, .box b2 zB 65])
   (fun t _ => mi t.1 fun i => (64 - i).toNat) ⟨0, zB, by omega, rfl, CpyI.zero Zo, l2⟩ ?_
 rintro _ H3 ⟨i, c, hi, rfl, hcp, l3⟩
 rw [zt, za, zf]
 refine ⟨fun hlt => ?_, fun hge => ?_⟩
 · have hp3 := l3.ext0.at hp
   rw [zU, za, zg (by omega) (by omega), show (i : Int) - 0 = (i : Int) by omega, @idx_slc 64 64 1 pb 0 .i64 i (by omega) (by omega), za, Nat.mul_one, Nat.zero_add, zo hp3, hpc.get (by omega), za, zF (by omega), za, Nat.mul_one, Nat.zero_add]
   refine l3.st (i := 0) (j := i) (v := .int .u8 (byt pc i)) rfl (by rw [hcp.1.size]; omega) rfl rfl fun H4 l4 => ?_
   rw [zk, za, zL, zw (by omega)]
   have hst := hcp.step hpc (by omega) (by omega)
   rw [Nat.zero_add] at hst
   exact ⟨⟨i + 1, _, by omega, rfl, hst, l4⟩, by simp only [zC]; omega⟩
 · have ei : i = 64 := by omega
   subst ei
   have e := hcp.done Zo hpc (by omega)
   rw [l3.ldAll (i := 0) (n := 1024) rfl hcp.1.size, za]
   refine l3.ret (i := 1) rfl zI hcp.1.size hcp.1.ok fun H' l' => ?_
   rw [e]; exact k H' l'.ext0
set_option maxHeartbeats 1000000 in
theorem node_dec {c : Array Value} (hc : IsN 64 c) (k : ∀ H', Ext H H' → R (.agg (zO (Zq c 0))) H') : Fc Tryz.prog 90 #[.agg c] H R := by
 have hX : IsB (zV zB 0 c) := (yk Zo.n hc (by omega)).b
 have hle : ∀ {a n : Nat}, a + n ≤ 64 → leB (zV zB 0 c) a n = leB c a n := fun {a n} han => Yx _ _ _ fun i hi => by
   rw [byt_splice Zo.n hc (by omega), if_pos (by omega), Nat.sub_zero]
 have eF : ∀ j, leB c (fo j) (fw j) = Zq c 0 j := fun j => by unfold Zq; rw [Nat.zero_add]
 refine fn90 ?_
 simp only [sh90, yh, Z0, Yo, za, zu]
 refine (Lo.start _ H : Lx H H []).boxA fun b1 H1 _ l1 => ?_
 refine l1.boxA fun b2 H2 _ l2 => ?_
 rw [sl_all und64 inf8_e inf8_s (by omega), za]
 refine lay64 (l2.at (i := 0) rfl) hc fun H3 e3 => ?_
 generalize zV zB 0 c = X at hX hle
 refine (l2.ext e3).boxA fun b3 H4 _ l4 => ?_
 refine l4.stAll (i := 2) rfl zI hX.size hX.ok fun H5 l5 => ?_
 have l5 : Lx H H5 [.box b1 c 105, .box b2 (zO fun _ => 0) 54, .box b3 X 65] := l5
 have q2 : ∀ {H' : Hp} {a : Nat}, a + 2 ≤ 64 → QC true Tryz.prog 135 #[.agg X, zm a] H' (.int .u16 (leB c a 2)) := fun {H' a} ha H'' _ => slab_u16 hX (by omega) fun H3 e3 => ⟨by rw [hle ha], e3⟩
 have q4 : ∀ {H' : Hp} {a : Nat}, a + 4 ≤ 64 → QC true Tryz.prog 136 #[.agg X, zm a] H' (.int .u32 (leB c a 4)) := fun {H' a} ha H'' _ => slab_u32 hX (by omega) fun H3 e3 => ⟨by rw [hle ha], e3⟩
 rw [l5.ldAll (i := 2) (n := 1024) rfl hX.size, za]
 refine ⟨_, q2 (a := 0) (by omega), ?_⟩
 rw [za]
 refine ⟨_, q2 (a := 2) (by omega), ?_⟩
 rw [za]
 refine ⟨_, q4 (a := 4) (by omega), ?_⟩
 rw [za]
 refine ⟨_, q4 (a := 8) (by omega), ?_⟩
 rw [za]
 refine ⟨_, q4 (a := 52) (by omega), ?_⟩
 rw [za]
 refine ⟨_, q4 (a := 56) (by omega), ?_⟩
 have e0 := eF 0
 have e1 := eF 1
 have e2 := eF 2
 have e3' := eF 3
 have e14 := eF 14
 have e15 := eF 15
 simp only [fo, fw, Nat.reduceLT, if_true, if_false, Nat.reduceMul, Nat.reduceSub, Nat.lt_irrefl] at e0 e1 e2 e3' e14 e15
 rw [e0, e1, e2, e3', e14, e15, buildNode6, za, zp]
 intro H6 f6
 refine (l5.ext f6).boxA fun b4 H7 _ l7 => ?_
 rw [zp]
 intro H8 f8
 refine (l7.ext f8).stAll (i := 3) (vs := zO (inoU (Zq c 0) 0)) rfl (zy _) (zy _) (ZR _) fun H9 l9 => ?_
 rw [zp]
 intro H10 f10
 have l10 : Lx H H10 [.box b1 c 105, .box b2 (zO fun _ => 0) 54, .box b3 X 65, .box b4 (zO (inoU (Zq c 0) 0)) 54] := l9.ext f10
 refine zz.mk (fun t H' => ∃ i : Nat, i ≤ 10 ∧ t = (zm i, ()) ∧ Lx H H' [.box b1 c 105, .box b2 (zO fun _ => 0) 54, .box b3 X 65, .box b4 (zO (inoU (Zq c 0) i)) 54])
   (fun t _ => mi t.1 fun i => (10 - i).toNat) ⟨0, by omega, rfl, l10⟩ ?_
 rintro _ H11 ⟨i, hi, rfl, l11⟩
 rw [zt, za, zf]
 refine ⟨fun hlt => ?_, fun hge => ?_⟩
 · rw [l11.ldAll (i := 2) (n := 1024) rfl hX.size, za, zX, za, zg (by omega) (by omega), zk, za, zg (by omega) (by omega), show (12 : Int) + 4 * (i : Int) = ((12 + 4 * i : Nat) : Int) by omega]
   refine slab_u32 hX (by omega) fun H12 e12 => ?_
   have e4 : leB c (12 + 4 * i) 4 = Zq c 0 (4 + i) := by
     have := eF (4 + i)
     rw [show fo (4 + i) = 12 + 4 * i by unfold fo; rw [if_neg (by omega)]; omega, show fw (4 + i) = 4 by unfold fw; rw [if_neg (by omega)]] at this
     exact this
   rw [hle (by omega), e4, zh, za, Nat.zero_add, zF (by omega), za, Nat.mul_one]
   refine (l11.ext e12).st (i := 3) (j := 4 + i) (v := .int .u32 (Zq c 0 (4 + i))) rfl (by rw [zy]; omega) rfl rfl fun H13 l13 => ?_
   rw [inoU_set _ (by omega)] at l13
   rw [zk, za, zL, zw (by omega)]
   exact ⟨⟨i + 1, by omega, rfl, l13⟩, by simp only [zC]; omega⟩
 · have ei : i = 10 := by omega
   subst ei
   rw [l11.ldAll (i := 3) (n := 16) rfl (zy _), za]
   refine l11.ret (i := 1) rfl (zy _) (zy _) (ZR _) fun H' l' => ?_
   rw [ZX (g := Zq c 0) fun j hj => by unfold inoU; rw [if_pos (by omega)]]
   exact k H' l'.ext0
end
end Go.Vc
namespace Go.Vc
open Go.Proofs Classical
theorem logC_lay {os : Value} {mb p cb : Nat} {x : Lay} {mine : Int} {op : Bool} {room : Int} {wr : Value} {co st : Int} : (logC os mb p cb x mine op room wr co st).extract 4 (4 + 9) = x.cells := by simp [logC, Lay.cells]
section
variable {H : Hp} {R : Value → Hp → Prop} {lb p cb mb : Nat} {s : DS} {cs : List Pl} {x : Lay} {mine : Int} {O Oc : Nat → Prop} {B L I : Int}
theorem und1024 : Tryz.prog.underlying 65 = some (.array 1024 5) := by kernel_rfl
end
end Go.Vc
namespace Go.Vc
open Go.Proofs Classical
section
variable {m : Pm} {q : Pg} {f : Ino} {B L I : Int}
theorem bump_low {f : Ino} {j : Nat} (hj : j < 3) : bump f j = f j := by
 unfold bump upd; rw [if_neg (by omega)]
theorem upd_low {f : Ino} {i v j : Nat} (hj : j < 3) (hi : 3 ≤ i) : upd f i v j = f j := by
 unfold upd; rw [if_neg (by omega)]
theorem top_low {i j : Nat} (hj : j < 3) : (Pg.top m q f i).2.1 j = f j := by
 unfold Pg.top
 split
 · exact bump_low hj
 · rfl
theorem fin_low {tp pl : Nat} {b : Blk} {j : Nat} (hj : j < 3) : (Pg.fin m q f tp pl b).2 j = f j := by
 unfold Pg.fin
 split
 · rfl
 · exact bump_low hj
theorem dbl_low {tp pl r : Nat} {b : Blk} {j : Nat} (hj : j < 3) : (Pg.dbl m q f tp pl r b).2 j = f j := by
 unfold Pg.dbl
 split
 · split
   · rfl
   · rw [fin_low hj, bump_low hj]
 · exact fin_low hj
theorem file_inoL {idx : Int} {b : Blk} {j : Nat} (hj : j < 3) : (Pg.file m q f idx b).2 j = f j := by
 unfold Pg.file
 split
 · rfl
 · split
   · rfl
   · split
     · split
       · rfl
       · show bump _ j = f j
         rw [bump_low hj, upd_low hj (by omega)]
     · split
       · split
         · exact top_low hj
         · rw [fin_low hj, upd_low hj (by omega), top_low hj]
       · split
         · exact top_low hj
         · rw [dbl_low hj, upd_low hj (by omega), top_low hj]
theorem dir_inoL (m : Pm) (len : Nat) {j : Nat} (hj : j < 3) : ∀ (l : List Ent) (s : Nat) (q : Pg) (f : Ino) (b : Blk), (ZZ m len l s q f b).2 j = f j
 | [], _, _, _, _ => rfl
 | e :: l, s, q, f, b => by
   rw [yX]
   split
   · rfl
   · split
     · rw [dir_inoL m len hj l, file_inoL hj]
     · exact dir_inoL m len hj l _ _ _ _
theorem data_inoL (m : Pm) {j : Nat} (hj : j < 3) : ∀ (l : List (Int × Blk)) (q : Pg) (f : Ino), (Ye m l q f).2 j = f j
 | [], _, _ => rfl
 | d :: l, q, f => by
   unfold Ye
   split
   · rfl
   · rw [data_inoL m hj l, file_inoL hj]
theorem itm_inoL {t : Itm} {j : Nat} (hj : j < 3) : (yl m q t).2 j = yM t j := by
 unfold yl
 simp only
 split
 · rw [data_inoL m hj]
   split
   · exact dir_inoL m _ hj _ _ _ _ _
   · rfl
 · split
   · exact dir_inoL m _ hj _ _ _ _ _
   · rfl
def nAt (L : Int) (i : Int) : Nat := (1 + L).toNat + i.toNat / 16
def nOf (i : Int) : Nat := 64 * (i.toNat % 16)
theorem items_full {m : Pm} : ∀ (l : List Itm) (q : Pg), q.full = true → (zH m l q).full = true
 | [], _, h => h
 | t :: l, q, h => by rw [ZF, if_pos h]; exact h
theorem item_bad {t : Itm} (h : t.inum < 1 ∨ m.x.I < t.inum) : (Pg.item m q t).full = true := by unfold Pg.item; rw [if_pos h]
theorem item_own (hm : MOf m B L I) (hg : Zn B L I) (h : Pgs m q) {t : Itm} (ht : Z5 t) (hf : (Pg.item m q t).full = false) :
   1 ≤ t.inum ∧ t.inum ≤ I ∧ ∃ c, (Pg.item m q t).L[nAt L t.inum]? = some c ∧ IsB c ∧ ∀ j, j < 3 → Zq c (nOf t.inum) j = yM t j := by
 have hx : m.x = zq B L I := hm.x
 have hI : m.x.I = I := by rw [hx]; rfl
 have hN : m.x.nodeAt = 1 + L := by rw [hx]; rfl
 have hrange : ¬ (t.inum < 1 ∨ m.x.I < t.inum) := fun hh => by rw [item_bad hh] at hf; cases hf
 obtain ⟨g1, g2, g3, g4, g5, g6, g7⟩ := id hg
 have hd : (m.da : Int) = (zq B L I).dataAt := by rw [← hm.ok.da, hx]
 have hB : (m.B : Int) = B := hm.B
 simp only [zq] at hd g7
 have hk := itm_keep hm.ok ht h.ok h.z
 refine ⟨by omega, by omega, zV ((yl m q t).1.L.getD (nAt L t.inum) zB) (nOf t.inum) (encN (yl m q t).2), ?_, ?_, fun j hj => ?_⟩
 · unfold Pg.item
   rw [if_neg hrange, hN]
   show ((yl m q t).1.L.set (nAt L t.inum) _)[nAt L t.inum]? = _
   rw [List.getElem?_set_self (by rw [hk.ok.len]; unfold nAt; omega)]
   rfl
 · have hc : IsB ((yl m q t).1.L.getD (nAt L t.inum) zB) := by
     rw [List.getD_eq_getElem?_getD]
     cases e : (yl m q t).1.L[nAt L t.inum]? with
     | none => exact Zo
     | some c => exact hk.ok.is c (List.mem_of_getElem? e)
   exact (yk hc.n (ZT _) (by unfold nOf; omega)).b
 · have hc : IsB ((yl m q t).1.L.getD (nAt L t.inum) zB) := by
     rw [List.getD_eq_getElem?_getD]
     cases e : (yl m q t).1.L[nAt L t.inum]? with
     | none => exact Zo
     | some c => exact hk.ok.is c (List.mem_of_getElem? e)
   rw [inoOf_splice hc.n (by unfold nOf; omega) hk.ino (by omega)]
   exact itm_inoL hj
theorem item_oth (hm : MOf m B L I) (hg : Zn B L I) (h : Pgs m q) {t : Itm} (ht : Z5 t) (hf : (Pg.item m q t).full = false) {i : Int} (hi : 1 ≤ i ∧ i ≤ I) (hne : t.inum ≠ i) {c : Blk} (hc : q.L[nAt L i]? = some c) :
   ∃ c', (Pg.item m q t).L[nAt L i]? = some c' ∧ ∀ j, j < 16 → Zq c' (nOf i) j = Zq c (nOf i) j := by
 have hx : m.x = zq B L I := hm.x
 have hN : m.x.nodeAt = 1 + L := by rw [hx]; rfl
 have hI : m.x.I = I := by rw [hx]; rfl
 have hrange : ¬ (t.inum < 1 ∨ m.x.I < t.inum) := fun hh => by rw [item_bad hh] at hf; cases hf
 obtain ⟨g1, g2, g3, g4, g5, g6, g7⟩ := id hg
 have hd : (m.da : Int) = (zq B L I).dataAt := by rw [← hm.ok.da, hx]
 have hB : (m.B : Int) = B := hm.B
 simp only [zq] at hd g7
 have hk := itm_keep hm.ok ht h.ok h.z
 have ho : (yl m q t).1.L[nAt L i]? = some c := by rw [itm_out hm.ok h ht (by unfold nAt; omega)]; exact hc
 have hcb := hk.ok.is c (List.mem_of_getElem? ho)
 unfold Pg.item
 rw [if_neg hrange, hN]
 show ∃ c', ((yl m q t).1.L.set (nAt L t.inum) _)[nAt L i]? = some c' ∧ _
 by_cases e : nAt L t.inum = nAt L i
 · rw [e, List.getElem?_set_self (by rw [hk.ok.len]; unfold nAt; omega)]
   refine ⟨_, rfl, fun j hj => ?_⟩
   rw [List.getD_eq_getElem?_getD, show (1 + L).toNat + t.inum.toNat / 16 = nAt L i from e, ho]
   refine inoOf_other hcb.n (ZT _) (by omega) ?_ hj
   unfold nAt at e
   unfold nOf
   omega
 · rw [List.getElem?_set_ne e]
   exact ⟨c, ho, fun j _ => rfl⟩
theorem items_oth (hm : MOf m B L I) (hg : Zn B L I) {i : Int} (hi : 1 ≤ i ∧ i ≤ I) : ∀ (l : List Itm) (q : Pg) (c : Blk), (∀ t ∈ l, Z5 t) → (∀ t ∈ l, t.inum ≠ i) → Pgs m q → (zH m l q).full = false → q.L[nAt L i]? = some c →
   ∃ c', (zH m l q).L[nAt L i]? = some c' ∧ ∀ j, j < 16 → Zq c' (nOf i) j = Zq c (nOf i) j
 | [], q, c, _, _, _, _, hc => ⟨c, hc, fun _ _ => rfl⟩
 | t :: l, q, c, hl, hne, h, hf, hc => by
   have ht := hl t List.mem_cons_self
   rw [ZF] at hf ⊢
   cases hq : q.full with
   | true => rw [hq, if_pos rfl] at hf; rw [hf] at hq; cases hq
   | false =>
     rw [hq, if_neg (by decide)] at hf
     rw [if_neg (by decide)]
     have hft : (Pg.item m q t).full = false := by
       cases e : (Pg.item m q t).full with
       | false => rfl
       | true => rw [items_full l _ e] at hf; cases hf
     obtain ⟨c1, h1, e1⟩ := item_oth hm hg h ht hft hi (hne t List.mem_cons_self) hc
     obtain ⟨c2, h2, e2⟩ := items_oth hm hg hi l _ c1 (fun x hx => hl x (List.mem_cons_of_mem _ hx)) (fun x hx => hne x (List.mem_cons_of_mem _ hx)) (Yz hm hg h ht) hf h1
     exact ⟨c2, h2, fun j hj => by rw [e2 j hj, e1 j hj]⟩
theorem items_ino (hm : MOf m B L I) (hg : Zn B L I) : ∀ (l : List Itm) (q : Pg), (∀ t ∈ l, Z5 t) → (l.map (·.inum)).Nodup → Pgs m q → (zH m l q).full = false → ∀ t ∈ l,
   1 ≤ t.inum ∧ t.inum ≤ I ∧ ∃ c, (zH m l q).L[nAt L t.inum]? = some c ∧ ∀ j, j < 3 → Zq c (nOf t.inum) j = yM t j
 | [], q, _, _, _, _, t, ht => by cases ht
 | t :: l, q, hl, hnd, h, hf, u, hu => by
   have ht := hl t List.mem_cons_self
   rw [List.map_cons, List.nodup_cons] at hnd
   rw [ZF] at hf ⊢
   cases hq : q.full with
   | true => rw [hq, if_pos rfl] at hf; rw [hf] at hq; cases hq
   | false =>
     rw [hq, if_neg (by decide)] at hf
     rw [if_neg (by decide)]
     have hft : (Pg.item m q t).full = false := by
       cases e : (Pg.item m q t).full with
       | false => rfl
       | true => rw [items_full l _ e] at hf; cases hf
     have hk := Yz hm hg h ht
     rcases List.mem_cons.1 hu with e | e
     · subst e
       obtain ⟨r1, r2, c, h1, _, e1⟩ := item_own hm hg h ht hft
       obtain ⟨c2, h2, e2⟩ := items_oth hm hg ⟨r1, r2⟩ l _ c (fun x hx => hl x (List.mem_cons_of_mem _ hx)) (fun x hx e => hnd.1 (by rw [← e]; exact List.mem_map.2 ⟨x, hx, rfl⟩)) hk hf h1
       exact ⟨r1, r2, c2, h2, fun j hj => by rw [e2 j (by omega), e1 j hj]⟩
     · exact items_ino hm hg l _ (fun x hx => hl x (List.mem_cons_of_mem _ hx)) hnd.2 hk hf u e
theorem laid_mid (hm : MOf m B L I) (hg : Zn B L I) {q : Pg} (sd : Nat) {i : Nat} (h1 : 1 + L ≤ i) (h2 : (i : Int) < 1 + L + (I + 16) / 16) : (Zy m q sd)[i]? = q.L[i]? := by
 have hx : m.x = zq B L I := hm.x
 obtain ⟨g1, g2, g3, g4, g5, g6, g7⟩ := id hg
 have hd : (m.da : Int) = (zq B L I).dataAt := by rw [← hm.ok.da, hx]
 have hb : m.x.bitsAt = 1 + L + (I + 16) / 16 := by rw [hx]; rfl
 have ha : m.x.logAt = 1 := by rw [hx]; rfl
 have hL : m.x.L = L := by rw [hx]; rfl
 simp only [zq] at hd g7
 have hbit := YH (m := m) (c := q.c) (sd := sd) (L := q.L.set 0 (ZO m.x)) (i := i) (by rw [hb]; omega) (by omega) m.B
 rw [List.getElem?_set_ne (by omega)] at hbit
 unfold Zy
 split
 · have hmod : sd % (m.x.L.toNat - 1) < m.x.L.toNat - 1 := Nat.mod_lt _ (by rw [hL]; omega)
   rw [List.getElem?_set_ne (by rw [ha]; rw [hL] at hmod ⊢; omega)]
   exact hbit
 · exact hbit
theorem laid_ino (hm : MOf m B L I) (hg : Zn B L I) {its : List Itm} (hits : ∀ t ∈ its, Z5 t) (hnd : (its.map (·.inum)).Nodup) (hf : (zH m its (pg0 m)).full = false) (sd : Nat) {t : Itm} (ht : t ∈ its) :
   1 ≤ t.inum ∧ t.inum ≤ I ∧ ∀ j, j < 3 → Zq (Zi (Yl 0 (Zy m (zH m its (pg0 m)) sd)) (1 + L + ((t.inum.toNat / 16 : Nat) : Int))) (64 * (t.inum.toNat % 16)) j = yM t j := by
 obtain ⟨g1, g2, g3, g4, g5, g6, g7⟩ := id hg
 obtain ⟨r1, r2, c, hc, e⟩ := items_ino hm hg its (pg0 m) hits hnd (pg0_ok hm.ok) hf t ht
 refine ⟨r1, r2, fun j hj => ?_⟩
 have hmid := laid_mid hm hg (q := zH m its (pg0 m)) sd (i := nAt L t.inum) (by unfold nAt; omega) (by unfold nAt; omega)
 rw [hc] at hmid
 have := YA _ 0 (nAt L t.inum) c hmid
 rw [Nat.zero_add, show ((nAt L t.inum : Nat) : Int) = 1 + L + ((t.inum.toNat / 16 : Nat) : Int) by unfold nAt; omega] at this
 rw [this]
 exact e j hj
theorem may_root {its : List Itm} {fr sp : Int} {m0 : Pm} {fs : List Fl} (hmay : MaySt B L I its fr sp m0 fs) (hm : MOf m B L I) (hf : (zH m its (pg0 m)).full = false) (hits : ∀ t ∈ its, Z5 t) (sd : Nat) : Zq (Zi (Yl 0 (Zy m (zH m its (pg0 m)) sd)) (1 + L)) 64 0 = 2 := by
 obtain ⟨g1, g2, g3, g4, g5, g6, g7⟩ := id hmay.ok
 have hits0 := hmay.its
 have hfl := hmay.files
 have hn1 := hmay.sound.nodes.1 1 (by omega)
 generalize Yl 0 (Zy m0 (zH m0 its (pg0 m0)) 0) = l0 at hits0 hfl hn1
 have hids : its.map (·.inum) = (idsP B L I l0 I.toNat).map fun i : Nat => (i : Int) := by
   rw [hits0, hfl.its, List.map_map]
   rfl
 have hnd : (its.map (·.inum)).Nodup := by
   rw [hids]
   have hr : ((List.range I.toNat).map (· + 1)).Nodup := List.pairwise_map.2 (List.Pairwise.imp (R := fun a b => a ≠ b) (fun {a b} hab (e : a + 1 = b + 1) => hab (by omega)) List.nodup_range)
   have hp : (idsP B L I l0 I.toNat).Nodup := List.Pairwise.filter _ hr
   exact List.pairwise_map.2 (List.Pairwise.imp (R := fun (a b : Nat) => a ≠ b) (fun {a b : Nat} hab (e : (a : Int) = (b : Int)) => hab (by omega)) hp)
 have hk2 : Yh B L I l0 1 0 = 2 := by
   by_cases e : Yh B L I l0 1 0 = 2
   · exact e
   · exact absurd (.inr (.inr ⟨rfl, .inl e⟩)) hn1
 obtain ⟨x, hx, hxi⟩ := hfl.has (i := 1) (by omega) (by omega) (by omega)
 have hmem : itP l0 x ∈ its := by
   rw [hits0]
   exact List.mem_map.2 ⟨x, hx, rfl⟩
 obtain ⟨r1, r2, e⟩ := laid_ino hm hmay.ok hits hnd hf sd hmem
 have e0 := e 0 (by omega)
 have hin : (itP l0 x).inum = 1 := by show (x.i : Int) = 1; omega
 rw [hin] at e0
 have hki : yM (itP l0 x) 0 = 2 := by
   show x.f 0 = 2
   rw [(hfl.is x hx).1, hxi]; exact hk2
 rw [hki] at e0
 have e1 : 1 + L + ((((1 : Int).toNat / 16 : Nat)) : Int) = 1 + L := by
   show 1 + L + ((0 : Nat) : Int) = 1 + L; omega
 rw [e1] at e0
 exact e0
end
end Go.Vc
namespace Go.Vc
open Go.Proofs Classical
def Zg (s : DS) (cs : List Pl) (a : Int) : Blk := match Zz cs a with
 | some x => x.data
 | none => s.now a
structure Vw (s : DS) (cs : List Pl) : Prop where
 nd : (cs.map (·.at_)).Nodup
 slow : ∀ y ∈ cs, y.fast = false → y.data = s.now y.at_
theorem Z3 {cs : List Pl} (hn : (cs.map (·.at_)).Nodup) {a : Int} {x : Pl} : Zz cs a = some x ↔ x ∈ cs ∧ x.at_ = a := by
 constructor
 · intro h
   obtain ⟨l1, l2, e, h1, _, _⟩ := findP_some h
   exact ⟨by rw [e]; simp, h1⟩
 · rintro ⟨hx, e⟩
   cases h : Zz cs a with
   | none => exact absurd e (YC.1 h x hx)
   | some y =>
     obtain ⟨l1, l2, ey, h1, h2, _⟩ := findP_some h
     rw [ey] at hx hn
     rcases List.mem_append.1 hx with h3 | h3
     · exact absurd e (h2 x h3)
     · rcases List.mem_cons.1 h3 with h4 | h4
       · rw [h4]
       · rw [List.map_append, List.map_cons] at hn
         have h5 := (List.nodup_append.1 hn).2.1
         rw [List.nodup_cons] at h5
         exact absurd (List.mem_map.2 ⟨x, h4, by rw [e, h1]⟩) h5.1
structure Base (cs c1 : List Pl) (a : Int) : Prop where
 nd : (c1.map (·.at_)).Nodup
 sub : ∀ y ∈ c1, y ∈ cs ∧ y.at_ ≠ a
 lost : ∀ y ∈ cs, y.at_ ≠ a → y ∈ c1 ∨ y.fast = false
theorem snoc_view {s s' : DS} {cs c1 : List Pl} {a : Int} (h : Vw s cs) (hb : Base cs c1 a) {z : Pl} (hz : z.at_ = a) (hs : s'.now = s.now) (b : Int) : Zg s' (c1 ++ [z]) b = if b = a then z.data else Zg s cs b := by
 have hn : ((c1 ++ [z]).map (·.at_)).Nodup := nodup_snoc hb.nd fun y hy => by rw [hz]; exact (hb.sub y hy).2
 by_cases e : b = a
 · rw [if_pos e]
   have : Zz (c1 ++ [z]) b = some z := (Z3 hn).2 ⟨by simp, by rw [hz, e]⟩
   unfold Zg
   rw [this]
 · rw [if_neg e]
   cases h1 : Zz cs b with
   | some y =>
     obtain ⟨m1, m2⟩ := (Z3 h.nd).1 h1
     have hv : Zg s cs b = y.data := by unfold Zg; rw [h1]
     rw [hv]
     by_cases hy : y ∈ c1
     · have : Zz (c1 ++ [z]) b = some y := (Z3 hn).2 ⟨List.mem_append_left _ hy, m2⟩
       unfold Zg
       rw [this]
     · have hsl := (hb.lost y m1 (by rw [m2]; exact e)).resolve_left hy
       have : Zz (c1 ++ [z]) b = none := by
         rw [YC]
         intro w hw hwe
         rcases List.mem_append.1 hw with h3 | h3
         · have h4 := (hb.sub w h3).1
           have h5 := (Z3 h.nd).2 ⟨h4, hwe⟩
           rw [h1] at h5
           injection h5 with h5
           exact hy (h5 ▸ h3)
         · rw [List.mem_singleton.1 h3, hz] at hwe
           exact e hwe.symm
       unfold Zg
       rw [this]
       show s'.now b = y.data
       rw [hs, h.slow y m1 hsl, m2]
   | none =>
     have hv : Zg s cs b = s.now b := by unfold Zg; rw [h1]
     have : Zz (c1 ++ [z]) b = none := by
       rw [YC]
       intro w hw hwe
       rcases List.mem_append.1 hw with h3 | h3
       · exact YC.1 h1 w (hb.sub w h3).1 hwe
       · rw [List.mem_singleton.1 h3, hz] at hwe
         exact e hwe.symm
     rw [hv]
     unfold Zg
     rw [this]
     show s'.now b = s.now b
     rw [hs]
theorem base_found {cs : List Pl} {a : Int} {x : Pl} (hn : (cs.map (·.at_)).Nodup) (h : Zz cs a = some x) : Base cs (outP cs a) a ∧ Zx cs = Zx (outP cs a) + (if x.fast then 1 else 0) := by
 obtain ⟨l1, l2, e, h1, _, h2⟩ := findP_some h
 rw [h2]
 subst e
 obtain ⟨n1, n2⟩ := nodup_drop hn
 refine ⟨⟨n1, fun y hy => ⟨memP_mid.2 (.inr hy), by rw [← h1]; exact n2 y hy⟩, fun y hy hne => ?_⟩, ?_⟩
 · rcases memP_mid.1 hy with e | e
   · rw [e] at hne; exact absurd h1 hne
   · exact .inl e
 · simp only [YE, yU]; omega
theorem base_room {cs c1 : List Pl} {a size : Int} (hn : (cs.map (·.at_)).Nodup) (h : Zz cs a = none) (hr : roomP size cs = some c1) : Base cs c1 a ∧ Zx cs = Zx c1 := by
 have ha := YC.1 h
 obtain ⟨_, h2⟩ := roomP_some hr
 rcases h2 with ⟨_, rfl⟩ | ⟨l1, x, l2, rfl, rfl, hx, _⟩
 · exact ⟨⟨hn, fun y hy => ⟨hy, ha y hy⟩, fun y hy _ => .inl hy⟩, rfl⟩
 · obtain ⟨n1, n2⟩ := nodup_drop hn
   refine ⟨⟨n1, fun y hy => ⟨memP_mid.2 (.inr hy), ha y (memP_mid.2 (.inr hy))⟩, fun y hy hne => ?_⟩, ?_⟩
   · rcases memP_mid.1 hy with e | e
     · rw [e]; exact .inr hx
     · exact .inl e
   · simp only [YE, yU, hx, Bool.false_eq_true, if_false]; omega
theorem room_is {cs : List Pl} {size : Int} (h : Zx cs < size) : ∃ c1, roomP size cs = some c1 := by
 unfold roomP
 rw [if_neg (by omega)]
 split
 · exact ⟨_, rfl⟩
 · exact ⟨_, rfl⟩
theorem base_vw {s s' : DS} {cs c1 : List Pl} {a : Int} (h : Vw s cs) (hb : Base cs c1 a) {z : Pl} (hz : z.at_ = a) (hs : s'.now = s.now) (hzs : z.fast = false → z.data = s.now a) : Vw s' (c1 ++ [z]) := by
 refine ⟨nodup_snoc hb.nd fun y hy => by rw [hz]; exact (hb.sub y hy).2, fun y hy hf => ?_⟩
 rw [hs]
 rcases List.mem_append.1 hy with h1 | h1
 · exact h.slow y (hb.sub y h1).1 hf
 · rw [List.mem_singleton.1 h1] at hf ⊢
   rw [hz]; exact hzs hf
theorem view_read {size : Int} {s : DS} {cs : List Pl} (h : Vw s cs) {a : Int} (hw : s.wrong a = 0) (hf : Zx cs < size) :
   ∃ s' cs', readC size s cs a = (s', cs', Zg s cs a, 0) ∧ Same s s' ∧ Vw s' cs' ∧ (∀ b, Zg s' cs' b = Zg s cs b) ∧ Zx cs' = Zx cs ∧ ∀ b x, Zz cs b = some x → x.fast = true → Zz cs' b = some x := by
 unfold readC
 rw [if_neg (by omega)]
 have kp : ∀ {c1 : List Pl} {z : Pl} {s' : DS}, Base cs c1 a → z.at_ = a → Vw s' (c1 ++ [z]) → (∀ x, Zz cs a = some x → x.fast = true → x = z) → ∀ b x, Zz cs b = some x → x.fast = true → Zz (c1 ++ [z]) b = some x := by
   intro c1 z s' hb hz hv hx b x h1 h2
   obtain ⟨m1, m2⟩ := (Z3 h.nd).1 h1
   refine (Z3 hv.nd).2 ⟨?_, m2⟩
   by_cases e : b = a
   · rw [hx x (e ▸ h1) h2]; simp
   · rcases hb.lost x m1 (by rw [m2]; exact e) with h3 | h3
     · exact List.mem_append_left _ h3
     · rw [h3] at h2; cases h2
 cases h1 : Zz cs a with
 | some x =>
   obtain ⟨hb, hfp⟩ := base_found h.nd h1
   obtain ⟨m1, m2⟩ := (Z3 h.nd).1 h1
   have hv : Zg s cs a = x.data := by unfold Zg; rw [h1]
   have hvw : Vw s (outP cs a ++ [x]) := base_vw h hb m2 rfl fun hf2 => by rw [h.slow x m1 hf2, m2]
   refine ⟨s, outP cs a ++ [x], by rw [hv], Same.refl s, hvw, fun b => ?_, ?_, kp hb m2 hvw fun y hy _ => by rw [h1] at hy; injection hy with hy; exact hy.symm⟩
   · rw [snoc_view h hb m2 rfl b]
     by_cases e : b = a
     · rw [if_pos e, e, hv]
     · rw [if_neg e]
   · rw [YE, yU, fastP_nil]; omega
 | none =>
   obtain ⟨c1, hr⟩ := room_is hf
   obtain ⟨hb, hfp⟩ := base_room h.nd h1 hr
   have hv : Zg s cs a = s.now a := by unfold Zg; rw [h1]
   have hsm := DS.read_same s a
   rw [hr]
   have hvw : Vw (s.read a).1 (c1 ++ [⟨a, s.now a, false⟩]) := base_vw h hb rfl hsm.now fun _ => rfl
   refine ⟨(s.read a).1, c1 ++ [⟨a, s.now a, false⟩], by rw [hv], hsm, hvw, fun b => ?_, ?_, kp hb rfl hvw fun y hy _ => by rw [h1] at hy; cases hy⟩
   · rw [snoc_view h hb rfl hsm.now b]
     by_cases e : b = a
     · rw [if_pos e, e, hv]
     · rw [if_neg e]
   · rw [YE, yU, fastP_nil]
     simp only [Bool.false_eq_true, if_false]; omega
theorem view_put {size : Int} {s : DS} {cs : List Pl} (h : Vw s cs) {a : Int} {d : Blk} (hw : s.wrong a = 0) (hf : Zx cs < size) :
   ∃ cs', putC size s cs a d = (cs', 0) ∧ Vw s cs' ∧ (∀ b, Zg s cs' b = if b = a then d else Zg s cs b) ∧ Zx cs' ≤ Zx cs + 1 ∧ (∀ x, Zz cs a = some x → x.fast = true → Zx cs' = Zx cs) ∧ (∃ x, Zz cs' a = some x ∧ x.fast = true) ∧ (∀ b x, b ≠ a → Zz cs b = some x → x.fast = true → Zz cs' b = some x) := by
 unfold putC baseC
 rw [if_neg (by omega)]
 have fin : ∀ {c1 : List Pl}, Base cs c1 a → Zx c1 ≤ Zx cs → (∀ x, Zz cs a = some x → x.fast = true → Zx c1 + 1 = Zx cs) → ∃ cs', ((c1 ++ [⟨a, d, true⟩], 0) : List Pl × Int) = (cs', 0) ∧ Vw s cs' ∧ (∀ b, Zg s cs' b = if b = a then d else Zg s cs b) ∧ Zx cs' ≤ Zx cs + 1 ∧ (∀ x, Zz cs a = some x → x.fast = true → Zx cs' = Zx cs) ∧ (∃ x, Zz cs' a = some x ∧ x.fast = true) ∧ (∀ b x, b ≠ a → Zz cs b = some x → x.fast = true → Zz cs' b = some x) := by
   intro c1 hb h1 h2
   have hvw := base_vw (s' := s) h hb (z := ⟨a, d, true⟩) rfl rfl fun e => by cases e
   refine ⟨_, rfl, hvw, fun b => snoc_view h hb rfl rfl b, ?_, fun x hx hxf => ?_, ⟨⟨a, d, true⟩, (Z3 hvw.nd).2 ⟨by simp, rfl⟩, rfl⟩, fun b x hne hx hxf => ?_⟩
   · rw [YE, yU, fastP_nil]
     simp only [if_true]; omega
   · have := h2 x hx hxf
     rw [YE, yU, fastP_nil]
     simp only [if_true]; omega
   · obtain ⟨m1, m2⟩ := (Z3 h.nd).1 hx
     refine (Z3 hvw.nd).2 ⟨?_, m2⟩
     rcases hb.lost x m1 (by rw [m2]; exact hne) with h3 | h3
     · exact List.mem_append_left _ h3
     · rw [h3] at hxf; cases hxf
 cases h1 : Zz cs a with
 | some x =>
   obtain ⟨hb, hfp⟩ := base_found h.nd h1
   rw [h1] at fin
   refine fin hb (by split at hfp <;> omega) fun y hy hyf => ?_
   injection hy with hy
   rw [hy, hyf] at hfp
   simp only [if_true] at hfp
   omega
 | none =>
   obtain ⟨c1, hr⟩ := room_is hf
   obtain ⟨hb, hfp⟩ := base_room h.nd h1 hr
   rw [h1] at fin
   rw [hr]
   exact fin hb (by omega) fun y hy => by cases hy
theorem outP_len {cs : List Pl} {a : Int} {z : Pl} (h : Zz cs a = some z) : (outP cs a).length + 1 = cs.length := by
 obtain ⟨l1, l2, e, _, _, h2⟩ := findP_some h
 rw [h2, e]
 simp only [List.length_append, List.length_cons]; omega
theorem roomP_len {cs c1 : List Pl} {size : Int} (h : roomP size cs = some c1) (hl : (cs.length : Int) ≤ size) : (c1.length : Int) + 1 ≤ size := by
 obtain ⟨_, h2⟩ := roomP_some h
 rcases h2 with ⟨h3, rfl⟩ | ⟨l1, z, l2, rfl, rfl, _, _⟩
 · omega
 · simp only [List.length_append, List.length_cons] at hl ⊢; omega
theorem readC_len {size : Int} {s : DS} {cs : List Pl} {a : Int} (hl : (cs.length : Int) ≤ size) : ((readC size s cs a).2.1.length : Int) ≤ size := by
 unfold readC
 split
 · exact hl
 · split
   · rename_i z hz
     have := outP_len hz
     simp only [List.length_append, List.length_cons, List.length_nil]; omega
   · split
     · exact hl
     · rename_i c1 hc
       have := roomP_len hc hl
       simp only [List.length_append, List.length_cons, List.length_nil]; omega
theorem putC_len {size : Int} {s : DS} {cs : List Pl} {a : Int} {d : Blk} (hl : (cs.length : Int) ≤ size) : ((putC size s cs a d).1.length : Int) ≤ size := by
 unfold putC baseC
 split
 · exact hl
 · cases hz : Zz cs a with
   | some z =>
     have := outP_len hz
     simp only [List.length_append, List.length_cons, List.length_nil]; omega
   | none =>
     simp only
     cases hr : roomP size cs with
     | none => exact hl
     | some c1 =>
       have := roomP_len hr hl
       simp only [List.length_append, List.length_cons, List.length_nil]; omega
end Go.Vc
