/- RackCalls. -/
import Derived.Test.YtfegkmmifpgpfaaGreatRQM
import Derived.Test.YtfegkmmifpgpfaaGreatRQJ
set_option linter.unusedVariables false
set_option linter.unusedSimpArgs false
set_option maxRecDepth 100000
namespace Go.Vc
open Go.Proofs
theorem JO : Tryz.prog.underlying 73 = some (.slice 76) := by kernel_rfl
theorem aeV : Tryz.prog.underlying 76 = some (.struct (py (Tryz.prog.underlying 76))) := by kernel_rfl
theorem abb{l : List Value}{d : List Value}(h : (l.drop 2).take 16 = d){i : Nat}(hi : i < 16) : l[i + 2]? = d[i]? := by
 rw[<- h, List.getElem?_take_of_lt hi, LL, ad7]
theorem adY{K : Type}{enc : TypeId × Value -> K}{w : World}{sp : Nat -> Bool}{hd : Bool}{m : Nat}{v : Array Value}{x : DataW K × List MemPlace}(h : DataW.trod enc Tryz.prog w 0 sp hd m 76 v.toList = some x) : ∃ o : lX, v = o.c /\ o.Ok := by
 obtain⟨xs, n, rfl, _, h1, h2, h3⟩ := DataW.trod_struct aeV h;rw[show Tryz.prog.cellsOf 76 = 20 by kernel_rfl]at h1;obtain⟨y0, a0, _⟩ := zM (i := 0) (o := 0) (t := 3) h2 h3 (by kernel_rfl);obtain⟨y1, a1, _⟩ := zM (i := 1) (o := 1) (t := 3) h2 h3 (by kernel_rfl);obtain⟨y2, a2, _⟩ := zM (i := 2) (o := 2) (t := 54) h2 h3 (by kernel_rfl);obtain⟨y3, a3, _⟩ := zM (i := 3) (o := 18) (t := 3) h2 h3 (by kernel_rfl);obtain⟨y4, a4, _⟩ := zM (i := 4) (o := 19) (t := 5) h2 h3 (by kernel_rfl);rw[Eh]at a0 a1 a3;rw[aeX]at a4;rw[show Tryz.prog.cellsOf 54 = 16 by kernel_rfl]at a2;obtain⟨q0, b0, _, w0⟩ := DataW.trod_int Y6 a0;obtain⟨q1, b1, _, w1⟩ := DataW.trod_int Y6 a1;obtain⟨q3, b3, _, w3⟩ := DataW.trod_int Y6 a3;obtain⟨q4, b4, _, w4⟩ := DataW.trod_int aeQ a4;obtain⟨hn, kG⟩ := ack a2;have w0 := wf_i64 w0;have w1 := wf_i64 w1;have w3 := wf_i64 w3;have w4 := wf_u8 w4;have b0 := ZK b0;have b1 := ZK b1;have b3 := ZK b3;have b4 := ZK b4;generalize Ck ((v.toList.drop 2).take 16) = f at hn kG;refine⟨⟨q0, q1, f, q3, q4⟩, ?_, ⟨w0, w1, kG, w3, w4⟩⟩;rw[<- mV];apply ku;intro i
 match i with
 | 0 => rw[b0];rfl
 | 1 => rw[b1];rfl
 | 18 => rw[b3];rfl
 | 19 => rw[b4];rfl
 | 2 | 3 | 4 | 5 | 6 | 7 | 8 | 9 | 10 | 11 | 12 | 13 | 14 | 15 | 16 | 17 => exact abb hn (by omega)
 | i + 20 => rw[eR (by omega), eR (by simp[lX.c])]
theorem Xz{K : Type}{enc : TypeId × Value -> K}{w : World}{sp : Nat -> Bool}{hd : Bool}{m : Nat}{s : Value}{x : DataW K × List MemPlace}(h : DataW.trod enc Tryz.prog w 0 sp hd m 73 [s] = some x)(hw : ∀ n ∈ x.1.weights Tryz.prog 73, n <= reachBytes) : ∃ l : List lX, Sr 20 w.heap s (l.map lX.c) /\ (∀ o ∈ l, o.Ok) /\ l.length < 281474976710656 := by
 obtain⟨l, s1, o1, n1⟩ := Mc (f := lX.c) (Q := lX.Ok) JO (show Tryz.prog.cellsOf 76 = 20 by kernel_rfl) (by omega) hw (fun m v y hy _ => adY hy) h;have r := reachBytes_lt;have k5 : 1 <= Tryz.prog.bytesOf 76 := by decide +kernel
 have m5 := kg (Nat.mul_le_mul_left l.length k5) n1;exact⟨l, s1, o1, by omega⟩
end Go.Vc
namespace Go.Proofs.YtfegkmmifpgpfaaGreat
open Go.Vc
theorem xu(os : Os)(started : os.Started)(H : Type)(enc : TypeId × Value -> H) :
   ReturnsInHanded {} Tryz.checked os 5 .any (Rows.rackCallsSpec.pre6 enc Tryz.prog Tryz.f5 Rows.rackCallsRow.domain false) (Rows.rackCallsSpec.post enc Tryz.prog Tryz.f5 false true false false) := by
 refine returnsInHanded_of_change_sized (C := Tryz.checked) own started (by kernel_rfl) Tryz.func5
   (FA (enc := enc) (C := Tryz.checked) #[.agg (oK 0 0 0 (.slice none 0 0) 0 0 0), .slice none 0 0] 8 (by kernel_rfl) (by kernel_rfl) Tryz.func5 (by kernel_rfl) ⟨rfl, rfl, rfl, rfl⟩ (fun W base j t v ht hv => by
     match j, ht, hv with
     | 0, ht, hv => injection ht with ht;injection hv with hv;subst ht hv;exact P5
     | 1, ht, hv => injection ht with ht;injection hv with hv;subst ht hv;exact BT JO) (by kernel_rfl) (by kernel_rfl)) ?_
 intro W base args ds gs before ago hW aql hz _
 have hW' := hW
 obtain⟨p, q, hA, hV, rfl, hfz, lj⟩ := hW
 obtain⟨v, w, rfl⟩ := ahW hA
 have DV : w.cells = #[w] := by
   rcases Qz JO (ago 1 73 w (by kernel_rfl) rfl) with rfl | ⟨a, len, cap, c, T, z, rfl, hb⟩<;>rfl
 have key : Fc Tryz.prog 5 #[v, w] W.heap (fun v H' => v = .bool true /\ Ext W.heap H') := by
   match ds, hA, hz with
   | [d1, d2], hA, hz =>
     obtain⟨p1, q1, ⟨f1, h1⟩, ⟨p2, q2, ⟨f2, h2⟩, _⟩, _⟩ := hA
     have hz := kl.1 hz
     have z1 : ∀ n ∈ d1.weights Tryz.prog 28, n <= reachBytes := fun n hn => ks (hz n (DataW.weights_mem_each (j := 0) rfl rfl n hn))
     have z2 : ∀ n ∈ d2.weights Tryz.prog 73, n <= reachBytes := fun n hn => ks (hz n (DataW.weights_mem_each (j := 1) rfl rfl n hn))
     obtain⟨B, L, I, iv, fr, sp, lB, kU, rfl, hB, hs, kH, mY, hlen, Ua⟩ := P6 h1 z1
     rw[DV]at h2
     obtain⟨os, s2, o2, n2⟩ := Xz h2 z2
     exact N5 hB kH mY hlen hs Ua s2 o2 n2 fun H' hx => ⟨rfl, hx⟩
 refine(Fc.calls key).mono fun e W' ⟨v, he, ⟨hv, hx⟩, hs⟩ => ?_
 subst hv
 exact⟨_, he, RI laidOut UZ rfl (by kernel_rfl) (by kernel_rfl) hW' (fun e1 e2 => by
   match ds, gs, e1, e2 with
   | [d0, d1], [], _, _ => rfl) hs hx⟩
set_option maxHeartbeats 4000000 in
theorem xv : joinedFacts Tryz.pinned.checked.prog 5 Tryz.f5 Rows.rackCallsSpec Rows.rackCallsRow = true := by
 unfold joinedFacts;simp only[jd]
 repeat' apply And.intro
 all_goals (as_aux_lemma => kernel_rfl)
theorem AN : Tryz.pinned.checked.prog.funcNamed Rows.rackCallsRow.func = some 5 := by kernel_rfl
theorem BZ : Tryz.f5.isInstance Tryz.pinned.checked.prog Rows.rackCallsRow.origin Rows.rackCallsRow.targs := ks (by kernel_rfl)
theorem BX : Tryz.f5.isWrapper Tryz.pinned.checked.prog Rows.rackCallsRow.wrapper Rows.rackCallsRow.mainSum := by
 unfold Func.isWrapper
 first | (rw[aU (by decide +kernel)];kernel_rfl) | (rw[aH (by decide +kernel)];exact⟨rfl, rfl⟩)
theorem BY : Rows.rackCallsRow.holds Tryz.pinned (OpenSpec.ofChange Rows.rackCallsSpec) :=
 OpenClaim.holds_of_wide 5 Tryz.f5 rfl rfl rfl rfl rfl rfl rfl ⟨rfl, rfl, rfl, rfl, rfl⟩ rfl rfl rfl rfl rfl AN Tryz.func5 xv BZ BX
  (fun os started H enc _ => xu os started H enc)
theorem rackCalls : Rows.RackCallsSaid := BY
#print axioms rackCalls
end Go.Proofs.YtfegkmmifpgpfaaGreat
