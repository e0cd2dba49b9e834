/- Functions, run; each tied to the program. -/
import Derived.Test.YtmjngdocmilolaaGreatTx16
set_option linter.unusedVariables false
set_option linter.unusedSimpArgs false
namespace Go.Proofs
open Go.Vc Go.Xc

/- undercroft/undercroftlaw16.TrimNone -/
noncomputable abbrev c9_1 (x5 : CV) (x4 : CV) (v0 : CV) (v1 : CV) (h2 : CH) (k : CV → CH → Bool) : Bool :=
 xIte x5
  (xBin (some (.int .i64)) .eql x4 (.int .i64 (.ofNat 1)) fun x6 =>
  xIte x6
   (bd42 .nilp v0 v1 h2 fun x7 h3 =>
   xBin (some (.int .i64)) .eql x7 (.int .i64 (.ofNat 1)) fun x8 =>
   xIte x8
    (bd43 .nilp v0 v1 h3 fun x9 h4 =>
    xBin (some (.int .i64)) .eql x9 (.int .i64 (.ofNat 1)) fun x10 =>
    k x10 h4)
    (k (.bool false) h3))
   (k (.bool false) h2))
  (k (.bool false) h2)
noncomputable def bd9 (v0 v1 : CV) (h : CH) (k : CV → CH → Bool) : Bool :=
 ex40 [] h fun x1 h1 =>
 bd41 .nilp v0 v1 h1 fun x2 h2 =>
 xExtract x2 0 fun x3 =>
 xExtract x2 1 fun x4 =>
 xIte x1
  (xUn .not x3 fun x5 =>
  c9_1 x5 x4 v0 v1 h2 k)
  (k (.bool false) h2)
noncomputable abbrev ex9 : Ex := fun args h k => a2 args fun v0 v1 => bd9 v0 v1 h k
set_option maxRecDepth 100000 in
theorem sim9 : SimF Tryz.prog 9 ex9 := fun args h k hk => by
  obtain ⟨v0, v1, rfl, hk⟩ := a2_ok hk
  exact sim_of (qf := (fun f => [75, 120, 121, 145, 146, 175, 181, 196, 197, 210, 220, 246].contains f)) (Z := zs) (C := [(40, ex40), (41, ex41), (42, ex42), (43, ex43)]) (T := []) ⟨zerosB_ok zsOk, (exCons (by kernel_rfl) sim40 (exCons (by kernel_rfl) sim41 (exCons (by kernel_rfl) sim42 (exCons (by kernel_rfl) sim43 exNil))))⟩ .nil Tryz.func9 _ h k (Eq.mp (by kernel_rfl : (bd9 v0 v1 h k = true) = (xFn Tryz.prog (fun f => [75, 120, 121, 145, 146, 175, 181, 196, 197, 210, 220, 246].contains f) zs [(40, ex40), (41, ex41), (42, ex42), (43, ex43)] [] Tryz.f9 .nil [v0, v1] h k = true)) hk)
theorem ok9 : ex9 [.junk, .junk] h0 (fun z _ => isTrue z) = true := by kernel_rfl
end Go.Proofs
