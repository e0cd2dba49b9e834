/- Functions, run; each tied to the program. -/
import Derived.Test.YtmjngdocmilolaaGreatRC
set_option linter.unusedVariables false
set_option linter.unusedSimpArgs false
namespace Go.Proofs
open Go.Vc Go.Xc

/- undercroft/undercroftlaw11.lives -/
noncomputable abbrev c27_1 (h1 : CH) (x5 : CV) (x6 : CV) (k : CV → CH → Bool) : Bool :=
 xBoxP 68 [(.int .u16 (.ofNat 0)), (.int .u16 (.ofNat 0)), (.int .u32 (.ofNat 0)), (.int .u32 (.ofNat 0)), (.int .u32 (.ofNat 0)), (.int .u32 (.ofNat 0)), (.int .u32 (.ofNat 0)), (.int .u32 (.ofNat 0)), (.int .u32 (.ofNat 0)), (.int .u32 (.ofNat 0)), (.int .u32 (.ofNat 0)), (.int .u32 (.ofNat 0)), (.int .u32 (.ofNat 0)), (.int .u32 (.ofNat 0)), (.int .u32 (.ofNat 0)), (.int .u32 (.ofNat 0))] h1 fun x7 h2 =>
 xStore (some 16) x7 x5 h2 fun h3 =>
 xBin (some (.int .i64)) .eql x6 (.int .i64 (.ofNat 0)) fun x8 =>
 xIte x8
  (xAddr (some 0) x7 fun x9 =>
  xLoad (some none) x9 h3 fun x10 =>
  xBin (some (.int .u16)) .eql x10 (.int .u16 (.ofNat 2)) fun x11 =>
  k x11 h3)
  (k (.bool false) h3)
noncomputable def bd27 (v0 : CV) (h : CH) (k : CV → CH → Bool) : Bool :=
 xNilCheck v0 fun x1 =>
 xAddr (some 1) x1 fun x2 =>
 xLoad (some none) x2 h fun x3 =>
 bd28 x3 (.int .i64 (.ofNat 1)) h fun x4 h1 =>
 xExtract x4 0 fun x5 =>
 xExtract x4 1 fun x6 =>
 c27_1 h1 x5 x6 k
noncomputable abbrev ex27 : Ex := fun args h k => a1 args fun v0 => bd27 v0 h k
set_option maxRecDepth 100000 in
theorem sim27 : SimF Tryz.prog 27 ex27 := fun args h k hk => by
  obtain ⟨v0, rfl, hk⟩ := a1_ok hk
  exact sim_of (qf := (fun f => [75, 120, 121, 145, 146, 175, 181, 196, 197, 210, 220, 246].contains f)) (Z := zs) (C := [(28, ex28)]) (T := []) ⟨zerosB_ok zsOk, (exCons (by kernel_rfl) sim28 exNil)⟩ .nil Tryz.func27 _ h k (Eq.mp (by kernel_rfl : (bd27 v0 h k = true) = (xFn Tryz.prog (fun f => [75, 120, 121, 145, 146, 175, 181, 196, 197, 210, 220, 246].contains f) zs [(28, ex28)] [] Tryz.f27 .nil [v0] h k = true)) hk)
end Go.Proofs
