/- Functions, run; each tied to the program. -/
import Derived.Test.YtmjngdocmilolaaGreatTC
set_option linter.unusedVariables false
set_option linter.unusedSimpArgs false
namespace Go.Proofs
open Go.Vc Go.Xc

/- undercroft/undercroftlaw14.lives -/
noncomputable abbrev c17_1 (x4 : CV) (h1 : CH) (k : CV → CH → Bool) : Bool :=
 xExtract x4 0 fun x5 =>
 xExtract x4 1 fun x6 =>
 xBin (some (.int .i64)) .eql x6 (.int .i64 (.ofNat 0)) fun x7 =>
 xIte x7
  (xNewS (some (5, 1, 1, true)) (some [(.bytes 1 0)]) 4 [(0, (.int .u8 (.ofNat 1))), (1, (.int .u8 (.ofNat 0))), (2, (.int .u8 (.ofNat 46))), (3, (.int .u8 (.ofNat 0)))] h1 fun x8 h2 =>
  bd19 x5 x8 h2 fun x9 h3 =>
  k x9 h3)
  (k (.bool false) h1)
noncomputable def bd17 (v0 : CV) (h : CH) (k : CV → CH → Bool) : Bool :=
 xNilCheck v0 fun x1 =>
 xAddr (some 1) x1 fun x2 =>
 xLoad (some none) x2 h fun x3 =>
 bd18 x3 (.int .i64 (.ofNat 1)) (.int .i64 (.ofNat 0)) (.int .i64 (.ofNat 4)) h fun x4 h1 =>
 c17_1 x4 h1 k
noncomputable abbrev ex17 : Ex := fun args h k => a1 args fun v0 => bd17 v0 h k
set_option maxRecDepth 100000 in
theorem sim17 : SimF Tryz.prog 17 ex17 := fun args h k hk => by
  obtain ⟨v0, rfl, hk⟩ := a1_ok hk
  exact sim_of (qf := (fun f => [75, 120, 121, 145, 146, 175, 181, 196, 197, 210, 220, 246].contains f)) (Z := zs) (C := [(18, ex18), (19, ex19)]) (T := []) ⟨zerosB_ok zsOk, (exCons (by kernel_rfl) sim18 (exCons (by kernel_rfl) sim19 exNil))⟩ .nil Tryz.func17 _ h k (Eq.mp (by kernel_rfl : (bd17 v0 h k = true) = (xFn Tryz.prog (fun f => [75, 120, 121, 145, 146, 175, 181, 196, 197, 210, 220, 246].contains f) zs [(18, ex18), (19, ex19)] [] Tryz.f17 .nil [v0] h k = true)) hk)
end Go.Proofs
