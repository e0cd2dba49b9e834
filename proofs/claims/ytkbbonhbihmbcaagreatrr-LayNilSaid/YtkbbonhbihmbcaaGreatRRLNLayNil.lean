/- Functions, run; each tied to the program. -/
import Derived.Test.YtkbbonhbihmbcaaGreatRRLNx15
set_option linter.unusedVariables false
set_option linter.unusedSimpArgs false
namespace Go.Proofs
open Go.Vc Go.Xc

/- undercroft/undercroftlaw15.LayNil -/
noncomputable abbrev c5_1 (x25 : CV) (h7 : CH) (v0 : CV) (v1 : CV) (v2 : CV) (K21 : TupC 1 → CH → Bool) (x11 : CV) (s11 : TupC 1) : Bool :=
 xLoad (some none) x25 h7 fun x26 =>
 bd22 x26 v0 v1 v2 h7 fun x27 h9 =>
 xBin (some (.int .i64)) .neq x27 (.int .i64 (.ofNat 1)) fun x28 =>
 xIte x28
  (K21 ((.bool true), ()) h9)
  (xIdx (some (none, 1)) x11 s11.1 fun x29 =>
  xLoad (some none) x29 h9 fun x30 =>
  bd23 x30 v0 v1 v2 h9 fun x31 h10 =>
  xBin (some (.int .i64)) .neq x31 (.int .i64 (.ofNat 1)) fun x32 =>
  K21 (x32, ()) h10)
noncomputable abbrev c5_2 (k : CV → CH → Bool) (s11 : TupC 1) (K12 : TupC 1 → CH → Bool) (x18 : CV) (h7 : CH) (x19 : CV) (x11 : CV) (v0 : CV) (v1 : CV) (v2 : CV) : Bool :=
 xJoin (n := 1) (fun s19 h8 =>
  xIte s19.1
   (k (.bool false) h8)
   (xBin (some (.int .i64)) .add s11.1 (.int .i64 (.ofNat 1)) fun x21 =>
   K12 (x21, ()) h8))
 (fun K21 => xBin (some (.int .i64)) .neq x18 (.int .i64 (.ofNat 0)) fun x23 =>
 xIte x23
  (K21 ((.bool true), ()) h7)
  (xBin (some (.int .i64)) .neq x19 (.int .i64 (.ofNat 1)) fun x24 =>
  xIte x24
   (K21 ((.bool true), ()) h7)
   (xIdx (some (none, 1)) x11 s11.1 fun x25 =>
   c5_1 x25 h7 v0 v1 v2 K21 x11 s11)))
noncomputable abbrev c5_3 (x11 : CV) (v0 : CV) (v1 : CV) (v2 : CV) (k : CV → CH → Bool) (h5 : CH) : Bool :=
 xLoop (n := 1) (fun K12 s11 h6 =>
  xBin (some (.int .i64)) .lss s11.1 (.int .i64 (.ofNat 3)) fun x14 =>
  xIte x14
   (xIdx (some (none, 1)) x11 s11.1 fun x15 =>
   xLoad (some none) x15 h6 fun x16 =>
   bd18 x16 v0 v1 v2 h6 fun x17 h7 =>
   xExtract x17 0 fun x18 =>
   xExtract x17 1 fun x19 =>
   c5_2 k s11 K12 x18 h7 x19 x11 v0 v1 v2)
   (k (.bool true) h6)) 1000000 ((.int .i64 (.ofNat 0)), ()) h5
noncomputable abbrev c5_4 (h3 : CH) (x3 : CV) (v0 : CV) (v1 : CV) (v2 : CV) (k : CV → CH → Bool) : Bool :=
 xBoxP 51 [.nils, .nilm, .nilp, .nilp, (.int .i64 (.ofNat 0)), (.int .i64 (.ofNat 0)), (.int .i64 (.ofNat 0)), (.int .i64 (.ofNat 0)), (.int .i64 (.ofNat 0)), (.int .i64 (.ofNat 0)), (.int .i64 (.ofNat 0)), (.int .i64 (.ofNat 0)), (.int .i64 (.ofNat 0)), (.int .i64 (.ofNat 0)), (.bool false), (.int .i64 (.ofNat 0)), .nilm, (.int .i64 (.ofNat 0)), (.int .i64 (.ofNat 0))] h3 fun x7 h4 =>
 xNilCheck x3 fun x8 =>
 xAddr (some 1) x8 fun x9 =>
 xLoad (some none) x9 h4 fun x10 =>
 xNewS (some (37, 1, 8, false)) (some [.nilp]) 3 [(0, .nilp), (1, x7), (2, x10)] h4 fun x11 h5 =>
 c5_3 x11 v0 v1 v2 k h5
noncomputable abbrev c5_5 (x35 : CV) (K32 : TupC 1 → CH → Bool) (h2 : CH) (x3 : CV) : Bool :=
 xIte x35
  (K32 ((.bool true), ()) h2)
  (ex17 [] h2 fun x36 h11 =>
  xUn .not x36 fun x37 =>
  xIte x37
   (K32 ((.bool true), ()) h11)
   (xNilCheck x3 fun x38 =>
   xAddr (some 1) x38 fun x39 =>
   xLoad (some none) x39 h11 fun x40 =>
   bd12 x40 h11 fun x41 h12 =>
   xBin (some (.int .i64)) .neq x41 (.int .i64 (.ofNat 0)) fun x42 =>
   K32 (x42, ()) h12))
noncomputable def bd5 (v0 v1 v2 : CV) (h : CH) (k : CV → CH → Bool) : Bool :=
 bd21 h fun x1 h1 =>
 bd9 x1 h1 fun x2 h2 =>
 xExtract x2 0 fun x3 =>
 xExtract x2 1 fun x4 =>
 xExtract x2 2 fun x5 =>
 xJoin (n := 1) (fun s5 h3 =>
  xIte s5.1
   (k (.bool false) h3)
   (c5_4 h3 x3 v0 v1 v2 k))
 (fun K32 => xUn .not x4 fun x34 =>
 xIte x34
  (K32 ((.bool true), ()) h2)
  (xUn .not x5 fun x35 =>
  c5_5 x35 K32 h2 x3))
noncomputable abbrev ex5 : Ex := fun args h k => a3 args fun v0 v1 v2 => bd5 v0 v1 v2 h k
set_option maxRecDepth 100000 in
theorem sim5 : SimF Tryz.prog 5 ex5 := fun args h k hk => by
  obtain ⟨v0, v1, v2, rfl, hk⟩ := a3_ok hk
  exact sim_of (qf := (fun f => [83, 84, 97, 101, 102, 103, 115, 122, 138, 144, 154, 161, 162, 175, 185, 214].contains f)) (Z := zs) (C := [(21, ex21), (9, ex9), (18, ex18), (22, ex22), (23, ex23), (17, ex17), (12, ex12)]) (T := []) ⟨zerosB_ok zsOk, (exCons (by kernel_rfl) sim21 (exCons (by kernel_rfl) sim9 (exCons (by kernel_rfl) sim18 (exCons (by kernel_rfl) sim22 (exCons (by kernel_rfl) sim23 (exCons (by kernel_rfl) sim17 (exCons (by kernel_rfl) sim12 exNil)))))))⟩ (.seq .nil (.seq .nil (.seq (.join [38] [21, 22, 23, 24, 25, 26, 27, 28, 29, 30, 31, 32, 33, 34, 35, 36, 37] .nil .nil) (.seq .nil (.seq .nil (.seq (.seq .nil (.loop [12] [44, 45, 49, 50, 51, 52, 53, 54, 55, 56, 48, 57, 58, 13, 14, 59, 60, 61, 62, 63, 64, 65, 66, 67, 68, 69, 70, 71, 72, 73, 74, 75, 76, 77, 78, 79, 80, 81, 82, 83, 84, 85, 86, 6, 46, 47] (.seq .nil (.seq (.seq .nil (.join [86] [59, 60, 61, 62, 63, 64, 65, 66, 67, 68, 69, 70, 71, 72, 73, 74, 75, 76, 77, 78, 79, 80, 81, 82, 83, 84, 85] .nil .nil)) .nil)))) .nil)))))) Tryz.func5 _ h k (Eq.mp (by kernel_rfl : (bd5 v0 v1 v2 h k = true) = (xFn Tryz.prog (fun f => [83, 84, 97, 101, 102, 103, 115, 122, 138, 144, 154, 161, 162, 175, 185, 214].contains f) zs [(21, ex21), (9, ex9), (18, ex18), (22, ex22), (23, ex23), (17, ex17), (12, ex12)] [] Tryz.f5 (.seq .nil (.seq .nil (.seq (.join [38] [21, 22, 23, 24, 25, 26, 27, 28, 29, 30, 31, 32, 33, 34, 35, 36, 37] .nil .nil) (.seq .nil (.seq .nil (.seq (.seq .nil (.loop [12] [44, 45, 49, 50, 51, 52, 53, 54, 55, 56, 48, 57, 58, 13, 14, 59, 60, 61, 62, 63, 64, 65, 66, 67, 68, 69, 70, 71, 72, 73, 74, 75, 76, 77, 78, 79, 80, 81, 82, 83, 84, 85, 86, 6, 46, 47] (.seq .nil (.seq (.seq .nil (.join [86] [59, 60, 61, 62, 63, 64, 65, 66, 67, 68, 69, 70, 71, 72, 73, 74, 75, 76, 77, 78, 79, 80, 81, 82, 83, 84, 85] .nil .nil)) .nil)))) .nil)))))) [v0, v1, v2] h k = true)) hk)
set_option maxHeartbeats 4000000 in
theorem okn5 : ex5 [.junk, .junk, .nils] h0 (fun z _ => isTrue z) = true := by kernel_rfl
set_option maxHeartbeats 4000000 in
theorem oks5 (o n c : Nat) : ex5 [.junk, .junk, .sl 0 o n c] hS (fun z _ => isTrue z) = true := by kernel_rfl
end Go.Proofs
