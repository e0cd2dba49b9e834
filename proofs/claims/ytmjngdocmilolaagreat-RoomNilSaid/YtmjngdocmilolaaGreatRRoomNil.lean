/- Functions, run; each tied to the program. -/
import Derived.Test.YtmjngdocmilolaaGreatRx09
set_option linter.unusedVariables false
set_option linter.unusedSimpArgs false
namespace Go.Proofs
open Go.Vc Go.Xc

/- undercroft/undercroftlaw09.RoomNil -/
noncomputable abbrev c7_1 (x36 : CV) (K31 : TupC 1 → CH → Bool) (h9 : CH) (x29 : CV) (x11 : CV) (s11 : TupC 1) (v0 : CV) : Bool :=
 xIte x36
  (K31 ((.bool true), ()) h9)
  (xBin (some (.int .i64)) .neq x29 (.int .i64 (.ofNat 1)) fun x37 =>
  xIte x37
   (K31 ((.bool true), ()) h9)
   (xIdx (some (none, 1)) x11 s11.1 fun x38 =>
   xLoad (some none) x38 h9 fun x39 =>
   bd24 x39 v0 h9 fun x40 h11 =>
   xBin (some (.int .i64)) .neq x40 (.int .i64 (.ofNat 1)) fun x41 =>
   K31 (x41, ()) h11))
noncomputable abbrev c7_2 (x23 : CV) (K31 : TupC 1 → CH → Bool) (h9 : CH) (x28 : CV) (x19 : CV) (x24 : CV) (x29 : CV) (x11 : CV) (s11 : TupC 1) (v0 : CV) : Bool :=
 xIte x23
  (K31 ((.bool true), ()) h9)
  (xBin (some (.int .i64)) .neq x28 (.int .i64 (.ofNat 0)) fun x34 =>
  xIte x34
   (K31 ((.bool true), ()) h9)
   (xBin (some (.int .i64)) .neq x19 (.int .i64 (.ofNat 1)) fun x35 =>
   xIte x35
    (K31 ((.bool true), ()) h9)
    (xBin (some (.int .i64)) .neq x24 (.int .i64 (.ofNat 1)) fun x36 =>
    c7_1 x36 K31 h9 x29 x11 s11 v0)))
noncomputable abbrev c7_3 (x27 : CV) (k : CV → CH → Bool) (s11 : TupC 1) (K12 : TupC 1 → CH → Bool) (x18 : CV) (h9 : CH) (x23 : CV) (x28 : CV) (x19 : CV) (x24 : CV) (x11 : CV) (v0 : CV) : Bool :=
 xExtract x27 1 fun x29 =>
 xJoin (n := 1) (fun s29 h10 =>
  xIte s29.1
   (k (.bool false) h10)
   (xBin (some (.int .i64)) .add s11.1 (.int .i64 (.ofNat 1)) fun x31 =>
   K12 (x31, ()) h10))
 (fun K31 => xBin (some (.int .i64)) .neq x18 (.int .i64 (.ofNat 0)) fun x33 =>
 xIte x33
  (K31 ((.bool true), ()) h9)
  (c7_2 x23 K31 h9 x28 x19 x24 x29 x11 s11 v0))
noncomputable abbrev c7_4 (x17 : CV) (x11 : CV) (s11 : TupC 1) (h7 : CH) (v0 : CV) (k : CV → CH → Bool) (K12 : TupC 1 → CH → Bool) (x18 : CV) : Bool :=
 xExtract x17 1 fun x19 =>
 xIdx (some (none, 1)) x11 s11.1 fun x20 =>
 xLoad (some none) x20 h7 fun x21 =>
 bd21 x21 v0 h7 fun x22 h8 =>
 xExtract x22 0 fun x23 =>
 xExtract x22 1 fun x24 =>
 xIdx (some (none, 1)) x11 s11.1 fun x25 =>
 xLoad (some none) x25 h8 fun x26 =>
 bd25 x26 h8 fun x27 h9 =>
 xExtract x27 0 fun x28 =>
 c7_3 x27 k s11 K12 x18 h9 x23 x28 x19 x24 x11 v0
noncomputable abbrev c7_5 (x11 : CV) (v0 : CV) (k : CV → CH → Bool) (h5 : CH) : Bool :=
 xLoop (n := 1) (fun K12 s11 h6 =>
  xBin (some (.int .i64)) .lss s11.1 (.int .i64 (.ofNat 3)) fun x14 =>
  xIte x14
   (xIdx (some (none, 1)) x11 s11.1 fun x15 =>
   xLoad (some none) x15 h6 fun x16 =>
   bd22 x16 h6 fun x17 h7 =>
   xExtract x17 0 fun x18 =>
   c7_4 x17 x11 s11 h7 v0 k K12 x18)
   (k (.bool true) h6)) 1000000 ((.int .i64 (.ofNat 0)), ()) h5
noncomputable abbrev c7_6 (h3 : CH) (x3 : CV) (v0 : CV) (k : CV → CH → Bool) : Bool :=
 xBoxP 91 [.nils, .nilm, .nilp, .nilp, (.int .i64 (.ofNat 0)), (.int .i64 (.ofNat 0)), (.int .i64 (.ofNat 0)), (.int .i64 (.ofNat 0)), (.int .i64 (.ofNat 0)), (.int .i64 (.ofNat 0)), (.int .i64 (.ofNat 0)), (.int .i64 (.ofNat 0)), (.int .i64 (.ofNat 0)), (.int .i64 (.ofNat 0)), (.bool false), (.int .i64 (.ofNat 0)), .nilm, (.int .i64 (.ofNat 0)), (.int .i64 (.ofNat 0))] h3 fun x7 h4 =>
 xNilCheck x3 fun x8 =>
 xAddr (some 1) x8 fun x9 =>
 xLoad (some none) x9 h4 fun x10 =>
 xNewS (some (51, 1, 8, false)) (some [.nilp]) 3 [(0, .nilp), (1, x7), (2, x10)] h4 fun x11 h5 =>
 c7_5 x11 v0 k h5
noncomputable abbrev c7_7 (x44 : CV) (K41 : TupC 1 → CH → Bool) (h2 : CH) (x3 : CV) : Bool :=
 xIte x44
  (K41 ((.bool true), ()) h2)
  (ex20 [] h2 fun x45 h12 =>
  xUn .not x45 fun x46 =>
  xIte x46
   (K41 ((.bool true), ()) h12)
   (xNilCheck x3 fun x47 =>
   xAddr (some 1) x47 fun x48 =>
   xLoad (some none) x48 h12 fun x49 =>
   bd39 x49 h12 fun x50 h13 =>
   xBin (some (.int .i64)) .neq x50 (.int .i64 (.ofNat 0)) fun x51 =>
   K41 (x51, ()) h13))
noncomputable def bd7 (v0 : CV) (h : CH) (k : CV → CH → Bool) : Bool :=
 bd15 h fun x1 h1 =>
 bd16 x1 h1 fun x2 h2 =>
 xExtract x2 0 fun x3 =>
 xExtract x2 1 fun x4 =>
 xExtract x2 2 fun x5 =>
 xJoin (n := 1) (fun s5 h3 =>
  xIte s5.1
   (k (.bool false) h3)
   (c7_6 h3 x3 v0 k))
 (fun K41 => xUn .not x4 fun x43 =>
 xIte x43
  (K41 ((.bool true), ()) h2)
  (xUn .not x5 fun x44 =>
  c7_7 x44 K41 h2 x3))
noncomputable abbrev ex7 : Ex := fun args h k => a1 args fun v0 => bd7 v0 h k
set_option maxRecDepth 100000 in
theorem sim7 : SimF Tryz.prog 7 ex7 := fun args h k hk => by
  obtain ⟨v0, rfl, hk⟩ := a1_ok hk
  exact sim_of (qf := (fun f => [75, 120, 121, 145, 146, 175, 181, 196, 197, 210, 220, 246].contains f)) (Z := zs) (C := [(15, ex15), (16, ex16), (22, ex22), (21, ex21), (25, ex25), (24, ex24), (20, ex20), (39, ex39)]) (T := []) ⟨zerosB_ok zsOk, (exCons (by kernel_rfl) sim15 (exCons (by kernel_rfl) sim16 (exCons (by kernel_rfl) sim22 (exCons (by kernel_rfl) sim21 (exCons (by kernel_rfl) sim25 (exCons (by kernel_rfl) sim24 (exCons (by kernel_rfl) sim20 (exCons (by kernel_rfl) sim39 exNil))))))))⟩ (.seq .nil (.seq .nil (.seq (.join [38] [21, 22, 23, 24, 25, 26, 27, 28, 29, 30, 31, 32, 33, 34, 35, 36, 37] .nil .nil) (.seq .nil (.seq .nil (.seq (.seq .nil (.loop [8] [44, 45, 49, 50, 51, 52, 53, 48, 54, 55, 9, 10, 57, 58, 59, 60, 61, 62, 56, 63, 64, 11, 12, 66, 67, 68, 69, 70, 65, 71, 72, 13, 14, 73, 74, 75, 76, 77, 78, 79, 80, 81, 82, 83, 84, 85, 86, 87, 88, 89, 90, 91, 92, 93, 94, 95, 96, 97, 98, 99, 100, 101, 102, 2, 46, 47] (.seq .nil (.seq (.seq .nil (.seq .nil (.seq .nil (.join [102] [73, 74, 75, 76, 77, 78, 79, 80, 81, 82, 83, 84, 85, 86, 87, 88, 89, 90, 91, 92, 93, 94, 95, 96, 97, 98, 99, 100, 101] .nil .nil)))) .nil)))) .nil)))))) Tryz.func7 _ h k (Eq.mp (by kernel_rfl : (bd7 v0 h k = true) = (xFn Tryz.prog (fun f => [75, 120, 121, 145, 146, 175, 181, 196, 197, 210, 220, 246].contains f) zs [(15, ex15), (16, ex16), (22, ex22), (21, ex21), (25, ex25), (24, ex24), (20, ex20), (39, ex39)] [] Tryz.f7 (.seq .nil (.seq .nil (.seq (.join [38] [21, 22, 23, 24, 25, 26, 27, 28, 29, 30, 31, 32, 33, 34, 35, 36, 37] .nil .nil) (.seq .nil (.seq .nil (.seq (.seq .nil (.loop [8] [44, 45, 49, 50, 51, 52, 53, 48, 54, 55, 9, 10, 57, 58, 59, 60, 61, 62, 56, 63, 64, 11, 12, 66, 67, 68, 69, 70, 65, 71, 72, 13, 14, 73, 74, 75, 76, 77, 78, 79, 80, 81, 82, 83, 84, 85, 86, 87, 88, 89, 90, 91, 92, 93, 94, 95, 96, 97, 98, 99, 100, 101, 102, 2, 46, 47] (.seq .nil (.seq (.seq .nil (.seq .nil (.seq .nil (.join [102] [73, 74, 75, 76, 77, 78, 79, 80, 81, 82, 83, 84, 85, 86, 87, 88, 89, 90, 91, 92, 93, 94, 95, 96, 97, 98, 99, 100, 101] .nil .nil)))) .nil)))) .nil)))))) [v0] h k = true)) hk)
theorem ok7 : ex7 [.junk] h0 (fun z _ => isTrue z) = true := by kernel_rfl
end Go.Proofs
