/- Functions, run; each tied to the program. -/
import Derived.Test.YtacfcgoighnioaaGreatCNx12
set_option linter.unusedVariables false
set_option linter.unusedSimpArgs false
namespace Go.Proofs
open Go.Vc Go.Xc

/- undercroft/undercroftlaw12.ChartNil -/
noncomputable abbrev c4_1 (x51 : CV) (K41 : TupC 1 → CH → Bool) (h11 : CH) (x39 : CV) (x11 : CV) (s11 : TupC 1) (v0 : CV) : Bool :=
 xIte x51
  (K41 ((.bool true), ()) h11)
  (xBin (some (.int .i64)) .neq x39 (.int .i64 (.ofNat 1)) fun x52 =>
  xIte x52
   (K41 ((.bool true), ()) h11)
   (xIdx (some (none, 1)) x11 s11.1 fun x53 =>
   xLoad (some none) x53 h11 fun x54 =>
   bd14 x54 v0 h11 fun x55 h13 =>
   bd13 x55 .nils (.int .i64 (.negSucc 0)) h13 fun x56 h14 =>
   xUn .not x56 fun x57 =>
   K41 (x57, ()) h14))
noncomputable abbrev c4_2 (x48 : CV) (K41 : TupC 1 → CH → Bool) (h11 : CH) (x24 : CV) (x29 : CV) (x34 : CV) (x39 : CV) (x11 : CV) (s11 : TupC 1) (v0 : CV) : Bool :=
 xIte x48
  (K41 ((.bool true), ()) h11)
  (xBin (some (.int .i64)) .neq x24 (.int .i64 (.ofNat 1)) fun x49 =>
  xIte x49
   (K41 ((.bool true), ()) h11)
   (xBin (some (.int .i64)) .neq x29 (.int .i64 (.ofNat 1)) fun x50 =>
   xIte x50
    (K41 ((.bool true), ()) h11)
    (xBin (some (.int .i64)) .neq x34 (.int .i64 (.ofNat 1)) fun x51 =>
    c4_1 x51 K41 h11 x39 x11 s11 v0)))
noncomputable abbrev c4_3 (x45 : CV) (K41 : TupC 1 → CH → Bool) (h11 : CH) (x33 : CV) (x38 : CV) (x19 : CV) (x24 : CV) (x29 : CV) (x34 : CV) (x39 : CV) (x11 : CV) (s11 : TupC 1) (v0 : CV) : Bool :=
 xIte x45
  (K41 ((.bool true), ()) h11)
  (xBin (some (.int .i64)) .neq x33 (.int .i64 (.ofNat 0)) fun x46 =>
  xIte x46
   (K41 ((.bool true), ()) h11)
   (xBin (some (.int .i64)) .neq x38 (.int .i64 (.ofNat 0)) fun x47 =>
   xIte x47
    (K41 ((.bool true), ()) h11)
    (xBin (some (.int .i64)) .neq x19 (.int .i64 (.ofNat 1)) fun x48 =>
    c4_2 x48 K41 h11 x24 x29 x34 x39 x11 s11 v0)))
noncomputable abbrev c4_4 (k : CV → CH → Bool) (s11 : TupC 1) (K12 : TupC 1 → CH → Bool) (x18 : CV) (h11 : CH) (x23 : CV) (x28 : CV) (x33 : CV) (x38 : CV) (x19 : CV) (x24 : CV) (x29 : CV) (x34 : CV) (x39 : CV) (x11 : CV) (v0 : CV) : Bool :=
 xJoin (n := 1) (fun s39 h12 =>
  xIte s39.1
   (k (.bool false) h12)
   (xBin (some (.int .i64)) .add s11.1 (.int .i64 (.ofNat 1)) fun x41 =>
   K12 (x41, ()) h12))
 (fun K41 => xBin (some (.int .i64)) .neq x18 (.int .i64 (.ofNat 0)) fun x43 =>
 xIte x43
  (K41 ((.bool true), ()) h11)
  (xBin (some (.int .i64)) .neq x23 (.int .i64 (.ofNat 0)) fun x44 =>
  xIte x44
   (K41 ((.bool true), ()) h11)
   (xBin (some (.int .i64)) .neq x28 (.int .i64 (.ofNat 0)) fun x45 =>
   c4_3 x45 K41 h11 x33 x38 x19 x24 x29 x34 x39 x11 s11 v0)))
noncomputable abbrev c4_5 (x30 : CV) (h9 : CH) (v0 : CV) (v1 : CV) (x11 : CV) (s11 : TupC 1) (v2 : CV) (k : CV → CH → Bool) (K12 : TupC 1 → CH → Bool) (x18 : CV) (x23 : CV) (x28 : CV) (x19 : CV) (x24 : CV) (x29 : CV) : Bool :=
 xLoad (some none) x30 h9 fun x31 =>
 bd12 x31 v0 v1 h9 fun x32 h10 =>
 xExtract x32 0 fun x33 =>
 xExtract x32 1 fun x34 =>
 xIdx (some (none, 1)) x11 s11.1 fun x35 =>
 xLoad (some none) x35 h10 fun x36 =>
 bd15 x36 v0 v1 v2 h10 fun x37 h11 =>
 xExtract x37 0 fun x38 =>
 xExtract x37 1 fun x39 =>
 c4_4 k s11 K12 x18 h11 x23 x28 x33 x38 x19 x24 x29 x34 x39 x11 v0
noncomputable abbrev c4_6 (x21 : CV) (v0 : CV) (v1 : CV) (v2 : CV) (h7 : CH) (x11 : CV) (s11 : TupC 1) (k : CV → CH → Bool) (K12 : TupC 1 → CH → Bool) (x18 : CV) (x19 : CV) : Bool :=
 bd10 x21 v0 v1 v2 h7 fun x22 h8 =>
 xExtract x22 0 fun x23 =>
 xExtract x22 1 fun x24 =>
 xIdx (some (none, 1)) x11 s11.1 fun x25 =>
 xLoad (some none) x25 h8 fun x26 =>
 bd11 x26 v0 v1 h8 fun x27 h9 =>
 xExtract x27 0 fun x28 =>
 xExtract x27 1 fun x29 =>
 xIdx (some (none, 1)) x11 s11.1 fun x30 =>
 c4_5 x30 h9 v0 v1 x11 s11 v2 k K12 x18 x23 x28 x19 x24 x29
noncomputable abbrev c4_7 (s11 : TupC 1) (x11 : CV) (h6 : CH) (v0 : CV) (v1 : CV) (v2 : CV) (k : CV → CH → Bool) (K12 : TupC 1 → CH → Bool) : Bool :=
 xBin (some (.int .i64)) .lss s11.1 (.int .i64 (.ofNat 3)) fun x14 =>
 xIte x14
  (xIdx (some (none, 1)) x11 s11.1 fun x15 =>
  xLoad (some none) x15 h6 fun x16 =>
  bd9 x16 v0 v1 h6 fun x17 h7 =>
  xExtract x17 0 fun x18 =>
  xExtract x17 1 fun x19 =>
  xIdx (some (none, 1)) x11 s11.1 fun x20 =>
  xLoad (some none) x20 h7 fun x21 =>
  c4_6 x21 v0 v1 v2 h7 x11 s11 k K12 x18 x19)
  (k (.bool true) h6)
noncomputable abbrev c4_8 (h3 : CH) (x3 : CV) (v0 : CV) (v1 : CV) (v2 : CV) (k : CV → CH → Bool) : Bool :=
 xBoxP 60 [.nils, .nilm, .nilp, .nilp, (.int .i64 (.ofNat 0)), (.int .i64 (.ofNat 0)), (.int .i64 (.ofNat 0)), (.int .i64 (.ofNat 0)), (.int .i64 (.ofNat 0)), (.int .i64 (.ofNat 0)), (.int .i64 (.ofNat 0)), (.int .i64 (.ofNat 0)), (.int .i64 (.ofNat 0)), (.int .i64 (.ofNat 0)), (.bool false), (.int .i64 (.ofNat 0)), .nilm, (.int .i64 (.ofNat 0)), (.int .i64 (.ofNat 0))] h3 fun x7 h4 =>
 xNilCheck x3 fun x8 =>
 xAddr (some 1) x8 fun x9 =>
 xLoad (some none) x9 h4 fun x10 =>
 xNewS (some (36, 1, 8, false)) (some [.nilp]) 3 [(0, .nilp), (1, x7), (2, x10)] h4 fun x11 h5 =>
 xLoop (n := 1) (fun K12 s11 h6 =>
  c4_7 s11 x11 h6 v0 v1 v2 k K12) 1000000 ((.int .i64 (.ofNat 0)), ()) h5
noncomputable abbrev c4_9 (x5 : CV) (K57 : TupC 1 → CH → Bool) (h2 : CH) (x3 : CV) : Bool :=
 xUn .not x5 fun x60 =>
 xIte x60
  (K57 ((.bool true), ()) h2)
  (ex7 [] h2 fun x61 h15 =>
  xUn .not x61 fun x62 =>
  xIte x62
   (K57 ((.bool true), ()) h15)
   (xNilCheck x3 fun x63 =>
   xAddr (some 1) x63 fun x64 =>
   xLoad (some none) x64 h15 fun x65 =>
   bd17 x65 h15 fun x66 h16 =>
   xBin (some (.int .i64)) .neq x66 (.int .i64 (.ofNat 0)) fun x67 =>
   K57 (x67, ()) h16))
noncomputable def bd4 (v0 v1 v2 : CV) (h : CH) (k : CV → CH → Bool) : Bool :=
 bd6 h fun x1 h1 =>
 bd5 x1 h1 fun x2 h2 =>
 xExtract x2 0 fun x3 =>
 xExtract x2 1 fun x4 =>
 xExtract x2 2 fun x5 =>
 xJoin (n := 1) (fun s5 h3 =>
  xIte s5.1
   (k (.bool false) h3)
   (c4_8 h3 x3 v0 v1 v2 k))
 (fun K57 => xUn .not x4 fun x59 =>
 xIte x59
  (K57 ((.bool true), ()) h2)
  (c4_9 x5 K57 h2 x3))
noncomputable abbrev ex4 : Ex := fun args h k => a3 args fun v0 v1 v2 => bd4 v0 v1 v2 h k
set_option maxRecDepth 100000 in
theorem sim4 : SimF Tryz.prog 4 ex4 := fun args h k hk => by
  obtain ⟨v0, v1, v2, rfl, hk⟩ := a3_ok hk
  exact sim_of (qf := (fun f => [46, 47, 62, 75, 82, 97, 104, 114, 121, 127, 128, 141, 151, 156, 157, 183].contains f)) (Z := zs) (C := [(6, ex6), (5, ex5), (9, ex9), (10, ex10), (11, ex11), (12, ex12), (15, ex15), (14, ex14), (13, ex13), (7, ex7), (17, ex17)]) (T := []) ⟨zerosB_ok zsOk, (exCons (by kernel_rfl) sim6 (exCons (by kernel_rfl) sim5 (exCons (by kernel_rfl) sim9 (exCons (by kernel_rfl) sim10 (exCons (by kernel_rfl) sim11 (exCons (by kernel_rfl) sim12 (exCons (by kernel_rfl) sim15 (exCons (by kernel_rfl) sim14 (exCons (by kernel_rfl) sim13 (exCons (by kernel_rfl) sim7 (exCons (by kernel_rfl) sim17 exNil)))))))))))⟩ (.seq .nil (.seq .nil (.seq (.join [46] [29, 30, 31, 32, 33, 34, 35, 36, 37, 38, 39, 40, 41, 42, 43, 44, 45] .nil .nil) (.seq .nil (.seq .nil (.seq (.seq .nil (.loop [12] [52, 53, 57, 58, 59, 60, 61, 62, 63, 56, 64, 65, 13, 14, 67, 68, 69, 70, 71, 72, 73, 74, 66, 75, 76, 15, 16, 78, 79, 80, 81, 82, 83, 84, 77, 85, 86, 17, 18, 88, 89, 90, 91, 92, 93, 94, 87, 95, 96, 19, 20, 98, 99, 100, 101, 102, 103, 104, 105, 97, 106, 107, 21, 22, 108, 109, 110, 111, 112, 113, 114, 115, 116, 117, 118, 119, 120, 121, 122, 123, 124, 125, 126, 127, 128, 129, 130, 131, 132, 133, 134, 135, 136, 137, 138, 139, 140, 141, 142, 143, 144, 145, 146, 147, 148, 149, 150, 151, 152, 153, 154, 155, 6, 54, 55] (.seq .nil (.seq (.seq .nil (.seq .nil (.seq .nil (.seq .nil (.seq .nil (.join [155] [108, 109, 110, 111, 112, 113, 114, 115, 116, 117, 118, 119, 120, 121, 122, 123, 124, 125, 126, 127, 128, 129, 130, 131, 132, 133, 134, 135, 136, 137, 138, 139, 140, 141, 142, 143, 144, 145, 146, 147, 148, 149, 150, 151, 152, 153, 154] .nil .nil)))))) .nil)))) .nil)))))) Tryz.func4 _ h k (Eq.mp (by kernel_rfl : (bd4 v0 v1 v2 h k = true) = (xFn Tryz.prog (fun f => [46, 47, 62, 75, 82, 97, 104, 114, 121, 127, 128, 141, 151, 156, 157, 183].contains f) zs [(6, ex6), (5, ex5), (9, ex9), (10, ex10), (11, ex11), (12, ex12), (15, ex15), (14, ex14), (13, ex13), (7, ex7), (17, ex17)] [] Tryz.f4 (.seq .nil (.seq .nil (.seq (.join [46] [29, 30, 31, 32, 33, 34, 35, 36, 37, 38, 39, 40, 41, 42, 43, 44, 45] .nil .nil) (.seq .nil (.seq .nil (.seq (.seq .nil (.loop [12] [52, 53, 57, 58, 59, 60, 61, 62, 63, 56, 64, 65, 13, 14, 67, 68, 69, 70, 71, 72, 73, 74, 66, 75, 76, 15, 16, 78, 79, 80, 81, 82, 83, 84, 77, 85, 86, 17, 18, 88, 89, 90, 91, 92, 93, 94, 87, 95, 96, 19, 20, 98, 99, 100, 101, 102, 103, 104, 105, 97, 106, 107, 21, 22, 108, 109, 110, 111, 112, 113, 114, 115, 116, 117, 118, 119, 120, 121, 122, 123, 124, 125, 126, 127, 128, 129, 130, 131, 132, 133, 134, 135, 136, 137, 138, 139, 140, 141, 142, 143, 144, 145, 146, 147, 148, 149, 150, 151, 152, 153, 154, 155, 6, 54, 55] (.seq .nil (.seq (.seq .nil (.seq .nil (.seq .nil (.seq .nil (.seq .nil (.join [155] [108, 109, 110, 111, 112, 113, 114, 115, 116, 117, 118, 119, 120, 121, 122, 123, 124, 125, 126, 127, 128, 129, 130, 131, 132, 133, 134, 135, 136, 137, 138, 139, 140, 141, 142, 143, 144, 145, 146, 147, 148, 149, 150, 151, 152, 153, 154] .nil .nil)))))) .nil)))) .nil)))))) [v0, v1, v2] h k = true)) hk)
set_option maxHeartbeats 4000000 in
theorem ok4 : ex4 [.junk, .junk, .junk] h0 (fun z _ => isTrue z) = true := by kernel_rfl
end Go.Proofs
