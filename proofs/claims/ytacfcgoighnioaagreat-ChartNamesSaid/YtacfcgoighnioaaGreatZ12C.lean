/- Functions, run; each tied to the program. -/
import Derived.Test.YtacfcgoighnioaaGreatZ12B
set_option linter.unusedVariables false
set_option linter.unusedSimpArgs false
namespace Go.Proofs
open Go.Vc Go.Xc

/- (*undercroft/cache.Cache).Flush -/
noncomputable abbrev c64_1 (x18 : CV) (h3 : CH) (v0 : CV) (k : CV → CH → Bool) : Bool :=
 xAddr (some 1025) x18 fun x19 =>
 xStore (some 1) x19 (.bool false) h3 fun h4 =>
 xNilCheck v0 fun x20 =>
 xAddr (some 2) x20 fun x21 =>
 xLoad (some none) x21 h4 fun x22 =>
 xBin (some (.int .i64)) .sub x22 (.int .i64 (.ofNat 1)) fun x23 =>
 xNilCheck v0 fun x24 =>
 xAddr (some 2) x24 fun x25 =>
 xStore (some 1) x25 x23 h4 fun h5 =>
 k (.int .i64 (.ofNat 0)) h5
noncomputable abbrev c64_2 (v0 : CV) (h2 : CH) (x7 : CV) (v1 : CV) (k : CV → CH → Bool) : Bool :=
 xNilCheck v0 fun x10 =>
 xAddr (some 0) x10 fun x11 =>
 xLoad (some none) x11 h2 fun x12 =>
 xNilCheck x7 fun x13 =>
 xAddr (some 1) x13 fun x14 =>
 xLoad (some (some 1024)) x14 h2 fun x15 =>
 bd61 x12 v1 x15 h2 fun x16 h3 =>
 xBin (some (.int .i64)) .neq x16 (.int .i64 (.ofNat 0)) fun x17 =>
 xIte x17
  (k x16 h3)
  (xNilCheck x7 fun x18 =>
  c64_1 x18 h3 v0 k)
noncomputable abbrev c64_3 (x6 : CV) (k : CV → CH → Bool) (v0 : CV) (v1 : CV) (h1 : CH) : Bool :=
 xExtract x6 0 fun x7 =>
 xExtract x6 1 fun x8 =>
 xJoin (n := 1) (fun s8 h2 =>
  xIte s8.1
   (k (.int .i64 (.ofNat 0)) h2)
   (c64_2 v0 h2 x7 v1 k))
 (fun K25 => xUn .not x8 fun x27 =>
 xIte x27
  (K25 ((.bool true), ()) h1)
  (xNilCheck x7 fun x28 =>
  xAddr (some 1025) x28 fun x29 =>
  xLoad (some none) x29 h1 fun x30 =>
  xUn .not x30 fun x31 =>
  K25 (x31, ()) h1))
noncomputable def bd64 (v0 v1 : CV) (h : CH) (k : CV → CH → Bool) : Bool :=
 bd105 v0 v1 h fun x1 h1 =>
 xBin (some (.int .i64)) .neq x1 (.int .i64 (.ofNat 0)) fun x2 =>
 xIte x2
  (k x1 h1)
  (xNilCheck v0 fun x3 =>
  xAddr (some 1031) x3 fun x4 =>
  xLoad (some none) x4 h1 fun x5 =>
  xLookup (some (3, .int .i64, 203)) (some .nilp) true x5 v1 h1 fun x6 =>
  c64_3 x6 k v0 v1 h1)
noncomputable abbrev ex64 : Ex := fun args h k => a2 args fun v0 v1 => bd64 v0 v1 h k
set_option maxRecDepth 100000 in
theorem sim64 : SimF Tryz.prog 64 ex64 := fun args h k hk => by
  obtain ⟨v0, v1, rfl, hk⟩ := a2_ok hk
  exact sim_of (qf := (fun f => [46, 47, 62, 75, 82, 97, 104, 114, 121, 127, 128, 141, 151, 156, 157, 183].contains f)) (Z := zs) (C := [(105, ex105), (61, ex61)]) (T := []) ⟨zerosB_ok zsOk, (exCons (by kernel_rfl) sim105 (exCons (by kernel_rfl) sim61 exNil))⟩ (.seq .nil (.seq .nil (.seq .nil (.seq (.join [32] [24, 25, 26, 27, 28, 29, 30, 31] .nil .nil) .nil)))) Tryz.func64 _ h k (Eq.mp (by kernel_rfl : (bd64 v0 v1 h k = true) = (xFn Tryz.prog (fun f => [46, 47, 62, 75, 82, 97, 104, 114, 121, 127, 128, 141, 151, 156, 157, 183].contains f) zs [(105, ex105), (61, ex61)] [] Tryz.f64 (.seq .nil (.seq .nil (.seq .nil (.seq (.join [32] [24, 25, 26, 27, 28, 29, 30, 31] .nil .nil) .nil)))) [v0, v1] h k = true)) hk)

/- (*undercroft/wal.Log).commit$1 -/
noncomputable abbrev c59_1 (x6 : CV) (x5 : CV) (h1 : CH) (v1 : CV) (k : CV → CH → Bool) : Bool :=
 xAddr (some 0) x6 fun x7 =>
 xStore (some 2) x7 x5 h1 fun h2 =>
 xLoad (some none) v1 h2 fun x8 =>
 xNilCheck x8 fun x9 =>
 xAddr (some 17) x9 fun x10 =>
 xLoad (some none) x10 h2 fun x11 =>
 xBin (some (.int .i64)) .add x11 (.int .i64 (.ofNat 1)) fun x12 =>
 xNilCheck x8 fun x13 =>
 xAddr (some 17) x13 fun x14 =>
 xStore (some 1) x14 x12 h2 fun h3 =>
 k (.tup []) h3
noncomputable def bd59 (v0 v1 : CV) (h : CH) (k : CV → CH → Bool) : Bool :=
 xLoad (some none) v0 h fun x1 =>
 xBin (some (.int .i64)) .eql x1 (.int .i64 (.ofNat 0)) fun x2 =>
 xIte x2
  (xLoad (some none) v1 h fun x3 =>
  xNewMap h fun x4 h1 =>
  xBuild (some (.inl [(0, 1), (1, 1)])) (some (.agg [.nils, .nilm])) [(1, x4)] fun x5 =>
  xNilCheck x3 fun x6 =>
  c59_1 x6 x5 h1 v1 k)
  (k (.tup []) h)
noncomputable abbrev ex59 : Ex := fun args h k => a2 args fun v0 v1 => bd59 v0 v1 h k
set_option maxRecDepth 100000 in
theorem sim59 : SimF Tryz.prog 59 ex59 := fun args h k hk => by
  obtain ⟨v0, v1, rfl, hk⟩ := a2_ok hk
  exact sim_of (qf := (fun f => [46, 47, 62, 75, 82, 97, 104, 114, 121, 127, 128, 141, 151, 156, 157, 183].contains f)) (Z := zs) (C := []) (T := []) ⟨zerosB_ok zsOk, exNil⟩ .nil Tryz.func59 _ h k (Eq.mp (by kernel_rfl : (bd59 v0 v1 h k = true) = (xFn Tryz.prog (fun f => [46, 47, 62, 75, 82, 97, 104, 114, 121, 127, 128, 141, 151, 156, 157, 183].contains f) zs [] [] Tryz.f59 .nil [v0, v1] h k = true)) hk)
set_option maxRecDepth 100000 in
theorem simd59 : SimD Tryz.prog 59 ex59 := fun args h k hk => by
  obtain ⟨v0, v1, rfl, hk⟩ := a2_ok hk
  exact simD_of (qf := (fun f => [46, 47, 62, 75, 82, 97, 104, 114, 121, 127, 128, 141, 151, 156, 157, 183].contains f)) (Z := zs) (C := []) (T := []) ⟨zerosB_ok zsOk, exNil⟩ .nil Tryz.func59 _ h k (Eq.mp (by kernel_rfl : (bd59 v0 v1 h k = true) = (xFn Tryz.prog (fun f => [46, 47, 62, 75, 82, 97, 104, 114, 121, 127, 128, 141, 151, 156, 157, 183].contains f) zs [] [] Tryz.f59 .nil [v0, v1] h k = true)) hk)

/- (*undercroft/wal.Log).commit -/
noncomputable abbrev c27_1 (x27 : CV) (x34 : CV) (x35 : CV) (h6 : CH) (x2 : CV) (x1 : CV) (k : CV → CH → Bool) (s8 : TupC 1) (K9 : TupC 1 → CH → Bool) : Bool :=
 bd61 x27 x34 x35 h6 fun x36 h9 =>
 xBin (some (.int .i64)) .neq x36 (.int .i64 (.ofNat 0)) fun x37 =>
 xIte x37
  (xStore (some 1) x2 (.int .i64 (.ofNat 3)) h9 fun h10 =>
  xRunDs [(59, ex59)] [(.fn 59 [] [x2, x1])] h10 fun h11 =>
  xLoad (some none) x2 h11 fun x38 =>
  k x38 h11)
  (xBin (some (.int .i64)) .add s8.1 (.int .i64 (.ofNat 1)) fun x39 =>
  K9 (x39, ()) h9)
noncomputable abbrev c27_2 (x26 : CV) (h6 : CH) (x1 : CV) (s8 : TupC 1) (x21 : CV) (x2 : CV) (k : CV → CH → Bool) (K9 : TupC 1 → CH → Bool) : Bool :=
 xLoad (some none) x26 h6 fun x27 =>
 xLoad (some none) x1 h6 fun x28 =>
 xNilCheck x28 fun x29 =>
 xAddr (some 4) x29 fun x30 =>
 xAddr (some 3) x30 fun x31 =>
 xLoad (some none) x31 h6 fun x32 =>
 xBin (some (.int .i64)) .add x32 (.int .i64 (.ofNat 1)) fun x33 =>
 xBin (some (.int .i64)) .add x33 s8.1 fun x34 =>
 xLoad (some (some 1024)) x21 h6 fun x35 =>
 c27_1 x27 x34 x35 h6 x2 x1 k s8 K9
noncomputable abbrev c27_3 (x20 : CV) (x2 : CV) (h6 : CH) (x1 : CV) (k : CV → CH → Bool) (s8 : TupC 1) (x21 : CV) (K9 : TupC 1 → CH → Bool) : Bool :=
 xBin (some (.int .i64)) .neq x20 (.int .i64 (.ofNat 0)) fun x22 =>
 xIte x22
  (xStore (some 1) x2 (.int .i64 (.ofNat 3)) h6 fun h7 =>
  xRunDs [(59, ex59)] [(.fn 59 [] [x2, x1])] h7 fun h8 =>
  xLoad (some none) x2 h8 fun x23 =>
  k x23 h8)
  (xLoad (some none) x1 h6 fun x24 =>
  xNilCheck x24 fun x25 =>
  xAddr (some 2) x25 fun x26 =>
  c27_2 x26 h6 x1 s8 x21 x2 k K9)
noncomputable abbrev c27_4 (x12 : CV) (h3 : CH) (x1 : CV) (x2 : CV) (k : CV → CH → Bool) (s8 : TupC 1) (K9 : TupC 1 → CH → Bool) : Bool :=
 xLoad (some none) x12 h3 fun x13 =>
 xLoad (some none) x1 h3 fun x14 =>
 xNilCheck x14 fun x15 =>
 xAddr (some 3) x15 fun x16 =>
 xLoad (some none) x16 h3 fun x17 =>
 bd60 x17 x13 h3 fun x18 h4 =>
 xExtract x18 0 fun x19 =>
 xExtract x18 1 fun x20 =>
 xBoxP 124 [(.bytes 1024 0)] h4 fun x21 h5 =>
 xStore (some 1024) x21 x19 h5 fun h6 =>
 c27_3 x20 x2 h6 x1 k s8 x21 K9
noncomputable abbrev c27_5 (x74 : CV) (x70 : CV) (h21 : CH) (x2 : CV) (x1 : CV) (k : CV → CH → Bool) (s65 : TupC 1) (K66 : TupC 1 → CH → Bool) : Bool :=
 bd64 x74 x70 h21 fun x75 h22 =>
 xBin (some (.int .i64)) .neq x75 (.int .i64 (.ofNat 0)) fun x76 =>
 xIte x76
  (xStore (some 1) x2 (.int .i64 (.ofNat 3)) h22 fun h23 =>
  xRunDs [(59, ex59)] [(.fn 59 [] [x2, x1])] h23 fun h24 =>
  xLoad (some none) x2 h24 fun x77 =>
  k x77 h24)
  (xBin (some (.int .i64)) .add s65.1 (.int .i64 (.ofNat 1)) fun x78 =>
  K66 (x78, ()) h22)
noncomputable abbrev c27_6 (x99 : CV) (K81 : TupC 1 → CH → Bool) (h31 : CH) (x1 : CV) : Bool :=
 xBin (some (.int .i64)) .neq x99 (.int .i64 (.ofNat 0)) fun x100 =>
 xIte x100
  (K81 ((.bool true), ()) h31)
  (xLoad (some none) x1 h31 fun x101 =>
  xNilCheck x101 fun x102 =>
  xAddr (some 2) x102 fun x103 =>
  xLoad (some none) x103 h31 fun x104 =>
  bd63 x104 h31 fun x105 h32 =>
  xBin (some (.int .i64)) .neq x105 (.int .i64 (.ofNat 0)) fun x106 =>
  K81 (x106, ()) h32)
noncomputable abbrev c27_7 (x90 : CV) (h30 : CH) (x1 : CV) (K81 : TupC 1 → CH → Bool) : Bool :=
 xAddr (some 2) x90 fun x91 =>
 xLoad (some none) x91 h30 fun x92 =>
 xLoad (some none) x1 h30 fun x93 =>
 xNilCheck x93 fun x94 =>
 xAddr (some 4) x94 fun x95 =>
 xAddr (some 3) x95 fun x96 =>
 xLoad (some none) x96 h30 fun x97 =>
 xBuild (some (.inr 1)) (some (.agg [(.bytes 1024 0)])) [] fun x98 =>
 bd61 x92 x97 x98 h30 fun x99 h31 =>
 c27_6 x99 K81 h31 x1
noncomputable abbrev c27_8 (x2 : CV) (x1 : CV) (k : CV → CH → Bool) (h21 : CH) : Bool :=
 xJoin (n := 1) (fun s78 h25 =>
  xIte s78.1
   (xStore (some 1) x2 (.int .i64 (.ofNat 3)) h25 fun h26 =>
   xRunDs [(59, ex59)] [(.fn 59 [] [x2, x1])] h26 fun h27 =>
   xLoad (some none) x2 h27 fun x80 =>
   k x80 h27)
   (xStore (some 1) x2 (.int .i64 (.ofNat 0)) h25 fun h28 =>
   xRunDs [(59, ex59)] [(.fn 59 [] [x2, x1])] h28 fun h29 =>
   xLoad (some none) x2 h29 fun x81 =>
   k x81 h29))
 (fun K81 => xLoad (some none) x1 h21 fun x83 =>
 xNilCheck x83 fun x84 =>
 xAddr (some 2) x84 fun x85 =>
 xLoad (some none) x85 h21 fun x86 =>
 bd63 x86 h21 fun x87 h30 =>
 xBin (some (.int .i64)) .neq x87 (.int .i64 (.ofNat 0)) fun x88 =>
 xIte x88
  (K81 ((.bool true), ()) h30)
  (xLoad (some none) x1 h30 fun x89 =>
  xNilCheck x89 fun x90 =>
  c27_7 x90 h30 x1 K81))
noncomputable abbrev c27_9 (x65 : CV) (x64 : CV) (x1 : CV) (x2 : CV) (k : CV → CH → Bool) (h18 : CH) : Bool :=
 xLoop (n := 1) (fun K66 s65 h21 =>
  xBin (some (.int .i64)) .lss s65.1 x65 fun x68 =>
  xIte x68
   (xIdx (some (none, 1)) x64 s65.1 fun x69 =>
   xLoad (some none) x69 h21 fun x70 =>
   xLoad (some none) x1 h21 fun x71 =>
   xNilCheck x71 fun x72 =>
   xAddr (some 3) x72 fun x73 =>
   xLoad (some none) x73 h21 fun x74 =>
   c27_5 x74 x70 h21 x2 x1 k s65 K66)
   (c27_8 x2 x1 k h21)) 1000000 ((.int .i64 (.ofNat 0)), ()) h18
noncomputable abbrev c27_10 (s57 : TupC 1) (x2 : CV) (h18 : CH) (x1 : CV) (k : CV → CH → Bool) : Bool :=
 xIte s57.1
  (xStore (some 1) x2 (.int .i64 (.ofNat 3)) h18 fun h19 =>
  xRunDs [(59, ex59)] [(.fn 59 [] [x2, x1])] h19 fun h20 =>
  xLoad (some none) x2 h20 fun x59 =>
  k x59 h20)
  (xLoad (some none) x1 h18 fun x60 =>
  xNilCheck x60 fun x61 =>
  xAddr (some 0) x61 fun x62 =>
  xAddr (some 0) x62 fun x63 =>
  xLoad (some none) x63 h18 fun x64 =>
  xLen (some (.inl false)) x64 fun x65 =>
  c27_9 x65 x64 x1 x2 k h18)
noncomputable abbrev c27_11 (x124 : CV) (K106 : TupC 1 → CH → Bool) (h34 : CH) (x1 : CV) : Bool :=
 xBin (some (.int .i64)) .neq x124 (.int .i64 (.ofNat 0)) fun x125 =>
 xIte x125
  (K106 ((.bool true), ()) h34)
  (xLoad (some none) x1 h34 fun x126 =>
  xNilCheck x126 fun x127 =>
  xAddr (some 2) x127 fun x128 =>
  xLoad (some none) x128 h34 fun x129 =>
  bd63 x129 h34 fun x130 h35 =>
  xBin (some (.int .i64)) .neq x130 (.int .i64 (.ofNat 0)) fun x131 =>
  K106 (x131, ()) h35)
noncomputable abbrev c27_12 (x114 : CV) (h33 : CH) (x1 : CV) (x53 : CV) (K106 : TupC 1 → CH → Bool) : Bool :=
 xNilCheck x114 fun x115 =>
 xAddr (some 2) x115 fun x116 =>
 xLoad (some none) x116 h33 fun x117 =>
 xLoad (some none) x1 h33 fun x118 =>
 xNilCheck x118 fun x119 =>
 xAddr (some 4) x119 fun x120 =>
 xAddr (some 3) x120 fun x121 =>
 xLoad (some none) x121 h33 fun x122 =>
 xLoad (some (some 1024)) x53 h33 fun x123 =>
 bd61 x117 x122 x123 h33 fun x124 h34 =>
 c27_11 x124 K106 h34 x1
noncomputable abbrev c27_13 (x2 : CV) (x1 : CV) (k : CV → CH → Bool) (h15 : CH) (x53 : CV) : Bool :=
 xJoin (n := 1) (fun s57 h18 =>
  c27_10 s57 x2 h18 x1 k)
 (fun K106 => xLoad (some none) x1 h15 fun x108 =>
 xNilCheck x108 fun x109 =>
 xAddr (some 2) x109 fun x110 =>
 xLoad (some none) x110 h15 fun x111 =>
 bd63 x111 h15 fun x112 h33 =>
 xBin (some (.int .i64)) .neq x112 (.int .i64 (.ofNat 0)) fun x113 =>
 xIte x113
  (K106 ((.bool true), ()) h33)
  (xLoad (some none) x1 h33 fun x114 =>
  c27_12 x114 h33 x1 x53 K106))
noncomputable abbrev c27_14 (x2 : CV) (x52 : CV) (h14 : CH) (x1 : CV) (k : CV → CH → Bool) (x53 : CV) : Bool :=
 xStore (some 1) x2 x52 h14 fun h15 =>
 xLoad (some none) x2 h15 fun x54 =>
 xBin (some (.int .i64)) .neq x54 (.int .i64 (.ofNat 0)) fun x55 =>
 xIte x55
  (xLoad (some none) x2 h15 fun x56 =>
  xStore (some 1) x2 x56 h15 fun h16 =>
  xRunDs [(59, ex59)] [(.fn 59 [] [x2, x1])] h16 fun h17 =>
  xLoad (some none) x2 h17 fun x57 =>
  k x57 h17)
  (c27_13 x2 x1 k h15 x53)
noncomputable abbrev c27_15 (x46 : CV) (h3 : CH) (x43 : CV) (x2 : CV) (x1 : CV) (k : CV → CH → Bool) : Bool :=
 xAddr (some 0) x46 fun x47 =>
 xLoad (some none) x47 h3 fun x48 =>
 xBuild (some (.inl [(0, 1)])) (some (.agg [.nils])) [(0, x48)] fun x49 =>
 xQuiet (some ex62) [x43, x49] h3 fun x50 h12 =>
 xExtract x50 0 fun x51 =>
 xExtract x50 1 fun x52 =>
 xBoxP 124 [(.bytes 1024 0)] h12 fun x53 h13 =>
 xStore (some 1024) x53 x51 h13 fun h14 =>
 c27_14 x2 x52 h14 x1 k x53
noncomputable abbrev c27_16 (s8 : TupC 1) (x8 : CV) (x7 : CV) (h3 : CH) (x1 : CV) (x2 : CV) (k : CV → CH → Bool) (K9 : TupC 1 → CH → Bool) : Bool :=
 xBin (some (.int .i64)) .lss s8.1 x8 fun x11 =>
 xIte x11
  (xIdx (some (none, 1)) x7 s8.1 fun x12 =>
  c27_4 x12 h3 x1 x2 k s8 K9)
  (xLoad (some none) x1 h3 fun x40 =>
  xNilCheck x40 fun x41 =>
  xAddr (some 4) x41 fun x42 =>
  xLoad (some (some 9)) x42 h3 fun x43 =>
  xLoad (some none) x1 h3 fun x44 =>
  xNilCheck x44 fun x45 =>
  xAddr (some 0) x45 fun x46 =>
  c27_15 x46 h3 x43 x2 x1 k)
noncomputable def bd27 (v0 : CV) (h : CH) (k : CV → CH → Bool) : Bool :=
 xBox 36 v0 h fun x1 h1 =>
 xBoxP 34 [(.int .i64 (.ofNat 0))] h1 fun x2 h2 =>
 xLoad (some none) x1 h2 fun x3 =>
 xNilCheck x3 fun x4 =>
 xAddr (some 0) x4 fun x5 =>
 xAddr (some 0) x5 fun x6 =>
 xLoad (some none) x6 h2 fun x7 =>
 xLen (some (.inl false)) x7 fun x8 =>
 xLoop (n := 1) (fun K9 s8 h3 =>
  c27_16 s8 x8 x7 h3 x1 x2 k K9) 1000000 ((.int .i64 (.ofNat 0)), ()) h2
noncomputable abbrev ex27 : Ex := fun args h k => a1 args fun v0 => bd27 v0 h k
set_option maxRecDepth 100000 in
theorem sim27 : SimF Tryz.prog 27 ex27 := fun args h k hk => by
  obtain ⟨v0, rfl, hk⟩ := a1_ok hk
  exact simDf_of (D := [(59, ex59)]) (qf := (fun f => [46, 47, 62, 75, 82, 97, 104, 114, 121, 127, 128, 141, 151, 156, 157, 183].contains f)) (Z := zs) (C := [(60, ex60), (61, ex61), (62, ex62), (64, ex64), (63, ex63)]) (T := []) ⟨zerosB_ok zsOk, (exCons (by kernel_rfl) sim60 (exCons (by kernel_rfl) sim61 (exCons (by kernel_rfl) sim62 (exCons (by kernel_rfl) sim64 (exCons (by kernel_rfl) sim63 exNil)))))⟩ (dxCons (by kernel_rfl) simd59 dxNil) (.seq .nil (.seq .nil (.seq (.seq .nil (.loop [17] [18, 19, 20, 21, 3, 4, 23, 24, 25, 26, 27, 28, 22, 29, 30, 5, 6, 31, 32, 33, 34, 35, 36, 37, 38, 39, 40, 41, 42, 43, 44, 45, 46, 47, 48] .nil)) (.seq .nil (.seq .nil (.seq (.join [93] [66, 67, 68, 69, 70, 71, 72, 73, 74, 75, 76, 77, 78, 79, 80, 81, 82, 83, 84, 85, 86, 87, 88, 89, 90, 91, 92] .nil .nil) (.seq (.seq .nil (.loop [100] [101, 102, 103, 9, 104, 105, 106, 107, 108, 109, 110, 111] .nil)) (.seq (.join [139] [112, 113, 114, 115, 116, 117, 118, 119, 120, 121, 122, 123, 124, 125, 126, 127, 128, 129, 130, 131, 132, 133, 134, 135, 136, 137, 138] .nil .nil) .nil)))))))) Tryz.func27 _ h k (Eq.mp (by kernel_rfl : (bd27 v0 h k = true) = (xFnD Tryz.prog (fun f => [46, 47, 62, 75, 82, 97, 104, 114, 121, 127, 128, 141, 151, 156, 157, 183].contains f) zs [(60, ex60), (61, ex61), (62, ex62), (64, ex64), (63, ex63)] [(59, ex59)] [] Tryz.f27 (.seq .nil (.seq .nil (.seq (.seq .nil (.loop [17] [18, 19, 20, 21, 3, 4, 23, 24, 25, 26, 27, 28, 22, 29, 30, 5, 6, 31, 32, 33, 34, 35, 36, 37, 38, 39, 40, 41, 42, 43, 44, 45, 46, 47, 48] .nil)) (.seq .nil (.seq .nil (.seq (.join [93] [66, 67, 68, 69, 70, 71, 72, 73, 74, 75, 76, 77, 78, 79, 80, 81, 82, 83, 84, 85, 86, 87, 88, 89, 90, 91, 92] .nil .nil) (.seq (.seq .nil (.loop [100] [101, 102, 103, 9, 104, 105, 106, 107, 108, 109, 110, 111] .nil)) (.seq (.join [139] [112, 113, 114, 115, 116, 117, 118, 119, 120, 121, 122, 123, 124, 125, 126, 127, 128, 129, 130, 131, 132, 133, 134, 135, 136, 137, 138] .nil .nil) .nil)))))))) [v0] h k = true)) hk)

/- (*undercroft/wal.Log).Begin -/
noncomputable abbrev c8_1 (x23 : CV) (h2 : CH) (x21 : CV) (v0 : CV) (k : CV → CH → Bool) (K14 : TupC 0 → CH → Bool) : Bool :=
 xAddr (some 0) x23 fun x24 =>
 xAddr (some 1) x24 fun x25 =>
 xLoad (some none) x25 h2 fun x26 =>
 xBin (some (.int .i64)) .sub x26 (.int .i64 (.ofNat 1)) fun x27 =>
 xBin (some (.int .i64)) .gtr x21 x27 fun x28 =>
 xIte x28
  (bd27 v0 h2 fun x29 h8 =>
  xBin (some (.int .i64)) .neq x29 (.int .i64 (.ofNat 0)) fun x30 =>
  xIte x30
   (k x29 h8)
   (K14 (()) h8))
  (K14 (()) h2)
noncomputable abbrev c8_2 (v0 : CV) (v1 : CV) (k : CV → CH → Bool) (h2 : CH) : Bool :=
 xJoin (n := 0) (fun s6 h3 =>
  xNewMap h3 fun x8 h4 =>
  xNilCheck v0 fun x9 =>
  xAddr (some 14) x9 fun x10 =>
  xStore (some 1) x10 (.bool true) h4 fun h5 =>
  xNilCheck v0 fun x11 =>
  xAddr (some 15) x11 fun x12 =>
  xStore (some 1) x12 v1 h5 fun h6 =>
  xNilCheck v0 fun x13 =>
  xAddr (some 16) x13 fun x14 =>
  xStore (some 1) x14 x8 h6 fun h7 =>
  k (.int .i64 (.ofNat 0)) h7)
 (fun K14 => xNilCheck v0 fun x16 =>
 xAddr (some 0) x16 fun x17 =>
 xAddr (some 0) x17 fun x18 =>
 xLoad (some none) x18 h2 fun x19 =>
 xLen (some (.inl false)) x19 fun x20 =>
 xBin (some (.int .i64)) .add x20 v1 fun x21 =>
 xNilCheck v0 fun x22 =>
 xAddr (some 4) x22 fun x23 =>
 c8_1 x23 h2 x21 v0 k K14)
noncomputable abbrev c8_3 (v1 : CV) (K30 : TupC 1 → CH → Bool) (h1 : CH) (v0 : CV) : Bool :=
 xBin (some (.int .i64)) .lss v1 (.int .i64 (.ofNat 1)) fun x32 =>
 xIte x32
  (K30 ((.bool true), ()) h1)
  (xNilCheck v0 fun x33 =>
  xAddr (some 4) x33 fun x34 =>
  xAddr (some 0) x34 fun x35 =>
  xAddr (some 1) x35 fun x36 =>
  xLoad (some none) x36 h1 fun x37 =>
  xBin (some (.int .i64)) .sub x37 (.int .i64 (.ofNat 1)) fun x38 =>
  xBin (some (.int .i64)) .gtr v1 x38 fun x39 =>
  K30 (x39, ()) h1)
noncomputable abbrev c8_4 (x1 : CV) (k : CV → CH → Bool) (h1 : CH) (v0 : CV) (v1 : CV) : Bool :=
 xBin (some (.int .i64)) .neq x1 (.int .i64 (.ofNat 0)) fun x2 =>
 xIte x2
  (k x1 h1)
  (xNilCheck v0 fun x3 =>
  xAddr (some 14) x3 fun x4 =>
  xLoad (some none) x4 h1 fun x5 =>
  xIte x5
   (k (.int .i64 (.ofNat 180)) h1)
   (xJoin (n := 1) (fun s5 h2 =>
    xIte s5.1
     (k (.int .i64 (.ofNat 2)) h2)
     (c8_2 v0 v1 k h2))
   (fun K30 => c8_3 v1 K30 h1 v0)))
noncomputable def bd8 (v0 v1 : CV) (h : CH) (k : CV → CH → Bool) : Bool :=
 bd26 v0 h fun x1 h1 =>
 c8_4 x1 k h1 v0 v1
noncomputable abbrev ex8 : Ex := fun args h k => a2 args fun v0 v1 => bd8 v0 v1 h k
set_option maxRecDepth 100000 in
theorem sim8 : SimF Tryz.prog 8 ex8 := fun args h k hk => by
  obtain ⟨v0, v1, rfl, hk⟩ := a2_ok hk
  exact sim_of (qf := (fun f => [46, 47, 62, 75, 82, 97, 104, 114, 121, 127, 128, 141, 151, 156, 157, 183].contains f)) (Z := zs) (C := [(26, ex26), (27, ex27)]) (T := []) ⟨zerosB_ok zsOk, (exCons (by kernel_rfl) sim26 (exCons (by kernel_rfl) sim27 exNil))⟩ (.seq .nil (.seq (.seq .nil (.seq .nil (.cond .nil (.seq .nil (.cond .nil (.join [18] [19, 20, 21, 22, 23, 24, 25, 26, 27, 28, 29, 30, 31] .nil .nil)))))) (.join [] [32, 33, 34, 35, 36, 37, 38, 39, 40, 41, 42, 43, 44, 45, 46, 47, 48, 49, 6, 50, 51, 52, 4] .nil .nil))) Tryz.func8 _ h k (Eq.mp (by kernel_rfl : (bd8 v0 v1 h k = true) = (xFn Tryz.prog (fun f => [46, 47, 62, 75, 82, 97, 104, 114, 121, 127, 128, 141, 151, 156, 157, 183].contains f) zs [(26, ex26), (27, ex27)] [] Tryz.f8 (.seq .nil (.seq (.seq .nil (.seq .nil (.cond .nil (.seq .nil (.cond .nil (.join [18] [19, 20, 21, 22, 23, 24, 25, 26, 27, 28, 29, 30, 31] .nil .nil)))))) (.join [] [32, 33, 34, 35, 36, 37, 38, 39, 40, 41, 42, 43, 44, 45, 46, 47, 48, 49, 6, 50, 51, 52, 4] .nil .nil))) [v0, v1] h k = true)) hk)

/- (*undercroft/wal.Log).Open -/
noncomputable def bd65 (v0 : CV) (h : CH) (k : CV → CH → Bool) : Bool :=
 bd26 v0 h fun x1 h1 =>
 xBin (some (.int .i64)) .eql x1 (.int .i64 (.ofNat 0)) fun x2 =>
 xIte x2
  (xNilCheck v0 fun x3 =>
  xAddr (some 14) x3 fun x4 =>
  xLoad (some none) x4 h1 fun x5 =>
  k x5 h1)
  (k (.bool false) h1)
noncomputable abbrev ex65 : Ex := fun args h k => a1 args fun v0 => bd65 v0 h k
set_option maxRecDepth 100000 in
theorem sim65 : SimF Tryz.prog 65 ex65 := fun args h k hk => by
  obtain ⟨v0, rfl, hk⟩ := a1_ok hk
  exact sim_of (qf := (fun f => [46, 47, 62, 75, 82, 97, 104, 114, 121, 127, 128, 141, 151, 156, 157, 183].contains f)) (Z := zs) (C := [(26, ex26)]) (T := []) ⟨zerosB_ok zsOk, (exCons (by kernel_rfl) sim26 exNil)⟩ .nil Tryz.func65 _ h k (Eq.mp (by kernel_rfl : (bd65 v0 h k = true) = (xFn Tryz.prog (fun f => [46, 47, 62, 75, 82, 97, 104, 114, 121, 127, 128, 141, 151, 156, 157, 183].contains f) zs [(26, ex26)] [] Tryz.f65 .nil [v0] h k = true)) hk)

/- (*undercroft/wal.Log).Layout -/
noncomputable abbrev c114_1 (x1 : CV) (h2 : CH) (k : CV → CH → Bool) : Bool :=
 xBuild (some (.inl [(0, 3), (3, 1), (4, 1), (5, 1), (6, 1), (7, 1), (8, 1)])) (some (.agg [(.int .i64 (.ofNat 0)), (.int .i64 (.ofNat 0)), (.int .i64 (.ofNat 0)), (.int .i64 (.ofNat 0)), (.int .i64 (.ofNat 0)), (.int .i64 (.ofNat 0)), (.int .i64 (.ofNat 0)), (.int .i64 (.ofNat 0)), (.int .i64 (.ofNat 0))])) [] fun x4 =>
 xStore (some 9) x1 x4 h2 fun h3 =>
 xLoad (some (some 9)) x1 h3 fun x5 =>
 k x5 h3
noncomputable def bd114 (v0 : CV) (h : CH) (k : CV → CH → Bool) : Bool :=
 xBoxP 58 [(.int .i64 (.ofNat 0)), (.int .i64 (.ofNat 0)), (.int .i64 (.ofNat 0)), (.int .i64 (.ofNat 0)), (.int .i64 (.ofNat 0)), (.int .i64 (.ofNat 0)), (.int .i64 (.ofNat 0)), (.int .i64 (.ofNat 0)), (.int .i64 (.ofNat 0))] h fun x1 h1 =>
 bd26 v0 h1 fun x2 h2 =>
 xBin (some (.int .i64)) .neq x2 (.int .i64 (.ofNat 0)) fun x3 =>
 xIte x3
  (c114_1 x1 h2 k)
  (xNilCheck v0 fun x6 =>
  xAddr (some 4) x6 fun x7 =>
  xLoad (some (some 9)) x7 h2 fun x8 =>
  xStore (some 9) x1 x8 h2 fun h4 =>
  xLoad (some (some 9)) x1 h4 fun x9 =>
  k x9 h4)
noncomputable abbrev ex114 : Ex := fun args h k => a1 args fun v0 => bd114 v0 h k
set_option maxRecDepth 100000 in
theorem sim114 : SimF Tryz.prog 114 ex114 := fun args h k hk => by
  obtain ⟨v0, rfl, hk⟩ := a1_ok hk
  exact sim_of (qf := (fun f => [46, 47, 62, 75, 82, 97, 104, 114, 121, 127, 128, 141, 151, 156, 157, 183].contains f)) (Z := zs) (C := [(26, ex26)]) (T := []) ⟨zerosB_ok zsOk, (exCons (by kernel_rfl) sim26 exNil)⟩ .nil Tryz.func114 _ h k (Eq.mp (by kernel_rfl : (bd114 v0 h k = true) = (xFn Tryz.prog (fun f => [46, 47, 62, 75, 82, 97, 104, 114, 121, 127, 128, 141, 151, 156, 157, 183].contains f) zs [(26, ex26)] [] Tryz.f114 .nil [v0] h k = true)) hk)

/- undercroft/rack.spot -/
noncomputable abbrev c76_1 (x7 : CV) (v1 : CV) (x2 : CV) (h3 : CH) (k : CV → CH → Bool) (x6 : CV) : Bool :=
 xBin (some (.int .i64)) .mul x7 (.int .i64 (.ofNat 64)) fun x8 =>
 xBin (some (.int .i64)) .geq v1 (.int .i64 (.ofNat 1)) fun x9 =>
 xIte x9
  (xAddr (some 0) x2 fun x10 =>
  xAddr (some 2) x10 fun x11 =>
  xLoad (some none) x11 h3 fun x12 =>
  xBin (some (.int .i64)) .leq v1 x12 fun x13 =>
  k (.tup [x6, x8, x13]) h3)
  (k (.tup [x6, x8, (.bool false)]) h3)
noncomputable abbrev c76_2 (h1 : CH) (x1 : CV) (v1 : CV) (k : CV → CH → Bool) : Bool :=
 xBoxP 58 [(.int .i64 (.ofNat 0)), (.int .i64 (.ofNat 0)), (.int .i64 (.ofNat 0)), (.int .i64 (.ofNat 0)), (.int .i64 (.ofNat 0)), (.int .i64 (.ofNat 0)), (.int .i64 (.ofNat 0)), (.int .i64 (.ofNat 0)), (.int .i64 (.ofNat 0))] h1 fun x2 h2 =>
 xStore (some 9) x2 x1 h2 fun h3 =>
 xAddr (some 4) x2 fun x3 =>
 xLoad (some none) x3 h3 fun x4 =>
 xBin (some (.int .i64)) .quo v1 (.int .i64 (.ofNat 16)) fun x5 =>
 xBin (some (.int .i64)) .add x4 x5 fun x6 =>
 xBin (some (.int .i64)) .rem v1 (.int .i64 (.ofNat 16)) fun x7 =>
 c76_1 x7 v1 x2 h3 k x6
noncomputable def bd76 (v0 v1 : CV) (h : CH) (k : CV → CH → Bool) : Bool :=
 bd114 v0 h fun x1 h1 =>
 c76_2 h1 x1 v1 k
noncomputable abbrev ex76 : Ex := fun args h k => a2 args fun v0 v1 => bd76 v0 v1 h k
set_option maxRecDepth 100000 in
theorem sim76 : SimF Tryz.prog 76 ex76 := fun args h k hk => by
  obtain ⟨v0, v1, rfl, hk⟩ := a2_ok hk
  exact sim_of (qf := (fun f => [46, 47, 62, 75, 82, 97, 104, 114, 121, 127, 128, 141, 151, 156, 157, 183].contains f)) (Z := zs) (C := [(114, ex114)]) (T := []) ⟨zerosB_ok zsOk, (exCons (by kernel_rfl) sim114 exNil)⟩ .nil Tryz.func76 _ h k (Eq.mp (by kernel_rfl : (bd76 v0 v1 h k = true) = (xFn Tryz.prog (fun f => [46, 47, 62, 75, 82, 97, 104, 114, 121, 127, 128, 141, 151, 156, 157, 183].contains f) zs [(114, ex114)] [] Tryz.f76 .nil [v0, v1] h k = true)) hk)

/- (*undercroft/wal.Log).logs -/
noncomputable abbrev c119_1 (v0 : CV) (h : CH) (v1 : CV) (k : CV → CH → Bool) : Bool :=
 xNilCheck v0 fun x6 =>
 xAddr (some 4) x6 fun x7 =>
 xAddr (some 3) x7 fun x8 =>
 xLoad (some none) x8 h fun x9 =>
 xNilCheck v0 fun x10 =>
 xAddr (some 4) x10 fun x11 =>
 xAddr (some 0) x11 fun x12 =>
 xAddr (some 1) x12 fun x13 =>
 xLoad (some none) x13 h fun x14 =>
 xBin (some (.int .i64)) .add x9 x14 fun x15 =>
 xBin (some (.int .i64)) .lss v1 x15 fun x16 =>
 k x16 h
noncomputable def bd119 (v0 v1 : CV) (h : CH) (k : CV → CH → Bool) : Bool :=
 xNilCheck v0 fun x1 =>
 xAddr (some 4) x1 fun x2 =>
 xAddr (some 3) x2 fun x3 =>
 xLoad (some none) x3 h fun x4 =>
 xBin (some (.int .i64)) .geq v1 x4 fun x5 =>
 xIte x5
  (c119_1 v0 h v1 k)
  (k (.bool false) h)
noncomputable abbrev ex119 : Ex := fun args h k => a2 args fun v0 v1 => bd119 v0 v1 h k
set_option maxRecDepth 100000 in
theorem sim119 : SimF Tryz.prog 119 ex119 := fun args h k hk => by
  obtain ⟨v0, v1, rfl, hk⟩ := a2_ok hk
  exact sim_of (qf := (fun f => [46, 47, 62, 75, 82, 97, 104, 114, 121, 127, 128, 141, 151, 156, 157, 183].contains f)) (Z := zs) (C := []) (T := []) ⟨zerosB_ok zsOk, exNil⟩ .nil Tryz.func119 _ h k (Eq.mp (by kernel_rfl : (bd119 v0 v1 h k = true) = (xFn Tryz.prog (fun f => [46, 47, 62, 75, 82, 97, 104, 114, 121, 127, 128, 141, 151, 156, 157, 183].contains f) zs [] [] Tryz.f119 .nil [v0, v1] h k = true)) hk)

/- (*undercroft/wal.Log).Read -/
noncomputable abbrev c74_1 (x9 : CV) (v0 : CV) (h6 : CH) (v1 : CV) (x1 : CV) (k : CV → CH → Bool) : Bool :=
 xIte x9
  (xNilCheck v0 fun x10 =>
  xAddr (some 2) x10 fun x11 =>
  xLoad (some none) x11 h6 fun x12 =>
  bd98 x12 v1 h6 fun x13 h7 =>
  xExtract x13 0 fun x14 =>
  xExtract x13 1 fun x15 =>
  xStore (some 1024) x1 x14 h7 fun h8 =>
  xLoad (some (some 1024)) x1 h8 fun x16 =>
  k (.tup [x16, x15]) h8)
  (xNilCheck v0 fun x17 =>
  xAddr (some 3) x17 fun x18 =>
  xLoad (some none) x18 h6 fun x19 =>
  bd60 x19 v1 h6 fun x20 h9 =>
  xExtract x20 0 fun x21 =>
  xExtract x20 1 fun x22 =>
  xStore (some 1024) x1 x21 h9 fun h10 =>
  xLoad (some (some 1024)) x1 h10 fun x23 =>
  k (.tup [x23, x22]) h10)
noncomputable abbrev c74_2 (x1 : CV) (k : CV → CH → Bool) (v0 : CV) (v1 : CV) (h2 : CH) : Bool :=
 xJoin (n := 1) (fun s5 h4 =>
  xIte s5.1
   (xBuild (some (.inr 1)) (some (.agg [(.bytes 1024 0)])) [] fun x7 =>
   xStore (some 1024) x1 x7 h4 fun h5 =>
   xLoad (some (some 1024)) x1 h5 fun x8 =>
   k (.tup [x8, (.int .i64 (.ofNat 2))]) h5)
   (bd119 v0 v1 h4 fun x9 h6 =>
   c74_1 x9 v0 h6 v1 x1 k))
 (fun K23 => xBin (some (.int .i64)) .lss v1 (.int .i64 (.ofNat 0)) fun x25 =>
 xIte x25
  (K23 ((.bool true), ()) h2)
  (xNilCheck v0 fun x26 =>
  xAddr (some 4) x26 fun x27 =>
  xAddr (some 0) x27 fun x28 =>
  xAddr (some 0) x28 fun x29 =>
  xLoad (some none) x29 h2 fun x30 =>
  xBin (some (.int .i64)) .geq v1 x30 fun x31 =>
  K23 (x31, ()) h2))
noncomputable def bd74 (v0 v1 : CV) (h : CH) (k : CV → CH → Bool) : Bool :=
 xBoxP 124 [(.bytes 1024 0)] h fun x1 h1 =>
 bd26 v0 h1 fun x2 h2 =>
 xBin (some (.int .i64)) .neq x2 (.int .i64 (.ofNat 0)) fun x3 =>
 xIte x3
  (xBuild (some (.inr 1)) (some (.agg [(.bytes 1024 0)])) [] fun x4 =>
  xStore (some 1024) x1 x4 h2 fun h3 =>
  xLoad (some (some 1024)) x1 h3 fun x5 =>
  k (.tup [x5, x2]) h3)
  (c74_2 x1 k v0 v1 h2)
noncomputable abbrev ex74 : Ex := fun args h k => a2 args fun v0 v1 => bd74 v0 v1 h k
set_option maxRecDepth 100000 in
theorem sim74 : SimF Tryz.prog 74 ex74 := fun args h k hk => by
  obtain ⟨v0, v1, rfl, hk⟩ := a2_ok hk
  exact sim_of (qf := (fun f => [46, 47, 62, 75, 82, 97, 104, 114, 121, 127, 128, 141, 151, 156, 157, 183].contains f)) (Z := zs) (C := [(26, ex26), (119, ex119), (98, ex98), (60, ex60)]) (T := []) ⟨zerosB_ok zsOk, (exCons (by kernel_rfl) sim26 (exCons (by kernel_rfl) sim119 (exCons (by kernel_rfl) sim98 (exCons (by kernel_rfl) sim60 exNil))))⟩ (.seq .nil (.seq .nil (.seq (.join [24] [13, 14, 15, 16, 17, 18, 19, 20, 21, 22, 23] .nil .nil) .nil))) Tryz.func74 _ h k (Eq.mp (by kernel_rfl : (bd74 v0 v1 h k = true) = (xFn Tryz.prog (fun f => [46, 47, 62, 75, 82, 97, 104, 114, 121, 127, 128, 141, 151, 156, 157, 183].contains f) zs [(26, ex26), (119, ex119), (98, ex98), (60, ex60)] [] Tryz.f74 (.seq .nil (.seq .nil (.seq (.join [24] [13, 14, 15, 16, 17, 18, 19, 20, 21, 22, 23] .nil .nil) .nil))) [v0, v1] h k = true)) hk)

/- undercroft/slab.span -/
noncomputable abbrev c179_1 (x3 : CV) (v0 : CV) (v1 : CV) (x2 : CV) (k : CV → CH → Bool) (h1 : CH) : Bool :=
 xIte x3
  (xBin (some (.int .i64)) .add v0 v1 fun x4 =>
  xMin (.int .i64 (.ofNat 1024)) x4 fun x5 =>
  xMax x2 x5 fun x6 =>
  k (.tup [x2, x6]) h1)
  (xBin (some (.int .i64)) .sub (.int .i64 (.ofNat 1024)) v0 fun x7 =>
  xBin (some (.int .i64)) .lss v1 x7 fun x8 =>
  xIte x8
   (xBin (some (.int .i64)) .add v0 v1 fun x9 =>
   xMax x2 x9 fun x10 =>
   k (.tup [x2, x10]) h1)
   (xMax x2 (.int .i64 (.ofNat 1024)) fun x11 =>
   k (.tup [x2, x11]) h1))
noncomputable abbrev c179_2 (v0 : CV) (K11 : TupC 1 → CH → Bool) (h : CH) (v1 : CV) : Bool :=
 xBin (some (.int .i64)) .geq v0 (.int .i64 (.ofNat 1024)) fun x14 =>
 xIte x14
  (K11 ((.bool true), ()) h)
  (xBin (some (.int .i64)) .lss v0 (.int .i64 (.ofNat 0)) fun x15 =>
  xIte x15
   (xBin (some (.int .i64)) .add v0 (.int .i64 (.ofNat 1)) fun x16 =>
   xUn .neg x16 fun x17 =>
   xBin (some (.int .i64)) .leq v1 x17 fun x18 =>
   K11 (x18, ()) h)
   (K11 ((.bool false), ()) h))
noncomputable def bd179 (v0 v1 : CV) (h : CH) (k : CV → CH → Bool) : Bool :=
 xJoin (n := 1) (fun s0 h1 =>
  xIte s0.1
   (k (.tup [(.int .i64 (.ofNat 0)), (.int .i64 (.ofNat 0))]) h1)
   (xMax v0 (.int .i64 (.ofNat 0)) fun x2 =>
   xBin (some (.int .i64)) .lss v0 (.int .i64 (.ofNat 0)) fun x3 =>
   c179_1 x3 v0 v1 x2 k h1))
 (fun K11 => xBin (some (.int .i64)) .lss v1 (.int .i64 (.ofNat 1)) fun x13 =>
 xIte x13
  (K11 ((.bool true), ()) h)
  (c179_2 v0 K11 h v1))
noncomputable abbrev ex179 : Ex := fun args h k => a2 args fun v0 v1 => bd179 v0 v1 h k
set_option maxRecDepth 100000 in
theorem sim179 : SimF Tryz.prog 179 ex179 := fun args h k hk => by
  obtain ⟨v0, v1, rfl, hk⟩ := a2_ok hk
  exact sim_of (qf := (fun f => [46, 47, 62, 75, 82, 97, 104, 114, 121, 127, 128, 141, 151, 156, 157, 183].contains f)) (Z := zs) (C := []) (T := []) ⟨zerosB_ok zsOk, exNil⟩ (.seq .nil (.seq (.join [24] [8, 9, 10, 11, 12, 13, 14, 15, 16, 17, 18, 19, 20, 21, 22, 23] .nil .nil) .nil)) Tryz.func179 _ h k (Eq.mp (by kernel_rfl : (bd179 v0 v1 h k = true) = (xFn Tryz.prog (fun f => [46, 47, 62, 75, 82, 97, 104, 114, 121, 127, 128, 141, 151, 156, 157, 183].contains f) zs [] [] Tryz.f179 (.seq .nil (.seq (.join [24] [8, 9, 10, 11, 12, 13, 14, 15, 16, 17, 18, 19, 20, 21, 22, 23] .nil .nil) .nil)) [v0, v1] h k = true)) hk)

/- undercroft/slab.Lay -/
noncomputable abbrev c156_1 (x9 : CV) (s6 : TupC 1) (v1 : CV) (v2 : CV) (h4 : CH) (x1 : CV) (K7 : TupC 1 → CH → Bool) (x2 : CV) (k : CV → CH → Bool) : Bool :=
 xIte x9
  (xBin (some (.int .i64)) .sub s6.1 v1 fun x10 =>
  xIdx (some (none, 1)) v2 x10 fun x11 =>
  xLoad (some none) x11 h4 fun x12 =>
  xIdx (some (some 1024, 1)) x1 s6.1 fun x13 =>
  xStore (some 1) x13 x12 h4 fun h5 =>
  xBin (some (.int .i64)) .add s6.1 (.int .i64 (.ofNat 1)) fun x14 =>
  K7 (x14, ()) h5)
  (xLoad (some (some 1024)) x1 h4 fun x15 =>
  xStore (some 1024) x2 x15 h4 fun h6 =>
  xLoad (some (some 1024)) x2 h6 fun x16 =>
  k x16 h6)
noncomputable def bd156 (v0 v1 v2 : CV) (h : CH) (k : CV → CH → Bool) : Bool :=
 xBox 124 v0 h fun x1 h1 =>
 xBoxP 124 [(.bytes 1024 0)] h1 fun x2 h2 =>
 xLen (some (.inl false)) v2 fun x3 =>
 bd179 v1 x3 h2 fun x4 h3 =>
 xExtract x4 0 fun x5 =>
 xExtract x4 1 fun x6 =>
 xLoop (n := 1) (fun K7 s6 h4 =>
  xBin (some (.int .i64)) .lss s6.1 x6 fun x9 =>
  c156_1 x9 s6 v1 v2 h4 x1 K7 x2 k) 1000000 (x5, ()) h3
noncomputable abbrev ex156 : Ex := fun args h k => a3 args fun v0 v1 v2 => bd156 v0 v1 v2 h k
set_option maxRecDepth 100000 in
theorem sim156 : SimF Tryz.prog 156 ex156 := fun args h k hk => by
  obtain ⟨v0, v1, v2, rfl, hk⟩ := a3_ok hk
  exact sim_of (qf := (fun f => [46, 47, 62, 75, 82, 97, 104, 114, 121, 127, 128, 141, 151, 156, 157, 183].contains f)) (Z := zs) (C := [(179, ex179)]) (T := []) ⟨zerosB_ok zsOk, (exCons (by kernel_rfl) sim179 exNil)⟩ (.seq .nil (.seq .nil (.seq (.seq .nil (.loop [9] [18, 19, 20, 23, 24, 25, 26, 27, 28, 29, 30, 21, 22] .nil)) .nil))) Tryz.func156 _ h k (Eq.mp (by kernel_rfl : (bd156 v0 v1 v2 h k = true) = (xFn Tryz.prog (fun f => [46, 47, 62, 75, 82, 97, 104, 114, 121, 127, 128, 141, 151, 156, 157, 183].contains f) zs [(179, ex179)] [] Tryz.f156 (.seq .nil (.seq .nil (.seq (.seq .nil (.loop [9] [18, 19, 20, 23, 24, 25, 26, 27, 28, 29, 30, 21, 22] .nil)) .nil))) [v0, v1, v2] h k = true)) hk)

/- undercroft/slab.U16 -/
noncomputable abbrev c157_1 (x5 : CV) (v1 : CV) (x1 : CV) (h2 : CH) (k : CV → CH → Bool) : Bool :=
 xConv (some (.int .u8)) (some (.int .u16)) x5 fun x6 =>
 xBin (some (.int .i64)) .add v1 (.int .i64 (.ofNat 1)) fun x7 =>
 xIdx (some (some 1024, 1)) x1 x7 fun x8 =>
 xLoad (some none) x8 h2 fun x9 =>
 xConv (some (.int .u8)) (some (.int .u16)) x9 fun x10 =>
 xBin (some (.int .u16)) .shl x10 (.int .u64 (.ofNat 8)) fun x11 =>
 xBin (some (.int .u16)) .or x6 x11 fun x12 =>
 k x12 h2
noncomputable def bd157 (v0 v1 : CV) (h : CH) (k : CV → CH → Bool) : Bool :=
 xBox 124 v0 h fun x1 h1 =>
 bd120 v1 (.int .i64 (.ofNat 2)) h1 fun x2 h2 =>
 xUn .not x2 fun x3 =>
 xIte x3
  (k (.int .u16 (.ofNat 0)) h2)
  (xIdx (some (some 1024, 1)) x1 v1 fun x4 =>
  xLoad (some none) x4 h2 fun x5 =>
  c157_1 x5 v1 x1 h2 k)
noncomputable abbrev ex157 : Ex := fun args h k => a2 args fun v0 v1 => bd157 v0 v1 h k
set_option maxRecDepth 100000 in
theorem sim157 : SimF Tryz.prog 157 ex157 := fun args h k hk => by
  obtain ⟨v0, v1, rfl, hk⟩ := a2_ok hk
  exact sim_of (qf := (fun f => [46, 47, 62, 75, 82, 97, 104, 114, 121, 127, 128, 141, 151, 156, 157, 183].contains f)) (Z := zs) (C := [(120, ex120)]) (T := []) ⟨zerosB_ok zsOk, (exCons (by kernel_rfl) sim120 exNil)⟩ .nil Tryz.func157 _ h k (Eq.mp (by kernel_rfl : (bd157 v0 v1 h k = true) = (xFn Tryz.prog (fun f => [46, 47, 62, 75, 82, 97, 104, 114, 121, 127, 128, 141, 151, 156, 157, 183].contains f) zs [(120, ex120)] [] Tryz.f157 .nil [v0, v1] h k = true)) hk)

/- undercroft/node.Decode -/
noncomputable abbrev c113_1 (s20 : TupC 1) (x24 : CV) (h14 : CH) (x20 : CV) (K21 : TupC 1 → CH → Bool) : Bool :=
 xBin (some (.int .i64)) .mul (.int .i64 (.ofNat 4)) s20.1 fun x25 =>
 xBin (some (.int .i64)) .add (.int .i64 (.ofNat 12)) x25 fun x26 =>
 bd75 x24 x26 h14 fun x27 h15 =>
 xAddr (some 4) x20 fun x28 =>
 xIdx (some (some 10, 1)) x28 s20.1 fun x29 =>
 xStore (some 1) x29 x27 h15 fun h16 =>
 xBin (some (.int .i64)) .add s20.1 (.int .i64 (.ofNat 1)) fun x30 =>
 K21 (x30, ()) h16
noncomputable abbrev c113_2 (x6 : CV) (x20 : CV) (x2 : CV) (k : CV → CH → Bool) (h13 : CH) : Bool :=
 xLoop (n := 1) (fun K21 s20 h14 =>
  xBin (some (.int .i64)) .lss s20.1 (.int .i64 (.ofNat 10)) fun x23 =>
  xIte x23
   (xLoad (some (some 1024)) x6 h14 fun x24 =>
   c113_1 s20 x24 h14 x20 K21)
   (xLoad (some (some 16)) x20 h14 fun x31 =>
   xStore (some 16) x2 x31 h14 fun h17 =>
   xLoad (some (some 16)) x2 h17 fun x32 =>
   k x32 h17)) 1000000 ((.int .i64 (.ofNat 0)), ()) h13
noncomputable abbrev c113_3 (h11 : CH) (x19 : CV) (x6 : CV) (x2 : CV) (k : CV → CH → Bool) : Bool :=
 xBoxP 99 [(.int .u16 (.ofNat 0)), (.int .u16 (.ofNat 0)), (.int .u32 (.ofNat 0)), (.int .u32 (.ofNat 0)), (.int .u32 (.ofNat 0)), (.int .u32 (.ofNat 0)), (.int .u32 (.ofNat 0)), (.int .u32 (.ofNat 0)), (.int .u32 (.ofNat 0)), (.int .u32 (.ofNat 0)), (.int .u32 (.ofNat 0)), (.int .u32 (.ofNat 0)), (.int .u32 (.ofNat 0)), (.int .u32 (.ofNat 0)), (.int .u32 (.ofNat 0)), (.int .u32 (.ofNat 0))] h11 fun x20 h12 =>
 xStore (some 16) x20 x19 h12 fun h13 =>
 c113_2 x6 x20 x2 k h13
noncomputable abbrev c113_4 (x8 : CV) (x10 : CV) (x12 : CV) (x14 : CV) (x16 : CV) (x18 : CV) (h11 : CH) (x6 : CV) (x2 : CV) (k : CV → CH → Bool) : Bool :=
 xBuild (some (.inl [(0, 1), (1, 1), (2, 1), (3, 1), (4, 10), (14, 1), (15, 1)])) (some (.agg [(.int .u16 (.ofNat 0)), (.int .u16 (.ofNat 0)), (.int .u32 (.ofNat 0)), (.int .u32 (.ofNat 0)), (.int .u32 (.ofNat 0)), (.int .u32 (.ofNat 0)), (.int .u32 (.ofNat 0)), (.int .u32 (.ofNat 0)), (.int .u32 (.ofNat 0)), (.int .u32 (.ofNat 0)), (.int .u32 (.ofNat 0)), (.int .u32 (.ofNat 0)), (.int .u32 (.ofNat 0)), (.int .u32 (.ofNat 0)), (.int .u32 (.ofNat 0)), (.int .u32 (.ofNat 0))])) [(0, x8), (1, x10), (2, x12), (3, x14), (5, x16), (6, x18)] fun x19 =>
 c113_3 h11 x19 x6 x2 k
noncomputable abbrev c113_5 (x6 : CV) (h8 : CH) (x8 : CV) (x10 : CV) (x12 : CV) (x2 : CV) (k : CV → CH → Bool) : Bool :=
 xLoad (some (some 1024)) x6 h8 fun x13 =>
 xQuiet (some ex75) [x13, (.int .i64 (.ofNat 8))] h8 fun x14 h9 =>
 xLoad (some (some 1024)) x6 h9 fun x15 =>
 xQuiet (some ex75) [x15, (.int .i64 (.ofNat 52))] h9 fun x16 h10 =>
 xLoad (some (some 1024)) x6 h10 fun x17 =>
 xQuiet (some ex75) [x17, (.int .i64 (.ofNat 56))] h10 fun x18 h11 =>
 c113_4 x8 x10 x12 x14 x16 x18 h11 x6 x2 k
noncomputable abbrev c113_6 (x6 : CV) (x5 : CV) (h4 : CH) (x2 : CV) (k : CV → CH → Bool) : Bool :=
 xStore (some 1024) x6 x5 h4 fun h5 =>
 xLoad (some (some 1024)) x6 h5 fun x7 =>
 xQuiet (some ex157) [x7, (.int .i64 (.ofNat 0))] h5 fun x8 h6 =>
 xLoad (some (some 1024)) x6 h6 fun x9 =>
 xQuiet (some ex157) [x9, (.int .i64 (.ofNat 2))] h6 fun x10 h7 =>
 xLoad (some (some 1024)) x6 h7 fun x11 =>
 xQuiet (some ex75) [x11, (.int .i64 (.ofNat 4))] h7 fun x12 h8 =>
 c113_5 x6 h8 x8 x10 x12 x2 k
noncomputable abbrev c113_7 (h1 : CH) (x1 : CV) (k : CV → CH → Bool) : Bool :=
 xBoxP 99 [(.int .u16 (.ofNat 0)), (.int .u16 (.ofNat 0)), (.int .u32 (.ofNat 0)), (.int .u32 (.ofNat 0)), (.int .u32 (.ofNat 0)), (.int .u32 (.ofNat 0)), (.int .u32 (.ofNat 0)), (.int .u32 (.ofNat 0)), (.int .u32 (.ofNat 0)), (.int .u32 (.ofNat 0)), (.int .u32 (.ofNat 0)), (.int .u32 (.ofNat 0)), (.int .u32 (.ofNat 0)), (.int .u32 (.ofNat 0)), (.int .u32 (.ofNat 0)), (.int .u32 (.ofNat 0))] h1 fun x2 h2 =>
 xBuild (some (.inr 1)) (some (.agg [(.bytes 1024 0)])) [] fun x3 =>
 xSlice (some (some 64, 1)) x1 none none none fun x4 =>
 bd156 x3 (.int .i64 (.ofNat 0)) x4 h2 fun x5 h3 =>
 xBoxP 124 [(.bytes 1024 0)] h3 fun x6 h4 =>
 c113_6 x6 x5 h4 x2 k
noncomputable def bd113 (v0 : CV) (h : CH) (k : CV → CH → Bool) : Bool :=
 xBox 173 v0 h fun x1 h1 =>
 c113_7 h1 x1 k
noncomputable abbrev ex113 : Ex := fun args h k => a1 args fun v0 => bd113 v0 h k
set_option maxRecDepth 100000 in
theorem sim113 : SimF Tryz.prog 113 ex113 := fun args h k hk => by
  obtain ⟨v0, rfl, hk⟩ := a1_ok hk
  exact sim_of (qf := (fun f => [46, 47, 62, 75, 82, 97, 104, 114, 121, 127, 128, 141, 151, 156, 157, 183].contains f)) (Z := zs) (C := [(156, ex156), (157, ex157), (75, ex75)]) (T := []) ⟨zerosB_ok zsOk, (exCons (by kernel_rfl) sim156 (exCons (by kernel_rfl) sim157 (exCons (by kernel_rfl) sim75 exNil)))⟩ (.seq .nil (.seq .nil (.seq .nil (.seq (.seq .nil (.loop [22] [23, 24, 5, 25, 26, 27, 28, 29, 30, 31, 32, 33] .nil)) .nil)))) Tryz.func113 _ h k (Eq.mp (by kernel_rfl : (bd113 v0 h k = true) = (xFn Tryz.prog (fun f => [46, 47, 62, 75, 82, 97, 104, 114, 121, 127, 128, 141, 151, 156, 157, 183].contains f) zs [(156, ex156), (157, ex157), (75, ex75)] [] Tryz.f113 (.seq .nil (.seq .nil (.seq .nil (.seq (.seq .nil (.loop [22] [23, 24, 5, 25, 26, 27, 28, 29, 30, 31, 32, 33] .nil)) .nil)))) [v0] h k = true)) hk)

/- undercroft/rack.Read -/
noncomputable abbrev c66_1 (x1 : CV) (h2 : CH) (k : CV → CH → Bool) (x2 : CV) : Bool :=
 xBuild (some (.inl [(0, 1), (1, 1), (2, 1), (3, 1), (4, 10), (14, 1), (15, 1)])) (some (.agg [(.int .u16 (.ofNat 0)), (.int .u16 (.ofNat 0)), (.int .u32 (.ofNat 0)), (.int .u32 (.ofNat 0)), (.int .u32 (.ofNat 0)), (.int .u32 (.ofNat 0)), (.int .u32 (.ofNat 0)), (.int .u32 (.ofNat 0)), (.int .u32 (.ofNat 0)), (.int .u32 (.ofNat 0)), (.int .u32 (.ofNat 0)), (.int .u32 (.ofNat 0)), (.int .u32 (.ofNat 0)), (.int .u32 (.ofNat 0)), (.int .u32 (.ofNat 0)), (.int .u32 (.ofNat 0))])) [] fun x4 =>
 xStore (some 16) x1 x4 h2 fun h3 =>
 xLoad (some (some 16)) x1 h3 fun x5 =>
 k (.tup [x5, x2]) h3
noncomputable abbrev c66_2 (x1 : CV) (h4 : CH) (k : CV → CH → Bool) : Bool :=
 xBuild (some (.inl [(0, 1), (1, 1), (2, 1), (3, 1), (4, 10), (14, 1), (15, 1)])) (some (.agg [(.int .u16 (.ofNat 0)), (.int .u16 (.ofNat 0)), (.int .u32 (.ofNat 0)), (.int .u32 (.ofNat 0)), (.int .u32 (.ofNat 0)), (.int .u32 (.ofNat 0)), (.int .u32 (.ofNat 0)), (.int .u32 (.ofNat 0)), (.int .u32 (.ofNat 0)), (.int .u32 (.ofNat 0)), (.int .u32 (.ofNat 0)), (.int .u32 (.ofNat 0)), (.int .u32 (.ofNat 0)), (.int .u32 (.ofNat 0)), (.int .u32 (.ofNat 0)), (.int .u32 (.ofNat 0))])) [] fun x11 =>
 xStore (some 16) x1 x11 h4 fun h5 =>
 xLoad (some (some 16)) x1 h5 fun x12 =>
 k (.tup [x12, (.int .i64 (.ofNat 2))]) h5
noncomputable abbrev c66_3 (x1 : CV) (h8 : CH) (k : CV → CH → Bool) (x15 : CV) : Bool :=
 xBuild (some (.inl [(0, 1), (1, 1), (2, 1), (3, 1), (4, 10), (14, 1), (15, 1)])) (some (.agg [(.int .u16 (.ofNat 0)), (.int .u16 (.ofNat 0)), (.int .u32 (.ofNat 0)), (.int .u32 (.ofNat 0)), (.int .u32 (.ofNat 0)), (.int .u32 (.ofNat 0)), (.int .u32 (.ofNat 0)), (.int .u32 (.ofNat 0)), (.int .u32 (.ofNat 0)), (.int .u32 (.ofNat 0)), (.int .u32 (.ofNat 0)), (.int .u32 (.ofNat 0)), (.int .u32 (.ofNat 0)), (.int .u32 (.ofNat 0)), (.int .u32 (.ofNat 0)), (.int .u32 (.ofNat 0))])) [] fun x18 =>
 xStore (some 16) x1 x18 h8 fun h9 =>
 xLoad (some (some 16)) x1 h9 fun x19 =>
 k (.tup [x19, x15]) h9
noncomputable abbrev c66_4 (x8 : CV) (x16 : CV) (h8 : CH) (x1 : CV) (k : CV → CH → Bool) : Bool :=
 xBin (some (.int .i64)) .add x8 (.int .i64 (.ofNat 64)) fun x20 =>
 xSlice (some (some 1024, 1)) x16 (some x8) (some x20) none fun x21 =>
 xArr (some 64) x21 fun x22 =>
 xLoad (some (some 64)) x22 h8 fun x23 =>
 bd113 x23 h8 fun x24 h10 =>
 xStore (some 16) x1 x24 h10 fun h11 =>
 xLoad (some (some 16)) x1 h11 fun x25 =>
 k (.tup [x25, (.int .i64 (.ofNat 0))]) h11
noncomputable abbrev c66_5 (x6 : CV) (x1 : CV) (h4 : CH) (k : CV → CH → Bool) (v0 : CV) (x7 : CV) (x8 : CV) : Bool :=
 xExtract x6 2 fun x9 =>
 xUn .not x9 fun x10 =>
 xIte x10
  (c66_2 x1 h4 k)
  (bd74 v0 x7 h4 fun x13 h6 =>
  xExtract x13 0 fun x14 =>
  xExtract x13 1 fun x15 =>
  xBoxP 124 [(.bytes 1024 0)] h6 fun x16 h7 =>
  xStore (some 1024) x16 x14 h7 fun h8 =>
  xBin (some (.int .i64)) .neq x15 (.int .i64 (.ofNat 0)) fun x17 =>
  xIte x17
   (c66_3 x1 h8 k x15)
   (c66_4 x8 x16 h8 x1 k))
noncomputable def bd66 (v0 v1 : CV) (h : CH) (k : CV → CH → Bool) : Bool :=
 xBoxP 99 [(.int .u16 (.ofNat 0)), (.int .u16 (.ofNat 0)), (.int .u32 (.ofNat 0)), (.int .u32 (.ofNat 0)), (.int .u32 (.ofNat 0)), (.int .u32 (.ofNat 0)), (.int .u32 (.ofNat 0)), (.int .u32 (.ofNat 0)), (.int .u32 (.ofNat 0)), (.int .u32 (.ofNat 0)), (.int .u32 (.ofNat 0)), (.int .u32 (.ofNat 0)), (.int .u32 (.ofNat 0)), (.int .u32 (.ofNat 0)), (.int .u32 (.ofNat 0)), (.int .u32 (.ofNat 0))] h fun x1 h1 =>
 bd26 v0 h1 fun x2 h2 =>
 xBin (some (.int .i64)) .neq x2 (.int .i64 (.ofNat 0)) fun x3 =>
 xIte x3
  (c66_1 x1 h2 k x2)
  (bd76 v0 v1 h2 fun x6 h4 =>
  xExtract x6 0 fun x7 =>
  xExtract x6 1 fun x8 =>
  c66_5 x6 x1 h4 k v0 x7 x8)
noncomputable abbrev ex66 : Ex := fun args h k => a2 args fun v0 v1 => bd66 v0 v1 h k
set_option maxRecDepth 100000 in
theorem sim66 : SimF Tryz.prog 66 ex66 := fun args h k hk => by
  obtain ⟨v0, v1, rfl, hk⟩ := a2_ok hk
  exact sim_of (qf := (fun f => [46, 47, 62, 75, 82, 97, 104, 114, 121, 127, 128, 141, 151, 156, 157, 183].contains f)) (Z := zs) (C := [(26, ex26), (76, ex76), (74, ex74), (113, ex113)]) (T := []) ⟨zerosB_ok zsOk, (exCons (by kernel_rfl) sim26 (exCons (by kernel_rfl) sim76 (exCons (by kernel_rfl) sim74 (exCons (by kernel_rfl) sim113 exNil))))⟩ .nil Tryz.func66 _ h k (Eq.mp (by kernel_rfl : (bd66 v0 v1 h k = true) = (xFn Tryz.prog (fun f => [46, 47, 62, 75, 82, 97, 104, 114, 121, 127, 128, 141, 151, 156, 157, 183].contains f) zs [(26, ex26), (76, ex76), (74, ex74), (113, ex113)] [] Tryz.f66 .nil [v0, v1] h k = true)) hk)

/- undercroft/chart.open -/
noncomputable abbrev c28_1 (v0 : CV) (v1 : CV) (x9 : CV) (h5 : CH) (k : CV → CH → Bool) : Bool :=
 xBuild (some (.inl [(0, 1), (1, 1), (2, 16)])) (some (.agg [.nilp, (.int .i64 (.ofNat 0)), (.int .u16 (.ofNat 0)), (.int .u16 (.ofNat 0)), (.int .u32 (.ofNat 0)), (.int .u32 (.ofNat 0)), (.int .u32 (.ofNat 0)), (.int .u32 (.ofNat 0)), (.int .u32 (.ofNat 0)), (.int .u32 (.ofNat 0)), (.int .u32 (.ofNat 0)), (.int .u32 (.ofNat 0)), (.int .u32 (.ofNat 0)), (.int .u32 (.ofNat 0)), (.int .u32 (.ofNat 0)), (.int .u32 (.ofNat 0)), (.int .u32 (.ofNat 0)), (.int .u32 (.ofNat 0))])) [(0, v0), (1, v1), (2, x9)] fun x10 =>
 xBox 101 x10 h5 fun x11 h6 =>
 k (.tup [x11, (.int .i64 (.ofNat 0))]) h6
noncomputable abbrev c28_2 (h3 : CH) (x5 : CV) (x6 : CV) (k : CV → CH → Bool) (v0 : CV) (v1 : CV) : Bool :=
 xBoxP 99 [(.int .u16 (.ofNat 0)), (.int .u16 (.ofNat 0)), (.int .u32 (.ofNat 0)), (.int .u32 (.ofNat 0)), (.int .u32 (.ofNat 0)), (.int .u32 (.ofNat 0)), (.int .u32 (.ofNat 0)), (.int .u32 (.ofNat 0)), (.int .u32 (.ofNat 0)), (.int .u32 (.ofNat 0)), (.int .u32 (.ofNat 0)), (.int .u32 (.ofNat 0)), (.int .u32 (.ofNat 0)), (.int .u32 (.ofNat 0)), (.int .u32 (.ofNat 0)), (.int .u32 (.ofNat 0))] h3 fun x7 h4 =>
 xStore (some 16) x7 x5 h4 fun h5 =>
 xBin (some (.int .i64)) .neq x6 (.int .i64 (.ofNat 0)) fun x8 =>
 xIte x8
  (k (.tup [.nilp, x6]) h5)
  (xLoad (some (some 16)) x7 h5 fun x9 =>
  c28_1 v0 v1 x9 h5 k)
noncomputable abbrev c28_3 (x2 : CV) (k : CV → CH → Bool) (x1 : CV) (h1 : CH) (v0 : CV) (v1 : CV) (v2 : CV) : Bool :=
 xIte x2
  (k (.tup [.nilp, x1]) h1)
  (xJoin (n := 1) (fun s2 h2 =>
   xIte s2.1
    (k (.tup [.nilp, (.int .i64 (.ofNat 180))]) h2)
    (bd66 v0 v1 h2 fun x4 h3 =>
    xExtract x4 0 fun x5 =>
    xExtract x4 1 fun x6 =>
    c28_2 h3 x5 x6 k v0 v1))
  (fun K11 => xIte v2
   (bd65 v0 h1 fun x13 h7 =>
   xUn .not x13 fun x14 =>
   K11 (x14, ()) h7)
   (K11 ((.bool false), ()) h1)))
noncomputable def bd28 (v0 v1 v2 : CV) (h : CH) (k : CV → CH → Bool) : Bool :=
 bd26 v0 h fun x1 h1 =>
 xBin (some (.int .i64)) .neq x1 (.int .i64 (.ofNat 0)) fun x2 =>
 c28_3 x2 k x1 h1 v0 v1 v2
noncomputable abbrev ex28 : Ex := fun args h k => a3 args fun v0 v1 v2 => bd28 v0 v1 v2 h k
set_option maxRecDepth 100000 in
theorem sim28 : SimF Tryz.prog 28 ex28 := fun args h k hk => by
  obtain ⟨v0, v1, v2, rfl, hk⟩ := a3_ok hk
  exact sim_of (qf := (fun f => [46, 47, 62, 75, 82, 97, 104, 114, 121, 127, 128, 141, 151, 156, 157, 183].contains f)) (Z := zs) (C := [(26, ex26), (66, ex66), (65, ex65)]) (T := []) ⟨zerosB_ok zsOk, (exCons (by kernel_rfl) sim26 (exCons (by kernel_rfl) sim66 (exCons (by kernel_rfl) sim65 exNil)))⟩ (.seq .nil (.seq .nil (.seq (.join [21] [16, 17, 18, 19, 20] .nil .nil) .nil))) Tryz.func28 _ h k (Eq.mp (by kernel_rfl : (bd28 v0 v1 v2 h k = true) = (xFn Tryz.prog (fun f => [46, 47, 62, 75, 82, 97, 104, 114, 121, 127, 128, 141, 151, 156, 157, 183].contains f) zs [(26, ex26), (66, ex66), (65, ex65)] [] Tryz.f28 (.seq .nil (.seq .nil (.seq (.join [21] [16, 17, 18, 19, 20] .nil .nil) .nil))) [v0, v1, v2] h k = true)) hk)

/- undercroft/chart.span -/
noncomputable abbrev c30_1 (x1 : CV) (v1 : CV) (v0 : CV) (k : CV → CH → Bool) (h : CH) : Bool :=
 xIte x1
  (xBin (some (.int .i64)) .geq v1 (.int .i64 (.ofNat 0)) fun x2 =>
  xIte x2
   (xBin (some (.int .i64)) .leq v0 (.int .i64 (.ofNat 65802)) fun x3 =>
   xIte x3
    (xBin (some (.int .i64)) .sub (.int .i64 (.ofNat 65802)) v0 fun x4 =>
    xBin (some (.int .i64)) .leq v1 x4 fun x5 =>
    k x5 h)
    (k (.bool false) h))
   (k (.bool false) h))
  (k (.bool false) h)
noncomputable def bd30 (v0 v1 : CV) (h : CH) (k : CV → CH → Bool) : Bool :=
 xBin (some (.int .i64)) .geq v0 (.int .i64 (.ofNat 0)) fun x1 =>
 c30_1 x1 v1 v0 k h
noncomputable abbrev ex30 : Ex := fun args h k => a2 args fun v0 v1 => bd30 v0 v1 h k
set_option maxRecDepth 100000 in
theorem sim30 : SimF Tryz.prog 30 ex30 := fun args h k hk => by
  obtain ⟨v0, v1, rfl, hk⟩ := a2_ok hk
  exact sim_of (qf := (fun f => [46, 47, 62, 75, 82, 97, 104, 114, 121, 127, 128, 141, 151, 156, 157, 183].contains f)) (Z := zs) (C := []) (T := []) ⟨zerosB_ok zsOk, exNil⟩ .nil Tryz.func30 _ h k (Eq.mp (by kernel_rfl : (bd30 v0 v1 h k = true) = (xFn Tryz.prog (fun f => [46, 47, 62, 75, 82, 97, 104, 114, 121, 127, 128, 141, 151, 156, 157, 183].contains f) zs [] [] Tryz.f30 .nil [v0, v1] h k = true)) hk)

/- undercroft/plan.Way -/
noncomputable abbrev c68_1 (x13 : CV) (x1 : CV) (h2 : CH) (k : CV → CH → Bool) : Bool :=
 xBin (some (.int .i64)) .quo x13 (.int .i64 (.ofNat 256)) fun x14 =>
 xBin (some (.int .i64)) .rem x13 (.int .i64 (.ofNat 256)) fun x15 =>
 xBuild (some (.inl [(0, 1), (1, 1), (2, 1)])) (some (.agg [(.bytes 1 0), (.int .i64 (.ofNat 0)), (.int .i64 (.ofNat 0))])) [(0, (.int .u8 (.ofNat 3))), (1, x14), (2, x15)] fun x16 =>
 xStore (some 3) x1 x16 h2 fun h6 =>
 xLoad (some (some 3)) x1 h6 fun x17 =>
 k x17 h6
noncomputable abbrev c68_2 (x8 : CV) (v0 : CV) (x1 : CV) (h2 : CH) (k : CV → CH → Bool) : Bool :=
 xIte x8
  (xBin (some (.int .i64)) .sub v0 (.int .i64 (.ofNat 10)) fun x9 =>
  xBuild (some (.inl [(0, 1), (1, 1), (2, 1)])) (some (.agg [(.bytes 1 0), (.int .i64 (.ofNat 0)), (.int .i64 (.ofNat 0))])) [(0, (.int .u8 (.ofNat 2))), (1, x9)] fun x10 =>
  xStore (some 3) x1 x10 h2 fun h5 =>
  xLoad (some (some 3)) x1 h5 fun x11 =>
  k x11 h5)
  (xBin (some (.int .i64)) .sub v0 (.int .i64 (.ofNat 10)) fun x12 =>
  xBin (some (.int .i64)) .sub x12 (.int .i64 (.ofNat 256)) fun x13 =>
  c68_1 x13 x1 h2 k)
noncomputable abbrev c68_3 (x5 : CV) (v0 : CV) (x1 : CV) (h2 : CH) (k : CV → CH → Bool) : Bool :=
 xIte x5
  (xBuild (some (.inl [(0, 1), (1, 1), (2, 1)])) (some (.agg [(.bytes 1 0), (.int .i64 (.ofNat 0)), (.int .i64 (.ofNat 0))])) [(0, (.int .u8 (.ofNat 1))), (1, v0)] fun x6 =>
  xStore (some 3) x1 x6 h2 fun h4 =>
  xLoad (some (some 3)) x1 h4 fun x7 =>
  k x7 h4)
  (xBin (some (.int .i64)) .lss v0 (.int .i64 (.ofNat 266)) fun x8 =>
  c68_2 x8 v0 x1 h2 k)
noncomputable abbrev c68_4 (x1 : CV) (k : CV → CH → Bool) (v0 : CV) (h1 : CH) : Bool :=
 xJoin (n := 1) (fun s1 h2 =>
  xIte s1.1
   (xBuild (some (.inl [(0, 1), (1, 1), (2, 1)])) (some (.agg [(.bytes 1 0), (.int .i64 (.ofNat 0)), (.int .i64 (.ofNat 0))])) [] fun x3 =>
   xStore (some 3) x1 x3 h2 fun h3 =>
   xLoad (some (some 3)) x1 h3 fun x4 =>
   k x4 h3)
   (xBin (some (.int .i64)) .lss v0 (.int .i64 (.ofNat 10)) fun x5 =>
   c68_3 x5 v0 x1 h2 k))
 (fun K17 => xBin (some (.int .i64)) .lss v0 (.int .i64 (.ofNat 0)) fun x19 =>
 xIte x19
  (K17 ((.bool true), ()) h1)
  (xBin (some (.int .i64)) .geq v0 (.int .i64 (.ofNat 65802)) fun x20 =>
  K17 (x20, ()) h1))
noncomputable def bd68 (v0 : CV) (h : CH) (k : CV → CH → Bool) : Bool :=
 xBoxP 163 [(.bytes 1 0), (.int .i64 (.ofNat 0)), (.int .i64 (.ofNat 0))] h fun x1 h1 =>
 c68_4 x1 k v0 h1
noncomputable abbrev ex68 : Ex := fun args h k => a1 args fun v0 => bd68 v0 h k
set_option maxRecDepth 100000 in
theorem sim68 : SimF Tryz.prog 68 ex68 := fun args h k hk => by
  obtain ⟨v0, rfl, hk⟩ := a1_ok hk
  exact sim_of (qf := (fun f => [46, 47, 62, 75, 82, 97, 104, 114, 121, 127, 128, 141, 151, 156, 157, 183].contains f)) (Z := zs) (C := []) (T := []) ⟨zerosB_ok zsOk, exNil⟩ (.seq .nil (.seq (.join [4] [5, 6, 7, 8, 9, 10] .nil .nil) .nil)) Tryz.func68 _ h k (Eq.mp (by kernel_rfl : (bd68 v0 h k = true) = (xFn Tryz.prog (fun f => [46, 47, 62, 75, 82, 97, 104, 114, 121, 127, 128, 141, 151, 156, 157, 183].contains f) zs [] [] Tryz.f68 (.seq .nil (.seq (.join [4] [5, 6, 7, 8, 9, 10] .nil .nil) .nil)) [v0] h k = true)) hk)

/- (*undercroft/chart.file).top -/
noncomputable abbrev c33_1 (v0 : CV) (h3 : CH) (x2 : CV) (k : CV → CH → Bool) : Bool :=
 xNilCheck v0 fun x15 =>
 xAddr (some 2) x15 fun x16 =>
 xAddr (some 14) x16 fun x17 =>
 xLoad (some none) x17 h3 fun x18 =>
 xConv (some (.int .u32)) (some (.int .i64)) x18 fun x19 =>
 xAddr (some 1) x2 fun x20 =>
 xLoad (some none) x20 h3 fun x21 =>
 xNewS (some (3, 1, 8, false)) (some [(.int .i64 (.ofNat 0))]) 1 [(0, x21)] h3 fun x22 h4 =>
 k (.tup [x19, x22]) h4
noncomputable abbrev c33_2 (x24 : CV) (h3 : CH) (x2 : CV) (k : CV → CH → Bool) : Bool :=
 xAddr (some 15) x24 fun x25 =>
 xLoad (some none) x25 h3 fun x26 =>
 xConv (some (.int .u32)) (some (.int .i64)) x26 fun x27 =>
 xAddr (some 1) x2 fun x28 =>
 xLoad (some none) x28 h3 fun x29 =>
 xAddr (some 2) x2 fun x30 =>
 xLoad (some none) x30 h3 fun x31 =>
 xNewS (some (3, 1, 8, false)) (some [(.int .i64 (.ofNat 0))]) 2 [(0, x29), (1, x31)] h3 fun x32 h5 =>
 k (.tup [x27, x32]) h5
noncomputable abbrev c33_3 (x5 : CV) (x2 : CV) (h3 : CH) (v0 : CV) (k : CV → CH → Bool) (x4 : CV) : Bool :=
 xIte x5
  (xAddr (some 1) x2 fun x6 =>
  xLoad (some none) x6 h3 fun x7 =>
  xNilCheck v0 fun x8 =>
  xAddr (some 2) x8 fun x9 =>
  xAddr (some 4) x9 fun x10 =>
  xIdx (some (some 10, 1)) x10 x7 fun x11 =>
  xLoad (some none) x11 h3 fun x12 =>
  xConv (some (.int .u32)) (some (.int .i64)) x12 fun x13 =>
  k (.tup [x13, .nils]) h3)
  (xBin (some (.int .u8)) .eql x4 (.int .u8 (.ofNat 2)) fun x14 =>
  xIte x14
   (c33_1 v0 h3 x2 k)
   (xNilCheck v0 fun x23 =>
   xAddr (some 2) x23 fun x24 =>
   c33_2 x24 h3 x2 k))
noncomputable def bd33 (v0 v1 : CV) (h : CH) (k : CV → CH → Bool) : Bool :=
 bd68 v1 h fun x1 h1 =>
 xBoxP 163 [(.bytes 1 0), (.int .i64 (.ofNat 0)), (.int .i64 (.ofNat 0))] h1 fun x2 h2 =>
 xStore (some 3) x2 x1 h2 fun h3 =>
 xAddr (some 0) x2 fun x3 =>
 xLoad (some none) x3 h3 fun x4 =>
 xBin (some (.int .u8)) .eql x4 (.int .u8 (.ofNat 1)) fun x5 =>
 c33_3 x5 x2 h3 v0 k x4
noncomputable abbrev ex33 : Ex := fun args h k => a2 args fun v0 v1 => bd33 v0 v1 h k
set_option maxRecDepth 100000 in
theorem sim33 : SimF Tryz.prog 33 ex33 := fun args h k hk => by
  obtain ⟨v0, v1, rfl, hk⟩ := a2_ok hk
  exact sim_of (qf := (fun f => [46, 47, 62, 75, 82, 97, 104, 114, 121, 127, 128, 141, 151, 156, 157, 183].contains f)) (Z := zs) (C := [(68, ex68)]) (T := []) ⟨zerosB_ok zsOk, (exCons (by kernel_rfl) sim68 exNil)⟩ .nil Tryz.func33 _ h k (Eq.mp (by kernel_rfl : (bd33 v0 v1 h k = true) = (xFn Tryz.prog (fun f => [46, 47, 62, 75, 82, 97, 104, 114, 121, 127, 128, 141, 151, 156, 157, 183].contains f) zs [(68, ex68)] [] Tryz.f33 .nil [v0, v1] h k = true)) hk)

/- (*undercroft/chart.file).good -/
noncomputable abbrev c80_1 (x8 : CV) (x5 : CV) (h3 : CH) (v1 : CV) (K6 : TupC 1 → CH → Bool) : Bool :=
 xIte x8
  (xAddr (some 8) x5 fun x9 =>
  xLoad (some none) x9 h3 fun x10 =>
  xBin (some (.int .i64)) .lss v1 x10 fun x11 =>
  xIte x11
   (K6 ((.bool true), ()) h3)
   (xAddr (some 0) x5 fun x12 =>
   xAddr (some 0) x12 fun x13 =>
   xLoad (some none) x13 h3 fun x14 =>
   xBin (some (.int .i64)) .geq v1 x14 fun x15 =>
   K6 (x15, ()) h3))
  (K6 ((.bool false), ()) h3)
noncomputable abbrev c80_2 (h1 : CH) (x4 : CV) (k : CV → CH → Bool) (v1 : CV) : Bool :=
 xBoxP 58 [(.int .i64 (.ofNat 0)), (.int .i64 (.ofNat 0)), (.int .i64 (.ofNat 0)), (.int .i64 (.ofNat 0)), (.int .i64 (.ofNat 0)), (.int .i64 (.ofNat 0)), (.int .i64 (.ofNat 0)), (.int .i64 (.ofNat 0)), (.int .i64 (.ofNat 0))] h1 fun x5 h2 =>
 xStore (some 9) x5 x4 h2 fun h3 =>
 xJoin (n := 1) (fun s5 h4 =>
  xIte s5.1
   (k (.int .i64 (.ofNat 4)) h4)
   (k (.int .i64 (.ofNat 0)) h4))
 (fun K6 => xBin (some (.int .i64)) .neq v1 (.int .i64 (.ofNat 0)) fun x8 =>
 c80_1 x8 x5 h3 v1 K6)
noncomputable def bd80 (v0 v1 : CV) (h : CH) (k : CV → CH → Bool) : Bool :=
 xNilCheck v0 fun x1 =>
 xAddr (some 0) x1 fun x2 =>
 xLoad (some none) x2 h fun x3 =>
 bd114 x3 h fun x4 h1 =>
 c80_2 h1 x4 k v1
noncomputable abbrev ex80 : Ex := fun args h k => a2 args fun v0 v1 => bd80 v0 v1 h k
set_option maxRecDepth 100000 in
theorem sim80 : SimF Tryz.prog 80 ex80 := fun args h k hk => by
  obtain ⟨v0, v1, rfl, hk⟩ := a2_ok hk
  exact sim_of (qf := (fun f => [46, 47, 62, 75, 82, 97, 104, 114, 121, 127, 128, 141, 151, 156, 157, 183].contains f)) (Z := zs) (C := [(114, ex114)]) (T := []) ⟨zerosB_ok zsOk, (exCons (by kernel_rfl) sim114 exNil)⟩ (.seq .nil (.seq .nil (.seq (.join [25] [11, 12, 13, 14, 15, 16, 17, 18, 19, 20, 21, 22, 23, 24] .nil .nil) .nil))) Tryz.func80 _ h k (Eq.mp (by kernel_rfl : (bd80 v0 v1 h k = true) = (xFn Tryz.prog (fun f => [46, 47, 62, 75, 82, 97, 104, 114, 121, 127, 128, 141, 151, 156, 157, 183].contains f) zs [(114, ex114)] [] Tryz.f80 (.seq .nil (.seq .nil (.seq (.join [25] [11, 12, 13, 14, 15, 16, 17, 18, 19, 20, 21, 22, 23, 24] .nil .nil) .nil))) [v0, v1] h k = true)) hk)

/- (*undercroft/chart.file).down -/
noncomputable abbrev c67_1 (x14 : CV) (x17 : CV) (h4 : CH) (v2 : CV) (r67 : Ex) (v0 : CV) (k : CV → CH → Bool) : Bool :=
 xQuiet (some ex75) [x14, x17] h4 fun x18 h5 =>
 xConv (some (.int .u32)) (some (.int .i64)) x18 fun x19 =>
 xSlice (some (none, 1)) v2 (some (.int .i64 (.ofNat 1))) none none fun x20 =>
 r67 [v0, x19, x20] h5 fun x21 h6 =>
 xExtract x21 0 fun x22 =>
 xExtract x21 1 fun x23 =>
 xExtract x21 2 fun x24 =>
 xBin (some (.int .i64)) .add x23 (.int .i64 (.ofNat 1)) fun x25 =>
 k (.tup [x22, x25, x24]) h6
noncomputable abbrev c67_2 (x11 : CV) (k : CV → CH → Bool) (h4 : CH) (x12 : CV) (v2 : CV) (r67 : Ex) (v0 : CV) : Bool :=
 xBin (some (.int .i64)) .neq x11 (.int .i64 (.ofNat 0)) fun x13 =>
 xIte x13
  (k (.tup [(.int .i64 (.ofNat 0)), (.int .i64 (.ofNat 0)), x11]) h4)
  (xLoad (some (some 1024)) x12 h4 fun x14 =>
  xIdx (some (none, 1)) v2 (.int .i64 (.ofNat 0)) fun x15 =>
  xLoad (some none) x15 h4 fun x16 =>
  xBin (some (.int .i64)) .mul (.int .i64 (.ofNat 4)) x16 fun x17 =>
  c67_1 x14 x17 h4 v2 r67 v0 k)
noncomputable abbrev c67_3 (x5 : CV) (k : CV → CH → Bool) (v1 : CV) (h1 : CH) (v0 : CV) (v2 : CV) (r67 : Ex) : Bool :=
 xIte x5
  (k (.tup [v1, (.int .i64 (.ofNat 1)), (.int .i64 (.ofNat 0))]) h1)
  (xNilCheck v0 fun x6 =>
  xAddr (some 0) x6 fun x7 =>
  xLoad (some none) x7 h1 fun x8 =>
  bd74 x8 v1 h1 fun x9 h2 =>
  xExtract x9 0 fun x10 =>
  xExtract x9 1 fun x11 =>
  xBoxP 124 [(.bytes 1024 0)] h2 fun x12 h3 =>
  xStore (some 1024) x12 x10 h3 fun h4 =>
  c67_2 x11 k h4 x12 v2 r67 v0)
noncomputable abbrev c67_4 (x2 : CV) (k : CV → CH → Bool) (x1 : CV) (h1 : CH) (v1 : CV) (v2 : CV) (v0 : CV) (r67 : Ex) : Bool :=
 xIte x2
  (k (.tup [(.int .i64 (.ofNat 0)), (.int .i64 (.ofNat 0)), x1]) h1)
  (xBin (some (.int .i64)) .eql v1 (.int .i64 (.ofNat 0)) fun x3 =>
  xIte x3
   (k (.tup [(.int .i64 (.ofNat 0)), (.int .i64 (.ofNat 0)), (.int .i64 (.ofNat 0))]) h1)
   (xLen (some (.inl false)) v2 fun x4 =>
   xBin (some (.int .i64)) .eql x4 (.int .i64 (.ofNat 0)) fun x5 =>
   c67_3 x5 k v1 h1 v0 v2 r67))
noncomputable def bd67 (r67 : Ex) (v0 v1 v2 : CV) (h : CH) (k : CV → CH → Bool) : Bool :=
 bd80 v0 v1 h fun x1 h1 =>
 xBin (some (.int .i64)) .neq x1 (.int .i64 (.ofNat 0)) fun x2 =>
 c67_4 x2 k x1 h1 v1 v2 v0 r67
noncomputable def rc67 : Nat → Nat → Ex := fun n => Nat.rec (motive := fun _ => Nat → Ex) (fun _ _ _ _ => false) (fun _ ih j => match j with
  | 0 => fun args h k => a3 args (fun v0 v1 v2 => bd67 (ih 0) v0 v1 v2 h k)
  | _ => fun _ _ _ => false) n
set_option maxRecDepth 100000 in
theorem sr67 : ∀ n, SimF Tryz.prog 67 (rc67 n 0)
  | 0 => fun args h k hk => by cases hk
  | n + 1 => by
    have ih := sr67 n
    have i67 := ih
    · intro args h k hk
      obtain ⟨v0, v1, v2, rfl, hk⟩ := a3_ok hk
      exact sim_of (qf := (fun f => [46, 47, 62, 75, 82, 97, 104, 114, 121, 127, 128, 141, 151, 156, 157, 183].contains f)) (Z := zs) (C := [(67, rc67 n 0), (80, ex80), (74, ex74), (75, ex75)]) (T := []) ⟨zerosB_ok zsOk, (exCons (by kernel_rfl) i67 (exCons (by kernel_rfl) sim80 (exCons (by kernel_rfl) sim74 (exCons (by kernel_rfl) sim75 exNil))))⟩ .nil Tryz.func67 _ h k (Eq.mp (by kernel_rfl : (bd67 (rc67 n 0) v0 v1 v2 h k = true) = (xFn Tryz.prog (fun f => [46, 47, 62, 75, 82, 97, 104, 114, 121, 127, 128, 141, 151, 156, 157, 183].contains f) zs [(67, rc67 n 0), (80, ex80), (74, ex74), (75, ex75)] [] Tryz.f67 .nil [v0, v1, v2] h k = true)) hk)
noncomputable abbrev ex67 : Ex := rc67 1000 0
theorem sim67 : SimF Tryz.prog 67 ex67 := sr67 1000

/- (*undercroft/chart.file).at -/
noncomputable abbrev c29_1 (x4 : CV) (k : CV → CH → Bool) (h2 : CH) (x3 : CV) (x6 : CV) (x5 : CV) : Bool :=
 xExtract x4 2 fun x7 =>
 xBin (some (.int .i64)) .neq x7 (.int .i64 (.ofNat 0)) fun x8 =>
 xIte x8
  (k (.tup [(.int .i64 (.ofNat 0)), (.int .i64 (.ofNat 0)), x7]) h2)
  (xLen (some (.inl false)) x3 fun x9 =>
  xBin (some (.int .i64)) .add x9 (.int .i64 (.ofNat 1)) fun x10 =>
  xBin (some (.int .i64)) .sub x10 x6 fun x11 =>
  k (.tup [x5, x11, (.int .i64 (.ofNat 0))]) h2)
noncomputable def bd29 (v0 v1 : CV) (h : CH) (k : CV → CH → Bool) : Bool :=
 bd33 v0 v1 h fun x1 h1 =>
 xExtract x1 0 fun x2 =>
 xExtract x1 1 fun x3 =>
 ex67 [v0, x2, x3] h1 fun x4 h2 =>
 xExtract x4 0 fun x5 =>
 xExtract x4 1 fun x6 =>
 c29_1 x4 k h2 x3 x6 x5
noncomputable abbrev ex29 : Ex := fun args h k => a2 args fun v0 v1 => bd29 v0 v1 h k
set_option maxRecDepth 100000 in
theorem sim29 : SimF Tryz.prog 29 ex29 := fun args h k hk => by
  obtain ⟨v0, v1, rfl, hk⟩ := a2_ok hk
  exact sim_of (qf := (fun f => [46, 47, 62, 75, 82, 97, 104, 114, 121, 127, 128, 141, 151, 156, 157, 183].contains f)) (Z := zs) (C := [(33, ex33), (67, ex67)]) (T := []) ⟨zerosB_ok zsOk, (exCons (by kernel_rfl) sim33 (exCons (by kernel_rfl) sim67 exNil))⟩ .nil Tryz.func29 _ h k (Eq.mp (by kernel_rfl : (bd29 v0 v1 h k = true) = (xFn Tryz.prog (fun f => [46, 47, 62, 75, 82, 97, 104, 114, 121, 127, 128, 141, 151, 156, 157, 183].contains f) zs [(33, ex33), (67, ex67)] [] Tryz.f29 .nil [v0, v1] h k = true)) hk)

/- (*undercroft/chart.file).need -/
noncomputable abbrev c31_1 (x15 : CV) (x1 : CV) (h8 : CH) (s1 : TupC 2) (K2 : TupC 2 → CH → Bool) (s12 : TupC 1) : Bool :=
 xIte x15
  (xBuild (some (.inl [(0, 1), (1, 1), (2, 1)])) (some (.agg [(.bytes 1 0), (.int .i64 (.ofNat 0)), (.int .i64 (.ofNat 0))])) [] fun x16 =>
  xMapSetW Tryz.prog 163 x1 x16 (.int .i64 (.ofNat 1)) h8 fun h9 =>
  xBin (some (.int .i64)) .add s1.2.1 (.int .i64 (.ofNat 1)) fun x17 =>
  K2 (s12.1, x17, ()) h9)
  (xBin (some (.int .i64)) .add s1.2.1 (.int .i64 (.ofNat 1)) fun x18 =>
  K2 (s12.1, x18, ()) h8)
noncomputable abbrev c31_2 (x26 : CV) (x24 : CV) (x22 : CV) (x1 : CV) (h7 : CH) (K18 : TupC 0 → CH → Bool) : Bool :=
 xBin (some (.int .u8)) .quo x26 (.int .u8 (.ofNat 3)) fun x27 =>
 xConv (some (.int .u8)) (some (.int .i64)) x27 fun x28 =>
 xBin (some (.int .i64)) .mul x24 x28 fun x29 =>
 xBuild (some (.inl [(0, 1), (1, 1), (2, 1)])) (some (.agg [(.bytes 1 0), (.int .i64 (.ofNat 0)), (.int .i64 (.ofNat 0))])) [(0, x22), (1, x29)] fun x30 =>
 xMapSetW Tryz.prog 163 x1 x30 (.int .i64 (.ofNat 1)) h7 fun h10 =>
 K18 (()) h10
noncomputable abbrev c31_3 (x8 : CV) (x1 : CV) (s1 : TupC 2) (K2 : TupC 2 → CH → Bool) (s12 : TupC 1) (x12 : CV) (h7 : CH) : Bool :=
 xJoin (n := 0) (fun s13 h8 =>
  xBin (some (.int .i64)) .gtr x8 (.int .i64 (.ofNat 2)) fun x15 =>
  c31_1 x15 x1 h8 s1 K2 s12)
 (fun K18 => xBin (some (.int .i64)) .gtr x8 (.int .i64 (.ofNat 1)) fun x20 =>
 xIte x20
  (xAddr (some 0) x12 fun x21 =>
  xLoad (some none) x21 h7 fun x22 =>
  xAddr (some 1) x12 fun x23 =>
  xLoad (some none) x23 h7 fun x24 =>
  xAddr (some 0) x12 fun x25 =>
  xLoad (some none) x25 h7 fun x26 =>
  c31_2 x26 x24 x22 x1 h7 K18)
  (K18 (()) h7))
noncomputable abbrev c31_4 (h4 : CH) (x11 : CV) (x8 : CV) (x1 : CV) (s1 : TupC 2) (K2 : TupC 2 → CH → Bool) : Bool :=
 xBoxP 163 [(.bytes 1 0), (.int .i64 (.ofNat 0)), (.int .i64 (.ofNat 0))] h4 fun x12 h5 =>
 xStore (some 3) x12 x11 h5 fun h6 =>
 xJoin (n := 1) (fun s12 h7 =>
  c31_3 x8 x1 s1 K2 s12 x12 h7)
 (fun K30 => xBin (some (.int .i64)) .gtr x8 (.int .i64 (.ofNat 0)) fun x32 =>
 xIte x32
  (xBin (some (.int .i64)) .add s1.1 (.int .i64 (.ofNat 1)) fun x33 =>
  K30 (x33, ()) h6)
  (K30 (s1.1, ()) h6))
noncomputable abbrev c31_5 (x5 : CV) (v0 : CV) (s1 : TupC 2) (h2 : CH) (k : CV → CH → Bool) (x1 : CV) (K2 : TupC 2 → CH → Bool) : Bool :=
 xIte x5
  (bd29 v0 s1.2.1 h2 fun x6 h3 =>
  xExtract x6 0 fun x7 =>
  xExtract x6 1 fun x8 =>
  xExtract x6 2 fun x9 =>
  xBin (some (.int .i64)) .neq x9 (.int .i64 (.ofNat 0)) fun x10 =>
  xIte x10
   (k (.tup [(.int .i64 (.ofNat 0)), x9]) h3)
   (bd68 s1.2.1 h3 fun x11 h4 =>
   c31_4 h4 x11 x8 x1 s1 K2))
  (xMapLen x1 h2 fun x34 =>
  xBin (some (.int .i64)) .add s1.1 x34 fun x35 =>
  k (.tup [x35, (.int .i64 (.ofNat 0))]) h2)
noncomputable def bd31 (v0 v1 v2 : CV) (h : CH) (k : CV → CH → Bool) : Bool :=
 xNewMap h fun x1 h1 =>
 xLoop (n := 2) (fun K2 s1 h2 =>
  xBin (some (.int .i64)) .add v1 v2 fun x4 =>
  xBin (some (.int .i64)) .lss s1.2.1 x4 fun x5 =>
  c31_5 x5 v0 s1 h2 k x1 K2) 1000000 ((.int .i64 (.ofNat 0)), v1, ()) h1
noncomputable abbrev ex31 : Ex := fun args h k => a3 args fun v0 v1 v2 => bd31 v0 v1 v2 h k
set_option maxRecDepth 100000 in
theorem sim31 : SimF Tryz.prog 31 ex31 := fun args h k hk => by
  obtain ⟨v0, v1, v2, rfl, hk⟩ := a3_ok hk
  exact sim_of (qf := (fun f => [46, 47, 62, 75, 82, 97, 104, 114, 121, 127, 128, 141, 151, 156, 157, 183].contains f)) (Z := zs) (C := [(29, ex29), (68, ex68)]) (T := []) ⟨zerosB_ok zsOk, (exCons (by kernel_rfl) sim29 (exCons (by kernel_rfl) sim68 exNil))⟩ (.seq .nil (.seq .nil (.seq .nil (.seq (.seq .nil (.loop [8, 10] [17, 18, 19, 20, 21, 25, 26, 27, 24, 28, 29, 30, 11, 12, 13, 31, 32, 33, 6, 7, 34, 35, 14, 36, 37, 38, 39, 40, 41, 42, 43, 44, 45, 46, 47, 48, 49, 50, 51, 52, 53, 54, 55, 56, 22, 23] (.seq .nil (.seq (.seq .nil (.seq .nil (.seq .nil (.join [8] [36, 37, 38, 39] .nil (.join [] [40, 41, 42, 43, 44, 45, 46, 47, 48, 49, 50, 51, 52] .nil .nil))))) .nil)))) .nil)))) Tryz.func31 _ h k (Eq.mp (by kernel_rfl : (bd31 v0 v1 v2 h k = true) = (xFn Tryz.prog (fun f => [46, 47, 62, 75, 82, 97, 104, 114, 121, 127, 128, 141, 151, 156, 157, 183].contains f) zs [(29, ex29), (68, ex68)] [] Tryz.f31 (.seq .nil (.seq .nil (.seq .nil (.seq (.seq .nil (.loop [8, 10] [17, 18, 19, 20, 21, 25, 26, 27, 24, 28, 29, 30, 11, 12, 13, 31, 32, 33, 6, 7, 34, 35, 14, 36, 37, 38, 39, 40, 41, 42, 43, 44, 45, 46, 47, 48, 49, 50, 51, 52, 53, 54, 55, 56, 22, 23] (.seq .nil (.seq (.seq .nil (.seq .nil (.seq .nil (.join [8] [36, 37, 38, 39] .nil (.join [] [40, 41, 42, 43, 44, 45, 46, 47, 48, 49, 50, 51, 52] .nil .nil))))) .nil)))) .nil)))) [v0, v1, v2] h k = true)) hk)

/- undercroft/chart.Need -/
noncomputable abbrev c10_1 (x3 : CV) (k : CV → CH → Bool) (h1 : CH) (v2 : CV) (v3 : CV) (x2 : CV) : Bool :=
 xBin (some (.int .i64)) .neq x3 (.int .i64 (.ofNat 0)) fun x4 =>
 xIte x4
  (k (.tup [(.int .i64 (.ofNat 0)), x3]) h1)
  (bd30 v2 v3 h1 fun x5 h2 =>
  xUn .not x5 fun x6 =>
  xIte x6
   (k (.tup [(.int .i64 (.ofNat 0)), (.int .i64 (.ofNat 2))]) h2)
   (bd31 x2 v2 v3 h2 fun x7 h3 =>
   xExtract x7 0 fun x8 =>
   xExtract x7 1 fun x9 =>
   k (.tup [x8, x9]) h3))
noncomputable def bd10 (v0 v1 v2 v3 : CV) (h : CH) (k : CV → CH → Bool) : Bool :=
 bd28 v0 v1 (.bool false) h fun x1 h1 =>
 xExtract x1 0 fun x2 =>
 xExtract x1 1 fun x3 =>
 c10_1 x3 k h1 v2 v3 x2
noncomputable abbrev ex10 : Ex := fun args h k => a4 args fun v0 v1 v2 v3 => bd10 v0 v1 v2 v3 h k
set_option maxRecDepth 100000 in
theorem sim10 : SimF Tryz.prog 10 ex10 := fun args h k hk => by
  obtain ⟨v0, v1, v2, v3, rfl, hk⟩ := a4_ok hk
  exact sim_of (qf := (fun f => [46, 47, 62, 75, 82, 97, 104, 114, 121, 127, 128, 141, 151, 156, 157, 183].contains f)) (Z := zs) (C := [(28, ex28), (30, ex30), (31, ex31)]) (T := []) ⟨zerosB_ok zsOk, (exCons (by kernel_rfl) sim28 (exCons (by kernel_rfl) sim30 (exCons (by kernel_rfl) sim31 exNil)))⟩ .nil Tryz.func10 _ h k (Eq.mp (by kernel_rfl : (bd10 v0 v1 v2 v3 h k = true) = (xFn Tryz.prog (fun f => [46, 47, 62, 75, 82, 97, 104, 114, 121, 127, 128, 141, 151, 156, 157, 183].contains f) zs [(28, ex28), (30, ex30), (31, ex31)] [] Tryz.f10 .nil [v0, v1, v2, v3] h k = true)) hk)

/- undercroft/room.check -/
noncomputable def bd69 (v0 v1 : CV) (h : CH) (k : CV → CH → Bool) : Bool :=
 bd26 v0 h fun x1 h1 =>
 xBin (some (.int .i64)) .neq x1 (.int .i64 (.ofNat 0)) fun x2 =>
 xIte x2
  (k x1 h1)
  (xJoin (n := 1) (fun s2 h2 =>
   xIte s2.1
    (k (.int .i64 (.ofNat 180)) h2)
    (k (.int .i64 (.ofNat 0)) h2))
  (fun K3 => xIte v1
   (bd65 v0 h1 fun x5 h3 =>
   xUn .not x5 fun x6 =>
   K3 (x6, ()) h3)
   (K3 ((.bool false), ()) h1)))
noncomputable abbrev ex69 : Ex := fun args h k => a2 args fun v0 v1 => bd69 v0 v1 h k
set_option maxRecDepth 100000 in
theorem sim69 : SimF Tryz.prog 69 ex69 := fun args h k hk => by
  obtain ⟨v0, v1, rfl, hk⟩ := a2_ok hk
  exact sim_of (qf := (fun f => [46, 47, 62, 75, 82, 97, 104, 114, 121, 127, 128, 141, 151, 156, 157, 183].contains f)) (Z := zs) (C := [(26, ex26), (65, ex65)]) (T := []) ⟨zerosB_ok zsOk, (exCons (by kernel_rfl) sim26 (exCons (by kernel_rfl) sim65 exNil))⟩ (.seq .nil (.seq .nil (.seq (.join [16] [11, 12, 13, 14, 15] .nil .nil) .nil))) Tryz.func69 _ h k (Eq.mp (by kernel_rfl : (bd69 v0 v1 h k = true) = (xFn Tryz.prog (fun f => [46, 47, 62, 75, 82, 97, 104, 114, 121, 127, 128, 141, 151, 156, 157, 183].contains f) zs [(26, ex26), (65, ex65)] [] Tryz.f69 (.seq .nil (.seq .nil (.seq (.join [16] [11, 12, 13, 14, 15] .nil .nil) .nil))) [v0, v1] h k = true)) hk)

/- undercroft/bits.inside -/
noncomputable def bd115 (v0 v1 : CV) (h : CH) (k : CV → CH → Bool) : Bool :=
 xMax v0 (.int .i64 (.ofNat 0)) fun x1 =>
 xMin v1 (.int .i64 (.ofNat 8192)) fun x2 =>
 k (.tup [x1, x2]) h
noncomputable abbrev ex115 : Ex := fun args h k => a2 args fun v0 v1 => bd115 v0 v1 h k
set_option maxRecDepth 100000 in
theorem sim115 : SimF Tryz.prog 115 ex115 := fun args h k hk => by
  obtain ⟨v0, v1, rfl, hk⟩ := a2_ok hk
  exact sim_of (qf := (fun f => [46, 47, 62, 75, 82, 97, 104, 114, 121, 127, 128, 141, 151, 156, 157, 183].contains f)) (Z := zs) (C := []) (T := []) ⟨zerosB_ok zsOk, exNil⟩ .nil Tryz.func115 _ h k (Eq.mp (by kernel_rfl : (bd115 v0 v1 h k = true) = (xFn Tryz.prog (fun f => [46, 47, 62, 75, 82, 97, 104, 114, 121, 127, 128, 141, 151, 156, 157, 183].contains f) zs [] [] Tryz.f115 .nil [v0, v1] h k = true)) hk)

/- undercroft/bits.Has -/
noncomputable abbrev c117_1 (v1 : CV) (x1 : CV) (h1 : CH) (k : CV → CH → Bool) : Bool :=
 xBin (some (.int .i64)) .quo v1 (.int .i64 (.ofNat 8)) fun x4 =>
 xIdx (some (some 1024, 1)) x1 x4 fun x5 =>
 xLoad (some none) x5 h1 fun x6 =>
 xBin (some (.int .i64)) .rem v1 (.int .i64 (.ofNat 8)) fun x7 =>
 xBin (some (.int .u8)) .shl (.int .u8 (.ofNat 1)) x7 fun x8 =>
 xBin (some (.int .u8)) .and x6 x8 fun x9 =>
 xBin (some (.int .u8)) .neq x9 (.int .u8 (.ofNat 0)) fun x10 =>
 k x10 h1
noncomputable def bd117 (v0 v1 : CV) (h : CH) (k : CV → CH → Bool) : Bool :=
 xBox 124 v0 h fun x1 h1 =>
 xBin (some (.int .i64)) .geq v1 (.int .i64 (.ofNat 0)) fun x2 =>
 xIte x2
  (xBin (some (.int .i64)) .lss v1 (.int .i64 (.ofNat 8192)) fun x3 =>
  xIte x3
   (c117_1 v1 x1 h1 k)
   (k (.bool false) h1))
  (k (.bool false) h1)
noncomputable abbrev ex117 : Ex := fun args h k => a2 args fun v0 v1 => bd117 v0 v1 h k
set_option maxRecDepth 100000 in
theorem sim117 : SimF Tryz.prog 117 ex117 := fun args h k hk => by
  obtain ⟨v0, v1, rfl, hk⟩ := a2_ok hk
  exact sim_of (qf := (fun f => [46, 47, 62, 75, 82, 97, 104, 114, 121, 127, 128, 141, 151, 156, 157, 183].contains f)) (Z := zs) (C := []) (T := []) ⟨zerosB_ok zsOk, exNil⟩ .nil Tryz.func117 _ h k (Eq.mp (by kernel_rfl : (bd117 v0 v1 h k = true) = (xFn Tryz.prog (fun f => [46, 47, 62, 75, 82, 97, 104, 114, 121, 127, 128, 141, 151, 156, 157, 183].contains f) zs [] [] Tryz.f117 .nil [v0, v1] h k = true)) hk)

/- undercroft/bits.First -/
noncomputable abbrev c159_1 (s7 : TupC 1) (s4 : TupC 1) (K5 : TupC 1 → CH → Bool) (h4 : CH) (x1 : CV) (k : CV → CH → Bool) : Bool :=
 xIte s7.1
  (xBin (some (.int .i64)) .add s4.1 (.int .i64 (.ofNat 7)) fun x9 =>
  xBin (some (.int .i64)) .add x9 (.int .i64 (.ofNat 1)) fun x10 =>
  K5 (x10, ()) h4)
  (xLoad (some (some 1024)) x1 h4 fun x11 =>
  bd117 x11 s4.1 h4 fun x12 h5 =>
  xUn .not x12 fun x13 =>
  xIte x13
   (k s4.1 h5)
   (xBin (some (.int .i64)) .add s4.1 (.int .i64 (.ofNat 1)) fun x14 =>
   K5 (x14, ()) h5))
noncomputable abbrev c159_2 (s4 : TupC 1) (x4 : CV) (x1 : CV) (h3 : CH) (K14 : TupC 1 → CH → Bool) : Bool :=
 xBin (some (.int .i64)) .add s4.1 (.int .i64 (.ofNat 8)) fun x18 =>
 xBin (some (.int .i64)) .leq x18 x4 fun x19 =>
 xIte x19
  (xBin (some (.int .i64)) .quo s4.1 (.int .i64 (.ofNat 8)) fun x20 =>
  xIdx (some (some 1024, 1)) x1 x20 fun x21 =>
  xLoad (some none) x21 h3 fun x22 =>
  xBin (some (.int .u8)) .eql x22 (.int .u8 (.ofNat 255)) fun x23 =>
  K14 (x23, ()) h3)
  (K14 ((.bool false), ()) h3)
noncomputable abbrev c159_3 (s4 : TupC 1) (x4 : CV) (K5 : TupC 1 → CH → Bool) (x1 : CV) (k : CV → CH → Bool) (h3 : CH) : Bool :=
 xBin (some (.int .i64)) .lss s4.1 x4 fun x7 =>
 xIte x7
  (xJoin (n := 1) (fun s7 h4 =>
   c159_1 s7 s4 K5 h4 x1 k)
  (fun K14 => xBin (some (.int .i64)) .rem s4.1 (.int .i64 (.ofNat 8)) fun x16 =>
  xBin (some (.int .i64)) .eql x16 (.int .i64 (.ofNat 0)) fun x17 =>
  xIte x17
   (c159_2 s4 x4 x1 h3 K14)
   (K14 ((.bool false), ()) h3)))
  (k (.int .i64 (.negSucc 0)) h3)
noncomputable def bd159 (v0 v1 v2 : CV) (h : CH) (k : CV → CH → Bool) : Bool :=
 xBox 124 v0 h fun x1 h1 =>
 bd115 v1 v2 h1 fun x2 h2 =>
 xExtract x2 0 fun x3 =>
 xExtract x2 1 fun x4 =>
 xLoop (n := 1) (fun K5 s4 h3 =>
  c159_3 s4 x4 K5 x1 k h3) 1000000 (x3, ()) h2
noncomputable abbrev ex159 : Ex := fun args h k => a3 args fun v0 v1 v2 => bd159 v0 v1 v2 h k
set_option maxRecDepth 100000 in
theorem sim159 : SimF Tryz.prog 159 ex159 := fun args h k hk => by
  obtain ⟨v0, v1, v2, rfl, hk⟩ := a3_ok hk
  exact sim_of (qf := (fun f => [46, 47, 62, 75, 82, 97, 104, 114, 121, 127, 128, 141, 151, 156, 157, 183].contains f)) (Z := zs) (C := [(115, ex115), (117, ex117)]) (T := []) ⟨zerosB_ok zsOk, (exCons (by kernel_rfl) sim115 (exCons (by kernel_rfl) sim117 exNil))⟩ (.seq .nil (.seq .nil (.seq (.seq .nil (.loop [7] [15, 16, 17, 20, 21, 22, 23, 24, 25, 26, 27, 28, 29, 30, 31, 32, 33, 34, 35, 36, 37, 38, 39, 40, 41, 42, 6, 18, 19] (.seq .nil (.seq (.seq (.join [35] [20, 21, 22, 23, 24, 25, 26, 27, 28, 29, 30, 31, 32, 33, 34] .nil .nil) .nil) .nil)))) .nil))) Tryz.func159 _ h k (Eq.mp (by kernel_rfl : (bd159 v0 v1 v2 h k = true) = (xFn Tryz.prog (fun f => [46, 47, 62, 75, 82, 97, 104, 114, 121, 127, 128, 141, 151, 156, 157, 183].contains f) zs [(115, ex115), (117, ex117)] [] Tryz.f159 (.seq .nil (.seq .nil (.seq (.seq .nil (.loop [7] [15, 16, 17, 20, 21, 22, 23, 24, 25, 26, 27, 28, 29, 30, 31, 32, 33, 34, 35, 36, 37, 38, 39, 40, 41, 42, 6, 18, 19] (.seq .nil (.seq (.seq (.join [35] [20, 21, 22, 23, 24, 25, 26, 27, 28, 29, 30, 31, 32, 33, 34] .nil .nil) .nil) .nil)))) .nil))) [v0, v1, v2] h k = true)) hk)

/- undercroft/room.Take$1 -/
noncomputable abbrev c158_1 (x4 : CV) (v0 : CV) (x3 : CV) (v4 : CV) (h2 : CH) (x1 : CV) (v5 : CV) (k : CV → CH → Bool) : Bool :=
 xIte x4
  (xBin (some (.int .i64)) .mul v0 (.int .i64 (.ofNat 8192)) fun x5 =>
  xBin (some (.int .i64)) .add x5 x3 fun x6 =>
  xStore (some 1) v4 x6 h2 fun h3 =>
  xLoad (some (some 1024)) x1 h3 fun x7 =>
  xStore (some 1024) v5 x7 h3 fun h4 =>
  xBin (some (.int .i64)) .lss x3 (.int .i64 (.ofNat 0)) fun x8 =>
  k x8 h4)
  (xBin (some (.int .i64)) .lss x3 (.int .i64 (.ofNat 0)) fun x9 =>
  k x9 h2)
noncomputable def bd158 (v0 v1 v2 v3 v4 v5 : CV) (h : CH) (k : CV → CH → Bool) : Bool :=
 xBox 124 v1 h fun x1 h1 =>
 xLoad (some (some 1024)) x1 h1 fun x2 =>
 bd159 x2 v2 v3 h1 fun x3 h2 =>
 xBin (some (.int .i64)) .geq x3 (.int .i64 (.ofNat 0)) fun x4 =>
 c158_1 x4 v0 x3 v4 h2 x1 v5 k
noncomputable abbrev ex158 : Ex := fun args h k => a6 args fun v0 v1 v2 v3 v4 v5 => bd158 v0 v1 v2 v3 v4 v5 h k
set_option maxRecDepth 100000 in
theorem sim158 : SimF Tryz.prog 158 ex158 := fun args h k hk => by
  obtain ⟨v0, v1, v2, v3, v4, v5, rfl, hk⟩ := a6_ok hk
  exact sim_of (qf := (fun f => [46, 47, 62, 75, 82, 97, 104, 114, 121, 127, 128, 141, 151, 156, 157, 183].contains f)) (Z := zs) (C := [(159, ex159)]) (T := []) ⟨zerosB_ok zsOk, (exCons (by kernel_rfl) sim159 exNil)⟩ .nil Tryz.func158 _ h k (Eq.mp (by kernel_rfl : (bd158 v0 v1 v2 v3 v4 v5 h k = true) = (xFn Tryz.prog (fun f => [46, 47, 62, 75, 82, 97, 104, 114, 121, 127, 128, 141, 151, 156, 157, 183].contains f) zs [(159, ex159)] [] Tryz.f158 .nil [v0, v1, v2, v3, v4, v5] h k = true)) hk)

/- math/bits.OnesCount8 -/
noncomputable def bd116 (v0 : CV) (h : CH) (k : CV → CH → Bool) : Bool :=
 xIndex (some none) (.str ⟨#[0, 1, 1, 2, 1, 2, 2, 3, 1, 2, 2, 3, 2, 3, 3, 4, 1, 2, 2, 3, 2, 3, 3, 4, 2, 3, 3, 4, 3, 4, 4, 5, 1, 2, 2, 3, 2, 3, 3, 4, 2, 3, 3, 4, 3, 4, 4, 5, 2, 3, 3, 4, 3, 4, 4, 5, 3, 4, 4, 5, 4, 5, 5, 6, 1, 2, 2, 3, 2, 3, 3, 4, 2, 3, 3, 4, 3, 4, 4, 5, 2, 3, 3, 4, 3, 4, 4, 5, 3, 4, 4, 5, 4, 5, 5, 6, 2, 3, 3, 4, 3, 4, 4, 5, 3, 4, 4, 5, 4, 5, 5, 6, 3, 4, 4, 5, 4, 5, 5, 6, 4, 5, 5, 6, 5, 6, 6, 7, 1, 2, 2, 3, 2, 3, 3, 4, 2, 3, 3, 4, 3, 4, 4, 5, 2, 3, 3, 4, 3, 4, 4, 5, 3, 4, 4, 5, 4, 5, 5, 6, 2, 3, 3, 4, 3, 4, 4, 5, 3, 4, 4, 5, 4, 5, 5, 6, 3, 4, 4, 5, 4, 5, 5, 6, 4, 5, 5, 6, 5, 6, 6, 7, 2, 3, 3, 4, 3, 4, 4, 5, 3, 4, 4, 5, 4, 5, 5, 6, 3, 4, 4, 5, 4, 5, 5, 6, 4, 5, 5, 6, 5, 6, 6, 7, 3, 4, 4, 5, 4, 5, 5, 6, 4, 5, 5, 6, 5, 6, 6, 7, 4, 5, 5, 6, 5, 6, 6, 7, 5, 6, 6, 7, 6, 7, 7, 8]⟩) v0 fun x1 =>
 xConv (some (.int .u8)) (some (.int .i64)) x1 fun x2 =>
 k x2 h
noncomputable abbrev ex116 : Ex := fun args h k => a1 args fun v0 => bd116 v0 h k
set_option maxRecDepth 100000 in
theorem sim116 : SimF Tryz.prog 116 ex116 := fun args h k hk => by
  obtain ⟨v0, rfl, hk⟩ := a1_ok hk
  exact sim_of (qf := (fun f => [46, 47, 62, 75, 82, 97, 104, 114, 121, 127, 128, 141, 151, 156, 157, 183].contains f)) (Z := zs) (C := []) (T := []) ⟨zerosB_ok zsOk, exNil⟩ .nil Tryz.func116 _ h k (Eq.mp (by kernel_rfl : (bd116 v0 h k = true) = (xFn Tryz.prog (fun f => [46, 47, 62, 75, 82, 97, 104, 114, 121, 127, 128, 141, 151, 156, 157, 183].contains f) zs [] [] Tryz.f116 .nil [v0] h k = true)) hk)

/- undercroft/bits.Count -/
noncomputable abbrev c72_1 (s4 : TupC 2) (x1 : CV) (h4 : CH) (K5 : TupC 2 → CH → Bool) : Bool :=
 xBin (some (.int .i64)) .quo s4.2.1 (.int .i64 (.ofNat 8)) fun x9 =>
 xIdx (some (some 1024, 1)) x1 x9 fun x10 =>
 xLoad (some none) x10 h4 fun x11 =>
 bd116 x11 h4 fun x12 h5 =>
 xBin (some (.int .i64)) .add s4.1 x12 fun x13 =>
 xBin (some (.int .i64)) .add s4.2.1 (.int .i64 (.ofNat 7)) fun x14 =>
 xBin (some (.int .i64)) .add x14 (.int .i64 (.ofNat 1)) fun x15 =>
 K5 (x13, x15, ()) h5
noncomputable abbrev c72_2 (s7 : TupC 1) (s4 : TupC 2) (x1 : CV) (h4 : CH) (K5 : TupC 2 → CH → Bool) : Bool :=
 xIte s7.1
  (c72_1 s4 x1 h4 K5)
  (xLoad (some (some 1024)) x1 h4 fun x16 =>
  bd117 x16 s4.2.1 h4 fun x17 h6 =>
  xIte x17
   (xBin (some (.int .i64)) .add s4.1 (.int .i64 (.ofNat 1)) fun x18 =>
   xBin (some (.int .i64)) .add s4.2.1 (.int .i64 (.ofNat 1)) fun x19 =>
   K5 (x18, x19, ()) h6)
   (xBin (some (.int .i64)) .add s4.2.1 (.int .i64 (.ofNat 1)) fun x20 =>
   K5 (s4.1, x20, ()) h6))
noncomputable abbrev c72_3 (s4 : TupC 2) (x1 : CV) (K5 : TupC 2 → CH → Bool) (x4 : CV) (h3 : CH) : Bool :=
 xJoin (n := 1) (fun s7 h4 =>
  c72_2 s7 s4 x1 h4 K5)
 (fun K20 => xBin (some (.int .i64)) .rem s4.2.1 (.int .i64 (.ofNat 8)) fun x22 =>
 xBin (some (.int .i64)) .eql x22 (.int .i64 (.ofNat 0)) fun x23 =>
 xIte x23
  (xBin (some (.int .i64)) .add s4.2.1 (.int .i64 (.ofNat 8)) fun x24 =>
  xBin (some (.int .i64)) .leq x24 x4 fun x25 =>
  K20 (x25, ()) h3)
  (K20 ((.bool false), ()) h3))
noncomputable def bd72 (v0 v1 v2 : CV) (h : CH) (k : CV → CH → Bool) : Bool :=
 xBox 124 v0 h fun x1 h1 =>
 bd115 v1 v2 h1 fun x2 h2 =>
 xExtract x2 0 fun x3 =>
 xExtract x2 1 fun x4 =>
 xLoop (n := 2) (fun K5 s4 h3 =>
  xBin (some (.int .i64)) .lss s4.2.1 x4 fun x7 =>
  xIte x7
   (c72_3 s4 x1 K5 x4 h3)
   (k s4.1 h3)) 1000000 ((.int .i64 (.ofNat 0)), x3, ()) h2
noncomputable abbrev ex72 : Ex := fun args h k => a3 args fun v0 v1 v2 => bd72 v0 v1 v2 h k
set_option maxRecDepth 100000 in
theorem sim72 : SimF Tryz.prog 72 ex72 := fun args h k hk => by
  obtain ⟨v0, v1, v2, rfl, hk⟩ := a3_ok hk
  exact sim_of (qf := (fun f => [46, 47, 62, 75, 82, 97, 104, 114, 121, 127, 128, 141, 151, 156, 157, 183].contains f)) (Z := zs) (C := [(115, ex115), (116, ex116), (117, ex117)]) (T := []) ⟨zerosB_ok zsOk, (exCons (by kernel_rfl) sim115 (exCons (by kernel_rfl) sim116 (exCons (by kernel_rfl) sim117 exNil)))⟩ (.seq .nil (.seq .nil (.seq .nil (.seq (.seq .nil (.loop [7, 8] [16, 17, 18, 21, 22, 23, 24, 25, 26, 27, 28, 29, 30, 31, 32, 33, 34, 35, 36, 37, 38, 39, 40, 41, 42, 43, 19, 20] (.seq .nil (.seq (.join [29] [21, 22, 23, 24, 25, 26, 27, 28] .nil .nil) .nil)))) .nil)))) Tryz.func72 _ h k (Eq.mp (by kernel_rfl : (bd72 v0 v1 v2 h k = true) = (xFn Tryz.prog (fun f => [46, 47, 62, 75, 82, 97, 104, 114, 121, 127, 128, 141, 151, 156, 157, 183].contains f) zs [(115, ex115), (116, ex116), (117, ex117)] [] Tryz.f72 (.seq .nil (.seq .nil (.seq .nil (.seq (.seq .nil (.loop [7, 8] [16, 17, 18, 21, 22, 23, 24, 25, 26, 27, 28, 29, 30, 31, 32, 33, 34, 35, 36, 37, 38, 39, 40, 41, 42, 43, 19, 20] (.seq .nil (.seq (.join [29] [21, 22, 23, 24, 25, 26, 27, 28] .nil .nil) .nil)))) .nil)))) [v0, v1, v2] h k = true)) hk)

/- undercroft/room.Free$1 -/
noncomputable abbrev c71_1 (v3 : CV) (v2 : CV) (x1 : CV) (h1 : CH) (v4 : CV) (k : CV → CH → Bool) : Bool :=
 xBin (some (.int .i64)) .sub v3 v2 fun x2 =>
 xLoad (some (some 1024)) x1 h1 fun x3 =>
 xLoad (some none) v4 h1 fun x4 =>
 bd72 x3 v2 v3 h1 fun x5 h2 =>
 xLoad (some none) v4 h2 fun x6 => ifX (sameX x4 x6) (
  xBin (some (.int .i64)) .sub x2 x5 fun x7 =>
  xBin (some (.int .i64)) .add x4 x7 fun x8 =>
  xStore (some 1) v4 x8 h2 fun h3 =>
  k (.bool true) h3) false
noncomputable def bd71 (v0 v1 v2 v3 v4 : CV) (h : CH) (k : CV → CH → Bool) : Bool :=
 xBox 124 v1 h fun x1 h1 =>
 c71_1 v3 v2 x1 h1 v4 k
noncomputable abbrev ex71 : Ex := fun args h k => a5 args fun v0 v1 v2 v3 v4 => bd71 v0 v1 v2 v3 v4 h k
set_option maxRecDepth 100000 in
theorem sim71 : SimF Tryz.prog 71 ex71 := fun args h k hk => by
  obtain ⟨v0, v1, v2, v3, v4, rfl, hk⟩ := a5_ok hk
  exact sim_of (qf := (fun f => [46, 47, 62, 75, 82, 97, 104, 114, 121, 127, 128, 141, 151, 156, 157, 183].contains f)) (Z := zs) (C := [(72, ex72)]) (T := [(1, .ld ⟨[1, 2, 3, 4, 5, 6], 0, 7, [8, 9, 10]⟩)]) ⟨zerosB_ok zsOk, (exCons (by kernel_rfl) sim72 exNil)⟩ .nil Tryz.func71 _ h k (Eq.mp (by kernel_rfl : (bd71 v0 v1 v2 v3 v4 h k = true) = (xFn Tryz.prog (fun f => [46, 47, 62, 75, 82, 97, 104, 114, 121, 127, 128, 141, 151, 156, 157, 183].contains f) zs [(72, ex72)] [(1, .ld ⟨[1, 2, 3, 4, 5, 6], 0, 7, [8, 9, 10]⟩)] Tryz.f71 .nil [v0, v1, v2, v3, v4] h k = true)) hk)

/- undercroft/room.each -/
noncomputable abbrev c70_1 (k : CV → CH → Bool) (s4 : TupC 1) (K5 : TupC 1 → CH → Bool) (x20 : CV) (x26 : CV) (x14 : CV) (h7 : CH) (v1 : CV) : Bool :=
 xJoin (n := 1) (fun s26 h8 =>
  xIte s26.1
   (k (.int .i64 (.ofNat 0)) h8)
   (xBin (some (.int .i64)) .add s4.1 (.int .i64 (.ofNat 1)) fun x28 =>
   K5 (x28, ()) h8))
 (fun K28 => xBin (some (.int .i64)) .lss x20 x26 fun x30 =>
 xIte x30
  (xLoad (some (some 1024)) x14 h7 fun x31 =>
  xCallV [(114, ex114), (74, ex74), (158, ex158), (71, ex71)] v1 [s4.1, x31, x20, x26] h7 fun x32 h9 =>
  xUn .not x32 fun x33 =>
  K28 (x33, ()) h9)
  (K28 ((.bool false), ()) h7))
noncomputable abbrev c70_2 (x17 : CV) (x18 : CV) (x2 : CV) (h7 : CH) (s4 : TupC 1) (k : CV → CH → Bool) (K5 : TupC 1 → CH → Bool) (x14 : CV) (v1 : CV) : Bool :=
 xBin (some (.int .i64)) .sub x17 x18 fun x19 =>
 xMax x19 (.int .i64 (.ofNat 0)) fun x20 =>
 xAddr (some 0) x2 fun x21 =>
 xAddr (some 0) x21 fun x22 =>
 xLoad (some none) x22 h7 fun x23 =>
 xBin (some (.int .i64)) .mul s4.1 (.int .i64 (.ofNat 8192)) fun x24 =>
 xBin (some (.int .i64)) .sub x23 x24 fun x25 =>
 xMin x25 (.int .i64 (.ofNat 8192)) fun x26 =>
 c70_1 k s4 K5 x20 x26 x14 h7 v1
noncomputable abbrev c70_3 (x11 : CV) (h5 : CH) (x12 : CV) (k : CV → CH → Bool) (x2 : CV) (s4 : TupC 1) (K5 : TupC 1 → CH → Bool) (v1 : CV) : Bool :=
 xExtract x11 1 fun x13 =>
 xBoxP 124 [(.bytes 1024 0)] h5 fun x14 h6 =>
 xStore (some 1024) x14 x12 h6 fun h7 =>
 xBin (some (.int .i64)) .neq x13 (.int .i64 (.ofNat 0)) fun x15 =>
 xIte x15
  (k x13 h7)
  (xAddr (some 8) x2 fun x16 =>
  xLoad (some none) x16 h7 fun x17 =>
  xBin (some (.int .i64)) .mul s4.1 (.int .i64 (.ofNat 8192)) fun x18 =>
  c70_2 x17 x18 x2 h7 s4 k K5 x14 v1)
noncomputable abbrev c70_4 (x4 : CV) (x2 : CV) (v0 : CV) (k : CV → CH → Bool) (v1 : CV) (h3 : CH) : Bool :=
 xLoop (n := 1) (fun K5 s4 h4 =>
  xBin (some (.int .i64)) .lss s4.1 x4 fun x7 =>
  xIte x7
   (xAddr (some 6) x2 fun x8 =>
   xLoad (some none) x8 h4 fun x9 =>
   xBin (some (.int .i64)) .add x9 s4.1 fun x10 =>
   bd74 v0 x10 h4 fun x11 h5 =>
   xExtract x11 0 fun x12 =>
   c70_3 x11 h5 x12 k x2 s4 K5 v1)
   (k (.int .i64 (.ofNat 0)) h4)) 1000000 ((.int .i64 (.ofNat 0)), ()) h3
noncomputable abbrev c70_5 (h1 : CH) (x1 : CV) (v0 : CV) (k : CV → CH → Bool) (v1 : CV) : Bool :=
 xBoxP 58 [(.int .i64 (.ofNat 0)), (.int .i64 (.ofNat 0)), (.int .i64 (.ofNat 0)), (.int .i64 (.ofNat 0)), (.int .i64 (.ofNat 0)), (.int .i64 (.ofNat 0)), (.int .i64 (.ofNat 0)), (.int .i64 (.ofNat 0)), (.int .i64 (.ofNat 0))] h1 fun x2 h2 =>
 xStore (some 9) x2 x1 h2 fun h3 =>
 xAddr (some 7) x2 fun x3 =>
 xLoad (some none) x3 h3 fun x4 =>
 c70_4 x4 x2 v0 k v1 h3
noncomputable def bd70 (v0 v1 : CV) (h : CH) (k : CV → CH → Bool) : Bool :=
 bd114 v0 h fun x1 h1 =>
 c70_5 h1 x1 v0 k v1
noncomputable abbrev ex70 : Ex := fun args h k => a2 args fun v0 v1 => bd70 v0 v1 h k
set_option maxRecDepth 100000 in
theorem sim70 : SimF Tryz.prog 70 ex70 := fun args h k hk => by
  obtain ⟨v0, v1, rfl, hk⟩ := a2_ok hk
  exact sim_of (qf := (fun f => [46, 47, 62, 75, 82, 97, 104, 114, 121, 127, 128, 141, 151, 156, 157, 183].contains f)) (Z := zs) (C := [(114, ex114), (74, ex74), (158, ex158), (71, ex71)]) (T := []) ⟨zerosB_ok zsOk, (exCons (by kernel_rfl) sim114 (exCons (by kernel_rfl) sim74 (exCons (by kernel_rfl) sim158 (exCons (by kernel_rfl) sim71 exNil))))⟩ (.seq .nil (.seq .nil (.seq .nil (.seq (.seq .nil (.loop [15] [16, 17, 6, 19, 20, 21, 22, 23, 24, 18, 25, 26, 7, 8, 27, 28, 29, 4, 30, 31, 32, 33, 34, 35, 9, 36, 37, 38, 39, 40, 41, 42, 10, 43, 44, 45, 46, 47, 48, 49, 50, 51, 52, 53, 54, 55] (.seq .nil (.seq .nil (.seq (.seq .nil (.seq .nil (.seq .nil (.seq .nil (.seq .nil (.join [54] [43, 44, 45, 46, 47, 48, 49, 50, 51, 52, 53] .nil .nil)))))) .nil))))) .nil)))) Tryz.func70 _ h k (Eq.mp (by kernel_rfl : (bd70 v0 v1 h k = true) = (xFn Tryz.prog (fun f => [46, 47, 62, 75, 82, 97, 104, 114, 121, 127, 128, 141, 151, 156, 157, 183].contains f) zs [(114, ex114), (74, ex74), (158, ex158), (71, ex71)] [] Tryz.f70 (.seq .nil (.seq .nil (.seq .nil (.seq (.seq .nil (.loop [15] [16, 17, 6, 19, 20, 21, 22, 23, 24, 18, 25, 26, 7, 8, 27, 28, 29, 4, 30, 31, 32, 33, 34, 35, 9, 36, 37, 38, 39, 40, 41, 42, 10, 43, 44, 45, 46, 47, 48, 49, 50, 51, 52, 53, 54, 55] (.seq .nil (.seq .nil (.seq (.seq .nil (.seq .nil (.seq .nil (.seq .nil (.seq .nil (.join [54] [43, 44, 45, 46, 47, 48, 49, 50, 51, 52, 53] .nil .nil)))))) .nil))))) .nil)))) [v0, v1] h k = true)) hk)

/- undercroft/room.Free -/
noncomputable abbrev c32_1 (x2 : CV) (k : CV → CH → Bool) (x1 : CV) (h1 : CH) (v0 : CV) : Bool :=
 xIte x2
  (k (.tup [(.int .i64 (.ofNat 0)), x1]) h1)
  (xBoxP 3 [(.int .i64 (.ofNat 0))] h1 fun x3 h2 =>
  xStore (some 1) x3 (.int .i64 (.ofNat 0)) h2 fun h3 =>
  bd70 v0 (.fn 71 [] [x3]) h3 fun x4 h4 =>
  xBin (some (.int .i64)) .neq x4 (.int .i64 (.ofNat 0)) fun x5 =>
  xIte x5
   (k (.tup [(.int .i64 (.ofNat 0)), x4]) h4)
   (xLoad (some none) x3 h4 fun x6 =>
   k (.tup [x6, (.int .i64 (.ofNat 0))]) h4))
noncomputable def bd32 (v0 : CV) (h : CH) (k : CV → CH → Bool) : Bool :=
 bd69 v0 (.bool false) h fun x1 h1 =>
 xBin (some (.int .i64)) .neq x1 (.int .i64 (.ofNat 0)) fun x2 =>
 c32_1 x2 k x1 h1 v0
noncomputable abbrev ex32 : Ex := fun args h k => a1 args fun v0 => bd32 v0 h k
set_option maxRecDepth 100000 in
theorem sim32 : SimF Tryz.prog 32 ex32 := fun args h k hk => by
  obtain ⟨v0, rfl, hk⟩ := a1_ok hk
  exact sim_of (qf := (fun f => [46, 47, 62, 75, 82, 97, 104, 114, 121, 127, 128, 141, 151, 156, 157, 183].contains f)) (Z := zs) (C := [(69, ex69), (70, ex70)]) (T := []) ⟨zerosB_ok zsOk, (exCons (by kernel_rfl) sim69 (exCons (by kernel_rfl) sim70 exNil))⟩ .nil Tryz.func32 _ h k (Eq.mp (by kernel_rfl : (bd32 v0 h k = true) = (xFn Tryz.prog (fun f => [46, 47, 62, 75, 82, 97, 104, 114, 121, 127, 128, 141, 151, 156, 157, 183].contains f) zs [(69, ex69), (70, ex70)] [] Tryz.f32 .nil [v0] h k = true)) hk)

/- undercroft/bits.Set -/
noncomputable abbrev c160_1 (v1 : CV) (x1 : CV) (h5 : CH) (K5 : TupC 0 → CH → Bool) : Bool :=
 xBin (some (.int .i64)) .quo v1 (.int .i64 (.ofNat 8)) fun x8 =>
 xIdx (some (some 1024, 1)) x1 x8 fun x9 =>
 xLoad (some none) x9 h5 fun x10 =>
 xBin (some (.int .i64)) .rem v1 (.int .i64 (.ofNat 8)) fun x11 =>
 xBin (some (.int .u8)) .shl (.int .u8 (.ofNat 1)) x11 fun x12 =>
 xBin (some (.int .u8)) .or x10 x12 fun x13 =>
 xIdx (some (some 1024, 1)) x1 x8 fun x14 =>
 xStore (some 1) x14 x13 h5 fun h6 =>
 K5 (()) h6
noncomputable abbrev c160_2 (x1 : CV) (x15 : CV) (h5 : CH) (v1 : CV) (K5 : TupC 0 → CH → Bool) : Bool :=
 xIdx (some (some 1024, 1)) x1 x15 fun x16 =>
 xLoad (some none) x16 h5 fun x17 =>
 xBin (some (.int .i64)) .rem v1 (.int .i64 (.ofNat 8)) fun x18 =>
 xBin (some (.int .u8)) .shl (.int .u8 (.ofNat 1)) x18 fun x19 =>
 xBin (some (.int .u8)) .andNot x17 x19 fun x20 =>
 xIdx (some (some 1024, 1)) x1 x15 fun x21 =>
 xStore (some 1) x21 x20 h5 fun h7 =>
 K5 (()) h7
noncomputable abbrev c160_3 (K5 : TupC 0 → CH → Bool) (v2 : CV) (v1 : CV) (x1 : CV) (h2 : CH) : Bool :=
 xJoin (n := 1) (fun s6 h5 =>
  xIte s6.1
   (K5 (()) h5)
   (xIte v2
    (c160_1 v1 x1 h5 K5)
    (xBin (some (.int .i64)) .quo v1 (.int .i64 (.ofNat 8)) fun x15 =>
    c160_2 x1 x15 h5 v1 K5)))
 (fun K21 => xBin (some (.int .i64)) .lss v1 (.int .i64 (.ofNat 0)) fun x23 =>
 xIte x23
  (K21 ((.bool true), ()) h2)
  (xBin (some (.int .i64)) .geq v1 (.int .i64 (.ofNat 8192)) fun x24 =>
  K21 (x24, ()) h2))
noncomputable def bd160 (v0 v1 v2 : CV) (h : CH) (k : CV → CH → Bool) : Bool :=
 xBox 124 v0 h fun x1 h1 =>
 xBoxP 124 [(.bytes 1024 0)] h1 fun x2 h2 =>
 xJoin (n := 0) (fun s2 h3 =>
  xLoad (some (some 1024)) x1 h3 fun x4 =>
  xStore (some 1024) x2 x4 h3 fun h4 =>
  xLoad (some (some 1024)) x2 h4 fun x5 =>
  k x5 h4)
 (fun K5 => c160_3 K5 v2 v1 x1 h2)
noncomputable abbrev ex160 : Ex := fun args h k => a3 args fun v0 v1 v2 => bd160 v0 v1 v2 h k
set_option maxRecDepth 100000 in
theorem sim160 : SimF Tryz.prog 160 ex160 := fun args h k hk => by
  obtain ⟨v0, v1, v2, rfl, hk⟩ := a3_ok hk
  exact sim_of (qf := (fun f => [46, 47, 62, 75, 82, 97, 104, 114, 121, 127, 128, 141, 151, 156, 157, 183].contains f)) (Z := zs) (C := []) (T := []) ⟨zerosB_ok zsOk, exNil⟩ (.seq .nil (.join [] [17, 18, 19, 20, 21, 22, 16, 24, 23, 25, 26, 27, 28, 29, 30, 31, 32, 33, 7, 8, 9, 10, 11, 12, 13, 14, 15] (.join [16] [17, 18, 19, 20, 21, 22] .nil .nil) .nil)) Tryz.func160 _ h k (Eq.mp (by kernel_rfl : (bd160 v0 v1 v2 h k = true) = (xFn Tryz.prog (fun f => [46, 47, 62, 75, 82, 97, 104, 114, 121, 127, 128, 141, 151, 156, 157, 183].contains f) zs [] [] Tryz.f160 (.seq .nil (.join [] [17, 18, 19, 20, 21, 22, 16, 24, 23, 25, 26, 27, 28, 29, 30, 31, 32, 33, 7, 8, 9, 10, 11, 12, 13, 14, 15] (.join [16] [17, 18, 19, 20, 21, 22] .nil .nil) .nil)) [v0, v1, v2] h k = true)) hk)

/- (*undercroft/cache.Cache).Put -/
noncomputable abbrev c122_1 (s9 : TupC 1) (h3 : CH) (v0 : CV) (K15 : TupC 0 → CH → Bool) : Bool :=
 xNilCheck s9.1 fun x21 =>
 xAddr (some 1025) x21 fun x22 =>
 xStore (some 1) x22 (.bool true) h3 fun h7 =>
 xNilCheck v0 fun x23 =>
 xAddr (some 2) x23 fun x24 =>
 xLoad (some none) x24 h7 fun x25 =>
 xBin (some (.int .i64)) .add x25 (.int .i64 (.ofNat 1)) fun x26 =>
 xNilCheck v0 fun x27 =>
 xAddr (some 2) x27 fun x28 =>
 xStore (some 1) x28 x26 h7 fun h8 =>
 K15 (()) h8
noncomputable abbrev c122_2 (x1 : CV) (s9 : TupC 1) (v0 : CV) (k : CV → CH → Bool) (h3 : CH) : Bool :=
 xJoin (n := 0) (fun s10 h4 =>
  xLoad (some (some 1024)) x1 h4 fun x12 =>
  xNilCheck s9.1 fun x13 =>
  xAddr (some 1) x13 fun x14 =>
  xStore (some 1024) x14 x12 h4 fun h5 =>
  bd107 v0 s9.1 h5 fun x15 h6 =>
  k (.int .i64 (.ofNat 0)) h6)
 (fun K15 => xNilCheck s9.1 fun x17 =>
 xAddr (some 1025) x17 fun x18 =>
 xLoad (some none) x18 h3 fun x19 =>
 xUn .not x19 fun x20 =>
 xIte x20
  (c122_1 s9 h3 v0 K15)
  (K15 (()) h3))
noncomputable abbrev c122_3 (v1 : CV) (h10 : CH) (v0 : CV) (K28 : TupC 1 → CH → Bool) : Bool :=
 xBuild (some (.inl [(0, 1), (1, 1024), (1025, 1), (1026, 1), (1027, 1)])) (some (.agg [(.int .i64 (.ofNat 0)), (.bytes 1024 0), (.bool false), .nilp, .nilp])) [(0, v1)] fun x33 =>
 xBox 205 x33 h10 fun x34 h11 =>
 xNilCheck v0 fun x35 =>
 xAddr (some 1031) x35 fun x36 =>
 xLoad (some none) x36 h11 fun x37 =>
 xMapSet (some (3, .int .i64, 203)) x37 v1 x34 h11 fun h12 =>
 K28 (x34, ()) h12
noncomputable abbrev c122_4 (x6 : CV) (v1 : CV) (h2 : CH) (x1 : CV) (v0 : CV) (k : CV → CH → Bool) : Bool :=
 xLookup (some (3, .int .i64, 203)) (some .nilp) true x6 v1 h2 fun x7 =>
 xExtract x7 0 fun x8 =>
 xExtract x7 1 fun x9 =>
 xJoin (n := 1) (fun s9 h3 =>
  c122_2 x1 s9 v0 k h3)
 (fun K28 => xIte x9
  (bd106 x8 h2 fun x30 h9 =>
  K28 (x8, ()) h9)
  (bd108 v0 h2 fun x31 h10 =>
  xUn .not x31 fun x32 =>
  xIte x32
   (k (.int .i64 (.ofNat 160)) h10)
   (c122_3 v1 h10 v0 K28)))
noncomputable def bd122 (v0 v1 v2 : CV) (h : CH) (k : CV → CH → Bool) : Bool :=
 xBox 124 v2 h fun x1 h1 =>
 bd105 v0 v1 h1 fun x2 h2 =>
 xBin (some (.int .i64)) .neq x2 (.int .i64 (.ofNat 0)) fun x3 =>
 xIte x3
  (k x2 h2)
  (xNilCheck v0 fun x4 =>
  xAddr (some 1031) x4 fun x5 =>
  xLoad (some none) x5 h2 fun x6 =>
  c122_4 x6 v1 h2 x1 v0 k)
noncomputable abbrev ex122 : Ex := fun args h k => a3 args fun v0 v1 v2 => bd122 v0 v1 v2 h k
set_option maxRecDepth 100000 in
theorem sim122 : SimF Tryz.prog 122 ex122 := fun args h k hk => by
  obtain ⟨v0, v1, v2, rfl, hk⟩ := a3_ok hk
  exact sim_of (qf := (fun f => [46, 47, 62, 75, 82, 97, 104, 114, 121, 127, 128, 141, 151, 156, 157, 183].contains f)) (Z := zs) (C := [(105, ex105), (107, ex107), (106, ex106), (108, ex108)]) (T := []) ⟨zerosB_ok zsOk, (exCons (by kernel_rfl) sim105 (exCons (by kernel_rfl) sim107 (exCons (by kernel_rfl) sim106 (exCons (by kernel_rfl) sim108 exNil))))⟩ (.seq .nil (.seq .nil (.seq .nil (.join [8] [25, 26, 27, 28, 29, 30, 6, 31, 32, 33, 34, 35, 36, 37, 38, 39] .nil (.join [] [40, 41, 42, 43, 44, 45, 46, 47, 48, 49, 50, 51, 52, 53, 54] .nil .nil))))) Tryz.func122 _ h k (Eq.mp (by kernel_rfl : (bd122 v0 v1 v2 h k = true) = (xFn Tryz.prog (fun f => [46, 47, 62, 75, 82, 97, 104, 114, 121, 127, 128, 141, 151, 156, 157, 183].contains f) zs [(105, ex105), (107, ex107), (106, ex106), (108, ex108)] [] Tryz.f122 (.seq .nil (.seq .nil (.seq .nil (.join [8] [25, 26, 27, 28, 29, 30, 6, 31, 32, 33, 34, 35, 36, 37, 38, 39] .nil (.join [] [40, 41, 42, 43, 44, 45, 46, 47, 48, 49, 50, 51, 52, 53, 54] .nil .nil))))) [v0, v1, v2] h k = true)) hk)

/- (*undercroft/wal.group).add -/
noncomputable abbrev c123_1 (x11 : CV) (x12 : CV) (h3 : CH) (v0 : CV) (v1 : CV) (k : CV → CH → Bool) : Bool :=
 xApp (some (3, 1, 8, false)) x11 x12 h3 fun x13 h4 =>
 xNilCheck v0 fun x14 =>
 xAddr (some 0) x14 fun x15 =>
 xStore (some 1) x15 x13 h4 fun h5 =>
 xNilCheck v0 fun x16 =>
 xAddr (some 1) x16 fun x17 =>
 xLoad (some none) x17 h5 fun x18 =>
 xBuild (some (.inl [])) (some (.agg [])) [] fun x19 =>
 xMapSet (some (3, .int .i64, 223)) x18 v1 x19 h5 fun h6 =>
 k (.tup []) h6
noncomputable abbrev c123_2 (x4 : CV) (h : CH) (v0 : CV) (v1 : CV) (k : CV → CH → Bool) : Bool :=
 xExtract x4 0 fun x5 =>
 xExtract x4 1 fun x6 =>
 xBoxP 223 [] h fun x7 h1 =>
 xStore (some 0) x7 x5 h1 fun h2 =>
 xUn .not x6 fun x8 =>
 xIte x8
  (xNilCheck v0 fun x9 =>
  xAddr (some 0) x9 fun x10 =>
  xLoad (some none) x10 h2 fun x11 =>
  xNewS (some (3, 1, 8, false)) (some [(.int .i64 (.ofNat 0))]) 1 [(0, v1)] h2 fun x12 h3 =>
  c123_1 x11 x12 h3 v0 v1 k)
  (k (.tup []) h2)
noncomputable def bd123 (v0 v1 : CV) (h : CH) (k : CV → CH → Bool) : Bool :=
 xNilCheck v0 fun x1 =>
 xAddr (some 1) x1 fun x2 =>
 xLoad (some none) x2 h fun x3 =>
 xLookup (some (3, .int .i64, 223)) (some (.agg [])) true x3 v1 h fun x4 =>
 c123_2 x4 h v0 v1 k
noncomputable abbrev ex123 : Ex := fun args h k => a2 args fun v0 v1 => bd123 v0 v1 h k
set_option maxRecDepth 100000 in
theorem sim123 : SimF Tryz.prog 123 ex123 := fun args h k hk => by
  obtain ⟨v0, v1, rfl, hk⟩ := a2_ok hk
  exact sim_of (qf := (fun f => [46, 47, 62, 75, 82, 97, 104, 114, 121, 127, 128, 141, 151, 156, 157, 183].contains f)) (Z := zs) (C := []) (T := []) ⟨zerosB_ok zsOk, exNil⟩ .nil Tryz.func123 _ h k (Eq.mp (by kernel_rfl : (bd123 v0 v1 h k = true) = (xFn Tryz.prog (fun f => [46, 47, 62, 75, 82, 97, 104, 114, 121, 127, 128, 141, 151, 156, 157, 183].contains f) zs [] [] Tryz.f123 .nil [v0, v1] h k = true)) hk)

/- (*undercroft/wal.Log).Write -/
noncomputable abbrev c78_1 (x21 : CV) (k : CV → CH → Bool) (h7 : CH) (v0 : CV) (v1 : CV) : Bool :=
 xBin (some (.int .i64)) .neq x21 (.int .i64 (.ofNat 0)) fun x22 =>
 xIte x22
  (k x21 h7)
  (xNilCheck v0 fun x23 =>
  xAddr (some 16) x23 fun x24 =>
  xLoad (some none) x24 h7 fun x25 =>
  xBuild (some (.inl [])) (some (.agg [])) [] fun x26 =>
  xMapSet (some (3, .int .i64, 223)) x25 v1 x26 h7 fun h8 =>
  xNilCheck v0 fun x27 =>
  xAddr (some 0) x27 fun x28 =>
  bd123 x28 v1 h8 fun x29 h9 =>
  k (.int .i64 (.ofNat 0)) h9)
noncomputable abbrev c78_2 (k : CV → CH → Bool) (v0 : CV) (x1 : CV) (v1 : CV) (x14 : CV) (h5 : CH) : Bool :=
 xJoin (n := 1) (fun s15 h6 =>
  xIte s15.1
   (k (.int .i64 (.ofNat 181)) h6)
   (xNilCheck v0 fun x17 =>
   xAddr (some 3) x17 fun x18 =>
   xLoad (some none) x18 h6 fun x19 =>
   xLoad (some (some 1024)) x1 h6 fun x20 =>
   bd122 x19 v1 x20 h6 fun x21 h7 =>
   c78_1 x21 k h7 v0 v1))
 (fun K29 => xUn .not x14 fun x31 =>
 xIte x31
  (xNilCheck v0 fun x32 =>
  xAddr (some 16) x32 fun x33 =>
  xLoad (some none) x33 h5 fun x34 =>
  xMapLen x34 h5 fun x35 =>
  xNilCheck v0 fun x36 =>
  xAddr (some 15) x36 fun x37 =>
  xLoad (some none) x37 h5 fun x38 =>
  xBin (some (.int .i64)) .geq x35 x38 fun x39 =>
  K29 (x39, ()) h5)
  (K29 ((.bool false), ()) h5))
noncomputable abbrev c78_3 (s7 : TupC 1) (k : CV → CH → Bool) (h3 : CH) (v0 : CV) (v1 : CV) (x1 : CV) : Bool :=
 xIte s7.1
  (k (.int .i64 (.ofNat 2)) h3)
  (xNilCheck v0 fun x9 =>
  xAddr (some 16) x9 fun x10 =>
  xLoad (some none) x10 h3 fun x11 =>
  xLookup (some (3, .int .i64, 223)) (some (.agg [])) true x11 v1 h3 fun x12 =>
  xExtract x12 0 fun x13 =>
  xExtract x12 1 fun x14 =>
  xBoxP 223 [] h3 fun x15 h4 =>
  xStore (some 0) x15 x13 h4 fun h5 =>
  c78_2 k v0 x1 v1 x14 h5)
noncomputable abbrev c78_4 (v1 : CV) (K39 : TupC 1 → CH → Bool) (h2 : CH) (v0 : CV) : Bool :=
 xBin (some (.int .i64)) .lss v1 (.int .i64 (.ofNat 1)) fun x41 =>
 xIte x41
  (K39 ((.bool true), ()) h2)
  (xNilCheck v0 fun x42 =>
  xAddr (some 4) x42 fun x43 =>
  xAddr (some 0) x43 fun x44 =>
  xAddr (some 0) x44 fun x45 =>
  xLoad (some none) x45 h2 fun x46 =>
  xBin (some (.int .i64)) .geq v1 x46 fun x47 =>
  xIte x47
   (K39 ((.bool true), ()) h2)
   (bd119 v0 v1 h2 fun x48 h10 =>
   K39 (x48, ()) h10))
noncomputable abbrev c78_5 (v0 : CV) (h1 : CH) (k : CV → CH → Bool) (v1 : CV) (x1 : CV) : Bool :=
 bd26 v0 h1 fun x2 h2 =>
 xBin (some (.int .i64)) .neq x2 (.int .i64 (.ofNat 0)) fun x3 =>
 xIte x3
  (k x2 h2)
  (xNilCheck v0 fun x4 =>
  xAddr (some 14) x4 fun x5 =>
  xLoad (some none) x5 h2 fun x6 =>
  xUn .not x6 fun x7 =>
  xIte x7
   (k (.int .i64 (.ofNat 180)) h2)
   (xJoin (n := 1) (fun s7 h3 =>
    c78_3 s7 k h3 v0 v1 x1)
   (fun K39 => c78_4 v1 K39 h2 v0)))
noncomputable def bd78 (v0 v1 v2 : CV) (h : CH) (k : CV → CH → Bool) : Bool :=
 xBox 124 v2 h fun x1 h1 =>
 c78_5 v0 h1 k v1 x1
noncomputable abbrev ex78 : Ex := fun args h k => a3 args fun v0 v1 v2 => bd78 v0 v1 v2 h k
set_option maxRecDepth 100000 in
theorem sim78 : SimF Tryz.prog 78 ex78 := fun args h k hk => by
  obtain ⟨v0, v1, v2, rfl, hk⟩ := a3_ok hk
  exact sim_of (qf := (fun f => [46, 47, 62, 75, 82, 97, 104, 114, 121, 127, 128, 141, 151, 156, 157, 183].contains f)) (Z := zs) (C := [(26, ex26), (122, ex122), (123, ex123), (119, ex119)]) (T := []) ⟨zerosB_ok zsOk, (exCons (by kernel_rfl) sim26 (exCons (by kernel_rfl) sim122 (exCons (by kernel_rfl) sim123 (exCons (by kernel_rfl) sim119 exNil))))⟩ (.seq .nil (.seq (.seq .nil (.seq .nil (.cond .nil (.seq .nil (.cond .nil (.join [23] [24, 25, 26, 27, 28, 29, 30, 31, 32, 33, 34, 35, 36, 37, 38, 39, 40] .nil .nil)))))) (.seq (.seq .nil (.join [63] [50, 51, 52, 53, 54, 55, 56, 57, 58, 59, 60, 61, 62] .nil .nil)) .nil))) Tryz.func78 _ h k (Eq.mp (by kernel_rfl : (bd78 v0 v1 v2 h k = true) = (xFn Tryz.prog (fun f => [46, 47, 62, 75, 82, 97, 104, 114, 121, 127, 128, 141, 151, 156, 157, 183].contains f) zs [(26, ex26), (122, ex122), (123, ex123), (119, ex119)] [] Tryz.f78 (.seq .nil (.seq (.seq .nil (.seq .nil (.cond .nil (.seq .nil (.cond .nil (.join [23] [24, 25, 26, 27, 28, 29, 30, 31, 32, 33, 34, 35, 36, 37, 38, 39, 40] .nil .nil)))))) (.seq (.seq .nil (.join [63] [50, 51, 52, 53, 54, 55, 56, 57, 58, 59, 60, 61, 62] .nil .nil)) .nil))) [v0, v1, v2] h k = true)) hk)

/- undercroft/room.Take -/
noncomputable abbrev c118_1 (v0 : CV) (x20 : CV) (h8 : CH) (x4 : CV) (x13 : CV) (k : CV → CH → Bool) (x3 : CV) : Bool :=
 xBuild (some (.inr 1)) (some (.agg [(.bytes 1024 0)])) [] fun x21 =>
 bd78 v0 x20 x21 h8 fun x22 h9 =>
 xBin (some (.int .i64)) .neq x22 (.int .i64 (.ofNat 0)) fun x23 =>
 xIte x23
  (xLoad (some (some 1024)) x4 h9 fun x24 =>
  bd78 v0 x13 x24 h9 fun x25 h10 =>
  k (.tup [(.int .i64 (.ofNat 0)), x22]) h10)
  (xLoad (some none) x3 h9 fun x26 =>
  k (.tup [x26, (.int .i64 (.ofNat 0))]) h9)
noncomputable abbrev c118_2 (x3 : CV) (h6 : CH) (x14 : CV) (v0 : CV) (x13 : CV) (k : CV → CH → Bool) (x4 : CV) : Bool :=
 xLoad (some none) x3 h6 fun x15 =>
 xBin (some (.int .i64)) .rem x15 (.int .i64 (.ofNat 8192)) fun x16 =>
 bd160 x14 x16 (.bool true) h6 fun x17 h7 =>
 bd78 v0 x13 x17 h7 fun x18 h8 =>
 xBin (some (.int .i64)) .neq x18 (.int .i64 (.ofNat 0)) fun x19 =>
 xIte x19
  (k (.tup [(.int .i64 (.ofNat 0)), x18]) h8)
  (xLoad (some none) x3 h8 fun x20 =>
  c118_1 v0 x20 h8 x4 x13 k x3)
noncomputable abbrev c118_3 (x8 : CV) (k : CV → CH → Bool) (h5 : CH) (v0 : CV) (x3 : CV) (x4 : CV) : Bool :=
 xIte x8
  (k (.tup [(.int .i64 (.ofNat 0)), (.int .i64 (.ofNat 16))]) h5)
  (xQuiet (some ex114) [v0] h5 fun x9 h6 =>
  xField (some ((some none), 6)) x9 fun x10 =>
  xLoad (some none) x3 h6 fun x11 =>
  xBin (some (.int .i64)) .quo x11 (.int .i64 (.ofNat 8192)) fun x12 =>
  xBin (some (.int .i64)) .add x10 x12 fun x13 =>
  xLoad (some (some 1024)) x4 h6 fun x14 =>
  c118_2 x3 h6 x14 v0 x13 k x4)
noncomputable abbrev c118_4 (x3 : CV) (h2 : CH) (v0 : CV) (k : CV → CH → Bool) : Bool :=
 xStore (some 1) x3 (.int .i64 (.negSucc 0)) h2 fun h3 =>
 xBoxP 124 [(.bytes 1024 0)] h3 fun x4 h4 =>
 bd70 v0 (.fn 158 [] [x3, x4]) h4 fun x5 h5 =>
 xBin (some (.int .i64)) .neq x5 (.int .i64 (.ofNat 0)) fun x6 =>
 xIte x6
  (k (.tup [(.int .i64 (.ofNat 0)), x5]) h5)
  (xLoad (some none) x3 h5 fun x7 =>
  xBin (some (.int .i64)) .lss x7 (.int .i64 (.ofNat 0)) fun x8 =>
  c118_3 x8 k h5 v0 x3 x4)
noncomputable def bd118 (v0 : CV) (h : CH) (k : CV → CH → Bool) : Bool :=
 bd69 v0 (.bool true) h fun x1 h1 =>
 xBin (some (.int .i64)) .neq x1 (.int .i64 (.ofNat 0)) fun x2 =>
 xIte x2
  (k (.tup [(.int .i64 (.ofNat 0)), x1]) h1)
  (xBoxP 3 [(.int .i64 (.ofNat 0))] h1 fun x3 h2 =>
  c118_4 x3 h2 v0 k)
noncomputable abbrev ex118 : Ex := fun args h k => a1 args fun v0 => bd118 v0 h k
set_option maxRecDepth 100000 in
theorem sim118 : SimF Tryz.prog 118 ex118 := fun args h k hk => by
  obtain ⟨v0, rfl, hk⟩ := a1_ok hk
  exact sim_of (qf := (fun f => [46, 47, 62, 75, 82, 97, 104, 114, 121, 127, 128, 141, 151, 156, 157, 183].contains f)) (Z := zs) (C := [(69, ex69), (70, ex70), (114, ex114), (160, ex160), (78, ex78)]) (T := []) ⟨zerosB_ok zsOk, (exCons (by kernel_rfl) sim69 (exCons (by kernel_rfl) sim70 (exCons (by kernel_rfl) sim114 (exCons (by kernel_rfl) sim160 (exCons (by kernel_rfl) sim78 exNil)))))⟩ .nil Tryz.func118 _ h k (Eq.mp (by kernel_rfl : (bd118 v0 h k = true) = (xFn Tryz.prog (fun f => [46, 47, 62, 75, 82, 97, 104, 114, 121, 127, 128, 141, 151, 156, 157, 183].contains f) zs [(69, ex69), (70, ex70), (114, ex114), (160, ex160), (78, ex78)] [] Tryz.f118 .nil [v0] h k = true)) hk)

/- (*undercroft/chart.file).hang -/
noncomputable abbrev c73_1 (v0 : CV) (h5 : CH) (x14 : CV) (v2 : CV) (x5 : CV) (v1 : CV) (k : CV → CH → Bool) : Bool :=
 xNilCheck v0 fun x16 =>
 xAddr (some 0) x16 fun x17 =>
 xLoad (some none) x17 h5 fun x18 =>
 xLoad (some (some 1024)) x14 h5 fun x19 =>
 xBin (some (.int .i64)) .mul (.int .i64 (.ofNat 4)) v2 fun x20 =>
 xConv (some (.int .i64)) (some (.int .u32)) x5 fun x21 =>
 xQuiet (some ex82) [x19, x20, x21] h5 fun x22 h6 =>
 bd78 x18 v1 x22 h6 fun x23 h7 =>
 k (.tup [x5, x23]) h7
noncomputable abbrev c73_2 (x9 : CV) (h2 : CH) (v1 : CV) (k : CV → CH → Bool) (v0 : CV) (v2 : CV) (x5 : CV) : Bool :=
 xLoad (some none) x9 h2 fun x10 =>
 bd74 x10 v1 h2 fun x11 h3 =>
 xExtract x11 0 fun x12 =>
 xExtract x11 1 fun x13 =>
 xBoxP 124 [(.bytes 1024 0)] h3 fun x14 h4 =>
 xStore (some 1024) x14 x12 h4 fun h5 =>
 xBin (some (.int .i64)) .neq x13 (.int .i64 (.ofNat 0)) fun x15 =>
 xIte x15
  (k (.tup [(.int .i64 (.ofNat 0)), x13]) h5)
  (c73_1 v0 h5 x14 v2 x5 v1 k)
noncomputable abbrev c73_3 (k : CV → CH → Bool) (x5 : CV) (x6 : CV) (v0 : CV) (v1 : CV) (v2 : CV) (h1 : CH) : Bool :=
 xJoin (n := 1) (fun s6 h2 =>
  xIte s6.1
   (k (.tup [x5, x6]) h2)
   (xNilCheck v0 fun x8 =>
   xAddr (some 0) x8 fun x9 =>
   c73_2 x9 h2 v1 k v0 v2 x5))
 (fun K23 => xBin (some (.int .i64)) .neq x6 (.int .i64 (.ofNat 0)) fun x25 =>
 xIte x25
  (K23 ((.bool true), ()) h1)
  (xBin (some (.int .i64)) .eql v1 (.int .i64 (.ofNat 0)) fun x26 =>
  K23 (x26, ()) h1))
noncomputable def bd73 (v0 v1 v2 : CV) (h : CH) (k : CV → CH → Bool) : Bool :=
 xNilCheck v0 fun x1 =>
 xAddr (some 0) x1 fun x2 =>
 xLoad (some none) x2 h fun x3 =>
 bd118 x3 h fun x4 h1 =>
 xExtract x4 0 fun x5 =>
 xExtract x4 1 fun x6 =>
 c73_3 k x5 x6 v0 v1 v2 h1
noncomputable abbrev ex73 : Ex := fun args h k => a3 args fun v0 v1 v2 => bd73 v0 v1 v2 h k
set_option maxRecDepth 100000 in
theorem sim73 : SimF Tryz.prog 73 ex73 := fun args h k hk => by
  obtain ⟨v0, v1, v2, rfl, hk⟩ := a3_ok hk
  exact sim_of (qf := (fun f => [46, 47, 62, 75, 82, 97, 104, 114, 121, 127, 128, 141, 151, 156, 157, 183].contains f)) (Z := zs) (C := [(118, ex118), (74, ex74), (82, ex82), (78, ex78)]) (T := []) ⟨zerosB_ok zsOk, (exCons (by kernel_rfl) sim118 (exCons (by kernel_rfl) sim74 (exCons (by kernel_rfl) sim82 (exCons (by kernel_rfl) sim78 exNil))))⟩ (.seq .nil (.seq .nil (.seq (.join [24] [19, 20, 21, 22, 23] .nil .nil) .nil))) Tryz.func73 _ h k (Eq.mp (by kernel_rfl : (bd73 v0 v1 v2 h k = true) = (xFn Tryz.prog (fun f => [46, 47, 62, 75, 82, 97, 104, 114, 121, 127, 128, 141, 151, 156, 157, 183].contains f) zs [(118, ex118), (74, ex74), (82, ex82), (78, ex78)] [] Tryz.f73 (.seq .nil (.seq .nil (.seq (.join [24] [19, 20, 21, 22, 23] .nil .nil) .nil))) [v0, v1, v2] h k = true)) hk)

/- (*undercroft/chart.file).grow -/
noncomputable abbrev c34_1 (x16 : CV) (v4 : CV) (h5 : CH) (r34 : Ex) (v0 : CV) (s0 : TupC 1) (k : CV → CH → Bool) : Bool :=
 xConv (some (.int .u32)) (some (.int .i64)) x16 fun x17 =>
 xIdx (some (none, 1)) v4 (.int .i64 (.ofNat 0)) fun x18 =>
 xLoad (some none) x18 h5 fun x19 =>
 xSlice (some (none, 1)) v4 (some (.int .i64 (.ofNat 1))) none none fun x20 =>
 r34 [v0, x17, s0.1, x19, x20] h5 fun x21 h6 =>
 xExtract x21 0 fun x22 =>
 xExtract x21 1 fun x23 =>
 xExtract x21 2 fun x24 =>
 k (.tup [s0.1, x23, x24]) h6
noncomputable abbrev c34_2 (x11 : CV) (k : CV → CH → Bool) (x9 : CV) (h4 : CH) (x10 : CV) (v4 : CV) (r34 : Ex) (v0 : CV) (s0 : TupC 1) : Bool :=
 xIte x11
  (k (.tup [(.int .i64 (.ofNat 0)), (.int .i64 (.ofNat 0)), x9]) h4)
  (xLoad (some (some 1024)) x10 h4 fun x12 =>
  xIdx (some (none, 1)) v4 (.int .i64 (.ofNat 0)) fun x13 =>
  xLoad (some none) x13 h4 fun x14 =>
  xBin (some (.int .i64)) .mul (.int .i64 (.ofNat 4)) x14 fun x15 =>
  xQuiet (some ex75) [x12, x15] h4 fun x16 h5 =>
  c34_1 x16 v4 h5 r34 v0 s0 k)
noncomputable abbrev c34_3 (x3 : CV) (k : CV → CH → Bool) (s0 : TupC 1) (h1 : CH) (v0 : CV) (v4 : CV) (r34 : Ex) : Bool :=
 xIte x3
  (k (.tup [s0.1, s0.1, (.int .i64 (.ofNat 0))]) h1)
  (xNilCheck v0 fun x4 =>
  xAddr (some 0) x4 fun x5 =>
  xLoad (some none) x5 h1 fun x6 =>
  bd74 x6 s0.1 h1 fun x7 h2 =>
  xExtract x7 0 fun x8 =>
  xExtract x7 1 fun x9 =>
  xBoxP 124 [(.bytes 1024 0)] h2 fun x10 h3 =>
  xStore (some 1024) x10 x8 h3 fun h4 =>
  xBin (some (.int .i64)) .neq x9 (.int .i64 (.ofNat 0)) fun x11 =>
  c34_2 x11 k x9 h4 x10 v4 r34 v0 s0)
noncomputable def bd34 (r34 : Ex) (v0 v1 v2 v3 v4 : CV) (h : CH) (k : CV → CH → Bool) : Bool :=
 xJoin (n := 1) (fun s0 h1 =>
  xLen (some (.inl false)) v4 fun x2 =>
  xBin (some (.int .i64)) .eql x2 (.int .i64 (.ofNat 0)) fun x3 =>
  c34_3 x3 k s0 h1 v0 v4 r34)
 (fun K24 => xBin (some (.int .i64)) .eql v1 (.int .i64 (.ofNat 0)) fun x26 =>
 xIte x26
  (bd73 v0 v2 v3 h fun x27 h7 =>
  xExtract x27 0 fun x28 =>
  xExtract x27 1 fun x29 =>
  xBin (some (.int .i64)) .neq x29 (.int .i64 (.ofNat 0)) fun x30 =>
  xIte x30
   (k (.tup [(.int .i64 (.ofNat 0)), (.int .i64 (.ofNat 0)), x29]) h7)
   (K24 (x28, ()) h7))
  (K24 (v1, ()) h))
noncomputable def rc34 : Nat → Nat → Ex := fun n => Nat.rec (motive := fun _ => Nat → Ex) (fun _ _ _ _ => false) (fun _ ih j => match j with
  | 0 => fun args h k => a5 args (fun v0 v1 v2 v3 v4 => bd34 (ih 0) v0 v1 v2 v3 v4 h k)
  | _ => fun _ _ _ => false) n
set_option maxRecDepth 100000 in
theorem sr34 : ∀ n, SimF Tryz.prog 34 (rc34 n 0)
  | 0 => fun args h k hk => by cases hk
  | n + 1 => by
    have ih := sr34 n
    have i34 := ih
    · intro args h k hk
      obtain ⟨v0, v1, v2, v3, v4, rfl, hk⟩ := a5_ok hk
      exact sim_of (qf := (fun f => [46, 47, 62, 75, 82, 97, 104, 114, 121, 127, 128, 141, 151, 156, 157, 183].contains f)) (Z := zs) (C := [(34, rc34 n 0), (74, ex74), (75, ex75), (73, ex73)]) (T := []) ⟨zerosB_ok zsOk, (exCons (by kernel_rfl) i34 (exCons (by kernel_rfl) sim74 (exCons (by kernel_rfl) sim75 (exCons (by kernel_rfl) sim73 exNil))))⟩ (.seq .nil (.join [1] [19, 20, 22, 23, 24, 25, 21, 26, 27, 13, 14, 28, 29, 30, 10, 11, 12, 31] .nil .nil)) Tryz.func34 _ h k (Eq.mp (by kernel_rfl : (bd34 (rc34 n 0) v0 v1 v2 v3 v4 h k = true) = (xFn Tryz.prog (fun f => [46, 47, 62, 75, 82, 97, 104, 114, 121, 127, 128, 141, 151, 156, 157, 183].contains f) zs [(34, rc34 n 0), (74, ex74), (75, ex75), (73, ex73)] [] Tryz.f34 (.seq .nil (.join [1] [19, 20, 22, 23, 24, 25, 21, 26, 27, 13, 14, 28, 29, 30, 10, 11, 12, 31] .nil .nil)) [v0, v1, v2, v3, v4] h k = true)) hk)
noncomputable abbrev ex34 : Ex := rc34 1000 0
theorem sim34 : SimF Tryz.prog 34 ex34 := sr34 1000

/- undercroft/slab.SetU16 -/
noncomputable abbrev c121_1 (v2 : CV) (x1 : CV) (v1 : CV) (h5 : CH) (x8 : CV) (K5 : TupC 0 → CH → Bool) : Bool :=
 xConv (some (.int .u16)) (some (.int .u8)) v2 fun x9 =>
 xBin (some (.int .u16)) .shr v2 (.int .u64 (.ofNat 8)) fun x10 =>
 xConv (some (.int .u16)) (some (.int .u8)) x10 fun x11 =>
 xIdx (some (some 1024, 1)) x1 v1 fun x12 =>
 xStore (some 1) x12 x9 h5 fun h6 =>
 xIdx (some (some 1024, 1)) x1 x8 fun x13 =>
 xStore (some 1) x13 x11 h6 fun h7 =>
 K5 (()) h7
noncomputable abbrev c121_2 (h1 : CH) (x1 : CV) (k : CV → CH → Bool) (v1 : CV) (v2 : CV) : Bool :=
 xBoxP 124 [(.bytes 1024 0)] h1 fun x2 h2 =>
 xJoin (n := 0) (fun s2 h3 =>
  xLoad (some (some 1024)) x1 h3 fun x4 =>
  xStore (some 1024) x2 x4 h3 fun h4 =>
  xLoad (some (some 1024)) x2 h4 fun x5 =>
  k x5 h4)
 (fun K5 => bd120 v1 (.int .i64 (.ofNat 2)) h2 fun x7 h5 =>
 xIte x7
  (xBin (some (.int .i64)) .add v1 (.int .i64 (.ofNat 1)) fun x8 =>
  c121_1 v2 x1 v1 h5 x8 K5)
  (K5 (()) h5))
noncomputable def bd121 (v0 v1 v2 : CV) (h : CH) (k : CV → CH → Bool) : Bool :=
 xBox 124 v0 h fun x1 h1 =>
 c121_2 h1 x1 k v1 v2
noncomputable abbrev ex121 : Ex := fun args h k => a3 args fun v0 v1 v2 => bd121 v0 v1 v2 h k
set_option maxRecDepth 100000 in
theorem sim121 : SimF Tryz.prog 121 ex121 := fun args h k hk => by
  obtain ⟨v0, v1, v2, rfl, hk⟩ := a3_ok hk
  exact sim_of (qf := (fun f => [46, 47, 62, 75, 82, 97, 104, 114, 121, 127, 128, 141, 151, 156, 157, 183].contains f)) (Z := zs) (C := [(120, ex120)]) (T := []) ⟨zerosB_ok zsOk, (exCons (by kernel_rfl) sim120 exNil)⟩ (.seq .nil (.join [] [7, 8, 9, 10, 11, 12, 13, 14, 15, 16, 17, 18] .nil .nil)) Tryz.func121 _ h k (Eq.mp (by kernel_rfl : (bd121 v0 v1 v2 h k = true) = (xFn Tryz.prog (fun f => [46, 47, 62, 75, 82, 97, 104, 114, 121, 127, 128, 141, 151, 156, 157, 183].contains f) zs [(120, ex120)] [] Tryz.f121 (.seq .nil (.join [] [7, 8, 9, 10, 11, 12, 13, 14, 15, 16, 17, 18] .nil .nil)) [v0, v1, v2] h k = true)) hk)

/- undercroft/node.Encode -/
noncomputable abbrev c77_1 (x21 : CV) (s21 : TupC 1) (x7 : CV) (h12 : CH) (K22 : TupC 1 → CH → Bool) : Bool :=
 xIndex (some (some (10, (some none), 1))) x21 s21.1 fun x25 =>
 xLoad (some (some 1024)) x7 h12 fun x26 =>
 xBin (some (.int .i64)) .mul (.int .i64 (.ofNat 4)) s21.1 fun x27 =>
 xBin (some (.int .i64)) .add (.int .i64 (.ofNat 12)) x27 fun x28 =>
 bd82 x26 x28 x25 h12 fun x29 h13 =>
 xStore (some 1024) x7 x29 h13 fun h14 =>
 xBin (some (.int .i64)) .add s21.1 (.int .i64 (.ofNat 1)) fun x30 =>
 K22 (x30, ()) h14
noncomputable abbrev c77_2 (x36 : CV) (h16 : CH) (x35 : CV) (x7 : CV) (x2 : CV) (k : CV → CH → Bool) : Bool :=
 xLoad (some none) x36 h16 fun x37 =>
 bd82 x35 (.int .i64 (.ofNat 56)) x37 h16 fun x38 h17 =>
 xStore (some 1024) x7 x38 h17 fun h18 =>
 xSlice (some (some 1024, 1)) x7 none (some (.int .i64 (.ofNat 64))) none fun x39 =>
 xArr (some 64) x39 fun x40 =>
 xLoad (some (some 64)) x40 h18 fun x41 =>
 xStore (some 64) x2 x41 h18 fun h19 =>
 xLoad (some (some 64)) x2 h19 fun x42 =>
 k x42 h19
noncomputable abbrev c77_3 (x24 : CV) (x21 : CV) (s21 : TupC 1) (x7 : CV) (h12 : CH) (K22 : TupC 1 → CH → Bool) (x1 : CV) (x2 : CV) (k : CV → CH → Bool) : Bool :=
 xIte x24
  (c77_1 x21 s21 x7 h12 K22)
  (xLoad (some (some 1024)) x7 h12 fun x31 =>
  xAddr (some 14) x1 fun x32 =>
  xLoad (some none) x32 h12 fun x33 =>
  bd82 x31 (.int .i64 (.ofNat 52)) x33 h12 fun x34 h15 =>
  xStore (some 1024) x7 x34 h15 fun h16 =>
  xLoad (some (some 1024)) x7 h16 fun x35 =>
  xAddr (some 15) x1 fun x36 =>
  c77_2 x36 h16 x35 x7 x2 k)
noncomputable abbrev c77_4 (x16 : CV) (x18 : CV) (h9 : CH) (x7 : CV) (x1 : CV) (x2 : CV) (k : CV → CH → Bool) : Bool :=
 bd82 x16 (.int .i64 (.ofNat 8)) x18 h9 fun x19 h10 =>
 xStore (some 1024) x7 x19 h10 fun h11 =>
 xAddr (some 4) x1 fun x20 =>
 xLoad (some (some 10)) x20 h11 fun x21 =>
 xLoop (n := 1) (fun K22 s21 h12 =>
  xBin (some (.int .i64)) .lss s21.1 (.int .i64 (.ofNat 10)) fun x24 =>
  c77_3 x24 x21 s21 x7 h12 K22 x1 x2 k) 1000000 ((.int .i64 (.ofNat 0)), ()) h11
noncomputable abbrev c77_5 (x7 : CV) (x11 : CV) (h6 : CH) (x1 : CV) (x2 : CV) (k : CV → CH → Bool) : Bool :=
 xStore (some 1024) x7 x11 h6 fun h7 =>
 xLoad (some (some 1024)) x7 h7 fun x12 =>
 xAddr (some 2) x1 fun x13 =>
 xLoad (some none) x13 h7 fun x14 =>
 bd82 x12 (.int .i64 (.ofNat 4)) x14 h7 fun x15 h8 =>
 xStore (some 1024) x7 x15 h8 fun h9 =>
 xLoad (some (some 1024)) x7 h9 fun x16 =>
 xAddr (some 3) x1 fun x17 =>
 xLoad (some none) x17 h9 fun x18 =>
 c77_4 x16 x18 h9 x7 x1 x2 k
noncomputable abbrev c77_6 (x1 : CV) (h2 : CH) (x3 : CV) (x2 : CV) (k : CV → CH → Bool) : Bool :=
 xAddr (some 0) x1 fun x4 =>
 xLoad (some none) x4 h2 fun x5 =>
 bd121 x3 (.int .i64 (.ofNat 0)) x5 h2 fun x6 h3 =>
 xBoxP 124 [(.bytes 1024 0)] h3 fun x7 h4 =>
 xStore (some 1024) x7 x6 h4 fun h5 =>
 xLoad (some (some 1024)) x7 h5 fun x8 =>
 xAddr (some 1) x1 fun x9 =>
 xLoad (some none) x9 h5 fun x10 =>
 bd121 x8 (.int .i64 (.ofNat 2)) x10 h5 fun x11 h6 =>
 c77_5 x7 x11 h6 x1 x2 k
noncomputable def bd77 (v0 : CV) (h : CH) (k : CV → CH → Bool) : Bool :=
 xBox 99 v0 h fun x1 h1 =>
 xBoxP 173 [(.bytes 64 0)] h1 fun x2 h2 =>
 xBuild (some (.inr 1)) (some (.agg [(.bytes 1024 0)])) [] fun x3 =>
 c77_6 x1 h2 x3 x2 k
noncomputable abbrev ex77 : Ex := fun args h k => a1 args fun v0 => bd77 v0 h k
set_option maxRecDepth 100000 in
theorem sim77 : SimF Tryz.prog 77 ex77 := fun args h k hk => by
  obtain ⟨v0, rfl, hk⟩ := a1_ok hk
  exact sim_of (qf := (fun f => [46, 47, 62, 75, 82, 97, 104, 114, 121, 127, 128, 141, 151, 156, 157, 183].contains f)) (Z := zs) (C := [(121, ex121), (82, ex82)]) (T := []) ⟨zerosB_ok zsOk, (exCons (by kernel_rfl) sim121 (exCons (by kernel_rfl) sim82 exNil))⟩ (.seq .nil (.seq .nil (.seq .nil (.seq .nil (.seq .nil (.seq (.seq .nil (.loop [24] [25, 26, 27, 4, 5, 28, 29, 30, 31, 32, 33, 34] .nil)) .nil)))))) Tryz.func77 _ h k (Eq.mp (by kernel_rfl : (bd77 v0 h k = true) = (xFn Tryz.prog (fun f => [46, 47, 62, 75, 82, 97, 104, 114, 121, 127, 128, 141, 151, 156, 157, 183].contains f) zs [(121, ex121), (82, ex82)] [] Tryz.f77 (.seq .nil (.seq .nil (.seq .nil (.seq .nil (.seq .nil (.seq (.seq .nil (.loop [24] [25, 26, 27, 4, 5, 28, 29, 30, 31, 32, 33, 34] .nil)) .nil)))))) [v0] h k = true)) hk)

/- undercroft/rack.Write -/
noncomputable abbrev c35_1 (x16 : CV) (h7 : CH) (x14 : CV) (x8 : CV) (v0 : CV) (x7 : CV) (k : CV → CH → Bool) : Bool :=
 bd77 x16 h7 fun x17 h8 =>
 xBoxP 173 [(.bytes 64 0)] h8 fun x18 h9 =>
 xStore (some 64) x18 x17 h9 fun h10 =>
 xSlice (some (some 1024, 1)) x14 (some x8) none none fun x19 =>
 xSlice (some (some 64, 1)) x18 none none none fun x20 =>
 xCopy (some (5, 1, 1, true)) x19 x20 h10 fun x21 h11 =>
 xLoad (some (some 1024)) x14 h11 fun x22 =>
 bd78 v0 x7 x22 h11 fun x23 h12 =>
 k x23 h12
noncomputable abbrev c35_2 (x10 : CV) (k : CV → CH → Bool) (h4 : CH) (v0 : CV) (x7 : CV) (x1 : CV) (x8 : CV) : Bool :=
 xIte x10
  (k (.int .i64 (.ofNat 2)) h4)
  (bd74 v0 x7 h4 fun x11 h5 =>
  xExtract x11 0 fun x12 =>
  xExtract x11 1 fun x13 =>
  xBoxP 124 [(.bytes 1024 0)] h5 fun x14 h6 =>
  xStore (some 1024) x14 x12 h6 fun h7 =>
  xBin (some (.int .i64)) .neq x13 (.int .i64 (.ofNat 0)) fun x15 =>
  xIte x15
   (k x13 h7)
   (xLoad (some (some 16)) x1 h7 fun x16 =>
   c35_1 x16 h7 x14 x8 v0 x7 k))
noncomputable abbrev c35_3 (v0 : CV) (h1 : CH) (k : CV → CH → Bool) (v1 : CV) (x1 : CV) : Bool :=
 bd26 v0 h1 fun x2 h2 =>
 xBin (some (.int .i64)) .neq x2 (.int .i64 (.ofNat 0)) fun x3 =>
 xIte x3
  (k x2 h2)
  (bd65 v0 h2 fun x4 h3 =>
  xUn .not x4 fun x5 =>
  xIte x5
   (k (.int .i64 (.ofNat 180)) h3)
   (bd76 v0 v1 h3 fun x6 h4 =>
   xExtract x6 0 fun x7 =>
   xExtract x6 1 fun x8 =>
   xExtract x6 2 fun x9 =>
   xUn .not x9 fun x10 =>
   c35_2 x10 k h4 v0 x7 x1 x8))
noncomputable def bd35 (v0 v1 v2 : CV) (h : CH) (k : CV → CH → Bool) : Bool :=
 xBox 99 v2 h fun x1 h1 =>
 c35_3 v0 h1 k v1 x1
noncomputable abbrev ex35 : Ex := fun args h k => a3 args fun v0 v1 v2 => bd35 v0 v1 v2 h k
set_option maxRecDepth 100000 in
theorem sim35 : SimF Tryz.prog 35 ex35 := fun args h k hk => by
  obtain ⟨v0, v1, v2, rfl, hk⟩ := a3_ok hk
  exact sim_of (qf := (fun f => [46, 47, 62, 75, 82, 97, 104, 114, 121, 127, 128, 141, 151, 156, 157, 183].contains f)) (Z := zs) (C := [(26, ex26), (65, ex65), (76, ex76), (74, ex74), (77, ex77), (78, ex78)]) (T := []) ⟨zerosB_ok zsOk, (exCons (by kernel_rfl) sim26 (exCons (by kernel_rfl) sim65 (exCons (by kernel_rfl) sim76 (exCons (by kernel_rfl) sim74 (exCons (by kernel_rfl) sim77 (exCons (by kernel_rfl) sim78 exNil))))))⟩ .nil Tryz.func35 _ h k (Eq.mp (by kernel_rfl : (bd35 v0 v1 v2 h k = true) = (xFn Tryz.prog (fun f => [46, 47, 62, 75, 82, 97, 104, 114, 121, 127, 128, 141, 151, 156, 157, 183].contains f) zs [(26, ex26), (65, ex65), (76, ex76), (74, ex74), (77, ex77), (78, ex78)] [] Tryz.f35 .nil [v0, v1, v2] h k = true)) hk)

/- undercroft/chart.Map -/
noncomputable abbrev c11_1 (x32 : CV) (x30 : CV) (h8 : CH) (x2 : CV) (v0 : CV) (v1 : CV) (k : CV → CH → Bool) (x21 : CV) : Bool :=
 xAddr (some 3) x32 fun x33 =>
 xStore (some 1) x33 x30 h8 fun h9 =>
 xNilCheck x2 fun x34 =>
 xAddr (some 2) x34 fun x35 =>
 xLoad (some (some 16)) x35 h9 fun x36 =>
 bd35 v0 v1 x36 h9 fun x37 h10 =>
 xBin (some (.int .i64)) .neq x37 (.int .i64 (.ofNat 0)) fun x38 =>
 xIte x38
  (k (.tup [(.int .i64 (.ofNat 0)), x37]) h10)
  (k (.tup [x21, (.int .i64 (.ofNat 0))]) h10)
noncomputable abbrev c11_2 (x47 : CV) (x20 : CV) (x2 : CV) (h7 : CH) (K38 : TupC 0 → CH → Bool) : Bool :=
 xIte x47
  (xConv (some (.int .i64)) (some (.int .u32)) x20 fun x48 =>
  xNilCheck x2 fun x49 =>
  xAddr (some 2) x49 fun x50 =>
  xAddr (some 14) x50 fun x51 =>
  xStore (some 1) x51 x48 h7 fun h12 =>
  K38 (()) h12)
  (xConv (some (.int .i64)) (some (.int .u32)) x20 fun x52 =>
  xNilCheck x2 fun x53 =>
  xAddr (some 2) x53 fun x54 =>
  xAddr (some 15) x54 fun x55 =>
  xStore (some 1) x55 x52 h7 fun h13 =>
  K38 (()) h13)
noncomputable abbrev c11_3 (x40 : CV) (x20 : CV) (x2 : CV) (v2 : CV) (h7 : CH) (K38 : TupC 0 → CH → Bool) : Bool :=
 xBin (some (.int .i64)) .eql x40 (.int .i64 (.ofNat 0)) fun x41 =>
 xIte x41
  (xConv (some (.int .i64)) (some (.int .u32)) x20 fun x42 =>
  xNilCheck x2 fun x43 =>
  xAddr (some 2) x43 fun x44 =>
  xAddr (some 4) x44 fun x45 =>
  xIdx (some (some 10, 1)) x45 v2 fun x46 =>
  xStore (some 1) x46 x42 h7 fun h11 =>
  K38 (()) h11)
  (xBin (some (.int .i64)) .eql x40 (.int .i64 (.ofNat 1)) fun x47 =>
  c11_2 x47 x20 x2 h7 K38)
noncomputable abbrev c11_4 (x2 : CV) (x8 : CV) (v0 : CV) (v1 : CV) (k : CV → CH → Bool) (x21 : CV) (x18 : CV) (x20 : CV) (v2 : CV) (h7 : CH) : Bool :=
 xJoin (n := 0) (fun s23 h8 =>
  xNilCheck x2 fun x25 =>
  xAddr (some 2) x25 fun x26 =>
  xAddr (some 3) x26 fun x27 =>
  xLoad (some none) x27 h8 fun x28 =>
  xConv (some (.int .i64)) (some (.int .u32)) x8 fun x29 =>
  xBin (some (.int .u32)) .add x28 x29 fun x30 =>
  xNilCheck x2 fun x31 =>
  xAddr (some 2) x31 fun x32 =>
  c11_1 x32 x30 h8 x2 v0 v1 k x21)
 (fun K38 => xLen (some (.inl false)) x18 fun x40 =>
 c11_3 x40 x20 x2 v2 h7 K38)
noncomputable abbrev c11_5 (x16 : CV) (x2 : CV) (x17 : CV) (h6 : CH) (k : CV → CH → Bool) (x8 : CV) (v0 : CV) (v1 : CV) (v2 : CV) : Bool :=
 xExtract x16 1 fun x18 =>
 ex34 [x2, x17, (.int .i64 (.ofNat 0)), (.int .i64 (.ofNat 0)), x18] h6 fun x19 h7 =>
 xExtract x19 0 fun x20 =>
 xExtract x19 1 fun x21 =>
 xExtract x19 2 fun x22 =>
 xBin (some (.int .i64)) .neq x22 (.int .i64 (.ofNat 0)) fun x23 =>
 xIte x23
  (k (.tup [(.int .i64 (.ofNat 0)), x22]) h7)
  (c11_4 x2 x8 v0 v1 k x21 x18 x20 v2 h7)
noncomputable abbrev c11_6 (x11 : CV) (k : CV → CH → Bool) (h5 : CH) (x12 : CV) (x8 : CV) (x2 : CV) (v2 : CV) (v0 : CV) (v1 : CV) : Bool :=
 xExtract x11 1 fun x13 =>
 xBin (some (.int .i64)) .neq x13 (.int .i64 (.ofNat 0)) fun x14 =>
 xIte x14
  (k (.tup [(.int .i64 (.ofNat 0)), x13]) h5)
  (xBin (some (.int .i64)) .lss x12 x8 fun x15 =>
  xIte x15
   (k (.tup [(.int .i64 (.ofNat 0)), (.int .i64 (.ofNat 16))]) h5)
   (bd33 x2 v2 h5 fun x16 h6 =>
   xExtract x16 0 fun x17 =>
   c11_5 x16 x2 x17 h6 k x8 v0 v1 v2))
noncomputable abbrev c11_7 (k : CV → CH → Bool) (x7 : CV) (x9 : CV) (v0 : CV) (x8 : CV) (x2 : CV) (v2 : CV) (v1 : CV) (h3 : CH) : Bool :=
 xJoin (n := 1) (fun s9 h4 =>
  xIte s9.1
   (k (.tup [x7, x9]) h4)
   (bd32 v0 h4 fun x11 h5 =>
   xExtract x11 0 fun x12 =>
   c11_6 x11 k h5 x12 x8 x2 v2 v0 v1))
 (fun K55 => xBin (some (.int .i64)) .neq x9 (.int .i64 (.ofNat 0)) fun x57 =>
 xIte x57
  (K55 ((.bool true), ()) h3)
  (xBin (some (.int .i64)) .neq x7 (.int .i64 (.ofNat 0)) fun x58 =>
  K55 (x58, ()) h3))
noncomputable abbrev c11_8 (k : CV → CH → Bool) (x2 : CV) (v2 : CV) (v0 : CV) (v1 : CV) (h1 : CH) : Bool :=
 xJoin (n := 1) (fun s4 h2 =>
  xIte s4.1
   (k (.tup [(.int .i64 (.ofNat 0)), (.int .i64 (.ofNat 2))]) h2)
   (bd29 x2 v2 h2 fun x6 h3 =>
   xExtract x6 0 fun x7 =>
   xExtract x6 1 fun x8 =>
   xExtract x6 2 fun x9 =>
   c11_7 k x7 x9 v0 x8 x2 v2 v1 h3))
 (fun K58 => xBin (some (.int .i64)) .lss v2 (.int .i64 (.ofNat 0)) fun x60 =>
 xIte x60
  (K58 ((.bool true), ()) h1)
  (xBin (some (.int .i64)) .geq v2 (.int .i64 (.ofNat 65802)) fun x61 =>
  K58 (x61, ()) h1))
noncomputable def bd11 (v0 v1 v2 : CV) (h : CH) (k : CV → CH → Bool) : Bool :=
 bd28 v0 v1 (.bool true) h fun x1 h1 =>
 xExtract x1 0 fun x2 =>
 xExtract x1 1 fun x3 =>
 xBin (some (.int .i64)) .neq x3 (.int .i64 (.ofNat 0)) fun x4 =>
 xIte x4
  (k (.tup [(.int .i64 (.ofNat 0)), x3]) h1)
  (c11_8 k x2 v2 v0 v1 h1)
noncomputable abbrev ex11 : Ex := fun args h k => a3 args fun v0 v1 v2 => bd11 v0 v1 v2 h k
set_option maxRecDepth 100000 in
theorem sim11 : SimF Tryz.prog 11 ex11 := fun args h k hk => by
  obtain ⟨v0, v1, v2, rfl, hk⟩ := a3_ok hk
  exact sim_of (qf := (fun f => [46, 47, 62, 75, 82, 97, 104, 114, 121, 127, 128, 141, 151, 156, 157, 183].contains f)) (Z := zs) (C := [(28, ex28), (29, ex29), (32, ex32), (33, ex33), (34, ex34), (35, ex35)]) (T := []) ⟨zerosB_ok zsOk, (exCons (by kernel_rfl) sim28 (exCons (by kernel_rfl) sim29 (exCons (by kernel_rfl) sim32 (exCons (by kernel_rfl) sim33 (exCons (by kernel_rfl) sim34 (exCons (by kernel_rfl) sim35 exNil))))))⟩ (.seq .nil (.seq .nil (.seq .nil (.seq (.join [32] [27, 28, 29, 30, 31] .nil .nil) (.seq .nil (.seq (.join [45] [40, 41, 42, 43, 44] .nil .nil) (.seq .nil (.seq .nil (.seq .nil (.seq .nil (.seq .nil (.seq .nil (.join [] [76, 77, 85, 84, 86, 87, 88, 89, 90, 91, 92, 93, 95, 94, 96, 97, 98, 99, 100, 101, 78, 79, 80, 81, 82, 83] .nil .nil))))))))))))) Tryz.func11 _ h k (Eq.mp (by kernel_rfl : (bd11 v0 v1 v2 h k = true) = (xFn Tryz.prog (fun f => [46, 47, 62, 75, 82, 97, 104, 114, 121, 127, 128, 141, 151, 156, 157, 183].contains f) zs [(28, ex28), (29, ex29), (32, ex32), (33, ex33), (34, ex34), (35, ex35)] [] Tryz.f11 (.seq .nil (.seq .nil (.seq .nil (.seq (.join [32] [27, 28, 29, 30, 31] .nil .nil) (.seq .nil (.seq (.join [45] [40, 41, 42, 43, 44] .nil .nil) (.seq .nil (.seq .nil (.seq .nil (.seq .nil (.seq .nil (.seq .nil (.join [] [76, 77, 85, 84, 86, 87, 88, 89, 90, 91, 92, 93, 95, 94, 96, 97, 98, 99, 100, 101, 78, 79, 80, 81, 82, 83] .nil .nil))))))))))))) [v0, v1, v2] h k = true)) hk)

/- undercroft/chart.At -/
noncomputable abbrev c9_1 (k : CV → CH → Bool) (x2 : CV) (v2 : CV) (h1 : CH) : Bool :=
 xJoin (n := 1) (fun s4 h2 =>
  xIte s4.1
   (k (.tup [(.int .i64 (.ofNat 0)), (.int .i64 (.ofNat 2))]) h2)
   (bd29 x2 v2 h2 fun x6 h3 =>
   xExtract x6 0 fun x7 =>
   xExtract x6 1 fun x8 =>
   xExtract x6 2 fun x9 =>
   k (.tup [x7, x9]) h3))
 (fun K9 => xBin (some (.int .i64)) .lss v2 (.int .i64 (.ofNat 0)) fun x11 =>
 xIte x11
  (K9 ((.bool true), ()) h1)
  (xBin (some (.int .i64)) .geq v2 (.int .i64 (.ofNat 65802)) fun x12 =>
  K9 (x12, ()) h1))
noncomputable def bd9 (v0 v1 v2 : CV) (h : CH) (k : CV → CH → Bool) : Bool :=
 bd28 v0 v1 (.bool false) h fun x1 h1 =>
 xExtract x1 0 fun x2 =>
 xExtract x1 1 fun x3 =>
 xBin (some (.int .i64)) .neq x3 (.int .i64 (.ofNat 0)) fun x4 =>
 xIte x4
  (k (.tup [(.int .i64 (.ofNat 0)), x3]) h1)
  (c9_1 k x2 v2 h1)
noncomputable abbrev ex9 : Ex := fun args h k => a3 args fun v0 v1 v2 => bd9 v0 v1 v2 h k
set_option maxRecDepth 100000 in
theorem sim9 : SimF Tryz.prog 9 ex9 := fun args h k hk => by
  obtain ⟨v0, v1, v2, rfl, hk⟩ := a3_ok hk
  exact sim_of (qf := (fun f => [46, 47, 62, 75, 82, 97, 104, 114, 121, 127, 128, 141, 151, 156, 157, 183].contains f)) (Z := zs) (C := [(28, ex28), (29, ex29)]) (T := []) ⟨zerosB_ok zsOk, (exCons (by kernel_rfl) sim28 (exCons (by kernel_rfl) sim29 exNil))⟩ (.seq .nil (.seq .nil (.seq .nil (.seq (.join [26] [21, 22, 23, 24, 25] .nil .nil) .nil)))) Tryz.func9 _ h k (Eq.mp (by kernel_rfl : (bd9 v0 v1 v2 h k = true) = (xFn Tryz.prog (fun f => [46, 47, 62, 75, 82, 97, 104, 114, 121, 127, 128, 141, 151, 156, 157, 183].contains f) zs [(28, ex28), (29, ex29)] [] Tryz.f9 (.seq .nil (.seq .nil (.seq .nil (.seq (.join [26] [21, 22, 23, 24, 25] .nil .nil) .nil)))) [v0, v1, v2] h k = true)) hk)

/- (*undercroft/wal.Log).End -/
noncomputable abbrev c16_1 (x7 : CV) (h1 : CH) (v0 : CV) (k : CV → CH → Bool) : Bool :=
 xAddr (some 14) x7 fun x8 =>
 xStore (some 1) x8 (.bool false) h1 fun h2 =>
 xNilCheck v0 fun x9 =>
 xAddr (some 18) x9 fun x10 =>
 xLoad (some none) x10 h2 fun x11 =>
 xBin (some (.int .i64)) .add x11 (.int .i64 (.ofNat 1)) fun x12 =>
 xNilCheck v0 fun x13 =>
 xAddr (some 18) x13 fun x14 =>
 xStore (some 1) x14 x12 h2 fun h3 =>
 k (.int .i64 (.ofNat 0)) h3
noncomputable def bd16 (v0 : CV) (h : CH) (k : CV → CH → Bool) : Bool :=
 bd26 v0 h fun x1 h1 =>
 xBin (some (.int .i64)) .neq x1 (.int .i64 (.ofNat 0)) fun x2 =>
 xIte x2
  (k x1 h1)
  (xNilCheck v0 fun x3 =>
  xAddr (some 14) x3 fun x4 =>
  xLoad (some none) x4 h1 fun x5 =>
  xUn .not x5 fun x6 =>
  xIte x6
   (k (.int .i64 (.ofNat 180)) h1)
   (xNilCheck v0 fun x7 =>
   c16_1 x7 h1 v0 k))
noncomputable abbrev ex16 : Ex := fun args h k => a1 args fun v0 => bd16 v0 h k
set_option maxRecDepth 100000 in
theorem sim16 : SimF Tryz.prog 16 ex16 := fun args h k hk => by
  obtain ⟨v0, rfl, hk⟩ := a1_ok hk
  exact sim_of (qf := (fun f => [46, 47, 62, 75, 82, 97, 104, 114, 121, 127, 128, 141, 151, 156, 157, 183].contains f)) (Z := zs) (C := [(26, ex26)]) (T := []) ⟨zerosB_ok zsOk, (exCons (by kernel_rfl) sim26 exNil)⟩ .nil Tryz.func16 _ h k (Eq.mp (by kernel_rfl : (bd16 v0 h k = true) = (xFn Tryz.prog (fun f => [46, 47, 62, 75, 82, 97, 104, 114, 121, 127, 128, 141, 151, 156, 157, 183].contains f) zs [(26, ex26)] [] Tryz.f16 .nil [v0] h k = true)) hk)

/- (*undercroft/chart.file).collect -/
noncomputable abbrev c79_1 (v4 : CV) (x25 : CV) (r79 : Ex) (v0 : CV) (s16 : TupC 2) (x23 : CV) (x24 : CV) (h9 : CH) (k : CV → CH → Bool) (K17 : TupC 2 → CH → Bool) : Bool :=
 xBin (some (.int .i64)) .add v4 x25 fun x26 =>
 r79 [v0, s16.1, x23, x24, x26] h9 fun x27 h10 =>
 xExtract x27 0 fun x28 =>
 xExtract x27 1 fun x29 =>
 xBin (some (.int .i64)) .neq x29 (.int .i64 (.ofNat 0)) fun x30 =>
 xIte x30
  (k (.tup [.nils, x29]) h10)
  (xBin (some (.int .i64)) .add s16.2.1 (.int .i64 (.ofNat 1)) fun x31 =>
  K17 (x28, x31, ()) h10)
noncomputable abbrev c79_2 (x14 : CV) (h8 : CH) (s16 : TupC 2) (v3 : CV) (s15 : TupC 1) (v4 : CV) (r79 : Ex) (v0 : CV) (k : CV → CH → Bool) (K17 : TupC 2 → CH → Bool) : Bool :=
 xLoad (some (some 1024)) x14 h8 fun x20 =>
 xBin (some (.int .i64)) .mul (.int .i64 (.ofNat 4)) s16.2.1 fun x21 =>
 bd75 x20 x21 h8 fun x22 h9 =>
 xConv (some (.int .u32)) (some (.int .i64)) x22 fun x23 =>
 xBin (some (.int .i64)) .sub v3 (.int .i64 (.ofNat 1)) fun x24 =>
 xBin (some (.int .i64)) .mul s16.2.1 s15.1 fun x25 =>
 c79_1 v4 x25 r79 v0 s16 x23 x24 h9 k K17
noncomputable abbrev c79_3 (x14 : CV) (v3 : CV) (v4 : CV) (r79 : Ex) (v0 : CV) (k : CV → CH → Bool) (v1 : CV) (h6 : CH) : Bool :=
 xJoin (n := 1) (fun s15 h7 =>
  xLoop (n := 2) (fun K17 s16 h8 =>
   xBin (some (.int .i64)) .lss s16.2.1 (.int .i64 (.ofNat 256)) fun x19 =>
   xIte x19
    (c79_2 x14 h8 s16 v3 s15 v4 r79 v0 k K17)
    (k (.tup [s16.1, (.int .i64 (.ofNat 0))]) h8)) 1000000 (v1, (.int .i64 (.ofNat 0)), ()) h7)
 (fun K31 => xBin (some (.int .i64)) .eql v3 (.int .i64 (.ofNat 2)) fun x33 =>
 xIte x33
  (K31 ((.int .i64 (.ofNat 256)), ()) h6)
  (K31 ((.int .i64 (.ofNat 1)), ()) h6))
noncomputable abbrev c79_4 (x8 : CV) (h1 : CH) (v2 : CV) (k : CV → CH → Bool) (v3 : CV) (v4 : CV) (r79 : Ex) (v0 : CV) (v1 : CV) : Bool :=
 xAddr (some 0) x8 fun x9 =>
 xLoad (some none) x9 h1 fun x10 =>
 bd74 x10 v2 h1 fun x11 h4 =>
 xExtract x11 0 fun x12 =>
 xExtract x11 1 fun x13 =>
 xBoxP 124 [(.bytes 1024 0)] h4 fun x14 h5 =>
 xStore (some 1024) x14 x12 h5 fun h6 =>
 xBin (some (.int .i64)) .neq x13 (.int .i64 (.ofNat 0)) fun x15 =>
 xIte x15
  (k (.tup [.nils, x13]) h6)
  (c79_3 x14 v3 v4 r79 v0 k v1 h6)
noncomputable abbrev c79_5 (x4 : CV) (v4 : CV) (v2 : CV) (h1 : CH) (v1 : CV) (k : CV → CH → Bool) (v0 : CV) (v3 : CV) (r79 : Ex) : Bool :=
 xIte x4
  (xBuild (some (.inl [(0, 1), (1, 1)])) (some (.agg [(.int .i64 (.ofNat 0)), (.int .i64 (.ofNat 0))])) [(0, v4), (1, v2)] fun x5 =>
  xNewS (some (107, 2, 16, false)) (some [(.int .i64 (.ofNat 0)), (.int .i64 (.ofNat 0))]) 1 [(0, x5)] h1 fun x6 h2 =>
  xApp (some (107, 2, 16, false)) v1 x6 h2 fun x7 h3 =>
  k (.tup [x7, (.int .i64 (.ofNat 0))]) h3)
  (xNilCheck v0 fun x8 =>
  c79_4 x8 h1 v2 k v3 v4 r79 v0 v1)
noncomputable def bd79 (r79 : Ex) (v0 v1 v2 v3 v4 : CV) (h : CH) (k : CV → CH → Bool) : Bool :=
 bd80 v0 v2 h fun x1 h1 =>
 xBin (some (.int .i64)) .neq x1 (.int .i64 (.ofNat 0)) fun x2 =>
 xIte x2
  (k (.tup [.nils, x1]) h1)
  (xBin (some (.int .i64)) .eql v2 (.int .i64 (.ofNat 0)) fun x3 =>
  xIte x3
   (k (.tup [v1, (.int .i64 (.ofNat 0))]) h1)
   (xBin (some (.int .i64)) .eql v3 (.int .i64 (.ofNat 0)) fun x4 =>
   c79_5 x4 v4 v2 h1 v1 k v0 v3 r79))
noncomputable def rc79 : Nat → Nat → Ex := fun n => Nat.rec (motive := fun _ => Nat → Ex) (fun _ _ _ _ => false) (fun _ ih j => match j with
  | 0 => fun args h k => a5 args (fun v0 v1 v2 v3 v4 => bd79 (ih 0) v0 v1 v2 v3 v4 h k)
  | _ => fun _ _ _ => false) n
set_option maxRecDepth 100000 in
theorem sr79 : ∀ n, SimF Tryz.prog 79 (rc79 n 0)
  | 0 => fun args h k hk => by cases hk
  | n + 1 => by
    have ih := sr79 n
    have i79 := ih
    · intro args h k hk
      obtain ⟨v0, v1, v2, v3, v4, rfl, hk⟩ := a5_ok hk
      exact sim_of (qf := (fun f => [46, 47, 62, 75, 82, 97, 104, 114, 121, 127, 128, 141, 151, 156, 157, 183].contains f)) (Z := zs) (C := [(79, rc79 n 0), (80, ex80), (74, ex74), (75, ex75)]) (T := []) ⟨zerosB_ok zsOk, (exCons (by kernel_rfl) i79 (exCons (by kernel_rfl) sim80 (exCons (by kernel_rfl) sim74 (exCons (by kernel_rfl) sim75 exNil))))⟩ (.seq .nil (.seq .nil (.seq .nil (.seq .nil (.seq .nil (.seq .nil (.seq .nil (.join [15] [46, 47] .nil (.seq (.seq .nil (.loop [1, 48] [49, 50, 16, 52, 53, 54, 55, 56, 57, 58, 59, 60, 61, 62, 63, 64, 65, 66, 51, 67, 68, 14, 69, 70, 71, 10, 11, 72] .nil)) .nil))))))))) Tryz.func79 _ h k (Eq.mp (by kernel_rfl : (bd79 (rc79 n 0) v0 v1 v2 v3 v4 h k = true) = (xFn Tryz.prog (fun f => [46, 47, 62, 75, 82, 97, 104, 114, 121, 127, 128, 141, 151, 156, 157, 183].contains f) zs [(79, rc79 n 0), (80, ex80), (74, ex74), (75, ex75)] [] Tryz.f79 (.seq .nil (.seq .nil (.seq .nil (.seq .nil (.seq .nil (.seq .nil (.seq .nil (.join [15] [46, 47] .nil (.seq (.seq .nil (.loop [1, 48] [49, 50, 16, 52, 53, 54, 55, 56, 57, 58, 59, 60, 61, 62, 63, 64, 65, 66, 51, 67, 68, 14, 69, 70, 71, 10, 11, 72] .nil)) .nil))))))))) [v0, v1, v2, v3, v4] h k = true)) hk)
noncomputable abbrev ex79 : Ex := rc79 1000 0
theorem sim79 : SimF Tryz.prog 79 ex79 := sr79 1000

/- (*undercroft/chart.file).all -/
noncomputable abbrev c36_1 (x8 : CV) (v0 : CV) (s4 : TupC 2) (h1 : CH) (k : CV → CH → Bool) (K5 : TupC 2 → CH → Bool) : Bool :=
 xConv (some (.int .u32)) (some (.int .i64)) x8 fun x9 =>
 ex79 [v0, s4.1, x9, (.int .i64 (.ofNat 0)), s4.2.1] h1 fun x10 h2 =>
 xExtract x10 0 fun x11 =>
 xExtract x10 1 fun x12 =>
 xBin (some (.int .i64)) .neq x12 (.int .i64 (.ofNat 0)) fun x13 =>
 xIte x13
  (k (.tup [.nils, x12]) h2)
  (xBin (some (.int .i64)) .add s4.2.1 (.int .i64 (.ofNat 1)) fun x14 =>
  K5 (x11, x14, ()) h2)
noncomputable abbrev c36_2 (x23 : CV) (k : CV → CH → Bool) (x22 : CV) (h3 : CH) (v0 : CV) (x21 : CV) : Bool :=
 xIte x23
  (k (.tup [.nils, x22]) h3)
  (xNilCheck v0 fun x24 =>
  xAddr (some 2) x24 fun x25 =>
  xAddr (some 15) x25 fun x26 =>
  xLoad (some none) x26 h3 fun x27 =>
  xConv (some (.int .u32)) (some (.int .i64)) x27 fun x28 =>
  ex79 [v0, x21, x28, (.int .i64 (.ofNat 2)), (.int .i64 (.ofNat 266))] h3 fun x29 h4 =>
  xExtract x29 0 fun x30 =>
  xExtract x29 1 fun x31 =>
  k (.tup [x30, x31]) h4)
noncomputable abbrev c36_3 (x16 : CV) (h1 : CH) (v0 : CV) (s4 : TupC 2) (k : CV → CH → Bool) : Bool :=
 xAddr (some 14) x16 fun x17 =>
 xLoad (some none) x17 h1 fun x18 =>
 xConv (some (.int .u32)) (some (.int .i64)) x18 fun x19 =>
 ex79 [v0, s4.1, x19, (.int .i64 (.ofNat 1)), (.int .i64 (.ofNat 10))] h1 fun x20 h3 =>
 xExtract x20 0 fun x21 =>
 xExtract x20 1 fun x22 =>
 xBin (some (.int .i64)) .neq x22 (.int .i64 (.ofNat 0)) fun x23 =>
 c36_2 x23 k x22 h3 v0 x21
noncomputable abbrev c36_4 (x3 : CV) (h : CH) (v0 : CV) (k : CV → CH → Bool) : Bool :=
 xLoad (some (some 10)) x3 h fun x4 =>
 xLoop (n := 2) (fun K5 s4 h1 =>
  xBin (some (.int .i64)) .lss s4.2.1 (.int .i64 (.ofNat 10)) fun x7 =>
  xIte x7
   (xIndex (some (some (10, (some none), 1))) x4 s4.2.1 fun x8 =>
   c36_1 x8 v0 s4 h1 k K5)
   (xNilCheck v0 fun x15 =>
   xAddr (some 2) x15 fun x16 =>
   c36_3 x16 h1 v0 s4 k)) 1000000 (.nils, (.int .i64 (.ofNat 0)), ()) h
noncomputable def bd36 (v0 : CV) (h : CH) (k : CV → CH → Bool) : Bool :=
 xNilCheck v0 fun x1 =>
 xAddr (some 2) x1 fun x2 =>
 xAddr (some 4) x2 fun x3 =>
 c36_4 x3 h v0 k
noncomputable abbrev ex36 : Ex := fun args h k => a1 args fun v0 => bd36 v0 h k
set_option maxRecDepth 100000 in
theorem sim36 : SimF Tryz.prog 36 ex36 := fun args h k hk => by
  obtain ⟨v0, rfl, hk⟩ := a1_ok hk
  exact sim_of (qf := (fun f => [46, 47, 62, 75, 82, 97, 104, 114, 121, 127, 128, 141, 151, 156, 157, 183].contains f)) (Z := zs) (C := [(79, ex79)]) (T := []) ⟨zerosB_ok zsOk, (exCons (by kernel_rfl) sim79 exNil)⟩ (.seq .nil (.seq .nil (.seq .nil (.seq (.seq .nil (.loop [4, 13] [14, 15, 16, 6, 7, 18, 19, 20, 21, 22, 23, 17, 24, 25, 5, 26, 27, 28, 2, 3, 29] .nil)) .nil)))) Tryz.func36 _ h k (Eq.mp (by kernel_rfl : (bd36 v0 h k = true) = (xFn Tryz.prog (fun f => [46, 47, 62, 75, 82, 97, 104, 114, 121, 127, 128, 141, 151, 156, 157, 183].contains f) zs [(79, ex79)] [] Tryz.f36 (.seq .nil (.seq .nil (.seq .nil (.seq (.seq .nil (.loop [4, 13] [14, 15, 16, 6, 7, 18, 19, 20, 21, 22, 23, 17, 24, 25, 5, 26, 27, 28, 2, 3, 29] .nil)) .nil)))) [v0] h k = true)) hk)

/- undercroft/chart.Last -/
noncomputable abbrev c12_1 (x10 : CV) (x7 : CV) (h2 : CH) (v2 : CV) (K15 : TupC 1 → CH → Bool) : Bool :=
 xBin (some (.int .i64)) .gtr x10 (.int .i64 (.ofNat 0)) fun x17 =>
 xIte x17
  (xBin (some (.int .i64)) .sub x10 (.int .i64 (.ofNat 1)) fun x18 =>
  xIdx (some (none, 2)) x7 x18 fun x19 =>
  xAddr (some 0) x19 fun x20 =>
  xLoad (some none) x20 h2 fun x21 =>
  xBin (some (.int .i64)) .geq x21 v2 fun x22 =>
  K15 (x22, ()) h2)
  (K15 ((.bool false), ()) h2)
noncomputable abbrev c12_2 (x10 : CV) (x7 : CV) (k : CV → CH → Bool) (h2 : CH) (v2 : CV) : Bool :=
 xJoin (n := 1) (fun s10 h3 =>
  xIte s10.1
   (xBin (some (.int .i64)) .sub x10 (.int .i64 (.ofNat 1)) fun x12 =>
   xIdx (some (none, 2)) x7 x12 fun x13 =>
   xAddr (some 0) x13 fun x14 =>
   xLoad (some none) x14 h3 fun x15 =>
   k (.tup [x15, (.int .i64 (.ofNat 0))]) h3)
   (k (.tup [(.int .i64 (.negSucc 0)), (.int .i64 (.ofNat 0))]) h3))
 (fun K15 => c12_1 x10 x7 h2 v2 K15)
noncomputable abbrev c12_3 (v2 : CV) (k : CV → CH → Bool) (h1 : CH) (x2 : CV) : Bool :=
 xBin (some (.int .i64)) .lss v2 (.int .i64 (.ofNat 0)) fun x5 =>
 xIte x5
  (k (.tup [(.int .i64 (.ofNat 0)), (.int .i64 (.ofNat 2))]) h1)
  (bd36 x2 h1 fun x6 h2 =>
  xExtract x6 0 fun x7 =>
  xExtract x6 1 fun x8 =>
  xBin (some (.int .i64)) .neq x8 (.int .i64 (.ofNat 0)) fun x9 =>
  xIte x9
   (k (.tup [(.int .i64 (.ofNat 0)), x8]) h2)
   (xLen (some (.inl false)) x7 fun x10 =>
   c12_2 x10 x7 k h2 v2))
noncomputable def bd12 (v0 v1 v2 : CV) (h : CH) (k : CV → CH → Bool) : Bool :=
 bd28 v0 v1 (.bool false) h fun x1 h1 =>
 xExtract x1 0 fun x2 =>
 xExtract x1 1 fun x3 =>
 xBin (some (.int .i64)) .neq x3 (.int .i64 (.ofNat 0)) fun x4 =>
 xIte x4
  (k (.tup [(.int .i64 (.ofNat 0)), x3]) h1)
  (c12_3 v2 k h1 x2)
noncomputable abbrev ex12 : Ex := fun args h k => a3 args fun v0 v1 v2 => bd12 v0 v1 v2 h k
set_option maxRecDepth 100000 in
theorem sim12 : SimF Tryz.prog 12 ex12 := fun args h k hk => by
  obtain ⟨v0, v1, v2, rfl, hk⟩ := a3_ok hk
  exact sim_of (qf := (fun f => [46, 47, 62, 75, 82, 97, 104, 114, 121, 127, 128, 141, 151, 156, 157, 183].contains f)) (Z := zs) (C := [(28, ex28), (36, ex36)]) (T := []) ⟨zerosB_ok zsOk, (exCons (by kernel_rfl) sim28 (exCons (by kernel_rfl) sim36 exNil))⟩ (.seq .nil (.seq .nil (.seq .nil (.seq .nil (.seq .nil (.seq .nil (.seq (.seq .nil (.join [44] [33, 34, 35, 36, 37, 38, 39, 40, 41, 42, 43] .nil .nil)) .nil))))))) Tryz.func12 _ h k (Eq.mp (by kernel_rfl : (bd12 v0 v1 v2 h k = true) = (xFn Tryz.prog (fun f => [46, 47, 62, 75, 82, 97, 104, 114, 121, 127, 128, 141, 151, 156, 157, 183].contains f) zs [(28, ex28), (36, ex36)] [] Tryz.f12 (.seq .nil (.seq .nil (.seq .nil (.seq .nil (.seq .nil (.seq .nil (.seq (.seq .nil (.join [44] [33, 34, 35, 36, 37, 38, 39, 40, 41, 42, 43] .nil .nil)) .nil))))))) [v0, v1, v2] h k = true)) hk)

/- undercroft/chart.All -/
noncomputable def bd14 (v0 v1 : CV) (h : CH) (k : CV → CH → Bool) : Bool :=
 xBoxP 103 [.nils] h fun x1 h1 =>
 bd28 v0 v1 (.bool false) h1 fun x2 h2 =>
 xExtract x2 0 fun x3 =>
 xExtract x2 1 fun x4 =>
 xBin (some (.int .i64)) .eql x4 (.int .i64 (.ofNat 0)) fun x5 =>
 xIte x5
  (bd36 x3 h2 fun x6 h3 =>
  xExtract x6 0 fun x7 =>
  xExtract x6 1 fun x8 =>
  xStore (some 1) x1 x7 h3 fun h4 =>
  k (.fn 37 [] [x1]) h4)
  (k (.fn 37 [] [x1]) h2)
noncomputable abbrev ex14 : Ex := fun args h k => a2 args fun v0 v1 => bd14 v0 v1 h k
set_option maxRecDepth 100000 in
theorem sim14 : SimF Tryz.prog 14 ex14 := fun args h k hk => by
  obtain ⟨v0, v1, rfl, hk⟩ := a2_ok hk
  exact sim_of (qf := (fun f => [46, 47, 62, 75, 82, 97, 104, 114, 121, 127, 128, 141, 151, 156, 157, 183].contains f)) (Z := zs) (C := [(28, ex28), (36, ex36)]) (T := []) ⟨zerosB_ok zsOk, (exCons (by kernel_rfl) sim28 (exCons (by kernel_rfl) sim36 exNil))⟩ .nil Tryz.func14 _ h k (Eq.mp (by kernel_rfl : (bd14 v0 v1 h k = true) = (xFn Tryz.prog (fun f => [46, 47, 62, 75, 82, 97, 104, 114, 121, 127, 128, 141, 151, 156, 157, 183].contains f) zs [(28, ex28), (36, ex36)] [] Tryz.f14 .nil [v0, v1] h k = true)) hk)

/- round 0 of undercroft/undercroftlaw12.over -/
noncomputable def rd130 : Ex := xRdN Tryz.prog (fun f => [46, 47, 62, 75, 82, 97, 104, 114, 121, 127, 128, 141, 151, 156, 157, 183].contains f) zs [] [] 130 .nil .nil
theorem simrd130 : SimRd Tryz.prog 130 rd130 := simRdN ⟨zerosB_ok zsOk, exNil⟩ (fun _ _ _ _ h => h)
/- undercroft/chart.All$1 -/
noncomputable abbrev c37_1 (h1 : CH) (x7 : CV) (v0 : CV) (k : CV → CH → Bool) (s2 : TupC 1) (K3 : TupC 1 → CH → Bool) : Bool :=
 xBoxP 107 [(.int .i64 (.ofNat 0)), (.int .i64 (.ofNat 0))] h1 fun x8 h2 =>
 xStore (some 2) x8 x7 h2 fun h3 =>
 xAddr (some 0) x8 fun x9 =>
 xLoad (some none) x9 h3 fun x10 =>
 xAddr (some 1) x8 fun x11 =>
 xLoad (some none) x11 h3 fun x12 =>
 xCallV [(1000130, rd130)] v0 [x10, x12] h3 fun x13 h4 =>
 xUn .not x13 fun x14 =>
 xIte x14
  (k (.tup []) h4)
  (xBin (some (.int .i64)) .add s2.1 (.int .i64 (.ofNat 1)) fun x15 =>
  K3 (x15, ()) h4)
noncomputable def bd37 (v0 v1 : CV) (h : CH) (k : CV → CH → Bool) : Bool :=
 xLoad (some none) v1 h fun x1 =>
 xLen (some (.inl false)) x1 fun x2 =>
 xLoop (n := 1) (fun K3 s2 h1 =>
  xBin (some (.int .i64)) .lss s2.1 x2 fun x5 =>
  xIte x5
   (xIdx (some (none, 2)) x1 s2.1 fun x6 =>
   xLoad (some (some 2)) x6 h1 fun x7 =>
   c37_1 h1 x7 v0 k s2 K3)
   (k (.tup []) h1)) 1000000 ((.int .i64 (.ofNat 0)), ()) h
noncomputable abbrev ex37 : Ex := fun args h k => a2 args fun v0 v1 => bd37 v0 v1 h k
set_option maxRecDepth 100000 in
theorem sim37 : SimF Tryz.prog 37 ex37 := fun args h k hk => by
  obtain ⟨v0, v1, rfl, hk⟩ := a2_ok hk
  exact sim_of (qf := (fun f => [46, 47, 62, 75, 82, 97, 104, 114, 121, 127, 128, 141, 151, 156, 157, 183].contains f)) (Z := zs) (C := [(1000130, rd130)]) (T := []) ⟨zerosB_ok zsOk, (exRd simrd130 exNil)⟩ (.seq .nil (.loop [7] [8, 9, 10, 4, 11, 12, 13, 14, 15, 16, 17, 18] .nil)) Tryz.func37 _ h k (Eq.mp (by kernel_rfl : (bd37 v0 v1 h k = true) = (xFn Tryz.prog (fun f => [46, 47, 62, 75, 82, 97, 104, 114, 121, 127, 128, 141, 151, 156, 157, 183].contains f) zs [(1000130, rd130)] [] Tryz.f37 (.seq .nil (.loop [7] [8, 9, 10, 4, 11, 12, 13, 14, 15, 16, 17, 18] .nil)) [v0, v1] h k = true)) hk)

/- undercroft/room.find -/
noncomputable abbrev c161_1 (x8 : CV) (x9 : CV) (v0 : CV) (h5 : CH) (x1 : CV) (k : CV → CH → Bool) : Bool :=
 xBin (some (.int .i64)) .add x8 x9 fun x10 =>
 bd74 v0 x10 h5 fun x11 h7 =>
 xExtract x11 0 fun x12 =>
 xExtract x11 1 fun x13 =>
 xBoxP 124 [(.bytes 1024 0)] h7 fun x14 h8 =>
 xStore (some 1024) x14 x12 h8 fun h9 =>
 xLoad (some (some 1024)) x14 h9 fun x15 =>
 xStore (some 1024) x1 x15 h9 fun h10 =>
 xLoad (some (some 1024)) x1 h10 fun x16 =>
 k (.tup [x10, x16, x13]) h10
noncomputable abbrev c161_2 (s3 : TupC 1) (x1 : CV) (h5 : CH) (k : CV → CH → Bool) (x3 : CV) (v1 : CV) (v0 : CV) : Bool :=
 xIte s3.1
  (xBuild (some (.inr 1)) (some (.agg [(.bytes 1024 0)])) [] fun x5 =>
  xStore (some 1024) x1 x5 h5 fun h6 =>
  xLoad (some (some 1024)) x1 h6 fun x6 =>
  k (.tup [(.int .i64 (.ofNat 0)), x6, (.int .i64 (.ofNat 4))]) h6)
  (xAddr (some 6) x3 fun x7 =>
  xLoad (some none) x7 h5 fun x8 =>
  xBin (some (.int .i64)) .quo v1 (.int .i64 (.ofNat 8192)) fun x9 =>
  c161_1 x8 x9 v0 h5 x1 k)
noncomputable abbrev c161_3 (x1 : CV) (k : CV → CH → Bool) (x3 : CV) (v1 : CV) (v0 : CV) (h4 : CH) : Bool :=
 xJoin (n := 1) (fun s3 h5 =>
  c161_2 s3 x1 h5 k x3 v1 v0)
 (fun K16 => xAddr (some 8) x3 fun x18 =>
 xLoad (some none) x18 h4 fun x19 =>
 xBin (some (.int .i64)) .lss v1 x19 fun x20 =>
 xIte x20
  (K16 ((.bool true), ()) h4)
  (xAddr (some 0) x3 fun x21 =>
  xAddr (some 0) x21 fun x22 =>
  xLoad (some none) x22 h4 fun x23 =>
  xBin (some (.int .i64)) .geq v1 x23 fun x24 =>
  K16 (x24, ()) h4))
noncomputable def bd161 (v0 v1 : CV) (h : CH) (k : CV → CH → Bool) : Bool :=
 xBoxP 124 [(.bytes 1024 0)] h fun x1 h1 =>
 bd114 v0 h1 fun x2 h2 =>
 xBoxP 58 [(.int .i64 (.ofNat 0)), (.int .i64 (.ofNat 0)), (.int .i64 (.ofNat 0)), (.int .i64 (.ofNat 0)), (.int .i64 (.ofNat 0)), (.int .i64 (.ofNat 0)), (.int .i64 (.ofNat 0)), (.int .i64 (.ofNat 0)), (.int .i64 (.ofNat 0))] h2 fun x3 h3 =>
 xStore (some 9) x3 x2 h3 fun h4 =>
 c161_3 x1 k x3 v1 v0 h4
noncomputable abbrev ex161 : Ex := fun args h k => a2 args fun v0 v1 => bd161 v0 v1 h k
set_option maxRecDepth 100000 in
theorem sim161 : SimF Tryz.prog 161 ex161 := fun args h k hk => by
  obtain ⟨v0, v1, rfl, hk⟩ := a2_ok hk
  exact sim_of (qf := (fun f => [46, 47, 62, 75, 82, 97, 104, 114, 121, 127, 128, 141, 151, 156, 157, 183].contains f)) (Z := zs) (C := [(114, ex114), (74, ex74)]) (T := []) ⟨zerosB_ok zsOk, (exCons (by kernel_rfl) sim114 (exCons (by kernel_rfl) sim74 exNil))⟩ (.seq .nil (.seq .nil (.seq (.join [23] [13, 14, 15, 16, 17, 18, 19, 20, 21, 22] .nil .nil) .nil))) Tryz.func161 _ h k (Eq.mp (by kernel_rfl : (bd161 v0 v1 h k = true) = (xFn Tryz.prog (fun f => [46, 47, 62, 75, 82, 97, 104, 114, 121, 127, 128, 141, 151, 156, 157, 183].contains f) zs [(114, ex114), (74, ex74)] [] Tryz.f161 (.seq .nil (.seq .nil (.seq (.join [23] [13, 14, 15, 16, 17, 18, 19, 20, 21, 22] .nil .nil) .nil))) [v0, v1] h k = true)) hk)

/- undercroft/room.Give -/
noncomputable abbrev c124_1 (v1 : CV) (x9 : CV) (h4 : CH) (k : CV → CH → Bool) (x7 : CV) (v0 : CV) (x4 : CV) : Bool :=
 xBin (some (.int .i64)) .rem v1 (.int .i64 (.ofNat 8192)) fun x10 =>
 bd117 x9 x10 h4 fun x11 h5 =>
 xUn .not x11 fun x12 =>
 xIte x12
  (k (.int .i64 (.ofNat 4)) h5)
  (xLoad (some (some 1024)) x7 h5 fun x13 =>
  xBin (some (.int .i64)) .rem v1 (.int .i64 (.ofNat 8192)) fun x14 =>
  bd160 x13 x14 (.bool false) h5 fun x15 h6 =>
  bd78 v0 x4 x15 h6 fun x16 h7 =>
  k x16 h7)
noncomputable abbrev c124_2 (x2 : CV) (k : CV → CH → Bool) (x1 : CV) (h1 : CH) (v0 : CV) (v1 : CV) : Bool :=
 xIte x2
  (k x1 h1)
  (bd161 v0 v1 h1 fun x3 h2 =>
  xExtract x3 0 fun x4 =>
  xExtract x3 1 fun x5 =>
  xExtract x3 2 fun x6 =>
  xBoxP 124 [(.bytes 1024 0)] h2 fun x7 h3 =>
  xStore (some 1024) x7 x5 h3 fun h4 =>
  xBin (some (.int .i64)) .neq x6 (.int .i64 (.ofNat 0)) fun x8 =>
  xIte x8
   (k x6 h4)
   (xLoad (some (some 1024)) x7 h4 fun x9 =>
   c124_1 v1 x9 h4 k x7 v0 x4))
noncomputable def bd124 (v0 v1 : CV) (h : CH) (k : CV → CH → Bool) : Bool :=
 bd69 v0 (.bool true) h fun x1 h1 =>
 xBin (some (.int .i64)) .neq x1 (.int .i64 (.ofNat 0)) fun x2 =>
 c124_2 x2 k x1 h1 v0 v1
noncomputable abbrev ex124 : Ex := fun args h k => a2 args fun v0 v1 => bd124 v0 v1 h k
set_option maxRecDepth 100000 in
theorem sim124 : SimF Tryz.prog 124 ex124 := fun args h k hk => by
  obtain ⟨v0, v1, rfl, hk⟩ := a2_ok hk
  exact sim_of (qf := (fun f => [46, 47, 62, 75, 82, 97, 104, 114, 121, 127, 128, 141, 151, 156, 157, 183].contains f)) (Z := zs) (C := [(69, ex69), (161, ex161), (117, ex117), (160, ex160), (78, ex78)]) (T := []) ⟨zerosB_ok zsOk, (exCons (by kernel_rfl) sim69 (exCons (by kernel_rfl) sim161 (exCons (by kernel_rfl) sim117 (exCons (by kernel_rfl) sim160 (exCons (by kernel_rfl) sim78 exNil)))))⟩ .nil Tryz.func124 _ h k (Eq.mp (by kernel_rfl : (bd124 v0 v1 h k = true) = (xFn Tryz.prog (fun f => [46, 47, 62, 75, 82, 97, 104, 114, 121, 127, 128, 141, 151, 156, 157, 183].contains f) zs [(69, ex69), (161, ex161), (117, ex117), (160, ex160), (78, ex78)] [] Tryz.f124 .nil [v0, v1] h k = true)) hk)

/- (*undercroft/chart.cut).give -/
noncomputable abbrev c81_1 (x7 : CV) (k : CV → CH → Bool) (v1 : CV) (h1 : CH) (v0 : CV) : Bool :=
 xBin (some (.int .i64)) .neq x7 (.int .i64 (.ofNat 0)) fun x8 =>
 xIte x8
  (k (.tup [v1, x7]) h1)
  (xNilCheck v0 fun x9 =>
  xAddr (some 3) x9 fun x10 =>
  xLoad (some none) x10 h1 fun x11 =>
  xBin (some (.int .i64)) .add x11 (.int .i64 (.ofNat 1)) fun x12 =>
  xNilCheck v0 fun x13 =>
  xAddr (some 3) x13 fun x14 =>
  xStore (some 1) x14 x12 h1 fun h2 =>
  k (.tup [(.int .i64 (.ofNat 0)), (.int .i64 (.ofNat 0))]) h2)
noncomputable def bd81 (v0 v1 : CV) (h : CH) (k : CV → CH → Bool) : Bool :=
 xNilCheck v0 fun x1 =>
 xAddr (some 0) x1 fun x2 =>
 xLoad (some none) x2 h fun x3 =>
 xNilCheck x3 fun x4 =>
 xAddr (some 0) x4 fun x5 =>
 xLoad (some none) x5 h fun x6 =>
 bd124 x6 v1 h fun x7 h1 =>
 c81_1 x7 k v1 h1 v0
noncomputable abbrev ex81 : Ex := fun args h k => a2 args fun v0 v1 => bd81 v0 v1 h k
set_option maxRecDepth 100000 in
theorem sim81 : SimF Tryz.prog 81 ex81 := fun args h k hk => by
  obtain ⟨v0, v1, rfl, hk⟩ := a2_ok hk
  exact sim_of (qf := (fun f => [46, 47, 62, 75, 82, 97, 104, 114, 121, 127, 128, 141, 151, 156, 157, 183].contains f)) (Z := zs) (C := [(124, ex124)]) (T := []) ⟨zerosB_ok zsOk, (exCons (by kernel_rfl) sim124 exNil)⟩ .nil Tryz.func81 _ h k (Eq.mp (by kernel_rfl : (bd81 v0 v1 h k = true) = (xFn Tryz.prog (fun f => [46, 47, 62, 75, 82, 97, 104, 114, 121, 127, 128, 141, 151, 156, 157, 183].contains f) zs [(124, ex124)] [] Tryz.f81 .nil [v0, v1] h k = true)) hk)

/- undercroft/slab.Blank -/
noncomputable def bd83 (v0 : CV) (h : CH) (k : CV → CH → Bool) : Bool :=
 xBox 124 v0 h fun x1 h1 =>
 xLoad (some (some 1024)) x1 h1 fun x2 =>
 xBuild (some (.inr 1)) (some (.agg [(.bytes 1024 0)])) [] fun x3 =>
 xEq (some (.agg (.bytes 1024))) .eql x2 x3 h1 fun x4 =>
 k x4 h1
noncomputable abbrev ex83 : Ex := fun args h k => a1 args fun v0 => bd83 v0 h k
set_option maxRecDepth 100000 in
theorem sim83 : SimF Tryz.prog 83 ex83 := fun args h k hk => by
  obtain ⟨v0, rfl, hk⟩ := a1_ok hk
  exact sim_of (qf := (fun f => [46, 47, 62, 75, 82, 97, 104, 114, 121, 127, 128, 141, 151, 156, 157, 183].contains f)) (Z := zs) (C := []) (T := []) ⟨zerosB_ok zsOk, exNil⟩ .nil Tryz.func83 _ h k (Eq.mp (by kernel_rfl : (bd83 v0 h k = true) = (xFn Tryz.prog (fun f => [46, 47, 62, 75, 82, 97, 104, 114, 121, 127, 128, 141, 151, 156, 157, 183].contains f) zs [] [] Tryz.f83 .nil [v0] h k = true)) hk)

/- (*undercroft/chart.cut).prune -/
noncomputable abbrev c38_1 (x39 : CV) (k : CV → CH → Bool) (v1 : CV) (x38 : CV) (h13 : CH) (x19 : CV) (s23 : TupC 1) (x37 : CV) (K24 : TupC 1 → CH → Bool) : Bool :=
 xIte x39
  (k (.tup [v1, x38]) h13)
  (xLoad (some (some 1024)) x19 h13 fun x40 =>
  xBin (some (.int .i64)) .mul (.int .i64 (.ofNat 4)) s23.1 fun x41 =>
  xConv (some (.int .i64)) (some (.int .u32)) x37 fun x42 =>
  bd82 x40 x41 x42 h13 fun x43 h14 =>
  xStore (some 1024) x19 x43 h14 fun h15 =>
  xBin (some (.int .i64)) .add s23.1 (.int .i64 (.ofNat 1)) fun x44 =>
  K24 (x44, ()) h15)
noncomputable abbrev c38_2 (x31 : CV) (x32 : CV) (h11 : CH) (v2 : CV) (r38 : Ex) (v0 : CV) (x28 : CV) (k : CV → CH → Bool) (v1 : CV) (x19 : CV) (s23 : TupC 1) (K24 : TupC 1 → CH → Bool) : Bool :=
 bd75 x31 x32 h11 fun x33 h12 =>
 xConv (some (.int .u32)) (some (.int .i64)) x33 fun x34 =>
 xBin (some (.int .i64)) .sub v2 (.int .i64 (.ofNat 1)) fun x35 =>
 r38 [v0, x34, x35, x28] h12 fun x36 h13 =>
 xExtract x36 0 fun x37 =>
 xExtract x36 1 fun x38 =>
 xBin (some (.int .i64)) .neq x38 (.int .i64 (.ofNat 0)) fun x39 =>
 c38_1 x39 k v1 x38 h13 x19 s23 x37 K24
noncomputable abbrev c38_3 (x46 : CV) (h10 : CH) (x28 : CV) (K44 : TupC 1 → CH → Bool) (s20 : TupC 1) (v0 : CV) : Bool :=
 xAddr (some 2) x46 fun x47 =>
 xLoad (some none) x47 h10 fun x48 =>
 xBin (some (.int .i64)) .geq x28 x48 fun x49 =>
 xIte x49
  (K44 ((.bool true), ()) h10)
  (xBin (some (.int .i64)) .add x28 s20.1 fun x50 =>
  xNilCheck v0 fun x51 =>
  xAddr (some 1) x51 fun x52 =>
  xLoad (some none) x52 h10 fun x53 =>
  xBin (some (.int .i64)) .leq x50 x53 fun x54 =>
  K44 (x54, ()) h10)
noncomputable abbrev c38_4 (s23 : TupC 1) (K24 : TupC 1 → CH → Bool) (x19 : CV) (v2 : CV) (r38 : Ex) (v0 : CV) (x28 : CV) (k : CV → CH → Bool) (v1 : CV) (h10 : CH) (s20 : TupC 1) : Bool :=
 xJoin (n := 1) (fun s28 h11 =>
  xIte s28.1
   (xBin (some (.int .i64)) .add s23.1 (.int .i64 (.ofNat 1)) fun x30 =>
   K24 (x30, ()) h11)
   (xLoad (some (some 1024)) x19 h11 fun x31 =>
   xBin (some (.int .i64)) .mul (.int .i64 (.ofNat 4)) s23.1 fun x32 =>
   c38_2 x31 x32 h11 v2 r38 v0 x28 k v1 x19 s23 K24))
 (fun K44 => xNilCheck v0 fun x46 =>
 c38_3 x46 h10 x28 K44 s20 v0)
noncomputable abbrev c38_5 (x59 : CV) (v0 : CV) (v1 : CV) (h16 : CH) (k : CV → CH → Bool) (x19 : CV) : Bool :=
 xIte x59
  (bd81 v0 v1 h16 fun x60 h17 =>
  xExtract x60 0 fun x61 =>
  xExtract x60 1 fun x62 =>
  k (.tup [x61, x62]) h17)
  (xNilCheck v0 fun x63 =>
  xAddr (some 0) x63 fun x64 =>
  xLoad (some none) x64 h16 fun x65 =>
  xNilCheck x65 fun x66 =>
  xAddr (some 0) x66 fun x67 =>
  xLoad (some none) x67 h16 fun x68 =>
  xLoad (some (some 1024)) x19 h16 fun x69 =>
  bd78 x68 v1 x69 h16 fun x70 h18 =>
  k (.tup [v1, x70]) h18)
noncomputable abbrev c38_6 (x26 : CV) (s23 : TupC 1) (s20 : TupC 1) (v3 : CV) (K24 : TupC 1 → CH → Bool) (x19 : CV) (v2 : CV) (r38 : Ex) (v0 : CV) (k : CV → CH → Bool) (v1 : CV) (h10 : CH) (x23 : CV) : Bool :=
 xIte x26
  (xBin (some (.int .i64)) .mul s23.1 s20.1 fun x27 =>
  xBin (some (.int .i64)) .add v3 x27 fun x28 =>
  c38_4 s23 K24 x19 v2 r38 v0 x28 k v1 h10 s20)
  (xLoad (some (some 1024)) x19 h10 fun x55 =>
  xLoad (some (some 1024)) x23 h10 fun x56 =>
  xEq (some (.agg (.bytes 1024))) .eql x55 x56 h10 fun x57 =>
  xIte x57
   (k (.tup [v1, (.int .i64 (.ofNat 0))]) h10)
   (xLoad (some (some 1024)) x19 h10 fun x58 =>
   bd83 x58 h10 fun x59 h16 =>
   c38_5 x59 v0 v1 h16 k x19))
noncomputable abbrev c38_7 (x19 : CV) (v3 : CV) (v2 : CV) (r38 : Ex) (v0 : CV) (k : CV → CH → Bool) (v1 : CV) (h6 : CH) : Bool :=
 xJoin (n := 1) (fun s20 h7 =>
  xLoad (some (some 1024)) x19 h7 fun x22 =>
  xBoxP 124 [(.bytes 1024 0)] h7 fun x23 h8 =>
  xStore (some 1024) x23 x22 h8 fun h9 =>
  xLoop (n := 1) (fun K24 s23 h10 =>
   xBin (some (.int .i64)) .lss s23.1 (.int .i64 (.ofNat 256)) fun x26 =>
   c38_6 x26 s23 s20 v3 K24 x19 v2 r38 v0 k v1 h10 x23) 1000000 ((.int .i64 (.ofNat 0)), ()) h9)
 (fun K70 => xBin (some (.int .i64)) .eql v2 (.int .i64 (.ofNat 2)) fun x72 =>
 xIte x72
  (K70 ((.int .i64 (.ofNat 256)), ()) h6)
  (K70 ((.int .i64 (.ofNat 1)), ()) h6))
noncomputable abbrev c38_8 (x13 : CV) (h2 : CH) (v1 : CV) (k : CV → CH → Bool) (v3 : CV) (v2 : CV) (r38 : Ex) (v0 : CV) : Bool :=
 xAddr (some 0) x13 fun x14 =>
 xLoad (some none) x14 h2 fun x15 =>
 bd74 x15 v1 h2 fun x16 h4 =>
 xExtract x16 0 fun x17 =>
 xExtract x16 1 fun x18 =>
 xBoxP 124 [(.bytes 1024 0)] h4 fun x19 h5 =>
 xStore (some 1024) x19 x17 h5 fun h6 =>
 xBin (some (.int .i64)) .neq x18 (.int .i64 (.ofNat 0)) fun x20 =>
 xIte x20
  (k (.tup [v1, x18]) h6)
  (c38_7 x19 v3 v2 r38 v0 k v1 h6)
noncomputable abbrev c38_9 (s4 : TupC 1) (k : CV → CH → Bool) (v1 : CV) (x4 : CV) (h2 : CH) (v2 : CV) (v0 : CV) (v3 : CV) (r38 : Ex) : Bool :=
 xIte s4.1
  (k (.tup [v1, x4]) h2)
  (xBin (some (.int .i64)) .eql v2 (.int .i64 (.ofNat 0)) fun x6 =>
  xIte x6
   (bd81 v0 v1 h2 fun x7 h3 =>
   xExtract x7 0 fun x8 =>
   xExtract x7 1 fun x9 =>
   k (.tup [x8, x9]) h3)
   (xNilCheck v0 fun x10 =>
   xAddr (some 0) x10 fun x11 =>
   xLoad (some none) x11 h2 fun x12 =>
   xNilCheck x12 fun x13 =>
   c38_8 x13 h2 v1 k v3 v2 r38 v0))
noncomputable abbrev c38_10 (x1 : CV) (h : CH) (v1 : CV) (k : CV → CH → Bool) (v2 : CV) (v0 : CV) (v3 : CV) (r38 : Ex) : Bool :=
 xAddr (some 0) x1 fun x2 =>
 xLoad (some none) x2 h fun x3 =>
 bd80 x3 v1 h fun x4 h1 =>
 xJoin (n := 1) (fun s4 h2 =>
  c38_9 s4 k v1 x4 h2 v2 v0 v3 r38)
 (fun K72 => xBin (some (.int .i64)) .neq x4 (.int .i64 (.ofNat 0)) fun x74 =>
 xIte x74
  (K72 ((.bool true), ()) h1)
  (xBin (some (.int .i64)) .eql v1 (.int .i64 (.ofNat 0)) fun x75 =>
  K72 (x75, ()) h1))
noncomputable def bd38 (r38 : Ex) (v0 v1 v2 v3 : CV) (h : CH) (k : CV → CH → Bool) : Bool :=
 xNilCheck v0 fun x1 =>
 c38_10 x1 h v1 k v2 v0 v3 r38
noncomputable def rc38 : Nat → Nat → Ex := fun n => Nat.rec (motive := fun _ => Nat → Ex) (fun _ _ _ _ => false) (fun _ ih j => match j with
  | 0 => fun args h k => a4 args (fun v0 v1 v2 v3 => bd38 (ih 0) v0 v1 v2 v3 h k)
  | _ => fun _ _ _ => false) n
set_option maxRecDepth 100000 in
theorem sr38 : ∀ n, SimF Tryz.prog 38 (rc38 n 0)
  | 0 => fun args h k hk => by cases hk
  | n + 1 => by
    have ih := sr38 n
    have i38 := ih
    · intro args h k hk
      obtain ⟨v0, v1, v2, v3, rfl, hk⟩ := a4_ok hk
      exact sim_of (qf := (fun f => [46, 47, 62, 75, 82, 97, 104, 114, 121, 127, 128, 141, 151, 156, 157, 183].contains f)) (Z := zs) (C := [(38, rc38 n 0), (80, ex80), (81, ex81), (74, ex74), (75, ex75), (82, ex82), (83, ex83), (78, ex78)]) (T := []) ⟨zerosB_ok zsOk, (exCons (by kernel_rfl) i38 (exCons (by kernel_rfl) sim80 (exCons (by kernel_rfl) sim81 (exCons (by kernel_rfl) sim74 (exCons (by kernel_rfl) sim75 (exCons (by kernel_rfl) sim82 (exCons (by kernel_rfl) sim83 (exCons (by kernel_rfl) sim78 exNil))))))))⟩ (.seq .nil (.seq (.seq .nil (.join [31] [26, 27, 28, 29, 30] .nil .nil)) (.seq .nil (.seq .nil (.seq .nil (.seq .nil (.join [13] [57, 58] .nil (.seq .nil (.seq (.seq .nil (.loop [60] [61, 62, 15, 63, 64, 65, 66, 67, 16, 68, 69, 70, 71, 72, 73, 74, 75, 76, 77, 78, 79, 80, 81, 82, 83, 84, 85, 86, 87, 88, 17, 90, 91, 92, 93, 94, 95, 89, 96, 97, 18, 19, 98, 99, 100, 101, 8, 9, 102, 103, 104, 105, 106, 107, 108] (.seq .nil (.seq .nil (.seq (.seq .nil (.seq .nil (.seq (.join [83] [68, 69, 70, 71, 72, 73, 74, 75, 76, 77, 78, 79, 80, 81, 82] .nil .nil) .nil))) .nil))))) .nil))))))))) Tryz.func38 _ h k (Eq.mp (by kernel_rfl : (bd38 (rc38 n 0) v0 v1 v2 v3 h k = true) = (xFn Tryz.prog (fun f => [46, 47, 62, 75, 82, 97, 104, 114, 121, 127, 128, 141, 151, 156, 157, 183].contains f) zs [(38, rc38 n 0), (80, ex80), (81, ex81), (74, ex74), (75, ex75), (82, ex82), (83, ex83), (78, ex78)] [] Tryz.f38 (.seq .nil (.seq (.seq .nil (.join [31] [26, 27, 28, 29, 30] .nil .nil)) (.seq .nil (.seq .nil (.seq .nil (.seq .nil (.join [13] [57, 58] .nil (.seq .nil (.seq (.seq .nil (.loop [60] [61, 62, 15, 63, 64, 65, 66, 67, 16, 68, 69, 70, 71, 72, 73, 74, 75, 76, 77, 78, 79, 80, 81, 82, 83, 84, 85, 86, 87, 88, 17, 90, 91, 92, 93, 94, 95, 89, 96, 97, 18, 19, 98, 99, 100, 101, 8, 9, 102, 103, 104, 105, 106, 107, 108] (.seq .nil (.seq .nil (.seq (.seq .nil (.seq .nil (.seq (.join [83] [68, 69, 70, 71, 72, 73, 74, 75, 76, 77, 78, 79, 80, 81, 82] .nil .nil) .nil))) .nil))))) .nil))))))))) [v0, v1, v2, v3] h k = true)) hk)
noncomputable abbrev ex38 : Ex := rc38 1000 0
theorem sim38 : SimF Tryz.prog 38 ex38 := sr38 1000

/- undercroft/chart.Drop -/
noncomputable abbrev c15_1 (x26 : CV) (k : CV → CH → Bool) (x25 : CV) (h5 : CH) (x24 : CV) (x2 : CV) (s9 : TupC 1) (K10 : TupC 1 → CH → Bool) : Bool :=
 xIte x26
  (k (.tup [(.int .i64 (.ofNat 0)), x25]) h5)
  (xConv (some (.int .i64)) (some (.int .u32)) x24 fun x27 =>
  xNilCheck x2 fun x28 =>
  xAddr (some 2) x28 fun x29 =>
  xAddr (some 4) x29 fun x30 =>
  xIdx (some (some 10, 1)) x30 s9.1 fun x31 =>
  xStore (some 1) x31 x27 h5 fun h6 =>
  xBin (some (.int .i64)) .add s9.1 (.int .i64 (.ofNat 1)) fun x32 =>
  K10 (x32, ()) h6)
noncomputable abbrev c15_2 (x19 : CV) (s9 : TupC 1) (h4 : CH) (x9 : CV) (k : CV → CH → Bool) (x2 : CV) (K10 : TupC 1 → CH → Bool) : Bool :=
 xIdx (some (some 10, 1)) x19 s9.1 fun x20 =>
 xLoad (some none) x20 h4 fun x21 =>
 xConv (some (.int .u32)) (some (.int .i64)) x21 fun x22 =>
 ex38 [x9, x22, (.int .i64 (.ofNat 0)), s9.1] h4 fun x23 h5 =>
 xExtract x23 0 fun x24 =>
 xExtract x23 1 fun x25 =>
 xBin (some (.int .i64)) .neq x25 (.int .i64 (.ofNat 0)) fun x26 =>
 c15_1 x26 k x25 h5 x24 x2 s9 K10
noncomputable abbrev c15_3 (x75 : CV) (h11 : CH) (v0 : CV) (v1 : CV) (k : CV → CH → Bool) (x9 : CV) : Bool :=
 xAddr (some 2) x75 fun x76 =>
 xLoad (some (some 16)) x76 h11 fun x77 =>
 bd35 v0 v1 x77 h11 fun x78 h12 =>
 xBin (some (.int .i64)) .neq x78 (.int .i64 (.ofNat 0)) fun x79 =>
 xIte x79
  (k (.tup [(.int .i64 (.ofNat 0)), x78]) h12)
  (xNilCheck x9 fun x80 =>
  xAddr (some 3) x80 fun x81 =>
  xLoad (some none) x81 h12 fun x82 =>
  k (.tup [x82, (.int .i64 (.ofNat 0))]) h12)
noncomputable abbrev c15_4 (x9 : CV) (h10 : CH) (x66 : CV) (x2 : CV) (v0 : CV) (v1 : CV) (k : CV → CH → Bool) : Bool :=
 xNilCheck x9 fun x67 =>
 xAddr (some 3) x67 fun x68 =>
 xLoad (some none) x68 h10 fun x69 =>
 xConv (some (.int .i64)) (some (.int .u32)) x69 fun x70 =>
 xBin (some (.int .u32)) .sub x66 x70 fun x71 =>
 xNilCheck x2 fun x72 =>
 xAddr (some 2) x72 fun x73 =>
 xAddr (some 3) x73 fun x74 =>
 xStore (some 1) x74 x71 h10 fun h11 =>
 xNilCheck x2 fun x75 =>
 c15_3 x75 h11 v0 v1 k x9
noncomputable abbrev c15_5 (x59 : CV) (h10 : CH) (k : CV → CH → Bool) (x2 : CV) (x9 : CV) (v0 : CV) (v1 : CV) : Bool :=
 xAddr (some 3) x59 fun x60 =>
 xLoad (some none) x60 h10 fun x61 =>
 xBin (some (.int .i64)) .eql x61 (.int .i64 (.ofNat 0)) fun x62 =>
 xIte x62
  (k (.tup [(.int .i64 (.ofNat 0)), (.int .i64 (.ofNat 0))]) h10)
  (xNilCheck x2 fun x63 =>
  xAddr (some 2) x63 fun x64 =>
  xAddr (some 3) x64 fun x65 =>
  xLoad (some none) x65 h10 fun x66 =>
  c15_4 x9 h10 x66 x2 v0 v1 k)
noncomputable abbrev c15_6 (x53 : CV) (k : CV → CH → Bool) (h9 : CH) (x52 : CV) (x2 : CV) (x9 : CV) (v0 : CV) (v1 : CV) : Bool :=
 xBin (some (.int .i64)) .neq x53 (.int .i64 (.ofNat 0)) fun x54 =>
 xIte x54
  (k (.tup [(.int .i64 (.ofNat 0)), x53]) h9)
  (xConv (some (.int .i64)) (some (.int .u32)) x52 fun x55 =>
  xNilCheck x2 fun x56 =>
  xAddr (some 2) x56 fun x57 =>
  xAddr (some 15) x57 fun x58 =>
  xStore (some 1) x58 x55 h9 fun h10 =>
  xNilCheck x9 fun x59 =>
  c15_5 x59 h10 k x2 x9 v0 v1)
noncomputable abbrev c15_7 (x45 : CV) (x42 : CV) (h7 : CH) (x2 : CV) (x9 : CV) (k : CV → CH → Bool) (v0 : CV) (v1 : CV) : Bool :=
 xStore (some 1) x45 x42 h7 fun h8 =>
 xNilCheck x2 fun x46 =>
 xAddr (some 2) x46 fun x47 =>
 xAddr (some 15) x47 fun x48 =>
 xLoad (some none) x48 h8 fun x49 =>
 xConv (some (.int .u32)) (some (.int .i64)) x49 fun x50 =>
 ex38 [x9, x50, (.int .i64 (.ofNat 2)), (.int .i64 (.ofNat 266))] h8 fun x51 h9 =>
 xExtract x51 0 fun x52 =>
 xExtract x51 1 fun x53 =>
 c15_6 x53 k h9 x52 x2 x9 v0 v1
noncomputable abbrev c15_8 (x38 : CV) (k : CV → CH → Bool) (h7 : CH) (x2 : CV) (x9 : CV) (v0 : CV) (v1 : CV) : Bool :=
 xExtract x38 0 fun x39 =>
 xExtract x38 1 fun x40 =>
 xBin (some (.int .i64)) .neq x40 (.int .i64 (.ofNat 0)) fun x41 =>
 xIte x41
  (k (.tup [(.int .i64 (.ofNat 0)), x40]) h7)
  (xConv (some (.int .i64)) (some (.int .u32)) x39 fun x42 =>
  xNilCheck x2 fun x43 =>
  xAddr (some 2) x43 fun x44 =>
  xAddr (some 14) x44 fun x45 =>
  c15_7 x45 x42 h7 x2 x9 k v0 v1)
noncomputable abbrev c15_9 (x16 : CV) (x2 : CV) (s9 : TupC 1) (h4 : CH) (x9 : CV) (k : CV → CH → Bool) (K10 : TupC 1 → CH → Bool) (v0 : CV) (v1 : CV) : Bool :=
 xIte x16
  (xNilCheck x2 fun x17 =>
  xAddr (some 2) x17 fun x18 =>
  xAddr (some 4) x18 fun x19 =>
  c15_2 x19 s9 h4 x9 k x2 K10)
  (xNilCheck x2 fun x33 =>
  xAddr (some 2) x33 fun x34 =>
  xAddr (some 14) x34 fun x35 =>
  xLoad (some none) x35 h4 fun x36 =>
  xConv (some (.int .u32)) (some (.int .i64)) x36 fun x37 =>
  ex38 [x9, x37, (.int .i64 (.ofNat 1)), (.int .i64 (.ofNat 10))] h4 fun x38 h7 =>
  c15_8 x38 k h7 x2 x9 v0 v1)
noncomputable abbrev c15_10 (x2 : CV) (v2 : CV) (x7 : CV) (h2 : CH) (k : CV → CH → Bool) (v0 : CV) (v1 : CV) : Bool :=
 xBuild (some (.inl [(0, 1), (1, 1), (2, 1), (3, 1)])) (some (.agg [.nilp, (.int .i64 (.ofNat 0)), (.int .i64 (.ofNat 0)), (.int .i64 (.ofNat 0))])) [(0, x2), (1, v2), (2, x7)] fun x8 =>
 xBox 110 x8 h2 fun x9 h3 =>
 xLoop (n := 1) (fun K10 s9 h4 =>
  xNilCheck x9 fun x12 =>
  xAddr (some 2) x12 fun x13 =>
  xLoad (some none) x13 h4 fun x14 =>
  xMin x14 (.int .i64 (.ofNat 10)) fun x15 =>
  xBin (some (.int .i64)) .lss s9.1 x15 fun x16 =>
  c15_9 x16 x2 s9 h4 x9 k K10 v0 v1) 1000000 (v2, ()) h3
noncomputable abbrev c15_11 (x1 : CV) (k : CV → CH → Bool) (h1 : CH) (v2 : CV) (v3 : CV) (v0 : CV) (v1 : CV) : Bool :=
 xExtract x1 0 fun x2 =>
 xExtract x1 1 fun x3 =>
 xBin (some (.int .i64)) .neq x3 (.int .i64 (.ofNat 0)) fun x4 =>
 xIte x4
  (k (.tup [(.int .i64 (.ofNat 0)), x3]) h1)
  (bd30 v2 v3 h1 fun x5 h2 =>
  xUn .not x5 fun x6 =>
  xIte x6
   (k (.tup [(.int .i64 (.ofNat 0)), (.int .i64 (.ofNat 2))]) h2)
   (xBin (some (.int .i64)) .add v2 v3 fun x7 =>
   c15_10 x2 v2 x7 h2 k v0 v1))
noncomputable def bd15 (v0 v1 v2 v3 : CV) (h : CH) (k : CV → CH → Bool) : Bool :=
 bd28 v0 v1 (.bool true) h fun x1 h1 =>
 c15_11 x1 k h1 v2 v3 v0 v1
noncomputable abbrev ex15 : Ex := fun args h k => a4 args fun v0 v1 v2 v3 => bd15 v0 v1 v2 v3 h k
set_option maxRecDepth 100000 in
theorem sim15 : SimF Tryz.prog 15 ex15 := fun args h k hk => by
  obtain ⟨v0, v1, v2, v3, rfl, hk⟩ := a4_ok hk
  exact sim_of (qf := (fun f => [46, 47, 62, 75, 82, 97, 104, 114, 121, 127, 128, 141, 151, 156, 157, 183].contains f)) (Z := zs) (C := [(28, ex28), (30, ex30), (38, ex38), (35, ex35)]) (T := []) ⟨zerosB_ok zsOk, (exCons (by kernel_rfl) sim28 (exCons (by kernel_rfl) sim30 (exCons (by kernel_rfl) sim38 (exCons (by kernel_rfl) sim35 exNil))))⟩ (.seq .nil (.seq .nil (.seq .nil (.seq .nil (.seq .nil (.seq (.seq .nil (.loop [13] [39, 40, 41, 42, 43, 44, 45, 49, 50, 51, 52, 53, 54, 55, 56, 57, 58, 59, 48, 60, 61, 14, 15, 62, 63, 64, 8, 9, 65, 66, 67, 68, 69, 70, 71, 72, 46, 47] .nil)) .nil)))))) Tryz.func15 _ h k (Eq.mp (by kernel_rfl : (bd15 v0 v1 v2 v3 h k = true) = (xFn Tryz.prog (fun f => [46, 47, 62, 75, 82, 97, 104, 114, 121, 127, 128, 141, 151, 156, 157, 183].contains f) zs [(28, ex28), (30, ex30), (38, ex38), (35, ex35)] [] Tryz.f15 (.seq .nil (.seq .nil (.seq .nil (.seq .nil (.seq .nil (.seq (.seq .nil (.loop [13] [39, 40, 41, 42, 43, 44, 45, 49, 50, 51, 52, 53, 54, 55, 56, 57, 58, 59, 48, 60, 61, 14, 15, 62, 63, 64, 8, 9, 65, 66, 67, 68, 69, 70, 71, 72, 46, 47] .nil)) .nil)))))) [v0, v1, v2, v3] h k = true)) hk)
end Go.Proofs
