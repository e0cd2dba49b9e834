/- Functions, run; each tied to the program. -/
import Derived.Test.YtkbbonhbihmbcaaGreatRRLMx15
set_option linter.unusedVariables false
set_option linter.unusedSimpArgs false
namespace Go.Proofs
open Go.Vc Go.Xc

/- undercroft/undercroftlaw15.LayNames -/
noncomputable abbrev c6_1 (x57 : CV) (h29 : CH) (x9 : CV) (k : CV → CH → Bool) : Bool :=
 xIte x57
  (xNewS (some (5, 1, 1, true)) (some [(.bytes 1 0)]) 1 [(0, (.int .u8 (.ofNat 97)))] h29 fun x58 h30 =>
  xBytesOf false (some (5, 1, 1, true)) x58 h30 fun x59 h31 =>
  bd23 x9 (.int .i64 (.ofNat 2)) (.int .i64 (.ofNat 8191)) x59 h31 fun x60 h32 =>
  xBin (some (.int .i64)) .eql x60 (.int .i64 (.ofNat 0)) fun x61 =>
  k x61 h32)
  (k (.bool false) h29)
noncomputable abbrev c6_2 (x53 : CV) (h26 : CH) (x9 : CV) (k : CV → CH → Bool) : Bool :=
 xIte x53
  (xNewS (some (5, 1, 1, true)) (some [(.bytes 1 0)]) 1 [(0, (.int .u8 (.ofNat 97)))] h26 fun x54 h27 =>
  xBytesOf false (some (5, 1, 1, true)) x54 h27 fun x55 h28 =>
  bd22 x9 (.int .i64 (.ofNat 2)) (.int .i64 (.ofNat 0)) x55 h28 fun x56 h29 =>
  xBin (some (.int .i64)) .eql x56 (.int .i64 (.ofNat 180)) fun x57 =>
  c6_1 x57 h29 x9 k)
  (k (.bool false) h26)
noncomputable abbrev c6_3 (x48 : CV) (h23 : CH) (x9 : CV) (k : CV → CH → Bool) : Bool :=
 xBytesOf false (some (5, 1, 1, true)) x48 h23 fun x49 h24 =>
 bd23 x9 (.int .i64 (.ofNat 2)) (.int .i64 (.ofNat 8191)) x49 h24 fun x50 h25 =>
 xBin (some (.int .i64)) .eql x50 (.int .i64 (.ofNat 2)) fun x51 =>
 xIte x51
  (bd23 x9 (.int .i64 (.ofNat 2)) (.int .i64 (.ofNat 0)) .nils h25 fun x52 h26 =>
  xBin (some (.int .i64)) .eql x52 (.int .i64 (.ofNat 2)) fun x53 =>
  c6_2 x53 h26 x9 k)
  (k (.bool false) h25)
noncomputable abbrev c6_4 (x65 : CV) (K61 : TupC 1 → CH → Bool) (h21 : CH) (x46 : CV) (x35 : CV) (x45 : CV) : Bool :=
 xIte x65
  (K61 ((.bool true), ()) h21)
  (xBin (some (.int .i64)) .neq x46 (.int .i64 (.ofNat 0)) fun x66 =>
  xIte x66
   (K61 ((.bool true), ()) h21)
   (xBin (some (.int .i64)) .neq x35 (.int .i64 (.ofNat 0)) fun x67 =>
   xIte x67
    (K61 ((.bool true), ()) h21)
    (xBin (some (.int .i64)) .neq x45 (.int .i64 (.ofNat 0)) fun x68 =>
    K61 (x68, ()) h21)))
noncomputable abbrev c6_5 (k : CV → CH → Bool) (x9 : CV) (x36 : CV) (h21 : CH) (x39 : CV) (x43 : CV) (x46 : CV) (x35 : CV) (x45 : CV) : Bool :=
 xJoin (n := 1) (fun s46 h22 =>
  xIte s46.1
   (k (.bool false) h22)
   (xNewS (some (5, 1, 1, true)) (some [(.bytes 1 0)]) 2 [(0, (.int .u8 (.ofNat 97))), (1, (.int .u8 (.ofNat 98)))] h22 fun x48 h23 =>
   c6_3 x48 h23 x9 k))
 (fun K61 => xBin (some (.int .i64)) .neq x36 (.int .i64 (.ofNat 0)) fun x63 =>
 xIte x63
  (K61 ((.bool true), ()) h21)
  (xBin (some (.int .i64)) .neq x39 (.int .i64 (.ofNat 2)) fun x64 =>
  xIte x64
   (K61 ((.bool true), ()) h21)
   (xBin (some (.int .i64)) .neq x43 (.int .i64 (.ofNat 2)) fun x65 =>
   c6_4 x65 K61 h21 x46 x35 x45)))
noncomputable abbrev c6_6 (h18 : CH) (x9 : CV) (k : CV → CH → Bool) (x36 : CV) (x39 : CV) (x35 : CV) : Bool :=
 xNewS (some (5, 1, 1, true)) (some [(.bytes 1 0)]) 1 [(0, (.int .u8 (.ofNat 1)))] h18 fun x40 h19 =>
 bd18 x9 (.int .i64 (.ofNat 2)) (.int .i64 (.ofNat 67381248)) x40 h19 fun x41 h20 =>
 xExtract x41 0 fun x42 =>
 xExtract x41 1 fun x43 =>
 bd18 x9 (.int .i64 (.ofNat 2)) (.int .i64 (.ofNat 67381248)) .nils h20 fun x44 h21 =>
 xExtract x44 0 fun x45 =>
 xExtract x44 1 fun x46 =>
 c6_5 k x9 x36 h21 x39 x43 x46 x35 x45
noncomputable abbrev c6_7 (x70 : CV) (K68 : TupC 1 → CH → Bool) (h15 : CH) (x32 : CV) (x28 : CV) (x31 : CV) : Bool :=
 xIte x70
  (K68 ((.bool true), ()) h15)
  (xBin (some (.int .i64)) .neq x32 (.int .i64 (.ofNat 0)) fun x71 =>
  xIte x71
   (K68 ((.bool true), ()) h15)
   (xBin (some (.int .i64)) .neq x28 (.int .i64 (.ofNat 1)) fun x72 =>
   xIte x72
    (K68 ((.bool true), ()) h15)
    (xBin (some (.int .i64)) .neq x31 (.int .i64 (.ofNat 97)) fun x73 =>
    K68 (x73, ()) h15)))
noncomputable abbrev c6_8 (k : CV → CH → Bool) (x9 : CV) (x29 : CV) (h15 : CH) (x32 : CV) (x28 : CV) (x31 : CV) : Bool :=
 xJoin (n := 1) (fun s32 h16 =>
  xIte s32.1
   (k (.bool false) h16)
   (bd18 x9 (.int .i64 (.ofNat 2)) (.int .i64 (.ofNat 5)) .nils h16 fun x34 h17 =>
   xExtract x34 0 fun x35 =>
   xExtract x34 1 fun x36 =>
   bd18 x9 (.int .i64 (.ofNat 2)) (.int .i64 (.ofNat 67381249)) .nils h17 fun x37 h18 =>
   xExtract x37 0 fun x38 =>
   xExtract x37 1 fun x39 =>
   c6_6 h18 x9 k x36 x39 x35))
 (fun K68 => xBin (some (.int .i64)) .neq x29 (.int .i64 (.ofNat 0)) fun x70 =>
 c6_7 x70 K68 h15 x32 x28 x31)
noncomputable abbrev c6_9 (h12 : CH) (x9 : CV) (k : CV → CH → Bool) : Bool :=
 xNewS (some (5, 1, 1, true)) (some [(.bytes 1 0)]) 1 [(0, (.int .u8 (.ofNat 5)))] h12 fun x26 h13 =>
 bd18 x9 (.int .i64 (.ofNat 2)) (.int .i64 (.ofNat 100000)) x26 h13 fun x27 h14 =>
 xExtract x27 0 fun x28 =>
 xExtract x27 1 fun x29 =>
 bd26 x9 (.int .i64 (.ofNat 2)) (.int .i64 (.ofNat 9)) h14 fun x30 h15 =>
 xExtract x30 0 fun x31 =>
 xExtract x30 1 fun x32 =>
 c6_8 k x9 x29 h15 x32 x28 x31
noncomputable abbrev c6_10 (x18 : CV) (h33 : CH) (K73 : TupC 1 → CH → Bool) (x20 : CV) (x23 : CV) : Bool :=
 xAddr (some 3) x18 fun x85 =>
 xLoad (some none) x85 h33 fun x86 =>
 xBin (some (.int .u32)) .neq x86 (.int .u32 (.ofNat 2)) fun x87 =>
 xIte x87
  (K73 ((.bool true), ()) h33)
  (xBin (some (.int .i64)) .eql x20 (.int .i64 (.ofNat 0)) fun x88 =>
  xIte x88
   (K73 ((.bool true), ()) h33)
   (xBin (some (.int .i64)) .eql x23 (.int .i64 (.ofNat 0)) fun x89 =>
   K73 (x89, ()) h33))
noncomputable abbrev c6_11 (x79 : CV) (K73 : TupC 1 → CH → Bool) (h11 : CH) (x9 : CV) (x18 : CV) (x20 : CV) (x23 : CV) : Bool :=
 xIte x79
  (K73 ((.bool true), ()) h11)
  (bd25 x9 h11 fun x80 h33 =>
  xBin (some (.int .i64)) .neq x80 (.int .i64 (.ofNat 2)) fun x81 =>
  xIte x81
   (K73 ((.bool true), ()) h33)
   (xAddr (some 2) x18 fun x82 =>
   xLoad (some none) x82 h33 fun x83 =>
   xBin (some (.int .u32)) .neq x83 (.int .u32 (.ofNat 8194)) fun x84 =>
   xIte x84
    (K73 ((.bool true), ()) h33)
    (c6_10 x18 h33 K73 x20 x23)))
noncomputable abbrev c6_12 (x76 : CV) (K73 : TupC 1 → CH → Bool) (h11 : CH) (x21 : CV) (x24 : CV) (x13 : CV) (x9 : CV) (x18 : CV) (x20 : CV) (x23 : CV) : Bool :=
 xIte x76
  (K73 ((.bool true), ()) h11)
  (xBin (some (.int .i64)) .neq x21 (.int .i64 (.ofNat 0)) fun x77 =>
  xIte x77
   (K73 ((.bool true), ()) h11)
   (xBin (some (.int .i64)) .neq x24 (.int .i64 (.ofNat 0)) fun x78 =>
   xIte x78
    (K73 ((.bool true), ()) h11)
    (xBin (some (.int .i64)) .neq x13 (.int .i64 (.ofNat 4)) fun x79 =>
    c6_11 x79 K73 h11 x9 x18 x20 x23)))
noncomputable abbrev c6_13 (x22 : CV) (k : CV → CH → Bool) (x9 : CV) (x14 : CV) (h11 : CH) (x17 : CV) (x21 : CV) (x13 : CV) (x18 : CV) (x20 : CV) : Bool :=
 xExtract x22 0 fun x23 =>
 xExtract x22 1 fun x24 =>
 xJoin (n := 1) (fun s24 h12 =>
  xIte s24.1
   (k (.bool false) h12)
   (c6_9 h12 x9 k))
 (fun K73 => xBin (some (.int .i64)) .neq x14 (.int .i64 (.ofNat 0)) fun x75 =>
 xIte x75
  (K73 ((.bool true), ()) h11)
  (xBin (some (.int .i64)) .neq x17 (.int .i64 (.ofNat 0)) fun x76 =>
  c6_12 x76 K73 h11 x21 x24 x13 x9 x18 x20 x23))
noncomputable abbrev c6_14 (h7 : CH) (x16 : CV) (x9 : CV) (k : CV → CH → Bool) (x14 : CV) (x17 : CV) (x13 : CV) : Bool :=
 xBoxP 78 [(.int .u16 (.ofNat 0)), (.int .u16 (.ofNat 0)), (.int .u32 (.ofNat 0)), (.int .u32 (.ofNat 0)), (.int .u32 (.ofNat 0)), (.int .u32 (.ofNat 0)), (.int .u32 (.ofNat 0)), (.int .u32 (.ofNat 0)), (.int .u32 (.ofNat 0)), (.int .u32 (.ofNat 0)), (.int .u32 (.ofNat 0)), (.int .u32 (.ofNat 0)), (.int .u32 (.ofNat 0)), (.int .u32 (.ofNat 0)), (.int .u32 (.ofNat 0)), (.int .u32 (.ofNat 0))] h7 fun x18 h8 =>
 xStore (some 16) x18 x16 h8 fun h9 =>
 bd24 x9 (.int .i64 (.ofNat 2)) (.int .i64 (.ofNat 7)) h9 fun x19 h10 =>
 xExtract x19 0 fun x20 =>
 xExtract x19 1 fun x21 =>
 bd24 x9 (.int .i64 (.ofNat 2)) (.int .i64 (.ofNat 8)) h10 fun x22 h11 =>
 c6_13 x22 k x9 x14 h11 x17 x21 x13 x18 x20
noncomputable abbrev c6_15 (h3 : CH) (x9 : CV) (k : CV → CH → Bool) : Bool :=
 xNewS (some (5, 1, 1, true)) (some [(.bytes 1 0)]) 4 [(0, (.int .u8 (.ofNat 97))), (1, (.int .u8 (.ofNat 98))), (2, (.int .u8 (.ofNat 99))), (3, (.int .u8 (.ofNat 100)))] h3 fun x10 h4 =>
 xBytesOf false (some (5, 1, 1, true)) x10 h4 fun x11 h5 =>
 bd18 x9 (.int .i64 (.ofNat 2)) (.int .i64 (.ofNat 8190)) x11 h5 fun x12 h6 =>
 xExtract x12 0 fun x13 =>
 xExtract x12 1 fun x14 =>
 bd19 x9 (.int .i64 (.ofNat 2)) h6 fun x15 h7 =>
 xExtract x15 0 fun x16 =>
 xExtract x15 1 fun x17 =>
 c6_14 h7 x16 x9 k x14 x17 x13
noncomputable abbrev c6_16 (k : CV → CH → Bool) (x3 : CV) (x4 : CV) (h2 : CH) (x5 : CV) : Bool :=
 xJoin (n := 1) (fun s5 h3 =>
  xIte s5.1
   (k (.bool false) h3)
   (xNilCheck x3 fun x7 =>
   xAddr (some 1) x7 fun x8 =>
   xLoad (some none) x8 h3 fun x9 =>
   c6_15 h3 x9 k))
 (fun K89 => xUn .not x4 fun x91 =>
 xIte x91
  (K89 ((.bool true), ()) h2)
  (xUn .not x5 fun x92 =>
  xIte x92
   (K89 ((.bool true), ()) h2)
   (ex17 [] h2 fun x93 h34 =>
   xUn .not x93 fun x94 =>
   K89 (x94, ()) h34)))
noncomputable def bd6 (h : CH) (k : CV → CH → Bool) : Bool :=
 bd21 h fun x1 h1 =>
 bd9 x1 h1 fun x2 h2 =>
 xExtract x2 0 fun x3 =>
 xExtract x2 1 fun x4 =>
 xExtract x2 2 fun x5 =>
 c6_16 k x3 x4 h2 x5
noncomputable abbrev ex6 : Ex := fun args h k => a0 args (bd6  h k)
set_option maxRecDepth 100000 in
theorem sim6 : SimF Tryz.prog 6 ex6 := fun args h k hk => by
  obtain ⟨rfl, hk⟩ := a0_ok hk
  exact sim_of (qf := (fun f => [83, 84, 97, 101, 102, 103, 115, 122, 138, 144, 154, 161, 162, 175, 185, 214].contains f)) (Z := zs) (C := [(21, ex21), (9, ex9), (18, ex18), (19, ex19), (24, ex24), (26, ex26), (23, ex23), (22, ex22), (25, ex25), (17, ex17)]) (T := []) ⟨zerosB_ok zsOk, (exCons (by kernel_rfl) sim21 (exCons (by kernel_rfl) sim9 (exCons (by kernel_rfl) sim18 (exCons (by kernel_rfl) sim19 (exCons (by kernel_rfl) sim24 (exCons (by kernel_rfl) sim26 (exCons (by kernel_rfl) sim23 (exCons (by kernel_rfl) sim22 (exCons (by kernel_rfl) sim25 (exCons (by kernel_rfl) sim17 exNil))))))))))⟩ (.seq .nil (.seq .nil (.seq (.join [34] [23, 24, 25, 26, 27, 28, 29, 30, 31, 32, 33] .nil .nil) (.seq .nil (.seq .nil (.seq .nil (.seq .nil (.seq .nil (.seq (.join [101] [61, 62, 63, 64, 65, 66, 67, 68, 69, 70, 71, 72, 73, 74, 75, 76, 77, 78, 79, 80, 81, 82, 83, 84, 85, 86, 87, 88, 89, 90, 91, 92, 93, 94, 95, 96, 97, 98, 99, 100] .nil .nil) (.seq .nil (.seq .nil (.seq (.join [126] [113, 114, 115, 116, 117, 118, 119, 120, 121, 122, 123, 124, 125] .nil .nil) (.seq .nil (.seq .nil (.seq .nil (.seq .nil (.seq (.join [169] [148, 149, 150, 151, 152, 153, 154, 155, 156, 157, 158, 159, 160, 161, 162, 163, 164, 165, 166, 167, 168] .nil .nil) .nil))))))))))))))))) Tryz.func6 _ h k (Eq.mp (by kernel_rfl : (bd6  h k = true) = (xFn Tryz.prog (fun f => [83, 84, 97, 101, 102, 103, 115, 122, 138, 144, 154, 161, 162, 175, 185, 214].contains f) zs [(21, ex21), (9, ex9), (18, ex18), (19, ex19), (24, ex24), (26, ex26), (23, ex23), (22, ex22), (25, ex25), (17, ex17)] [] Tryz.f6 (.seq .nil (.seq .nil (.seq (.join [34] [23, 24, 25, 26, 27, 28, 29, 30, 31, 32, 33] .nil .nil) (.seq .nil (.seq .nil (.seq .nil (.seq .nil (.seq .nil (.seq (.join [101] [61, 62, 63, 64, 65, 66, 67, 68, 69, 70, 71, 72, 73, 74, 75, 76, 77, 78, 79, 80, 81, 82, 83, 84, 85, 86, 87, 88, 89, 90, 91, 92, 93, 94, 95, 96, 97, 98, 99, 100] .nil .nil) (.seq .nil (.seq .nil (.seq (.join [126] [113, 114, 115, 116, 117, 118, 119, 120, 121, 122, 123, 124, 125] .nil .nil) (.seq .nil (.seq .nil (.seq .nil (.seq .nil (.seq (.join [169] [148, 149, 150, 151, 152, 153, 154, 155, 156, 157, 158, 159, 160, 161, 162, 163, 164, 165, 166, 167, 168] .nil .nil) .nil))))))))))))))))) [] h k = true)) hk)
set_option maxHeartbeats 4000000 in
theorem ok6 : ex6 [] h0 (fun z _ => isTrue z) = true := by kernel_rfl
end Go.Proofs
