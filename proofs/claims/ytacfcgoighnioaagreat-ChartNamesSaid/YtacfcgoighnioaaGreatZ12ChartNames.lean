/- Functions, run; each tied to the program. -/
import Derived.Test.YtacfcgoighnioaaGreatZ12x12
set_option linter.unusedVariables false
set_option linter.unusedSimpArgs false
namespace Go.Proofs
open Go.Vc Go.Xc

/- undercroft/undercroftlaw12.ChartNames -/
noncomputable abbrev c3_1 (x71 : CV) (x63 : CV) (x67 : CV) (x9 : CV) (h25 : CH) (k : CV → CH → Bool) : Bool :=
 xIte x71
  (xBin (some (.int .i64)) .eql x63 (.int .i64 (.ofNat 0)) fun x72 =>
  xIte x72
   (xBin (some (.int .i64)) .eql x67 (.int .i64 (.ofNat 2)) fun x73 =>
   xIte x73
    (bd16 x9 h25 fun x74 h26 =>
    xBin (some (.int .i64)) .eql x74 (.int .i64 (.ofNat 0)) fun x75 =>
    k x75 h26)
    (k (.bool false) h25))
   (k (.bool false) h25))
  (k (.bool false) h25)
noncomputable abbrev c3_2 (x55 : CV) (x58 : CV) (x61 : CV) (x64 : CV) (x63 : CV) (x67 : CV) (x9 : CV) (h25 : CH) (k : CV → CH → Bool) : Bool :=
 xBin (some (.int .i64)) .eql x55 (.int .i64 (.ofNat 2)) fun x68 =>
 xIte x68
  (xBin (some (.int .i64)) .eql x58 (.int .i64 (.ofNat 2)) fun x69 =>
  xIte x69
   (xBin (some (.int .i64)) .eql x61 (.int .i64 (.ofNat 2)) fun x70 =>
   xIte x70
    (xBin (some (.int .i64)) .eql x64 (.int .i64 (.ofNat 0)) fun x71 =>
    c3_1 x71 x63 x67 x9 h25 k)
    (k (.bool false) h25))
   (k (.bool false) h25))
  (k (.bool false) h25)
noncomputable abbrev c3_3 (x59 : CV) (x9 : CV) (h23 : CH) (x55 : CV) (x58 : CV) (k : CV → CH → Bool) : Bool :=
 xExtract x59 1 fun x61 =>
 bd10 x9 (.int .i64 (.ofNat 2)) (.int .i64 (.ofNat 65802)) (.int .i64 (.ofNat 0)) h23 fun x62 h24 =>
 xExtract x62 0 fun x63 =>
 xExtract x62 1 fun x64 =>
 bd15 x9 (.int .i64 (.ofNat 2)) (.int .i64 (.ofNat 1)) (.int .i64 (.negSucc 0)) h24 fun x65 h25 =>
 xExtract x65 0 fun x66 =>
 xExtract x65 1 fun x67 =>
 c3_2 x55 x58 x61 x64 x63 x67 x9 h25 k
noncomputable abbrev c3_4 (x9 : CV) (h20 : CH) (k : CV → CH → Bool) : Bool :=
 bd9 x9 (.int .i64 (.ofNat 2)) (.int .i64 (.ofNat 65802)) h20 fun x53 h21 =>
 xExtract x53 0 fun x54 =>
 xExtract x53 1 fun x55 =>
 bd9 x9 (.int .i64 (.ofNat 2)) (.int .i64 (.negSucc 0)) h21 fun x56 h22 =>
 xExtract x56 0 fun x57 =>
 xExtract x56 1 fun x58 =>
 bd10 x9 (.int .i64 (.ofNat 2)) (.int .i64 (.ofNat 65802)) (.int .i64 (.ofNat 1)) h22 fun x59 h23 =>
 xExtract x59 0 fun x60 =>
 c3_3 x59 x9 h23 x55 x58 k
noncomputable abbrev c3_5 (x79 : CV) (K75 : TupC 1 → CH → Bool) (h19 : CH) (x44 : CV) (x47 : CV) (x50 : CV) : Bool :=
 xIte x79
  (K75 ((.bool true), ()) h19)
  (xBin (some (.int .i64)) .neq x44 (.int .i64 (.ofNat 2)) fun x80 =>
  xIte x80
   (K75 ((.bool true), ()) h19)
   (xBin (some (.int .i64)) .neq x47 (.int .i64 (.ofNat 4)) fun x81 =>
   xIte x81
    (K75 ((.bool true), ()) h19)
    (xBin (some (.int .i64)) .neq x50 (.int .i64 (.ofNat 0)) fun x82 =>
    K75 (x82, ()) h19)))
noncomputable abbrev c3_6 (k : CV → CH → Bool) (x9 : CV) (x45 : CV) (h19 : CH) (x48 : CV) (x51 : CV) (x44 : CV) (x47 : CV) (x50 : CV) : Bool :=
 xJoin (n := 1) (fun s51 h20 =>
  xIte s51.1
   (k (.bool false) h20)
   (c3_4 x9 h20 k))
 (fun K75 => xBin (some (.int .i64)) .neq x45 (.int .i64 (.ofNat 0)) fun x77 =>
 xIte x77
  (K75 ((.bool true), ()) h19)
  (xBin (some (.int .i64)) .neq x48 (.int .i64 (.ofNat 0)) fun x78 =>
  xIte x78
   (K75 ((.bool true), ()) h19)
   (xBin (some (.int .i64)) .neq x51 (.int .i64 (.ofNat 0)) fun x79 =>
   c3_5 x79 K75 h19 x44 x47 x50)))
noncomputable abbrev c3_7 (x43 : CV) (x9 : CV) (h17 : CH) (k : CV → CH → Bool) : Bool :=
 xExtract x43 0 fun x44 =>
 xExtract x43 1 fun x45 =>
 bd15 x9 (.int .i64 (.ofNat 2)) (.int .i64 (.ofNat 0)) (.int .i64 (.ofNat 65802)) h17 fun x46 h18 =>
 xExtract x46 0 fun x47 =>
 xExtract x46 1 fun x48 =>
 bd9 x9 (.int .i64 (.ofNat 2)) (.int .i64 (.ofNat 3)) h18 fun x49 h19 =>
 xExtract x49 0 fun x50 =>
 xExtract x49 1 fun x51 =>
 c3_6 k x9 x45 h19 x48 x51 x44 x47 x50
noncomputable abbrev c3_8 (x91 : CV) (x92 : CV) (h27 : CH) (x90 : CV) (K82 : TupC 1 → CH → Bool) : Bool :=
 xBuild (some (.inr 1)) (some (.agg [(.int .i64 (.ofNat 0)), (.int .i64 (.ofNat 0))])) [(0, (.int .i64 (.ofNat 266))), (1, (.int .i64 (.ofNat 44)))] fun x93 =>
 xNewS (some (49, 2, 16, false)) (some [(.int .i64 (.ofNat 0)), (.int .i64 (.ofNat 0))]) 3 [(0, x91), (1, x92), (2, x93)] h27 fun x94 h28 =>
 bd13 x90 x94 (.int .i64 (.negSucc 0)) h28 fun x95 h29 =>
 xUn .not x95 fun x96 =>
 K82 (x96, ()) h29
noncomputable abbrev c3_9 (x9 : CV) (h15 : CH) (K82 : TupC 1 → CH → Bool) : Bool :=
 bd14 x9 (.int .i64 (.ofNat 2)) h15 fun x90 h27 =>
 xBuild (some (.inr 1)) (some (.agg [(.int .i64 (.ofNat 0)), (.int .i64 (.ofNat 0))])) [(0, (.int .i64 (.ofNat 3))), (1, (.int .i64 (.ofNat 39)))] fun x91 =>
 xBuild (some (.inr 1)) (some (.agg [(.int .i64 (.ofNat 0)), (.int .i64 (.ofNat 0))])) [(0, (.int .i64 (.ofNat 10))), (1, (.int .i64 (.ofNat 41)))] fun x92 =>
 c3_8 x91 x92 h27 x90 K82
noncomputable abbrev c3_10 (x34 : CV) (K82 : TupC 1 → CH → Bool) (h15 : CH) (x37 : CV) (x40 : CV) (x9 : CV) : Bool :=
 xBin (some (.int .i64)) .neq x34 (.int .i64 (.ofNat 266)) fun x87 =>
 xIte x87
  (K82 ((.bool true), ()) h15)
  (xBin (some (.int .i64)) .neq x37 (.int .i64 (.ofNat 266)) fun x88 =>
  xIte x88
   (K82 ((.bool true), ()) h15)
   (xBin (some (.int .i64)) .neq x40 (.int .i64 (.negSucc 0)) fun x89 =>
   xIte x89
    (K82 ((.bool true), ()) h15)
    (c3_9 x9 h15 K82)))
noncomputable abbrev c3_11 (x35 : CV) (K82 : TupC 1 → CH → Bool) (h15 : CH) (x38 : CV) (x41 : CV) (x34 : CV) (x37 : CV) (x40 : CV) (x9 : CV) : Bool :=
 xBin (some (.int .i64)) .neq x35 (.int .i64 (.ofNat 0)) fun x84 =>
 xIte x84
  (K82 ((.bool true), ()) h15)
  (xBin (some (.int .i64)) .neq x38 (.int .i64 (.ofNat 0)) fun x85 =>
  xIte x85
   (K82 ((.bool true), ()) h15)
   (xBin (some (.int .i64)) .neq x41 (.int .i64 (.ofNat 0)) fun x86 =>
   xIte x86
    (K82 ((.bool true), ()) h15)
    (c3_10 x34 K82 h15 x37 x40 x9)))
noncomputable abbrev c3_12 (x9 : CV) (h14 : CH) (k : CV → CH → Bool) (x35 : CV) (x38 : CV) (x34 : CV) (x37 : CV) : Bool :=
 bd12 x9 (.int .i64 (.ofNat 2)) (.int .i64 (.ofNat 267)) h14 fun x39 h15 =>
 xExtract x39 0 fun x40 =>
 xExtract x39 1 fun x41 =>
 xJoin (n := 1) (fun s41 h16 =>
  xIte s41.1
   (k (.bool false) h16)
   (bd15 x9 (.int .i64 (.ofNat 2)) (.int .i64 (.ofNat 4)) (.int .i64 (.ofNat 100)) h16 fun x43 h17 =>
   c3_7 x43 x9 h17 k))
 (fun K82 => c3_11 x35 K82 h15 x38 x41 x34 x37 x40 x9)
noncomputable abbrev c3_13 (x102 : CV) (K96 : TupC 1 → CH → Bool) (h11 : CH) (x24 : CV) (x27 : CV) (x30 : CV) : Bool :=
 xIte x102
  (K96 ((.bool true), ()) h11)
  (xBin (some (.int .i64)) .neq x24 (.int .i64 (.ofNat 39)) fun x103 =>
  xIte x103
   (K96 ((.bool true), ()) h11)
   (xBin (some (.int .i64)) .neq x27 (.int .i64 (.ofNat 41)) fun x104 =>
   xIte x104
    (K96 ((.bool true), ()) h11)
    (xBin (some (.int .i64)) .neq x30 (.int .i64 (.ofNat 44)) fun x105 =>
    K96 (x105, ()) h11)))
noncomputable abbrev c3_14 (x99 : CV) (K96 : TupC 1 → CH → Bool) (h11 : CH) (x28 : CV) (x31 : CV) (x21 : CV) (x24 : CV) (x27 : CV) (x30 : CV) : Bool :=
 xIte x99
  (K96 ((.bool true), ()) h11)
  (xBin (some (.int .i64)) .neq x28 (.int .i64 (.ofNat 0)) fun x100 =>
  xIte x100
   (K96 ((.bool true), ()) h11)
   (xBin (some (.int .i64)) .neq x31 (.int .i64 (.ofNat 0)) fun x101 =>
   xIte x101
    (K96 ((.bool true), ()) h11)
    (xBin (some (.int .i64)) .neq x21 (.int .i64 (.ofNat 39)) fun x102 =>
    c3_13 x102 K96 h11 x24 x27 x30)))
noncomputable abbrev c3_15 (k : CV → CH → Bool) (x9 : CV) (x22 : CV) (h11 : CH) (x25 : CV) (x28 : CV) (x31 : CV) (x21 : CV) (x24 : CV) (x27 : CV) (x30 : CV) : Bool :=
 xJoin (n := 1) (fun s31 h12 =>
  xIte s31.1
   (k (.bool false) h12)
   (bd12 x9 (.int .i64 (.ofNat 2)) (.int .i64 (.ofNat 0)) h12 fun x33 h13 =>
   xExtract x33 0 fun x34 =>
   xExtract x33 1 fun x35 =>
   bd12 x9 (.int .i64 (.ofNat 2)) (.int .i64 (.ofNat 11)) h13 fun x36 h14 =>
   xExtract x36 0 fun x37 =>
   xExtract x36 1 fun x38 =>
   c3_12 x9 h14 k x35 x38 x34 x37))
 (fun K96 => xBin (some (.int .i64)) .neq x22 (.int .i64 (.ofNat 0)) fun x98 =>
 xIte x98
  (K96 ((.bool true), ()) h11)
  (xBin (some (.int .i64)) .neq x25 (.int .i64 (.ofNat 0)) fun x99 =>
  c3_14 x99 K96 h11 x28 x31 x21 x24 x27 x30))
noncomputable abbrev c3_16 (x23 : CV) (x9 : CV) (h9 : CH) (k : CV → CH → Bool) (x22 : CV) (x21 : CV) : Bool :=
 xExtract x23 0 fun x24 =>
 xExtract x23 1 fun x25 =>
 bd11 x9 (.int .i64 (.ofNat 2)) (.int .i64 (.ofNat 10)) h9 fun x26 h10 =>
 xExtract x26 0 fun x27 =>
 xExtract x26 1 fun x28 =>
 bd11 x9 (.int .i64 (.ofNat 2)) (.int .i64 (.ofNat 266)) h10 fun x29 h11 =>
 xExtract x29 0 fun x30 =>
 xExtract x29 1 fun x31 =>
 c3_15 k x9 x22 h11 x25 x28 x31 x21 x24 x27 x30
noncomputable abbrev c3_17 (x109 : CV) (K105 : TupC 1 → CH → Bool) (h6 : CH) (x11 : CV) (x14 : CV) (x17 : CV) : Bool :=
 xIte x109
  (K105 ((.bool true), ()) h6)
  (xBin (some (.int .i64)) .neq x11 (.int .i64 (.ofNat 0)) fun x110 =>
  xIte x110
   (K105 ((.bool true), ()) h6)
   (xBin (some (.int .i64)) .neq x14 (.int .i64 (.ofNat 3)) fun x111 =>
   xIte x111
    (K105 ((.bool true), ()) h6)
    (xBin (some (.int .i64)) .neq x17 (.int .i64 (.ofNat 7)) fun x112 =>
    K105 (x112, ()) h6)))
noncomputable abbrev c3_18 (k : CV → CH → Bool) (x9 : CV) (x12 : CV) (h6 : CH) (x15 : CV) (x18 : CV) (x11 : CV) (x14 : CV) (x17 : CV) : Bool :=
 xJoin (n := 1) (fun s18 h7 =>
  xIte s18.1
   (k (.bool false) h7)
   (bd11 x9 (.int .i64 (.ofNat 2)) (.int .i64 (.ofNat 3)) h7 fun x20 h8 =>
   xExtract x20 0 fun x21 =>
   xExtract x20 1 fun x22 =>
   bd11 x9 (.int .i64 (.ofNat 2)) (.int .i64 (.ofNat 3)) h8 fun x23 h9 =>
   c3_16 x23 x9 h9 k x22 x21))
 (fun K105 => xBin (some (.int .i64)) .neq x12 (.int .i64 (.ofNat 0)) fun x107 =>
 xIte x107
  (K105 ((.bool true), ()) h6)
  (xBin (some (.int .i64)) .neq x15 (.int .i64 (.ofNat 0)) fun x108 =>
  xIte x108
   (K105 ((.bool true), ()) h6)
   (xBin (some (.int .i64)) .neq x18 (.int .i64 (.ofNat 0)) fun x109 =>
   c3_17 x109 K105 h6 x11 x14 x17)))
noncomputable abbrev c3_19 (x10 : CV) (x9 : CV) (h4 : CH) (k : CV → CH → Bool) (x11 : CV) : Bool :=
 xExtract x10 1 fun x12 =>
 bd10 x9 (.int .i64 (.ofNat 2)) (.int .i64 (.ofNat 0)) (.int .i64 (.ofNat 3)) h4 fun x13 h5 =>
 xExtract x13 0 fun x14 =>
 xExtract x13 1 fun x15 =>
 bd10 x9 (.int .i64 (.ofNat 2)) (.int .i64 (.ofNat 264)) (.int .i64 (.ofNat 4)) h5 fun x16 h6 =>
 xExtract x16 0 fun x17 =>
 xExtract x16 1 fun x18 =>
 c3_18 k x9 x12 h6 x15 x18 x11 x14 x17
noncomputable abbrev c3_20 (x115 : CV) (K112 : TupC 1 → CH → Bool) (h2 : CH) (x3 : CV) : Bool :=
 xIte x115
  (K112 ((.bool true), ()) h2)
  (ex7 [] h2 fun x116 h30 =>
  xUn .not x116 fun x117 =>
  xIte x117
   (K112 ((.bool true), ()) h30)
   (xNilCheck x3 fun x118 =>
   xAddr (some 1) x118 fun x119 =>
   xLoad (some none) x119 h30 fun x120 =>
   bd8 x120 (.int .i64 (.ofNat 31)) h30 fun x121 h31 =>
   xBin (some (.int .i64)) .neq x121 (.int .i64 (.ofNat 0)) fun x122 =>
   K112 (x122, ()) h31))
noncomputable abbrev c3_21 (k : CV → CH → Bool) (x3 : CV) (x4 : CV) (h2 : CH) (x5 : CV) : Bool :=
 xJoin (n := 1) (fun s5 h3 =>
  xIte s5.1
   (k (.bool false) h3)
   (xNilCheck x3 fun x7 =>
   xAddr (some 1) x7 fun x8 =>
   xLoad (some none) x8 h3 fun x9 =>
   bd9 x9 (.int .i64 (.ofNat 2)) (.int .i64 (.ofNat 0)) h3 fun x10 h4 =>
   xExtract x10 0 fun x11 =>
   c3_19 x10 x9 h4 k x11))
 (fun K112 => xUn .not x4 fun x114 =>
 xIte x114
  (K112 ((.bool true), ()) h2)
  (xUn .not x5 fun x115 =>
  c3_20 x115 K112 h2 x3))
noncomputable def bd3 (h : CH) (k : CV → CH → Bool) : Bool :=
 bd6 h fun x1 h1 =>
 bd5 x1 h1 fun x2 h2 =>
 xExtract x2 0 fun x3 =>
 xExtract x2 1 fun x4 =>
 xExtract x2 2 fun x5 =>
 c3_21 k x3 x4 h2 x5
noncomputable abbrev ex3 : Ex := fun args h k => a0 args (bd3  h k)
set_option maxRecDepth 100000 in
theorem sim3 : SimF Tryz.prog 3 ex3 := fun args h k hk => by
  obtain ⟨rfl, hk⟩ := a0_ok hk
  exact sim_of (qf := (fun f => [46, 47, 62, 75, 82, 97, 104, 114, 121, 127, 128, 141, 151, 156, 157, 183].contains f)) (Z := zs) (C := [(6, ex6), (5, ex5), (9, ex9), (10, ex10), (11, ex11), (12, ex12), (15, ex15), (16, ex16), (14, ex14), (13, ex13), (7, ex7), (8, ex8)]) (T := []) ⟨zerosB_ok zsOk, (exCons (by kernel_rfl) sim6 (exCons (by kernel_rfl) sim5 (exCons (by kernel_rfl) sim9 (exCons (by kernel_rfl) sim10 (exCons (by kernel_rfl) sim11 (exCons (by kernel_rfl) sim12 (exCons (by kernel_rfl) sim15 (exCons (by kernel_rfl) sim16 (exCons (by kernel_rfl) sim14 (exCons (by kernel_rfl) sim13 (exCons (by kernel_rfl) sim7 (exCons (by kernel_rfl) sim8 exNil))))))))))))⟩ (.seq .nil (.seq .nil (.seq (.join [50] [31, 32, 33, 34, 35, 36, 37, 38, 39, 40, 41, 42, 43, 44, 45, 46, 47, 48, 49] .nil .nil) (.seq .nil (.seq .nil (.seq .nil (.seq .nil (.seq (.join [91] [70, 71, 72, 73, 74, 75, 76, 77, 78, 79, 80, 81, 82, 83, 84, 85, 86, 87, 88, 89, 90] .nil .nil) (.seq .nil (.seq .nil (.seq .nil (.seq .nil (.seq (.join [141] [112, 113, 114, 115, 116, 117, 118, 119, 120, 121, 122, 123, 124, 125, 126, 127, 128, 129, 130, 131, 132, 133, 134, 135, 136, 137, 138, 139, 140] .nil .nil) (.seq .nil (.seq .nil (.seq .nil (.seq (.join [188] [157, 158, 159, 160, 161, 162, 163, 164, 165, 166, 167, 168, 169, 170, 171, 172, 173, 174, 175, 176, 177, 178, 179, 180, 181, 182, 183, 184, 185, 186, 187] .nil .nil) (.seq .nil (.seq .nil (.seq .nil (.seq (.join [225] [204, 205, 206, 207, 208, 209, 210, 211, 212, 213, 214, 215, 216, 217, 218, 219, 220, 221, 222, 223, 224] .nil .nil) .nil))))))))))))))))))))) Tryz.func3 _ h k (Eq.mp (by kernel_rfl : (bd3  h k = true) = (xFn Tryz.prog (fun f => [46, 47, 62, 75, 82, 97, 104, 114, 121, 127, 128, 141, 151, 156, 157, 183].contains f) zs [(6, ex6), (5, ex5), (9, ex9), (10, ex10), (11, ex11), (12, ex12), (15, ex15), (16, ex16), (14, ex14), (13, ex13), (7, ex7), (8, ex8)] [] Tryz.f3 (.seq .nil (.seq .nil (.seq (.join [50] [31, 32, 33, 34, 35, 36, 37, 38, 39, 40, 41, 42, 43, 44, 45, 46, 47, 48, 49] .nil .nil) (.seq .nil (.seq .nil (.seq .nil (.seq .nil (.seq (.join [91] [70, 71, 72, 73, 74, 75, 76, 77, 78, 79, 80, 81, 82, 83, 84, 85, 86, 87, 88, 89, 90] .nil .nil) (.seq .nil (.seq .nil (.seq .nil (.seq .nil (.seq (.join [141] [112, 113, 114, 115, 116, 117, 118, 119, 120, 121, 122, 123, 124, 125, 126, 127, 128, 129, 130, 131, 132, 133, 134, 135, 136, 137, 138, 139, 140] .nil .nil) (.seq .nil (.seq .nil (.seq .nil (.seq (.join [188] [157, 158, 159, 160, 161, 162, 163, 164, 165, 166, 167, 168, 169, 170, 171, 172, 173, 174, 175, 176, 177, 178, 179, 180, 181, 182, 183, 184, 185, 186, 187] .nil .nil) (.seq .nil (.seq .nil (.seq .nil (.seq (.join [225] [204, 205, 206, 207, 208, 209, 210, 211, 212, 213, 214, 215, 216, 217, 218, 219, 220, 221, 222, 223, 224] .nil .nil) .nil))))))))))))))))))))) [] h k = true)) hk)
set_option maxHeartbeats 4000000 in
theorem ok3 : ex3 [] h0 (fun z _ => isTrue z) = true := by kernel_rfl
end Go.Proofs
