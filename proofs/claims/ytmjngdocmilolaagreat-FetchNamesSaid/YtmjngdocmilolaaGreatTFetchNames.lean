/- Functions, run; each tied to the program. -/
import Derived.Test.YtmjngdocmilolaaGreatTx14
set_option linter.unusedVariables false
set_option linter.unusedSimpArgs false
namespace Go.Proofs
open Go.Vc Go.Xc

/- undercroft/undercroftlaw14.FetchNames -/
noncomputable abbrev c3_1 (x82 : CV) (x88 : CV) (x94 : CV) (x100 : CV) (k : CV → CH → Bool) (h27 : CH) : Bool :=
 xBin (some (.int .i64)) .eql x82 (.int .i64 (.ofNat 2)) fun x102 =>
 xIte x102
  (xBin (some (.int .i64)) .eql x88 (.int .i64 (.ofNat 2)) fun x103 =>
  xIte x103
   (xBin (some (.int .i64)) .eql x94 (.int .i64 (.ofNat 2)) fun x104 =>
   xIte x104
    (xBin (some (.int .i64)) .eql x100 (.int .i64 (.ofNat 4)) fun x105 =>
    k x105 h27)
    (k (.bool false) h27))
   (k (.bool false) h27))
  (k (.bool false) h27)
noncomputable abbrev c3_2 (x42 : CV) (h26 : CH) (x76 : CV) (x82 : CV) (x88 : CV) (x94 : CV) (k : CV → CH → Bool) : Bool :=
 xNilCheck x42 fun x95 =>
 xAddr (some 1) x95 fun x96 =>
 xLoad (some none) x96 h26 fun x97 =>
 bd18 x97 (.int .i64 (.ofNat 3)) (.int .i64 (.ofNat 0)) (.int .i64 (.ofNat 1)) h26 fun x98 h27 =>
 xExtract x98 0 fun x99 =>
 xExtract x98 1 fun x100 =>
 xBin (some (.int .i64)) .eql x76 (.int .i64 (.ofNat 2)) fun x101 =>
 xIte x101
  (c3_1 x82 x88 x94 x100 k h27)
  (k (.bool false) h27)
noncomputable abbrev c3_3 (x85 : CV) (h24 : CH) (x42 : CV) (x76 : CV) (x82 : CV) (k : CV → CH → Bool) : Bool :=
 bd18 x85 (.int .i64 (.ofNat 0)) (.int .i64 (.ofNat 0)) (.int .i64 (.ofNat 1)) h24 fun x86 h25 =>
 xExtract x86 0 fun x87 =>
 xExtract x86 1 fun x88 =>
 xNilCheck x42 fun x89 =>
 xAddr (some 1) x89 fun x90 =>
 xLoad (some none) x90 h25 fun x91 =>
 bd18 x91 (.int .i64 (.ofNat 61)) (.int .i64 (.ofNat 0)) (.int .i64 (.ofNat 1)) h25 fun x92 h26 =>
 xExtract x92 0 fun x93 =>
 xExtract x92 1 fun x94 =>
 c3_2 x42 h26 x76 x82 x88 x94 k
noncomputable abbrev c3_4 (x42 : CV) (h23 : CH) (x76 : CV) (k : CV → CH → Bool) : Bool :=
 xNilCheck x42 fun x77 =>
 xAddr (some 1) x77 fun x78 =>
 xLoad (some none) x78 h23 fun x79 =>
 bd18 x79 (.int .i64 (.ofNat 2)) (.int .i64 (.ofNat 0)) (.int .i64 (.ofNat 65537)) h23 fun x80 h24 =>
 xExtract x80 0 fun x81 =>
 xExtract x80 1 fun x82 =>
 xNilCheck x42 fun x83 =>
 xAddr (some 1) x83 fun x84 =>
 xLoad (some none) x84 h24 fun x85 =>
 c3_3 x85 h24 x42 x76 x82 k
noncomputable abbrev c3_5 (x115 : CV) (K105 : TupC 1 → CH → Bool) (h31 : CH) (x62 : CV) (x68 : CV) : Bool :=
 xUn .not x115 fun x116 =>
 xIte x116
  (K105 ((.bool true), ()) h31)
  (xLen (some (.inl false)) x62 fun x117 =>
  xBin (some (.int .i64)) .neq x117 (.int .i64 (.ofNat 0)) fun x118 =>
  xIte x118
   (K105 ((.bool true), ()) h31)
   (xLen (some (.inl false)) x68 fun x119 =>
   xBin (some (.int .i64)) .neq x119 (.int .i64 (.ofNat 0)) fun x120 =>
   K105 (x120, ()) h31))
noncomputable abbrev c3_6 (x112 : CV) (K105 : TupC 1 → CH → Bool) (h29 : CH) (x56 : CV) (x62 : CV) (x68 : CV) : Bool :=
 xUn .not x112 fun x113 =>
 xIte x113
  (K105 ((.bool true), ()) h29)
  (xNewS (some (5, 1, 1, true)) (some [(.bytes 1 0)]) 6 [(0, (.int .u8 (.ofNat 0))), (1, (.int .u8 (.ofNat 0))), (2, (.int .u8 (.ofNat 0))), (3, (.int .u8 (.ofNat 0))), (4, (.int .u8 (.ofNat 0))), (5, (.int .u8 (.ofNat 5)))] h29 fun x114 h30 =>
  bd19 x56 x114 h30 fun x115 h31 =>
  c3_5 x115 K105 h31 x62 x68)
noncomputable abbrev c3_7 (x69 : CV) (K105 : TupC 1 → CH → Bool) (h21 : CH) (x50 : CV) (x56 : CV) (x62 : CV) (x68 : CV) : Bool :=
 xBin (some (.int .i64)) .neq x69 (.int .i64 (.ofNat 0)) fun x110 =>
 xIte x110
  (K105 ((.bool true), ()) h21)
  (xNewS (some (5, 1, 1, true)) (some [(.bytes 1 0)]) 5 [(0, (.int .u8 (.ofNat 7))), (1, (.int .u8 (.ofNat 8))), (2, (.int .u8 (.ofNat 9))), (3, (.int .u8 (.ofNat 0))), (4, (.int .u8 (.ofNat 0)))] h21 fun x111 h28 =>
  bd19 x50 x111 h28 fun x112 h29 =>
  c3_6 x112 K105 h29 x56 x62 x68)
noncomputable abbrev c3_8 (x51 : CV) (K105 : TupC 1 → CH → Bool) (h21 : CH) (x57 : CV) (x63 : CV) (x69 : CV) (x50 : CV) (x56 : CV) (x62 : CV) (x68 : CV) : Bool :=
 xBin (some (.int .i64)) .neq x51 (.int .i64 (.ofNat 0)) fun x107 =>
 xIte x107
  (K105 ((.bool true), ()) h21)
  (xBin (some (.int .i64)) .neq x57 (.int .i64 (.ofNat 0)) fun x108 =>
  xIte x108
   (K105 ((.bool true), ()) h21)
   (xBin (some (.int .i64)) .neq x63 (.int .i64 (.ofNat 0)) fun x109 =>
   xIte x109
    (K105 ((.bool true), ()) h21)
    (c3_7 x69 K105 h21 x50 x56 x62 x68)))
noncomputable abbrev c3_9 (k : CV → CH → Bool) (x42 : CV) (x51 : CV) (h21 : CH) (x57 : CV) (x63 : CV) (x69 : CV) (x50 : CV) (x56 : CV) (x62 : CV) (x68 : CV) : Bool :=
 xJoin (n := 1) (fun s69 h22 =>
  xIte s69.1
   (k (.bool false) h22)
   (xNilCheck x42 fun x71 =>
   xAddr (some 1) x71 fun x72 =>
   xLoad (some none) x72 h22 fun x73 =>
   bd18 x73 (.int .i64 (.ofNat 2)) (.int .i64 (.negSucc 0)) (.int .i64 (.ofNat 1)) h22 fun x74 h23 =>
   xExtract x74 0 fun x75 =>
   xExtract x74 1 fun x76 =>
   c3_4 x42 h23 x76 k))
 (fun K105 => c3_8 x51 K105 h21 x57 x63 x69 x50 x56 x62 x68)
noncomputable abbrev c3_10 (x61 : CV) (x42 : CV) (h20 : CH) (k : CV → CH → Bool) (x51 : CV) (x57 : CV) (x50 : CV) (x56 : CV) : Bool :=
 xExtract x61 0 fun x62 =>
 xExtract x61 1 fun x63 =>
 xNilCheck x42 fun x64 =>
 xAddr (some 1) x64 fun x65 =>
 xLoad (some none) x65 h20 fun x66 =>
 bd18 x66 (.int .i64 (.ofNat 2)) (.int .i64 (.ofNat 1099511627776)) (.int .i64 (.ofNat 1)) h20 fun x67 h21 =>
 xExtract x67 0 fun x68 =>
 xExtract x67 1 fun x69 =>
 c3_9 k x42 x51 h21 x57 x63 x69 x50 x56 x62 x68
noncomputable abbrev c3_11 (x54 : CV) (h18 : CH) (x42 : CV) (k : CV → CH → Bool) (x51 : CV) (x50 : CV) : Bool :=
 bd18 x54 (.int .i64 (.ofNat 2)) (.int .i64 (.ofNat 99995)) (.int .i64 (.ofNat 10)) h18 fun x55 h19 =>
 xExtract x55 0 fun x56 =>
 xExtract x55 1 fun x57 =>
 xNilCheck x42 fun x58 =>
 xAddr (some 1) x58 fun x59 =>
 xLoad (some none) x59 h19 fun x60 =>
 bd18 x60 (.int .i64 (.ofNat 2)) (.int .i64 (.ofNat 100001)) (.int .i64 (.ofNat 10)) h19 fun x61 h20 =>
 c3_10 x61 x42 h20 k x51 x57 x50 x56
noncomputable abbrev c3_12 (x42 : CV) (h17 : CH) (k : CV → CH → Bool) : Bool :=
 xNilCheck x42 fun x46 =>
 xAddr (some 1) x46 fun x47 =>
 xLoad (some none) x47 h17 fun x48 =>
 bd18 x48 (.int .i64 (.ofNat 2)) (.int .i64 (.ofNat 0)) (.int .i64 (.ofNat 5)) h17 fun x49 h18 =>
 xExtract x49 0 fun x50 =>
 xExtract x49 1 fun x51 =>
 xNilCheck x42 fun x52 =>
 xAddr (some 1) x52 fun x53 =>
 xLoad (some none) x53 h18 fun x54 =>
 c3_11 x54 h18 x42 k x51 x50
noncomputable abbrev c3_13 (x41 : CV) (k : CV → CH → Bool) (x42 : CV) (h16 : CH) : Bool :=
 xExtract x41 1 fun x43 =>
 xExtract x41 2 fun x44 =>
 xJoin (n := 1) (fun s44 h17 =>
  xIte s44.1
   (k (.bool false) h17)
   (c3_12 x42 h17 k))
 (fun K120 => xUn .not x43 fun x122 =>
 xIte x122
  (K120 ((.bool true), ()) h16)
  (xUn .not x44 fun x123 =>
  xIte x123
   (K120 ((.bool true), ()) h16)
   (bd17 x42 h16 fun x124 h32 =>
   xUn .not x124 fun x125 =>
   K120 (x125, ()) h32)))
noncomputable abbrev c3_14 (x36 : CV) (x29 : CV) (x33 : CV) (x2 : CV) (h14 : CH) (k : CV → CH → Bool) : Bool :=
 xBin (some (.int .i64)) .sub x36 (.int .i64 (.ofNat 1)) fun x37 =>
 xBuild (some (.inl [(0, 1), (1, 1), (2, 1)])) (some (.agg [.nils, (.int .i64 (.ofNat 0)), (.int .i64 (.ofNat 0))])) [(0, x29), (1, x33), (2, x37)] fun x38 =>
 xAddr (some 3) x2 fun x39 =>
 xStore (some 3) x39 x38 h14 fun h15 =>
 xLoad (some (some 7)) x2 h15 fun x40 =>
 bd16 x40 h15 fun x41 h16 =>
 xExtract x41 0 fun x42 =>
 c3_13 x41 k x42 h16
noncomputable abbrev c3_15 (x27 : CV) (x28 : CV) (h13 : CH) (x2 : CV) (k : CV → CH → Bool) : Bool :=
 xNewS (some (35, 7, 88, false)) (some [(.int .i64 (.ofNat 0)), (.int .u16 (.ofNat 0)), (.int .i64 (.ofNat 0)), (.int .i64 (.ofNat 0)), (.int .i64 (.ofNat 0)), .nils, .nils]) 2 [(0, x27), (1, x28)] h13 fun x29 h14 =>
 xAddr (some 3) x2 fun x30 =>
 xAddr (some 1) x30 fun x31 =>
 xLoad (some none) x31 h14 fun x32 =>
 xBin (some (.int .i64)) .sub x32 (.int .i64 (.ofNat 3)) fun x33 =>
 xAddr (some 3) x2 fun x34 =>
 xAddr (some 2) x34 fun x35 =>
 xLoad (some none) x35 h14 fun x36 =>
 c3_14 x36 x29 x33 x2 h14 k
noncomputable abbrev c3_16 (x22 : CV) (h12 : CH) (x8 : CV) (x21 : CV) (x2 : CV) (k : CV → CH → Bool) : Bool :=
 xLoad (some none) x22 h12 fun x23 =>
 xIdx (some (none, 1025)) x23 (.int .i64 (.ofNat 1)) fun x24 =>
 xAddr (some 1) x24 fun x25 =>
 xIdx (some (some 1024, 1)) x25 (.int .i64 (.ofNat 672)) fun x26 =>
 xStore (some 1) x26 (.int .u8 (.ofNat 5)) h12 fun h13 =>
 xLoad (some (some 7)) x8 h13 fun x27 =>
 xLoad (some (some 7)) x21 h13 fun x28 =>
 c3_15 x27 x28 h13 x2 k
noncomputable abbrev c3_17 (x19 : CV) (h10 : CH) (x8 : CV) (x2 : CV) (k : CV → CH → Bool) : Bool :=
 xBuild (some (.inl [(0, 1), (1, 1), (2, 1), (3, 1), (4, 1), (5, 1), (6, 1)])) (some (.agg [(.int .i64 (.ofNat 0)), (.int .u16 (.ofNat 0)), (.int .i64 (.ofNat 0)), (.int .i64 (.ofNat 0)), (.int .i64 (.ofNat 0)), .nils, .nils])) [(0, (.int .i64 (.ofNat 2))), (1, (.int .u16 (.ofNat 1))), (2, (.int .i64 (.ofNat 1))), (3, (.int .i64 (.ofNat 100001))), (4, (.int .i64 (.ofNat 3))), (5, x19)] fun x20 =>
 xBoxP 35 [(.int .i64 (.ofNat 0)), (.int .u16 (.ofNat 0)), (.int .i64 (.ofNat 0)), (.int .i64 (.ofNat 0)), (.int .i64 (.ofNat 0)), .nils, .nils] h10 fun x21 h11 =>
 xStore (some 7) x21 x20 h11 fun h12 =>
 xAddr (some 5) x21 fun x22 =>
 c3_16 x22 h12 x8 x21 x2 k
noncomputable abbrev c3_18 (x16 : CV) (h9 : CH) (x8 : CV) (x2 : CV) (k : CV → CH → Bool) : Bool :=
 xBuild (some (.inl [(0, 1), (1, 1024)])) (some (.agg [(.int .i64 (.ofNat 0)), (.bytes 1024 0)])) [(0, (.int .i64 (.ofNat 0))), (1, x16)] fun x17 =>
 xBuild (some (.inl [(0, 1), (1, 1024)])) (some (.agg [(.int .i64 (.ofNat 0)), (.bytes 1024 0)])) [(0, (.int .i64 (.ofNat 97)))] fun x18 =>
 xNewS (some (41, 1025, 1032, false)) (some [(.int .i64 (.ofNat 0)), (.bytes 1024 0)]) 2 [(0, x17), (1, x18)] h9 fun x19 h10 =>
 c3_17 x19 h10 x8 x2 k
noncomputable abbrev c3_19 (x12 : CV) (h6 : CH) (x11 : CV) (x8 : CV) (x2 : CV) (k : CV → CH → Bool) : Bool :=
 xNewS (some (37, 2, 24, false)) (some [(.int .u16 (.ofNat 0)), (.str ⟨#[]⟩)]) 1 [(0, x12)] h6 fun x13 h7 =>
 xApp (some (37, 2, 24, false)) x11 x13 h7 fun x14 h8 =>
 xAddr (some 6) x8 fun x15 =>
 xStore (some 1) x15 x14 h8 fun h9 =>
 xBuild (some (.inr 1)) (some (.agg [(.bytes 1024 0)])) [(0, (.int .u8 (.ofNat 7))), (1, (.int .u8 (.ofNat 8))), (2, (.int .u8 (.ofNat 9)))] fun x16 =>
 c3_18 x16 h9 x8 x2 k
noncomputable abbrev c3_20 (x8 : CV) (x7 : CV) (h4 : CH) (x2 : CV) (k : CV → CH → Bool) : Bool :=
 xStore (some 7) x8 x7 h4 fun h5 =>
 xAddr (some 3) x8 fun x9 =>
 xStore (some 1) x9 (.int .i64 (.ofNat 48)) h5 fun h6 =>
 xAddr (some 6) x8 fun x10 =>
 xLoad (some none) x10 h6 fun x11 =>
 xBuild (some (.inl [(0, 1), (1, 1)])) (some (.agg [(.int .u16 (.ofNat 0)), (.str ⟨#[]⟩)])) [(0, (.int .u16 (.ofNat 2))), (1, (.str ⟨#[97]⟩))] fun x12 =>
 c3_19 x12 h6 x11 x8 x2 k
noncomputable abbrev c3_21 (x2 : CV) (h3 : CH) (k : CV → CH → Bool) : Bool :=
 xAddr (some 3) x2 fun x3 =>
 xAddr (some 0) x3 fun x4 =>
 xLoad (some none) x4 h3 fun x5 =>
 xIdx (some (none, 7)) x5 (.int .i64 (.ofNat 0)) fun x6 =>
 xLoad (some (some 7)) x6 h3 fun x7 =>
 xBoxP 35 [(.int .i64 (.ofNat 0)), (.int .u16 (.ofNat 0)), (.int .i64 (.ofNat 0)), (.int .i64 (.ofNat 0)), (.int .i64 (.ofNat 0)), .nils, .nils] h3 fun x8 h4 =>
 c3_20 x8 x7 h4 x2 k
noncomputable def bd3 (h : CH) (k : CV → CH → Bool) : Bool :=
 bd15 h fun x1 h1 =>
 xBoxP 28 [(.int .i64 (.ofNat 0)), (.int .i64 (.ofNat 0)), (.int .i64 (.ofNat 0)), .nils, (.int .i64 (.ofNat 0)), (.int .i64 (.ofNat 0)), (.int .i64 (.ofNat 0))] h1 fun x2 h2 =>
 xStore (some 7) x2 x1 h2 fun h3 =>
 c3_21 x2 h3 k
noncomputable abbrev ex3 : Ex := fun args h k => a0 args (bd3  h k)
set_option maxRecDepth 100000 in
theorem sim3 : SimF Tryz.prog 3 ex3 := fun args h k hk => by
  obtain ⟨rfl, hk⟩ := a0_ok hk
  exact sim_of (qf := (fun f => [75, 120, 121, 145, 146, 175, 181, 196, 197, 210, 220, 246].contains f)) (Z := zs) (C := [(15, ex15), (16, ex16), (18, ex18), (19, ex19), (17, ex17)]) (T := []) ⟨zerosB_ok zsOk, (exCons (by kernel_rfl) sim15 (exCons (by kernel_rfl) sim16 (exCons (by kernel_rfl) sim18 (exCons (by kernel_rfl) sim19 (exCons (by kernel_rfl) sim17 exNil)))))⟩ (.seq .nil (.seq .nil (.seq .nil (.seq .nil (.seq .nil (.seq .nil (.seq .nil (.seq .nil (.seq .nil (.seq (.join [71] [59, 60, 61, 62, 63, 64, 65, 66, 67, 68, 69, 70] .nil .nil) (.seq .nil (.seq .nil (.seq .nil (.seq .nil (.seq (.join [139] [104, 105, 106, 107, 108, 109, 110, 111, 112, 113, 114, 115, 116, 117, 118, 119, 120, 121, 122, 123, 124, 125, 126, 127, 128, 129, 130, 131, 132, 133, 134, 135, 136, 137, 138] .nil .nil) .nil))))))))))))))) Tryz.func3 _ h k (Eq.mp (by kernel_rfl : (bd3  h k = true) = (xFn Tryz.prog (fun f => [75, 120, 121, 145, 146, 175, 181, 196, 197, 210, 220, 246].contains f) zs [(15, ex15), (16, ex16), (18, ex18), (19, ex19), (17, ex17)] [] Tryz.f3 (.seq .nil (.seq .nil (.seq .nil (.seq .nil (.seq .nil (.seq .nil (.seq .nil (.seq .nil (.seq .nil (.seq (.join [71] [59, 60, 61, 62, 63, 64, 65, 66, 67, 68, 69, 70] .nil .nil) (.seq .nil (.seq .nil (.seq .nil (.seq .nil (.seq (.join [139] [104, 105, 106, 107, 108, 109, 110, 111, 112, 113, 114, 115, 116, 117, 118, 119, 120, 121, 122, 123, 124, 125, 126, 127, 128, 129, 130, 131, 132, 133, 134, 135, 136, 137, 138] .nil .nil) .nil))))))))))))))) [] h k = true)) hk)
theorem ok3 : ex3 [] h0 (fun z _ => isTrue z) = true := by kernel_rfl
end Go.Proofs
