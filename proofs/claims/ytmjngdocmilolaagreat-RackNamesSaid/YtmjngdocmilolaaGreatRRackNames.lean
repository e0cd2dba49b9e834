/- Functions, run; each tied to the program. -/
import Derived.Test.YtmjngdocmilolaaGreatRx11
set_option linter.unusedVariables false
set_option linter.unusedSimpArgs false
namespace Go.Proofs
open Go.Vc Go.Xc

/- undercroft/undercroftlaw11.RackNames -/
noncomputable abbrev c5_1 (h22 : CH) (x43 : CV) (x13 : CV) (x9 : CV) (k : CV → CH → Bool) : Bool :=
 xNewS (some (3, 1, 8, false)) (some [(.int .i64 (.ofNat 0))]) 1 [(0, (.int .i64 (.ofNat 2)))] h22 fun x56 h23 =>
 bd33 x43 x56 h23 fun x57 h24 =>
 xIte x57
  (xLoad (some (some 16)) x13 h24 fun x58 =>
  bd30 x9 (.int .i64 (.ofNat 20)) x58 h24 fun x59 h25 =>
  xBin (some (.int .i64)) .eql x59 (.int .i64 (.ofNat 181)) fun x60 =>
  k x60 h25)
  (k (.bool false) h24)
noncomputable abbrev c5_2 (x52 : CV) (x36 : CV) (x40 : CV) (x46 : CV) (h22 : CH) (x43 : CV) (x13 : CV) (x9 : CV) (k : CV → CH → Bool) : Bool :=
 xIte x52
  (xBin (some (.int .i64)) .eql x36 (.int .i64 (.ofNat 2)) fun x53 =>
  xIte x53
   (xBin (some (.int .i64)) .eql x40 (.int .i64 (.ofNat 3)) fun x54 =>
   xIte x54
    (xBin (some (.int .i64)) .eql x46 (.int .i64 (.ofNat 57)) fun x55 =>
    xIte x55
     (c5_1 h22 x43 x13 x9 k)
     (k (.bool false) h22))
    (k (.bool false) h22))
   (k (.bool false) h22))
  (k (.bool false) h22)
noncomputable abbrev c5_3 (x49 : CV) (x41 : CV) (x44 : CV) (x47 : CV) (x36 : CV) (x40 : CV) (x46 : CV) (h22 : CH) (x43 : CV) (x13 : CV) (x9 : CV) (k : CV → CH → Bool) : Bool :=
 xIte x49
  (xBin (some (.int .i64)) .eql x41 (.int .i64 (.ofNat 0)) fun x50 =>
  xIte x50
   (xBin (some (.int .i64)) .eql x44 (.int .i64 (.ofNat 0)) fun x51 =>
   xIte x51
    (xBin (some (.int .i64)) .eql x47 (.int .i64 (.ofNat 0)) fun x52 =>
    c5_2 x52 x36 x40 x46 h22 x43 x13 x9 k)
    (k (.bool false) h22))
   (k (.bool false) h22))
  (k (.bool false) h22)
noncomputable abbrev c5_4 (x42 : CV) (x9 : CV) (h21 : CH) (x33 : CV) (x37 : CV) (x41 : CV) (x36 : CV) (x40 : CV) (x13 : CV) (k : CV → CH → Bool) : Bool :=
 xExtract x42 0 fun x43 =>
 xExtract x42 1 fun x44 =>
 bd29 x9 h21 fun x45 h22 =>
 xExtract x45 0 fun x46 =>
 xExtract x45 1 fun x47 =>
 xBin (some (.int .i64)) .eql x33 (.int .i64 (.ofNat 2)) fun x48 =>
 xIte x48
  (xBin (some (.int .i64)) .eql x37 (.int .i64 (.ofNat 0)) fun x49 =>
  c5_3 x49 x41 x44 x47 x36 x40 x46 h22 x43 x13 x9 k)
  (k (.bool false) h22)
noncomputable abbrev c5_5 (x9 : CV) (h19 : CH) (x33 : CV) (x37 : CV) (x36 : CV) (x13 : CV) (k : CV → CH → Bool) : Bool :=
 xBuild (some (.inl [(0, 1), (1, 1), (2, 1), (3, 1), (4, 10), (14, 1), (15, 1)])) (some (.agg [(.int .u16 (.ofNat 0)), (.int .u16 (.ofNat 0)), (.int .u32 (.ofNat 0)), (.int .u32 (.ofNat 0)), (.int .u32 (.ofNat 0)), (.int .u32 (.ofNat 0)), (.int .u32 (.ofNat 0)), (.int .u32 (.ofNat 0)), (.int .u32 (.ofNat 0)), (.int .u32 (.ofNat 0)), (.int .u32 (.ofNat 0)), (.int .u32 (.ofNat 0)), (.int .u32 (.ofNat 0)), (.int .u32 (.ofNat 0)), (.int .u32 (.ofNat 0)), (.int .u32 (.ofNat 0))])) [(0, (.int .u16 (.ofNat 1))), (1, (.int .u16 (.ofNat 1)))] fun x38 =>
 bd31 x9 x38 h19 fun x39 h20 =>
 xExtract x39 0 fun x40 =>
 xExtract x39 1 fun x41 =>
 bd32 x9 h20 fun x42 h21 =>
 c5_4 x42 x9 h21 x33 x37 x41 x36 x40 x13 k
noncomputable abbrev c5_6 (x9 : CV) (h18 : CH) (x33 : CV) (x13 : CV) (k : CV → CH → Bool) : Bool :=
 xBuild (some (.inl [(0, 1), (1, 1), (2, 1), (3, 1), (4, 10), (14, 1), (15, 1)])) (some (.agg [(.int .u16 (.ofNat 0)), (.int .u16 (.ofNat 0)), (.int .u32 (.ofNat 0)), (.int .u32 (.ofNat 0)), (.int .u32 (.ofNat 0)), (.int .u32 (.ofNat 0)), (.int .u32 (.ofNat 0)), (.int .u32 (.ofNat 0)), (.int .u32 (.ofNat 0)), (.int .u32 (.ofNat 0)), (.int .u32 (.ofNat 0)), (.int .u32 (.ofNat 0)), (.int .u32 (.ofNat 0)), (.int .u32 (.ofNat 0)), (.int .u32 (.ofNat 0)), (.int .u32 (.ofNat 0))])) [(0, (.int .u16 (.ofNat 1)))] fun x34 =>
 bd31 x9 x34 h18 fun x35 h19 =>
 xExtract x35 0 fun x36 =>
 xExtract x35 1 fun x37 =>
 c5_5 x9 h19 x33 x37 x36 x13 k
noncomputable abbrev c5_7 (x9 : CV) (h17 : CH) (x13 : CV) (k : CV → CH → Bool) : Bool :=
 xBuild (some (.inl [(0, 1), (1, 1), (2, 1), (3, 1), (4, 10), (14, 1), (15, 1)])) (some (.agg [(.int .u16 (.ofNat 0)), (.int .u16 (.ofNat 0)), (.int .u32 (.ofNat 0)), (.int .u32 (.ofNat 0)), (.int .u32 (.ofNat 0)), (.int .u32 (.ofNat 0)), (.int .u32 (.ofNat 0)), (.int .u32 (.ofNat 0)), (.int .u32 (.ofNat 0)), (.int .u32 (.ofNat 0)), (.int .u32 (.ofNat 0)), (.int .u32 (.ofNat 0)), (.int .u32 (.ofNat 0)), (.int .u32 (.ofNat 0)), (.int .u32 (.ofNat 0)), (.int .u32 (.ofNat 0))])) [] fun x30 =>
 bd31 x9 x30 h17 fun x31 h18 =>
 xExtract x31 0 fun x32 =>
 xExtract x31 1 fun x33 =>
 c5_6 x9 h18 x33 x13 k
noncomputable abbrev c5_8 (x77 : CV) (K60 : TupC 1 → CH → Bool) (h16 : CH) (x17 : CV) (x9 : CV) : Bool :=
 xIte x77
  (K60 ((.bool true), ()) h16)
  (xLoad (some (some 16)) x17 h16 fun x78 =>
  bd30 x9 (.int .i64 (.ofNat 0)) x78 h16 fun x79 h26 =>
  xBin (some (.int .i64)) .neq x79 (.int .i64 (.ofNat 180)) fun x80 =>
  xIte x80
   (K60 ((.bool true), ()) h26)
   (bd23 x9 (.int .i64 (.ofNat 1)) h26 fun x81 h27 =>
   xBin (some (.int .i64)) .neq x81 (.int .i64 (.ofNat 0)) fun x82 =>
   K60 (x82, ()) h27))
noncomputable abbrev c5_9 (x74 : CV) (x75 : CV) (h16 : CH) (K60 : TupC 1 → CH → Bool) (x27 : CV) (x17 : CV) (x9 : CV) : Bool :=
 xEq (some (.agg (.fld 0 (some none) .int (.fld 1 (some none) .int (.fld 2 (some none) .int (.fld 3 (some none) .int (.fld 4 (some (some 10)) (.fld 0 (some none) .int (.fld 1 (some none) .int (.fld 2 (some none) .int (.fld 3 (some none) .int (.fld 4 (some none) .int (.fld 5 (some none) .int (.fld 6 (some none) .int (.fld 7 (some none) .int (.fld 8 (some none) .int (.fld 9 (some none) .int .done)))))))))) (.fld 14 (some none) .int (.fld 15 (some none) .int .done))))))))) .neq x74 x75 h16 fun x76 =>
 xIte x76
  (K60 ((.bool true), ()) h16)
  (xBin (some (.int .i64)) .neq x27 (.int .i64 (.ofNat 59)) fun x77 =>
  c5_8 x77 K60 h16 x17 x9)
noncomputable abbrev c5_10 (x74 : CV) (h16 : CH) (K60 : TupC 1 → CH → Bool) (x27 : CV) (x17 : CV) (x9 : CV) : Bool :=
 xBuild (some (.inl [(0, 1), (1, 1), (2, 1), (3, 1), (4, 10), (14, 1), (15, 1)])) (some (.agg [(.int .u16 (.ofNat 0)), (.int .u16 (.ofNat 0)), (.int .u32 (.ofNat 0)), (.int .u32 (.ofNat 0)), (.int .u32 (.ofNat 0)), (.int .u32 (.ofNat 0)), (.int .u32 (.ofNat 0)), (.int .u32 (.ofNat 0)), (.int .u32 (.ofNat 0)), (.int .u32 (.ofNat 0)), (.int .u32 (.ofNat 0)), (.int .u32 (.ofNat 0)), (.int .u32 (.ofNat 0)), (.int .u32 (.ofNat 0)), (.int .u32 (.ofNat 0)), (.int .u32 (.ofNat 0))])) [] fun x75 =>
 c5_9 x74 x75 h16 K60 x27 x17 x9
noncomputable abbrev c5_11 (x69 : CV) (K60 : TupC 1 → CH → Bool) (h16 : CH) (x13 : CV) (x17 : CV) (x27 : CV) (x9 : CV) : Bool :=
 xBin (some (.int .u32)) .neq x69 (.int .u32 (.ofNat 38)) fun x70 =>
 xIte x70
  (K60 ((.bool true), ()) h16)
  (xAddr (some 2) x13 fun x71 =>
  xLoad (some none) x71 h16 fun x72 =>
  xBin (some (.int .u32)) .neq x72 (.int .u32 (.ofNat 32)) fun x73 =>
  xIte x73
   (K60 ((.bool true), ()) h16)
   (xLoad (some (some 16)) x17 h16 fun x74 =>
   c5_10 x74 h16 K60 x27 x17 x9))
noncomputable abbrev c5_12 (x24 : CV) (K60 : TupC 1 → CH → Bool) (h16 : CH) (x28 : CV) (x13 : CV) (x17 : CV) (x27 : CV) (x9 : CV) : Bool :=
 xBin (some (.int .i64)) .neq x24 (.int .i64 (.ofNat 2)) fun x65 =>
 xIte x65
  (K60 ((.bool true), ()) h16)
  (xBin (some (.int .i64)) .neq x28 (.int .i64 (.ofNat 0)) fun x66 =>
  xIte x66
   (K60 ((.bool true), ()) h16)
   (xAddr (some 4) x13 fun x67 =>
   xIdx (some (some 10, 1)) x67 (.int .i64 (.ofNat 0)) fun x68 =>
   xLoad (some none) x68 h16 fun x69 =>
   c5_11 x69 K60 h16 x13 x17 x27 x9))
noncomputable abbrev c5_13 (x12 : CV) (K60 : TupC 1 → CH → Bool) (h16 : CH) (x16 : CV) (x20 : CV) (x24 : CV) (x28 : CV) (x13 : CV) (x17 : CV) (x27 : CV) (x9 : CV) : Bool :=
 xBin (some (.int .i64)) .neq x12 (.int .i64 (.ofNat 0)) fun x62 =>
 xIte x62
  (K60 ((.bool true), ()) h16)
  (xBin (some (.int .i64)) .neq x16 (.int .i64 (.ofNat 0)) fun x63 =>
  xIte x63
   (K60 ((.bool true), ()) h16)
   (xBin (some (.int .i64)) .neq x20 (.int .i64 (.ofNat 2)) fun x64 =>
   xIte x64
    (K60 ((.bool true), ()) h16)
    (c5_12 x24 K60 h16 x28 x13 x17 x27 x9)))
noncomputable abbrev c5_14 (h13 : CH) (x23 : CV) (x9 : CV) (k : CV → CH → Bool) (x13 : CV) (x12 : CV) (x16 : CV) (x20 : CV) (x24 : CV) (x17 : CV) : Bool :=
 xBoxP 68 [(.int .u16 (.ofNat 0)), (.int .u16 (.ofNat 0)), (.int .u32 (.ofNat 0)), (.int .u32 (.ofNat 0)), (.int .u32 (.ofNat 0)), (.int .u32 (.ofNat 0)), (.int .u32 (.ofNat 0)), (.int .u32 (.ofNat 0)), (.int .u32 (.ofNat 0)), (.int .u32 (.ofNat 0)), (.int .u32 (.ofNat 0)), (.int .u32 (.ofNat 0)), (.int .u32 (.ofNat 0)), (.int .u32 (.ofNat 0)), (.int .u32 (.ofNat 0)), (.int .u32 (.ofNat 0))] h13 fun x25 h14 =>
 xStore (some 16) x25 x23 h14 fun h15 =>
 bd29 x9 h15 fun x26 h16 =>
 xExtract x26 0 fun x27 =>
 xExtract x26 1 fun x28 =>
 xJoin (n := 1) (fun s28 h17 =>
  xIte s28.1
   (k (.bool false) h17)
   (c5_7 x9 h17 x13 k))
 (fun K60 => c5_13 x12 K60 h16 x16 x20 x24 x28 x13 x17 x27 x9)
noncomputable abbrev c5_15 (h10 : CH) (x19 : CV) (x9 : CV) (k : CV → CH → Bool) (x13 : CV) (x12 : CV) (x16 : CV) (x20 : CV) (x17 : CV) : Bool :=
 xBoxP 68 [(.int .u16 (.ofNat 0)), (.int .u16 (.ofNat 0)), (.int .u32 (.ofNat 0)), (.int .u32 (.ofNat 0)), (.int .u32 (.ofNat 0)), (.int .u32 (.ofNat 0)), (.int .u32 (.ofNat 0)), (.int .u32 (.ofNat 0)), (.int .u32 (.ofNat 0)), (.int .u32 (.ofNat 0)), (.int .u32 (.ofNat 0)), (.int .u32 (.ofNat 0)), (.int .u32 (.ofNat 0)), (.int .u32 (.ofNat 0)), (.int .u32 (.ofNat 0)), (.int .u32 (.ofNat 0))] h10 fun x21 h11 =>
 xStore (some 16) x21 x19 h11 fun h12 =>
 bd28 x9 (.int .i64 (.ofNat 61)) h12 fun x22 h13 =>
 xExtract x22 0 fun x23 =>
 xExtract x22 1 fun x24 =>
 c5_14 h13 x23 x9 k x13 x12 x16 x20 x24 x17
noncomputable abbrev c5_16 (h7 : CH) (x15 : CV) (x9 : CV) (k : CV → CH → Bool) (x13 : CV) (x12 : CV) (x16 : CV) : Bool :=
 xBoxP 68 [(.int .u16 (.ofNat 0)), (.int .u16 (.ofNat 0)), (.int .u32 (.ofNat 0)), (.int .u32 (.ofNat 0)), (.int .u32 (.ofNat 0)), (.int .u32 (.ofNat 0)), (.int .u32 (.ofNat 0)), (.int .u32 (.ofNat 0)), (.int .u32 (.ofNat 0)), (.int .u32 (.ofNat 0)), (.int .u32 (.ofNat 0)), (.int .u32 (.ofNat 0)), (.int .u32 (.ofNat 0)), (.int .u32 (.ofNat 0)), (.int .u32 (.ofNat 0)), (.int .u32 (.ofNat 0))] h7 fun x17 h8 =>
 xStore (some 16) x17 x15 h8 fun h9 =>
 bd28 x9 (.int .i64 (.ofNat 0)) h9 fun x18 h10 =>
 xExtract x18 0 fun x19 =>
 xExtract x18 1 fun x20 =>
 c5_15 h10 x19 x9 k x13 x12 x16 x20 x17
noncomputable abbrev c5_17 (h4 : CH) (x11 : CV) (x9 : CV) (k : CV → CH → Bool) (x12 : CV) : Bool :=
 xBoxP 68 [(.int .u16 (.ofNat 0)), (.int .u16 (.ofNat 0)), (.int .u32 (.ofNat 0)), (.int .u32 (.ofNat 0)), (.int .u32 (.ofNat 0)), (.int .u32 (.ofNat 0)), (.int .u32 (.ofNat 0)), (.int .u32 (.ofNat 0)), (.int .u32 (.ofNat 0)), (.int .u32 (.ofNat 0)), (.int .u32 (.ofNat 0)), (.int .u32 (.ofNat 0)), (.int .u32 (.ofNat 0)), (.int .u32 (.ofNat 0)), (.int .u32 (.ofNat 0)), (.int .u32 (.ofNat 0))] h4 fun x13 h5 =>
 xStore (some 16) x13 x11 h5 fun h6 =>
 bd28 x9 (.int .i64 (.ofNat 2)) h6 fun x14 h7 =>
 xExtract x14 0 fun x15 =>
 xExtract x14 1 fun x16 =>
 c5_16 h7 x15 x9 k x13 x12 x16
noncomputable abbrev c5_18 (k : CV → CH → Bool) (x3 : CV) (x4 : CV) (h2 : CH) (x5 : CV) : Bool :=
 xJoin (n := 1) (fun s5 h3 =>
  xIte s5.1
   (k (.bool false) h3)
   (xNilCheck x3 fun x7 =>
   xAddr (some 1) x7 fun x8 =>
   xLoad (some none) x8 h3 fun x9 =>
   bd28 x9 (.int .i64 (.ofNat 1)) h3 fun x10 h4 =>
   xExtract x10 0 fun x11 =>
   xExtract x10 1 fun x12 =>
   c5_17 h4 x11 x9 k x12))
 (fun K82 => xUn .not x4 fun x84 =>
 xIte x84
  (K82 ((.bool true), ()) h2)
  (xUn .not x5 fun x85 =>
  xIte x85
   (K82 ((.bool true), ()) h2)
   (bd27 x3 h2 fun x86 h28 =>
   xUn .not x86 fun x87 =>
   K82 (x87, ()) h28)))
noncomputable def bd5 (h : CH) (k : CV → CH → Bool) : Bool :=
 bd15 h fun x1 h1 =>
 bd16 x1 h1 fun x2 h2 =>
 xExtract x2 0 fun x3 =>
 xExtract x2 1 fun x4 =>
 xExtract x2 2 fun x5 =>
 c5_18 k x3 x4 h2 x5
noncomputable abbrev ex5 : Ex := fun args h k => a0 args (bd5  h k)
set_option maxRecDepth 100000 in
theorem sim5 : SimF Tryz.prog 5 ex5 := fun args h k hk => by
  obtain ⟨rfl, hk⟩ := a0_ok hk
  exact sim_of (qf := (fun f => [75, 120, 121, 145, 146, 175, 181, 196, 197, 210, 220, 246].contains f)) (Z := zs) (C := [(15, ex15), (16, ex16), (28, ex28), (29, ex29), (31, ex31), (32, ex32), (33, ex33), (30, ex30), (23, ex23), (27, ex27)]) (T := []) ⟨zerosB_ok zsOk, (exCons (by kernel_rfl) sim15 (exCons (by kernel_rfl) sim16 (exCons (by kernel_rfl) sim28 (exCons (by kernel_rfl) sim29 (exCons (by kernel_rfl) sim31 (exCons (by kernel_rfl) sim32 (exCons (by kernel_rfl) sim33 (exCons (by kernel_rfl) sim30 (exCons (by kernel_rfl) sim23 (exCons (by kernel_rfl) sim27 exNil))))))))))⟩ (.seq .nil (.seq .nil (.seq (.join [36] [24, 25, 26, 27, 28, 29, 30, 31, 32, 33, 34, 35] .nil .nil) (.seq .nil (.seq .nil (.seq .nil (.seq .nil (.seq .nil (.seq .nil (.seq (.join [114] [66, 67, 68, 69, 70, 71, 72, 73, 74, 75, 76, 77, 78, 79, 80, 81, 82, 83, 84, 85, 86, 87, 88, 89, 90, 91, 92, 93, 94, 95, 96, 97, 98, 99, 100, 101, 102, 103, 104, 105, 106, 107, 108, 109, 110, 111, 112, 113] .nil .nil) .nil)))))))))) Tryz.func5 _ h k (Eq.mp (by kernel_rfl : (bd5  h k = true) = (xFn Tryz.prog (fun f => [75, 120, 121, 145, 146, 175, 181, 196, 197, 210, 220, 246].contains f) zs [(15, ex15), (16, ex16), (28, ex28), (29, ex29), (31, ex31), (32, ex32), (33, ex33), (30, ex30), (23, ex23), (27, ex27)] [] Tryz.f5 (.seq .nil (.seq .nil (.seq (.join [36] [24, 25, 26, 27, 28, 29, 30, 31, 32, 33, 34, 35] .nil .nil) (.seq .nil (.seq .nil (.seq .nil (.seq .nil (.seq .nil (.seq .nil (.seq (.join [114] [66, 67, 68, 69, 70, 71, 72, 73, 74, 75, 76, 77, 78, 79, 80, 81, 82, 83, 84, 85, 86, 87, 88, 89, 90, 91, 92, 93, 94, 95, 96, 97, 98, 99, 100, 101, 102, 103, 104, 105, 106, 107, 108, 109, 110, 111, 112, 113] .nil .nil) .nil)))))))))) [] h k = true)) hk)
theorem ok5 : ex5 [] h0 (fun z _ => isTrue z) = true := by kernel_rfl
end Go.Proofs
