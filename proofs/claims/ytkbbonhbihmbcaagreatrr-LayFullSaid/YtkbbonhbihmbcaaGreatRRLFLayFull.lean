/- Functions, run; each tied to the program. -/
import Derived.Test.YtkbbonhbihmbcaaGreatRRLFx15
set_option linter.unusedVariables false
set_option linter.unusedSimpArgs false
namespace Go.Proofs
open Go.Vc Go.Xc

/- undercroft/undercroftlaw15.LayFull -/
noncomputable abbrev c4_1 (x53 : CV) (h24 : CH) (x58 : CV) (x65 : CV) (k : CV → CH → Bool) : Bool :=
 xAddr (some 2) x53 fun x72 =>
 xLoad (some none) x72 h24 fun x73 =>
 xBin (some (.int .u32)) .eql x73 (.int .u32 (.ofNat 212992)) fun x74 =>
 xIte x74
  (xBin (some (.int .i64)) .eql x58 (.int .i64 (.ofNat 1)) fun x75 =>
  xIte x75
   (xBin (some (.int .i64)) .eql x65 (.int .i64 (.ofNat 0)) fun x76 =>
   k x76 h24)
   (k (.bool false) h24))
  (k (.bool false) h24)
noncomputable abbrev c4_2 (x68 : CV) (x59 : CV) (x66 : CV) (x45 : CV) (x53 : CV) (h24 : CH) (x58 : CV) (x65 : CV) (k : CV → CH → Bool) : Bool :=
 xIte x68
  (xBin (some (.int .i64)) .eql x59 (.int .i64 (.ofNat 0)) fun x69 =>
  xIte x69
   (xBin (some (.int .i64)) .eql x66 (.int .i64 (.ofNat 16)) fun x70 =>
   xIte x70
    (xBin (some (.int .i64)) .eql x45 (.int .i64 (.ofNat 8192)) fun x71 =>
    xIte x71
     (c4_1 x53 h24 x58 x65 k)
     (k (.bool false) h24))
    (k (.bool false) h24))
   (k (.bool false) h24))
  (k (.bool false) h24)
noncomputable abbrev c4_3 (h22 : CH) (x62 : CV) (x46 : CV) (x52 : CV) (x59 : CV) (x45 : CV) (x53 : CV) (x58 : CV) (k : CV → CH → Bool) : Bool :=
 xMake (some (5, 1, 1, true)) (some [(.bytes 1 0)]) (.int .i64 (.ofNat 8192)) (.int .i64 (.ofNat 8192)) h22 fun x63 h23 =>
 bd18 x62 (.int .i64 (.ofNat 2)) (.int .i64 (.ofNat 212992)) x63 h23 fun x64 h24 =>
 xExtract x64 0 fun x65 =>
 xExtract x64 1 fun x66 =>
 xBin (some (.int .i64)) .eql x46 (.int .i64 (.ofNat 0)) fun x67 =>
 xIte x67
  (xBin (some (.int .i64)) .eql x52 (.int .i64 (.ofNat 0)) fun x68 =>
  c4_2 x68 x59 x66 x45 x53 h24 x58 x65 k)
  (k (.bool false) h24)
noncomputable abbrev c4_4 (h19 : CH) (x51 : CV) (x36 : CV) (x46 : CV) (x52 : CV) (x45 : CV) (k : CV → CH → Bool) : Bool :=
 xBoxP 78 [(.int .u16 (.ofNat 0)), (.int .u16 (.ofNat 0)), (.int .u32 (.ofNat 0)), (.int .u32 (.ofNat 0)), (.int .u32 (.ofNat 0)), (.int .u32 (.ofNat 0)), (.int .u32 (.ofNat 0)), (.int .u32 (.ofNat 0)), (.int .u32 (.ofNat 0)), (.int .u32 (.ofNat 0)), (.int .u32 (.ofNat 0)), (.int .u32 (.ofNat 0)), (.int .u32 (.ofNat 0)), (.int .u32 (.ofNat 0)), (.int .u32 (.ofNat 0)), (.int .u32 (.ofNat 0))] h19 fun x53 h20 =>
 xStore (some 16) x53 x51 h20 fun h21 =>
 xNilCheck x36 fun x54 =>
 xAddr (some 1) x54 fun x55 =>
 xLoad (some none) x55 h21 fun x56 =>
 bd20 x56 h21 fun x57 h22 =>
 xExtract x57 0 fun x58 =>
 xExtract x57 1 fun x59 =>
 xNilCheck x36 fun x60 =>
 xAddr (some 1) x60 fun x61 =>
 xLoad (some none) x61 h22 fun x62 =>
 c4_3 h22 x62 x46 x52 x59 x45 x53 x58 k
noncomputable abbrev c4_5 (x42 : CV) (x43 : CV) (h17 : CH) (x36 : CV) (k : CV → CH → Bool) : Bool :=
 bd18 x42 (.int .i64 (.ofNat 2)) (.int .i64 (.ofNat 204800)) x43 h17 fun x44 h18 =>
 xExtract x44 0 fun x45 =>
 xExtract x44 1 fun x46 =>
 xNilCheck x36 fun x47 =>
 xAddr (some 1) x47 fun x48 =>
 xLoad (some none) x48 h18 fun x49 =>
 bd19 x49 (.int .i64 (.ofNat 2)) h18 fun x50 h19 =>
 xExtract x50 0 fun x51 =>
 xExtract x50 1 fun x52 =>
 c4_4 h19 x51 x36 x46 x52 x45 k
noncomputable abbrev c4_6 (x78 : CV) (K76 : TupC 1 → CH → Bool) (h15 : CH) (x38 : CV) (x3 : CV) : Bool :=
 xIte x78
  (K76 ((.bool true), ()) h15)
  (xUn .not x38 fun x79 =>
  xIte x79
   (K76 ((.bool true), ()) h15)
   (xAddr (some 3) x3 fun x80 =>
   xAddr (some 1) x80 fun x81 =>
   xLoad (some none) x81 h15 fun x82 =>
   xBin (some (.int .i64)) .neq x82 (.int .i64 (.ofNat 9)) fun x83 =>
   xIte x83
    (K76 ((.bool true), ()) h15)
    (ex17 [] h15 fun x84 h25 =>
    xUn .not x84 fun x85 =>
    K76 (x85, ()) h25)))
noncomputable abbrev c4_7 (k : CV → CH → Bool) (x36 : CV) (x37 : CV) (h15 : CH) (x38 : CV) (x3 : CV) : Bool :=
 xJoin (n := 1) (fun s38 h16 =>
  xIte s38.1
   (k (.bool false) h16)
   (xNilCheck x36 fun x40 =>
   xAddr (some 1) x40 fun x41 =>
   xLoad (some none) x41 h16 fun x42 =>
   xMake (some (5, 1, 1, true)) (some [(.bytes 1 0)]) (.int .i64 (.ofNat 20000)) (.int .i64 (.ofNat 20000)) h16 fun x43 h17 =>
   c4_5 x42 x43 h17 x36 k))
 (fun K76 => xUn .not x37 fun x78 =>
 c4_6 x78 K76 h15 x38 x3)
noncomputable abbrev c4_8 (x23 : CV) (x27 : CV) (x31 : CV) (x3 : CV) (h13 : CH) (k : CV → CH → Bool) : Bool :=
 xBuild (some (.inl [(0, 1), (1, 1), (2, 1)])) (some (.agg [.nils, (.int .i64 (.ofNat 0)), (.int .i64 (.ofNat 0))])) [(0, x23), (1, x27), (2, x31)] fun x32 =>
 xAddr (some 3) x3 fun x33 =>
 xStore (some 3) x33 x32 h13 fun h14 =>
 xLoad (some (some 7)) x3 h14 fun x34 =>
 bd9 x34 h14 fun x35 h15 =>
 xExtract x35 0 fun x36 =>
 xExtract x35 1 fun x37 =>
 xExtract x35 2 fun x38 =>
 c4_7 k x36 x37 h15 x38 x3
noncomputable abbrev c4_9 (x3 : CV) (h13 : CH) (x23 : CV) (k : CV → CH → Bool) : Bool :=
 xAddr (some 3) x3 fun x24 =>
 xAddr (some 1) x24 fun x25 =>
 xLoad (some none) x25 h13 fun x26 =>
 xBin (some (.int .i64)) .sub x26 (.int .i64 (.ofNat 2)) fun x27 =>
 xAddr (some 3) x3 fun x28 =>
 xAddr (some 2) x28 fun x29 =>
 xLoad (some none) x29 h13 fun x30 =>
 xBin (some (.int .i64)) .sub x30 (.int .i64 (.ofNat 1)) fun x31 =>
 c4_8 x23 x27 x31 x3 h13 k
noncomputable abbrev c4_10 (x20 : CV) (x19 : CV) (h11 : CH) (x9 : CV) (x3 : CV) (k : CV → CH → Bool) : Bool :=
 xStore (some 7) x20 x19 h11 fun h12 =>
 xLoad (some (some 7)) x9 h12 fun x21 =>
 xLoad (some (some 7)) x20 h12 fun x22 =>
 xNewS (some (66, 7, 88, false)) (some [(.int .i64 (.ofNat 0)), (.int .u16 (.ofNat 0)), (.int .i64 (.ofNat 0)), (.int .i64 (.ofNat 0)), (.int .i64 (.ofNat 0)), .nils, .nils]) 2 [(0, x21), (1, x22)] h12 fun x23 h13 =>
 c4_9 x3 h13 x23 k
noncomputable abbrev c4_11 (x18 : CV) (h10 : CH) (x9 : CV) (x3 : CV) (k : CV → CH → Bool) : Bool :=
 xBuild (some (.inl [(0, 1), (1, 1), (2, 1), (3, 1), (4, 1), (5, 1), (6, 1)])) (some (.agg [(.int .i64 (.ofNat 0)), (.int .u16 (.ofNat 0)), (.int .i64 (.ofNat 0)), (.int .i64 (.ofNat 0)), (.int .i64 (.ofNat 0)), .nils, .nils])) [(0, (.int .i64 (.ofNat 2))), (1, (.int .u16 (.ofNat 1))), (2, (.int .i64 (.ofNat 1))), (3, (.int .i64 (.ofNat 12000))), (4, (.int .i64 (.ofNat 2))), (5, x18)] fun x19 =>
 xBoxP 66 [(.int .i64 (.ofNat 0)), (.int .u16 (.ofNat 0)), (.int .i64 (.ofNat 0)), (.int .i64 (.ofNat 0)), (.int .i64 (.ofNat 0)), .nils, .nils] h10 fun x20 h11 =>
 c4_10 x20 x19 h11 x9 x3 k
noncomputable abbrev c4_12 (x12 : CV) (x14 : CV) (h7 : CH) (x9 : CV) (x3 : CV) (k : CV → CH → Bool) : Bool :=
 xApp (some (68, 2, 24, false)) x12 x14 h7 fun x15 h8 =>
 xAddr (some 6) x9 fun x16 =>
 xStore (some 1) x16 x15 h8 fun h9 =>
 xBuild (some (.inl [(0, 1), (1, 1024)])) (some (.agg [(.int .i64 (.ofNat 0)), (.bytes 1024 0)])) [(0, (.int .i64 (.ofNat 11)))] fun x17 =>
 xNewS (some (72, 1025, 1032, false)) (some [(.int .i64 (.ofNat 0)), (.bytes 1024 0)]) 1 [(0, x17)] h9 fun x18 h10 =>
 c4_11 x18 h10 x9 x3 k
noncomputable abbrev c4_13 (x9 : CV) (h6 : CH) (x3 : CV) (k : CV → CH → Bool) : Bool :=
 xAddr (some 6) x9 fun x11 =>
 xLoad (some none) x11 h6 fun x12 =>
 xBuild (some (.inl [(0, 1), (1, 1)])) (some (.agg [(.int .u16 (.ofNat 0)), (.str ⟨#[]⟩)])) [(0, (.int .u16 (.ofNat 2))), (1, (.str ⟨#[97]⟩))] fun x13 =>
 xNewS (some (68, 2, 24, false)) (some [(.int .u16 (.ofNat 0)), (.str ⟨#[]⟩)]) 1 [(0, x13)] h6 fun x14 h7 =>
 c4_12 x12 x14 h7 x9 x3 k
noncomputable abbrev c4_14 (x6 : CV) (h3 : CH) (x3 : CV) (k : CV → CH → Bool) : Bool :=
 xIdx (some (none, 7)) x6 (.int .i64 (.ofNat 0)) fun x7 =>
 xLoad (some (some 7)) x7 h3 fun x8 =>
 xBoxP 66 [(.int .i64 (.ofNat 0)), (.int .u16 (.ofNat 0)), (.int .i64 (.ofNat 0)), (.int .i64 (.ofNat 0)), (.int .i64 (.ofNat 0)), .nils, .nils] h3 fun x9 h4 =>
 xStore (some 7) x9 x8 h4 fun h5 =>
 xAddr (some 3) x9 fun x10 =>
 xStore (some 1) x10 (.int .i64 (.ofNat 48)) h5 fun h6 =>
 c4_13 x9 h6 x3 k
noncomputable def bd4 (h : CH) (k : CV → CH → Bool) : Bool :=
 xBuild (some (.inl [(0, 1), (1, 1), (2, 1)])) (some (.agg [(.int .i64 (.ofNat 0)), (.int .i64 (.ofNat 0)), (.int .i64 (.ofNat 0))])) [(0, (.int .i64 (.ofNat 50))), (1, (.int .i64 (.ofNat 32))), (2, (.int .i64 (.ofNat 60)))] fun x1 =>
 bd16 x1 h fun x2 h1 =>
 xBoxP 32 [(.int .i64 (.ofNat 0)), (.int .i64 (.ofNat 0)), (.int .i64 (.ofNat 0)), .nils, (.int .i64 (.ofNat 0)), (.int .i64 (.ofNat 0)), (.int .i64 (.ofNat 0))] h1 fun x3 h2 =>
 xStore (some 7) x3 x2 h2 fun h3 =>
 xAddr (some 3) x3 fun x4 =>
 xAddr (some 0) x4 fun x5 =>
 xLoad (some none) x5 h3 fun x6 =>
 c4_14 x6 h3 x3 k
noncomputable abbrev ex4 : Ex := fun args h k => a0 args (bd4  h k)
set_option maxRecDepth 100000 in
theorem sim4 : SimF Tryz.prog 4 ex4 := fun args h k hk => by
  obtain ⟨rfl, hk⟩ := a0_ok hk
  exact sim_of (qf := (fun f => [83, 84, 97, 101, 102, 103, 115, 122, 138, 144, 154, 161, 162, 175, 185, 214].contains f)) (Z := zs) (C := [(16, ex16), (9, ex9), (18, ex18), (19, ex19), (20, ex20), (17, ex17)]) (T := []) ⟨zerosB_ok zsOk, (exCons (by kernel_rfl) sim16 (exCons (by kernel_rfl) sim9 (exCons (by kernel_rfl) sim18 (exCons (by kernel_rfl) sim19 (exCons (by kernel_rfl) sim20 (exCons (by kernel_rfl) sim17 exNil))))))⟩ (.seq .nil (.seq .nil (.seq .nil (.seq .nil (.seq .nil (.seq .nil (.seq .nil (.seq .nil (.seq (.join [66] [51, 52, 53, 54, 55, 56, 57, 58, 59, 60, 61, 62, 63, 64, 65] .nil .nil) .nil))))))))) Tryz.func4 _ h k (Eq.mp (by kernel_rfl : (bd4  h k = true) = (xFn Tryz.prog (fun f => [83, 84, 97, 101, 102, 103, 115, 122, 138, 144, 154, 161, 162, 175, 185, 214].contains f) zs [(16, ex16), (9, ex9), (18, ex18), (19, ex19), (20, ex20), (17, ex17)] [] Tryz.f4 (.seq .nil (.seq .nil (.seq .nil (.seq .nil (.seq .nil (.seq .nil (.seq .nil (.seq .nil (.seq (.join [66] [51, 52, 53, 54, 55, 56, 57, 58, 59, 60, 61, 62, 63, 64, 65] .nil .nil) .nil))))))))) [] h k = true)) hk)
set_option maxHeartbeats 4000000 in
theorem ok4 : ex4 [] h0 (fun z _ => isTrue z) = true := by kernel_rfl
end Go.Proofs
