/- Functions, run; each tied to the program. -/
import Derived.Test.YtmjngdocmilolaaGreatRx09
set_option linter.unusedVariables false
set_option linter.unusedSimpArgs false
namespace Go.Proofs
open Go.Vc Go.Xc

/- undercroft/undercroftlaw09.RoomNames -/
noncomputable abbrev c4_1 (x84 : CV) (h18 : CH) (x3 : CV) (k : CV → CH → Bool) : Bool :=
 bd24 x84 (.int .i64 (.ofNat 37)) h18 fun x85 h19 =>
 xBin (some (.int .i64)) .eql x85 (.int .i64 (.ofNat 4)) fun x86 =>
 xIte x86
  (xNilCheck x3 fun x87 =>
  xAddr (some 1) x87 fun x88 =>
  xLoad (some none) x88 h19 fun x89 =>
  bd26 x89 h19 fun x90 h20 =>
  xBin (some (.int .i64)) .eql x90 (.int .i64 (.ofNat 0)) fun x91 =>
  k x91 h20)
  (k (.bool false) h19)
noncomputable abbrev c4_2 (x3 : CV) (h17 : CH) (k : CV → CH → Bool) : Bool :=
 xNilCheck x3 fun x77 =>
 xAddr (some 1) x77 fun x78 =>
 xLoad (some none) x78 h17 fun x79 =>
 bd24 x79 (.int .i64 (.ofNat 45)) h17 fun x80 h18 =>
 xBin (some (.int .i64)) .eql x80 (.int .i64 (.ofNat 4)) fun x81 =>
 xIte x81
  (xNilCheck x3 fun x82 =>
  xAddr (some 1) x82 fun x83 =>
  xLoad (some none) x83 h18 fun x84 =>
  c4_1 x84 h18 x3 k)
  (k (.bool false) h18)
noncomputable abbrev c4_3 (x100 : CV) (K91 : TupC 1 → CH → Bool) (h15 : CH) (x58 : CV) (x64 : CV) (x70 : CV) : Bool :=
 xIte x100
  (K91 ((.bool true), ()) h15)
  (xBin (some (.int .i64)) .neq x58 (.int .i64 (.ofNat 39)) fun x101 =>
  xIte x101
   (K91 ((.bool true), ()) h15)
   (xBin (some (.int .i64)) .neq x64 (.int .i64 (.ofNat 41)) fun x102 =>
   xIte x102
    (K91 ((.bool true), ()) h15)
    (xBin (some (.int .i64)) .neq x70 (.int .i64 (.ofNat 358)) fun x103 =>
    K91 (x103, ()) h15)))
noncomputable abbrev c4_4 (x97 : CV) (K91 : TupC 1 → CH → Bool) (h15 : CH) (x71 : CV) (x42 : CV) (x48 : CV) (x58 : CV) (x64 : CV) (x70 : CV) : Bool :=
 xIte x97
  (K91 ((.bool true), ()) h15)
  (xBin (some (.int .i64)) .neq x71 (.int .i64 (.ofNat 0)) fun x98 =>
  xIte x98
   (K91 ((.bool true), ()) h15)
   (xBin (some (.int .i64)) .neq x42 (.int .i64 (.ofNat 39)) fun x99 =>
   xIte x99
    (K91 ((.bool true), ()) h15)
    (xBin (some (.int .i64)) .neq x48 (.int .i64 (.ofNat 40)) fun x100 =>
    c4_3 x100 K91 h15 x58 x64 x70)))
noncomputable abbrev c4_5 (x94 : CV) (K91 : TupC 1 → CH → Bool) (h15 : CH) (x53 : CV) (x59 : CV) (x65 : CV) (x71 : CV) (x42 : CV) (x48 : CV) (x58 : CV) (x64 : CV) (x70 : CV) : Bool :=
 xIte x94
  (K91 ((.bool true), ()) h15)
  (xBin (some (.int .i64)) .neq x53 (.int .i64 (.ofNat 0)) fun x95 =>
  xIte x95
   (K91 ((.bool true), ()) h15)
   (xBin (some (.int .i64)) .neq x59 (.int .i64 (.ofNat 0)) fun x96 =>
   xIte x96
    (K91 ((.bool true), ()) h15)
    (xBin (some (.int .i64)) .neq x65 (.int .i64 (.ofNat 0)) fun x97 =>
    c4_4 x97 K91 h15 x71 x42 x48 x58 x64 x70)))
noncomputable abbrev c4_6 (k : CV → CH → Bool) (x3 : CV) (x43 : CV) (h15 : CH) (x49 : CV) (x53 : CV) (x59 : CV) (x65 : CV) (x71 : CV) (x42 : CV) (x48 : CV) (x58 : CV) (x64 : CV) (x70 : CV) : Bool :=
 xJoin (n := 1) (fun s71 h16 =>
  xIte s71.1
   (k (.bool false) h16)
   (bd22 .nilp h16 fun x73 h17 =>
   xExtract x73 0 fun x74 =>
   xExtract x73 1 fun x75 =>
   xBin (some (.int .i64)) .eql x75 (.int .i64 (.ofNat 1)) fun x76 =>
   xIte x76
    (c4_2 x3 h17 k)
    (k (.bool false) h17)))
 (fun K91 => xBin (some (.int .i64)) .neq x43 (.int .i64 (.ofNat 0)) fun x93 =>
 xIte x93
  (K91 ((.bool true), ()) h15)
  (xBin (some (.int .i64)) .neq x49 (.int .i64 (.ofNat 0)) fun x94 =>
  c4_5 x94 K91 h15 x53 x59 x65 x71 x42 x48 x58 x64 x70))
noncomputable abbrev c4_7 (x60 : CV) (h13 : CH) (x3 : CV) (k : CV → CH → Bool) (x43 : CV) (x49 : CV) (x53 : CV) (x59 : CV) (x42 : CV) (x48 : CV) (x58 : CV) : Bool :=
 xAddr (some 1) x60 fun x61 =>
 xLoad (some none) x61 h13 fun x62 =>
 bd22 x62 h13 fun x63 h14 =>
 xExtract x63 0 fun x64 =>
 xExtract x63 1 fun x65 =>
 xNilCheck x3 fun x66 =>
 xAddr (some 1) x66 fun x67 =>
 xLoad (some none) x67 h14 fun x68 =>
 bd25 x68 h14 fun x69 h15 =>
 xExtract x69 0 fun x70 =>
 xExtract x69 1 fun x71 =>
 c4_6 k x3 x43 h15 x49 x53 x59 x65 x71 x42 x48 x58 x64 x70
noncomputable abbrev c4_8 (x50 : CV) (h11 : CH) (x3 : CV) (k : CV → CH → Bool) (x43 : CV) (x49 : CV) (x42 : CV) (x48 : CV) : Bool :=
 xAddr (some 1) x50 fun x51 =>
 xLoad (some none) x51 h11 fun x52 =>
 bd24 x52 (.int .i64 (.ofNat 39)) h11 fun x53 h12 =>
 xNilCheck x3 fun x54 =>
 xAddr (some 1) x54 fun x55 =>
 xLoad (some none) x55 h12 fun x56 =>
 bd22 x56 h12 fun x57 h13 =>
 xExtract x57 0 fun x58 =>
 xExtract x57 1 fun x59 =>
 xNilCheck x3 fun x60 =>
 c4_7 x60 h13 x3 k x43 x49 x53 x59 x42 x48 x58
noncomputable abbrev c4_9 (x38 : CV) (h9 : CH) (x3 : CV) (k : CV → CH → Bool) : Bool :=
 xAddr (some 1) x38 fun x39 =>
 xLoad (some none) x39 h9 fun x40 =>
 bd22 x40 h9 fun x41 h10 =>
 xExtract x41 0 fun x42 =>
 xExtract x41 1 fun x43 =>
 xNilCheck x3 fun x44 =>
 xAddr (some 1) x44 fun x45 =>
 xLoad (some none) x45 h10 fun x46 =>
 bd22 x46 h10 fun x47 h11 =>
 xExtract x47 0 fun x48 =>
 xExtract x47 1 fun x49 =>
 xNilCheck x3 fun x50 =>
 c4_8 x50 h11 x3 k x43 x49 x42 x48
noncomputable abbrev c4_10 (x11 : CV) (K103 : TupC 1 → CH → Bool) (h8 : CH) (x17 : CV) (x3 : CV) : Bool :=
 xUn .not x11 fun x110 =>
 xIte x110
  (K103 ((.bool true), ()) h8)
  (xIte x17
   (K103 ((.bool true), ()) h8)
   (xNilCheck x3 fun x111 =>
   xAddr (some 1) x111 fun x112 =>
   xLoad (some none) x112 h8 fun x113 =>
   bd23 x113 (.int .i64 (.ofNat 9)) h8 fun x114 h21 =>
   xBin (some (.int .i64)) .neq x114 (.int .i64 (.ofNat 0)) fun x115 =>
   K103 (x115, ()) h21))
noncomputable abbrev c4_11 (x24 : CV) (K103 : TupC 1 → CH → Bool) (h8 : CH) (x30 : CV) (x36 : CV) (x11 : CV) (x17 : CV) (x3 : CV) : Bool :=
 xBin (some (.int .i64)) .neq x24 (.int .i64 (.ofNat 4)) fun x107 =>
 xIte x107
  (K103 ((.bool true), ()) h8)
  (xBin (some (.int .i64)) .neq x30 (.int .i64 (.ofNat 4)) fun x108 =>
  xIte x108
   (K103 ((.bool true), ()) h8)
   (xBin (some (.int .i64)) .neq x36 (.int .i64 (.ofNat 180)) fun x109 =>
   xIte x109
    (K103 ((.bool true), ()) h8)
    (c4_10 x11 K103 h8 x17 x3)))
noncomputable abbrev c4_12 (k : CV → CH → Bool) (x3 : CV) (x12 : CV) (h8 : CH) (x18 : CV) (x24 : CV) (x30 : CV) (x36 : CV) (x11 : CV) (x17 : CV) : Bool :=
 xJoin (n := 1) (fun s36 h9 =>
  xIte s36.1
   (k (.bool false) h9)
   (xNilCheck x3 fun x38 =>
   c4_9 x38 h9 x3 k))
 (fun K103 => xBin (some (.int .i64)) .neq x12 (.int .i64 (.ofNat 0)) fun x105 =>
 xIte x105
  (K103 ((.bool true), ()) h8)
  (xBin (some (.int .i64)) .neq x18 (.int .i64 (.ofNat 0)) fun x106 =>
  xIte x106
   (K103 ((.bool true), ()) h8)
   (c4_11 x24 K103 h8 x30 x36 x11 x17 x3)))
noncomputable abbrev c4_13 (x25 : CV) (h6 : CH) (x3 : CV) (k : CV → CH → Bool) (x12 : CV) (x18 : CV) (x24 : CV) (x11 : CV) (x17 : CV) : Bool :=
 xAddr (some 1) x25 fun x26 =>
 xLoad (some none) x26 h6 fun x27 =>
 bd21 x27 (.int .i64 (.ofNat 400)) h6 fun x28 h7 =>
 xExtract x28 0 fun x29 =>
 xExtract x28 1 fun x30 =>
 xNilCheck x3 fun x31 =>
 xAddr (some 1) x31 fun x32 =>
 xLoad (some none) x32 h7 fun x33 =>
 bd22 x33 h7 fun x34 h8 =>
 xExtract x34 0 fun x35 =>
 xExtract x34 1 fun x36 =>
 c4_12 k x3 x12 h8 x18 x24 x30 x36 x11 x17
noncomputable abbrev c4_14 (x15 : CV) (h4 : CH) (x3 : CV) (k : CV → CH → Bool) (x12 : CV) (x11 : CV) : Bool :=
 bd21 x15 (.int .i64 (.ofNat 39)) h4 fun x16 h5 =>
 xExtract x16 0 fun x17 =>
 xExtract x16 1 fun x18 =>
 xNilCheck x3 fun x19 =>
 xAddr (some 1) x19 fun x20 =>
 xLoad (some none) x20 h5 fun x21 =>
 bd21 x21 (.int .i64 (.ofNat 37)) h5 fun x22 h6 =>
 xExtract x22 0 fun x23 =>
 xExtract x22 1 fun x24 =>
 xNilCheck x3 fun x25 =>
 c4_13 x25 h6 x3 k x12 x18 x24 x11 x17
noncomputable abbrev c4_15 (k : CV → CH → Bool) (x3 : CV) (x4 : CV) (h2 : CH) (x5 : CV) : Bool :=
 xJoin (n := 1) (fun s5 h3 =>
  xIte s5.1
   (k (.bool false) h3)
   (xNilCheck x3 fun x7 =>
   xAddr (some 1) x7 fun x8 =>
   xLoad (some none) x8 h3 fun x9 =>
   bd21 x9 (.int .i64 (.ofNat 38)) h3 fun x10 h4 =>
   xExtract x10 0 fun x11 =>
   xExtract x10 1 fun x12 =>
   xNilCheck x3 fun x13 =>
   xAddr (some 1) x13 fun x14 =>
   xLoad (some none) x14 h4 fun x15 =>
   c4_14 x15 h4 x3 k x12 x11))
 (fun K115 => xUn .not x4 fun x117 =>
 xIte x117
  (K115 ((.bool true), ()) h2)
  (xUn .not x5 fun x118 =>
  xIte x118
   (K115 ((.bool true), ()) h2)
   (ex20 [] h2 fun x119 h22 =>
   xUn .not x119 fun x120 =>
   K115 (x120, ()) h22)))
noncomputable def bd4 (h : CH) (k : CV → CH → Bool) : Bool :=
 bd15 h fun x1 h1 =>
 bd16 x1 h1 fun x2 h2 =>
 xExtract x2 0 fun x3 =>
 xExtract x2 1 fun x4 =>
 xExtract x2 2 fun x5 =>
 c4_15 k x3 x4 h2 x5
noncomputable abbrev ex4 : Ex := fun args h k => a0 args (bd4  h k)
set_option maxRecDepth 100000 in
theorem sim4 : SimF Tryz.prog 4 ex4 := fun args h k hk => by
  obtain ⟨rfl, hk⟩ := a0_ok hk
  exact sim_of (qf := (fun f => [75, 120, 121, 145, 146, 175, 181, 196, 197, 210, 220, 246].contains f)) (Z := zs) (C := [(15, ex15), (16, ex16), (21, ex21), (22, ex22), (24, ex24), (25, ex25), (26, ex26), (23, ex23), (20, ex20)]) (T := []) ⟨zerosB_ok zsOk, (exCons (by kernel_rfl) sim15 (exCons (by kernel_rfl) sim16 (exCons (by kernel_rfl) sim21 (exCons (by kernel_rfl) sim22 (exCons (by kernel_rfl) sim24 (exCons (by kernel_rfl) sim25 (exCons (by kernel_rfl) sim26 (exCons (by kernel_rfl) sim23 (exCons (by kernel_rfl) sim20 exNil)))))))))⟩ (.seq .nil (.seq .nil (.seq (.join [37] [26, 27, 28, 29, 30, 31, 32, 33, 34, 35, 36] .nil .nil) (.seq .nil (.seq .nil (.seq .nil (.seq .nil (.seq .nil (.seq (.join [110] [78, 79, 80, 81, 82, 83, 84, 85, 86, 87, 88, 89, 90, 91, 92, 93, 94, 95, 96, 97, 98, 99, 100, 101, 102, 103, 104, 105, 106, 107, 108, 109] .nil .nil) (.seq .nil (.seq .nil (.seq .nil (.seq .nil (.seq .nil (.seq .nil (.seq (.join [197] [156, 157, 158, 159, 160, 161, 162, 163, 164, 165, 166, 167, 168, 169, 170, 171, 172, 173, 174, 175, 176, 177, 178, 179, 180, 181, 182, 183, 184, 185, 186, 187, 188, 189, 190, 191, 192, 193, 194, 195, 196] .nil .nil) .nil)))))))))))))))) Tryz.func4 _ h k (Eq.mp (by kernel_rfl : (bd4  h k = true) = (xFn Tryz.prog (fun f => [75, 120, 121, 145, 146, 175, 181, 196, 197, 210, 220, 246].contains f) zs [(15, ex15), (16, ex16), (21, ex21), (22, ex22), (24, ex24), (25, ex25), (26, ex26), (23, ex23), (20, ex20)] [] Tryz.f4 (.seq .nil (.seq .nil (.seq (.join [37] [26, 27, 28, 29, 30, 31, 32, 33, 34, 35, 36] .nil .nil) (.seq .nil (.seq .nil (.seq .nil (.seq .nil (.seq .nil (.seq (.join [110] [78, 79, 80, 81, 82, 83, 84, 85, 86, 87, 88, 89, 90, 91, 92, 93, 94, 95, 96, 97, 98, 99, 100, 101, 102, 103, 104, 105, 106, 107, 108, 109] .nil .nil) (.seq .nil (.seq .nil (.seq .nil (.seq .nil (.seq .nil (.seq .nil (.seq (.join [197] [156, 157, 158, 159, 160, 161, 162, 163, 164, 165, 166, 167, 168, 169, 170, 171, 172, 173, 174, 175, 176, 177, 178, 179, 180, 181, 182, 183, 184, 185, 186, 187, 188, 189, 190, 191, 192, 193, 194, 195, 196] .nil .nil) .nil)))))))))))))))) [] h k = true)) hk)
theorem ok4 : ex4 [] h0 (fun z _ => isTrue z) = true := by kernel_rfl
end Go.Proofs
