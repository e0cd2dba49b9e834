/- Functions, run; each tied to the program. -/
import Derived.Test.YtmjngdocmilolaaGreatTx16
set_option linter.unusedVariables false
set_option linter.unusedSimpArgs false
namespace Go.Proofs
open Go.Vc Go.Xc

/- undercroft/undercroftlaw16.TrimKnown -/
noncomputable abbrev c10_1 (x58 : CV) (x62 : CV) (x66 : CV) (x70 : CV) (k : CV → CH → Bool) (h19 : CH) : Bool :=
 xBin (some (.int .i64)) .eql x58 (.int .i64 (.ofNat 0)) fun x82 =>
 xIte x82
  (xBin (some (.int .i64)) .eql x62 (.int .i64 (.ofNat 4)) fun x83 =>
  xIte x83
   (xBin (some (.int .i64)) .eql x66 (.int .i64 (.ofNat 0)) fun x84 =>
   xIte x84
    (xBin (some (.int .i64)) .eql x70 (.int .i64 (.ofNat 180)) fun x85 =>
    k x85 h19)
    (k (.bool false) h19))
   (k (.bool false) h19))
  (k (.bool false) h19)
noncomputable abbrev c10_2 (x78 : CV) (x36 : CV) (x40 : CV) (x48 : CV) (x58 : CV) (x62 : CV) (x66 : CV) (x70 : CV) (k : CV → CH → Bool) (h19 : CH) : Bool :=
 xIte x78
  (xBin (some (.int .i64)) .eql x36 (.int .i64 (.ofNat 4)) fun x79 =>
  xIte x79
   (xBin (some (.int .i64)) .eql x40 (.int .i64 (.ofNat 5)) fun x80 =>
   xIte x80
    (xBin (some (.int .i64)) .eql x48 (.int .i64 (.ofNat 17)) fun x81 =>
    xIte x81
     (c10_1 x58 x62 x66 x70 k h19)
     (k (.bool false) h19))
    (k (.bool false) h19))
   (k (.bool false) h19))
  (k (.bool false) h19)
noncomputable abbrev c10_3 (x75 : CV) (x24 : CV) (x28 : CV) (x32 : CV) (x36 : CV) (x40 : CV) (x48 : CV) (x58 : CV) (x62 : CV) (x66 : CV) (x70 : CV) (k : CV → CH → Bool) (h19 : CH) : Bool :=
 xIte x75
  (xBin (some (.int .i64)) .eql x24 (.int .i64 (.ofNat 8)) fun x76 =>
  xIte x76
   (xBin (some (.int .i64)) .eql x28 (.int .i64 (.ofNat 8)) fun x77 =>
   xIte x77
    (xBin (some (.int .i64)) .eql x32 (.int .i64 (.ofNat 2)) fun x78 =>
    c10_2 x78 x36 x40 x48 x58 x62 x66 x70 k h19)
    (k (.bool false) h19))
   (k (.bool false) h19))
  (k (.bool false) h19)
noncomputable abbrev c10_4 (x72 : CV) (x14 : CV) (x44 : CV) (x20 : CV) (x24 : CV) (x28 : CV) (x32 : CV) (x36 : CV) (x40 : CV) (x48 : CV) (x58 : CV) (x62 : CV) (x66 : CV) (x70 : CV) (k : CV → CH → Bool) (h19 : CH) : Bool :=
 xIte x72
  (xBin (some (.int .i64)) .eql x14 (.int .i64 (.ofNat 0)) fun x73 =>
  xIte x73
   (xBin (some (.int .i64)) .eql x44 (.int .i64 (.ofNat 2)) fun x74 =>
   xIte x74
    (xBin (some (.int .i64)) .eql x20 (.int .i64 (.ofNat 8)) fun x75 =>
    c10_3 x75 x24 x28 x32 x36 x40 x48 x58 x62 x66 x70 k h19)
    (k (.bool false) h19))
   (k (.bool false) h19))
  (k (.bool false) h19)
noncomputable abbrev c10_5 (x51 : CV) (h17 : CH) (x10 : CV) (x14 : CV) (x44 : CV) (x20 : CV) (x24 : CV) (x28 : CV) (x32 : CV) (x36 : CV) (x40 : CV) (x48 : CV) (x58 : CV) (x62 : CV) (x66 : CV) (k : CV → CH → Bool) : Bool :=
 xNilCheck x51 fun x67 =>
 xAddr (some 1) x67 fun x68 =>
 xLoad (some none) x68 h17 fun x69 =>
 bd42 x69 (.int .i64 (.ofNat 2)) (.int .i64 (.ofNat 3)) h17 fun x70 h18 =>
 ex40 [] h18 fun x71 h19 =>
 xIte x71
  (xBin (some (.int .i64)) .eql x10 (.int .i64 (.ofNat 0)) fun x72 =>
  c10_4 x72 x14 x44 x20 x24 x28 x32 x36 x40 x48 x58 x62 x66 x70 k h19)
  (k (.bool false) h19)
noncomputable abbrev c10_6 (x59 : CV) (h15 : CH) (x51 : CV) (x10 : CV) (x14 : CV) (x44 : CV) (x20 : CV) (x24 : CV) (x28 : CV) (x32 : CV) (x36 : CV) (x40 : CV) (x48 : CV) (x58 : CV) (k : CV → CH → Bool) : Bool :=
 xAddr (some 1) x59 fun x60 =>
 xLoad (some none) x60 h15 fun x61 =>
 bd43 x61 (.int .i64 (.ofNat 2)) (.int .i64 (.ofNat 1000)) h15 fun x62 h16 =>
 xNilCheck x51 fun x63 =>
 xAddr (some 1) x63 fun x64 =>
 xLoad (some none) x64 h16 fun x65 =>
 bd23 x65 (.int .i64 (.ofNat 5)) h16 fun x66 h17 =>
 c10_5 x51 h17 x10 x14 x44 x20 x24 x28 x32 x36 x40 x48 x58 x62 x66 k
noncomputable abbrev c10_7 (x50 : CV) (k : CV → CH → Bool) (h14 : CH) (x51 : CV) (x10 : CV) (x14 : CV) (x44 : CV) (x20 : CV) (x24 : CV) (x28 : CV) (x32 : CV) (x36 : CV) (x40 : CV) (x48 : CV) : Bool :=
 xExtract x50 1 fun x52 =>
 xExtract x50 2 fun x53 =>
 xUn .not x53 fun x54 =>
 xIte x54
  (k (.bool false) h14)
  (xNilCheck x51 fun x55 =>
  xAddr (some 1) x55 fun x56 =>
  xLoad (some none) x56 h14 fun x57 =>
  bd43 x57 (.int .i64 (.ofNat 2)) (.int .i64 (.ofNat 200000)) h14 fun x58 h15 =>
  xNilCheck x51 fun x59 =>
  c10_6 x59 h15 x51 x10 x14 x44 x20 x24 x28 x32 x36 x40 x48 x58 k)
noncomputable abbrev c10_8 (x42 : CV) (h10 : CH) (x3 : CV) (k : CV → CH → Bool) (x10 : CV) (x14 : CV) (x20 : CV) (x24 : CV) (x28 : CV) (x32 : CV) (x36 : CV) (x40 : CV) : Bool :=
 xLoad (some none) x42 h10 fun x43 =>
 bd45 x43 h10 fun x44 h11 =>
 xNilCheck x3 fun x45 =>
 xAddr (some 1) x45 fun x46 =>
 xLoad (some none) x46 h11 fun x47 =>
 bd43 x47 (.int .i64 (.ofNat 2)) (.int .i64 (.ofNat 67381249)) h11 fun x48 h12 =>
 bd44 h12 fun x49 h13 =>
 bd16 x49 h13 fun x50 h14 =>
 xExtract x50 0 fun x51 =>
 c10_7 x50 k h14 x51 x10 x14 x44 x20 x24 x28 x32 x36 x40 x48
noncomputable abbrev c10_9 (x34 : CV) (h8 : CH) (x3 : CV) (k : CV → CH → Bool) (x10 : CV) (x14 : CV) (x20 : CV) (x24 : CV) (x28 : CV) (x32 : CV) : Bool :=
 xLoad (some none) x34 h8 fun x35 =>
 bd42 x35 (.int .i64 (.ofNat 2)) (.int .i64 (.negSucc 0)) h8 fun x36 h9 =>
 xNilCheck x3 fun x37 =>
 xAddr (some 1) x37 fun x38 =>
 xLoad (some none) x38 h9 fun x39 =>
 bd42 x39 (.int .i64 (.ofNat 3)) (.int .i64 (.ofNat 0)) h9 fun x40 h10 =>
 xNilCheck x3 fun x41 =>
 xAddr (some 1) x41 fun x42 =>
 c10_8 x42 h10 x3 k x10 x14 x20 x24 x28 x32 x36 x40
noncomputable abbrev c10_10 (x26 : CV) (h6 : CH) (x3 : CV) (k : CV → CH → Bool) (x10 : CV) (x14 : CV) (x20 : CV) (x24 : CV) : Bool :=
 xLoad (some none) x26 h6 fun x27 =>
 bd42 x27 (.int .i64 (.ofNat 1)) (.int .i64 (.ofNat 0)) h6 fun x28 h7 =>
 xNilCheck x3 fun x29 =>
 xAddr (some 1) x29 fun x30 =>
 xLoad (some none) x30 h7 fun x31 =>
 bd42 x31 (.int .i64 (.ofNat 0)) (.int .i64 (.ofNat 0)) h7 fun x32 h8 =>
 xNilCheck x3 fun x33 =>
 xAddr (some 1) x33 fun x34 =>
 c10_9 x34 h8 x3 k x10 x14 x20 x24 x28 x32
noncomputable abbrev c10_11 (x17 : CV) (h4 : CH) (x3 : CV) (k : CV → CH → Bool) (x10 : CV) (x14 : CV) : Bool :=
 bd41 x17 (.int .i64 (.ofNat 1)) (.int .i64 (.ofNat 0)) h4 fun x18 h5 =>
 xExtract x18 0 fun x19 =>
 xExtract x18 1 fun x20 =>
 xNilCheck x3 fun x21 =>
 xAddr (some 1) x21 fun x22 =>
 xLoad (some none) x22 h5 fun x23 =>
 bd43 x23 (.int .i64 (.ofNat 1)) (.int .i64 (.ofNat 0)) h5 fun x24 h6 =>
 xNilCheck x3 fun x25 =>
 xAddr (some 1) x25 fun x26 =>
 c10_10 x26 h6 x3 k x10 x14 x20 x24
noncomputable abbrev c10_12 (x9 : CV) (h2 : CH) (x3 : CV) (k : CV → CH → Bool) : Bool :=
 bd42 x9 (.int .i64 (.ofNat 2)) (.int .i64 (.ofNat 3)) h2 fun x10 h3 =>
 xNilCheck x3 fun x11 =>
 xAddr (some 1) x11 fun x12 =>
 xLoad (some none) x12 h3 fun x13 =>
 bd42 x13 (.int .i64 (.ofNat 2)) (.int .i64 (.ofNat 200000)) h3 fun x14 h4 =>
 xNilCheck x3 fun x15 =>
 xAddr (some 1) x15 fun x16 =>
 xLoad (some none) x16 h4 fun x17 =>
 c10_11 x17 h4 x3 k x10 x14
noncomputable def bd10 (h : CH) (k : CV → CH → Bool) : Bool :=
 bd44 h fun x1 h1 =>
 bd16 x1 h1 fun x2 h2 =>
 xExtract x2 0 fun x3 =>
 xExtract x2 1 fun x4 =>
 xExtract x2 2 fun x5 =>
 xUn .not x5 fun x6 =>
 xIte x6
  (k (.bool false) h2)
  (xNilCheck x3 fun x7 =>
  xAddr (some 1) x7 fun x8 =>
  xLoad (some none) x8 h2 fun x9 =>
  c10_12 x9 h2 x3 k)
noncomputable abbrev ex10 : Ex := fun args h k => a0 args (bd10  h k)
set_option maxRecDepth 100000 in
theorem sim10 : SimF Tryz.prog 10 ex10 := fun args h k hk => by
  obtain ⟨rfl, hk⟩ := a0_ok hk
  exact sim_of (qf := (fun f => [75, 120, 121, 145, 146, 175, 181, 196, 197, 210, 220, 246].contains f)) (Z := zs) (C := [(44, ex44), (16, ex16), (42, ex42), (41, ex41), (43, ex43), (45, ex45), (23, ex23), (40, ex40)]) (T := []) ⟨zerosB_ok zsOk, (exCons (by kernel_rfl) sim44 (exCons (by kernel_rfl) sim16 (exCons (by kernel_rfl) sim42 (exCons (by kernel_rfl) sim41 (exCons (by kernel_rfl) sim43 (exCons (by kernel_rfl) sim45 (exCons (by kernel_rfl) sim23 (exCons (by kernel_rfl) sim40 exNil))))))))⟩ .nil Tryz.func10 _ h k (Eq.mp (by kernel_rfl : (bd10  h k = true) = (xFn Tryz.prog (fun f => [75, 120, 121, 145, 146, 175, 181, 196, 197, 210, 220, 246].contains f) zs [(44, ex44), (16, ex16), (42, ex42), (41, ex41), (43, ex43), (45, ex45), (23, ex23), (40, ex40)] [] Tryz.f10 .nil [] h k = true)) hk)
set_option maxHeartbeats 4000000 in
theorem ok10 : ex10 [] h0 (fun z _ => isTrue z) = true := by kernel_rfl
end Go.Proofs
