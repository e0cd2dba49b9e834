/- Functions, run; each tied to the program. -/
import Derived.Test.YtacfcgoighnioaaGreatZ12A
set_option linter.unusedVariables false
set_option linter.unusedSimpArgs false
namespace Go.Proofs
open Go.Vc Go.Xc

/- (*undercroft/undercroftref29.Disk).wrong -/
noncomputable abbrev c167_1 (x1 : CV) (s16 : TupC 1) (k : CV → CH → Bool) (K17 : TupC 1 → CH → Bool) (x6 : CV) (h3 : CH) : Bool :=
 xJoin (n := 1) (fun s18 h4 =>
  xIte s18.1
   (xAddr (some 17) x1 fun x20 =>
   xLoad (some none) x20 h4 fun x21 =>
   bd175 x21 s16.1 h4 fun x22 h5 =>
   xBin (some (.int .i64)) .eql x22 (.int .i64 (.ofNat 0)) fun x23 =>
   xIte x23
    (k (.bool true) h5)
    (xBin (some (.int .i64)) .add s16.1 (.int .i64 (.ofNat 1)) fun x24 =>
    K17 (x24, ()) h5))
   (k (.bool false) h4))
 (fun K24 => xBin (some (.int .i64)) .lss s16.1 x6 fun x26 =>
 xIte x26
  (xAddr (some 1) x1 fun x27 =>
  xAddr (some 0) x27 fun x28 =>
  xLoad (some none) x28 h3 fun x29 =>
  xBin (some (.int .u16)) .eql x29 (.int .u16 (.ofNat 2)) fun x30 =>
  K24 (x30, ()) h3)
  (K24 ((.bool false), ()) h3))
noncomputable abbrev c167_2 (s47 : TupC 1) (x42 : CV) (h11 : CH) (k : CV → CH → Bool) (K48 : TupC 1 → CH → Bool) : Bool :=
 xBin (some (.int .i64)) .lss s47.1 (.int .i64 (.ofNat 1024)) fun x50 =>
 xIte x50
  (xIdx (some (some 1024, 1)) x42 s47.1 fun x51 =>
  xLoad (some none) x51 h11 fun x52 =>
  xBin (some (.int .u8)) .neq x52 (.int .u8 (.ofNat 0)) fun x53 =>
  xIte x53
   (k (.bool true) h11)
   (xBin (some (.int .i64)) .add s47.1 (.int .i64 (.ofNat 1)) fun x54 =>
   K48 (x54, ()) h11))
  (k (.bool false) h11)
noncomputable abbrev c167_3 (h8 : CH) (x41 : CV) (x1 : CV) (k : CV → CH → Bool) : Bool :=
 xBoxP 124 [(.bytes 1024 0)] h8 fun x42 h9 =>
 xStore (some 1024) x42 x41 h9 fun h10 =>
 xAddr (some 1) x1 fun x43 =>
 xAddr (some 2) x43 fun x44 =>
 xLoad (some none) x44 h10 fun x45 =>
 xConv (some (.int .u32)) (some (.int .i64)) x45 fun x46 =>
 xBin (some (.int .i64)) .rem x46 (.int .i64 (.ofNat 1024)) fun x47 =>
 xLoop (n := 1) (fun K48 s47 h11 =>
  c167_2 s47 x42 h11 k K48) 1000000 (x47, ()) h10
noncomputable abbrev c167_4 (x39 : CV) (K54 : TupC 1 → CH → Bool) (h6 : CH) (x1 : CV) : Bool :=
 xBin (some (.int .i64)) .eql x39 (.int .i64 (.ofNat 0)) fun x56 =>
 xIte x56
  (K54 ((.bool true), ()) h6)
  (xAddr (some 1) x1 fun x57 =>
  xAddr (some 2) x57 fun x58 =>
  xLoad (some none) x58 h6 fun x59 =>
  xBin (some (.int .u32)) .rem x59 (.int .u32 (.ofNat 1024)) fun x60 =>
  xBin (some (.int .u32)) .eql x60 (.int .u32 (.ofNat 0)) fun x61 =>
  K54 (x61, ()) h6)
noncomputable abbrev c167_5 (x35 : CV) (h2 : CH) (x33 : CV) (k : CV → CH → Bool) (v0 : CV) (x1 : CV) : Bool :=
 xLoad (some none) x35 h2 fun x36 =>
 xConv (some (.int .u32)) (some (.int .i64)) x36 fun x37 =>
 xBin (some (.int .i64)) .quo x37 (.int .i64 (.ofNat 1024)) fun x38 =>
 bd175 x33 x38 h2 fun x39 h6 =>
 xJoin (n := 1) (fun s39 h7 =>
  xIte s39.1
   (k (.bool false) h7)
   (bd141 v0 x39 h7 fun x41 h8 =>
   c167_3 h8 x41 x1 k))
 (fun K54 => c167_4 x39 K54 h6 x1)
noncomputable abbrev c167_6 (v2 : CV) (x72 : CV) (h14 : CH) (v0 : CV) (K74 : TupC 1 → CH → Bool) : Bool :=
 xBin (some (.int .u8)) .eql v2 (.int .u8 (.ofNat 7)) fun x80 =>
 xIte x80
  (xAddr (some 0) x72 fun x81 =>
  xLoad (some none) x81 h14 fun x82 =>
  xBin (some (.int .i64)) .lss x82 (.int .i64 (.ofNat 0)) fun x83 =>
  xIte x83
   (xAddr (some 1) x72 fun x84 =>
   xLoad (some none) x84 h14 fun x85 =>
   bd181 v0 x85 h14 fun x86 h16 =>
   K74 (x86, ()) h16)
   (K74 ((.bool false), ()) h14))
  (K74 ((.bool false), ()) h14)
noncomputable abbrev c167_7 (v2 : CV) (x72 : CV) (h14 : CH) (v0 : CV) (K74 : TupC 1 → CH → Bool) : Bool :=
 xBin (some (.int .u8)) .eql v2 (.int .u8 (.ofNat 7)) fun x87 =>
 xIte x87
  (xAddr (some 0) x72 fun x88 =>
  xLoad (some none) x88 h14 fun x89 =>
  xBin (some (.int .i64)) .lss x89 (.int .i64 (.ofNat 0)) fun x90 =>
  xIte x90
   (xAddr (some 1) x72 fun x91 =>
   xLoad (some none) x91 h14 fun x92 =>
   bd181 v0 x92 h14 fun x93 h17 =>
   K74 (x93, ()) h17)
   (K74 ((.bool false), ()) h14))
  (K74 ((.bool false), ()) h14)
noncomputable abbrev c167_8 (k : CV → CH → Bool) (s61 : TupC 1) (K62 : TupC 1 → CH → Bool) (v2 : CV) (x72 : CV) (h14 : CH) (x6 : CV) (v0 : CV) : Bool :=
 xJoin (n := 1) (fun s72 h15 =>
  xIte s72.1
   (k (.bool true) h15)
   (xBin (some (.int .i64)) .add s61.1 (.int .i64 (.ofNat 1)) fun x74 =>
   K62 (x74, ()) h15))
 (fun K74 => xBin (some (.int .u8)) .eql v2 (.int .u8 (.ofNat 8)) fun x76 =>
 xIte x76
  (xAddr (some 0) x72 fun x77 =>
  xLoad (some none) x77 h14 fun x78 =>
  xBin (some (.int .i64)) .geq x78 x6 fun x79 =>
  xIte x79
   (K74 ((.bool true), ()) h14)
   (c167_6 v2 x72 h14 v0 K74))
  (c167_7 v2 x72 h14 v0 K74))
noncomputable abbrev c167_9 (s61 : TupC 1) (x66 : CV) (x1 : CV) (h12 : CH) (k : CV → CH → Bool) (K62 : TupC 1 → CH → Bool) (v2 : CV) (x6 : CV) (v0 : CV) : Bool :=
 xBin (some (.int .i64)) .lss s61.1 x66 fun x67 =>
 xIte x67
  (xAddr (some 17) x1 fun x68 =>
  xLoad (some none) x68 h12 fun x69 =>
  xIdx (some (none, 2)) x69 s61.1 fun x70 =>
  xLoad (some (some 2)) x70 h12 fun x71 =>
  xBoxP 243 [(.int .i64 (.ofNat 0)), (.int .i64 (.ofNat 0))] h12 fun x72 h13 =>
  xStore (some 2) x72 x71 h13 fun h14 =>
  c167_8 k s61 K62 v2 x72 h14 x6 v0)
  (k (.bool false) h12)
noncomputable abbrev c167_10 (x31 : CV) (x1 : CV) (h2 : CH) (k : CV → CH → Bool) (v0 : CV) (v2 : CV) (x6 : CV) : Bool :=
 xIte x31
  (xAddr (some 17) x1 fun x32 =>
  xLoad (some none) x32 h2 fun x33 =>
  xAddr (some 1) x1 fun x34 =>
  xAddr (some 2) x34 fun x35 =>
  c167_5 x35 h2 x33 k v0 x1)
  (xLoop (n := 1) (fun K62 s61 h12 =>
   xAddr (some 17) x1 fun x64 =>
   xLoad (some none) x64 h12 fun x65 =>
   xLen (some (.inl false)) x65 fun x66 =>
   c167_9 s61 x66 x1 h12 k K62 v2 x6 v0) 1000000 ((.int .i64 (.ofNat 0)), ()) h2)
noncomputable abbrev c167_11 (x7 : CV) (x1 : CV) (h2 : CH) (k : CV → CH → Bool) (v2 : CV) (x6 : CV) (v0 : CV) : Bool :=
 xIte x7
  (xAddr (some 1) x1 fun x8 =>
  xAddr (some 3) x8 fun x9 =>
  xLoad (some none) x9 h2 fun x10 =>
  xConv (some (.int .u32)) (some (.int .i64)) x10 fun x11 =>
  xAddr (some 17) x1 fun x12 =>
  xLoad (some none) x12 h2 fun x13 =>
  xLen (some (.inl false)) x13 fun x14 =>
  xBin (some (.int .i64)) .neq x11 x14 fun x15 =>
  k x15 h2)
  (xBin (some (.int .u8)) .eql v2 (.int .u8 (.ofNat 12)) fun x16 =>
  xIte x16
   (xLoop (n := 1) (fun K17 s16 h3 =>
    c167_1 x1 s16 k K17 x6 h3) 1000000 ((.int .i64 (.ofNat 0)), ()) h2)
   (xBin (some (.int .u8)) .eql v2 (.int .u8 (.ofNat 9)) fun x31 =>
   c167_10 x31 x1 h2 k v0 v2 x6))
noncomputable def bd167 (v0 v1 v2 : CV) (h : CH) (k : CV → CH → Bool) : Bool :=
 xBox 191 v1 h fun x1 h1 =>
 xAddr (some 1) x1 fun x2 =>
 xAddr (some 2) x2 fun x3 =>
 xLoad (some none) x3 h1 fun x4 =>
 xConv (some (.int .u32)) (some (.int .i64)) x4 fun x5 =>
 bd180 x5 h1 fun x6 h2 =>
 xBin (some (.int .u8)) .eql v2 (.int .u8 (.ofNat 10)) fun x7 =>
 c167_11 x7 x1 h2 k v2 x6 v0
noncomputable abbrev ex167 : Ex := fun args h k => a3 args fun v0 v1 v2 => bd167 v0 v1 v2 h k
set_option maxRecDepth 100000 in
theorem sim167 : SimF Tryz.prog 167 ex167 := fun args h k hk => by
  obtain ⟨v0, v1, v2, rfl, hk⟩ := a3_ok hk
  exact sim_of (qf := (fun f => [46, 47, 62, 75, 82, 97, 104, 114, 121, 127, 128, 141, 151, 156, 157, 183].contains f)) (Z := zs) (C := [(180, ex180), (175, ex175), (141, ex141), (181, ex181)]) (T := []) ⟨zerosB_ok zsOk, (exCons (by kernel_rfl) sim180 (exCons (by kernel_rfl) sim175 (exCons (by kernel_rfl) sim141 (exCons (by kernel_rfl) sim181 exNil))))⟩ (.seq .nil (.seq .nil (.seq (.seq .nil (.seq .nil (.cond .nil (.seq .nil (.cond (.seq .nil (.loop [8] [67, 68, 69, 70, 71, 72, 73, 74, 75, 78, 79, 80, 81, 82, 6, 76, 77] (.seq (.join [75] [67, 68, 69, 70, 71, 72, 73, 74] .nil .nil) .nil))) (.seq .nil (.cond (.seq .nil (.seq (.join [101] [93, 94, 95, 96, 97, 98, 99, 100] .nil .nil) (.seq .nil (.seq .nil (.loop [11] [110, 111, 114, 115, 116, 117, 6, 112, 113] .nil))))) (.seq .nil (.loop [12] [20, 21, 22, 23, 24, 27, 28, 29, 30, 31, 13, 32, 33, 34, 35, 36, 37, 38, 39, 40, 41, 42, 43, 44, 45, 46, 47, 48, 49, 50, 51, 52, 53, 54, 6, 25, 26] (.seq .nil (.seq (.seq .nil (.join [54] [32, 33, 34, 35, 36, 37, 38, 39, 40, 41, 42, 43, 44, 45, 46, 47, 48, 49, 50, 51, 52, 53] .nil .nil)) .nil))))))))))) .nil))) Tryz.func167 _ h k (Eq.mp (by kernel_rfl : (bd167 v0 v1 v2 h k = true) = (xFn Tryz.prog (fun f => [46, 47, 62, 75, 82, 97, 104, 114, 121, 127, 128, 141, 151, 156, 157, 183].contains f) zs [(180, ex180), (175, ex175), (141, ex141), (181, ex181)] [] Tryz.f167 (.seq .nil (.seq .nil (.seq (.seq .nil (.seq .nil (.cond .nil (.seq .nil (.cond (.seq .nil (.loop [8] [67, 68, 69, 70, 71, 72, 73, 74, 75, 78, 79, 80, 81, 82, 6, 76, 77] (.seq (.join [75] [67, 68, 69, 70, 71, 72, 73, 74] .nil .nil) .nil))) (.seq .nil (.cond (.seq .nil (.seq (.join [101] [93, 94, 95, 96, 97, 98, 99, 100] .nil .nil) (.seq .nil (.seq .nil (.loop [11] [110, 111, 114, 115, 116, 117, 6, 112, 113] .nil))))) (.seq .nil (.loop [12] [20, 21, 22, 23, 24, 27, 28, 29, 30, 31, 13, 32, 33, 34, 35, 36, 37, 38, 39, 40, 41, 42, 43, 44, 45, 46, 47, 48, 49, 50, 51, 52, 53, 54, 6, 25, 26] (.seq .nil (.seq (.seq .nil (.join [54] [32, 33, 34, 35, 36, 37, 38, 39, 40, 41, 42, 43, 44, 45, 46, 47, 48, 49, 50, 51, 52, 53] .nil .nil)) .nil))))))))))) .nil))) [v0, v1, v2] h k = true)) hk)

/- (*undercroft/undercroftref29.Disk).files -/
noncomputable abbrev c132_1 (v0 : CV) (x8 : CV) (v2 : CV) (h2 : CH) (v1 : CV) (s2 : TupC 1) (x2 : CV) (K3 : TupC 1 → CH → Bool) : Bool :=
 bd167 v0 x8 v2 h2 fun x9 h3 =>
 xIte x9
  (xIdx (some (none, 18)) v1 s2.1 fun x10 =>
  xAddr (some 0) x10 fun x11 =>
  xLoad (some none) x11 h3 fun x12 =>
  bd164 x2 x12 h3 fun x13 h4 =>
  xBin (some (.int .i64)) .add s2.1 (.int .i64 (.ofNat 1)) fun x14 =>
  K3 (x14, ()) h4)
  (xBin (some (.int .i64)) .add s2.1 (.int .i64 (.ofNat 1)) fun x15 =>
  K3 (x15, ()) h3)
noncomputable abbrev c132_2 (v1 : CV) (v0 : CV) (v2 : CV) (x2 : CV) (k : CV → CH → Bool) (h1 : CH) : Bool :=
 xLoop (n := 1) (fun K3 s2 h2 =>
  xLen (some (.inl false)) v1 fun x5 =>
  xBin (some (.int .i64)) .lss s2.1 x5 fun x6 =>
  xIte x6
   (xIdx (some (none, 18)) v1 s2.1 fun x7 =>
   xLoad (some (some 18)) x7 h2 fun x8 =>
   c132_1 v0 x8 v2 h2 v1 s2 x2 K3)
   (xNilCheck x2 fun x16 =>
   xAddr (some 1) x16 fun x17 =>
   xLoad (some none) x17 h2 fun x18 =>
   k x18 h2)) 1000000 ((.int .i64 (.ofNat 0)), ()) h1
noncomputable def bd132 (v0 v1 v2 : CV) (h : CH) (k : CV → CH → Bool) : Bool :=
 xBuild (some (.inl [(0, 1), (1, 1)])) (some (.agg [(.bytes 1 0), .nils])) [(0, v2)] fun x1 =>
 xBox 267 x1 h fun x2 h1 =>
 c132_2 v1 v0 v2 x2 k h1
noncomputable abbrev ex132 : Ex := fun args h k => a3 args fun v0 v1 v2 => bd132 v0 v1 v2 h k
set_option maxRecDepth 100000 in
theorem sim132 : SimF Tryz.prog 132 ex132 := fun args h k hk => by
  obtain ⟨v0, v1, v2, rfl, hk⟩ := a3_ok hk
  exact sim_of (qf := (fun f => [46, 47, 62, 75, 82, 97, 104, 114, 121, 127, 128, 141, 151, 156, 157, 183].contains f)) (Z := zs) (C := [(167, ex167), (164, ex164)]) (T := []) ⟨zerosB_ok zsOk, (exCons (by kernel_rfl) sim167 (exCons (by kernel_rfl) sim164 exNil))⟩ (.seq .nil (.seq .nil (.seq (.seq .nil (.loop [8] [13, 14, 15, 16, 19, 20, 21, 22, 23, 24, 25, 9, 26, 27, 28, 29, 30, 31, 32, 33, 17, 18] .nil)) .nil))) Tryz.func132 _ h k (Eq.mp (by kernel_rfl : (bd132 v0 v1 v2 h k = true) = (xFn Tryz.prog (fun f => [46, 47, 62, 75, 82, 97, 104, 114, 121, 127, 128, 141, 151, 156, 157, 183].contains f) zs [(167, ex167), (164, ex164)] [] Tryz.f132 (.seq .nil (.seq .nil (.seq (.seq .nil (.loop [8] [13, 14, 15, 16, 19, 20, 21, 22, 23, 24, 25, 9, 26, 27, 28, 29, 30, 31, 32, 33, 17, 18] .nil)) .nil))) [v0, v1, v2] h k = true)) hk)

/- (*undercroft/undercroftref29.Disk).wrongBits -/
noncomputable abbrev c133_1 (x20 : CV) (h8 : CH) (s15 : TupC 2) (K16 : TupC 2 → CH → Bool) : Bool :=
 xBuild (some (.inl [(0, 1), (1, 1)])) (some (.agg [(.bytes 1 0), (.int .i64 (.ofNat 0))])) [(0, (.int .u8 (.ofNat 11))), (1, x20)] fun x25 =>
 xNewS (some (263, 2, 16, false)) (some [(.bytes 1 0), (.int .i64 (.ofNat 0))]) 1 [(0, x25)] h8 fun x26 h9 =>
 xApp (some (263, 2, 16, false)) s15.1 x26 h9 fun x27 h10 =>
 xBin (some (.int .i64)) .add s15.2.1 (.int .i64 (.ofNat 1)) fun x28 =>
 K16 (x27, x28, ()) h10
noncomputable abbrev c133_2 (x20 : CV) (x34 : CV) (K29 : TupC 1 → CH → Bool) (h6 : CH) (x1 : CV) : Bool :=
 xBin (some (.int .i64)) .lss x20 x34 fun x35 =>
 xIte x35
  (K29 ((.bool true), ()) h6)
  (xLen (some (.inl false)) x1 fun x36 =>
  xBin (some (.int .i64)) .lss x20 x36 fun x37 =>
  xIte x37
   (xIdx (some (none, 1)) x1 x20 fun x38 =>
   xLoad (some none) x38 h6 fun x39 =>
   xBin (some (.int .i64)) .gtr x39 (.int .i64 (.ofNat 0)) fun x40 =>
   K29 (x40, ()) h6)
   (K29 ((.bool false), ()) h6))
noncomputable abbrev c133_3 (x15 : CV) (s15 : TupC 2) (x20 : CV) (K16 : TupC 2 → CH → Bool) (v0 : CV) (h6 : CH) (x1 : CV) : Bool :=
 xJoin (n := 1) (fun s20 h7 =>
  xLoad (some (some 1024)) x15 h7 fun x22 =>
  bd94 x22 s15.2.1 h7 fun x23 h8 =>
  xBin (some .bool) .neq x23 s20.1 fun x24 =>
  xIte x24
   (c133_1 x20 h8 s15 K16)
   (xBin (some (.int .i64)) .add s15.2.1 (.int .i64 (.ofNat 1)) fun x29 =>
   K16 (s15.1, x29, ()) h8))
 (fun K29 => xNilCheck v0 fun x31 =>
 xAddr (some 2) x31 fun x32 =>
 xAddr (some 8) x32 fun x33 =>
 xLoad (some none) x33 h6 fun x34 =>
 c133_2 x20 x34 K29 h6 x1)
noncomputable abbrev c133_4 (s1 : TupC 2) (x15 : CV) (v0 : CV) (x1 : CV) (K2 : TupC 2 → CH → Bool) (h5 : CH) : Bool :=
 xLoop (n := 2) (fun K16 s15 h6 =>
  xBin (some (.int .i64)) .lss s15.2.1 (.int .i64 (.ofNat 8192)) fun x18 =>
  xIte x18
   (xBin (some (.int .i64)) .mul (.int .i64 (.ofNat 8192)) s1.2.1 fun x19 =>
   xBin (some (.int .i64)) .add x19 s15.2.1 fun x20 =>
   c133_3 x15 s15 x20 K16 v0 h6 x1)
   (xBin (some (.int .i64)) .add s1.2.1 (.int .i64 (.ofNat 1)) fun x41 =>
   K2 (s15.1, x41, ()) h6)) 1000000 (s1.1, (.int .i64 (.ofNat 0)), ()) h5
noncomputable abbrev c133_5 (s1 : TupC 2) (x7 : CV) (v0 : CV) (h2 : CH) (x1 : CV) (K2 : TupC 2 → CH → Bool) (k : CV → CH → Bool) : Bool :=
 xBin (some (.int .i64)) .lss s1.2.1 x7 fun x8 =>
 xIte x8
  (xNilCheck v0 fun x9 =>
  xAddr (some 2) x9 fun x10 =>
  xAddr (some 6) x10 fun x11 =>
  xLoad (some none) x11 h2 fun x12 =>
  xBin (some (.int .i64)) .add x12 s1.2.1 fun x13 =>
  bd141 v0 x13 h2 fun x14 h3 =>
  xBoxP 124 [(.bytes 1024 0)] h3 fun x15 h4 =>
  xStore (some 1024) x15 x14 h4 fun h5 =>
  c133_4 s1 x15 v0 x1 K2 h5)
  (k s1.1 h2)
noncomputable def bd133 (v0 v1 : CV) (h : CH) (k : CV → CH → Bool) : Bool :=
 bd166 v0 v1 h fun x1 h1 =>
 xLoop (n := 2) (fun K2 s1 h2 =>
  xNilCheck v0 fun x4 =>
  xAddr (some 2) x4 fun x5 =>
  xAddr (some 7) x5 fun x6 =>
  xLoad (some none) x6 h2 fun x7 =>
  c133_5 s1 x7 v0 h2 x1 K2 k) 1000000 (.nils, (.int .i64 (.ofNat 0)), ()) h1
noncomputable abbrev ex133 : Ex := fun args h k => a2 args fun v0 v1 => bd133 v0 v1 h k
set_option maxRecDepth 100000 in
theorem sim133 : SimF Tryz.prog 133 ex133 := fun args h k hk => by
  obtain ⟨v0, v1, rfl, hk⟩ := a2_ok hk
  exact sim_of (qf := (fun f => [46, 47, 62, 75, 82, 97, 104, 114, 121, 127, 128, 141, 151, 156, 157, 183].contains f)) (Z := zs) (C := [(166, ex166), (141, ex141), (94, ex94)]) (T := []) ⟨zerosB_ok zsOk, (exCons (by kernel_rfl) sim166 (exCons (by kernel_rfl) sim141 (exCons (by kernel_rfl) sim94 exNil)))⟩ (.seq .nil (.seq .nil (.seq .nil (.seq (.seq .nil (.loop [5, 7] [15, 16, 17, 18, 19, 20, 21, 24, 25, 26, 27, 28, 29, 30, 31, 32, 8, 9, 33, 34, 37, 38, 39, 40, 10, 41, 42, 43, 44, 45, 46, 47, 48, 49, 50, 51, 52, 53, 54, 55, 56, 57, 58, 59, 60, 11, 61, 62, 63, 64, 65, 66, 67, 68, 69, 70, 35, 36, 22, 23] (.seq .nil (.seq (.seq .nil (.seq .nil (.loop [5, 9] [33, 34, 37, 38, 39, 40, 10, 41, 42, 43, 44, 45, 46, 47, 48, 49, 50, 51, 52, 53, 54, 55, 56, 57, 58, 59, 60, 11, 61, 62, 63, 64, 65, 66, 67, 68, 69, 70, 35, 36] (.seq .nil (.seq (.seq .nil (.join [11] [41, 42, 43, 44, 45, 46, 47, 48, 49, 50, 51, 52, 53, 54, 55, 56, 57, 58, 59, 60] .nil .nil)) .nil))))) .nil)))) .nil)))) Tryz.func133 _ h k (Eq.mp (by kernel_rfl : (bd133 v0 v1 h k = true) = (xFn Tryz.prog (fun f => [46, 47, 62, 75, 82, 97, 104, 114, 121, 127, 128, 141, 151, 156, 157, 183].contains f) zs [(166, ex166), (141, ex141), (94, ex94)] [] Tryz.f133 (.seq .nil (.seq .nil (.seq .nil (.seq (.seq .nil (.loop [5, 7] [15, 16, 17, 18, 19, 20, 21, 24, 25, 26, 27, 28, 29, 30, 31, 32, 8, 9, 33, 34, 37, 38, 39, 40, 10, 41, 42, 43, 44, 45, 46, 47, 48, 49, 50, 51, 52, 53, 54, 55, 56, 57, 58, 59, 60, 11, 61, 62, 63, 64, 65, 66, 67, 68, 69, 70, 35, 36, 22, 23] (.seq .nil (.seq (.seq .nil (.seq .nil (.loop [5, 9] [33, 34, 37, 38, 39, 40, 10, 41, 42, 43, 44, 45, 46, 47, 48, 49, 50, 51, 52, 53, 54, 55, 56, 57, 58, 59, 60, 11, 61, 62, 63, 64, 65, 66, 67, 68, 69, 70, 35, 36] (.seq .nil (.seq (.seq .nil (.join [11] [41, 42, 43, 44, 45, 46, 47, 48, 49, 50, 51, 52, 53, 54, 55, 56, 57, 58, 59, 60] .nil .nil)) .nil))))) .nil)))) .nil)))) [v0, v1] h k = true)) hk)

/- undercroft/undercroftref18.Decode -/
noncomputable abbrev c176_1 (s12 : TupC 1) (x1 : CV) (h6 : CH) (x17 : CV) (x12 : CV) (K13 : TupC 1 → CH → Bool) : Bool :=
 xBin (some (.int .i64)) .add s12.1 (.int .i64 (.ofNat 1)) fun x18 =>
 xSlice (some (some 16, 1)) x1 (some s12.1) (some x18) none fun x19 =>
 xStrOf x19 h6 fun x20 =>
 xBin (some .string) .add x17 x20 fun x21 =>
 xAddr (some 1) x12 fun x22 =>
 xStore (some 1) x22 x21 h6 fun h7 =>
 xBin (some (.int .i64)) .add s12.1 (.int .i64 (.ofNat 1)) fun x23 =>
 K13 (x23, ()) h7
noncomputable abbrev c176_2 (s28 : TupC 1) (x2 : CV) (h11 : CH) (k : CV → CH → Bool) (x12 : CV) : Bool :=
 xIte s28.1
  (xBuild (some (.inl [(0, 1), (1, 1)])) (some (.agg [(.int .u16 (.ofNat 0)), (.str ⟨#[]⟩)])) [] fun x30 =>
  xStore (some 2) x2 x30 h11 fun h12 =>
  xLoad (some (some 2)) x2 h12 fun x31 =>
  k (.tup [x31, (.int .i64 (.ofNat 4))]) h12)
  (xLoad (some (some 2)) x12 h11 fun x32 =>
  xStore (some 2) x2 x32 h11 fun h13 =>
  xLoad (some (some 2)) x2 h13 fun x33 =>
  k (.tup [x33, (.int .i64 (.ofNat 0))]) h13)
noncomputable abbrev c176_3 (x28 : CV) (x26 : CV) (h9 : CH) (x2 : CV) (k : CV → CH → Bool) (x12 : CV) (x27 : CV) (x1 : CV) : Bool :=
 xStore (some 16) x28 x26 h9 fun h10 =>
 xJoin (n := 1) (fun s28 h11 =>
  c176_2 s28 x2 h11 k x12)
 (fun K33 => xBin (some (.int .i64)) .neq x27 (.int .i64 (.ofNat 0)) fun x35 =>
 xIte x35
  (K33 ((.bool true), ()) h10)
  (xLoad (some (some 16)) x28 h10 fun x36 =>
  xLoad (some (some 16)) x1 h10 fun x37 =>
  xEq (some (.agg (.bytes 16))) .neq x36 x37 h10 fun x38 =>
  K33 (x38, ()) h10))
noncomputable abbrev c176_4 (x12 : CV) (s12 : TupC 1) (x1 : CV) (K13 : TupC 1 → CH → Bool) (x2 : CV) (k : CV → CH → Bool) (h5 : CH) : Bool :=
 xJoin (n := 1) (fun s14 h6 =>
  xIte s14.1
   (xAddr (some 1) x12 fun x16 =>
   xLoad (some none) x16 h6 fun x17 =>
   c176_1 s12 x1 h6 x17 x12 K13)
   (xLoad (some (some 2)) x12 h6 fun x24 =>
   bd144 x24 h6 fun x25 h8 =>
   xExtract x25 0 fun x26 =>
   xExtract x25 1 fun x27 =>
   xBoxP 247 [(.bytes 16 0)] h8 fun x28 h9 =>
   c176_3 x28 x26 h9 x2 k x12 x27 x1))
 (fun K38 => xBin (some (.int .i64)) .lss s12.1 (.int .i64 (.ofNat 16)) fun x40 =>
 xIte x40
  (xIdx (some (some 16, 1)) x1 s12.1 fun x41 =>
  xLoad (some none) x41 h5 fun x42 =>
  xBin (some (.int .u8)) .neq x42 (.int .u8 (.ofNat 0)) fun x43 =>
  K38 (x43, ()) h5)
  (K38 ((.bool false), ()) h5))
noncomputable abbrev c176_5 (x5 : CV) (x9 : CV) (h2 : CH) (x1 : CV) (x2 : CV) (k : CV → CH → Bool) : Bool :=
 xBin (some (.int .u16)) .add x5 x9 fun x10 =>
 xBuild (some (.inl [(0, 1), (1, 1)])) (some (.agg [(.int .u16 (.ofNat 0)), (.str ⟨#[]⟩)])) [(0, x10)] fun x11 =>
 xBoxP 84 [(.int .u16 (.ofNat 0)), (.str ⟨#[]⟩)] h2 fun x12 h3 =>
 xStore (some 2) x12 x11 h3 fun h4 =>
 xLoop (n := 1) (fun K13 s12 h5 =>
  c176_4 x12 s12 x1 K13 x2 k h5) 1000000 ((.int .i64 (.ofNat 2)), ()) h4
noncomputable abbrev c176_6 (x1 : CV) (h2 : CH) (x2 : CV) (k : CV → CH → Bool) : Bool :=
 xIdx (some (some 16, 1)) x1 (.int .i64 (.ofNat 0)) fun x3 =>
 xLoad (some none) x3 h2 fun x4 =>
 xConv (some (.int .u8)) (some (.int .u16)) x4 fun x5 =>
 xIdx (some (some 16, 1)) x1 (.int .i64 (.ofNat 1)) fun x6 =>
 xLoad (some none) x6 h2 fun x7 =>
 xConv (some (.int .u8)) (some (.int .u16)) x7 fun x8 =>
 xBin (some (.int .u16)) .mul (.int .u16 (.ofNat 256)) x8 fun x9 =>
 c176_5 x5 x9 h2 x1 x2 k
noncomputable def bd176 (v0 : CV) (h : CH) (k : CV → CH → Bool) : Bool :=
 xBox 247 v0 h fun x1 h1 =>
 xBoxP 84 [(.int .u16 (.ofNat 0)), (.str ⟨#[]⟩)] h1 fun x2 h2 =>
 c176_6 x1 h2 x2 k
noncomputable abbrev exi176 : Ex := fun args h k => a1 args fun v0 => bd176 v0 h k
set_option maxRecDepth 100000 in
theorem simi176 : SimF Tryz.prog 176 exi176 := fun args h k hk => by
  obtain ⟨v0, rfl, hk⟩ := a1_ok hk
  exact sim_of (qf := (fun f => [46, 47, 62, 75, 82, 97, 104, 114, 121, 127, 128, 141, 151, 156, 157, 183].contains f)) (Z := zs) (C := [(144, ex144)]) (T := []) ⟨zerosB_ok zsOk, (exCons (by kernel_rfl) sim144 exNil)⟩ (.seq .nil (.seq .nil (.seq (.seq .nil (.loop [5] [17, 18, 19, 20, 21, 22, 23, 24, 27, 28, 29, 30, 31, 32, 33, 34, 35, 25, 26] (.seq (.join [24] [17, 18, 19, 20, 21, 22, 23] .nil .nil) .nil))) (.seq .nil (.seq (.join [47] [41, 42, 43, 44, 45, 46] .nil .nil) .nil))))) Tryz.func176 _ h k (Eq.mp (by kernel_rfl : (bd176 v0 h k = true) = (xFn Tryz.prog (fun f => [46, 47, 62, 75, 82, 97, 104, 114, 121, 127, 128, 141, 151, 156, 157, 183].contains f) zs [(144, ex144)] [] Tryz.f176 (.seq .nil (.seq .nil (.seq (.seq .nil (.loop [5] [17, 18, 19, 20, 21, 22, 23, 24, 27, 28, 29, 30, 31, 32, 33, 34, 35, 25, 26] (.seq (.join [24] [17, 18, 19, 20, 21, 22, 23] .nil .nil) .nil))) (.seq .nil (.seq (.join [47] [41, 42, 43, 44, 45, 46] .nil .nil) .nil))))) [v0] h k = true)) hk)
noncomputable abbrev ex176 : Ex := fun args h k => xQuiet (some exi176) args h k
theorem sim176 : SimF Tryz.prog 176 ex176 := simQ simi176

/- (*undercroft/undercroftref29.Disk).Slots -/
noncomputable abbrev c140_1 (x21 : CV) (s17 : TupC 1) (x16 : CV) (h8 : CH) (x17 : CV) (K18 : TupC 1 → CH → Bool) : Bool :=
 xBin (some (.int .i64)) .rem x21 (.int .i64 (.ofNat 1024)) fun x22 =>
 xBin (some (.int .i64)) .add x22 s17.1 fun x23 =>
 xIdx (some (some 1024, 1)) x16 x23 fun x24 =>
 xLoad (some none) x24 h8 fun x25 =>
 xIdx (some (some 16, 1)) x17 s17.1 fun x26 =>
 xStore (some 1) x26 x25 h8 fun h9 =>
 xBin (some (.int .i64)) .add s17.1 (.int .i64 (.ofNat 1)) fun x27 =>
 K18 (x27, ()) h9
noncomputable abbrev c140_2 (x32 : CV) (s1 : TupC 3) (K2 : TupC 3 → CH → Bool) (x31 : CV) (h12 : CH) : Bool :=
 xJoin (n := 1) (fun s32 h13 =>
  xLoad (some (some 2)) x32 h13 fun x34 =>
  xNewS (some (84, 2, 24, false)) (some [(.int .u16 (.ofNat 0)), (.str ⟨#[]⟩)]) 1 [(0, x34)] h13 fun x35 h14 =>
  xApp (some (84, 2, 24, false)) s1.2.1 x35 h14 fun x36 h15 =>
  xBin (some (.int .i64)) .add s1.2.2.1 (.int .i64 (.ofNat 1)) fun x37 =>
  K2 (s32.1, x36, x37, ()) h15)
 (fun K37 => xIte s1.1
  (xBin (some (.int .i64)) .eql x31 (.int .i64 (.ofNat 0)) fun x39 =>
  K37 (x39, ()) h12)
  (K37 ((.bool false), ()) h12))
noncomputable abbrev c140_3 (x20 : CV) (s1 : TupC 3) (s17 : TupC 1) (x16 : CV) (h8 : CH) (x17 : CV) (K18 : TupC 1 → CH → Bool) (K2 : TupC 3 → CH → Bool) : Bool :=
 xIte x20
  (xBin (some (.int .i64)) .mul s1.2.2.1 (.int .i64 (.ofNat 16)) fun x21 =>
  c140_1 x21 s17 x16 h8 x17 K18)
  (xLoad (some (some 16)) x17 h8 fun x28 =>
  ex176 [x28] h8 fun x29 h10 =>
  xExtract x29 0 fun x30 =>
  xExtract x29 1 fun x31 =>
  xBoxP 84 [(.int .u16 (.ofNat 0)), (.str ⟨#[]⟩)] h10 fun x32 h11 =>
  xStore (some 2) x32 x30 h11 fun h12 =>
  c140_2 x32 s1 K2 x31 h12)
noncomputable abbrev c140_4 (x11 : CV) (x13 : CV) (h2 : CH) (v0 : CV) (s1 : TupC 3) (K2 : TupC 3 → CH → Bool) : Bool :=
 bd175 x11 x13 h2 fun x14 h3 =>
 bd141 v0 x14 h3 fun x15 h4 =>
 xBoxP 124 [(.bytes 1024 0)] h4 fun x16 h5 =>
 xStore (some 1024) x16 x15 h5 fun h6 =>
 xBoxP 247 [(.bytes 16 0)] h6 fun x17 h7 =>
 xLoop (n := 1) (fun K18 s17 h8 =>
  xBin (some (.int .i64)) .lss s17.1 (.int .i64 (.ofNat 16)) fun x20 =>
  c140_3 x20 s1 s17 x16 h8 x17 K18 K2) 1000000 ((.int .i64 (.ofNat 0)), ()) h7
noncomputable abbrev c140_5 (x7 : CV) (s1 : TupC 3) (x1 : CV) (h2 : CH) (v0 : CV) (K2 : TupC 3 → CH → Bool) (k : CV → CH → Bool) : Bool :=
 xBin (some (.int .i64)) .quo x7 (.int .i64 (.ofNat 16)) fun x8 =>
 xBin (some (.int .i64)) .lss s1.2.2.1 x8 fun x9 =>
 xIte x9
  (xAddr (some 17) x1 fun x10 =>
  xLoad (some none) x10 h2 fun x11 =>
  xBin (some (.int .i64)) .mul s1.2.2.1 (.int .i64 (.ofNat 16)) fun x12 =>
  xBin (some (.int .i64)) .quo x12 (.int .i64 (.ofNat 1024)) fun x13 =>
  c140_4 x11 x13 h2 v0 s1 K2)
  (k (.tup [s1.2.1, s1.1]) h2)
noncomputable def bd140 (v0 v1 : CV) (h : CH) (k : CV → CH → Bool) : Bool :=
 xBox 191 v1 h fun x1 h1 =>
 xLoop (n := 3) (fun K2 s1 h2 =>
  xAddr (some 1) x1 fun x4 =>
  xAddr (some 2) x4 fun x5 =>
  xLoad (some none) x5 h2 fun x6 =>
  xConv (some (.int .u32)) (some (.int .i64)) x6 fun x7 =>
  c140_5 x7 s1 x1 h2 v0 K2 k) 1000000 ((.bool true), .nils, (.int .i64 (.ofNat 0)), ()) h1
noncomputable abbrev ex140 : Ex := fun args h k => a2 args fun v0 v1 => bd140 v0 v1 h k
set_option maxRecDepth 100000 in
theorem sim140 : SimF Tryz.prog 140 ex140 := fun args h k hk => by
  obtain ⟨v0, v1, rfl, hk⟩ := a2_ok hk
  exact sim_of (qf := (fun f => [46, 47, 62, 75, 82, 97, 104, 114, 121, 127, 128, 141, 151, 156, 157, 183].contains f)) (Z := zs) (C := [(175, ex175), (141, ex141), (176, ex176)]) (T := []) ⟨zerosB_ok zsOk, (exCons (by kernel_rfl) sim175 (exCons (by kernel_rfl) sim141 (exCons (by kernel_rfl) sim176 exNil)))⟩ (.seq .nil (.seq .nil (.seq .nil (.seq (.seq .nil (.loop [7, 6, 8] [14, 15, 16, 17, 18, 19, 20, 23, 24, 25, 26, 27, 28, 29, 30, 9, 10, 11, 31, 32, 35, 36, 37, 38, 39, 40, 41, 42, 43, 33, 34, 45, 46, 44, 47, 48, 12, 13, 49, 50, 51, 52, 53, 54, 55, 56, 57, 21, 22] (.seq .nil (.seq (.seq .nil (.seq .nil (.seq (.seq .nil (.loop [11] [31, 32, 35, 36, 37, 38, 39, 40, 41, 42, 43, 33, 34] .nil)) (.seq .nil (.join [7] [49, 50, 51, 52, 53] .nil .nil))))) .nil)))) .nil)))) Tryz.func140 _ h k (Eq.mp (by kernel_rfl : (bd140 v0 v1 h k = true) = (xFn Tryz.prog (fun f => [46, 47, 62, 75, 82, 97, 104, 114, 121, 127, 128, 141, 151, 156, 157, 183].contains f) zs [(175, ex175), (141, ex141), (176, ex176)] [] Tryz.f140 (.seq .nil (.seq .nil (.seq .nil (.seq (.seq .nil (.loop [7, 6, 8] [14, 15, 16, 17, 18, 19, 20, 23, 24, 25, 26, 27, 28, 29, 30, 9, 10, 11, 31, 32, 35, 36, 37, 38, 39, 40, 41, 42, 43, 33, 34, 45, 46, 44, 47, 48, 12, 13, 49, 50, 51, 52, 53, 54, 55, 56, 57, 21, 22] (.seq .nil (.seq (.seq .nil (.seq .nil (.seq (.seq .nil (.loop [11] [31, 32, 35, 36, 37, 38, 39, 40, 41, 42, 43, 33, 34] .nil)) (.seq .nil (.join [7] [49, 50, 51, 52, 53] .nil .nil))))) .nil)))) .nil)))) [v0, v1] h k = true)) hk)

/- undercroft/undercroftref29.used -/
noncomputable abbrev c182_1 (v0 : CV) (s0 : TupC 1) (h1 : CH) (v1 : CV) (k : CV → CH → Bool) (K1 : TupC 1 → CH → Bool) : Bool :=
 xLen (some (.inl false)) v0 fun x3 =>
 xBin (some (.int .i64)) .lss s0.1 x3 fun x4 =>
 xIte x4
  (xIdx (some (none, 18)) v0 s0.1 fun x5 =>
  xAddr (some 0) x5 fun x6 =>
  xLoad (some none) x6 h1 fun x7 =>
  xBin (some (.int .i64)) .eql x7 v1 fun x8 =>
  xIte x8
   (k (.bool true) h1)
   (xBin (some (.int .i64)) .add s0.1 (.int .i64 (.ofNat 1)) fun x9 =>
   K1 (x9, ()) h1))
  (k (.bool false) h1)
noncomputable def bd182 (v0 v1 : CV) (h : CH) (k : CV → CH → Bool) : Bool :=
 xLoop (n := 1) (fun K1 s0 h1 =>
  c182_1 v0 s0 h1 v1 k K1) 1000000 ((.int .i64 (.ofNat 0)), ()) h
noncomputable abbrev ex182 : Ex := fun args h k => a2 args fun v0 v1 => bd182 v0 v1 h k
set_option maxRecDepth 100000 in
theorem sim182 : SimF Tryz.prog 182 ex182 := fun args h k hk => by
  obtain ⟨v0, v1, rfl, hk⟩ := a2_ok hk
  exact sim_of (qf := (fun f => [46, 47, 62, 75, 82, 97, 104, 114, 121, 127, 128, 141, 151, 156, 157, 183].contains f)) (Z := zs) (C := []) (T := []) ⟨zerosB_ok zsOk, exNil⟩ (.seq .nil (.seq (.seq .nil (.loop [5] [6, 7, 8, 9, 12, 13, 14, 15, 16, 17, 18, 4, 10, 11] .nil)) .nil)) Tryz.func182 _ h k (Eq.mp (by kernel_rfl : (bd182 v0 v1 h k = true) = (xFn Tryz.prog (fun f => [46, 47, 62, 75, 82, 97, 104, 114, 121, 127, 128, 141, 151, 156, 157, 183].contains f) zs [] [] Tryz.f182 (.seq .nil (.seq (.seq .nil (.loop [5] [6, 7, 8, 9, 12, 13, 14, 15, 16, 17, 18, 4, 10, 11] .nil)) .nil)) [v0, v1] h k = true)) hk)

/- (*undercroft/undercroftref29.Disk).badSlots -/
noncomputable abbrev c168_1 (x4 : CV) (s26 : TupC 1) (h7 : CH) (s11 : TupC 1) (k : CV → CH → Bool) (K27 : TupC 1 → CH → Bool) : Bool :=
 xIdx (some (none, 2)) x4 s26.1 fun x30 =>
 xAddr (some 1) x30 fun x31 =>
 xLoad (some none) x31 h7 fun x32 =>
 xIdx (some (none, 2)) x4 s11.1 fun x33 =>
 xAddr (some 1) x33 fun x34 =>
 xLoad (some none) x34 h7 fun x35 =>
 xBin (some .string) .eql x32 x35 fun x36 =>
 xIte x36
  (k (.bool true) h7)
  (xBin (some (.int .i64)) .add s26.1 (.int .i64 (.ofNat 1)) fun x37 =>
  K27 (x37, ()) h7)
noncomputable abbrev c168_2 (x4 : CV) (s11 : TupC 1) (h5 : CH) (K38 : TupC 1 → CH → Bool) : Bool :=
 xIdx (some (none, 2)) x4 s11.1 fun x42 =>
 xAddr (some 1) x42 fun x43 =>
 xLoad (some none) x43 h5 fun x44 =>
 xBin (some .string) .eql x44 (.str ⟨#[46]⟩) fun x45 =>
 xIte x45
  (K38 ((.bool true), ()) h5)
  (xIdx (some (none, 2)) x4 s11.1 fun x46 =>
  xAddr (some 1) x46 fun x47 =>
  xLoad (some none) x47 h5 fun x48 =>
  xBin (some .string) .eql x48 (.str ⟨#[46, 46]⟩) fun x49 =>
  K38 (x49, ()) h5)
noncomputable abbrev c168_3 (k : CV → CH → Bool) (s11 : TupC 1) (x4 : CV) (K12 : TupC 1 → CH → Bool) (x25 : CV) (h5 : CH) : Bool :=
 xJoin (n := 1) (fun s25 h6 =>
  xIte s25.1
   (k (.bool true) h6)
   (xLoop (n := 1) (fun K27 s26 h7 =>
    xBin (some (.int .i64)) .lss s26.1 s11.1 fun x29 =>
    xIte x29
     (c168_1 x4 s26 h7 s11 k K27)
     (xBin (some (.int .i64)) .add s11.1 (.int .i64 (.ofNat 1)) fun x38 =>
     K12 (x38, ()) h7)) 1000000 ((.int .i64 (.ofNat 0)), ()) h6))
 (fun K38 => xUn .not x25 fun x40 =>
 xIte x40
  (K38 ((.bool true), ()) h5)
  (xBin (some (.int .i64)) .gtr s11.1 (.int .i64 (.ofNat 1)) fun x41 =>
  xIte x41
   (c168_2 x4 s11 h5 K38)
   (K38 ((.bool false), ()) h5)))
noncomputable abbrev c168_4 (x18 : CV) (s11 : TupC 1) (K12 : TupC 1 → CH → Bool) (h4 : CH) (x4 : CV) (v1 : CV) (k : CV → CH → Bool) : Bool :=
 xBin (some (.int .u16)) .eql x18 (.int .u16 (.ofNat 0)) fun x19 =>
 xIte x19
  (xBin (some (.int .i64)) .add s11.1 (.int .i64 (.ofNat 1)) fun x20 =>
  K12 (x20, ()) h4)
  (xIdx (some (none, 2)) x4 s11.1 fun x21 =>
  xAddr (some 0) x21 fun x22 =>
  xLoad (some none) x22 h4 fun x23 =>
  xConv (some (.int .u16)) (some (.int .i64)) x23 fun x24 =>
  bd182 v1 x24 h4 fun x25 h5 =>
  c168_3 k s11 x4 K12 x25 h5)
noncomputable abbrev c168_5 (s10 : TupC 1) (k : CV → CH → Bool) (h3 : CH) (x4 : CV) (v1 : CV) : Bool :=
 xIte s10.1
  (k (.bool true) h3)
  (xLoop (n := 1) (fun K12 s11 h4 =>
   xLen (some (.inl false)) x4 fun x14 =>
   xBin (some (.int .i64)) .lss s11.1 x14 fun x15 =>
   xIte x15
    (xIdx (some (none, 2)) x4 s11.1 fun x16 =>
    xAddr (some 0) x16 fun x17 =>
    xLoad (some none) x17 h4 fun x18 =>
    c168_4 x18 s11 K12 h4 x4 v1 k)
    (k (.bool false) h4)) 1000000 ((.int .i64 (.ofNat 0)), ()) h3)
noncomputable abbrev c168_6 (x55 : CV) (x52 : CV) (h2 : CH) (K49 : TupC 1 → CH → Bool) (x4 : CV) : Bool :=
 xBuild (some (.inl [(0, 1), (1, 1)])) (some (.agg [(.int .u16 (.ofNat 0)), (.str ⟨#[]⟩)])) [(0, x55), (1, (.str ⟨#[46]⟩))] fun x56 =>
 xEq (some (.agg (.fld 0 (some none) .int (.fld 1 (some none) .str .done)))) .neq x52 x56 h2 fun x57 =>
 xIte x57
  (K49 ((.bool true), ()) h2)
  (xIdx (some (none, 2)) x4 (.int .i64 (.ofNat 1)) fun x58 =>
  xAddr (some 1) x58 fun x59 =>
  xLoad (some none) x59 h2 fun x60 =>
  xBin (some .string) .neq x60 (.str ⟨#[46, 46]⟩) fun x61 =>
  K49 (x61, ()) h2)
noncomputable abbrev c168_7 (x10 : CV) (k : CV → CH → Bool) (h2 : CH) (x4 : CV) (v1 : CV) (x1 : CV) : Bool :=
 xIte x10
  (k (.bool false) h2)
  (xJoin (n := 1) (fun s10 h3 =>
   c168_5 s10 k h3 x4 v1)
  (fun K49 => xIdx (some (none, 2)) x4 (.int .i64 (.ofNat 0)) fun x51 =>
  xLoad (some (some 2)) x51 h2 fun x52 =>
  xAddr (some 0) x1 fun x53 =>
  xLoad (some none) x53 h2 fun x54 =>
  xConv (some (.int .i64)) (some (.int .u16)) x54 fun x55 =>
  c168_6 x55 x52 h2 K49 x4))
noncomputable abbrev c168_8 (x1 : CV) (h1 : CH) (v0 : CV) (k : CV → CH → Bool) (v1 : CV) : Bool :=
 xLoad (some (some 18)) x1 h1 fun x2 =>
 bd140 v0 x2 h1 fun x3 h2 =>
 xExtract x3 0 fun x4 =>
 xExtract x3 1 fun x5 =>
 xUn .not x5 fun x6 =>
 xIte x6
  (k (.bool true) h2)
  (xAddr (some 1) x1 fun x7 =>
  xAddr (some 1) x7 fun x8 =>
  xLoad (some none) x8 h2 fun x9 =>
  xBin (some (.int .u16)) .eql x9 (.int .u16 (.ofNat 0)) fun x10 =>
  c168_7 x10 k h2 x4 v1 x1)
noncomputable def bd168 (v0 v1 v2 : CV) (h : CH) (k : CV → CH → Bool) : Bool :=
 xBox 191 v2 h fun x1 h1 =>
 c168_8 x1 h1 v0 k v1
noncomputable abbrev ex168 : Ex := fun args h k => a3 args fun v0 v1 v2 => bd168 v0 v1 v2 h k
set_option maxRecDepth 100000 in
theorem sim168 : SimF Tryz.prog 168 ex168 := fun args h k hk => by
  obtain ⟨v0, v1, v2, rfl, hk⟩ := a3_ok hk
  exact sim_of (qf := (fun f => [46, 47, 62, 75, 82, 97, 104, 114, 121, 127, 128, 141, 151, 156, 157, 183].contains f)) (Z := zs) (C := [(140, ex140), (182, ex182)]) (T := []) ⟨zerosB_ok zsOk, (exCons (by kernel_rfl) sim140 (exCons (by kernel_rfl) sim182 exNil))⟩ (.seq .nil (.seq .nil (.seq .nil (.seq .nil (.seq (.join [38] [24, 25, 26, 27, 28, 29, 30, 31, 32, 33, 34, 35, 36, 37] .nil .nil) (.seq (.seq .nil (.loop [9] [39, 40, 41, 42, 45, 46, 47, 48, 49, 50, 51, 52, 53, 54, 55, 56, 57, 58, 10, 59, 60, 61, 62, 63, 64, 65, 66, 67, 68, 69, 70, 71, 72, 73, 74, 75, 76, 77, 78, 79, 80, 6, 11, 81, 82, 83, 86, 87, 88, 89, 90, 91, 92, 93, 94, 95, 96, 84, 85, 43, 44] (.seq .nil (.seq (.seq .nil (.seq .nil (.seq (.join [80] [59, 60, 61, 62, 63, 64, 65, 66, 67, 68, 69, 70, 71, 72, 73, 74, 75, 76, 77, 78, 79] .nil .nil) (.seq .nil (.loop [11] [81, 82, 83, 86, 87, 88, 89, 90, 91, 92, 93, 94, 95, 96, 6, 84, 85] .nil))))) .nil)))) .nil)))))) Tryz.func168 _ h k (Eq.mp (by kernel_rfl : (bd168 v0 v1 v2 h k = true) = (xFn Tryz.prog (fun f => [46, 47, 62, 75, 82, 97, 104, 114, 121, 127, 128, 141, 151, 156, 157, 183].contains f) zs [(140, ex140), (182, ex182)] [] Tryz.f168 (.seq .nil (.seq .nil (.seq .nil (.seq .nil (.seq (.join [38] [24, 25, 26, 27, 28, 29, 30, 31, 32, 33, 34, 35, 36, 37] .nil .nil) (.seq (.seq .nil (.loop [9] [39, 40, 41, 42, 45, 46, 47, 48, 49, 50, 51, 52, 53, 54, 55, 56, 57, 58, 10, 59, 60, 61, 62, 63, 64, 65, 66, 67, 68, 69, 70, 71, 72, 73, 74, 75, 76, 77, 78, 79, 80, 6, 11, 81, 82, 83, 86, 87, 88, 89, 90, 91, 92, 93, 94, 95, 96, 84, 85, 43, 44] (.seq .nil (.seq (.seq .nil (.seq .nil (.seq (.join [80] [59, 60, 61, 62, 63, 64, 65, 66, 67, 68, 69, 70, 71, 72, 73, 74, 75, 76, 77, 78, 79] .nil .nil) (.seq .nil (.loop [11] [81, 82, 83, 86, 87, 88, 89, 90, 91, 92, 93, 94, 95, 96, 6, 84, 85] .nil))))) .nil)))) .nil)))))) [v0, v1, v2] h k = true)) hk)

/- (*undercroft/undercroftref29.Disk).slots -/
noncomputable abbrev c134_1 (v0 : CV) (v1 : CV) (x13 : CV) (h2 : CH) (s2 : TupC 1) (x2 : CV) (K3 : TupC 1 → CH → Bool) : Bool :=
 bd168 v0 v1 x13 h2 fun x14 h3 =>
 xIte x14
  (xIdx (some (none, 18)) v1 s2.1 fun x15 =>
  xAddr (some 0) x15 fun x16 =>
  xLoad (some none) x16 h3 fun x17 =>
  bd164 x2 x17 h3 fun x18 h4 =>
  xBin (some (.int .i64)) .add s2.1 (.int .i64 (.ofNat 1)) fun x19 =>
  K3 (x19, ()) h4)
  (xBin (some (.int .i64)) .add s2.1 (.int .i64 (.ofNat 1)) fun x20 =>
  K3 (x20, ()) h3)
noncomputable abbrev c134_2 (x7 : CV) (h2 : CH) (v1 : CV) (s2 : TupC 1) (v0 : CV) (x2 : CV) (K3 : TupC 1 → CH → Bool) : Bool :=
 xAddr (some 1) x7 fun x8 =>
 xAddr (some 0) x8 fun x9 =>
 xLoad (some none) x9 h2 fun x10 =>
 xBin (some (.int .u16)) .eql x10 (.int .u16 (.ofNat 2)) fun x11 =>
 xIte x11
  (xIdx (some (none, 18)) v1 s2.1 fun x12 =>
  xLoad (some (some 18)) x12 h2 fun x13 =>
  c134_1 v0 v1 x13 h2 s2 x2 K3)
  (xBin (some (.int .i64)) .add s2.1 (.int .i64 (.ofNat 1)) fun x21 =>
  K3 (x21, ()) h2)
noncomputable abbrev c134_3 (v1 : CV) (v0 : CV) (x2 : CV) (k : CV → CH → Bool) (h1 : CH) : Bool :=
 xLoop (n := 1) (fun K3 s2 h2 =>
  xLen (some (.inl false)) v1 fun x5 =>
  xBin (some (.int .i64)) .lss s2.1 x5 fun x6 =>
  xIte x6
   (xIdx (some (none, 18)) v1 s2.1 fun x7 =>
   c134_2 x7 h2 v1 s2 v0 x2 K3)
   (xNilCheck x2 fun x22 =>
   xAddr (some 1) x22 fun x23 =>
   xLoad (some none) x23 h2 fun x24 =>
   k x24 h2)) 1000000 ((.int .i64 (.ofNat 0)), ()) h1
noncomputable def bd134 (v0 v1 : CV) (h : CH) (k : CV → CH → Bool) : Bool :=
 xBuild (some (.inl [(0, 1), (1, 1)])) (some (.agg [(.bytes 1 0), .nils])) [(0, (.int .u8 (.ofNat 13)))] fun x1 =>
 xBox 267 x1 h fun x2 h1 =>
 c134_3 v1 v0 x2 k h1
noncomputable abbrev ex134 : Ex := fun args h k => a2 args fun v0 v1 => bd134 v0 v1 h k
set_option maxRecDepth 100000 in
theorem sim134 : SimF Tryz.prog 134 ex134 := fun args h k hk => by
  obtain ⟨v0, v1, rfl, hk⟩ := a2_ok hk
  exact sim_of (qf := (fun f => [46, 47, 62, 75, 82, 97, 104, 114, 121, 127, 128, 141, 151, 156, 157, 183].contains f)) (Z := zs) (C := [(168, ex168), (164, ex164)]) (T := []) ⟨zerosB_ok zsOk, (exCons (by kernel_rfl) sim168 (exCons (by kernel_rfl) sim164 exNil))⟩ (.seq .nil (.seq .nil (.seq (.seq .nil (.loop [6] [10, 11, 12, 13, 16, 17, 18, 19, 20, 21, 22, 23, 24, 25, 26, 27, 28, 29, 7, 30, 31, 32, 33, 34, 35, 36, 37, 14, 15] .nil)) .nil))) Tryz.func134 _ h k (Eq.mp (by kernel_rfl : (bd134 v0 v1 h k = true) = (xFn Tryz.prog (fun f => [46, 47, 62, 75, 82, 97, 104, 114, 121, 127, 128, 141, 151, 156, 157, 183].contains f) zs [(168, ex168), (164, ex164)] [] Tryz.f134 (.seq .nil (.seq .nil (.seq (.seq .nil (.loop [6] [10, 11, 12, 13, 16, 17, 18, 19, 20, 21, 22, 23, 24, 25, 26, 27, 28, 29, 7, 30, 31, 32, 33, 34, 35, 36, 37, 14, 15] .nil)) .nil))) [v0, v1] h k = true)) hk)

/- (*undercroft/undercroftref29.Disk).Names -/
noncomputable abbrev c135_1 (x22 : CV) (x26 : CV) (h4 : CH) (s11 : TupC 2) (K12 : TupC 2 → CH → Bool) : Bool :=
 xBuild (some (.inl [(0, 1), (1, 1)])) (some (.agg [(.int .i64 (.ofNat 0)), (.int .i64 (.ofNat 0))])) [(0, x22), (1, x26)] fun x27 =>
 xNewS (some (274, 2, 16, false)) (some [(.int .i64 (.ofNat 0)), (.int .i64 (.ofNat 0))]) 1 [(0, x27)] h4 fun x28 h5 =>
 xApp (some (274, 2, 16, false)) s11.1 x28 h5 fun x29 h6 =>
 xBin (some (.int .i64)) .add s11.2.1 (.int .i64 (.ofNat 1)) fun x30 =>
 K12 (x29, x30, ()) h6
noncomputable abbrev c135_2 (x19 : CV) (v1 : CV) (s0 : TupC 2) (h4 : CH) (x10 : CV) (s11 : TupC 2) (K12 : TupC 2 → CH → Bool) : Bool :=
 xIte x19
  (xIdx (some (none, 18)) v1 s0.2.1 fun x20 =>
  xAddr (some 0) x20 fun x21 =>
  xLoad (some none) x21 h4 fun x22 =>
  xIdx (some (none, 2)) x10 s11.2.1 fun x23 =>
  xAddr (some 0) x23 fun x24 =>
  xLoad (some none) x24 h4 fun x25 =>
  xConv (some (.int .u16)) (some (.int .i64)) x25 fun x26 =>
  c135_1 x22 x26 h4 s11 K12)
  (xBin (some (.int .i64)) .add s11.2.1 (.int .i64 (.ofNat 1)) fun x31 =>
  K12 (s11.1, x31, ()) h4)
noncomputable abbrev c135_3 (s11 : TupC 2) (x14 : CV) (x10 : CV) (h4 : CH) (v1 : CV) (s0 : TupC 2) (K12 : TupC 2 → CH → Bool) (K1 : TupC 2 → CH → Bool) : Bool :=
 xBin (some (.int .i64)) .lss s11.2.1 x14 fun x15 =>
 xIte x15
  (xIdx (some (none, 2)) x10 s11.2.1 fun x16 =>
  xAddr (some 0) x16 fun x17 =>
  xLoad (some none) x17 h4 fun x18 =>
  xBin (some (.int .u16)) .neq x18 (.int .u16 (.ofNat 0)) fun x19 =>
  c135_2 x19 v1 s0 h4 x10 s11 K12)
  (xBin (some (.int .i64)) .add s0.2.1 (.int .i64 (.ofNat 1)) fun x32 =>
  K1 (s11.1, x32, ()) h4)
noncomputable abbrev c135_4 (s4 : TupC 1) (s0 : TupC 2) (K1 : TupC 2 → CH → Bool) (h2 : CH) (v1 : CV) (v0 : CV) : Bool :=
 xIte s4.1
  (xBin (some (.int .i64)) .add s0.2.1 (.int .i64 (.ofNat 1)) fun x6 =>
  K1 (s0.1, x6, ()) h2)
  (xIdx (some (none, 18)) v1 s0.2.1 fun x7 =>
  xLoad (some (some 18)) x7 h2 fun x8 =>
  bd140 v0 x8 h2 fun x9 h3 =>
  xExtract x9 0 fun x10 =>
  xExtract x9 1 fun x11 =>
  xLoop (n := 2) (fun K12 s11 h4 =>
   xLen (some (.inl false)) x10 fun x14 =>
   c135_3 s11 x14 x10 h4 v1 s0 K12 K1) 1000000 (s0.1, (.int .i64 (.ofNat 2)), ()) h3)
noncomputable abbrev c135_5 (x36 : CV) (h1 : CH) (K32 : TupC 1 → CH → Bool) (v1 : CV) (s0 : TupC 2) : Bool :=
 xLoad (some none) x36 h1 fun x37 =>
 xBin (some (.int .u16)) .neq x37 (.int .u16 (.ofNat 2)) fun x38 =>
 xIte x38
  (K32 ((.bool true), ()) h1)
  (xIdx (some (none, 18)) v1 s0.2.1 fun x39 =>
  xAddr (some 1) x39 fun x40 =>
  xAddr (some 1) x40 fun x41 =>
  xLoad (some none) x41 h1 fun x42 =>
  xBin (some (.int .u16)) .eql x42 (.int .u16 (.ofNat 0)) fun x43 =>
  K32 (x43, ()) h1)
noncomputable def bd135 (v0 v1 : CV) (h : CH) (k : CV → CH → Bool) : Bool :=
 xLoop (n := 2) (fun K1 s0 h1 =>
  xLen (some (.inl false)) v1 fun x3 =>
  xBin (some (.int .i64)) .lss s0.2.1 x3 fun x4 =>
  xIte x4
   (xJoin (n := 1) (fun s4 h2 =>
    c135_4 s4 s0 K1 h2 v1 v0)
   (fun K32 => xIdx (some (none, 18)) v1 s0.2.1 fun x34 =>
   xAddr (some 1) x34 fun x35 =>
   xAddr (some 0) x35 fun x36 =>
   c135_5 x36 h1 K32 v1 s0))
   (k s0.1 h1)) 1000000 (.nils, (.int .i64 (.ofNat 0)), ()) h
noncomputable abbrev ex135 : Ex := fun args h k => a2 args fun v0 v1 => bd135 v0 v1 h k
set_option maxRecDepth 100000 in
theorem sim135 : SimF Tryz.prog 135 ex135 := fun args h k hk => by
  obtain ⟨v0, v1, rfl, hk⟩ := a2_ok hk
  exact sim_of (qf := (fun f => [46, 47, 62, 75, 82, 97, 104, 114, 121, 127, 128, 141, 151, 156, 157, 183].contains f)) (Z := zs) (C := [(140, ex140)]) (T := []) ⟨zerosB_ok zsOk, (exCons (by kernel_rfl) sim140 exNil)⟩ (.seq .nil (.seq .nil (.seq (.seq .nil (.loop [5, 6] [10, 11, 12, 13, 16, 17, 18, 19, 20, 21, 22, 23, 24, 25, 26, 27, 28, 29, 30, 31, 33, 34, 35, 36, 37, 38, 32, 39, 40, 7, 8, 9, 41, 42, 43, 44, 47, 48, 49, 50, 51, 52, 53, 54, 55, 56, 57, 58, 59, 60, 61, 62, 63, 64, 65, 66, 67, 45, 46, 14, 15] (.seq .nil (.seq (.seq (.join [31] [16, 17, 18, 19, 20, 21, 22, 23, 24, 25, 26, 27, 28, 29, 30] .nil .nil) (.seq .nil (.seq .nil (.loop [5, 9] [41, 42, 43, 44, 47, 48, 49, 50, 51, 52, 53, 54, 55, 56, 57, 58, 59, 60, 61, 62, 63, 64, 65, 66, 67, 45, 46] .nil)))) .nil)))) .nil))) Tryz.func135 _ h k (Eq.mp (by kernel_rfl : (bd135 v0 v1 h k = true) = (xFn Tryz.prog (fun f => [46, 47, 62, 75, 82, 97, 104, 114, 121, 127, 128, 141, 151, 156, 157, 183].contains f) zs [(140, ex140)] [] Tryz.f135 (.seq .nil (.seq .nil (.seq (.seq .nil (.loop [5, 6] [10, 11, 12, 13, 16, 17, 18, 19, 20, 21, 22, 23, 24, 25, 26, 27, 28, 29, 30, 31, 33, 34, 35, 36, 37, 38, 32, 39, 40, 7, 8, 9, 41, 42, 43, 44, 47, 48, 49, 50, 51, 52, 53, 54, 55, 56, 57, 58, 59, 60, 61, 62, 63, 64, 65, 66, 67, 45, 46, 14, 15] (.seq .nil (.seq (.seq (.join [31] [16, 17, 18, 19, 20, 21, 22, 23, 24, 25, 26, 27, 28, 29, 30] .nil .nil) (.seq .nil (.seq .nil (.loop [5, 9] [41, 42, 43, 44, 47, 48, 49, 50, 51, 52, 53, 54, 55, 56, 57, 58, 59, 60, 61, 62, 63, 64, 65, 66, 67, 45, 46] .nil)))) .nil)))) .nil))) [v0, v1] h k = true)) hk)

/- (*undercroft/undercroftref29.Disk).reached -/
noncomputable abbrev c169_1 (s14 : TupC 1) (v1 : CV) (s10 : TupC 2) (h5 : CH) (x7 : CV) (K11 : TupC 2 → CH → Bool) : Bool :=
 xIte s14.1
  (xIdx (some (none, 2)) v1 s10.2.1 fun x16 =>
  xAddr (some 1) x16 fun x17 =>
  xLoad (some none) x17 h5 fun x18 =>
  xIdx (some (none, 1)) x7 x18 fun x19 =>
  xStore (some 1) x19 (.bool true) h5 fun h6 =>
  xBin (some (.int .i64)) .add s10.2.1 (.int .i64 (.ofNat 1)) fun x20 =>
  K11 ((.bool true), x20, ()) h6)
  (xBin (some (.int .i64)) .add s10.2.1 (.int .i64 (.ofNat 1)) fun x21 =>
  K11 (s10.1, x21, ()) h5)
noncomputable abbrev c169_2 (x7 : CV) (x25 : CV) (h4 : CH) (v1 : CV) (s10 : TupC 2) (K21 : TupC 1 → CH → Bool) : Bool :=
 xIdx (some (none, 1)) x7 x25 fun x26 =>
 xLoad (some none) x26 h4 fun x27 =>
 xIte x27
  (xIdx (some (none, 2)) v1 s10.2.1 fun x28 =>
  xAddr (some 1) x28 fun x29 =>
  xLoad (some none) x29 h4 fun x30 =>
  xIdx (some (none, 1)) x7 x30 fun x31 =>
  xLoad (some none) x31 h4 fun x32 =>
  xUn .not x32 fun x33 =>
  K21 (x33, ()) h4)
  (K21 ((.bool false), ()) h4)
noncomputable abbrev c169_3 (v1 : CV) (x7 : CV) (K9 : TupC 1 → CH → Bool) (h3 : CH) : Bool :=
 xLoop (n := 2) (fun K11 s10 h4 =>
  xLen (some (.inl false)) v1 fun x13 =>
  xBin (some (.int .i64)) .lss s10.2.1 x13 fun x14 =>
  xIte x14
   (xJoin (n := 1) (fun s14 h5 =>
    c169_1 s14 v1 s10 h5 x7 K11)
   (fun K21 => xIdx (some (none, 2)) v1 s10.2.1 fun x23 =>
   xAddr (some 0) x23 fun x24 =>
   xLoad (some none) x24 h4 fun x25 =>
   c169_2 x7 x25 h4 v1 s10 K21))
   (K9 (s10.1, ()) h4)) 1000000 ((.bool false), (.int .i64 (.ofNat 0)), ()) h3
noncomputable abbrev c169_4 (x5 : CV) (h : CH) (v1 : CV) (k : CV → CH → Bool) : Bool :=
 xBin (some (.int .i64)) .add x5 (.int .i64 (.ofNat 1)) fun x6 =>
 xMake (some (4, 1, 1, false)) (some [(.bool false)]) x6 x6 h fun x7 h1 =>
 xIdx (some (none, 1)) x7 (.int .i64 (.ofNat 1)) fun x8 =>
 xStore (some 1) x8 (.bool true) h1 fun h2 =>
 xLoop (n := 1) (fun K9 s8 h3 =>
  xIte s8.1
   (c169_3 v1 x7 K9 h3)
   (k x7 h3)) 1000000 ((.bool true), ()) h2
noncomputable def bd169 (v0 v1 : CV) (h : CH) (k : CV → CH → Bool) : Bool :=
 xNilCheck v0 fun x1 =>
 xAddr (some 2) x1 fun x2 =>
 xAddr (some 0) x2 fun x3 =>
 xAddr (some 2) x3 fun x4 =>
 xLoad (some none) x4 h fun x5 =>
 c169_4 x5 h v1 k
noncomputable abbrev ex169 : Ex := fun args h k => a2 args fun v0 v1 => bd169 v0 v1 h k
set_option maxRecDepth 100000 in
theorem sim169 : SimF Tryz.prog 169 ex169 := fun args h k hk => by
  obtain ⟨v0, v1, rfl, hk⟩ := a2_ok hk
  exact sim_of (qf := (fun f => [46, 47, 62, 75, 82, 97, 104, 114, 121, 127, 128, 141, 151, 156, 157, 183].contains f)) (Z := zs) (C := []) (T := []) ⟨zerosB_ok zsOk, exNil⟩ (.seq .nil (.seq .nil (.seq .nil (.seq .nil (.seq (.loop [6] [18, 7, 19, 20, 21, 22, 25, 26, 27, 28, 29, 30, 31, 32, 33, 34, 35, 36, 37, 38, 39, 40, 41, 42, 43, 44, 45, 46, 47, 48, 49, 50, 23, 24] (.seq .nil (.seq .nil (.seq .nil (.loop [6, 7] [19, 20, 21, 22, 25, 26, 27, 28, 29, 30, 31, 32, 33, 34, 35, 36, 37, 38, 39, 40, 41, 42, 43, 44, 45, 46, 47, 48, 49, 50, 23, 24] (.seq .nil (.seq (.join [43] [25, 26, 27, 28, 29, 30, 31, 32, 33, 34, 35, 36, 37, 38, 39, 40, 41, 42] .nil .nil) .nil))))))) .nil))))) Tryz.func169 _ h k (Eq.mp (by kernel_rfl : (bd169 v0 v1 h k = true) = (xFn Tryz.prog (fun f => [46, 47, 62, 75, 82, 97, 104, 114, 121, 127, 128, 141, 151, 156, 157, 183].contains f) zs [] [] Tryz.f169 (.seq .nil (.seq .nil (.seq .nil (.seq .nil (.seq (.loop [6] [18, 7, 19, 20, 21, 22, 25, 26, 27, 28, 29, 30, 31, 32, 33, 34, 35, 36, 37, 38, 39, 40, 41, 42, 43, 44, 45, 46, 47, 48, 49, 50, 23, 24] (.seq .nil (.seq .nil (.seq .nil (.loop [6, 7] [19, 20, 21, 22, 25, 26, 27, 28, 29, 30, 31, 32, 33, 34, 35, 36, 37, 38, 39, 40, 41, 42, 43, 44, 45, 46, 47, 48, 49, 50, 23, 24] (.seq .nil (.seq (.join [43] [25, 26, 27, 28, 29, 30, 31, 32, 33, 34, 35, 36, 37, 38, 39, 40, 41, 42] .nil .nil) .nil))))))) .nil))))) [v0, v1] h k = true)) hk)

/- undercroft/undercroftref29.parent -/
noncomputable abbrev c170_1 (x8 : CV) (v0 : CV) (s0 : TupC 3) (h1 : CH) (K1 : TupC 3 → CH → Bool) : Bool :=
 xIte x8
  (xIdx (some (none, 2)) v0 s0.2.2.1 fun x9 =>
  xAddr (some 0) x9 fun x10 =>
  xLoad (some none) x10 h1 fun x11 =>
  xBin (some (.int .i64)) .add s0.2.1 (.int .i64 (.ofNat 1)) fun x12 =>
  xBin (some (.int .i64)) .add s0.2.2.1 (.int .i64 (.ofNat 1)) fun x13 =>
  K1 (x11, x12, x13, ()) h1)
  (xBin (some (.int .i64)) .add s0.2.2.1 (.int .i64 (.ofNat 1)) fun x14 =>
  K1 (s0.1, s0.2.1, x14, ()) h1)
noncomputable def bd170 (v0 v1 : CV) (h : CH) (k : CV → CH → Bool) : Bool :=
 xLoop (n := 3) (fun K1 s0 h1 =>
  xLen (some (.inl false)) v0 fun x3 =>
  xBin (some (.int .i64)) .lss s0.2.2.1 x3 fun x4 =>
  xIte x4
   (xIdx (some (none, 2)) v0 s0.2.2.1 fun x5 =>
   xAddr (some 1) x5 fun x6 =>
   xLoad (some none) x6 h1 fun x7 =>
   xBin (some (.int .i64)) .eql x7 v1 fun x8 =>
   c170_1 x8 v0 s0 h1 K1)
   (k (.tup [s0.1, s0.2.1]) h1)) 1000000 ((.int .i64 (.ofNat 0)), (.int .i64 (.ofNat 0)), (.int .i64 (.ofNat 0)), ()) h
noncomputable abbrev ex170 : Ex := fun args h k => a2 args fun v0 v1 => bd170 v0 v1 h k
set_option maxRecDepth 100000 in
theorem sim170 : SimF Tryz.prog 170 ex170 := fun args h k hk => by
  obtain ⟨v0, v1, rfl, hk⟩ := a2_ok hk
  exact sim_of (qf := (fun f => [46, 47, 62, 75, 82, 97, 104, 114, 121, 127, 128, 141, 151, 156, 157, 183].contains f)) (Z := zs) (C := []) (T := []) ⟨zerosB_ok zsOk, exNil⟩ (.seq .nil (.seq .nil (.seq .nil (.seq (.seq .nil (.loop [6, 7, 8] [9, 10, 11, 12, 15, 16, 17, 18, 19, 20, 21, 22, 23, 24, 25, 26, 27, 28, 13, 14] .nil)) .nil)))) Tryz.func170 _ h k (Eq.mp (by kernel_rfl : (bd170 v0 v1 h k = true) = (xFn Tryz.prog (fun f => [46, 47, 62, 75, 82, 97, 104, 114, 121, 127, 128, 141, 151, 156, 157, 183].contains f) zs [] [] Tryz.f170 (.seq .nil (.seq .nil (.seq .nil (.seq (.seq .nil (.loop [6, 7, 8] [9, 10, 11, 12, 15, 16, 17, 18, 19, 20, 21, 22, 23, 24, 25, 26, 27, 28, 13, 14] .nil)) .nil)))) [v0, v1] h k = true)) hk)

/- (*undercroft/undercroftref29.Disk).tree -/
noncomputable abbrev c136_1 (x2 : CV) (s3 : TupC 1) (K4 : TupC 1 → CH → Bool) (x21 : CV) (h8 : CH) (x15 : CV) : Bool :=
 xJoin (n := 1) (fun s24 h9 =>
  xIte s24.1
   (bd164 x2 (.int .i64 (.ofNat 1)) h9 fun x26 h10 =>
   xBin (some (.int .i64)) .add s3.1 (.int .i64 (.ofNat 1)) fun x27 =>
   K4 (x27, ()) h10)
   (xBin (some (.int .i64)) .add s3.1 (.int .i64 (.ofNat 1)) fun x28 =>
   K4 (x28, ()) h9))
 (fun K28 => xBin (some (.int .i64)) .neq x21 (.int .i64 (.ofNat 0)) fun x30 =>
 xIte x30
  (K28 ((.bool true), ()) h8)
  (xIdx (some (none, 2)) x15 (.int .i64 (.ofNat 1)) fun x31 =>
  xAddr (some 0) x31 fun x32 =>
  xLoad (some none) x32 h8 fun x33 =>
  xBin (some (.int .u16)) .neq x33 (.int .u16 (.ofNat 1)) fun x34 =>
  K28 (x34, ()) h8))
noncomputable abbrev c136_2 (x44 : CV) (h8 : CH) (x20 : CV) (K40 : TupC 1 → CH → Bool) (x10 : CV) (x3 : CV) : Bool :=
 xLoad (some none) x44 h8 fun x45 =>
 xConv (some (.int .u16)) (some (.int .i64)) x45 fun x46 =>
 xBin (some (.int .i64)) .neq x46 x20 fun x47 =>
 xIte x47
  (K40 ((.bool true), ()) h8)
  (xAddr (some 0) x10 fun x48 =>
  xLoad (some none) x48 h8 fun x49 =>
  xIdx (some (none, 1)) x3 x49 fun x50 =>
  xLoad (some none) x50 h8 fun x51 =>
  xUn .not x51 fun x52 =>
  K40 (x52, ()) h8)
noncomputable abbrev c136_3 (x10 : CV) (x2 : CV) (s3 : TupC 1) (K4 : TupC 1 → CH → Bool) (x21 : CV) (h8 : CH) (x15 : CV) (x20 : CV) (x3 : CV) : Bool :=
 xJoin (n := 1) (fun s34 h11 =>
  xIte s34.1
   (xAddr (some 0) x10 fun x36 =>
   xLoad (some none) x36 h11 fun x37 =>
   bd164 x2 x37 h11 fun x38 h12 =>
   xBin (some (.int .i64)) .add s3.1 (.int .i64 (.ofNat 1)) fun x39 =>
   K4 (x39, ()) h12)
   (xBin (some (.int .i64)) .add s3.1 (.int .i64 (.ofNat 1)) fun x40 =>
   K4 (x40, ()) h11))
 (fun K40 => xBin (some (.int .i64)) .neq x21 (.int .i64 (.ofNat 1)) fun x42 =>
 xIte x42
  (K40 ((.bool true), ()) h8)
  (xIdx (some (none, 2)) x15 (.int .i64 (.ofNat 1)) fun x43 =>
  xAddr (some 0) x43 fun x44 =>
  c136_2 x44 h8 x20 K40 x10 x3))
noncomputable abbrev c136_4 (x10 : CV) (h7 : CH) (v2 : CV) (x2 : CV) (s3 : TupC 1) (K4 : TupC 1 → CH → Bool) (x15 : CV) (x3 : CV) : Bool :=
 xAddr (some 0) x10 fun x17 =>
 xLoad (some none) x17 h7 fun x18 =>
 bd170 v2 x18 h7 fun x19 h8 =>
 xExtract x19 0 fun x20 =>
 xExtract x19 1 fun x21 =>
 xAddr (some 0) x10 fun x22 =>
 xLoad (some none) x22 h8 fun x23 =>
 xBin (some (.int .i64)) .eql x23 (.int .i64 (.ofNat 1)) fun x24 =>
 xIte x24
  (c136_1 x2 s3 K4 x21 h8 x15)
  (c136_3 x10 x2 s3 K4 x21 h8 x15 x20 x3)
noncomputable abbrev c136_5 (x54 : CV) (h5 : CH) (K52 : TupC 1 → CH → Bool) (x10 : CV) : Bool :=
 xAddr (some 0) x54 fun x55 =>
 xLoad (some none) x55 h5 fun x56 =>
 xBin (some (.int .u16)) .neq x56 (.int .u16 (.ofNat 2)) fun x57 =>
 xIte x57
  (K52 ((.bool true), ()) h5)
  (xAddr (some 1) x10 fun x58 =>
  xAddr (some 1) x58 fun x59 =>
  xLoad (some none) x59 h5 fun x60 =>
  xBin (some (.int .u16)) .eql x60 (.int .u16 (.ofNat 0)) fun x61 =>
  K52 (x61, ()) h5)
noncomputable abbrev c136_6 (s3 : TupC 1) (K4 : TupC 1 → CH → Bool) (x10 : CV) (v0 : CV) (v2 : CV) (x2 : CV) (x3 : CV) (h5 : CH) : Bool :=
 xJoin (n := 1) (fun s10 h6 =>
  xIte s10.1
   (xBin (some (.int .i64)) .add s3.1 (.int .i64 (.ofNat 1)) fun x12 =>
   K4 (x12, ()) h6)
   (xLoad (some (some 18)) x10 h6 fun x13 =>
   bd140 v0 x13 h6 fun x14 h7 =>
   xExtract x14 0 fun x15 =>
   xExtract x14 1 fun x16 =>
   c136_4 x10 h7 v2 x2 s3 K4 x15 x3))
 (fun K52 => xAddr (some 1) x10 fun x54 =>
 c136_5 x54 h5 K52 x10)
noncomputable abbrev c136_7 (h3 : CH) (x9 : CV) (s3 : TupC 1) (K4 : TupC 1 → CH → Bool) (v0 : CV) (v2 : CV) (x2 : CV) (x3 : CV) : Bool :=
 xBoxP 191 [(.int .i64 (.ofNat 0)), (.int .u16 (.ofNat 0)), (.int .u16 (.ofNat 0)), (.int .u32 (.ofNat 0)), (.int .u32 (.ofNat 0)), (.int .u32 (.ofNat 0)), (.int .u32 (.ofNat 0)), (.int .u32 (.ofNat 0)), (.int .u32 (.ofNat 0)), (.int .u32 (.ofNat 0)), (.int .u32 (.ofNat 0)), (.int .u32 (.ofNat 0)), (.int .u32 (.ofNat 0)), (.int .u32 (.ofNat 0)), (.int .u32 (.ofNat 0)), (.int .u32 (.ofNat 0)), (.int .u32 (.ofNat 0)), .nils] h3 fun x10 h4 =>
 xStore (some 18) x10 x9 h4 fun h5 =>
 c136_6 s3 K4 x10 v0 v2 x2 x3 h5
noncomputable abbrev c136_8 (v1 : CV) (v0 : CV) (v2 : CV) (x2 : CV) (x3 : CV) (k : CV → CH → Bool) (h2 : CH) : Bool :=
 xLoop (n := 1) (fun K4 s3 h3 =>
  xLen (some (.inl false)) v1 fun x6 =>
  xBin (some (.int .i64)) .lss s3.1 x6 fun x7 =>
  xIte x7
   (xIdx (some (none, 18)) v1 s3.1 fun x8 =>
   xLoad (some (some 18)) x8 h3 fun x9 =>
   c136_7 h3 x9 s3 K4 v0 v2 x2 x3)
   (xNilCheck x2 fun x62 =>
   xAddr (some 1) x62 fun x63 =>
   xLoad (some none) x63 h3 fun x64 =>
   k x64 h3)) 1000000 ((.int .i64 (.ofNat 0)), ()) h2
noncomputable def bd136 (v0 v1 v2 : CV) (h : CH) (k : CV → CH → Bool) : Bool :=
 xBuild (some (.inl [(0, 1), (1, 1)])) (some (.agg [(.bytes 1 0), .nils])) [(0, (.int .u8 (.ofNat 14)))] fun x1 =>
 xBox 267 x1 h fun x2 h1 =>
 bd169 v0 v2 h1 fun x3 h2 =>
 c136_8 v1 v0 v2 x2 x3 k h2
noncomputable abbrev ex136 : Ex := fun args h k => a3 args fun v0 v1 v2 => bd136 v0 v1 v2 h k
set_option maxRecDepth 100000 in
theorem sim136 : SimF Tryz.prog 136 ex136 := fun args h k hk => by
  obtain ⟨v0, v1, v2, rfl, hk⟩ := a3_ok hk
  exact sim_of (qf := (fun f => [46, 47, 62, 75, 82, 97, 104, 114, 121, 127, 128, 141, 151, 156, 157, 183].contains f)) (Z := zs) (C := [(169, ex169), (140, ex140), (170, ex170), (164, ex164)]) (T := []) ⟨zerosB_ok zsOk, (exCons (by kernel_rfl) sim169 (exCons (by kernel_rfl) sim140 (exCons (by kernel_rfl) sim170 (exCons (by kernel_rfl) sim164 exNil))))⟩ (.seq .nil (.seq .nil (.seq .nil (.seq (.seq .nil (.loop [9] [20, 21, 22, 23, 26, 27, 28, 29, 10, 30, 31, 32, 33, 34, 35, 36, 37, 38, 39, 41, 42, 43, 40, 44, 45, 11, 12, 47, 48, 49, 50, 46, 51, 52, 13, 14, 53, 54, 55, 56, 57, 58, 59, 60, 61, 62, 63, 64, 65, 66, 67, 68, 69, 70, 71, 72, 73, 74, 75, 76, 77, 78, 79, 80, 81, 82, 83, 84, 85, 86, 87, 88, 89, 24, 25] (.seq .nil (.seq (.seq .nil (.seq (.join [39] [30, 31, 32, 33, 34, 35, 36, 37, 38] .nil .nil) (.seq .nil (.seq .nil (.seq (.seq .nil (.cond (.seq (.join [64] [56, 57, 58, 59, 60, 61, 62, 63] .nil .nil) .nil) .nil)) (.join [85] [67, 68, 69, 70, 71, 72, 73, 74, 75, 76, 77, 78, 79, 80, 81, 82, 83, 84] .nil .nil)))))) .nil)))) .nil)))) Tryz.func136 _ h k (Eq.mp (by kernel_rfl : (bd136 v0 v1 v2 h k = true) = (xFn Tryz.prog (fun f => [46, 47, 62, 75, 82, 97, 104, 114, 121, 127, 128, 141, 151, 156, 157, 183].contains f) zs [(169, ex169), (140, ex140), (170, ex170), (164, ex164)] [] Tryz.f136 (.seq .nil (.seq .nil (.seq .nil (.seq (.seq .nil (.loop [9] [20, 21, 22, 23, 26, 27, 28, 29, 10, 30, 31, 32, 33, 34, 35, 36, 37, 38, 39, 41, 42, 43, 40, 44, 45, 11, 12, 47, 48, 49, 50, 46, 51, 52, 13, 14, 53, 54, 55, 56, 57, 58, 59, 60, 61, 62, 63, 64, 65, 66, 67, 68, 69, 70, 71, 72, 73, 74, 75, 76, 77, 78, 79, 80, 81, 82, 83, 84, 85, 86, 87, 88, 89, 24, 25] (.seq .nil (.seq (.seq .nil (.seq (.join [39] [30, 31, 32, 33, 34, 35, 36, 37, 38] .nil .nil) (.seq .nil (.seq .nil (.seq (.seq .nil (.cond (.seq (.join [64] [56, 57, 58, 59, 60, 61, 62, 63] .nil .nil) .nil) .nil)) (.join [85] [67, 68, 69, 70, 71, 72, 73, 74, 75, 76, 77, 78, 79, 80, 81, 82, 83, 84] .nil .nil)))))) .nil)))) .nil)))) [v0, v1, v2] h k = true)) hk)

/- undercroft/undercroftref29.kind -/
noncomputable abbrev c171_1 (x5 : CV) (h1 : CH) (v1 : CV) (v0 : CV) (s0 : TupC 1) (k : CV → CH → Bool) (K1 : TupC 1 → CH → Bool) : Bool :=
 xAddr (some 0) x5 fun x6 =>
 xLoad (some none) x6 h1 fun x7 =>
 xBin (some (.int .i64)) .eql x7 v1 fun x8 =>
 xIte x8
  (xIdx (some (none, 18)) v0 s0.1 fun x9 =>
  xAddr (some 1) x9 fun x10 =>
  xAddr (some 0) x10 fun x11 =>
  xLoad (some none) x11 h1 fun x12 =>
  k x12 h1)
  (xBin (some (.int .i64)) .add s0.1 (.int .i64 (.ofNat 1)) fun x13 =>
  K1 (x13, ()) h1)
noncomputable def bd171 (v0 v1 : CV) (h : CH) (k : CV → CH → Bool) : Bool :=
 xLoop (n := 1) (fun K1 s0 h1 =>
  xLen (some (.inl false)) v0 fun x3 =>
  xBin (some (.int .i64)) .lss s0.1 x3 fun x4 =>
  xIte x4
   (xIdx (some (none, 18)) v0 s0.1 fun x5 =>
   c171_1 x5 h1 v1 v0 s0 k K1)
   (k (.int .u16 (.ofNat 0)) h1)) 1000000 ((.int .i64 (.ofNat 0)), ()) h
noncomputable abbrev ex171 : Ex := fun args h k => a2 args fun v0 v1 => bd171 v0 v1 h k
set_option maxRecDepth 100000 in
theorem sim171 : SimF Tryz.prog 171 ex171 := fun args h k hk => by
  obtain ⟨v0, v1, rfl, hk⟩ := a2_ok hk
  exact sim_of (qf := (fun f => [46, 47, 62, 75, 82, 97, 104, 114, 121, 127, 128, 141, 151, 156, 157, 183].contains f)) (Z := zs) (C := []) (T := []) ⟨zerosB_ok zsOk, exNil⟩ (.seq .nil (.seq (.seq .nil (.loop [5] [6, 7, 8, 9, 12, 13, 14, 15, 16, 17, 18, 19, 20, 21, 22, 23, 24, 4, 10, 11] .nil)) .nil)) Tryz.func171 _ h k (Eq.mp (by kernel_rfl : (bd171 v0 v1 h k = true) = (xFn Tryz.prog (fun f => [46, 47, 62, 75, 82, 97, 104, 114, 121, 127, 128, 141, 151, 156, 157, 183].contains f) zs [] [] Tryz.f171 (.seq .nil (.seq (.seq .nil (.loop [5] [6, 7, 8, 9, 12, 13, 14, 15, 16, 17, 18, 19, 20, 21, 22, 23, 24, 4, 10, 11] .nil)) .nil)) [v0, v1] h k = true)) hk)

/- (*undercroft/undercroftref29.Disk).links -/
noncomputable abbrev c137_1 (x18 : CV) (s14 : TupC 1) (x9 : CV) (h6 : CH) (x2 : CV) (s2 : TupC 1) (K3 : TupC 1 → CH → Bool) : Bool :=
 xConv (some (.int .u16)) (some (.int .i64)) x18 fun x19 =>
 xBin (some (.int .i64)) .neq x19 s14.1 fun x20 =>
 xIte x20
  (xAddr (some 0) x9 fun x21 =>
  xLoad (some none) x21 h6 fun x22 =>
  bd164 x2 x22 h6 fun x23 h7 =>
  xBin (some (.int .i64)) .add s2.1 (.int .i64 (.ofNat 1)) fun x24 =>
  K3 (x24, ()) h7)
  (xBin (some (.int .i64)) .add s2.1 (.int .i64 (.ofNat 1)) fun x25 =>
  K3 (x25, ()) h6)
noncomputable abbrev c137_2 (x40 : CV) (h9 : CH) (x39 : CV) (v2 : CV) (s27 : TupC 2) (v1 : CV) (K35 : TupC 1 → CH → Bool) : Bool :=
 xLoad (some none) x40 h9 fun x41 =>
 xBin (some (.int .i64)) .eql x39 x41 fun x42 =>
 xIte x42
  (xIdx (some (none, 2)) v2 s27.2.1 fun x43 =>
  xAddr (some 1) x43 fun x44 =>
  xLoad (some none) x44 h9 fun x45 =>
  bd171 v1 x45 h9 fun x46 h11 =>
  xBin (some (.int .u16)) .eql x46 (.int .u16 (.ofNat 2)) fun x47 =>
  K35 (x47, ()) h11)
  (K35 ((.bool false), ()) h9)
noncomputable abbrev c137_3 (s27 : TupC 2) (K28 : TupC 2 → CH → Bool) (v2 : CV) (h9 : CH) (x9 : CV) (v1 : CV) : Bool :=
 xJoin (n := 1) (fun s31 h10 =>
  xIte s31.1
   (xBin (some (.int .i64)) .add s27.1 (.int .i64 (.ofNat 1)) fun x33 =>
   xBin (some (.int .i64)) .add s27.2.1 (.int .i64 (.ofNat 1)) fun x34 =>
   K28 (x33, x34, ()) h10)
   (xBin (some (.int .i64)) .add s27.2.1 (.int .i64 (.ofNat 1)) fun x35 =>
   K28 (s27.1, x35, ()) h10))
 (fun K35 => xIdx (some (none, 2)) v2 s27.2.1 fun x37 =>
 xAddr (some 0) x37 fun x38 =>
 xLoad (some none) x38 h9 fun x39 =>
 xAddr (some 0) x9 fun x40 =>
 c137_2 x40 h9 x39 v2 s27 v1 K35)
noncomputable abbrev c137_4 (x49 : CV) (h5 : CH) (x9 : CV) (K47 : TupC 1 → CH → Bool) : Bool :=
 xAddr (some 0) x49 fun x50 =>
 xLoad (some none) x50 h5 fun x51 =>
 xBin (some (.int .u16)) .eql x51 (.int .u16 (.ofNat 2)) fun x52 =>
 xIte x52
  (xAddr (some 1) x9 fun x53 =>
  xAddr (some 1) x53 fun x54 =>
  xLoad (some none) x54 h5 fun x55 =>
  xBin (some (.int .u16)) .neq x55 (.int .u16 (.ofNat 0)) fun x56 =>
  K47 (x56, ()) h5)
  (K47 ((.bool false), ()) h5)
noncomputable abbrev c137_5 (v2 : CV) (x9 : CV) (v1 : CV) (K25 : TupC 1 → CH → Bool) (x14 : CV) (h5 : CH) : Bool :=
 xJoin (n := 1) (fun s26 h8 =>
  xIte s26.1
   (xLoop (n := 2) (fun K28 s27 h9 =>
    xLen (some (.inl false)) v2 fun x30 =>
    xBin (some (.int .i64)) .lss s27.2.1 x30 fun x31 =>
    xIte x31
     (c137_3 s27 K28 v2 h9 x9 v1)
     (K25 (s27.1, ()) h9)) 1000000 ((.int .i64 (.ofNat 2)), (.int .i64 (.ofNat 0)), ()) h8)
   (K25 (x14, ()) h8))
 (fun K47 => xAddr (some 1) x9 fun x49 =>
 c137_4 x49 h5 x9 K47)
noncomputable abbrev c137_6 (x9 : CV) (x8 : CV) (h3 : CH) (v2 : CV) (x2 : CV) (s2 : TupC 1) (K3 : TupC 1 → CH → Bool) (v1 : CV) : Bool :=
 xStore (some 18) x9 x8 h3 fun h4 =>
 xAddr (some 0) x9 fun x10 =>
 xLoad (some none) x10 h4 fun x11 =>
 bd170 v2 x11 h4 fun x12 h5 =>
 xExtract x12 0 fun x13 =>
 xExtract x12 1 fun x14 =>
 xJoin (n := 1) (fun s14 h6 =>
  xAddr (some 1) x9 fun x16 =>
  xAddr (some 1) x16 fun x17 =>
  xLoad (some none) x17 h6 fun x18 =>
  c137_1 x18 s14 x9 h6 x2 s2 K3)
 (fun K25 => c137_5 v2 x9 v1 K25 x14 h5)
noncomputable abbrev c137_7 (h2 : CH) (x8 : CV) (v2 : CV) (x2 : CV) (s2 : TupC 1) (K3 : TupC 1 → CH → Bool) (v1 : CV) : Bool :=
 xBoxP 191 [(.int .i64 (.ofNat 0)), (.int .u16 (.ofNat 0)), (.int .u16 (.ofNat 0)), (.int .u32 (.ofNat 0)), (.int .u32 (.ofNat 0)), (.int .u32 (.ofNat 0)), (.int .u32 (.ofNat 0)), (.int .u32 (.ofNat 0)), (.int .u32 (.ofNat 0)), (.int .u32 (.ofNat 0)), (.int .u32 (.ofNat 0)), (.int .u32 (.ofNat 0)), (.int .u32 (.ofNat 0)), (.int .u32 (.ofNat 0)), (.int .u32 (.ofNat 0)), (.int .u32 (.ofNat 0)), (.int .u32 (.ofNat 0)), .nils] h2 fun x9 h3 =>
 c137_6 x9 x8 h3 v2 x2 s2 K3 v1
noncomputable abbrev c137_8 (v1 : CV) (v2 : CV) (x2 : CV) (k : CV → CH → Bool) (h1 : CH) : Bool :=
 xLoop (n := 1) (fun K3 s2 h2 =>
  xLen (some (.inl false)) v1 fun x5 =>
  xBin (some (.int .i64)) .lss s2.1 x5 fun x6 =>
  xIte x6
   (xIdx (some (none, 18)) v1 s2.1 fun x7 =>
   xLoad (some (some 18)) x7 h2 fun x8 =>
   c137_7 h2 x8 v2 x2 s2 K3 v1)
   (xNilCheck x2 fun x57 =>
   xAddr (some 1) x57 fun x58 =>
   xLoad (some none) x58 h2 fun x59 =>
   k x59 h2)) 1000000 ((.int .i64 (.ofNat 0)), ()) h1
noncomputable def bd137 (v0 v1 v2 : CV) (h : CH) (k : CV → CH → Bool) : Bool :=
 xBuild (some (.inl [(0, 1), (1, 1)])) (some (.agg [(.bytes 1 0), .nils])) [(0, (.int .u8 (.ofNat 15)))] fun x1 =>
 xBox 267 x1 h fun x2 h1 =>
 c137_8 v1 v2 x2 k h1
noncomputable abbrev ex137 : Ex := fun args h k => a3 args fun v0 v1 v2 => bd137 v0 v1 v2 h k
set_option maxRecDepth 100000 in
theorem sim137 : SimF Tryz.prog 137 ex137 := fun args h k hk => by
  obtain ⟨v0, v1, v2, rfl, hk⟩ := a3_ok hk
  exact sim_of (qf := (fun f => [46, 47, 62, 75, 82, 97, 104, 114, 121, 127, 128, 141, 151, 156, 157, 183].contains f)) (Z := zs) (C := [(170, ex170), (164, ex164), (171, ex171)]) (T := []) ⟨zerosB_ok zsOk, (exCons (by kernel_rfl) sim170 (exCons (by kernel_rfl) sim164 (exCons (by kernel_rfl) sim171 exNil)))⟩ (.seq .nil (.seq .nil (.seq (.seq .nil (.loop [8] [15, 16, 17, 18, 21, 22, 23, 24, 9, 26, 27, 28, 29, 25, 30, 31, 10, 11, 32, 33, 34, 35, 36, 37, 38, 39, 40, 41, 12, 42, 43, 44, 45, 48, 49, 50, 51, 52, 53, 54, 55, 56, 57, 58, 59, 60, 61, 62, 63, 64, 65, 66, 67, 46, 47, 68, 69, 70, 71, 72, 73, 74, 75, 76, 77, 19, 20] (.seq .nil (.seq (.seq .nil (.seq .nil (.join [11] [32, 33, 34, 35, 36, 37, 38, 39, 40, 41, 12, 42, 43, 44, 45, 48, 49, 50, 51, 52, 53, 54, 55, 56, 57, 58, 59, 60, 61, 62, 63, 64, 65, 66, 67, 46, 47] (.join [41] [32, 33, 34, 35, 36, 37, 38, 39, 40] .nil (.cond (.seq .nil (.seq .nil (.loop [11, 12] [42, 43, 44, 45, 48, 49, 50, 51, 52, 53, 54, 55, 56, 57, 58, 59, 60, 61, 62, 63, 64, 65, 66, 67, 46, 47] (.seq .nil (.seq (.join [65] [48, 49, 50, 51, 52, 53, 54, 55, 56, 57, 58, 59, 60, 61, 62, 63, 64] .nil .nil) .nil))))) .nil)) .nil))) .nil)))) .nil))) Tryz.func137 _ h k (Eq.mp (by kernel_rfl : (bd137 v0 v1 v2 h k = true) = (xFn Tryz.prog (fun f => [46, 47, 62, 75, 82, 97, 104, 114, 121, 127, 128, 141, 151, 156, 157, 183].contains f) zs [(170, ex170), (164, ex164), (171, ex171)] [] Tryz.f137 (.seq .nil (.seq .nil (.seq (.seq .nil (.loop [8] [15, 16, 17, 18, 21, 22, 23, 24, 9, 26, 27, 28, 29, 25, 30, 31, 10, 11, 32, 33, 34, 35, 36, 37, 38, 39, 40, 41, 12, 42, 43, 44, 45, 48, 49, 50, 51, 52, 53, 54, 55, 56, 57, 58, 59, 60, 61, 62, 63, 64, 65, 66, 67, 46, 47, 68, 69, 70, 71, 72, 73, 74, 75, 76, 77, 19, 20] (.seq .nil (.seq (.seq .nil (.seq .nil (.join [11] [32, 33, 34, 35, 36, 37, 38, 39, 40, 41, 12, 42, 43, 44, 45, 48, 49, 50, 51, 52, 53, 54, 55, 56, 57, 58, 59, 60, 61, 62, 63, 64, 65, 66, 67, 46, 47] (.join [41] [32, 33, 34, 35, 36, 37, 38, 39, 40] .nil (.cond (.seq .nil (.seq .nil (.loop [11, 12] [42, 43, 44, 45, 48, 49, 50, 51, 52, 53, 54, 55, 56, 57, 58, 59, 60, 61, 62, 63, 64, 65, 66, 67, 46, 47] (.seq .nil (.seq (.join [65] [48, 49, 50, 51, 52, 53, 54, 55, 56, 57, 58, 59, 60, 61, 62, 63, 64] .nil .nil) .nil))))) .nil)) .nil))) .nil)))) .nil))) [v0, v1, v2] h k = true)) hk)

/- (*undercroft/undercroftref29.Disk).Wrong -/
noncomputable abbrev c85_1 (x28 : CV) (k : CV → CH → Bool) (h10 : CH) (v0 : CV) (x4 : CV) : Bool :=
 xLen (some (.inl false)) x28 fun x29 =>
 xBin (some (.int .i64)) .gtr x29 (.int .i64 (.ofNat 0)) fun x30 =>
 xIte x30
  (k x28 h10)
  (bd135 v0 x4 h10 fun x31 h11 =>
  bd136 v0 x4 x31 h11 fun x32 h12 =>
  xLen (some (.inl false)) x32 fun x33 =>
  xBin (some (.int .i64)) .gtr x33 (.int .i64 (.ofNat 0)) fun x34 =>
  xIte x34
   (k x32 h12)
   (bd137 v0 x4 x31 h12 fun x35 h13 =>
   k x35 h13))
noncomputable abbrev c85_2 (x22 : CV) (k : CV → CH → Bool) (h8 : CH) (v0 : CV) (x4 : CV) : Bool :=
 xLen (some (.inl false)) x22 fun x23 =>
 xBin (some (.int .i64)) .gtr x23 (.int .i64 (.ofNat 0)) fun x24 =>
 xIte x24
  (k x22 h8)
  (bd132 v0 x4 (.int .u8 (.ofNat 12)) h8 fun x25 h9 =>
  xLen (some (.inl false)) x25 fun x26 =>
  xBin (some (.int .i64)) .gtr x26 (.int .i64 (.ofNat 0)) fun x27 =>
  xIte x27
   (k x25 h9)
   (bd134 v0 x4 h9 fun x28 h10 =>
   c85_1 x28 k h10 v0 x4))
noncomputable abbrev c85_3 (x15 : CV) (x11 : CV) (s11 : TupC 1) (h6 : CH) (v0 : CV) (x4 : CV) (k : CV → CH → Bool) (K12 : TupC 1 → CH → Bool) : Bool :=
 xIte x15
  (xIdx (some (none, 1)) x11 s11.1 fun x16 =>
  xLoad (some none) x16 h6 fun x17 =>
  bd132 v0 x4 x17 h6 fun x18 h7 =>
  xLen (some (.inl false)) x18 fun x19 =>
  xBin (some (.int .i64)) .gtr x19 (.int .i64 (.ofNat 0)) fun x20 =>
  xIte x20
   (k x18 h7)
   (xBin (some (.int .i64)) .add s11.1 (.int .i64 (.ofNat 1)) fun x21 =>
   K12 (x21, ()) h7))
  (bd133 v0 x4 h6 fun x22 h8 =>
  c85_2 x22 k h8 v0 x4)
noncomputable abbrev c85_4 (h4 : CH) (v0 : CV) (x4 : CV) (k : CV → CH → Bool) : Bool :=
 xNewS (some (229, 1, 1, true)) (some [(.bytes 1 0)]) 4 [(0, (.int .u8 (.ofNat 7))), (1, (.int .u8 (.ofNat 8))), (2, (.int .u8 (.ofNat 9))), (3, (.int .u8 (.ofNat 10)))] h4 fun x11 h5 =>
 xLoop (n := 1) (fun K12 s11 h6 =>
  xLen (some (.inl false)) x11 fun x14 =>
  xBin (some (.int .i64)) .lss s11.1 x14 fun x15 =>
  c85_3 x15 x11 s11 h6 v0 x4 k K12) 1000000 ((.int .i64 (.ofNat 0)), ()) h5
noncomputable abbrev c85_5 (v0 : CV) (h1 : CH) (k : CV → CH → Bool) : Bool :=
 bd86 v0 h1 fun x4 h2 =>
 bd130 v0 x4 h2 fun x5 h3 =>
 xLen (some (.inl false)) x5 fun x6 =>
 xBin (some (.int .i64)) .gtr x6 (.int .i64 (.ofNat 0)) fun x7 =>
 xIte x7
  (k x5 h3)
  (bd131 v0 x4 h3 fun x8 h4 =>
  xLen (some (.inl false)) x8 fun x9 =>
  xBin (some (.int .i64)) .gtr x9 (.int .i64 (.ofNat 0)) fun x10 =>
  xIte x10
   (k x8 h4)
   (c85_4 h4 v0 x4 k))
noncomputable def bd85 (v0 : CV) (h : CH) (k : CV → CH → Bool) : Bool :=
 bd129 v0 h fun x1 h1 =>
 xLen (some (.inl false)) x1 fun x2 =>
 xBin (some (.int .i64)) .gtr x2 (.int .i64 (.ofNat 0)) fun x3 =>
 xIte x3
  (k x1 h1)
  (c85_5 v0 h1 k)
noncomputable abbrev ex85 : Ex := fun args h k => a1 args fun v0 => bd85 v0 h k
set_option maxRecDepth 100000 in
theorem sim85 : SimF Tryz.prog 85 ex85 := fun args h k hk => by
  obtain ⟨v0, rfl, hk⟩ := a1_ok hk
  exact sim_of (qf := (fun f => [46, 47, 62, 75, 82, 97, 104, 114, 121, 127, 128, 141, 151, 156, 157, 183].contains f)) (Z := zs) (C := [(129, ex129), (86, ex86), (130, ex130), (131, ex131), (132, ex132), (133, ex133), (134, ex134), (135, ex135), (136, ex136), (137, ex137)]) (T := []) ⟨zerosB_ok zsOk, (exCons (by kernel_rfl) sim129 (exCons (by kernel_rfl) sim86 (exCons (by kernel_rfl) sim130 (exCons (by kernel_rfl) sim131 (exCons (by kernel_rfl) sim132 (exCons (by kernel_rfl) sim133 (exCons (by kernel_rfl) sim134 (exCons (by kernel_rfl) sim135 (exCons (by kernel_rfl) sim136 (exCons (by kernel_rfl) sim137 exNil))))))))))⟩ (.seq .nil (.seq .nil (.seq .nil (.seq .nil (.seq .nil (.seq .nil (.seq .nil (.seq .nil (.seq .nil (.seq (.seq .nil (.loop [6] [31, 32, 33, 34, 37, 38, 39, 40, 41, 42, 43, 3, 44, 45, 46, 47, 2, 35, 36] .nil)) .nil)))))))))) Tryz.func85 _ h k (Eq.mp (by kernel_rfl : (bd85 v0 h k = true) = (xFn Tryz.prog (fun f => [46, 47, 62, 75, 82, 97, 104, 114, 121, 127, 128, 141, 151, 156, 157, 183].contains f) zs [(129, ex129), (86, ex86), (130, ex130), (131, ex131), (132, ex132), (133, ex133), (134, ex134), (135, ex135), (136, ex136), (137, ex137)] [] Tryz.f85 (.seq .nil (.seq .nil (.seq .nil (.seq .nil (.seq .nil (.seq .nil (.seq .nil (.seq .nil (.seq .nil (.seq (.seq .nil (.loop [6] [31, 32, 33, 34, 37, 38, 39, 40, 41, 42, 43, 3, 44, 45, 46, 47, 2, 35, 36] .nil)) .nil)))))))))) [v0] h k = true)) hk)

/- (*undercroft/undercroftref29.Disk).item -/
noncomputable abbrev c87_1 (x50 : CV) (x56 : CV) (h9 : CH) (x45 : CV) (x21 : CV) (s31 : TupC 1) (K32 : TupC 1 → CH → Bool) : Bool :=
 xBuild (some (.inl [(0, 1), (1, 1024)])) (some (.agg [(.int .i64 (.ofNat 0)), (.bytes 1024 0)])) [(0, x50), (1, x56)] fun x57 =>
 xNewS (some (132, 1025, 1032, false)) (some [(.int .i64 (.ofNat 0)), (.bytes 1024 0)]) 1 [(0, x57)] h9 fun x58 h10 =>
 xApp (some (132, 1025, 1032, false)) x45 x58 h10 fun x59 h11 =>
 xAddr (some 5) x21 fun x60 =>
 xStore (some 1) x60 x59 h11 fun h12 =>
 xBin (some (.int .i64)) .add s31.1 (.int .i64 (.ofNat 1)) fun x61 =>
 K32 (x61, ()) h12
noncomputable abbrev c87_2 (x47 : CV) (s31 : TupC 1) (h8 : CH) (x1 : CV) (v0 : CV) (x45 : CV) (x21 : CV) (K32 : TupC 1 → CH → Bool) : Bool :=
 xIdx (some (none, 2)) x47 s31.1 fun x48 =>
 xAddr (some 0) x48 fun x49 =>
 xLoad (some none) x49 h8 fun x50 =>
 xAddr (some 17) x1 fun x51 =>
 xLoad (some none) x51 h8 fun x52 =>
 xIdx (some (none, 2)) x52 s31.1 fun x53 =>
 xAddr (some 1) x53 fun x54 =>
 xLoad (some none) x54 h8 fun x55 =>
 xQuiet (some ex141) [v0, x55] h8 fun x56 h9 =>
 c87_1 x50 x56 h9 x45 x21 s31 K32
noncomputable abbrev c87_3 (x41 : CV) (h8 : CH) (x21 : CV) (x1 : CV) (s31 : TupC 1) (v0 : CV) (K32 : TupC 1 → CH → Bool) : Bool :=
 xLoad (some none) x41 h8 fun x42 =>
 xBin (some (.int .i64)) .geq x42 (.int .i64 (.ofNat 0)) fun x43 =>
 xIte x43
  (xAddr (some 5) x21 fun x44 =>
  xLoad (some none) x44 h8 fun x45 =>
  xAddr (some 17) x1 fun x46 =>
  xLoad (some none) x46 h8 fun x47 =>
  c87_2 x47 s31 h8 x1 v0 x45 x21 K32)
  (xBin (some (.int .i64)) .add s31.1 (.int .i64 (.ofNat 1)) fun x62 =>
  K32 (x62, ()) h8)
noncomputable abbrev c87_4 (s31 : TupC 1) (x36 : CV) (x1 : CV) (h8 : CH) (x21 : CV) (v0 : CV) (K32 : TupC 1 → CH → Bool) (x2 : CV) (k : CV → CH → Bool) : Bool :=
 xBin (some (.int .i64)) .lss s31.1 x36 fun x37 =>
 xIte x37
  (xAddr (some 17) x1 fun x38 =>
  xLoad (some none) x38 h8 fun x39 =>
  xIdx (some (none, 2)) x39 s31.1 fun x40 =>
  xAddr (some 0) x40 fun x41 =>
  c87_3 x41 h8 x21 x1 s31 v0 K32)
  (xLoad (some (some 7)) x21 h8 fun x63 =>
  xStore (some 7) x2 x63 h8 fun h13 =>
  xLoad (some (some 7)) x2 h13 fun x64 =>
  k x64 h13)
noncomputable abbrev c87_5 (x24 : CV) (x1 : CV) (h4 : CH) (v0 : CV) (x21 : CV) (x2 : CV) (k : CV → CH → Bool) : Bool :=
 xIte x24
  (xLoad (some (some 18)) x1 h4 fun x25 =>
  bd140 v0 x25 h4 fun x26 h5 =>
  xExtract x26 0 fun x27 =>
  xExtract x26 1 fun x28 =>
  xAddr (some 6) x21 fun x29 =>
  xStore (some 1) x29 x27 h5 fun h6 =>
  xLoad (some (some 7)) x21 h6 fun x30 =>
  xStore (some 7) x2 x30 h6 fun h7 =>
  xLoad (some (some 7)) x2 h7 fun x31 =>
  k x31 h7)
  (xLoop (n := 1) (fun K32 s31 h8 =>
   xAddr (some 17) x1 fun x34 =>
   xLoad (some none) x34 h8 fun x35 =>
   xLen (some (.inl false)) x35 fun x36 =>
   c87_4 s31 x36 x1 h8 x21 v0 K32 x2 k) 1000000 ((.int .i64 (.ofNat 0)), ()) h4)
noncomputable abbrev c87_6 (h2 : CH) (x20 : CV) (x1 : CV) (v0 : CV) (x2 : CV) (k : CV → CH → Bool) : Bool :=
 xBoxP 82 [(.int .i64 (.ofNat 0)), (.int .u16 (.ofNat 0)), (.int .i64 (.ofNat 0)), (.int .i64 (.ofNat 0)), (.int .i64 (.ofNat 0)), .nils, .nils] h2 fun x21 h3 =>
 xStore (some 7) x21 x20 h3 fun h4 =>
 xAddr (some 1) x21 fun x22 =>
 xLoad (some none) x22 h4 fun x23 =>
 xBin (some (.int .u16)) .eql x23 (.int .u16 (.ofNat 2)) fun x24 =>
 c87_5 x24 x1 h4 v0 x21 x2 k
noncomputable abbrev c87_7 (x18 : CV) (x4 : CV) (x7 : CV) (x11 : CV) (x15 : CV) (h2 : CH) (x1 : CV) (v0 : CV) (x2 : CV) (k : CV → CH → Bool) : Bool :=
 xConv (some (.int .u32)) (some (.int .i64)) x18 fun x19 =>
 xBuild (some (.inl [(0, 1), (1, 1), (2, 1), (3, 1), (4, 1), (5, 1), (6, 1)])) (some (.agg [(.int .i64 (.ofNat 0)), (.int .u16 (.ofNat 0)), (.int .i64 (.ofNat 0)), (.int .i64 (.ofNat 0)), (.int .i64 (.ofNat 0)), .nils, .nils])) [(0, x4), (1, x7), (2, x11), (3, x15), (4, x19)] fun x20 =>
 c87_6 h2 x20 x1 v0 x2 k
noncomputable abbrev c87_8 (x9 : CV) (h2 : CH) (x1 : CV) (x4 : CV) (x7 : CV) (v0 : CV) (x2 : CV) (k : CV → CH → Bool) : Bool :=
 xLoad (some none) x9 h2 fun x10 =>
 xConv (some (.int .u16)) (some (.int .i64)) x10 fun x11 =>
 xAddr (some 1) x1 fun x12 =>
 xAddr (some 2) x12 fun x13 =>
 xLoad (some none) x13 h2 fun x14 =>
 xConv (some (.int .u32)) (some (.int .i64)) x14 fun x15 =>
 xAddr (some 1) x1 fun x16 =>
 xAddr (some 3) x16 fun x17 =>
 xLoad (some none) x17 h2 fun x18 =>
 c87_7 x18 x4 x7 x11 x15 h2 x1 v0 x2 k
noncomputable abbrev c87_9 (h1 : CH) (x1 : CV) (v0 : CV) (k : CV → CH → Bool) : Bool :=
 xBoxP 82 [(.int .i64 (.ofNat 0)), (.int .u16 (.ofNat 0)), (.int .i64 (.ofNat 0)), (.int .i64 (.ofNat 0)), (.int .i64 (.ofNat 0)), .nils, .nils] h1 fun x2 h2 =>
 xAddr (some 0) x1 fun x3 =>
 xLoad (some none) x3 h2 fun x4 =>
 xAddr (some 1) x1 fun x5 =>
 xAddr (some 0) x5 fun x6 =>
 xLoad (some none) x6 h2 fun x7 =>
 xAddr (some 1) x1 fun x8 =>
 xAddr (some 1) x8 fun x9 =>
 c87_8 x9 h2 x1 x4 x7 v0 x2 k
noncomputable def bd87 (v0 v1 : CV) (h : CH) (k : CV → CH → Bool) : Bool :=
 xBox 191 v1 h fun x1 h1 =>
 c87_9 h1 x1 v0 k
noncomputable abbrev ex87 : Ex := fun args h k => a2 args fun v0 v1 => bd87 v0 v1 h k
set_option maxRecDepth 100000 in
theorem sim87 : SimF Tryz.prog 87 ex87 := fun args h k hk => by
  obtain ⟨v0, v1, rfl, hk⟩ := a2_ok hk
  exact sim_of (qf := (fun f => [46, 47, 62, 75, 82, 97, 104, 114, 121, 127, 128, 141, 151, 156, 157, 183].contains f)) (Z := zs) (C := [(140, ex140), (141, ex141)]) (T := []) ⟨zerosB_ok zsOk, (exCons (by kernel_rfl) sim140 (exCons (by kernel_rfl) sim141 exNil))⟩ (.seq .nil (.seq .nil (.seq .nil (.seq (.seq .nil (.loop [6] [36, 37, 38, 39, 40, 43, 44, 45, 46, 47, 48, 49, 50, 51, 52, 53, 54, 55, 56, 57, 58, 59, 60, 61, 62, 63, 64, 65, 66, 67, 68, 69, 41, 42] .nil)) .nil)))) Tryz.func87 _ h k (Eq.mp (by kernel_rfl : (bd87 v0 v1 h k = true) = (xFn Tryz.prog (fun f => [46, 47, 62, 75, 82, 97, 104, 114, 121, 127, 128, 141, 151, 156, 157, 183].contains f) zs [(140, ex140), (141, ex141)] [] Tryz.f87 (.seq .nil (.seq .nil (.seq .nil (.seq (.seq .nil (.loop [6] [36, 37, 38, 39, 40, 43, 44, 45, 46, 47, 48, 49, 50, 51, 52, 53, 54, 55, 56, 57, 58, 59, 60, 61, 62, 63, 64, 65, 66, 67, 68, 69, 41, 42] .nil)) .nil)))) [v0, v1] h k = true)) hk)

/- undercroft/undercroftref29.Look -/
noncomputable abbrev c40_1 (v0 : CV) (x1 : CV) (x2 : CV) (x5 : CV) (x10 : CV) (x15 : CV) (x34 : CV) (s34 : TupC 1) (x4 : CV) (x3 : CV) (x6 : CV) (x7 : CV) (x11 : CV) (x12 : CV) (x16 : CV) (x17 : CV) (x18 : CV) (x19 : CV) (x20 : CV) (x21 : CV) (x22 : CV) (x23 : CV) (x24 : CV) (x25 : CV) (x26 : CV) (x27 : CV) (x28 : CV) (x29 : CV) (x30 : CV) (x31 : CV) (x32 : CV) (x33 : CV) (x37 : CV) (x38 : CV) (x39 : CV) (x40 : CV) (x41 : CV) (x42 : CV) (x43 : CV) (x44 : CV) (x45 : CV) (x46 : CV) (x47 : CV) (x51 : CV) (x48 : CV) (x49 : CV) (x50 : CV) (x52 : CV) (x53 : CV) (x54 : CV) (h14 : CH) (h18 : CH) : Bool :=
 (eqCs [v0, x1, x2, .nils, x5, x10, x15, x34, s34.1, x4, x3, x4, x5, x6, x5, x7, (.tup []), (.tup []), x5, x10, x10, x11, x12, (.tup []), (.tup []), x5, x15, x5, x16, x17, x18, x19, x20, x5, x21, x22, x23, x24, x25, x5, x26, x27, x28, x29, x30, x15, x31, x32, x33, s34.1, x15, x37, x38, .junk, .junk, x39, x40, x5, x15, s34.1, x41, x42, x43, x44, x45, x46, .junk, .junk, .junk, .junk, .junk, .junk, .junk, .junk, .junk, .junk, (.tup [])] [v0, x1, x2, .nils, x5, x10, x15, x34, s34.1, x4, x3, x4, x5, x6, x5, x7, (.tup []), (.tup []), x5, x10, x10, x11, x12, (.tup []), (.tup []), x5, x15, x5, x16, x17, x18, x19, x20, x5, x21, x22, x23, x24, x25, x5, x26, x27, x28, x29, x30, x15, x31, x32, x33, s34.1, x15, x37, x38, .junk, .junk, x47, x51, x5, x15, s34.1, x48, x49, x50, x52, x53, x54, .junk, .junk, .junk, .junk, .junk, .junk, .junk, .junk, .junk, .junk, (.tup [])] && eqH h14 h18)
noncomputable abbrev c40_2 (x50 : CV) (h15 : CH) (x51 : CV) (x34 : CV) (v0 : CV) (x1 : CV) (x2 : CV) (x5 : CV) (x10 : CV) (x15 : CV) (s34 : TupC 1) (x4 : CV) (x3 : CV) (x6 : CV) (x7 : CV) (x11 : CV) (x12 : CV) (x16 : CV) (x17 : CV) (x18 : CV) (x19 : CV) (x20 : CV) (x21 : CV) (x22 : CV) (x23 : CV) (x24 : CV) (x25 : CV) (x26 : CV) (x27 : CV) (x28 : CV) (x29 : CV) (x30 : CV) (x31 : CV) (x32 : CV) (x33 : CV) (x37 : CV) (x38 : CV) (x39 : CV) (x40 : CV) (x41 : CV) (x42 : CV) (x43 : CV) (x44 : CV) (x45 : CV) (x46 : CV) (x47 : CV) (x48 : CV) (x49 : CV) (h14 : CH) : Bool :=
 xNewS (some (82, 7, 88, false)) (some [(.int .i64 (.ofNat 0)), (.int .u16 (.ofNat 0)), (.int .i64 (.ofNat 0)), (.int .i64 (.ofNat 0)), (.int .i64 (.ofNat 0)), .nils, .nils]) 1 [(0, x50)] h15 fun x52 h16 =>
 xApp (some (82, 7, 88, false)) x51 x52 h16 fun x53 h17 =>
 xAddr (some 0) x34 fun x54 =>
 xStore (some 1) x54 x53 h17 fun h18 =>
 c40_1 v0 x1 x2 x5 x10 x15 x34 s34 x4 x3 x6 x7 x11 x12 x16 x17 x18 x19 x20 x21 x22 x23 x24 x25 x26 x27 x28 x29 x30 x31 x32 x33 x37 x38 x39 x40 x41 x42 x43 x44 x45 x46 x47 x51 x48 x49 x50 x52 x53 x54 h14 h18
noncomputable abbrev c40_3 (v0 : CV) (x1 : CV) (x2 : CV) (x5 : CV) (x10 : CV) (x15 : CV) (x34 : CV) (s34 : TupC 1) (x4 : CV) (x3 : CV) (x6 : CV) (x7 : CV) (x11 : CV) (x12 : CV) (x16 : CV) (x17 : CV) (x18 : CV) (x19 : CV) (x20 : CV) (x21 : CV) (x22 : CV) (x23 : CV) (x24 : CV) (x25 : CV) (x26 : CV) (x27 : CV) (x28 : CV) (x29 : CV) (x30 : CV) (x31 : CV) (x32 : CV) (x33 : CV) (x37 : CV) (x38 : CV) (x39 : CV) (x40 : CV) (x41 : CV) (x42 : CV) (x43 : CV) (x44 : CV) (x45 : CV) (x46 : CV) (x47 : CV) (x55 : CV) (x48 : CV) (x49 : CV) (x56 : CV) (x57 : CV) (x58 : CV) (x59 : CV) (h14 : CH) (h22 : CH) : Bool :=
 (eqCs [v0, x1, x2, .nils, x5, x10, x15, x34, s34.1, x4, x3, x4, x5, x6, x5, x7, (.tup []), (.tup []), x5, x10, x10, x11, x12, (.tup []), (.tup []), x5, x15, x5, x16, x17, x18, x19, x20, x5, x21, x22, x23, x24, x25, x5, x26, x27, x28, x29, x30, x15, x31, x32, x33, s34.1, x15, x37, x38, .junk, .junk, x39, x40, x5, x15, s34.1, x41, x42, x43, x44, x45, x46, .junk, .junk, .junk, .junk, .junk, .junk, .junk, .junk, .junk, .junk, (.tup [])] [v0, x1, x2, .nils, x5, x10, x15, x34, s34.1, x4, x3, x4, x5, x6, x5, x7, (.tup []), (.tup []), x5, x10, x10, x11, x12, (.tup []), (.tup []), x5, x15, x5, x16, x17, x18, x19, x20, x5, x21, x22, x23, x24, x25, x5, x26, x27, x28, x29, x30, x15, x31, x32, x33, s34.1, x15, x37, x38, .junk, .junk, x47, x55, x5, x15, s34.1, x48, x49, x56, x57, x58, x59, .junk, .junk, .junk, .junk, .junk, .junk, .junk, .junk, .junk, .junk, (.tup [])] && eqH h14 h22)
noncomputable abbrev c40_4 (x56 : CV) (h19 : CH) (x55 : CV) (x34 : CV) (v0 : CV) (x1 : CV) (x2 : CV) (x5 : CV) (x10 : CV) (x15 : CV) (s34 : TupC 1) (x4 : CV) (x3 : CV) (x6 : CV) (x7 : CV) (x11 : CV) (x12 : CV) (x16 : CV) (x17 : CV) (x18 : CV) (x19 : CV) (x20 : CV) (x21 : CV) (x22 : CV) (x23 : CV) (x24 : CV) (x25 : CV) (x26 : CV) (x27 : CV) (x28 : CV) (x29 : CV) (x30 : CV) (x31 : CV) (x32 : CV) (x33 : CV) (x37 : CV) (x38 : CV) (x39 : CV) (x40 : CV) (x41 : CV) (x42 : CV) (x43 : CV) (x44 : CV) (x45 : CV) (x46 : CV) (x47 : CV) (x48 : CV) (x49 : CV) (h14 : CH) : Bool :=
 xNewS (some (82, 7, 88, false)) (some [(.int .i64 (.ofNat 0)), (.int .u16 (.ofNat 0)), (.int .i64 (.ofNat 0)), (.int .i64 (.ofNat 0)), (.int .i64 (.ofNat 0)), .nils, .nils]) 1 [(0, x56)] h19 fun x57 h20 =>
 xApp (some (82, 7, 88, false)) x55 x57 h20 fun x58 h21 =>
 xAddr (some 0) x34 fun x59 =>
 xStore (some 1) x59 x58 h21 fun h22 =>
 c40_3 v0 x1 x2 x5 x10 x15 x34 s34 x4 x3 x6 x7 x11 x12 x16 x17 x18 x19 x20 x21 x22 x23 x24 x25 x26 x27 x28 x29 x30 x31 x32 x33 x37 x38 x39 x40 x41 x42 x43 x44 x45 x46 x47 x55 x48 x49 x56 x57 x58 x59 h14 h22
noncomputable abbrev c40_5 (x47 : CV) (h10 : CH) (x5 : CV) (x49 : CV) (x34 : CV) (v0 : CV) (x1 : CV) (x2 : CV) (x10 : CV) (x15 : CV) (s34 : TupC 1) (x4 : CV) (x3 : CV) (x6 : CV) (x7 : CV) (x11 : CV) (x12 : CV) (x16 : CV) (x17 : CV) (x18 : CV) (x19 : CV) (x20 : CV) (x21 : CV) (x22 : CV) (x23 : CV) (x24 : CV) (x25 : CV) (x26 : CV) (x27 : CV) (x28 : CV) (x29 : CV) (x30 : CV) (x31 : CV) (x32 : CV) (x33 : CV) (x37 : CV) (x38 : CV) (x39 : CV) (x40 : CV) (x41 : CV) (x42 : CV) (x43 : CV) (x44 : CV) (x45 : CV) (x46 : CV) (x48 : CV) (h14 : CH) : Bool :=
 both
  (xLoad (some none) x47 h10 fun x55 =>
  bd87 x5 x49 h10 fun x56 h19 =>
  c40_4 x56 h19 x55 x34 v0 x1 x2 x5 x10 x15 s34 x4 x3 x6 x7 x11 x12 x16 x17 x18 x19 x20 x21 x22 x23 x24 x25 x26 x27 x28 x29 x30 x31 x32 x33 x37 x38 x39 x40 x41 x42 x43 x44 x45 x46 x47 x48 x49 h14)
  (both
   (bd87 x5 x49 h10 fun x50 h15 =>
   xLoad (some none) x47 h15 fun x51 =>
   c40_2 x50 h15 x51 x34 v0 x1 x2 x5 x10 x15 s34 x4 x3 x6 x7 x11 x12 x16 x17 x18 x19 x20 x21 x22 x23 x24 x25 x26 x27 x28 x29 x30 x31 x32 x33 x37 x38 x39 x40 x41 x42 x43 x44 x45 x46 x47 x48 x49 h14)
   (true))
noncomputable abbrev c40_6 (x15 : CV) (s34 : TupC 1) (h14 : CH) (x61 : CV) (x34 : CV) (K35 : TupC 1 → CH → Bool) : Bool :=
 xIdx (some (none, 18)) x15 s34.1 fun x62 =>
 xAddr (some 17) x62 fun x63 =>
 xLoad (some none) x63 h14 fun x64 =>
 xLen (some (.inl false)) x64 fun x65 =>
 xBin (some (.int .i64)) .sub x61 x65 fun x66 =>
 xAddr (some 1) x34 fun x67 =>
 xStore (some 1) x67 x66 h14 fun h23 =>
 xBin (some (.int .i64)) .add s34.1 (.int .i64 (.ofNat 1)) fun x68 =>
 K35 (x68, ()) h23
noncomputable abbrev c40_7 (x34 : CV) (x15 : CV) (s34 : TupC 1) (h10 : CH) (x5 : CV) (v0 : CV) (x1 : CV) (x2 : CV) (x10 : CV) (x4 : CV) (x3 : CV) (x6 : CV) (x7 : CV) (x11 : CV) (x12 : CV) (x16 : CV) (x17 : CV) (x18 : CV) (x19 : CV) (x20 : CV) (x21 : CV) (x22 : CV) (x23 : CV) (x24 : CV) (x25 : CV) (x26 : CV) (x27 : CV) (x28 : CV) (x29 : CV) (x30 : CV) (x31 : CV) (x32 : CV) (x33 : CV) (x37 : CV) (x38 : CV) (x39 : CV) (x40 : CV) (x41 : CV) (x42 : CV) (x43 : CV) (x44 : CV) (x45 : CV) (x46 : CV) (h14 : CH) (K35 : TupC 1 → CH → Bool) : Bool :=
 both
  (xAddr (some 0) x34 fun x47 =>
  xIdx (some (none, 18)) x15 s34.1 fun x48 =>
  xLoad (some (some 18)) x48 h10 fun x49 =>
  c40_5 x47 h10 x5 x49 x34 v0 x1 x2 x10 x15 s34 x4 x3 x6 x7 x11 x12 x16 x17 x18 x19 x20 x21 x22 x23 x24 x25 x26 x27 x28 x29 x30 x31 x32 x33 x37 x38 x39 x40 x41 x42 x43 x44 x45 x46 x48 h14)
  (xAddr (some 1) x34 fun x60 =>
  xLoad (some none) x60 h14 fun x61 =>
  c40_6 x15 s34 h14 x61 x34 K35)
noncomputable abbrev c40_8 (x43 : CV) (h11 : CH) (x40 : CV) (x34 : CV) (x15 : CV) (s34 : TupC 1) (h10 : CH) (x5 : CV) (v0 : CV) (x1 : CV) (x2 : CV) (x10 : CV) (x4 : CV) (x3 : CV) (x6 : CV) (x7 : CV) (x11 : CV) (x12 : CV) (x16 : CV) (x17 : CV) (x18 : CV) (x19 : CV) (x20 : CV) (x21 : CV) (x22 : CV) (x23 : CV) (x24 : CV) (x25 : CV) (x26 : CV) (x27 : CV) (x28 : CV) (x29 : CV) (x30 : CV) (x31 : CV) (x32 : CV) (x33 : CV) (x37 : CV) (x38 : CV) (x39 : CV) (x41 : CV) (x42 : CV) (K35 : TupC 1 → CH → Bool) : Bool :=
 xNewS (some (82, 7, 88, false)) (some [(.int .i64 (.ofNat 0)), (.int .u16 (.ofNat 0)), (.int .i64 (.ofNat 0)), (.int .i64 (.ofNat 0)), (.int .i64 (.ofNat 0)), .nils, .nils]) 1 [(0, x43)] h11 fun x44 h12 =>
 xApp (some (82, 7, 88, false)) x40 x44 h12 fun x45 h13 =>
 xAddr (some 0) x34 fun x46 =>
 xStore (some 1) x46 x45 h13 fun h14 =>
 c40_7 x34 x15 s34 h10 x5 v0 x1 x2 x10 x4 x3 x6 x7 x11 x12 x16 x17 x18 x19 x20 x21 x22 x23 x24 x25 x26 x27 x28 x29 x30 x31 x32 x33 x37 x38 x39 x40 x41 x42 x43 x44 x45 x46 h14 K35
noncomputable abbrev c40_9 (x38 : CV) (x34 : CV) (h10 : CH) (x15 : CV) (s34 : TupC 1) (x5 : CV) (v0 : CV) (x1 : CV) (x2 : CV) (x10 : CV) (x4 : CV) (x3 : CV) (x6 : CV) (x7 : CV) (x11 : CV) (x12 : CV) (x16 : CV) (x17 : CV) (x18 : CV) (x19 : CV) (x20 : CV) (x21 : CV) (x22 : CV) (x23 : CV) (x24 : CV) (x25 : CV) (x26 : CV) (x27 : CV) (x28 : CV) (x29 : CV) (x30 : CV) (x31 : CV) (x32 : CV) (x33 : CV) (x37 : CV) (K35 : TupC 1 → CH → Bool) (k : CV → CH → Bool) : Bool :=
 xIte x38
  (xAddr (some 0) x34 fun x39 =>
  xLoad (some none) x39 h10 fun x40 =>
  xIdx (some (none, 18)) x15 s34.1 fun x41 =>
  xLoad (some (some 18)) x41 h10 fun x42 =>
  bd87 x5 x42 h10 fun x43 h11 =>
  c40_8 x43 h11 x40 x34 x15 s34 h10 x5 v0 x1 x2 x10 x4 x3 x6 x7 x11 x12 x16 x17 x18 x19 x20 x21 x22 x23 x24 x25 x26 x27 x28 x29 x30 x31 x32 x33 x37 x38 x39 x41 x42 K35)
  (xLoad (some (some 3)) x34 h10 fun x69 =>
  xStore (some 3) x2 x69 h10 fun h24 =>
  xLoad (some (some 3)) x2 h24 fun x70 =>
  k (.tup [x70, .nils]) h24)
noncomputable abbrev c40_10 (h7 : CH) (x33 : CV) (x15 : CV) (x5 : CV) (v0 : CV) (x1 : CV) (x2 : CV) (x10 : CV) (x4 : CV) (x3 : CV) (x6 : CV) (x7 : CV) (x11 : CV) (x12 : CV) (x16 : CV) (x17 : CV) (x18 : CV) (x19 : CV) (x20 : CV) (x21 : CV) (x22 : CV) (x23 : CV) (x24 : CV) (x25 : CV) (x26 : CV) (x27 : CV) (x28 : CV) (x29 : CV) (x30 : CV) (x31 : CV) (x32 : CV) (k : CV → CH → Bool) : Bool :=
 xBoxP 29 [.nils, (.int .i64 (.ofNat 0)), (.int .i64 (.ofNat 0))] h7 fun x34 h8 =>
 xStore (some 3) x34 x33 h8 fun h9 =>
 xLoop (n := 1) (fun K35 s34 h10 =>
  xLen (some (.inl false)) x15 fun x37 =>
  xBin (some (.int .i64)) .lss s34.1 x37 fun x38 =>
  c40_9 x38 x34 h10 x15 s34 x5 v0 x1 x2 x10 x4 x3 x6 x7 x11 x12 x16 x17 x18 x19 x20 x21 x22 x23 x24 x25 x26 x27 x28 x29 x30 x31 x32 x33 x37 K35 k) 1000000 ((.int .i64 (.ofNat 0)), ()) h9
noncomputable abbrev c40_11 (x15 : CV) (x30 : CV) (x25 : CV) (h7 : CH) (x5 : CV) (v0 : CV) (x1 : CV) (x2 : CV) (x10 : CV) (x4 : CV) (x3 : CV) (x6 : CV) (x7 : CV) (x11 : CV) (x12 : CV) (x16 : CV) (x17 : CV) (x18 : CV) (x19 : CV) (x20 : CV) (x21 : CV) (x22 : CV) (x23 : CV) (x24 : CV) (x26 : CV) (x27 : CV) (x28 : CV) (x29 : CV) (k : CV → CH → Bool) : Bool :=
 xLen (some (.inl false)) x15 fun x31 =>
 xBin (some (.int .i64)) .sub x30 x31 fun x32 =>
 xBuild (some (.inl [(0, 1), (1, 1), (2, 1)])) (some (.agg [.nils, (.int .i64 (.ofNat 0)), (.int .i64 (.ofNat 0))])) [(1, x25), (2, x32)] fun x33 =>
 c40_10 h7 x33 x15 x5 v0 x1 x2 x10 x4 x3 x6 x7 x11 x12 x16 x17 x18 x19 x20 x21 x22 x23 x24 x25 x26 x27 x28 x29 x30 x31 x32 k
noncomputable abbrev c40_12 (x22 : CV) (h7 : CH) (x20 : CV) (x5 : CV) (x15 : CV) (v0 : CV) (x1 : CV) (x2 : CV) (x10 : CV) (x4 : CV) (x3 : CV) (x6 : CV) (x7 : CV) (x11 : CV) (x12 : CV) (x16 : CV) (x17 : CV) (x18 : CV) (x19 : CV) (x21 : CV) (k : CV → CH → Bool) : Bool :=
 xAddr (some 8) x22 fun x23 =>
 xLoad (some none) x23 h7 fun x24 =>
 xBin (some (.int .i64)) .sub x20 x24 fun x25 =>
 xNilCheck x5 fun x26 =>
 xAddr (some 2) x26 fun x27 =>
 xAddr (some 0) x27 fun x28 =>
 xAddr (some 2) x28 fun x29 =>
 xLoad (some none) x29 h7 fun x30 =>
 c40_11 x15 x30 x25 h7 x5 v0 x1 x2 x10 x4 x3 x6 x7 x11 x12 x16 x17 x18 x19 x20 x21 x22 x23 x24 x26 x27 x28 x29 k
noncomputable abbrev c40_13 (x12 : CV) (x2 : CV) (h5 : CH) (k : CV → CH → Bool) (x10 : CV) (x5 : CV) (v0 : CV) (x1 : CV) (x4 : CV) (x3 : CV) (x6 : CV) (x7 : CV) (x11 : CV) : Bool :=
 xIte x12
  (xBuild (some (.inl [(0, 1), (1, 1), (2, 1)])) (some (.agg [.nils, (.int .i64 (.ofNat 0)), (.int .i64 (.ofNat 0))])) [] fun x13 =>
  xStore (some 3) x2 x13 h5 fun h6 =>
  xLoad (some (some 3)) x2 h6 fun x14 =>
  k (.tup [x14, x10]) h6)
  (bd86 x5 h5 fun x15 h7 =>
  xNilCheck x5 fun x16 =>
  xAddr (some 2) x16 fun x17 =>
  xAddr (some 0) x17 fun x18 =>
  xAddr (some 0) x18 fun x19 =>
  xLoad (some none) x19 h7 fun x20 =>
  xNilCheck x5 fun x21 =>
  xAddr (some 2) x21 fun x22 =>
  c40_12 x22 h7 x20 x5 x15 v0 x1 x2 x10 x4 x3 x6 x7 x11 x12 x16 x17 x18 x19 x21 k)
noncomputable abbrev c40_14 (x7 : CV) (x2 : CV) (h3 : CH) (k : CV → CH → Bool) (x6 : CV) (x5 : CV) (v0 : CV) (x1 : CV) (x4 : CV) (x3 : CV) : Bool :=
 xIte x7
  (xBuild (some (.inl [(0, 1), (1, 1), (2, 1)])) (some (.agg [.nils, (.int .i64 (.ofNat 0)), (.int .i64 (.ofNat 0))])) [] fun x8 =>
  xStore (some 3) x2 x8 h3 fun h4 =>
  xLoad (some (some 3)) x2 h4 fun x9 =>
  k (.tup [x9, x6]) h4)
  (bd85 x5 h3 fun x10 h5 =>
  xLen (some (.inl false)) x10 fun x11 =>
  xBin (some (.int .i64)) .gtr x11 (.int .i64 (.ofNat 0)) fun x12 =>
  c40_13 x12 x2 h5 k x10 x5 v0 x1 x4 x3 x6 x7 x11)
noncomputable def bd40 (v0 : CV) (h : CH) (k : CV → CH → Bool) : Bool :=
 xBox 66 v0 h fun x1 h1 =>
 xBoxP 29 [.nils, (.int .i64 (.ofNat 0)), (.int .i64 (.ofNat 0))] h1 fun x2 h2 =>
 xLoad (some (some 2)) x1 h2 fun x3 =>
 bd84 x3 h2 fun x4 h3 =>
 xExtract x4 0 fun x5 =>
 xExtract x4 1 fun x6 =>
 xEq (some .ptr) .eql x5 .nilp h3 fun x7 =>
 c40_14 x7 x2 h3 k x6 x5 v0 x1 x4 x3
noncomputable abbrev ex40 : Ex := fun args h k => a1 args fun v0 => bd40 v0 h k
set_option maxRecDepth 100000 in
theorem sim40 : SimF Tryz.prog 40 ex40 := fun args h k hk => by
  obtain ⟨v0, rfl, hk⟩ := a1_ok hk
  exact sim_of (qf := (fun f => [46, 47, 62, 75, 82, 97, 104, 114, 121, 127, 128, 141, 151, 156, 157, 183].contains f)) (Z := zs) (C := [(84, ex84), (85, ex85), (86, ex86), (87, ex87)]) (T := [(12, .tree [0, 1, 2, 3, 4, 5, 6, 7, 8, 9, 10, 11] (.fork [0, 2, 3, 4, 5, 6] (.cons 1 (.line [7, 8, 9, 10, 11]) (.cons 7 (.line [1, 8, 9, 10, 11]) .nil))))]) ⟨zerosB_ok zsOk, (exCons (by kernel_rfl) sim84 (exCons (by kernel_rfl) sim85 (exCons (by kernel_rfl) sim86 (exCons (by kernel_rfl) sim87 exNil))))⟩ (.seq .nil (.seq .nil (.seq .nil (.seq .nil (.seq .nil (.seq .nil (.seq .nil (.seq (.seq .nil (.loop [8] [49, 50, 51, 52, 55, 56, 57, 58, 59, 60, 61, 62, 63, 64, 65, 66, 67, 68, 69, 70, 71, 72, 73, 74, 75, 53, 54] .nil)) .nil)))))))) Tryz.func40 _ h k (Eq.mp (by kernel_rfl : (bd40 v0 h k = true) = (xFn Tryz.prog (fun f => [46, 47, 62, 75, 82, 97, 104, 114, 121, 127, 128, 141, 151, 156, 157, 183].contains f) zs [(84, ex84), (85, ex85), (86, ex86), (87, ex87)] [(12, .tree [0, 1, 2, 3, 4, 5, 6, 7, 8, 9, 10, 11] (.fork [0, 2, 3, 4, 5, 6] (.cons 1 (.line [7, 8, 9, 10, 11]) (.cons 7 (.line [1, 8, 9, 10, 11]) .nil))))] Tryz.f40 (.seq .nil (.seq .nil (.seq .nil (.seq .nil (.seq .nil (.seq .nil (.seq .nil (.seq (.seq .nil (.loop [8] [49, 50, 51, 52, 55, 56, 57, 58, 59, 60, 61, 62, 63, 64, 65, 66, 67, 68, 69, 70, 71, 72, 73, 74, 75, 53, 54] .nil)) .nil)))))))) [v0] h k = true)) hk)

/- undercroft/undercroftref28.SameHeld -/
noncomputable abbrev c142_1 (x8 : CV) (h1 : CH) (v1 : CV) (s3 : TupC 1) (k : CV → CH → Bool) (K4 : TupC 1 → CH → Bool) : Bool :=
 xLoad (some (some 1025)) x8 h1 fun x9 =>
 xIdx (some (none, 1025)) v1 s3.1 fun x10 =>
 xLoad (some (some 1025)) x10 h1 fun x11 =>
 xEq (some (.agg (.fld 0 (some none) .int (.fld 1 (some (some 1024)) (.bytes 1024) .done)))) .neq x9 x11 h1 fun x12 =>
 xIte x12
  (k (.bool false) h1)
  (xBin (some (.int .i64)) .add s3.1 (.int .i64 (.ofNat 1)) fun x13 =>
  K4 (x13, ()) h1)
noncomputable abbrev c142_2 (v1 : CV) (x1 : CV) (k : CV → CH → Bool) (h : CH) (v0 : CV) : Bool :=
 xLen (some (.inl false)) v1 fun x2 =>
 xBin (some (.int .i64)) .neq x1 x2 fun x3 =>
 xIte x3
  (k (.bool false) h)
  (xLoop (n := 1) (fun K4 s3 h1 =>
   xLen (some (.inl false)) v0 fun x6 =>
   xBin (some (.int .i64)) .lss s3.1 x6 fun x7 =>
   xIte x7
    (xIdx (some (none, 1025)) v0 s3.1 fun x8 =>
    c142_1 x8 h1 v1 s3 k K4)
    (k (.bool true) h1)) 1000000 ((.int .i64 (.ofNat 0)), ()) h)
noncomputable def bd142 (v0 v1 : CV) (h : CH) (k : CV → CH → Bool) : Bool :=
 xLen (some (.inl false)) v0 fun x1 =>
 c142_2 v1 x1 k h v0
noncomputable abbrev ex142 : Ex := fun args h k => a2 args fun v0 v1 => bd142 v0 v1 h k
set_option maxRecDepth 100000 in
theorem sim142 : SimF Tryz.prog 142 ex142 := fun args h k hk => by
  obtain ⟨v0, v1, rfl, hk⟩ := a2_ok hk
  exact sim_of (qf := (fun f => [46, 47, 62, 75, 82, 97, 104, 114, 121, 127, 128, 141, 151, 156, 157, 183].contains f)) (Z := zs) (C := []) (T := []) ⟨zerosB_ok zsOk, exNil⟩ (.seq .nil (.seq .nil (.seq (.seq .nil (.loop [5] [11, 12, 13, 14, 17, 18, 19, 20, 21, 22, 23, 24, 25, 4, 15, 16] .nil)) .nil))) Tryz.func142 _ h k (Eq.mp (by kernel_rfl : (bd142 v0 v1 h k = true) = (xFn Tryz.prog (fun f => [46, 47, 62, 75, 82, 97, 104, 114, 121, 127, 128, 141, 151, 156, 157, 183].contains f) zs [] [] Tryz.f142 (.seq .nil (.seq .nil (.seq (.seq .nil (.loop [5] [11, 12, 13, 14, 17, 18, 19, 20, 21, 22, 23, 24, 25, 4, 15, 16] .nil)) .nil))) [v0, v1] h k = true)) hk)

/- undercroft/undercroftref28.SameEntries -/
noncomputable abbrev c143_1 (v0 : CV) (s3 : TupC 1) (h1 : CH) (v1 : CV) (k : CV → CH → Bool) (K4 : TupC 1 → CH → Bool) : Bool :=
 xIdx (some (none, 2)) v0 s3.1 fun x8 =>
 xLoad (some (some 2)) x8 h1 fun x9 =>
 xIdx (some (none, 2)) v1 s3.1 fun x10 =>
 xLoad (some (some 2)) x10 h1 fun x11 =>
 xEq (some (.agg (.fld 0 (some none) .int (.fld 1 (some none) .str .done)))) .neq x9 x11 h1 fun x12 =>
 xIte x12
  (k (.bool false) h1)
  (xBin (some (.int .i64)) .add s3.1 (.int .i64 (.ofNat 1)) fun x13 =>
  K4 (x13, ()) h1)
noncomputable def bd143 (v0 v1 : CV) (h : CH) (k : CV → CH → Bool) : Bool :=
 xLen (some (.inl false)) v0 fun x1 =>
 xLen (some (.inl false)) v1 fun x2 =>
 xBin (some (.int .i64)) .neq x1 x2 fun x3 =>
 xIte x3
  (k (.bool false) h)
  (xLoop (n := 1) (fun K4 s3 h1 =>
   xLen (some (.inl false)) v0 fun x6 =>
   xBin (some (.int .i64)) .lss s3.1 x6 fun x7 =>
   xIte x7
    (c143_1 v0 s3 h1 v1 k K4)
    (k (.bool true) h1)) 1000000 ((.int .i64 (.ofNat 0)), ()) h)
noncomputable abbrev ex143 : Ex := fun args h k => a2 args fun v0 v1 => bd143 v0 v1 h k
set_option maxRecDepth 100000 in
theorem sim143 : SimF Tryz.prog 143 ex143 := fun args h k hk => by
  obtain ⟨v0, v1, rfl, hk⟩ := a2_ok hk
  exact sim_of (qf := (fun f => [46, 47, 62, 75, 82, 97, 104, 114, 121, 127, 128, 141, 151, 156, 157, 183].contains f)) (Z := zs) (C := []) (T := []) ⟨zerosB_ok zsOk, exNil⟩ (.seq .nil (.seq .nil (.seq (.seq .nil (.loop [5] [11, 12, 13, 14, 17, 18, 19, 20, 21, 22, 23, 24, 25, 4, 15, 16] .nil)) .nil))) Tryz.func143 _ h k (Eq.mp (by kernel_rfl : (bd143 v0 v1 h k = true) = (xFn Tryz.prog (fun f => [46, 47, 62, 75, 82, 97, 104, 114, 121, 127, 128, 141, 151, 156, 157, 183].contains f) zs [] [] Tryz.f143 (.seq .nil (.seq .nil (.seq (.seq .nil (.loop [5] [11, 12, 13, 14, 17, 18, 19, 20, 21, 22, 23, 24, 25, 4, 15, 16] .nil)) .nil))) [v0, v1] h k = true)) hk)

/- undercroft/undercroftref28.SameItem -/
noncomputable abbrev c88_1 (x1 : CV) (h2 : CH) (x2 : CV) (k : CV → CH → Bool) : Bool :=
 xAddr (some 5) x1 fun x28 =>
 xLoad (some none) x28 h2 fun x29 =>
 xAddr (some 5) x2 fun x30 =>
 xLoad (some none) x30 h2 fun x31 =>
 bd142 x29 x31 h2 fun x32 h3 =>
 xIte x32
  (xAddr (some 6) x1 fun x33 =>
  xLoad (some none) x33 h3 fun x34 =>
  xAddr (some 6) x2 fun x35 =>
  xLoad (some none) x35 h3 fun x36 =>
  bd143 x34 x36 h3 fun x37 h4 =>
  k x37 h4)
  (k (.bool false) h3)
noncomputable abbrev c88_2 (x20 : CV) (h2 : CH) (x19 : CV) (x1 : CV) (x2 : CV) (k : CV → CH → Bool) : Bool :=
 xLoad (some none) x20 h2 fun x21 =>
 xBin (some (.int .i64)) .eql x19 x21 fun x22 =>
 xIte x22
  (xAddr (some 4) x1 fun x23 =>
  xLoad (some none) x23 h2 fun x24 =>
  xAddr (some 4) x2 fun x25 =>
  xLoad (some none) x25 h2 fun x26 =>
  xBin (some (.int .i64)) .eql x24 x26 fun x27 =>
  xIte x27
   (c88_1 x1 h2 x2 k)
   (k (.bool false) h2))
  (k (.bool false) h2)
noncomputable abbrev c88_3 (x12 : CV) (x1 : CV) (h2 : CH) (x2 : CV) (k : CV → CH → Bool) : Bool :=
 xIte x12
  (xAddr (some 2) x1 fun x13 =>
  xLoad (some none) x13 h2 fun x14 =>
  xAddr (some 2) x2 fun x15 =>
  xLoad (some none) x15 h2 fun x16 =>
  xBin (some (.int .i64)) .eql x14 x16 fun x17 =>
  xIte x17
   (xAddr (some 3) x1 fun x18 =>
   xLoad (some none) x18 h2 fun x19 =>
   xAddr (some 3) x2 fun x20 =>
   c88_2 x20 h2 x19 x1 x2 k)
   (k (.bool false) h2))
  (k (.bool false) h2)
noncomputable abbrev c88_4 (x3 : CV) (h2 : CH) (x2 : CV) (x1 : CV) (k : CV → CH → Bool) : Bool :=
 xLoad (some none) x3 h2 fun x4 =>
 xAddr (some 0) x2 fun x5 =>
 xLoad (some none) x5 h2 fun x6 =>
 xBin (some (.int .i64)) .eql x4 x6 fun x7 =>
 xIte x7
  (xAddr (some 1) x1 fun x8 =>
  xLoad (some none) x8 h2 fun x9 =>
  xAddr (some 1) x2 fun x10 =>
  xLoad (some none) x10 h2 fun x11 =>
  xBin (some (.int .u16)) .eql x9 x11 fun x12 =>
  c88_3 x12 x1 h2 x2 k)
  (k (.bool false) h2)
noncomputable def bd88 (v0 v1 : CV) (h : CH) (k : CV → CH → Bool) : Bool :=
 xBox 82 v0 h fun x1 h1 =>
 xBox 82 v1 h1 fun x2 h2 =>
 xAddr (some 0) x1 fun x3 =>
 c88_4 x3 h2 x2 x1 k
noncomputable abbrev ex88 : Ex := fun args h k => a2 args fun v0 v1 => bd88 v0 v1 h k
set_option maxRecDepth 100000 in
theorem sim88 : SimF Tryz.prog 88 ex88 := fun args h k hk => by
  obtain ⟨v0, v1, rfl, hk⟩ := a2_ok hk
  exact sim_of (qf := (fun f => [46, 47, 62, 75, 82, 97, 104, 114, 121, 127, 128, 141, 151, 156, 157, 183].contains f)) (Z := zs) (C := [(142, ex142), (143, ex143)]) (T := []) ⟨zerosB_ok zsOk, (exCons (by kernel_rfl) sim142 (exCons (by kernel_rfl) sim143 exNil))⟩ .nil Tryz.func88 _ h k (Eq.mp (by kernel_rfl : (bd88 v0 v1 h k = true) = (xFn Tryz.prog (fun f => [46, 47, 62, 75, 82, 97, 104, 114, 121, 127, 128, 141, 151, 156, 157, 183].contains f) zs [(142, ex142), (143, ex143)] [] Tryz.f88 .nil [v0, v1] h k = true)) hk)

/- undercroft/undercroftref28.Same -/
noncomputable abbrev c41_1 (x12 : CV) (h4 : CH) (x2 : CV) (s3 : TupC 1) (k : CV → CH → Bool) (K4 : TupC 1 → CH → Bool) : Bool :=
 xLoad (some (some 7)) x12 h4 fun x13 =>
 xAddr (some 0) x2 fun x14 =>
 xLoad (some none) x14 h4 fun x15 =>
 xIdx (some (none, 7)) x15 s3.1 fun x16 =>
 xLoad (some (some 7)) x16 h4 fun x17 =>
 bd88 x13 x17 h4 fun x18 h5 =>
 xUn .not x18 fun x19 =>
 xIte x19
  (k (.bool false) h5)
  (xBin (some (.int .i64)) .add s3.1 (.int .i64 (.ofNat 1)) fun x20 =>
  K4 (x20, ()) h5)
noncomputable abbrev c41_2 (x1 : CV) (x2 : CV) (k : CV → CH → Bool) (h3 : CH) : Bool :=
 xLoop (n := 1) (fun K4 s3 h4 =>
  xAddr (some 0) x1 fun x6 =>
  xLoad (some none) x6 h4 fun x7 =>
  xLen (some (.inl false)) x7 fun x8 =>
  xBin (some (.int .i64)) .lss s3.1 x8 fun x9 =>
  xIte x9
   (xAddr (some 0) x1 fun x10 =>
   xLoad (some none) x10 h4 fun x11 =>
   xIdx (some (none, 7)) x11 s3.1 fun x12 =>
   c41_1 x12 h4 x2 s3 k K4)
   (k (.bool true) h4)) 1000000 ((.int .i64 (.ofNat 0)), ()) h3
noncomputable abbrev c41_3 (x28 : CV) (x30 : CV) (K20 : TupC 1 → CH → Bool) (h2 : CH) (x1 : CV) (x2 : CV) : Bool :=
 xBin (some (.int .i64)) .neq x28 x30 fun x31 =>
 xIte x31
  (K20 ((.bool true), ()) h2)
  (xAddr (some 0) x1 fun x32 =>
  xLoad (some none) x32 h2 fun x33 =>
  xLen (some (.inl false)) x33 fun x34 =>
  xAddr (some 0) x2 fun x35 =>
  xLoad (some none) x35 h2 fun x36 =>
  xLen (some (.inl false)) x36 fun x37 =>
  xBin (some (.int .i64)) .neq x34 x37 fun x38 =>
  K20 (x38, ()) h2)
noncomputable abbrev c41_4 (x22 : CV) (h2 : CH) (x2 : CV) (K20 : TupC 1 → CH → Bool) (x1 : CV) : Bool :=
 xLoad (some none) x22 h2 fun x23 =>
 xAddr (some 1) x2 fun x24 =>
 xLoad (some none) x24 h2 fun x25 =>
 xBin (some (.int .i64)) .neq x23 x25 fun x26 =>
 xIte x26
  (K20 ((.bool true), ()) h2)
  (xAddr (some 2) x1 fun x27 =>
  xLoad (some none) x27 h2 fun x28 =>
  xAddr (some 2) x2 fun x29 =>
  xLoad (some none) x29 h2 fun x30 =>
  c41_3 x28 x30 K20 h2 x1 x2)
noncomputable def bd41 (v0 v1 : CV) (h : CH) (k : CV → CH → Bool) : Bool :=
 xBox 29 v0 h fun x1 h1 =>
 xBox 29 v1 h1 fun x2 h2 =>
 xJoin (n := 1) (fun s2 h3 =>
  xIte s2.1
   (k (.bool false) h3)
   (c41_2 x1 x2 k h3))
 (fun K20 => xAddr (some 1) x1 fun x22 =>
 c41_4 x22 h2 x2 K20 x1)
noncomputable abbrev ex41 : Ex := fun args h k => a2 args fun v0 v1 => bd41 v0 v1 h k
set_option maxRecDepth 100000 in
theorem sim41 : SimF Tryz.prog 41 ex41 := fun args h k hk => by
  obtain ⟨v0, v1, rfl, hk⟩ := a2_ok hk
  exact sim_of (qf := (fun f => [46, 47, 62, 75, 82, 97, 104, 114, 121, 127, 128, 141, 151, 156, 157, 183].contains f)) (Z := zs) (C := [(88, ex88)]) (T := []) ⟨zerosB_ok zsOk, (exCons (by kernel_rfl) sim88 exNil)⟩ (.seq .nil (.seq (.join [26] [6, 7, 8, 9, 10, 11, 12, 13, 14, 15, 16, 17, 18, 19, 20, 21, 22, 23, 24, 25] .nil .nil) (.seq (.seq .nil (.loop [5] [27, 28, 29, 30, 31, 34, 35, 36, 37, 38, 39, 40, 41, 42, 43, 44, 45, 4, 32, 33] .nil)) .nil))) Tryz.func41 _ h k (Eq.mp (by kernel_rfl : (bd41 v0 v1 h k = true) = (xFn Tryz.prog (fun f => [46, 47, 62, 75, 82, 97, 104, 114, 121, 127, 128, 141, 151, 156, 157, 183].contains f) zs [(88, ex88)] [] Tryz.f41 (.seq .nil (.seq (.join [26] [6, 7, 8, 9, 10, 11, 12, 13, 14, 15, 16, 17, 18, 19, 20, 21, 22, 23, 24, 25] .nil .nil) (.seq (.seq .nil (.loop [5] [27, 28, 29, 30, 31, 34, 35, 36, 37, 38, 39, 40, 41, 42, 43, 44, 45, 4, 32, 33] .nil)) .nil))) [v0, v1] h k = true)) hk)

/- undercroft/undercroftkit.May -/
noncomputable abbrev c18_1 (h6 : CH) (x15 : CV) (x16 : CV) (x2 : CV) (k : CV → CH → Bool) : Bool :=
 xBoxP 29 [.nils, (.int .i64 (.ofNat 0)), (.int .i64 (.ofNat 0))] h6 fun x17 h7 =>
 xStore (some 3) x17 x15 h7 fun h8 =>
 xLen (some (.inl false)) x16 fun x18 =>
 xBin (some (.int .i64)) .eql x18 (.int .i64 (.ofNat 0)) fun x19 =>
 xIte x19
  (xLoad (some (some 3)) x17 h8 fun x20 =>
  xLoad (some (some 3)) x2 h8 fun x21 =>
  bd41 x20 x21 h8 fun x22 h9 =>
  k x22 h9)
  (k (.bool false) h8)
noncomputable abbrev c18_2 (h3 : CH) (x8 : CV) (k : CV → CH → Bool) (x2 : CV) : Bool :=
 xBoxP 66 [(.int .i64 (.ofNat 0)), .nils] h3 fun x9 h4 =>
 xStore (some 2) x9 x8 h4 fun h5 =>
 xAddr (some 0) x9 fun x10 =>
 xLoad (some none) x10 h5 fun x11 =>
 xBin (some (.int .i64)) .eql x11 (.int .i64 (.ofNat 0)) fun x12 =>
 xIte x12
  (k (.bool false) h5)
  (xLoad (some (some 2)) x9 h5 fun x13 =>
  bd40 x13 h5 fun x14 h6 =>
  xExtract x14 0 fun x15 =>
  xExtract x14 1 fun x16 =>
  c18_1 h6 x15 x16 x2 k)
noncomputable def bd18 (v0 v1 : CV) (h : CH) (k : CV → CH → Bool) : Bool :=
 xBox 26 v0 h fun x1 h1 =>
 xBox 29 v1 h1 fun x2 h2 =>
 xAddr (some 0) x1 fun x3 =>
 xLoad (some none) x3 h2 fun x4 =>
 xBin (some (.int .i64)) .gtr x4 (.int .i64 (.ofNat 4096)) fun x5 =>
 xIte x5
  (k (.bool false) h2)
  (xLoad (some (some 3)) x1 h2 fun x6 =>
  xLoad (some (some 3)) x2 h2 fun x7 =>
  bd19 x6 x7 (.int .i64 (.ofNat 0)) h2 fun x8 h3 =>
  c18_2 h3 x8 k x2)
noncomputable abbrev exi18 : Ex := fun args h k => a2 args fun v0 v1 => bd18 v0 v1 h k
set_option maxRecDepth 100000 in
theorem simi18 : SimF Tryz.prog 18 exi18 := fun args h k hk => by
  obtain ⟨v0, v1, rfl, hk⟩ := a2_ok hk
  exact sim_of (qf := (fun f => [46, 47, 62, 75, 82, 97, 104, 114, 121, 127, 128, 141, 151, 156, 157, 183].contains f)) (Z := zs) (C := [(19, ex19), (40, ex40), (41, ex41)]) (T := []) ⟨zerosB_ok zsOk, (exCons (by kernel_rfl) sim19 (exCons (by kernel_rfl) sim40 (exCons (by kernel_rfl) sim41 exNil)))⟩ .nil Tryz.func18 _ h k (Eq.mp (by kernel_rfl : (bd18 v0 v1 h k = true) = (xFn Tryz.prog (fun f => [46, 47, 62, 75, 82, 97, 104, 114, 121, 127, 128, 141, 151, 156, 157, 183].contains f) zs [(19, ex19), (40, ex40), (41, ex41)] [] Tryz.f18 .nil [v0, v1] h k = true)) hk)
noncomputable abbrev ex18 : Ex := fun args h k => xQuiet (some exi18) args h k
theorem sim18 : SimF Tryz.prog 18 ex18 := simQ simi18

/- undercroft/disk.New -/
noncomputable abbrev c49_1 (v0 : CV) (x2 : CV) (x3 : CV) (h3 : CH) (k : CV → CH → Bool) : Bool :=
 xBuild (some (.inl [(0, 1), (1, 1), (2, 1), (3, 1), (4, 1), (5, 1), (6, 1), (7, 1), (8, 1), (9, 1), (10, 1)])) (some (.agg [(.int .i64 (.ofNat 0)), .nilm, .nilm, .nils, .nils, (.int .i64 (.ofNat 0)), (.bool false), (.int .i64 (.ofNat 0)), (.int .i64 (.ofNat 0)), (.int .i64 (.ofNat 0)), (.int .i64 (.ofNat 0))])) [(0, v0), (1, x2), (2, x3), (5, (.int .i64 (.negSucc 0)))] fun x4 =>
 xBox 136 x4 h3 fun x5 h4 =>
 k (.tup [x5, (.int .i64 (.ofNat 0))]) h4
noncomputable def bd49 (v0 : CV) (h : CH) (k : CV → CH → Bool) : Bool :=
 xJoin (n := 1) (fun s0 h1 =>
  xIte s0.1
   (k (.tup [.nilp, (.int .i64 (.ofNat 2))]) h1)
   (xNewMap h1 fun x2 h2 =>
   xNewMap h2 fun x3 h3 =>
   c49_1 v0 x2 x3 h3 k))
 (fun K5 => xBin (some (.int .i64)) .lss v0 (.int .i64 (.ofNat 1)) fun x7 =>
 xIte x7
  (K5 ((.bool true), ()) h)
  (xBin (some (.int .i64)) .gtr v0 (.int .i64 (.ofNat 1048576)) fun x8 =>
  K5 (x8, ()) h))
noncomputable abbrev ex49 : Ex := fun args h k => a1 args fun v0 => bd49 v0 h k
set_option maxRecDepth 100000 in
theorem sim49 : SimF Tryz.prog 49 ex49 := fun args h k hk => by
  obtain ⟨v0, rfl, hk⟩ := a1_ok hk
  exact sim_of (qf := (fun f => [46, 47, 62, 75, 82, 97, 104, 114, 121, 127, 128, 141, 151, 156, 157, 183].contains f)) (Z := zs) (C := []) (T := []) ⟨zerosB_ok zsOk, exNil⟩ (.seq .nil (.seq (.join [9] [4, 5, 6, 7, 8] .nil .nil) .nil)) Tryz.func49 _ h k (Eq.mp (by kernel_rfl : (bd49 v0 h k = true) = (xFn Tryz.prog (fun f => [46, 47, 62, 75, 82, 97, 104, 114, 121, 127, 128, 141, 151, 156, 157, 183].contains f) zs [] [] Tryz.f49 (.seq .nil (.seq (.join [9] [4, 5, 6, 7, 8] .nil .nil) .nil)) [v0] h k = true)) hk)

/- undercroft/disk.Load -/
noncomputable abbrev c21_1 (x16 : CV) (h6 : CH) (x20 : CV) (s10 : TupC 2) (K11 : TupC 2 → CH → Bool) : Bool :=
 xAddr (some 0) x16 fun x21 =>
 xLoad (some none) x21 h6 fun x22 =>
 xAddr (some 1) x16 fun x23 =>
 xLoad (some (some 1024)) x23 h6 fun x24 =>
 xMapSet (some (3, .int .i64, 124)) x20 x22 x24 h6 fun h7 =>
 xAddr (some 0) x16 fun x25 =>
 xLoad (some none) x25 h7 fun x26 =>
 xBin (some (.int .i64)) .add s10.2.1 (.int .i64 (.ofNat 1)) fun x27 =>
 K11 (x26, x27, ()) h7
noncomputable abbrev c21_2 (x1 : CV) (h5 : CH) (x33 : CV) (K27 : TupC 1 → CH → Bool) (x16 : CV) : Bool :=
 xAddr (some 0) x1 fun x34 =>
 xLoad (some none) x34 h5 fun x35 =>
 xBin (some (.int .i64)) .geq x33 x35 fun x36 =>
 xIte x36
  (K27 ((.bool true), ()) h5)
  (xAddr (some 1) x16 fun x37 =>
  xLoad (some (some 1024)) x37 h5 fun x38 =>
  xBuild (some (.inr 1)) (some (.agg [(.bytes 1024 0)])) [] fun x39 =>
  xEq (some (.agg (.bytes 1024))) .eql x38 x39 h5 fun x40 =>
  K27 (x40, ()) h5)
noncomputable abbrev c21_3 (k : CV → CH → Bool) (x5 : CV) (x16 : CV) (s10 : TupC 2) (K11 : TupC 2 → CH → Bool) (h5 : CH) (x1 : CV) : Bool :=
 xJoin (n := 1) (fun s16 h6 =>
  xIte s16.1
   (k (.tup [.nilp, (.int .i64 (.ofNat 4))]) h6)
   (xNilCheck x5 fun x18 =>
   xAddr (some 1) x18 fun x19 =>
   xLoad (some none) x19 h6 fun x20 =>
   c21_1 x16 h6 x20 s10 K11))
 (fun K27 => xAddr (some 0) x16 fun x29 =>
 xLoad (some none) x29 h5 fun x30 =>
 xBin (some (.int .i64)) .leq x30 s10.1 fun x31 =>
 xIte x31
  (K27 ((.bool true), ()) h5)
  (xAddr (some 0) x16 fun x32 =>
  xLoad (some none) x32 h5 fun x33 =>
  c21_2 x1 h5 x33 K27 x16))
noncomputable abbrev c21_4 (x10 : CV) (x9 : CV) (k : CV → CH → Bool) (x5 : CV) (x1 : CV) (h2 : CH) : Bool :=
 xLoop (n := 2) (fun K11 s10 h3 =>
  xBin (some (.int .i64)) .lss s10.2.1 x10 fun x13 =>
  xIte x13
   (xIdx (some (none, 1025)) x9 s10.2.1 fun x14 =>
   xLoad (some (some 1025)) x14 h3 fun x15 =>
   xBoxP 132 [(.int .i64 (.ofNat 0)), (.bytes 1024 0)] h3 fun x16 h4 =>
   xStore (some 1025) x16 x15 h4 fun h5 =>
   c21_3 k x5 x16 s10 K11 h5 x1)
   (k (.tup [x5, (.int .i64 (.ofNat 0))]) h3)) 1000000 ((.int .i64 (.negSucc 0)), (.int .i64 (.ofNat 0)), ()) h2
noncomputable abbrev c21_5 (x2 : CV) (h1 : CH) (k : CV → CH → Bool) (x1 : CV) : Bool :=
 xLoad (some none) x2 h1 fun x3 =>
 bd49 x3 h1 fun x4 h2 =>
 xExtract x4 0 fun x5 =>
 xExtract x4 1 fun x6 =>
 xBin (some (.int .i64)) .neq x6 (.int .i64 (.ofNat 0)) fun x7 =>
 xIte x7
  (k (.tup [.nilp, (.int .i64 (.ofNat 4))]) h2)
  (xAddr (some 1) x1 fun x8 =>
  xLoad (some none) x8 h2 fun x9 =>
  xLen (some (.inl false)) x9 fun x10 =>
  c21_4 x10 x9 k x5 x1 h2)
noncomputable def bd21 (v0 : CV) (h : CH) (k : CV → CH → Bool) : Bool :=
 xBox 66 v0 h fun x1 h1 =>
 xAddr (some 0) x1 fun x2 =>
 c21_5 x2 h1 k x1
noncomputable abbrev ex21 : Ex := fun args h k => a1 args fun v0 => bd21 v0 h k
set_option maxRecDepth 100000 in
theorem sim21 : SimF Tryz.prog 21 ex21 := fun args h k hk => by
  obtain ⟨v0, rfl, hk⟩ := a1_ok hk
  exact sim_of (qf := (fun f => [46, 47, 62, 75, 82, 97, 104, 114, 121, 127, 128, 141, 151, 156, 157, 183].contains f)) (Z := zs) (C := [(49, ex49)]) (T := []) ⟨zerosB_ok zsOk, (exCons (by kernel_rfl) sim49 exNil)⟩ (.seq .nil (.seq .nil (.seq .nil (.seq .nil (.seq (.seq .nil (.loop [6, 20] [21, 22, 23, 8, 24, 25, 26, 27, 28, 29, 30, 31, 32, 33, 34, 35, 36, 37, 38, 39, 40, 2, 3, 41, 42, 43, 44, 45, 46, 47, 48, 49, 50, 51] (.seq .nil (.seq .nil (.seq (.seq .nil (.seq (.join [40] [24, 25, 26, 27, 28, 29, 30, 31, 32, 33, 34, 35, 36, 37, 38, 39] .nil .nil) .nil)) .nil))))) .nil))))) Tryz.func21 _ h k (Eq.mp (by kernel_rfl : (bd21 v0 h k = true) = (xFn Tryz.prog (fun f => [46, 47, 62, 75, 82, 97, 104, 114, 121, 127, 128, 141, 151, 156, 157, 183].contains f) zs [(49, ex49)] [] Tryz.f21 (.seq .nil (.seq .nil (.seq .nil (.seq .nil (.seq (.seq .nil (.loop [6, 20] [21, 22, 23, 8, 24, 25, 26, 27, 28, 29, 30, 31, 32, 33, 34, 35, 36, 37, 38, 39, 40, 2, 3, 41, 42, 43, 44, 45, 46, 47, 48, 49, 50, 51] (.seq .nil (.seq .nil (.seq (.seq .nil (.seq (.join [40] [24, 25, 26, 27, 28, 29, 30, 31, 32, 33, 34, 35, 36, 37, 38, 39] .nil .nil) .nil)) .nil))))) .nil))))) [v0] h k = true)) hk)

/- (*undercroft/disk.Disk).is -/
noncomputable def bd150 (v0 : CV) (h : CH) (k : CV → CH → Bool) : Bool :=
 xEq (some .ptr) .neq v0 .nilp h fun x1 =>
 xIte x1
  (xNilCheck v0 fun x2 =>
  xAddr (some 0) x2 fun x3 =>
  xLoad (some none) x3 h fun x4 =>
  xBin (some (.int .i64)) .gtr x4 (.int .i64 (.ofNat 0)) fun x5 =>
  k x5 h)
  (k (.bool false) h)
noncomputable abbrev ex150 : Ex := fun args h k => a1 args fun v0 => bd150 v0 h k
set_option maxRecDepth 100000 in
theorem sim150 : SimF Tryz.prog 150 ex150 := fun args h k hk => by
  obtain ⟨v0, rfl, hk⟩ := a1_ok hk
  exact sim_of (qf := (fun f => [46, 47, 62, 75, 82, 97, 104, 114, 121, 127, 128, 141, 151, 156, 157, 183].contains f)) (Z := zs) (C := []) (T := []) ⟨zerosB_ok zsOk, exNil⟩ .nil Tryz.func150 _ h k (Eq.mp (by kernel_rfl : (bd150 v0 h k = true) = (xFn Tryz.prog (fun f => [46, 47, 62, 75, 82, 97, 104, 114, 121, 127, 128, 141, 151, 156, 157, 183].contains f) zs [] [] Tryz.f150 .nil [v0] h k = true)) hk)

/- (*undercroft/disk.Disk).Len -/
noncomputable def bd97 (v0 : CV) (h : CH) (k : CV → CH → Bool) : Bool :=
 bd150 v0 h fun x1 h1 =>
 xUn .not x1 fun x2 =>
 xIte x2
  (k (.int .i64 (.ofNat 0)) h1)
  (xNilCheck v0 fun x3 =>
  xAddr (some 0) x3 fun x4 =>
  xLoad (some none) x4 h1 fun x5 =>
  k x5 h1)
noncomputable abbrev ex97 : Ex := fun args h k => a1 args fun v0 => bd97 v0 h k
set_option maxRecDepth 100000 in
theorem sim97 : SimF Tryz.prog 97 ex97 := fun args h k hk => by
  obtain ⟨v0, rfl, hk⟩ := a1_ok hk
  exact sim_of (qf := (fun f => [46, 47, 62, 75, 82, 97, 104, 114, 121, 127, 128, 141, 151, 156, 157, 183].contains f)) (Z := zs) (C := [(150, ex150)]) (T := []) ⟨zerosB_ok zsOk, (exCons (by kernel_rfl) sim150 exNil)⟩ .nil Tryz.func97 _ h k (Eq.mp (by kernel_rfl : (bd97 v0 h k = true) = (xFn Tryz.prog (fun f => [46, 47, 62, 75, 82, 97, 104, 114, 121, 127, 128, 141, 151, 156, 157, 183].contains f) zs [(150, ex150)] [] Tryz.f97 .nil [v0] h k = true)) hk)

/- undercroft/wal.made -/
noncomputable def bd95 (v0 : CV) (h : CH) (k : CV → CH → Bool) : Bool :=
 bd97 v0 h fun x1 h1 =>
 xBin (some (.int .i64)) .gtr x1 (.int .i64 (.ofNat 0)) fun x2 =>
 k x2 h1
noncomputable abbrev ex95 : Ex := fun args h k => a1 args fun v0 => bd95 v0 h k
set_option maxRecDepth 100000 in
theorem sim95 : SimF Tryz.prog 95 ex95 := fun args h k hk => by
  obtain ⟨v0, rfl, hk⟩ := a1_ok hk
  exact sim_of (qf := (fun f => [46, 47, 62, 75, 82, 97, 104, 114, 121, 127, 128, 141, 151, 156, 157, 183].contains f)) (Z := zs) (C := [(97, ex97)]) (T := []) ⟨zerosB_ok zsOk, (exCons (by kernel_rfl) sim97 exNil)⟩ .nil Tryz.func95 _ h k (Eq.mp (by kernel_rfl : (bd95 v0 h k = true) = (xFn Tryz.prog (fun f => [46, 47, 62, 75, 82, 97, 104, 114, 121, 127, 128, 141, 151, 156, 157, 183].contains f) zs [(97, ex97)] [] Tryz.f95 .nil [v0] h k = true)) hk)

/- undercroft/shape.Of -/
noncomputable abbrev c96_1 (x2 : CV) (h3 : CH) (k : CV → CH → Bool) : Bool :=
 xBuild (some (.inl [(0, 3), (3, 1), (4, 1), (5, 1), (6, 1), (7, 1), (8, 1)])) (some (.agg [(.int .i64 (.ofNat 0)), (.int .i64 (.ofNat 0)), (.int .i64 (.ofNat 0)), (.int .i64 (.ofNat 0)), (.int .i64 (.ofNat 0)), (.int .i64 (.ofNat 0)), (.int .i64 (.ofNat 0)), (.int .i64 (.ofNat 0)), (.int .i64 (.ofNat 0))])) [] fun x4 =>
 xStore (some 9) x2 x4 h3 fun h4 =>
 xLoad (some (some 9)) x2 h4 fun x5 =>
 k (.tup [x5, (.int .i64 (.ofNat 2))]) h4
noncomputable abbrev c96_2 (x2 : CV) (h10 : CH) (k : CV → CH → Bool) : Bool :=
 xBuild (some (.inl [(0, 3), (3, 1), (4, 1), (5, 1), (6, 1), (7, 1), (8, 1)])) (some (.agg [(.int .i64 (.ofNat 0)), (.int .i64 (.ofNat 0)), (.int .i64 (.ofNat 0)), (.int .i64 (.ofNat 0)), (.int .i64 (.ofNat 0)), (.int .i64 (.ofNat 0)), (.int .i64 (.ofNat 0)), (.int .i64 (.ofNat 0)), (.int .i64 (.ofNat 0))])) [] fun x40 =>
 xStore (some 9) x2 x40 h10 fun h11 =>
 xLoad (some (some 9)) x2 h11 fun x41 =>
 k (.tup [x41, (.int .i64 (.ofNat 2))]) h11
noncomputable abbrev c96_3 (x11 : CV) (h10 : CH) (x1 : CV) (x2 : CV) (k : CV → CH → Bool) : Bool :=
 xAddr (some 8) x11 fun x35 =>
 xLoad (some none) x35 h10 fun x36 =>
 xAddr (some 0) x1 fun x37 =>
 xLoad (some none) x37 h10 fun x38 =>
 xBin (some (.int .i64)) .geq x36 x38 fun x39 =>
 xIte x39
  (c96_2 x2 h10 k)
  (xLoad (some (some 9)) x11 h10 fun x42 =>
  xStore (some 9) x2 x42 h10 fun h12 =>
  xLoad (some (some 9)) x2 h12 fun x43 =>
  k (.tup [x43, (.int .i64 (.ofNat 0))]) h12)
noncomputable abbrev c96_4 (x26 : CV) (x11 : CV) (h8 : CH) (x1 : CV) (x2 : CV) (k : CV → CH → Bool) : Bool :=
 xBin (some (.int .i64)) .quo x26 (.int .i64 (.ofNat 8192)) fun x27 =>
 xAddr (some 7) x11 fun x28 =>
 xStore (some 1) x28 x27 h8 fun h9 =>
 xAddr (some 6) x11 fun x29 =>
 xLoad (some none) x29 h9 fun x30 =>
 xAddr (some 7) x11 fun x31 =>
 xLoad (some none) x31 h9 fun x32 =>
 xBin (some (.int .i64)) .add x30 x32 fun x33 =>
 xAddr (some 8) x11 fun x34 =>
 xStore (some 1) x34 x33 h9 fun h10 =>
 c96_3 x11 h10 x1 x2 k
noncomputable abbrev c96_5 (x19 : CV) (h7 : CH) (x18 : CV) (x11 : CV) (x1 : CV) (x2 : CV) (k : CV → CH → Bool) : Bool :=
 xLoad (some none) x19 h7 fun x20 =>
 xBin (some (.int .i64)) .add x18 x20 fun x21 =>
 xAddr (some 6) x11 fun x22 =>
 xStore (some 1) x22 x21 h7 fun h8 =>
 xAddr (some 0) x1 fun x23 =>
 xLoad (some none) x23 h8 fun x24 =>
 xBin (some (.int .i64)) .add x24 (.int .i64 (.ofNat 8192)) fun x25 =>
 xBin (some (.int .i64)) .sub x25 (.int .i64 (.ofNat 1)) fun x26 =>
 c96_4 x26 x11 h8 x1 x2 k
noncomputable abbrev c96_6 (x12 : CV) (h6 : CH) (x11 : CV) (x1 : CV) (x2 : CV) (k : CV → CH → Bool) : Bool :=
 xLoad (some none) x12 h6 fun x13 =>
 xBin (some (.int .i64)) .add x13 (.int .i64 (.ofNat 16)) fun x14 =>
 xBin (some (.int .i64)) .quo x14 (.int .i64 (.ofNat 16)) fun x15 =>
 xAddr (some 5) x11 fun x16 =>
 xStore (some 1) x16 x15 h6 fun h7 =>
 xAddr (some 4) x11 fun x17 =>
 xLoad (some none) x17 h7 fun x18 =>
 xAddr (some 5) x11 fun x19 =>
 c96_5 x19 h7 x18 x11 x1 x2 k
noncomputable abbrev c96_7 (x6 : CV) (x9 : CV) (h3 : CH) (x1 : CV) (x2 : CV) (k : CV → CH → Bool) : Bool :=
 xBuild (some (.inl [(0, 3), (3, 1), (4, 1), (5, 1), (6, 1), (7, 1), (8, 1)])) (some (.agg [(.int .i64 (.ofNat 0)), (.int .i64 (.ofNat 0)), (.int .i64 (.ofNat 0)), (.int .i64 (.ofNat 0)), (.int .i64 (.ofNat 0)), (.int .i64 (.ofNat 0)), (.int .i64 (.ofNat 0)), (.int .i64 (.ofNat 0)), (.int .i64 (.ofNat 0))])) [(0, x6), (1, (.int .i64 (.ofNat 1))), (2, x9)] fun x10 =>
 xBoxP 58 [(.int .i64 (.ofNat 0)), (.int .i64 (.ofNat 0)), (.int .i64 (.ofNat 0)), (.int .i64 (.ofNat 0)), (.int .i64 (.ofNat 0)), (.int .i64 (.ofNat 0)), (.int .i64 (.ofNat 0)), (.int .i64 (.ofNat 0)), (.int .i64 (.ofNat 0))] h3 fun x11 h5 =>
 xStore (some 9) x11 x10 h5 fun h6 =>
 xAddr (some 2) x1 fun x12 =>
 c96_6 x12 h6 x11 x1 x2 k
noncomputable abbrev c96_8 (x56 : CV) (K43 : TupC 1 → CH → Bool) (h2 : CH) (x1 : CV) : Bool :=
 xIte x56
  (K43 ((.bool true), ()) h2)
  (xAddr (some 0) x1 fun x57 =>
  xLoad (some none) x57 h2 fun x58 =>
  xBin (some (.int .i64)) .lss x58 (.int .i64 (.ofNat 1)) fun x59 =>
  xIte x59
   (K43 ((.bool true), ()) h2)
   (xAddr (some 0) x1 fun x60 =>
   xLoad (some none) x60 h2 fun x61 =>
   xBin (some (.int .i64)) .gtr x61 (.int .i64 (.ofNat 1048576)) fun x62 =>
   K43 (x62, ()) h2))
noncomputable abbrev c96_9 (x50 : CV) (K43 : TupC 1 → CH → Bool) (h2 : CH) (x1 : CV) : Bool :=
 xIte x50
  (K43 ((.bool true), ()) h2)
  (xAddr (some 2) x1 fun x51 =>
  xLoad (some none) x51 h2 fun x52 =>
  xBin (some (.int .i64)) .lss x52 (.int .i64 (.ofNat 1)) fun x53 =>
  xIte x53
   (K43 ((.bool true), ()) h2)
   (xAddr (some 2) x1 fun x54 =>
   xLoad (some none) x54 h2 fun x55 =>
   xBin (some (.int .i64)) .gtr x55 (.int .i64 (.ofNat 65535)) fun x56 =>
   c96_8 x56 K43 h2 x1))
noncomputable abbrev c96_10 (x2 : CV) (k : CV → CH → Bool) (x1 : CV) (h2 : CH) : Bool :=
 xJoin (n := 1) (fun s2 h3 =>
  xIte s2.1
   (c96_1 x2 h3 k)
   (xLoad (some (some 3)) x1 h3 fun x6 =>
   xAddr (some 1) x1 fun x7 =>
   xLoad (some none) x7 h3 fun x8 =>
   xBin (some (.int .i64)) .add (.int .i64 (.ofNat 1)) x8 fun x9 =>
   c96_7 x6 x9 h3 x1 x2 k))
 (fun K43 => xAddr (some 1) x1 fun x45 =>
 xLoad (some none) x45 h2 fun x46 =>
 xBin (some (.int .i64)) .lss x46 (.int .i64 (.ofNat 32)) fun x47 =>
 xIte x47
  (K43 ((.bool true), ()) h2)
  (xAddr (some 1) x1 fun x48 =>
  xLoad (some none) x48 h2 fun x49 =>
  xBin (some (.int .i64)) .gtr x49 (.int .i64 (.ofNat 256)) fun x50 =>
  c96_9 x50 K43 h2 x1))
noncomputable def bd96 (v0 : CV) (h : CH) (k : CV → CH → Bool) : Bool :=
 xBox 26 v0 h fun x1 h1 =>
 xBoxP 58 [(.int .i64 (.ofNat 0)), (.int .i64 (.ofNat 0)), (.int .i64 (.ofNat 0)), (.int .i64 (.ofNat 0)), (.int .i64 (.ofNat 0)), (.int .i64 (.ofNat 0)), (.int .i64 (.ofNat 0)), (.int .i64 (.ofNat 0)), (.int .i64 (.ofNat 0))] h1 fun x2 h2 =>
 c96_10 x2 k x1 h2
noncomputable abbrev ex96 : Ex := fun args h k => a1 args fun v0 => bd96 v0 h k
set_option maxRecDepth 100000 in
theorem sim96 : SimF Tryz.prog 96 ex96 := fun args h k hk => by
  obtain ⟨v0, rfl, hk⟩ := a1_ok hk
  exact sim_of (qf := (fun f => [46, 47, 62, 75, 82, 97, 104, 114, 121, 127, 128, 141, 151, 156, 157, 183].contains f)) (Z := zs) (C := []) (T := []) ⟨zerosB_ok zsOk, exNil⟩ (.seq .nil (.seq (.join [32] [5, 6, 7, 8, 9, 10, 11, 12, 13, 14, 15, 16, 17, 18, 19, 20, 21, 22, 23, 24, 25, 26, 27, 28, 29, 30, 31] .nil .nil) .nil)) Tryz.func96 _ h k (Eq.mp (by kernel_rfl : (bd96 v0 h k = true) = (xFn Tryz.prog (fun f => [46, 47, 62, 75, 82, 97, 104, 114, 121, 127, 128, 141, 151, 156, 157, 183].contains f) zs [] [] Tryz.f96 (.seq .nil (.seq (.join [32] [5, 6, 7, 8, 9, 10, 11, 12, 13, 14, 15, 16, 17, 18, 19, 20, 21, 22, 23, 24, 25, 26, 27, 28, 29, 30, 31] .nil .nil) .nil)) [v0] h k = true)) hk)

/- (*undercroft/disk.Disk).check -/
noncomputable def bd100 (v0 : CV) (h : CH) (k : CV → CH → Bool) : Bool :=
 bd150 v0 h fun x1 h1 =>
 xUn .not x1 fun x2 =>
 xIte x2
  (k (.int .i64 (.ofNat 1)) h1)
  (xNilCheck v0 fun x3 =>
  xAddr (some 6) x3 fun x4 =>
  xLoad (some none) x4 h1 fun x5 =>
  xIte x5
   (k (.int .i64 (.ofNat 3)) h1)
   (k (.int .i64 (.ofNat 0)) h1))
noncomputable abbrev ex100 : Ex := fun args h k => a1 args fun v0 => bd100 v0 h k
set_option maxRecDepth 100000 in
theorem sim100 : SimF Tryz.prog 100 ex100 := fun args h k hk => by
  obtain ⟨v0, rfl, hk⟩ := a1_ok hk
  exact sim_of (qf := (fun f => [46, 47, 62, 75, 82, 97, 104, 114, 121, 127, 128, 141, 151, 156, 157, 183].contains f)) (Z := zs) (C := [(150, ex150)]) (T := []) ⟨zerosB_ok zsOk, (exCons (by kernel_rfl) sim150 exNil)⟩ .nil Tryz.func100 _ h k (Eq.mp (by kernel_rfl : (bd100 v0 h k = true) = (xFn Tryz.prog (fun f => [46, 47, 62, 75, 82, 97, 104, 114, 121, 127, 128, 141, 151, 156, 157, 183].contains f) zs [(150, ex150)] [] Tryz.f100 .nil [v0] h k = true)) hk)

/- (*undercroft/disk.Disk).Read -/
noncomputable abbrev c98_1 (x26 : CV) (v1 : CV) (h8 : CH) (x1 : CV) (k : CV → CH → Bool) : Bool :=
 xLookup (some (3, .int .i64, 124)) (some (.agg [(.bytes 1024 0)])) false x26 v1 h8 fun x27 =>
 xBoxP 124 [(.bytes 1024 0)] h8 fun x28 h10 =>
 xStore (some 1024) x28 x27 h10 fun h11 =>
 xLoad (some (some 1024)) x28 h11 fun x29 =>
 xStore (some 1024) x1 x29 h11 fun h12 =>
 xLoad (some (some 1024)) x1 h12 fun x30 =>
 k (.tup [x30, (.int .i64 (.ofNat 0))]) h12
noncomputable abbrev c98_2 (h6 : CH) (x19 : CV) (x20 : CV) (x1 : CV) (k : CV → CH → Bool) (v0 : CV) (v1 : CV) : Bool :=
 xBoxP 124 [(.bytes 1024 0)] h6 fun x21 h7 =>
 xStore (some 1024) x21 x19 h7 fun h8 =>
 xIte x20
  (xLoad (some (some 1024)) x21 h8 fun x22 =>
  xStore (some 1024) x1 x22 h8 fun h9 =>
  xLoad (some (some 1024)) x1 h9 fun x23 =>
  k (.tup [x23, (.int .i64 (.ofNat 0))]) h9)
  (xNilCheck v0 fun x24 =>
  xAddr (some 1) x24 fun x25 =>
  xLoad (some none) x25 h8 fun x26 =>
  c98_1 x26 v1 h8 x1 k)
noncomputable abbrev c98_3 (v0 : CV) (x12 : CV) (h4 : CH) (v1 : CV) (x1 : CV) (k : CV → CH → Bool) : Bool :=
 xNilCheck v0 fun x13 =>
 xAddr (some 8) x13 fun x14 =>
 xStore (some 1) x14 x12 h4 fun h6 =>
 xNilCheck v0 fun x15 =>
 xAddr (some 2) x15 fun x16 =>
 xLoad (some none) x16 h6 fun x17 =>
 xLookup (some (3, .int .i64, 124)) (some (.agg [(.bytes 1024 0)])) true x17 v1 h6 fun x18 =>
 xExtract x18 0 fun x19 =>
 xExtract x18 1 fun x20 =>
 c98_2 h6 x19 x20 x1 k v0 v1
noncomputable abbrev c98_4 (s5 : TupC 1) (x1 : CV) (h4 : CH) (k : CV → CH → Bool) (v0 : CV) (v1 : CV) : Bool :=
 xIte s5.1
  (xBuild (some (.inr 1)) (some (.agg [(.bytes 1024 0)])) [] fun x7 =>
  xStore (some 1024) x1 x7 h4 fun h5 =>
  xLoad (some (some 1024)) x1 h5 fun x8 =>
  k (.tup [x8, (.int .i64 (.ofNat 2))]) h5)
  (xNilCheck v0 fun x9 =>
  xAddr (some 8) x9 fun x10 =>
  xLoad (some none) x10 h4 fun x11 =>
  xBin (some (.int .i64)) .add x11 (.int .i64 (.ofNat 1)) fun x12 =>
  c98_3 v0 x12 h4 v1 x1 k)
noncomputable abbrev c98_5 (x3 : CV) (x1 : CV) (h2 : CH) (k : CV → CH → Bool) (x2 : CV) (v0 : CV) (v1 : CV) : Bool :=
 xIte x3
  (xBuild (some (.inr 1)) (some (.agg [(.bytes 1024 0)])) [] fun x4 =>
  xStore (some 1024) x1 x4 h2 fun h3 =>
  xLoad (some (some 1024)) x1 h3 fun x5 =>
  k (.tup [x5, x2]) h3)
  (xJoin (n := 1) (fun s5 h4 =>
   c98_4 s5 x1 h4 k v0 v1)
  (fun K30 => xBin (some (.int .i64)) .lss v1 (.int .i64 (.ofNat 0)) fun x32 =>
  xIte x32
   (K30 ((.bool true), ()) h2)
   (xNilCheck v0 fun x33 =>
   xAddr (some 0) x33 fun x34 =>
   xLoad (some none) x34 h2 fun x35 =>
   xBin (some (.int .i64)) .geq v1 x35 fun x36 =>
   K30 (x36, ()) h2)))
noncomputable def bd98 (v0 v1 : CV) (h : CH) (k : CV → CH → Bool) : Bool :=
 xBoxP 124 [(.bytes 1024 0)] h fun x1 h1 =>
 bd100 v0 h1 fun x2 h2 =>
 xBin (some (.int .i64)) .neq x2 (.int .i64 (.ofNat 0)) fun x3 =>
 c98_5 x3 x1 h2 k x2 v0 v1
noncomputable abbrev ex98 : Ex := fun args h k => a2 args fun v0 v1 => bd98 v0 v1 h k
set_option maxRecDepth 100000 in
theorem sim98 : SimF Tryz.prog 98 ex98 := fun args h k hk => by
  obtain ⟨v0, v1, rfl, hk⟩ := a2_ok hk
  exact sim_of (qf := (fun f => [46, 47, 62, 75, 82, 97, 104, 114, 121, 127, 128, 141, 151, 156, 157, 183].contains f)) (Z := zs) (C := [(100, ex100)]) (T := []) ⟨zerosB_ok zsOk, (exCons (by kernel_rfl) sim100 exNil)⟩ (.seq .nil (.seq .nil (.seq (.join [25] [16, 17, 18, 19, 20, 21, 22, 23, 24] .nil .nil) .nil))) Tryz.func98 _ h k (Eq.mp (by kernel_rfl : (bd98 v0 v1 h k = true) = (xFn Tryz.prog (fun f => [46, 47, 62, 75, 82, 97, 104, 114, 121, 127, 128, 141, 151, 156, 157, 183].contains f) zs [(100, ex100)] [] Tryz.f98 (.seq .nil (.seq .nil (.seq (.join [25] [16, 17, 18, 19, 20, 21, 22, 23, 24] .nil .nil) .nil))) [v0, v1] h k = true)) hk)

/- undercroft/head.fits -/
noncomputable abbrev c110_1 (x1 : CV) (h4 : CH) (x9 : CV) (k : CV → CH → Bool) : Bool :=
 xLoad (some (some 9)) x1 h4 fun x10 =>
 xEq (some (.agg (.fld 0 (some (some 3)) (.fld 0 (some none) .int (.fld 1 (some none) .int (.fld 2 (some none) .int .done))) (.fld 3 (some none) .int (.fld 4 (some none) .int (.fld 5 (some none) .int (.fld 6 (some none) .int (.fld 7 (some none) .int (.fld 8 (some none) .int .done))))))))) .eql x9 x10 h4 fun x11 =>
 k x11 h4
noncomputable abbrev c110_2 (h2 : CH) (x5 : CV) (x6 : CV) (x1 : CV) (k : CV → CH → Bool) : Bool :=
 xBoxP 58 [(.int .i64 (.ofNat 0)), (.int .i64 (.ofNat 0)), (.int .i64 (.ofNat 0)), (.int .i64 (.ofNat 0)), (.int .i64 (.ofNat 0)), (.int .i64 (.ofNat 0)), (.int .i64 (.ofNat 0)), (.int .i64 (.ofNat 0)), (.int .i64 (.ofNat 0))] h2 fun x7 h3 =>
 xStore (some 9) x7 x5 h3 fun h4 =>
 xBin (some (.int .i64)) .eql x6 (.int .i64 (.ofNat 0)) fun x8 =>
 xIte x8
  (xLoad (some (some 9)) x7 h4 fun x9 =>
  c110_1 x1 h4 x9 k)
  (k (.bool false) h4)
noncomputable def bd110 (v0 : CV) (h : CH) (k : CV → CH → Bool) : Bool :=
 xBox 58 v0 h fun x1 h1 =>
 xAddr (some 0) x1 fun x2 =>
 xLoad (some (some 3)) x2 h1 fun x3 =>
 bd96 x3 h1 fun x4 h2 =>
 xExtract x4 0 fun x5 =>
 xExtract x4 1 fun x6 =>
 c110_2 h2 x5 x6 x1 k
noncomputable abbrev ex110 : Ex := fun args h k => a1 args fun v0 => bd110 v0 h k
set_option maxRecDepth 100000 in
theorem sim110 : SimF Tryz.prog 110 ex110 := fun args h k hk => by
  obtain ⟨v0, rfl, hk⟩ := a1_ok hk
  exact sim_of (qf := (fun f => [46, 47, 62, 75, 82, 97, 104, 114, 121, 127, 128, 141, 151, 156, 157, 183].contains f)) (Z := zs) (C := [(96, ex96)]) (T := []) ⟨zerosB_ok zsOk, (exCons (by kernel_rfl) sim96 exNil)⟩ .nil Tryz.func110 _ h k (Eq.mp (by kernel_rfl : (bd110 v0 h k = true) = (xFn Tryz.prog (fun f => [46, 47, 62, 75, 82, 97, 104, 114, 121, 127, 128, 141, 151, 156, 157, 183].contains f) zs [(96, ex96)] [] Tryz.f110 .nil [v0] h k = true)) hk)

/- undercroft/slab.inside -/
noncomputable def bd120 (v0 v1 : CV) (h : CH) (k : CV → CH → Bool) : Bool :=
 xBin (some (.int .i64)) .geq v0 (.int .i64 (.ofNat 0)) fun x1 =>
 xIte x1
  (xBin (some (.int .i64)) .sub (.int .i64 (.ofNat 1024)) v1 fun x2 =>
  xBin (some (.int .i64)) .leq v0 x2 fun x3 =>
  k x3 h)
  (k (.bool false) h)
noncomputable abbrev ex120 : Ex := fun args h k => a2 args fun v0 v1 => bd120 v0 v1 h k
set_option maxRecDepth 100000 in
theorem sim120 : SimF Tryz.prog 120 ex120 := fun args h k hk => by
  obtain ⟨v0, v1, rfl, hk⟩ := a2_ok hk
  exact sim_of (qf := (fun f => [46, 47, 62, 75, 82, 97, 104, 114, 121, 127, 128, 141, 151, 156, 157, 183].contains f)) (Z := zs) (C := []) (T := []) ⟨zerosB_ok zsOk, exNil⟩ .nil Tryz.func120 _ h k (Eq.mp (by kernel_rfl : (bd120 v0 v1 h k = true) = (xFn Tryz.prog (fun f => [46, 47, 62, 75, 82, 97, 104, 114, 121, 127, 128, 141, 151, 156, 157, 183].contains f) zs [] [] Tryz.f120 .nil [v0, v1] h k = true)) hk)

/- undercroft/slab.U32 -/
noncomputable abbrev c75_1 (x12 : CV) (x17 : CV) (v1 : CV) (x1 : CV) (h2 : CH) (k : CV → CH → Bool) : Bool :=
 xBin (some (.int .u32)) .or x12 x17 fun x18 =>
 xBin (some (.int .i64)) .add v1 (.int .i64 (.ofNat 3)) fun x19 =>
 xIdx (some (some 1024, 1)) x1 x19 fun x20 =>
 xLoad (some none) x20 h2 fun x21 =>
 xConv (some (.int .u8)) (some (.int .u32)) x21 fun x22 =>
 xBin (some (.int .u32)) .shl x22 (.int .u64 (.ofNat 24)) fun x23 =>
 xBin (some (.int .u32)) .or x18 x23 fun x24 =>
 k x24 h2
noncomputable abbrev c75_2 (x10 : CV) (x6 : CV) (v1 : CV) (x1 : CV) (h2 : CH) (k : CV → CH → Bool) : Bool :=
 xBin (some (.int .u32)) .shl x10 (.int .u64 (.ofNat 8)) fun x11 =>
 xBin (some (.int .u32)) .or x6 x11 fun x12 =>
 xBin (some (.int .i64)) .add v1 (.int .i64 (.ofNat 2)) fun x13 =>
 xIdx (some (some 1024, 1)) x1 x13 fun x14 =>
 xLoad (some none) x14 h2 fun x15 =>
 xConv (some (.int .u8)) (some (.int .u32)) x15 fun x16 =>
 xBin (some (.int .u32)) .shl x16 (.int .u64 (.ofNat 16)) fun x17 =>
 c75_1 x12 x17 v1 x1 h2 k
noncomputable abbrev c75_3 (x1 : CV) (v1 : CV) (h2 : CH) (k : CV → CH → Bool) : Bool :=
 xIdx (some (some 1024, 1)) x1 v1 fun x4 =>
 xLoad (some none) x4 h2 fun x5 =>
 xConv (some (.int .u8)) (some (.int .u32)) x5 fun x6 =>
 xBin (some (.int .i64)) .add v1 (.int .i64 (.ofNat 1)) fun x7 =>
 xIdx (some (some 1024, 1)) x1 x7 fun x8 =>
 xLoad (some none) x8 h2 fun x9 =>
 xConv (some (.int .u8)) (some (.int .u32)) x9 fun x10 =>
 c75_2 x10 x6 v1 x1 h2 k
noncomputable def bd75 (v0 v1 : CV) (h : CH) (k : CV → CH → Bool) : Bool :=
 xBox 124 v0 h fun x1 h1 =>
 bd120 v1 (.int .i64 (.ofNat 4)) h1 fun x2 h2 =>
 xUn .not x2 fun x3 =>
 xIte x3
  (k (.int .u32 (.ofNat 0)) h2)
  (c75_3 x1 v1 h2 k)
noncomputable abbrev ex75 : Ex := fun args h k => a2 args fun v0 v1 => bd75 v0 v1 h k
set_option maxRecDepth 100000 in
theorem sim75 : SimF Tryz.prog 75 ex75 := fun args h k hk => by
  obtain ⟨v0, v1, rfl, hk⟩ := a2_ok hk
  exact sim_of (qf := (fun f => [46, 47, 62, 75, 82, 97, 104, 114, 121, 127, 128, 141, 151, 156, 157, 183].contains f)) (Z := zs) (C := [(120, ex120)]) (T := []) ⟨zerosB_ok zsOk, (exCons (by kernel_rfl) sim120 exNil)⟩ .nil Tryz.func75 _ h k (Eq.mp (by kernel_rfl : (bd75 v0 v1 h k = true) = (xFn Tryz.prog (fun f => [46, 47, 62, 75, 82, 97, 104, 114, 121, 127, 128, 141, 151, 156, 157, 183].contains f) zs [(120, ex120)] [] Tryz.f75 .nil [v0, v1] h k = true)) hk)

/- undercroft/head.may -/
noncomputable abbrev c111_1 (x24 : CV) (h5 : CH) (x14 : CV) (K21 : TupC 1 → CH → Bool) (x1 : CV) : Bool :=
 xLoad (some none) x24 h5 fun x25 =>
 xBin (some (.int .i64)) .add (.int .i64 (.ofNat 1)) x25 fun x26 =>
 xBin (some (.int .i64)) .lss x14 x26 fun x27 =>
 xIte x27
  (K21 ((.bool true), ()) h5)
  (xAddr (some 0) x1 fun x28 =>
  xAddr (some 0) x28 fun x29 =>
  xLoad (some none) x29 h5 fun x30 =>
  xBin (some (.int .i64)) .geq x14 x30 fun x31 =>
  K21 (x31, ()) h5)
noncomputable abbrev c111_2 (k : CV → CH → Bool) (x8 : CV) (x14 : CV) (s9 : TupC 1) (K10 : TupC 1 → CH → Bool) (x17 : CV) (h5 : CH) (x1 : CV) : Bool :=
 xJoin (n := 1) (fun s18 h6 =>
  xIte s18.1
   (k (.bool false) h6)
   (xBuild (some (.inl [])) (some (.agg [])) [] fun x20 =>
   xMapSet (some (3, .int .i64, 223)) x8 x14 x20 h6 fun h7 =>
   xBin (some (.int .i64)) .add s9.1 (.int .i64 (.ofNat 1)) fun x21 =>
   K10 (x21, ()) h7))
 (fun K21 => xIte x17
  (K21 ((.bool true), ()) h5)
  (xAddr (some 0) x1 fun x23 =>
  xAddr (some 1) x23 fun x24 =>
  c111_1 x24 h5 x14 K21 x1))
noncomputable abbrev c111_3 (s9 : TupC 1) (x9 : CV) (v1 : CV) (h3 : CH) (x8 : CV) (k : CV → CH → Bool) (K10 : TupC 1 → CH → Bool) (x1 : CV) : Bool :=
 xBin (some (.int .i64)) .lss s9.1 x9 fun x12 =>
 xIte x12
  (xIdx (some (none, 1)) v1 s9.1 fun x13 =>
  xLoad (some none) x13 h3 fun x14 =>
  xLookup (some (3, .int .i64, 223)) (some (.agg [])) true x8 x14 h3 fun x15 =>
  xExtract x15 0 fun x16 =>
  xExtract x15 1 fun x17 =>
  xBoxP 223 [] h3 fun x18 h4 =>
  xStore (some 0) x18 x16 h4 fun h5 =>
  c111_2 k x8 x14 s9 K10 x17 h5 x1)
  (k (.bool true) h3)
noncomputable abbrev c111_4 (x3 : CV) (h1 : CH) (x2 : CV) (k : CV → CH → Bool) (v1 : CV) (x1 : CV) : Bool :=
 xAddr (some 1) x3 fun x4 =>
 xLoad (some none) x4 h1 fun x5 =>
 xBin (some (.int .i64)) .sub x5 (.int .i64 (.ofNat 1)) fun x6 =>
 xBin (some (.int .i64)) .gtr x2 x6 fun x7 =>
 xIte x7
  (k (.bool false) h1)
  (xNewMap h1 fun x8 h2 =>
  xLen (some (.inl false)) v1 fun x9 =>
  xLoop (n := 1) (fun K10 s9 h3 =>
   c111_3 s9 x9 v1 h3 x8 k K10 x1) 1000000 ((.int .i64 (.ofNat 0)), ()) h2)
noncomputable def bd111 (v0 v1 : CV) (h : CH) (k : CV → CH → Bool) : Bool :=
 xBox 58 v0 h fun x1 h1 =>
 xLen (some (.inl false)) v1 fun x2 =>
 xAddr (some 0) x1 fun x3 =>
 c111_4 x3 h1 x2 k v1 x1
noncomputable abbrev ex111 : Ex := fun args h k => a2 args fun v0 v1 => bd111 v0 v1 h k
set_option maxRecDepth 100000 in
theorem sim111 : SimF Tryz.prog 111 ex111 := fun args h k hk => by
  obtain ⟨v0, v1, rfl, hk⟩ := a2_ok hk
  exact sim_of (qf := (fun f => [46, 47, 62, 75, 82, 97, 104, 114, 121, 127, 128, 141, 151, 156, 157, 183].contains f)) (Z := zs) (C := []) (T := []) ⟨zerosB_ok zsOk, exNil⟩ (.seq .nil (.seq .nil (.seq .nil (.seq (.seq .nil (.loop [20] [21, 22, 23, 7, 25, 26, 27, 24, 28, 29, 8, 9, 30, 31, 32, 33, 34, 35, 36, 37, 38, 39, 40, 41, 42, 43, 44, 45, 4, 46, 47, 48, 49] (.seq .nil (.seq .nil (.seq (.seq .nil (.seq (.seq .nil (.join [45] [30, 31, 32, 33, 34, 35, 36, 37, 38, 39, 40, 41, 42, 43, 44] .nil .nil)) .nil)) .nil))))) .nil)))) Tryz.func111 _ h k (Eq.mp (by kernel_rfl : (bd111 v0 v1 h k = true) = (xFn Tryz.prog (fun f => [46, 47, 62, 75, 82, 97, 104, 114, 121, 127, 128, 141, 151, 156, 157, 183].contains f) zs [] [] Tryz.f111 (.seq .nil (.seq .nil (.seq .nil (.seq (.seq .nil (.loop [20] [21, 22, 23, 7, 25, 26, 27, 24, 28, 29, 8, 9, 30, 31, 32, 33, 34, 35, 36, 37, 38, 39, 40, 41, 42, 43, 44, 45, 4, 46, 47, 48, 49] (.seq .nil (.seq .nil (.seq (.seq .nil (.seq (.seq .nil (.join [45] [30, 31, 32, 33, 34, 35, 36, 37, 38, 39, 40, 41, 42, 43, 44] .nil .nil)) .nil)) .nil))))) .nil)))) [v0, v1] h k = true)) hk)

/- undercroft/head.Decode -/
noncomputable abbrev c99_1 (x29 : CV) (h10 : CH) (x25 : CV) (x19 : CV) (s20 : TupC 1) (K21 : TupC 1 → CH → Bool) : Bool :=
 xConv (some (.int .u32)) (some (.int .i64)) x29 fun x30 =>
 xNewS (some (3, 1, 8, false)) (some [(.int .i64 (.ofNat 0))]) 1 [(0, x30)] h10 fun x31 h11 =>
 xApp (some (3, 1, 8, false)) x25 x31 h11 fun x32 h12 =>
 xAddr (some 0) x19 fun x33 =>
 xStore (some 1) x33 x32 h12 fun h13 =>
 xBin (some (.int .i64)) .add s20.1 (.int .i64 (.ofNat 1)) fun x34 =>
 K21 (x34, ()) h13
noncomputable abbrev c99_2 (x39 : CV) (x3 : CV) (h14 : CH) (k : CV → CH → Bool) (x19 : CV) : Bool :=
 xIte x39
  (xBuild (some (.inl [(0, 1)])) (some (.agg [.nils])) [] fun x40 =>
  xStore (some 1) x3 x40 h14 fun h15 =>
  xLoad (some (some 1)) x3 h15 fun x41 =>
  k (.tup [x41, (.int .i64 (.ofNat 4))]) h15)
  (xLoad (some (some 1)) x19 h14 fun x42 =>
  xStore (some 1) x3 x42 h14 fun h16 =>
  xLoad (some (some 1)) x3 h16 fun x43 =>
  k (.tup [x43, (.int .i64 (.ofNat 0))]) h16)
noncomputable abbrev c99_3 (x23 : CV) (x19 : CV) (h9 : CH) (x2 : CV) (s20 : TupC 1) (K21 : TupC 1 → CH → Bool) (x1 : CV) (x3 : CV) (k : CV → CH → Bool) : Bool :=
 xIte x23
  (xAddr (some 0) x19 fun x24 =>
  xLoad (some none) x24 h9 fun x25 =>
  xLoad (some (some 1024)) x2 h9 fun x26 =>
  xBin (some (.int .i64)) .add s20.1 (.int .i64 (.ofNat 1)) fun x27 =>
  xBin (some (.int .i64)) .mul (.int .i64 (.ofNat 4)) x27 fun x28 =>
  xQuiet (some ex75) [x26, x28] h9 fun x29 h10 =>
  c99_1 x29 h10 x25 x19 s20 K21)
  (xLoad (some (some 9)) x1 h9 fun x35 =>
  xAddr (some 0) x19 fun x36 =>
  xLoad (some none) x36 h9 fun x37 =>
  bd111 x35 x37 h9 fun x38 h14 =>
  xUn .not x38 fun x39 =>
  c99_2 x39 x3 h14 k x19)
noncomputable abbrev c99_4 (x16 : CV) (x3 : CV) (h6 : CH) (k : CV → CH → Bool) (x10 : CV) (x2 : CV) (x1 : CV) : Bool :=
 xIte x16
  (xBuild (some (.inl [(0, 1)])) (some (.agg [.nils])) [] fun x17 =>
  xStore (some 1) x3 x17 h6 fun h7 =>
  xLoad (some (some 1)) x3 h7 fun x18 =>
  k (.tup [x18, (.int .i64 (.ofNat 4))]) h7)
  (xBoxP 138 [.nils] h6 fun x19 h8 =>
  xConv (some (.int .u32)) (some (.int .i64)) x10 fun x20 =>
  xLoop (n := 1) (fun K21 s20 h9 =>
   xBin (some (.int .i64)) .lss s20.1 x20 fun x23 =>
   c99_3 x23 x19 h9 x2 s20 K21 x1 x3 k) 1000000 ((.int .i64 (.ofNat 0)), ()) h8)
noncomputable abbrev c99_5 (x2 : CV) (h4 : CH) (x1 : CV) (x3 : CV) (k : CV → CH → Bool) : Bool :=
 xLoad (some (some 1024)) x2 h4 fun x9 =>
 bd75 x9 (.int .i64 (.ofNat 0)) h4 fun x10 h6 =>
 xConv (some (.int .u32)) (some (.int .i64)) x10 fun x11 =>
 xAddr (some 0) x1 fun x12 =>
 xAddr (some 1) x12 fun x13 =>
 xLoad (some none) x13 h6 fun x14 =>
 xBin (some (.int .i64)) .sub x14 (.int .i64 (.ofNat 1)) fun x15 =>
 xBin (some (.int .i64)) .gtr x11 x15 fun x16 =>
 c99_4 x16 x3 h6 k x10 x2 x1
noncomputable abbrev c99_6 (v1 : CV) (h1 : CH) (x1 : CV) (k : CV → CH → Bool) : Bool :=
 xBox 124 v1 h1 fun x2 h2 =>
 xBoxP 138 [.nils] h2 fun x3 h3 =>
 xLoad (some (some 9)) x1 h3 fun x4 =>
 bd110 x4 h3 fun x5 h4 =>
 xUn .not x5 fun x6 =>
 xIte x6
  (xBuild (some (.inl [(0, 1)])) (some (.agg [.nils])) [] fun x7 =>
  xStore (some 1) x3 x7 h4 fun h5 =>
  xLoad (some (some 1)) x3 h5 fun x8 =>
  k (.tup [x8, (.int .i64 (.ofNat 2))]) h5)
  (c99_5 x2 h4 x1 x3 k)
noncomputable def bd99 (v0 v1 : CV) (h : CH) (k : CV → CH → Bool) : Bool :=
 xBox 58 v0 h fun x1 h1 =>
 c99_6 v1 h1 x1 k
noncomputable abbrev ex99 : Ex := fun args h k => a2 args fun v0 v1 => bd99 v0 v1 h k
set_option maxRecDepth 100000 in
theorem sim99 : SimF Tryz.prog 99 ex99 := fun args h k hk => by
  obtain ⟨v0, v1, rfl, hk⟩ := a2_ok hk
  exact sim_of (qf := (fun f => [46, 47, 62, 75, 82, 97, 104, 114, 121, 127, 128, 141, 151, 156, 157, 183].contains f)) (Z := zs) (C := [(110, ex110), (75, ex75), (111, ex111)]) (T := []) ⟨zerosB_ok zsOk, (exCons (by kernel_rfl) sim110 (exCons (by kernel_rfl) sim75 (exCons (by kernel_rfl) sim111 exNil)))⟩ (.seq .nil (.seq .nil (.seq .nil (.seq .nil (.seq .nil (.seq (.seq .nil (.loop [25] [26, 27, 8, 28, 29, 30, 31, 32, 33, 34, 35, 36, 37, 38, 39] .nil)) .nil)))))) Tryz.func99 _ h k (Eq.mp (by kernel_rfl : (bd99 v0 v1 h k = true) = (xFn Tryz.prog (fun f => [46, 47, 62, 75, 82, 97, 104, 114, 121, 127, 128, 141, 151, 156, 157, 183].contains f) zs [(110, ex110), (75, ex75), (111, ex111)] [] Tryz.f99 (.seq .nil (.seq .nil (.seq .nil (.seq .nil (.seq .nil (.seq (.seq .nil (.loop [25] [26, 27, 8, 28, 29, 30, 31, 32, 33, 34, 35, 36, 37, 38, 39] .nil)) .nil)))))) [v0, v1] h k = true)) hk)

/- undercroft/wal.header -/
noncomputable abbrev c50_1 (x22 : CV) (x2 : CV) (h12 : CH) (k : CV → CH → Bool) (x1 : CV) (x21 : CV) : Bool :=
 xIte x22
  (xBuild (some (.inl [(0, 1)])) (some (.agg [.nils])) [] fun x23 =>
  xStore (some 1) x2 x23 h12 fun h13 =>
  xLoad (some (some 1)) x2 h13 fun x24 =>
  k (.tup [x24, (.int .i64 (.ofNat 3))]) h13)
  (xLoad (some (some 9)) x1 h12 fun x25 =>
  xLoad (some (some 1024)) x21 h12 fun x26 =>
  bd99 x25 x26 h12 fun x27 h14 =>
  xExtract x27 0 fun x28 =>
  xExtract x27 1 fun x29 =>
  xStore (some 1) x2 x28 h14 fun h15 =>
  xLoad (some (some 1)) x2 h15 fun x30 =>
  k (.tup [x30, x29]) h15)
noncomputable abbrev c50_2 (s12 : TupC 1) (x2 : CV) (h8 : CH) (k : CV → CH → Bool) (x1 : CV) (v0 : CV) : Bool :=
 xIte s12.1
  (xBuild (some (.inl [(0, 1)])) (some (.agg [.nils])) [] fun x14 =>
  xStore (some 1) x2 x14 h8 fun h9 =>
  xLoad (some (some 1)) x2 h9 fun x15 =>
  k (.tup [x15, (.int .i64 (.ofNat 2))]) h9)
  (xAddr (some 3) x1 fun x16 =>
  xLoad (some none) x16 h8 fun x17 =>
  bd98 v0 x17 h8 fun x18 h10 =>
  xExtract x18 0 fun x19 =>
  xExtract x18 1 fun x20 =>
  xBoxP 124 [(.bytes 1024 0)] h10 fun x21 h11 =>
  xStore (some 1024) x21 x19 h11 fun h12 =>
  xBin (some (.int .i64)) .neq x20 (.int .i64 (.ofNat 0)) fun x22 =>
  c50_1 x22 x2 h12 k x1 x21)
noncomputable abbrev c50_3 (x33 : CV) (x34 : CV) (h7 : CH) (K30 : TupC 1 → CH → Bool) (x1 : CV) (v0 : CV) : Bool :=
 xEq (some (.agg (.fld 0 (some (some 3)) (.fld 0 (some none) .int (.fld 1 (some none) .int (.fld 2 (some none) .int .done))) (.fld 3 (some none) .int (.fld 4 (some none) .int (.fld 5 (some none) .int (.fld 6 (some none) .int (.fld 7 (some none) .int (.fld 8 (some none) .int .done))))))))) .neq x33 x34 h7 fun x35 =>
 xIte x35
  (K30 ((.bool true), ()) h7)
  (xAddr (some 0) x1 fun x36 =>
  xAddr (some 0) x36 fun x37 =>
  xLoad (some none) x37 h7 fun x38 =>
  xQuiet (some ex97) [v0] h7 fun x39 h16 =>
  xBin (some (.int .i64)) .gtr x38 x39 fun x40 =>
  K30 (x40, ()) h16)
noncomputable abbrev c50_4 (h5 : CH) (x10 : CV) (x2 : CV) (k : CV → CH → Bool) (x1 : CV) (v0 : CV) (x11 : CV) : Bool :=
 xBoxP 58 [(.int .i64 (.ofNat 0)), (.int .i64 (.ofNat 0)), (.int .i64 (.ofNat 0)), (.int .i64 (.ofNat 0)), (.int .i64 (.ofNat 0)), (.int .i64 (.ofNat 0)), (.int .i64 (.ofNat 0)), (.int .i64 (.ofNat 0)), (.int .i64 (.ofNat 0))] h5 fun x12 h6 =>
 xStore (some 9) x12 x10 h6 fun h7 =>
 xJoin (n := 1) (fun s12 h8 =>
  c50_2 s12 x2 h8 k x1 v0)
 (fun K30 => xBin (some (.int .i64)) .neq x11 (.int .i64 (.ofNat 0)) fun x32 =>
 xIte x32
  (K30 ((.bool true), ()) h7)
  (xLoad (some (some 9)) x12 h7 fun x33 =>
  xLoad (some (some 9)) x1 h7 fun x34 =>
  c50_3 x33 x34 h7 K30 x1 v0))
noncomputable abbrev c50_5 (x4 : CV) (x2 : CV) (h3 : CH) (k : CV → CH → Bool) (x1 : CV) (v0 : CV) : Bool :=
 xIte x4
  (xBuild (some (.inl [(0, 1)])) (some (.agg [.nils])) [] fun x5 =>
  xStore (some 1) x2 x5 h3 fun h4 =>
  xLoad (some (some 1)) x2 h4 fun x6 =>
  k (.tup [x6, (.int .i64 (.ofNat 1))]) h4)
  (xAddr (some 0) x1 fun x7 =>
  xLoad (some (some 3)) x7 h3 fun x8 =>
  bd96 x8 h3 fun x9 h5 =>
  xExtract x9 0 fun x10 =>
  xExtract x9 1 fun x11 =>
  c50_4 h5 x10 x2 k x1 v0 x11)
noncomputable def bd50 (v0 v1 : CV) (h : CH) (k : CV → CH → Bool) : Bool :=
 xBox 58 v1 h fun x1 h1 =>
 xBoxP 138 [.nils] h1 fun x2 h2 =>
 bd95 v0 h2 fun x3 h3 =>
 xUn .not x3 fun x4 =>
 c50_5 x4 x2 h3 k x1 v0
noncomputable abbrev ex50 : Ex := fun args h k => a2 args fun v0 v1 => bd50 v0 v1 h k
set_option maxRecDepth 100000 in
theorem sim50 : SimF Tryz.prog 50 ex50 := fun args h k hk => by
  obtain ⟨v0, v1, rfl, hk⟩ := a2_ok hk
  exact sim_of (qf := (fun f => [46, 47, 62, 75, 82, 97, 104, 114, 121, 127, 128, 141, 151, 156, 157, 183].contains f)) (Z := zs) (C := [(95, ex95), (96, ex96), (98, ex98), (99, ex99), (97, ex97)]) (T := []) ⟨zerosB_ok zsOk, (exCons (by kernel_rfl) sim95 (exCons (by kernel_rfl) sim96 (exCons (by kernel_rfl) sim98 (exCons (by kernel_rfl) sim99 (exCons (by kernel_rfl) sim97 exNil)))))⟩ (.seq .nil (.seq .nil (.seq (.seq .nil (.join [34] [20, 21, 22, 23, 24, 25, 26, 27, 28, 29, 30, 31, 32, 33] .nil .nil)) .nil))) Tryz.func50 _ h k (Eq.mp (by kernel_rfl : (bd50 v0 v1 h k = true) = (xFn Tryz.prog (fun f => [46, 47, 62, 75, 82, 97, 104, 114, 121, 127, 128, 141, 151, 156, 157, 183].contains f) zs [(95, ex95), (96, ex96), (98, ex98), (99, ex99), (97, ex97)] [] Tryz.f50 (.seq .nil (.seq .nil (.seq (.seq .nil (.join [34] [20, 21, 22, 23, 24, 25, 26, 27, 28, 29, 30, 31, 32, 33] .nil .nil)) .nil))) [v0, v1] h k = true)) hk)

/- undercroft/cache.New -/
noncomputable abbrev c51_1 (x7 : CV) (x6 : CV) (h4 : CH) (k : CV → CH → Bool) : Bool :=
 xAddr (some 3) x7 fun x8 =>
 xNilCheck x6 fun x9 =>
 xAddr (some 3) x9 fun x10 =>
 xAddr (some 1026) x10 fun x11 =>
 xStore (some 1) x11 x8 h4 fun h5 =>
 xNilCheck x6 fun x12 =>
 xAddr (some 3) x12 fun x13 =>
 xNilCheck x6 fun x14 =>
 xAddr (some 3) x14 fun x15 =>
 xAddr (some 1027) x15 fun x16 =>
 xStore (some 1) x16 x13 h5 fun h6 =>
 k (.tup [x6, (.int .i64 (.ofNat 0))]) h6
noncomputable abbrev c51_2 (s2 : TupC 1) (k : CV → CH → Bool) (h2 : CH) (v0 : CV) (v1 : CV) : Bool :=
 xIte s2.1
  (k (.tup [.nilp, (.int .i64 (.ofNat 2))]) h2)
  (xNewMap h2 fun x4 h3 =>
  xBuild (some (.inl [(0, 1), (1, 1), (2, 1), (3, 1028), (1031, 1)])) (some (.agg [.nilp, (.int .i64 (.ofNat 0)), (.int .i64 (.ofNat 0)), (.int .i64 (.ofNat 0)), (.bytes 1024 0), (.bool false), .nilp, .nilp, .nilm])) [(0, v0), (1, v1), (4, x4)] fun x5 =>
  xBox 207 x5 h3 fun x6 h4 =>
  xNilCheck x6 fun x7 =>
  c51_1 x7 x6 h4 k)
noncomputable abbrev c51_3 (x1 : CV) (k : CV → CH → Bool) (h1 : CH) (v0 : CV) (v1 : CV) : Bool :=
 xBin (some (.int .i64)) .eql x1 (.int .i64 (.ofNat 0)) fun x2 =>
 xIte x2
  (k (.tup [.nilp, (.int .i64 (.ofNat 1))]) h1)
  (xJoin (n := 1) (fun s2 h2 =>
   c51_2 s2 k h2 v0 v1)
  (fun K16 => xBin (some (.int .i64)) .lss v1 (.int .i64 (.ofNat 1)) fun x18 =>
  xIte x18
   (K16 ((.bool true), ()) h1)
   (xBin (some (.int .i64)) .gtr v1 (.int .i64 (.ofNat 4096)) fun x19 =>
   K16 (x19, ()) h1)))
noncomputable def bd51 (v0 v1 : CV) (h : CH) (k : CV → CH → Bool) : Bool :=
 bd97 v0 h fun x1 h1 =>
 c51_3 x1 k h1 v0 v1
noncomputable abbrev ex51 : Ex := fun args h k => a2 args fun v0 v1 => bd51 v0 v1 h k
set_option maxRecDepth 100000 in
theorem sim51 : SimF Tryz.prog 51 ex51 := fun args h k hk => by
  obtain ⟨v0, v1, rfl, hk⟩ := a2_ok hk
  exact sim_of (qf := (fun f => [46, 47, 62, 75, 82, 97, 104, 114, 121, 127, 128, 141, 151, 156, 157, 183].contains f)) (Z := zs) (C := [(97, ex97)]) (T := []) ⟨zerosB_ok zsOk, (exCons (by kernel_rfl) sim97 exNil)⟩ (.seq .nil (.seq .nil (.seq (.join [15] [10, 11, 12, 13, 14] .nil .nil) .nil))) Tryz.func51 _ h k (Eq.mp (by kernel_rfl : (bd51 v0 v1 h k = true) = (xFn Tryz.prog (fun f => [46, 47, 62, 75, 82, 97, 104, 114, 121, 127, 128, 141, 151, 156, 157, 183].contains f) zs [(97, ex97)] [] Tryz.f51 (.seq .nil (.seq .nil (.seq (.join [15] [10, 11, 12, 13, 14] .nil .nil) .nil))) [v0, v1] h k = true)) hk)

/- (*undercroft/disk.Disk).Claim -/
noncomputable abbrev c52_1 (v0 : CV) (x6 : CV) (h1 : CH) (k : CV → CH → Bool) : Bool :=
 xNilCheck v0 fun x7 =>
 xAddr (some 9) x7 fun x8 =>
 xStore (some 1) x8 x6 h1 fun h2 =>
 xNilCheck v0 fun x9 =>
 xAddr (some 9) x9 fun x10 =>
 xLoad (some none) x10 h2 fun x11 =>
 xNilCheck v0 fun x12 =>
 xAddr (some 10) x12 fun x13 =>
 xStore (some 1) x13 x11 h2 fun h3 =>
 xNilCheck v0 fun x14 =>
 xAddr (some 10) x14 fun x15 =>
 xLoad (some none) x15 h3 fun x16 =>
 k x16 h3
noncomputable def bd52 (v0 : CV) (h : CH) (k : CV → CH → Bool) : Bool :=
 bd100 v0 h fun x1 h1 =>
 xBin (some (.int .i64)) .neq x1 (.int .i64 (.ofNat 0)) fun x2 =>
 xIte x2
  (k (.int .i64 (.ofNat 0)) h1)
  (xNilCheck v0 fun x3 =>
  xAddr (some 9) x3 fun x4 =>
  xLoad (some none) x4 h1 fun x5 =>
  xBin (some (.int .i64)) .add x5 (.int .i64 (.ofNat 1)) fun x6 =>
  c52_1 v0 x6 h1 k)
noncomputable abbrev ex52 : Ex := fun args h k => a1 args fun v0 => bd52 v0 h k
set_option maxRecDepth 100000 in
theorem sim52 : SimF Tryz.prog 52 ex52 := fun args h k hk => by
  obtain ⟨v0, rfl, hk⟩ := a1_ok hk
  exact sim_of (qf := (fun f => [46, 47, 62, 75, 82, 97, 104, 114, 121, 127, 128, 141, 151, 156, 157, 183].contains f)) (Z := zs) (C := [(100, ex100)]) (T := []) ⟨zerosB_ok zsOk, (exCons (by kernel_rfl) sim100 exNil)⟩ .nil Tryz.func52 _ h k (Eq.mp (by kernel_rfl : (bd52 v0 h k = true) = (xFn Tryz.prog (fun f => [46, 47, 62, 75, 82, 97, 104, 114, 121, 127, 128, 141, 151, 156, 157, 183].contains f) zs [(100, ex100)] [] Tryz.f52 .nil [v0] h k = true)) hk)

/- undercroft/wal.New -/
noncomputable abbrev c22_1 (v0 : CV) (v1 : CV) (x1 : CV) (x25 : CV) (x6 : CV) (x18 : CV) (x17 : CV) (x3 : CV) (x2 : CV) (x4 : CV) (x5 : CV) (x7 : CV) (x8 : CV) (x9 : CV) (x10 : CV) (x11 : CV) (x16 : CV) (x12 : CV) (x13 : CV) (x14 : CV) (x15 : CV) (x19 : CV) (x20 : CV) (x23 : CV) (x21 : CV) (x22 : CV) (x24 : CV) (x31 : CV) (x27 : CV) (x26 : CV) (x28 : CV) (x29 : CV) (x30 : CV) (h8 : CH) (h11 : CH) : Bool :=
 (eqCs [v0, v1, (.tup []), x1, x25, (.int .i64 (.ofNat 0)), x6, x18, x17, x3, v0, x2, x3, x4, x5, x5, x7, (.tup []), x8, x9, x10, x11, x16, v0, x12, x13, x14, x15, x16, x17, x18, x18, x19, (.tup []), v0, x17, x20, v0, x23, x21, x22, x24, x25] [v0, v1, (.tup []), x1, x31, (.int .i64 (.ofNat 0)), x6, x18, x17, x3, v0, x2, x3, x4, x5, x5, x7, (.tup []), x8, x9, x10, x11, x16, v0, x12, x13, x14, x15, x16, x17, x18, x18, x19, (.tup []), v0, x17, x27, v0, x26, x28, x29, x30, x31] && eqH h8 h11)
noncomputable abbrev c22_2 (v0 : CV) (x17 : CV) (x27 : CV) (x26 : CV) (x29 : CV) (h10 : CH) (v1 : CV) (x1 : CV) (x25 : CV) (x6 : CV) (x18 : CV) (x3 : CV) (x2 : CV) (x4 : CV) (x5 : CV) (x7 : CV) (x8 : CV) (x9 : CV) (x10 : CV) (x11 : CV) (x16 : CV) (x12 : CV) (x13 : CV) (x14 : CV) (x15 : CV) (x19 : CV) (x20 : CV) (x23 : CV) (x21 : CV) (x22 : CV) (x24 : CV) (x28 : CV) (h8 : CH) : Bool :=
 xBuild (some (.inl [(0, 2), (2, 1), (3, 1), (4, 9), (13, 1), (14, 1), (15, 1), (16, 1), (17, 1), (18, 1)])) (some (.agg [.nils, .nilm, .nilp, .nilp, (.int .i64 (.ofNat 0)), (.int .i64 (.ofNat 0)), (.int .i64 (.ofNat 0)), (.int .i64 (.ofNat 0)), (.int .i64 (.ofNat 0)), (.int .i64 (.ofNat 0)), (.int .i64 (.ofNat 0)), (.int .i64 (.ofNat 0)), (.int .i64 (.ofNat 0)), (.int .i64 (.ofNat 0)), (.bool false), (.int .i64 (.ofNat 0)), .nilm, (.int .i64 (.ofNat 0)), (.int .i64 (.ofNat 0))])) [(1, v0), (2, x17), (3, x27), (4, x26), (0, x29)] fun x30 =>
 xBox 60 x30 h10 fun x31 h11 =>
 c22_1 v0 v1 x1 x25 x6 x18 x17 x3 x2 x4 x5 x7 x8 x9 x10 x11 x16 x12 x13 x14 x15 x19 x20 x23 x21 x22 x24 x31 x27 x26 x28 x29 x30 h8 h11
noncomputable abbrev c22_3 (v0 : CV) (v1 : CV) (x1 : CV) (x25 : CV) (x6 : CV) (x18 : CV) (x17 : CV) (x3 : CV) (x2 : CV) (x4 : CV) (x5 : CV) (x7 : CV) (x8 : CV) (x9 : CV) (x10 : CV) (x11 : CV) (x16 : CV) (x12 : CV) (x13 : CV) (x14 : CV) (x15 : CV) (x19 : CV) (x20 : CV) (x23 : CV) (x21 : CV) (x22 : CV) (x24 : CV) (x37 : CV) (x35 : CV) (x34 : CV) (x32 : CV) (x33 : CV) (x36 : CV) (h8 : CH) (h14 : CH) : Bool :=
 (eqCs [v0, v1, (.tup []), x1, x25, (.int .i64 (.ofNat 0)), x6, x18, x17, x3, v0, x2, x3, x4, x5, x5, x7, (.tup []), x8, x9, x10, x11, x16, v0, x12, x13, x14, x15, x16, x17, x18, x18, x19, (.tup []), v0, x17, x20, v0, x23, x21, x22, x24, x25] [v0, v1, (.tup []), x1, x37, (.int .i64 (.ofNat 0)), x6, x18, x17, x3, v0, x2, x3, x4, x5, x5, x7, (.tup []), x8, x9, x10, x11, x16, v0, x12, x13, x14, x15, x16, x17, x18, x18, x19, (.tup []), v0, x17, x35, v0, x34, x32, x33, x36, x37] && eqH h8 h14)
noncomputable abbrev c22_4 (v0 : CV) (x17 : CV) (x35 : CV) (x34 : CV) (x33 : CV) (h13 : CH) (v1 : CV) (x1 : CV) (x25 : CV) (x6 : CV) (x18 : CV) (x3 : CV) (x2 : CV) (x4 : CV) (x5 : CV) (x7 : CV) (x8 : CV) (x9 : CV) (x10 : CV) (x11 : CV) (x16 : CV) (x12 : CV) (x13 : CV) (x14 : CV) (x15 : CV) (x19 : CV) (x20 : CV) (x23 : CV) (x21 : CV) (x22 : CV) (x24 : CV) (x32 : CV) (h8 : CH) : Bool :=
 xBuild (some (.inl [(0, 2), (2, 1), (3, 1), (4, 9), (13, 1), (14, 1), (15, 1), (16, 1), (17, 1), (18, 1)])) (some (.agg [.nils, .nilm, .nilp, .nilp, (.int .i64 (.ofNat 0)), (.int .i64 (.ofNat 0)), (.int .i64 (.ofNat 0)), (.int .i64 (.ofNat 0)), (.int .i64 (.ofNat 0)), (.int .i64 (.ofNat 0)), (.int .i64 (.ofNat 0)), (.int .i64 (.ofNat 0)), (.int .i64 (.ofNat 0)), (.int .i64 (.ofNat 0)), (.bool false), (.int .i64 (.ofNat 0)), .nilm, (.int .i64 (.ofNat 0)), (.int .i64 (.ofNat 0))])) [(1, v0), (2, x17), (3, x35), (4, x34), (0, x33)] fun x36 =>
 xBox 60 x36 h13 fun x37 h14 =>
 c22_3 v0 v1 x1 x25 x6 x18 x17 x3 x2 x4 x5 x7 x8 x9 x10 x11 x16 x12 x13 x14 x15 x19 x20 x23 x21 x22 x24 x37 x35 x34 x32 x33 x36 h8 h14
noncomputable abbrev c22_5 (v0 : CV) (v1 : CV) (x1 : CV) (x25 : CV) (x6 : CV) (x18 : CV) (x17 : CV) (x3 : CV) (x2 : CV) (x4 : CV) (x5 : CV) (x7 : CV) (x8 : CV) (x9 : CV) (x10 : CV) (x11 : CV) (x16 : CV) (x12 : CV) (x13 : CV) (x14 : CV) (x15 : CV) (x19 : CV) (x20 : CV) (x23 : CV) (x21 : CV) (x22 : CV) (x24 : CV) (x41 : CV) (x38 : CV) (x39 : CV) (x32 : CV) (x33 : CV) (x40 : CV) (h8 : CH) (h16 : CH) : Bool :=
 (eqCs [v0, v1, (.tup []), x1, x25, (.int .i64 (.ofNat 0)), x6, x18, x17, x3, v0, x2, x3, x4, x5, x5, x7, (.tup []), x8, x9, x10, x11, x16, v0, x12, x13, x14, x15, x16, x17, x18, x18, x19, (.tup []), v0, x17, x20, v0, x23, x21, x22, x24, x25] [v0, v1, (.tup []), x1, x41, (.int .i64 (.ofNat 0)), x6, x18, x17, x3, v0, x2, x3, x4, x5, x5, x7, (.tup []), x8, x9, x10, x11, x16, v0, x12, x13, x14, x15, x16, x17, x18, x18, x19, (.tup []), v0, x17, x38, v0, x39, x32, x33, x40, x41] && eqH h8 h16)
noncomputable abbrev c22_6 (v0 : CV) (x17 : CV) (x38 : CV) (x39 : CV) (x33 : CV) (h15 : CH) (v1 : CV) (x1 : CV) (x25 : CV) (x6 : CV) (x18 : CV) (x3 : CV) (x2 : CV) (x4 : CV) (x5 : CV) (x7 : CV) (x8 : CV) (x9 : CV) (x10 : CV) (x11 : CV) (x16 : CV) (x12 : CV) (x13 : CV) (x14 : CV) (x15 : CV) (x19 : CV) (x20 : CV) (x23 : CV) (x21 : CV) (x22 : CV) (x24 : CV) (x32 : CV) (h8 : CH) : Bool :=
 xBuild (some (.inl [(0, 2), (2, 1), (3, 1), (4, 9), (13, 1), (14, 1), (15, 1), (16, 1), (17, 1), (18, 1)])) (some (.agg [.nils, .nilm, .nilp, .nilp, (.int .i64 (.ofNat 0)), (.int .i64 (.ofNat 0)), (.int .i64 (.ofNat 0)), (.int .i64 (.ofNat 0)), (.int .i64 (.ofNat 0)), (.int .i64 (.ofNat 0)), (.int .i64 (.ofNat 0)), (.int .i64 (.ofNat 0)), (.int .i64 (.ofNat 0)), (.int .i64 (.ofNat 0)), (.bool false), (.int .i64 (.ofNat 0)), .nilm, (.int .i64 (.ofNat 0)), (.int .i64 (.ofNat 0))])) [(1, v0), (2, x17), (3, x38), (4, x39), (0, x33)] fun x40 =>
 xBox 60 x40 h15 fun x41 h16 =>
 c22_5 v0 v1 x1 x25 x6 x18 x17 x3 x2 x4 x5 x7 x8 x9 x10 x11 x16 x12 x13 x14 x15 x19 x20 x23 x21 x22 x24 x41 x38 x39 x32 x33 x40 h8 h16
noncomputable abbrev c22_7 (x1 : CV) (h12 : CH) (v0 : CV) (x17 : CV) (x33 : CV) (v1 : CV) (x25 : CV) (x6 : CV) (x18 : CV) (x3 : CV) (x2 : CV) (x4 : CV) (x5 : CV) (x7 : CV) (x8 : CV) (x9 : CV) (x10 : CV) (x11 : CV) (x16 : CV) (x12 : CV) (x13 : CV) (x14 : CV) (x15 : CV) (x19 : CV) (x20 : CV) (x23 : CV) (x21 : CV) (x22 : CV) (x24 : CV) (x32 : CV) (h8 : CH) : Bool :=
 both
  (xLoad (some (some 9)) x1 h12 fun x38 =>
  bd52 v0 h12 fun x39 h15 =>
  c22_6 v0 x17 x38 x39 x33 h15 v1 x1 x25 x6 x18 x3 x2 x4 x5 x7 x8 x9 x10 x11 x16 x12 x13 x14 x15 x19 x20 x23 x21 x22 x24 x32 h8)
  (both
   (bd52 v0 h12 fun x34 h13 =>
   xLoad (some (some 9)) x1 h13 fun x35 =>
   c22_4 v0 x17 x35 x34 x33 h13 v1 x1 x25 x6 x18 x3 x2 x4 x5 x7 x8 x9 x10 x11 x16 x12 x13 x14 x15 x19 x20 x23 x21 x22 x24 x32 h8)
   (true))
noncomputable abbrev c22_8 (v0 : CV) (v1 : CV) (x1 : CV) (x25 : CV) (x6 : CV) (x18 : CV) (x17 : CV) (x3 : CV) (x2 : CV) (x4 : CV) (x5 : CV) (x7 : CV) (x8 : CV) (x9 : CV) (x10 : CV) (x11 : CV) (x16 : CV) (x12 : CV) (x13 : CV) (x14 : CV) (x15 : CV) (x19 : CV) (x20 : CV) (x23 : CV) (x21 : CV) (x22 : CV) (x24 : CV) (x47 : CV) (x42 : CV) (x43 : CV) (x44 : CV) (x45 : CV) (x46 : CV) (h8 : CH) (h19 : CH) : Bool :=
 (eqCs [v0, v1, (.tup []), x1, x25, (.int .i64 (.ofNat 0)), x6, x18, x17, x3, v0, x2, x3, x4, x5, x5, x7, (.tup []), x8, x9, x10, x11, x16, v0, x12, x13, x14, x15, x16, x17, x18, x18, x19, (.tup []), v0, x17, x20, v0, x23, x21, x22, x24, x25] [v0, v1, (.tup []), x1, x47, (.int .i64 (.ofNat 0)), x6, x18, x17, x3, v0, x2, x3, x4, x5, x5, x7, (.tup []), x8, x9, x10, x11, x16, v0, x12, x13, x14, x15, x16, x17, x18, x18, x19, (.tup []), v0, x17, x42, v0, x43, x44, x45, x46, x47] && eqH h8 h19)
noncomputable abbrev c22_9 (v0 : CV) (x17 : CV) (x42 : CV) (x43 : CV) (x45 : CV) (h18 : CH) (v1 : CV) (x1 : CV) (x25 : CV) (x6 : CV) (x18 : CV) (x3 : CV) (x2 : CV) (x4 : CV) (x5 : CV) (x7 : CV) (x8 : CV) (x9 : CV) (x10 : CV) (x11 : CV) (x16 : CV) (x12 : CV) (x13 : CV) (x14 : CV) (x15 : CV) (x19 : CV) (x20 : CV) (x23 : CV) (x21 : CV) (x22 : CV) (x24 : CV) (x44 : CV) (h8 : CH) : Bool :=
 xBuild (some (.inl [(0, 2), (2, 1), (3, 1), (4, 9), (13, 1), (14, 1), (15, 1), (16, 1), (17, 1), (18, 1)])) (some (.agg [.nils, .nilm, .nilp, .nilp, (.int .i64 (.ofNat 0)), (.int .i64 (.ofNat 0)), (.int .i64 (.ofNat 0)), (.int .i64 (.ofNat 0)), (.int .i64 (.ofNat 0)), (.int .i64 (.ofNat 0)), (.int .i64 (.ofNat 0)), (.int .i64 (.ofNat 0)), (.int .i64 (.ofNat 0)), (.int .i64 (.ofNat 0)), (.bool false), (.int .i64 (.ofNat 0)), .nilm, (.int .i64 (.ofNat 0)), (.int .i64 (.ofNat 0))])) [(1, v0), (2, x17), (3, x42), (4, x43), (0, x45)] fun x46 =>
 xBox 60 x46 h18 fun x47 h19 =>
 c22_8 v0 v1 x1 x25 x6 x18 x17 x3 x2 x4 x5 x7 x8 x9 x10 x11 x16 x12 x13 x14 x15 x19 x20 x23 x21 x22 x24 x47 x42 x43 x44 x45 x46 h8 h19
noncomputable abbrev c22_10 (v0 : CV) (v1 : CV) (x1 : CV) (x25 : CV) (x6 : CV) (x18 : CV) (x17 : CV) (x3 : CV) (x2 : CV) (x4 : CV) (x5 : CV) (x7 : CV) (x8 : CV) (x9 : CV) (x10 : CV) (x11 : CV) (x16 : CV) (x12 : CV) (x13 : CV) (x14 : CV) (x15 : CV) (x19 : CV) (x20 : CV) (x23 : CV) (x21 : CV) (x22 : CV) (x24 : CV) (x52 : CV) (x42 : CV) (x50 : CV) (x48 : CV) (x49 : CV) (x51 : CV) (h8 : CH) (h22 : CH) : Bool :=
 (eqCs [v0, v1, (.tup []), x1, x25, (.int .i64 (.ofNat 0)), x6, x18, x17, x3, v0, x2, x3, x4, x5, x5, x7, (.tup []), x8, x9, x10, x11, x16, v0, x12, x13, x14, x15, x16, x17, x18, x18, x19, (.tup []), v0, x17, x20, v0, x23, x21, x22, x24, x25] [v0, v1, (.tup []), x1, x52, (.int .i64 (.ofNat 0)), x6, x18, x17, x3, v0, x2, x3, x4, x5, x5, x7, (.tup []), x8, x9, x10, x11, x16, v0, x12, x13, x14, x15, x16, x17, x18, x18, x19, (.tup []), v0, x17, x42, v0, x50, x48, x49, x51, x52] && eqH h8 h22)
noncomputable abbrev c22_11 (v0 : CV) (x17 : CV) (x42 : CV) (x50 : CV) (x49 : CV) (h21 : CH) (v1 : CV) (x1 : CV) (x25 : CV) (x6 : CV) (x18 : CV) (x3 : CV) (x2 : CV) (x4 : CV) (x5 : CV) (x7 : CV) (x8 : CV) (x9 : CV) (x10 : CV) (x11 : CV) (x16 : CV) (x12 : CV) (x13 : CV) (x14 : CV) (x15 : CV) (x19 : CV) (x20 : CV) (x23 : CV) (x21 : CV) (x22 : CV) (x24 : CV) (x48 : CV) (h8 : CH) : Bool :=
 xBuild (some (.inl [(0, 2), (2, 1), (3, 1), (4, 9), (13, 1), (14, 1), (15, 1), (16, 1), (17, 1), (18, 1)])) (some (.agg [.nils, .nilm, .nilp, .nilp, (.int .i64 (.ofNat 0)), (.int .i64 (.ofNat 0)), (.int .i64 (.ofNat 0)), (.int .i64 (.ofNat 0)), (.int .i64 (.ofNat 0)), (.int .i64 (.ofNat 0)), (.int .i64 (.ofNat 0)), (.int .i64 (.ofNat 0)), (.int .i64 (.ofNat 0)), (.int .i64 (.ofNat 0)), (.bool false), (.int .i64 (.ofNat 0)), .nilm, (.int .i64 (.ofNat 0)), (.int .i64 (.ofNat 0))])) [(1, v0), (2, x17), (3, x42), (4, x50), (0, x49)] fun x51 =>
 xBox 60 x51 h21 fun x52 h22 =>
 c22_10 v0 v1 x1 x25 x6 x18 x17 x3 x2 x4 x5 x7 x8 x9 x10 x11 x16 x12 x13 x14 x15 x19 x20 x23 x21 x22 x24 x52 x42 x50 x48 x49 x51 h8 h22
noncomputable abbrev c22_12 (h5 : CH) (v0 : CV) (x17 : CV) (x42 : CV) (v1 : CV) (x1 : CV) (x25 : CV) (x6 : CV) (x18 : CV) (x3 : CV) (x2 : CV) (x4 : CV) (x5 : CV) (x7 : CV) (x8 : CV) (x9 : CV) (x10 : CV) (x11 : CV) (x16 : CV) (x12 : CV) (x13 : CV) (x14 : CV) (x15 : CV) (x19 : CV) (x20 : CV) (x23 : CV) (x21 : CV) (x22 : CV) (x24 : CV) (h8 : CH) : Bool :=
 both
  (xNewMap h5 fun x48 h20 =>
  xBuild (some (.inl [(0, 1), (1, 1)])) (some (.agg [.nils, .nilm])) [(1, x48)] fun x49 =>
  bd52 v0 h20 fun x50 h21 =>
  c22_11 v0 x17 x42 x50 x49 h21 v1 x1 x25 x6 x18 x3 x2 x4 x5 x7 x8 x9 x10 x11 x16 x12 x13 x14 x15 x19 x20 x23 x21 x22 x24 x48 h8)
  (both
   (bd52 v0 h5 fun x43 h17 =>
   xNewMap h17 fun x44 h18 =>
   xBuild (some (.inl [(0, 1), (1, 1)])) (some (.agg [.nils, .nilm])) [(1, x44)] fun x45 =>
   c22_9 v0 x17 x42 x43 x45 h18 v1 x1 x25 x6 x18 x3 x2 x4 x5 x7 x8 x9 x10 x11 x16 x12 x13 x14 x15 x19 x20 x23 x21 x22 x24 x44 h8)
   (true))
noncomputable abbrev c22_13 (x1 : CV) (h5 : CH) (v0 : CV) (x17 : CV) (v1 : CV) (x25 : CV) (x6 : CV) (x18 : CV) (x3 : CV) (x2 : CV) (x4 : CV) (x5 : CV) (x7 : CV) (x8 : CV) (x9 : CV) (x10 : CV) (x11 : CV) (x16 : CV) (x12 : CV) (x13 : CV) (x14 : CV) (x15 : CV) (x19 : CV) (x20 : CV) (x23 : CV) (x21 : CV) (x22 : CV) (x24 : CV) (h8 : CH) (k : CV → CH → Bool) : Bool :=
 both
  (both
   (xLoad (some (some 9)) x1 h5 fun x42 =>
   c22_12 h5 v0 x17 x42 v1 x1 x25 x6 x18 x3 x2 x4 x5 x7 x8 x9 x10 x11 x16 x12 x13 x14 x15 x19 x20 x23 x21 x22 x24 h8)
   (both
    (xNewMap h5 fun x32 h12 =>
    xBuild (some (.inl [(0, 1), (1, 1)])) (some (.agg [.nils, .nilm])) [(1, x32)] fun x33 =>
    c22_7 x1 h12 v0 x17 x33 v1 x25 x6 x18 x3 x2 x4 x5 x7 x8 x9 x10 x11 x16 x12 x13 x14 x15 x19 x20 x23 x21 x22 x24 x32 h8)
    (both
     (bd52 v0 h5 fun x26 h9 =>
     xLoad (some (some 9)) x1 h9 fun x27 =>
     xNewMap h9 fun x28 h10 =>
     xBuild (some (.inl [(0, 1), (1, 1)])) (some (.agg [.nils, .nilm])) [(1, x28)] fun x29 =>
     c22_2 v0 x17 x27 x26 x29 h10 v1 x1 x25 x6 x18 x3 x2 x4 x5 x7 x8 x9 x10 x11 x16 x12 x13 x14 x15 x19 x20 x23 x21 x22 x24 x28 h8)
     (true))))
  (k (.tup [x25, (.int .i64 (.ofNat 0))]) h8)
noncomputable abbrev c22_14 (v0 : CV) (x17 : CV) (x20 : CV) (x23 : CV) (x22 : CV) (h7 : CH) (x1 : CV) (h5 : CH) (v1 : CV) (x6 : CV) (x18 : CV) (x3 : CV) (x2 : CV) (x4 : CV) (x5 : CV) (x7 : CV) (x8 : CV) (x9 : CV) (x10 : CV) (x11 : CV) (x16 : CV) (x12 : CV) (x13 : CV) (x14 : CV) (x15 : CV) (x19 : CV) (x21 : CV) (k : CV → CH → Bool) : Bool :=
 xBuild (some (.inl [(0, 2), (2, 1), (3, 1), (4, 9), (13, 1), (14, 1), (15, 1), (16, 1), (17, 1), (18, 1)])) (some (.agg [.nils, .nilm, .nilp, .nilp, (.int .i64 (.ofNat 0)), (.int .i64 (.ofNat 0)), (.int .i64 (.ofNat 0)), (.int .i64 (.ofNat 0)), (.int .i64 (.ofNat 0)), (.int .i64 (.ofNat 0)), (.int .i64 (.ofNat 0)), (.int .i64 (.ofNat 0)), (.int .i64 (.ofNat 0)), (.int .i64 (.ofNat 0)), (.bool false), (.int .i64 (.ofNat 0)), .nilm, (.int .i64 (.ofNat 0)), (.int .i64 (.ofNat 0))])) [(1, v0), (2, x17), (3, x20), (4, x23), (0, x22)] fun x24 =>
 xBox 60 x24 h7 fun x25 h8 =>
 c22_13 x1 h5 v0 x17 v1 x25 x6 x18 x3 x2 x4 x5 x7 x8 x9 x10 x11 x16 x12 x13 x14 x15 x19 x20 x23 x21 x22 x24 h8 k
noncomputable abbrev c22_15 (x18 : CV) (k : CV → CH → Bool) (h5 : CH) (x1 : CV) (v0 : CV) (x17 : CV) (v1 : CV) (x6 : CV) (x3 : CV) (x2 : CV) (x4 : CV) (x5 : CV) (x7 : CV) (x8 : CV) (x9 : CV) (x10 : CV) (x11 : CV) (x16 : CV) (x12 : CV) (x13 : CV) (x14 : CV) (x15 : CV) : Bool :=
 xBin (some (.int .i64)) .neq x18 (.int .i64 (.ofNat 0)) fun x19 =>
 xIte x19
  (k (.tup [.nilp, x18]) h5)
  (xLoad (some (some 9)) x1 h5 fun x20 =>
  xNewMap h5 fun x21 h6 =>
  xBuild (some (.inl [(0, 1), (1, 1)])) (some (.agg [.nils, .nilm])) [(1, x21)] fun x22 =>
  bd52 v0 h6 fun x23 h7 =>
  c22_14 v0 x17 x20 x23 x22 h7 x1 h5 v1 x6 x18 x3 x2 x4 x5 x7 x8 x9 x10 x11 x16 x12 x13 x14 x15 x19 x21 k)
noncomputable abbrev c22_16 (x11 : CV) (k : CV → CH → Bool) (h4 : CH) (x1 : CV) (v0 : CV) (v1 : CV) (x6 : CV) (x3 : CV) (x2 : CV) (x4 : CV) (x5 : CV) (x7 : CV) (x8 : CV) (x9 : CV) (x10 : CV) : Bool :=
 xIte x11
  (k (.tup [.nilp, (.int .i64 (.ofNat 4))]) h4)
  (xAddr (some 0) x1 fun x12 =>
  xAddr (some 1) x12 fun x13 =>
  xLoad (some none) x13 h4 fun x14 =>
  xBin (some (.int .i64)) .add x14 (.int .i64 (.ofNat 32)) fun x15 =>
  bd51 v0 x15 h4 fun x16 h5 =>
  xExtract x16 0 fun x17 =>
  xExtract x16 1 fun x18 =>
  c22_15 x18 k h5 x1 v0 x17 v1 x6 x3 x2 x4 x5 x7 x8 x9 x10 x11 x16 x12 x13 x14 x15)
noncomputable abbrev c22_17 (x6 : CV) (x4 : CV) (h3 : CH) (x5 : CV) (k : CV → CH → Bool) (x1 : CV) (v0 : CV) (v1 : CV) (x3 : CV) (x2 : CV) : Bool :=
 xStore (some 1) x6 x4 h3 fun h4 =>
 xBin (some (.int .i64)) .neq x5 (.int .i64 (.ofNat 0)) fun x7 =>
 xIte x7
  (k (.tup [.nilp, x5]) h4)
  (xAddr (some 0) x6 fun x8 =>
  xLoad (some none) x8 h4 fun x9 =>
  xLen (some (.inl false)) x9 fun x10 =>
  xBin (some (.int .i64)) .gtr x10 (.int .i64 (.ofNat 0)) fun x11 =>
  c22_16 x11 k h4 x1 v0 v1 x6 x3 x2 x4 x5 x7 x8 x9 x10)
noncomputable def bd22 (v0 v1 : CV) (h : CH) (k : CV → CH → Bool) : Bool :=
 xBox 58 v1 h fun x1 h1 =>
 xLoad (some (some 9)) x1 h1 fun x2 =>
 bd50 v0 x2 h1 fun x3 h2 =>
 xExtract x3 0 fun x4 =>
 xExtract x3 1 fun x5 =>
 xBoxP 138 [.nils] h2 fun x6 h3 =>
 c22_17 x6 x4 h3 x5 k x1 v0 v1 x3 x2
noncomputable abbrev ex22 : Ex := fun args h k => a2 args fun v0 v1 => bd22 v0 v1 h k
set_option maxRecDepth 100000 in
theorem sim22 : SimF Tryz.prog 22 ex22 := fun args h k hk => by
  obtain ⟨v0, v1, rfl, hk⟩ := a2_ok hk
  exact sim_of (qf := (fun f => [46, 47, 62, 75, 82, 97, 104, 114, 121, 127, 128, 141, 151, 156, 157, 183].contains f)) (Z := zs) (C := [(50, ex50), (51, ex51), (52, ex52)]) (T := [(9, .tree [0, 1, 2, 3, 5, 6, 4, 7, 8, 9, 10] (.fork [0, 1, 3] (.cons 2 (.fork [] (.cons 5 (.line [6, 4, 7, 8, 9, 10]) (.cons 4 (.line [5, 6, 7, 8, 9, 10]) .nil))) (.cons 5 (.fork [6] (.cons 2 (.line [4, 7, 8, 9, 10]) (.cons 4 (.line [2, 7, 8, 9, 10]) .nil))) (.cons 4 (.line [2, 5, 6, 7, 8, 9, 10]) .nil)))))]) ⟨zerosB_ok zsOk, (exCons (by kernel_rfl) sim50 (exCons (by kernel_rfl) sim51 (exCons (by kernel_rfl) sim52 exNil)))⟩ .nil Tryz.func22 _ h k (Eq.mp (by kernel_rfl : (bd22 v0 v1 h k = true) = (xFn Tryz.prog (fun f => [46, 47, 62, 75, 82, 97, 104, 114, 121, 127, 128, 141, 151, 156, 157, 183].contains f) zs [(50, ex50), (51, ex51), (52, ex52)] [(9, .tree [0, 1, 2, 3, 5, 6, 4, 7, 8, 9, 10] (.fork [0, 1, 3] (.cons 2 (.fork [] (.cons 5 (.line [6, 4, 7, 8, 9, 10]) (.cons 4 (.line [5, 6, 7, 8, 9, 10]) .nil))) (.cons 5 (.fork [6] (.cons 2 (.line [4, 7, 8, 9, 10]) (.cons 4 (.line [2, 7, 8, 9, 10]) .nil))) (.cons 4 (.line [2, 5, 6, 7, 8, 9, 10]) .nil)))))] Tryz.f22 .nil [v0, v1] h k = true)) hk)

/- undercroft/undercroftref01.Blank -/
noncomputable abbrev c101_1 (s1 : TupC 1) (x1 : CV) (h2 : CH) (k : CV → CH → Bool) (K2 : TupC 1 → CH → Bool) : Bool :=
 xBin (some (.int .i64)) .lss s1.1 (.int .i64 (.ofNat 1024)) fun x4 =>
 xIte x4
  (xIdx (some (some 1024, 1)) x1 s1.1 fun x5 =>
  xLoad (some none) x5 h2 fun x6 =>
  xBin (some (.int .u8)) .neq x6 (.int .u8 (.ofNat 0)) fun x7 =>
  xIte x7
   (k (.bool false) h2)
   (xBin (some (.int .i64)) .add s1.1 (.int .i64 (.ofNat 1)) fun x8 =>
   K2 (x8, ()) h2))
  (k (.bool true) h2)
noncomputable def bd101 (v0 : CV) (h : CH) (k : CV → CH → Bool) : Bool :=
 xBox 124 v0 h fun x1 h1 =>
 xLoop (n := 1) (fun K2 s1 h2 =>
  c101_1 s1 x1 h2 k K2) 1000000 ((.int .i64 (.ofNat 0)), ()) h1
noncomputable abbrev ex101 : Ex := fun args h k => a1 args fun v0 => bd101 v0 h k
set_option maxRecDepth 100000 in
theorem sim101 : SimF Tryz.prog 101 ex101 := fun args h k hk => by
  obtain ⟨v0, rfl, hk⟩ := a1_ok hk
  exact sim_of (qf := (fun f => [46, 47, 62, 75, 82, 97, 104, 114, 121, 127, 128, 141, 151, 156, 157, 183].contains f)) (Z := zs) (C := []) (T := []) ⟨zerosB_ok zsOk, exNil⟩ (.seq .nil (.seq (.seq .nil (.loop [3] [4, 5, 8, 9, 10, 11, 2, 6, 7] .nil)) .nil)) Tryz.func101 _ h k (Eq.mp (by kernel_rfl : (bd101 v0 h k = true) = (xFn Tryz.prog (fun f => [46, 47, 62, 75, 82, 97, 104, 114, 121, 127, 128, 141, 151, 156, 157, 183].contains f) zs [] [] Tryz.f101 (.seq .nil (.seq (.seq .nil (.loop [3] [4, 5, 8, 9, 10, 11, 2, 6, 7] .nil)) .nil)) [v0] h k = true)) hk)

/- undercroft/undercroftref04.May -/
noncomputable abbrev c53_1 (x26 : CV) (h3 : CH) (x13 : CV) (K15 : TupC 1 → CH → Bool) (x1 : CV) (s2 : TupC 1) : Bool :=
 xLoad (some none) x26 h3 fun x27 =>
 xBin (some (.int .i64)) .geq x27 x13 fun x28 =>
 xIte x28
  (K15 ((.bool true), ()) h3)
  (xAddr (some 1) x1 fun x29 =>
  xLoad (some none) x29 h3 fun x30 =>
  xIdx (some (none, 1025)) x30 s2.1 fun x31 =>
  xAddr (some 1) x31 fun x32 =>
  xLoad (some (some 1024)) x32 h3 fun x33 =>
  bd101 x33 h3 fun x34 h5 =>
  K15 (x34, ()) h5)
noncomputable abbrev c53_2 (x21 : CV) (x1 : CV) (h3 : CH) (s2 : TupC 1) (x13 : CV) (K15 : TupC 1 → CH → Bool) : Bool :=
 xIte x21
  (xAddr (some 1) x1 fun x22 =>
  xLoad (some none) x22 h3 fun x23 =>
  xBin (some (.int .i64)) .sub s2.1 (.int .i64 (.ofNat 1)) fun x24 =>
  xIdx (some (none, 1025)) x23 x24 fun x25 =>
  xAddr (some 0) x25 fun x26 =>
  c53_1 x26 h3 x13 K15 x1 s2)
  (xAddr (some 1) x1 fun x35 =>
  xLoad (some none) x35 h3 fun x36 =>
  xIdx (some (none, 1025)) x36 s2.1 fun x37 =>
  xAddr (some 1) x37 fun x38 =>
  xLoad (some (some 1024)) x38 h3 fun x39 =>
  bd101 x39 h3 fun x40 h6 =>
  K15 (x40, ()) h6)
noncomputable abbrev c53_3 (x13 : CV) (K15 : TupC 1 → CH → Bool) (h3 : CH) (x1 : CV) (s2 : TupC 1) : Bool :=
 xBin (some (.int .i64)) .lss x13 (.int .i64 (.ofNat 0)) fun x17 =>
 xIte x17
  (K15 ((.bool true), ()) h3)
  (xAddr (some 0) x1 fun x18 =>
  xLoad (some none) x18 h3 fun x19 =>
  xBin (some (.int .i64)) .geq x13 x19 fun x20 =>
  xIte x20
   (K15 ((.bool true), ()) h3)
   (xBin (some (.int .i64)) .gtr s2.1 (.int .i64 (.ofNat 0)) fun x21 =>
   c53_2 x21 x1 h3 s2 x13 K15))
noncomputable abbrev c53_4 (x1 : CV) (h3 : CH) (s2 : TupC 1) (k : CV → CH → Bool) (K3 : TupC 1 → CH → Bool) : Bool :=
 xAddr (some 1) x1 fun x9 =>
 xLoad (some none) x9 h3 fun x10 =>
 xIdx (some (none, 1025)) x10 s2.1 fun x11 =>
 xAddr (some 0) x11 fun x12 =>
 xLoad (some none) x12 h3 fun x13 =>
 xJoin (n := 1) (fun s13 h4 =>
  xIte s13.1
   (k (.bool false) h4)
   (xBin (some (.int .i64)) .add s2.1 (.int .i64 (.ofNat 1)) fun x15 =>
   K3 (x15, ()) h4))
 (fun K15 => c53_3 x13 K15 h3 x1 s2)
noncomputable abbrev c53_5 (k : CV → CH → Bool) (x1 : CV) (h1 : CH) : Bool :=
 xJoin (n := 1) (fun s1 h2 =>
  xIte s1.1
   (k (.bool false) h2)
   (xLoop (n := 1) (fun K3 s2 h3 =>
    xAddr (some 1) x1 fun x5 =>
    xLoad (some none) x5 h3 fun x6 =>
    xLen (some (.inl false)) x6 fun x7 =>
    xBin (some (.int .i64)) .lss s2.1 x7 fun x8 =>
    xIte x8
     (c53_4 x1 h3 s2 k K3)
     (k (.bool true) h3)) 1000000 ((.int .i64 (.ofNat 0)), ()) h2))
 (fun K40 => xAddr (some 0) x1 fun x42 =>
 xLoad (some none) x42 h1 fun x43 =>
 xBin (some (.int .i64)) .lss x43 (.int .i64 (.ofNat 1)) fun x44 =>
 xIte x44
  (K40 ((.bool true), ()) h1)
  (xAddr (some 0) x1 fun x45 =>
  xLoad (some none) x45 h1 fun x46 =>
  xBin (some (.int .i64)) .gtr x46 (.int .i64 (.ofNat 1048576)) fun x47 =>
  K40 (x47, ()) h1))
noncomputable def bd53 (v0 : CV) (h : CH) (k : CV → CH → Bool) : Bool :=
 xBox 66 v0 h fun x1 h1 =>
 c53_5 k x1 h1
noncomputable abbrev ex53 : Ex := fun args h k => a1 args fun v0 => bd53 v0 h k
set_option maxRecDepth 100000 in
theorem sim53 : SimF Tryz.prog 53 ex53 := fun args h k hk => by
  obtain ⟨v0, rfl, hk⟩ := a1_ok hk
  exact sim_of (qf := (fun f => [46, 47, 62, 75, 82, 97, 104, 114, 121, 127, 128, 141, 151, 156, 157, 183].contains f)) (Z := zs) (C := [(101, ex101)]) (T := []) ⟨zerosB_ok zsOk, (exCons (by kernel_rfl) sim101 exNil)⟩ (.seq .nil (.seq (.join [12] [5, 6, 7, 8, 9, 10, 11] .nil .nil) (.seq (.seq .nil (.loop [3] [13, 14, 15, 16, 17, 20, 21, 22, 23, 24, 25, 4, 26, 27, 28, 29, 30, 31, 32, 33, 34, 35, 36, 37, 38, 39, 40, 41, 42, 43, 44, 45, 46, 47, 48, 49, 50, 51, 52, 53, 54, 55, 56, 57, 2, 18, 19] (.seq .nil (.seq (.seq .nil (.join [57] [26, 27, 28, 29, 30, 31, 32, 33, 34, 35, 36, 37, 38, 39, 40, 41, 42, 43, 44, 45, 46, 47, 48, 49, 50, 51, 52, 53, 54, 55, 56] .nil .nil)) .nil)))) .nil))) Tryz.func53 _ h k (Eq.mp (by kernel_rfl : (bd53 v0 h k = true) = (xFn Tryz.prog (fun f => [46, 47, 62, 75, 82, 97, 104, 114, 121, 127, 128, 141, 151, 156, 157, 183].contains f) zs [(101, ex101)] [] Tryz.f53 (.seq .nil (.seq (.join [12] [5, 6, 7, 8, 9, 10, 11] .nil .nil) (.seq (.seq .nil (.loop [3] [13, 14, 15, 16, 17, 20, 21, 22, 23, 24, 25, 4, 26, 27, 28, 29, 30, 31, 32, 33, 34, 35, 36, 37, 38, 39, 40, 41, 42, 43, 44, 45, 46, 47, 48, 49, 50, 51, 52, 53, 54, 55, 56, 57, 2, 18, 19] (.seq .nil (.seq (.seq .nil (.join [57] [26, 27, 28, 29, 30, 31, 32, 33, 34, 35, 36, 37, 38, 39, 40, 41, 42, 43, 44, 45, 46, 47, 48, 49, 50, 51, 52, 53, 54, 55, 56] .nil .nil)) .nil)))) .nil))) [v0] h k = true)) hk)

/- undercroft/undercroftref04.CopyHeld -/
noncomputable abbrev c54_1 (x4 : CV) (v0 : CV) (s0 : TupC 2) (h1 : CH) (K1 : TupC 2 → CH → Bool) (k : CV → CH → Bool) : Bool :=
 xIte x4
  (xIdx (some (none, 1025)) v0 s0.2.1 fun x5 =>
  xLoad (some (some 1025)) x5 h1 fun x6 =>
  xNewS (some (132, 1025, 1032, false)) (some [(.int .i64 (.ofNat 0)), (.bytes 1024 0)]) 1 [(0, x6)] h1 fun x7 h2 =>
  xApp (some (132, 1025, 1032, false)) s0.1 x7 h2 fun x8 h3 =>
  xBin (some (.int .i64)) .add s0.2.1 (.int .i64 (.ofNat 1)) fun x9 =>
  K1 (x8, x9, ()) h3)
  (k s0.1 h1)
noncomputable def bd54 (v0 : CV) (h : CH) (k : CV → CH → Bool) : Bool :=
 xLoop (n := 2) (fun K1 s0 h1 =>
  xLen (some (.inl false)) v0 fun x3 =>
  xBin (some (.int .i64)) .lss s0.2.1 x3 fun x4 =>
  c54_1 x4 v0 s0 h1 K1 k) 1000000 (.nils, (.int .i64 (.ofNat 0)), ()) h
noncomputable abbrev ex54 : Ex := fun args h k => a1 args fun v0 => bd54 v0 h k
set_option maxRecDepth 100000 in
theorem sim54 : SimF Tryz.prog 54 ex54 := fun args h k hk => by
  obtain ⟨v0, rfl, hk⟩ := a1_ok hk
  exact sim_of (qf := (fun f => [46, 47, 62, 75, 82, 97, 104, 114, 121, 127, 128, 141, 151, 156, 157, 183].contains f)) (Z := zs) (C := []) (T := []) ⟨zerosB_ok zsOk, exNil⟩ (.seq .nil (.seq .nil (.seq (.seq .nil (.loop [3, 4] [5, 6, 7, 8, 11, 12, 13, 14, 15, 16, 17, 9, 10] .nil)) .nil))) Tryz.func54 _ h k (Eq.mp (by kernel_rfl : (bd54 v0 h k = true) = (xFn Tryz.prog (fun f => [46, 47, 62, 75, 82, 97, 104, 114, 121, 127, 128, 141, 151, 156, 157, 183].contains f) zs [] [] Tryz.f54 (.seq .nil (.seq .nil (.seq (.seq .nil (.loop [3, 4] [5, 6, 7, 8, 11, 12, 13, 14, 15, 16, 17, 9, 10] .nil)) .nil))) [v0] h k = true)) hk)

/- undercroft/undercroftref04.Load -/
noncomputable abbrev c23_1 (x5 : CV) (h3 : CH) (x8 : CV) (x9 : CV) (k : CV → CH → Bool) : Bool :=
 xLoad (some none) x5 h3 fun x10 => ifX (sameX x8 x10) (
  xBuild (some (.inl [(0, 1), (1, 1), (2, 1), (3, 1), (4, 1), (5, 1), (6, 1), (7, 1), (8, 1), (9, 1), (10, 1)])) (some (.agg [(.int .i64 (.ofNat 0)), .nils, .nils, (.bool false), (.int .i64 (.ofNat 0)), (.bool false), .nils, (.int .i64 (.ofNat 0)), (.int .i64 (.ofNat 0)), (.int .i64 (.ofNat 0)), (.int .i64 (.ofNat 0))])) [(0, x8), (1, x9)] fun x11 =>
  xBox 147 x11 h3 fun x12 h4 =>
  k (.tup [x12, (.int .i64 (.ofNat 0))]) h4) false
noncomputable def bd23 (v0 : CV) (h : CH) (k : CV → CH → Bool) : Bool :=
 xBox 66 v0 h fun x1 h1 =>
 xLoad (some (some 2)) x1 h1 fun x2 =>
 bd53 x2 h1 fun x3 h2 =>
 xUn .not x3 fun x4 =>
 xIte x4
  (k (.tup [.nilp, (.int .i64 (.ofNat 4))]) h2)
  (xAddr (some 0) x1 fun x5 =>
  xAddr (some 1) x1 fun x6 =>
  xLoad (some none) x6 h2 fun x7 =>
  xLoad (some none) x5 h2 fun x8 =>
  bd54 x7 h2 fun x9 h3 =>
  c23_1 x5 h3 x8 x9 k)
noncomputable abbrev ex23 : Ex := fun args h k => a1 args fun v0 => bd23 v0 h k
set_option maxRecDepth 100000 in
theorem sim23 : SimF Tryz.prog 23 ex23 := fun args h k hk => by
  obtain ⟨v0, rfl, hk⟩ := a1_ok hk
  exact sim_of (qf := (fun f => [46, 47, 62, 75, 82, 97, 104, 114, 121, 127, 128, 141, 151, 156, 157, 183].contains f)) (Z := zs) (C := [(53, ex53), (54, ex54)]) (T := [(3, .ld ⟨[0, 2, 3], 1, 4, [5, 6, 7, 8]⟩)]) ⟨zerosB_ok zsOk, (exCons (by kernel_rfl) sim53 (exCons (by kernel_rfl) sim54 exNil))⟩ .nil Tryz.func23 _ h k (Eq.mp (by kernel_rfl : (bd23 v0 h k = true) = (xFn Tryz.prog (fun f => [46, 47, 62, 75, 82, 97, 104, 114, 121, 127, 128, 141, 151, 156, 157, 183].contains f) zs [(53, ex53), (54, ex54)] [(3, .ld ⟨[0, 2, 3], 1, 4, [5, 6, 7, 8]⟩)] Tryz.f23 .nil [v0] h k = true)) hk)

/- (*undercroft/undercroftref04.Disk).Len -/
noncomputable def bd151 (v0 : CV) (h : CH) (k : CV → CH → Bool) : Bool :=
 xEq (some .ptr) .eql v0 .nilp h fun x1 =>
 xIte x1
  (k (.int .i64 (.ofNat 0)) h)
  (xNilCheck v0 fun x2 =>
  xAddr (some 0) x2 fun x3 =>
  xLoad (some none) x3 h fun x4 =>
  k x4 h)
noncomputable abbrev ex151 : Ex := fun args h k => a1 args fun v0 => bd151 v0 h k
set_option maxRecDepth 100000 in
theorem sim151 : SimF Tryz.prog 151 ex151 := fun args h k hk => by
  obtain ⟨v0, rfl, hk⟩ := a1_ok hk
  exact sim_of (qf := (fun f => [46, 47, 62, 75, 82, 97, 104, 114, 121, 127, 128, 141, 151, 156, 157, 183].contains f)) (Z := zs) (C := []) (T := []) ⟨zerosB_ok zsOk, exNil⟩ .nil Tryz.func151 _ h k (Eq.mp (by kernel_rfl : (bd151 v0 h k = true) = (xFn Tryz.prog (fun f => [46, 47, 62, 75, 82, 97, 104, 114, 121, 127, 128, 141, 151, 156, 157, 183].contains f) zs [] [] Tryz.f151 .nil [v0] h k = true)) hk)

/- undercroft/undercroftref08.may -/
noncomputable def bd102 (v0 v1 : CV) (h : CH) (k : CV → CH → Bool) : Bool :=
 xBox 58 v1 h fun x1 h1 =>
 xLoad (some (some 9)) x1 h1 fun x2 =>
 bd92 x2 h1 fun x3 h2 =>
 xIte x3
  (xAddr (some 0) x1 fun x4 =>
  xAddr (some 0) x4 fun x5 =>
  xLoad (some none) x5 h2 fun x6 =>
  xQuiet (some ex151) [v0] h2 fun x7 h3 =>
  xBin (some (.int .i64)) .leq x6 x7 fun x8 =>
  k x8 h3)
  (k (.bool false) h2)
noncomputable abbrev ex102 : Ex := fun args h k => a2 args fun v0 v1 => bd102 v0 v1 h k
set_option maxRecDepth 100000 in
theorem sim102 : SimF Tryz.prog 102 ex102 := fun args h k hk => by
  obtain ⟨v0, v1, rfl, hk⟩ := a2_ok hk
  exact sim_of (qf := (fun f => [46, 47, 62, 75, 82, 97, 104, 114, 121, 127, 128, 141, 151, 156, 157, 183].contains f)) (Z := zs) (C := [(92, ex92), (151, ex151)]) (T := []) ⟨zerosB_ok zsOk, (exCons (by kernel_rfl) sim92 (exCons (by kernel_rfl) sim151 exNil))⟩ .nil Tryz.func102 _ h k (Eq.mp (by kernel_rfl : (bd102 v0 v1 h k = true) = (xFn Tryz.prog (fun f => [46, 47, 62, 75, 82, 97, 104, 114, 121, 127, 128, 141, 151, 156, 157, 183].contains f) zs [(92, ex92), (151, ex151)] [] Tryz.f102 .nil [v0, v1] h k = true)) hk)

/- undercroft/undercroftref04.at -/
noncomputable abbrev c152_1 (x8 : CV) (v1 : CV) (v0 : CV) (s1 : TupC 1) (h2 : CH) (x1 : CV) (k : CV → CH → Bool) (K2 : TupC 1 → CH → Bool) : Bool :=
 xBin (some (.int .i64)) .eql x8 v1 fun x9 =>
 xIte x9
  (xIdx (some (none, 1025)) v0 s1.1 fun x10 =>
  xAddr (some 1) x10 fun x11 =>
  xLoad (some (some 1024)) x11 h2 fun x12 =>
  xStore (some 1024) x1 x12 h2 fun h3 =>
  xLoad (some (some 1024)) x1 h3 fun x13 =>
  k x13 h3)
  (xBin (some (.int .i64)) .add s1.1 (.int .i64 (.ofNat 1)) fun x14 =>
  K2 (x14, ()) h2)
noncomputable abbrev c152_2 (s1 : TupC 1) (x4 : CV) (v0 : CV) (h2 : CH) (v1 : CV) (x1 : CV) (k : CV → CH → Bool) (K2 : TupC 1 → CH → Bool) : Bool :=
 xBin (some (.int .i64)) .lss s1.1 x4 fun x5 =>
 xIte x5
  (xIdx (some (none, 1025)) v0 s1.1 fun x6 =>
  xAddr (some 0) x6 fun x7 =>
  xLoad (some none) x7 h2 fun x8 =>
  c152_1 x8 v1 v0 s1 h2 x1 k K2)
  (xBuild (some (.inr 1)) (some (.agg [(.bytes 1024 0)])) [] fun x15 =>
  xStore (some 1024) x1 x15 h2 fun h4 =>
  xLoad (some (some 1024)) x1 h4 fun x16 =>
  k x16 h4)
noncomputable def bd152 (v0 v1 : CV) (h : CH) (k : CV → CH → Bool) : Bool :=
 xBoxP 124 [(.bytes 1024 0)] h fun x1 h1 =>
 xLoop (n := 1) (fun K2 s1 h2 =>
  xLen (some (.inl false)) v0 fun x4 =>
  c152_2 s1 x4 v0 h2 v1 x1 k K2) 1000000 ((.int .i64 (.ofNat 0)), ()) h1
noncomputable abbrev ex152 : Ex := fun args h k => a2 args fun v0 v1 => bd152 v0 v1 h k
set_option maxRecDepth 100000 in
theorem sim152 : SimF Tryz.prog 152 ex152 := fun args h k hk => by
  obtain ⟨v0, v1, rfl, hk⟩ := a2_ok hk
  exact sim_of (qf := (fun f => [46, 47, 62, 75, 82, 97, 104, 114, 121, 127, 128, 141, 151, 156, 157, 183].contains f)) (Z := zs) (C := []) (T := []) ⟨zerosB_ok zsOk, exNil⟩ (.seq .nil (.seq (.seq .nil (.loop [5] [6, 7, 8, 9, 12, 13, 14, 15, 16, 17, 18, 19, 20, 21, 22, 23, 10, 11] .nil)) .nil)) Tryz.func152 _ h k (Eq.mp (by kernel_rfl : (bd152 v0 v1 h k = true) = (xFn Tryz.prog (fun f => [46, 47, 62, 75, 82, 97, 104, 114, 121, 127, 128, 141, 151, 156, 157, 183].contains f) zs [] [] Tryz.f152 (.seq .nil (.seq (.seq .nil (.loop [5] [6, 7, 8, 9, 12, 13, 14, 15, 16, 17, 18, 19, 20, 21, 22, 23, 10, 11] .nil)) .nil)) [v0, v1] h k = true)) hk)

/- (*undercroft/undercroftref04.Disk).Read -/
noncomputable abbrev c103_1 (x33 : CV) (v0 : CV) (h7 : CH) (s23 : TupC 1) (x1 : CV) (k : CV → CH → Bool) (K24 : TupC 1 → CH → Bool) : Bool :=
 xIte x33
  (xNilCheck v0 fun x34 =>
  xAddr (some 2) x34 fun x35 =>
  xLoad (some none) x35 h7 fun x36 =>
  xIdx (some (none, 1025)) x36 s23.1 fun x37 =>
  xAddr (some 1) x37 fun x38 =>
  xLoad (some (some 1024)) x38 h7 fun x39 =>
  xStore (some 1024) x1 x39 h7 fun h8 =>
  xLoad (some (some 1024)) x1 h8 fun x40 =>
  k (.tup [x40, (.int .i64 (.ofNat 0))]) h8)
  (xBin (some (.int .i64)) .sub s23.1 (.int .i64 (.ofNat 1)) fun x41 =>
  K24 (x41, ()) h7)
noncomputable abbrev c103_2 (x26 : CV) (v0 : CV) (h7 : CH) (s23 : TupC 1) (v1 : CV) (x1 : CV) (k : CV → CH → Bool) (K24 : TupC 1 → CH → Bool) : Bool :=
 xIte x26
  (xNilCheck v0 fun x27 =>
  xAddr (some 2) x27 fun x28 =>
  xLoad (some none) x28 h7 fun x29 =>
  xIdx (some (none, 1025)) x29 s23.1 fun x30 =>
  xAddr (some 0) x30 fun x31 =>
  xLoad (some none) x31 h7 fun x32 =>
  xBin (some (.int .i64)) .eql x32 v1 fun x33 =>
  c103_1 x33 v0 h7 s23 x1 k K24)
  (xNilCheck v0 fun x42 =>
  xAddr (some 1) x42 fun x43 =>
  xLoad (some none) x43 h7 fun x44 =>
  bd152 x44 v1 h7 fun x45 h9 =>
  xStore (some 1024) x1 x45 h9 fun h10 =>
  xLoad (some (some 1024)) x1 h10 fun x46 =>
  k (.tup [x46, (.int .i64 (.ofNat 0))]) h10)
noncomputable abbrev c103_3 (v0 : CV) (h6 : CH) (v1 : CV) (x1 : CV) (k : CV → CH → Bool) : Bool :=
 xNilCheck v0 fun x19 =>
 xAddr (some 2) x19 fun x20 =>
 xLoad (some none) x20 h6 fun x21 =>
 xLen (some (.inl false)) x21 fun x22 =>
 xBin (some (.int .i64)) .sub x22 (.int .i64 (.ofNat 1)) fun x23 =>
 xLoop (n := 1) (fun K24 s23 h7 =>
  xBin (some (.int .i64)) .geq s23.1 (.int .i64 (.ofNat 0)) fun x26 =>
  c103_2 x26 v0 h7 s23 v1 x1 k K24) 1000000 (x23, ()) h6
noncomputable abbrev c103_4 (s9 : TupC 1) (x1 : CV) (h4 : CH) (k : CV → CH → Bool) (v0 : CV) (v1 : CV) : Bool :=
 xIte s9.1
  (xBuild (some (.inr 1)) (some (.agg [(.bytes 1024 0)])) [] fun x11 =>
  xStore (some 1024) x1 x11 h4 fun h5 =>
  xLoad (some (some 1024)) x1 h5 fun x12 =>
  k (.tup [x12, (.int .i64 (.ofNat 2))]) h5)
  (xNilCheck v0 fun x13 =>
  xAddr (some 8) x13 fun x14 =>
  xLoad (some none) x14 h4 fun x15 =>
  xBin (some (.int .i64)) .add x15 (.int .i64 (.ofNat 1)) fun x16 =>
  xNilCheck v0 fun x17 =>
  xAddr (some 8) x17 fun x18 =>
  xStore (some 1) x18 x16 h4 fun h6 =>
  c103_3 v0 h6 v1 x1 k)
noncomputable abbrev c103_5 (x7 : CV) (x1 : CV) (h1 : CH) (k : CV → CH → Bool) (v0 : CV) (v1 : CV) : Bool :=
 xIte x7
  (xBuild (some (.inr 1)) (some (.agg [(.bytes 1024 0)])) [] fun x8 =>
  xStore (some 1024) x1 x8 h1 fun h3 =>
  xLoad (some (some 1024)) x1 h3 fun x9 =>
  k (.tup [x9, (.int .i64 (.ofNat 3))]) h3)
  (xJoin (n := 1) (fun s9 h4 =>
   c103_4 s9 x1 h4 k v0 v1)
  (fun K46 => xBin (some (.int .i64)) .lss v1 (.int .i64 (.ofNat 0)) fun x48 =>
  xIte x48
   (K46 ((.bool true), ()) h1)
   (xNilCheck v0 fun x49 =>
   xAddr (some 0) x49 fun x50 =>
   xLoad (some none) x50 h1 fun x51 =>
   xBin (some (.int .i64)) .geq v1 x51 fun x52 =>
   K46 (x52, ()) h1)))
noncomputable abbrev c103_6 (v0 : CV) (h1 : CH) (x1 : CV) (k : CV → CH → Bool) (v1 : CV) : Bool :=
 xEq (some .ptr) .eql v0 .nilp h1 fun x2 =>
 xIte x2
  (xBuild (some (.inr 1)) (some (.agg [(.bytes 1024 0)])) [] fun x3 =>
  xStore (some 1024) x1 x3 h1 fun h2 =>
  xLoad (some (some 1024)) x1 h2 fun x4 =>
  k (.tup [x4, (.int .i64 (.ofNat 1))]) h2)
  (xNilCheck v0 fun x5 =>
  xAddr (some 5) x5 fun x6 =>
  xLoad (some none) x6 h1 fun x7 =>
  c103_5 x7 x1 h1 k v0 v1)
noncomputable def bd103 (v0 v1 : CV) (h : CH) (k : CV → CH → Bool) : Bool :=
 xBoxP 124 [(.bytes 1024 0)] h fun x1 h1 =>
 c103_6 v0 h1 x1 k v1
noncomputable abbrev ex103 : Ex := fun args h k => a2 args fun v0 v1 => bd103 v0 v1 h k
set_option maxRecDepth 100000 in
theorem sim103 : SimF Tryz.prog 103 ex103 := fun args h k hk => by
  obtain ⟨v0, v1, rfl, hk⟩ := a2_ok hk
  exact sim_of (qf := (fun f => [46, 47, 62, 75, 82, 97, 104, 114, 121, 127, 128, 141, 151, 156, 157, 183].contains f)) (Z := zs) (C := [(152, ex152)]) (T := []) ⟨zerosB_ok zsOk, (exCons (by kernel_rfl) sim152 exNil)⟩ (.seq .nil (.seq .nil (.seq .nil (.seq (.join [24] [15, 16, 17, 18, 19, 20, 21, 22, 23] .nil .nil) (.seq .nil (.seq (.seq .nil (.loop [6] [40, 41, 44, 45, 46, 47, 48, 49, 50, 51, 52, 53, 54, 55, 56, 57, 58, 59, 60, 61, 5, 42, 43] .nil)) .nil)))))) Tryz.func103 _ h k (Eq.mp (by kernel_rfl : (bd103 v0 v1 h k = true) = (xFn Tryz.prog (fun f => [46, 47, 62, 75, 82, 97, 104, 114, 121, 127, 128, 141, 151, 156, 157, 183].contains f) zs [(152, ex152)] [] Tryz.f103 (.seq .nil (.seq .nil (.seq .nil (.seq (.join [24] [15, 16, 17, 18, 19, 20, 21, 22, 23] .nil .nil) (.seq .nil (.seq (.seq .nil (.loop [6] [40, 41, 44, 45, 46, 47, 48, 49, 50, 51, 52, 53, 54, 55, 56, 57, 58, 59, 60, 61, 5, 42, 43] .nil)) .nil)))))) [v0, v1] h k = true)) hk)

/- undercroft/undercroftref08.header -/
noncomputable abbrev c55_1 (x26 : CV) (x2 : CV) (h12 : CH) (k : CV → CH → Bool) (x25 : CV) : Bool :=
 xIte x26
  (xBuild (some (.inl [(0, 1)])) (some (.agg [.nils])) [] fun x27 =>
  xStore (some 1) x2 x27 h12 fun h13 =>
  xLoad (some (some 1)) x2 h13 fun x28 =>
  k (.tup [x28, (.int .i64 (.ofNat 4))]) h13)
  (xLoad (some (some 1)) x25 h12 fun x29 =>
  xStore (some 1) x2 x29 h12 fun h14 =>
  xLoad (some (some 1)) x2 h14 fun x30 =>
  k (.tup [x30, (.int .i64 (.ofNat 0))]) h14)
noncomputable abbrev c55_2 (x17 : CV) (x2 : CV) (h8 : CH) (k : CV → CH → Bool) (x1 : CV) (x16 : CV) : Bool :=
 xIte x17
  (xBuild (some (.inl [(0, 1)])) (some (.agg [.nils])) [] fun x18 =>
  xStore (some 1) x2 x18 h8 fun h9 =>
  xLoad (some (some 1)) x2 h9 fun x19 =>
  k (.tup [x19, (.int .i64 (.ofNat 3))]) h9)
  (xLoad (some (some 9)) x1 h8 fun x20 =>
  xLoad (some (some 1024)) x16 h8 fun x21 =>
  bd104 x20 x21 h8 fun x22 h10 =>
  xExtract x22 0 fun x23 =>
  xExtract x22 1 fun x24 =>
  xBoxP 138 [.nils] h10 fun x25 h11 =>
  xStore (some 1) x25 x23 h11 fun h12 =>
  xBin (some (.int .i64)) .neq x24 (.int .i64 (.ofNat 0)) fun x26 =>
  c55_1 x26 x2 h12 k x25)
noncomputable abbrev c55_3 (x8 : CV) (x2 : CV) (h4 : CH) (k : CV → CH → Bool) (x1 : CV) (v0 : CV) : Bool :=
 xIte x8
  (xBuild (some (.inl [(0, 1)])) (some (.agg [.nils])) [] fun x9 =>
  xStore (some 1) x2 x9 h4 fun h5 =>
  xLoad (some (some 1)) x2 h5 fun x10 =>
  k (.tup [x10, (.int .i64 (.ofNat 2))]) h5)
  (xAddr (some 3) x1 fun x11 =>
  xLoad (some none) x11 h4 fun x12 =>
  bd103 v0 x12 h4 fun x13 h6 =>
  xExtract x13 0 fun x14 =>
  xExtract x13 1 fun x15 =>
  xBoxP 124 [(.bytes 1024 0)] h6 fun x16 h7 =>
  xStore (some 1024) x16 x14 h7 fun h8 =>
  xBin (some (.int .i64)) .neq x15 (.int .i64 (.ofNat 0)) fun x17 =>
  c55_2 x17 x2 h8 k x1 x16)
noncomputable abbrev c55_4 (v0 : CV) (h2 : CH) (x2 : CV) (k : CV → CH → Bool) (x1 : CV) : Bool :=
 xEq (some .ptr) .eql v0 .nilp h2 fun x3 =>
 xIte x3
  (xBuild (some (.inl [(0, 1)])) (some (.agg [.nils])) [] fun x4 =>
  xStore (some 1) x2 x4 h2 fun h3 =>
  xLoad (some (some 1)) x2 h3 fun x5 =>
  k (.tup [x5, (.int .i64 (.ofNat 1))]) h3)
  (xLoad (some (some 9)) x1 h2 fun x6 =>
  bd102 v0 x6 h2 fun x7 h4 =>
  xUn .not x7 fun x8 =>
  c55_3 x8 x2 h4 k x1 v0)
noncomputable def bd55 (v0 v1 : CV) (h : CH) (k : CV → CH → Bool) : Bool :=
 xBox 58 v1 h fun x1 h1 =>
 xBoxP 138 [.nils] h1 fun x2 h2 =>
 c55_4 v0 h2 x2 k x1
noncomputable abbrev ex55 : Ex := fun args h k => a2 args fun v0 v1 => bd55 v0 v1 h k
set_option maxRecDepth 100000 in
theorem sim55 : SimF Tryz.prog 55 ex55 := fun args h k hk => by
  obtain ⟨v0, v1, rfl, hk⟩ := a2_ok hk
  exact sim_of (qf := (fun f => [46, 47, 62, 75, 82, 97, 104, 114, 121, 127, 128, 141, 151, 156, 157, 183].contains f)) (Z := zs) (C := [(102, ex102), (103, ex103), (104, ex104)]) (T := []) ⟨zerosB_ok zsOk, (exCons (by kernel_rfl) sim102 (exCons (by kernel_rfl) sim103 (exCons (by kernel_rfl) sim104 exNil)))⟩ .nil Tryz.func55 _ h k (Eq.mp (by kernel_rfl : (bd55 v0 v1 h k = true) = (xFn Tryz.prog (fun f => [46, 47, 62, 75, 82, 97, 104, 114, 121, 127, 128, 141, 151, 156, 157, 183].contains f) zs [(102, ex102), (103, ex103), (104, ex104)] [] Tryz.f55 .nil [v0, v1] h k = true)) hk)

/- (*undercroft/undercroftref04.Disk).Claim -/
noncomputable abbrev c56_1 (v0 : CV) (x5 : CV) (h1 : CH) (k : CV → CH → Bool) : Bool :=
 xNilCheck v0 fun x6 =>
 xAddr (some 9) x6 fun x7 =>
 xStore (some 1) x7 x5 h1 fun h2 =>
 xNilCheck v0 fun x8 =>
 xAddr (some 9) x8 fun x9 =>
 xLoad (some none) x9 h2 fun x10 =>
 xNilCheck v0 fun x11 =>
 xAddr (some 10) x11 fun x12 =>
 xStore (some 1) x12 x10 h2 fun h3 =>
 xNilCheck v0 fun x13 =>
 xAddr (some 9) x13 fun x14 =>
 xLoad (some none) x14 h3 fun x15 =>
 k x15 h3
noncomputable def bd56 (v0 : CV) (h : CH) (k : CV → CH → Bool) : Bool :=
 xJoin (n := 1) (fun s0 h1 =>
  xIte s0.1
   (k (.int .i64 (.ofNat 0)) h1)
   (xNilCheck v0 fun x2 =>
   xAddr (some 9) x2 fun x3 =>
   xLoad (some none) x3 h1 fun x4 =>
   xBin (some (.int .i64)) .add x4 (.int .i64 (.ofNat 1)) fun x5 =>
   c56_1 v0 x5 h1 k))
 (fun K15 => xEq (some .ptr) .eql v0 .nilp h fun x17 =>
 xIte x17
  (K15 ((.bool true), ()) h)
  (xNilCheck v0 fun x18 =>
  xAddr (some 5) x18 fun x19 =>
  xLoad (some none) x19 h fun x20 =>
  K15 (x20, ()) h))
noncomputable abbrev ex56 : Ex := fun args h k => a1 args fun v0 => bd56 v0 h k
set_option maxRecDepth 100000 in
theorem sim56 : SimF Tryz.prog 56 ex56 := fun args h k hk => by
  obtain ⟨v0, rfl, hk⟩ := a1_ok hk
  exact sim_of (qf := (fun f => [46, 47, 62, 75, 82, 97, 104, 114, 121, 127, 128, 141, 151, 156, 157, 183].contains f)) (Z := zs) (C := []) (T := []) ⟨zerosB_ok zsOk, exNil⟩ (.seq .nil (.seq (.join [10] [3, 4, 5, 6, 7, 8, 9] .nil .nil) .nil)) Tryz.func56 _ h k (Eq.mp (by kernel_rfl : (bd56 v0 h k = true) = (xFn Tryz.prog (fun f => [46, 47, 62, 75, 82, 97, 104, 114, 121, 127, 128, 141, 151, 156, 157, 183].contains f) zs [] [] Tryz.f56 (.seq .nil (.seq (.join [10] [3, 4, 5, 6, 7, 8, 9] .nil .nil) .nil)) [v0] h k = true)) hk)

/- undercroft/undercroftref08.New -/
noncomputable abbrev c24_1 (x1 : CV) (h5 : CH) (x12 : CV) (v0 : CV) (x13 : CV) (k : CV → CH → Bool) : Bool :=
 xLoad (some (some 9)) x1 h5 fun x14 => ifX (sameX x12 x14) (
  xBuild (some (.inl [(0, 1), (1, 9), (10, 1), (11, 1), (12, 1), (13, 1), (14, 1), (15, 1), (16, 1), (17, 1)])) (some (.agg [.nilp, (.int .i64 (.ofNat 0)), (.int .i64 (.ofNat 0)), (.int .i64 (.ofNat 0)), (.int .i64 (.ofNat 0)), (.int .i64 (.ofNat 0)), (.int .i64 (.ofNat 0)), (.int .i64 (.ofNat 0)), (.int .i64 (.ofNat 0)), (.int .i64 (.ofNat 0)), (.int .i64 (.ofNat 0)), (.bool false), .nils, (.bool false), (.int .i64 (.ofNat 0)), .nils, (.int .i64 (.ofNat 0)), (.int .i64 (.ofNat 0))])) [(0, v0), (1, x12), (2, x13), (3, (.bool true))] fun x15 =>
  xBox 151 x15 h5 fun x16 h6 =>
  k (.tup [x16, (.int .i64 (.ofNat 0))]) h6) false
noncomputable abbrev c24_2 (x7 : CV) (k : CV → CH → Bool) (x5 : CV) (h4 : CH) (x6 : CV) (x1 : CV) (v0 : CV) : Bool :=
 xIte x7
  (k (.tup [.nilp, x5]) h4)
  (xAddr (some 0) x6 fun x8 =>
  xLoad (some none) x8 h4 fun x9 =>
  xLen (some (.inl false)) x9 fun x10 =>
  xBin (some (.int .i64)) .gtr x10 (.int .i64 (.ofNat 0)) fun x11 =>
  xIte x11
   (k (.tup [.nilp, (.int .i64 (.ofNat 4))]) h4)
   (xLoad (some (some 9)) x1 h4 fun x12 =>
   bd56 v0 h4 fun x13 h5 =>
   c24_1 x1 h5 x12 v0 x13 k))
noncomputable def bd24 (v0 v1 : CV) (h : CH) (k : CV → CH → Bool) : Bool :=
 xBox 58 v1 h fun x1 h1 =>
 xLoad (some (some 9)) x1 h1 fun x2 =>
 bd55 v0 x2 h1 fun x3 h2 =>
 xExtract x3 0 fun x4 =>
 xExtract x3 1 fun x5 =>
 xBoxP 138 [.nils] h2 fun x6 h3 =>
 xStore (some 1) x6 x4 h3 fun h4 =>
 xBin (some (.int .i64)) .neq x5 (.int .i64 (.ofNat 0)) fun x7 =>
 c24_2 x7 k x5 h4 x6 x1 v0
noncomputable abbrev ex24 : Ex := fun args h k => a2 args fun v0 v1 => bd24 v0 v1 h k
set_option maxRecDepth 100000 in
theorem sim24 : SimF Tryz.prog 24 ex24 := fun args h k hk => by
  obtain ⟨v0, v1, rfl, hk⟩ := a2_ok hk
  exact sim_of (qf := (fun f => [46, 47, 62, 75, 82, 97, 104, 114, 121, 127, 128, 141, 151, 156, 157, 183].contains f)) (Z := zs) (C := [(55, ex55), (56, ex56)]) (T := [(6, .ld ⟨[0, 2], 1, 3, [4, 5, 6, 7]⟩)]) ⟨zerosB_ok zsOk, (exCons (by kernel_rfl) sim55 (exCons (by kernel_rfl) sim56 exNil))⟩ .nil Tryz.func24 _ h k (Eq.mp (by kernel_rfl : (bd24 v0 v1 h k = true) = (xFn Tryz.prog (fun f => [46, 47, 62, 75, 82, 97, 104, 114, 121, 127, 128, 141, 151, 156, 157, 183].contains f) zs [(55, ex55), (56, ex56)] [(6, .ld ⟨[0, 2], 1, 3, [4, 5, 6, 7]⟩)] Tryz.f24 .nil [v0, v1] h k = true)) hk)

/- undercroft/undercroftkit.Begin -/
noncomputable abbrev c5_1 (x21 : CV) (h13 : CH) (x34 : CV) (x24 : CV) (x29 : CV) (k : CV → CH → Bool) : Bool :=
 xLoad (some (some 9)) x21 h13 fun x36 =>
 bd24 x34 x36 h13 fun x37 h14 =>
 xExtract x37 0 fun x38 =>
 xExtract x37 1 fun x39 =>
 xBuild (some (.inl [(0, 1), (1, 1), (2, 1), (3, 1)])) (some (.agg [.nilp, .nilp, .nilp, .nilp])) [(0, x24), (1, x29), (2, x34), (3, x38)] fun x40 =>
 xBox 40 x40 h14 fun x41 h15 =>
 xEq (some .ptr) .neq x38 .nilp h15 fun x42 =>
 k (.tup [x41, (.bool true), x42]) h15
noncomputable abbrev c5_2 (k : CV → CH → Bool) (x15 : CV) (x21 : CV) (x24 : CV) (x29 : CV) (h11 : CH) (x30 : CV) : Bool :=
 xJoin (n := 1) (fun s30 h12 =>
  xIte s30.1
   (k (.tup [.nilp, (.bool true), (.bool false)]) h12)
   (xLoad (some (some 2)) x15 h12 fun x32 =>
   bd23 x32 h12 fun x33 h13 =>
   xExtract x33 0 fun x34 =>
   xExtract x33 1 fun x35 =>
   c5_1 x21 h13 x34 x24 x29 k))
 (fun K42 => xEq (some .ptr) .eql x29 .nilp h11 fun x44 =>
 xIte x44
  (K42 ((.bool true), ()) h11)
  (xBin (some (.int .i64)) .neq x30 (.int .i64 (.ofNat 0)) fun x45 =>
  K42 (x45, ()) h11))
noncomputable abbrev c5_3 (k : CV → CH → Bool) (x21 : CV) (x24 : CV) (x15 : CV) (h9 : CH) (x25 : CV) : Bool :=
 xJoin (n := 1) (fun s25 h10 =>
  xIte s25.1
   (k (.tup [.nilp, (.bool true), (.bool false)]) h10)
   (xLoad (some (some 9)) x21 h10 fun x27 =>
   bd22 x24 x27 h10 fun x28 h11 =>
   xExtract x28 0 fun x29 =>
   xExtract x28 1 fun x30 =>
   c5_2 k x15 x21 x24 x29 h11 x30))
 (fun K45 => xEq (some .ptr) .eql x24 .nilp h9 fun x47 =>
 xIte x47
  (K45 ((.bool true), ()) h9)
  (xBin (some (.int .i64)) .neq x25 (.int .i64 (.ofNat 0)) fun x48 =>
  K45 (x48, ()) h9))
noncomputable abbrev c5_4 (h6 : CH) (x19 : CV) (x15 : CV) (k : CV → CH → Bool) : Bool :=
 xBoxP 58 [(.int .i64 (.ofNat 0)), (.int .i64 (.ofNat 0)), (.int .i64 (.ofNat 0)), (.int .i64 (.ofNat 0)), (.int .i64 (.ofNat 0)), (.int .i64 (.ofNat 0)), (.int .i64 (.ofNat 0)), (.int .i64 (.ofNat 0)), (.int .i64 (.ofNat 0))] h6 fun x21 h7 =>
 xStore (some 9) x21 x19 h7 fun h8 =>
 xLoad (some (some 2)) x15 h8 fun x22 =>
 bd21 x22 h8 fun x23 h9 =>
 xExtract x23 0 fun x24 =>
 xExtract x23 1 fun x25 =>
 c5_3 k x21 x24 x15 h9 x25
noncomputable abbrev c5_5 (x1 : CV) (h2 : CH) (x9 : CV) (x11 : CV) (k : CV → CH → Bool) : Bool :=
 xAddr (some 6) x1 fun x12 =>
 xLoad (some none) x12 h2 fun x13 =>
 bd19 x9 x11 x13 h2 fun x14 h3 =>
 xBoxP 66 [(.int .i64 (.ofNat 0)), .nils] h3 fun x15 h4 =>
 xStore (some 2) x15 x14 h4 fun h5 =>
 xAddr (some 0) x1 fun x16 =>
 xLoad (some (some 3)) x16 h5 fun x17 =>
 bd20 x17 h5 fun x18 h6 =>
 xExtract x18 0 fun x19 =>
 xExtract x18 1 fun x20 =>
 c5_4 h6 x19 x15 k
noncomputable abbrev c5_6 (x2 : CV) (h1 : CH) (x1 : CV) (k : CV → CH → Bool) : Bool :=
 xLoad (some (some 3)) x2 h1 fun x3 =>
 xAddr (some 3) x1 fun x4 =>
 xLoad (some (some 3)) x4 h1 fun x5 =>
 ex18 [x3, x5] h1 fun x6 h2 =>
 xUn .not x6 fun x7 =>
 xIte x7
  (k (.tup [.nilp, (.bool false), (.bool false)]) h2)
  (xAddr (some 0) x1 fun x8 =>
  xLoad (some (some 3)) x8 h2 fun x9 =>
  xAddr (some 3) x1 fun x10 =>
  xLoad (some (some 3)) x10 h2 fun x11 =>
  c5_5 x1 h2 x9 x11 k)
noncomputable def bd5 (v0 : CV) (h : CH) (k : CV → CH → Bool) : Bool :=
 xBox 31 v0 h fun x1 h1 =>
 xAddr (some 0) x1 fun x2 =>
 c5_6 x2 h1 x1 k
noncomputable abbrev ex5 : Ex := fun args h k => a1 args fun v0 => bd5 v0 h k
set_option maxRecDepth 100000 in
theorem sim5 : SimF Tryz.prog 5 ex5 := fun args h k hk => by
  obtain ⟨v0, rfl, hk⟩ := a1_ok hk
  exact sim_of (qf := (fun f => [46, 47, 62, 75, 82, 97, 104, 114, 121, 127, 128, 141, 151, 156, 157, 183].contains f)) (Z := zs) (C := [(18, ex18), (19, ex19), (20, ex20), (21, ex21), (22, ex22), (23, ex23), (24, ex24)]) (T := []) ⟨zerosB_ok zsOk, (exCons (by kernel_rfl) sim18 (exCons (by kernel_rfl) sim19 (exCons (by kernel_rfl) sim20 (exCons (by kernel_rfl) sim21 (exCons (by kernel_rfl) sim22 (exCons (by kernel_rfl) sim23 (exCons (by kernel_rfl) sim24 exNil)))))))⟩ (.seq .nil (.seq .nil (.seq .nil (.seq .nil (.seq .nil (.seq .nil (.seq (.join [45] [40, 41, 42, 43, 44] .nil .nil) (.seq .nil (.seq (.join [57] [52, 53, 54, 55, 56] .nil .nil) .nil))))))))) Tryz.func5 _ h k (Eq.mp (by kernel_rfl : (bd5 v0 h k = true) = (xFn Tryz.prog (fun f => [46, 47, 62, 75, 82, 97, 104, 114, 121, 127, 128, 141, 151, 156, 157, 183].contains f) zs [(18, ex18), (19, ex19), (20, ex20), (21, ex21), (22, ex22), (23, ex23), (24, ex24)] [] Tryz.f5 (.seq .nil (.seq .nil (.seq .nil (.seq .nil (.seq .nil (.seq .nil (.seq (.join [45] [40, 41, 42, 43, 44] .nil .nil) (.seq .nil (.seq (.join [57] [52, 53, 54, 55, 56] .nil .nil) .nil))))))))) [v0] h k = true)) hk)

/- (*undercroft/disk.Disk).Claimed -/
noncomputable def bd58 (v0 v1 : CV) (h : CH) (k : CV → CH → Bool) : Bool :=
 bd100 v0 h fun x1 h1 =>
 xBin (some (.int .i64)) .eql x1 (.int .i64 (.ofNat 0)) fun x2 =>
 xIte x2
  (xBin (some (.int .i64)) .gtr v1 (.int .i64 (.ofNat 0)) fun x3 =>
  xIte x3
   (xNilCheck v0 fun x4 =>
   xAddr (some 10) x4 fun x5 =>
   xLoad (some none) x5 h1 fun x6 =>
   xBin (some (.int .i64)) .eql x6 v1 fun x7 =>
   k x7 h1)
   (k (.bool false) h1))
  (k (.bool false) h1)
noncomputable abbrev ex58 : Ex := fun args h k => a2 args fun v0 v1 => bd58 v0 v1 h k
set_option maxRecDepth 100000 in
theorem sim58 : SimF Tryz.prog 58 ex58 := fun args h k hk => by
  obtain ⟨v0, v1, rfl, hk⟩ := a2_ok hk
  exact sim_of (qf := (fun f => [46, 47, 62, 75, 82, 97, 104, 114, 121, 127, 128, 141, 151, 156, 157, 183].contains f)) (Z := zs) (C := [(100, ex100)]) (T := []) ⟨zerosB_ok zsOk, (exCons (by kernel_rfl) sim100 exNil)⟩ .nil Tryz.func58 _ h k (Eq.mp (by kernel_rfl : (bd58 v0 v1 h k = true) = (xFn Tryz.prog (fun f => [46, 47, 62, 75, 82, 97, 104, 114, 121, 127, 128, 141, 151, 156, 157, 183].contains f) zs [(100, ex100)] [] Tryz.f58 .nil [v0, v1] h k = true)) hk)

/- (*undercroft/wal.Log).Check -/
noncomputable def bd26 (v0 : CV) (h : CH) (k : CV → CH → Bool) : Bool :=
 xJoin (n := 1) (fun s0 h1 =>
  xIte s0.1
   (k (.int .i64 (.ofNat 1)) h1)
   (xNilCheck v0 fun x2 =>
   xAddr (some 2) x2 fun x3 =>
   xLoad (some none) x3 h1 fun x4 =>
   xNilCheck v0 fun x5 =>
   xAddr (some 13) x5 fun x6 =>
   xLoad (some none) x6 h1 fun x7 =>
   bd58 x4 x7 h1 fun x8 h2 =>
   xUn .not x8 fun x9 =>
   xIte x9
    (k (.int .i64 (.ofNat 3)) h2)
    (k (.int .i64 (.ofNat 0)) h2)))
 (fun K9 => xEq (some .ptr) .eql v0 .nilp h fun x11 =>
 xIte x11
  (K9 ((.bool true), ()) h)
  (xNilCheck v0 fun x12 =>
  xAddr (some 2) x12 fun x13 =>
  xLoad (some none) x13 h fun x14 =>
  xEq (some .ptr) .eql x14 .nilp h fun x15 =>
  K9 (x15, ()) h))
noncomputable abbrev ex26 : Ex := fun args h k => a1 args fun v0 => bd26 v0 h k
set_option maxRecDepth 100000 in
theorem sim26 : SimF Tryz.prog 26 ex26 := fun args h k hk => by
  obtain ⟨v0, rfl, hk⟩ := a1_ok hk
  exact sim_of (qf := (fun f => [46, 47, 62, 75, 82, 97, 104, 114, 121, 127, 128, 141, 151, 156, 157, 183].contains f)) (Z := zs) (C := [(58, ex58)]) (T := []) ⟨zerosB_ok zsOk, (exCons (by kernel_rfl) sim58 exNil)⟩ (.seq .nil (.seq (.join [11] [3, 4, 5, 6, 7, 8, 9, 10] .nil .nil) .nil)) Tryz.func26 _ h k (Eq.mp (by kernel_rfl : (bd26 v0 h k = true) = (xFn Tryz.prog (fun f => [46, 47, 62, 75, 82, 97, 104, 114, 121, 127, 128, 141, 151, 156, 157, 183].contains f) zs [(58, ex58)] [] Tryz.f26 (.seq .nil (.seq (.join [11] [3, 4, 5, 6, 7, 8, 9, 10] .nil .nil) .nil)) [v0] h k = true)) hk)

/- (*undercroft/disk.Disk).Stopped -/
noncomputable def bd155 (v0 : CV) (h : CH) (k : CV → CH → Bool) : Bool :=
 bd150 v0 h fun x1 h1 =>
 xIte x1
  (xNilCheck v0 fun x2 =>
  xAddr (some 6) x2 fun x3 =>
  xLoad (some none) x3 h1 fun x4 =>
  k x4 h1)
  (k (.bool false) h1)
noncomputable abbrev ex155 : Ex := fun args h k => a1 args fun v0 => bd155 v0 h k
set_option maxRecDepth 100000 in
theorem sim155 : SimF Tryz.prog 155 ex155 := fun args h k hk => by
  obtain ⟨v0, rfl, hk⟩ := a1_ok hk
  exact sim_of (qf := (fun f => [46, 47, 62, 75, 82, 97, 104, 114, 121, 127, 128, 141, 151, 156, 157, 183].contains f)) (Z := zs) (C := [(150, ex150)]) (T := []) ⟨zerosB_ok zsOk, (exCons (by kernel_rfl) sim150 exNil)⟩ .nil Tryz.func155 _ h k (Eq.mp (by kernel_rfl : (bd155 v0 h k = true) = (xFn Tryz.prog (fun f => [46, 47, 62, 75, 82, 97, 104, 114, 121, 127, 128, 141, 151, 156, 157, 183].contains f) zs [(150, ex150)] [] Tryz.f155 .nil [v0] h k = true)) hk)

/- (*undercroft/cache.Cache).check -/
noncomputable abbrev c105_1 (k : CV → CH → Bool) (v1 : CV) (h2 : CH) (v0 : CV) : Bool :=
 xJoin (n := 1) (fun s5 h3 =>
  xIte s5.1
   (k (.int .i64 (.ofNat 2)) h3)
   (k (.int .i64 (.ofNat 0)) h3))
 (fun K6 => xBin (some (.int .i64)) .lss v1 (.int .i64 (.ofNat 0)) fun x8 =>
 xIte x8
  (K6 ((.bool true), ()) h2)
  (xNilCheck v0 fun x9 =>
  xAddr (some 0) x9 fun x10 =>
  xLoad (some none) x10 h2 fun x11 =>
  bd97 x11 h2 fun x12 h4 =>
  xBin (some (.int .i64)) .geq v1 x12 fun x13 =>
  K6 (x13, ()) h4))
noncomputable def bd105 (v0 v1 : CV) (h : CH) (k : CV → CH → Bool) : Bool :=
 xJoin (n := 1) (fun s0 h1 =>
  xIte s0.1
   (k (.int .i64 (.ofNat 1)) h1)
   (xNilCheck v0 fun x2 =>
   xAddr (some 0) x2 fun x3 =>
   xLoad (some none) x3 h1 fun x4 =>
   bd155 x4 h1 fun x5 h2 =>
   xIte x5
    (k (.int .i64 (.ofNat 3)) h2)
    (c105_1 k v1 h2 v0)))
 (fun K13 => xEq (some .ptr) .eql v0 .nilp h fun x15 =>
 xIte x15
  (K13 ((.bool true), ()) h)
  (xNilCheck v0 fun x16 =>
  xAddr (some 0) x16 fun x17 =>
  xLoad (some none) x17 h fun x18 =>
  xEq (some .ptr) .eql x18 .nilp h fun x19 =>
  K13 (x19, ()) h))
noncomputable abbrev ex105 : Ex := fun args h k => a2 args fun v0 v1 => bd105 v0 v1 h k
set_option maxRecDepth 100000 in
theorem sim105 : SimF Tryz.prog 105 ex105 := fun args h k hk => by
  obtain ⟨v0, v1, rfl, hk⟩ := a2_ok hk
  exact sim_of (qf := (fun f => [46, 47, 62, 75, 82, 97, 104, 114, 121, 127, 128, 141, 151, 156, 157, 183].contains f)) (Z := zs) (C := [(155, ex155), (97, ex97)]) (T := []) ⟨zerosB_ok zsOk, (exCons (by kernel_rfl) sim155 (exCons (by kernel_rfl) sim97 exNil))⟩ (.seq .nil (.seq (.join [5] [6, 7, 8, 9, 10, 11, 12, 13, 14] .nil (.cond .nil (.seq .nil (.cond .nil (.join [21] [22, 23, 24, 25, 26, 27, 28, 29, 30, 31, 32] .nil .nil))))) .nil)) Tryz.func105 _ h k (Eq.mp (by kernel_rfl : (bd105 v0 v1 h k = true) = (xFn Tryz.prog (fun f => [46, 47, 62, 75, 82, 97, 104, 114, 121, 127, 128, 141, 151, 156, 157, 183].contains f) zs [(155, ex155), (97, ex97)] [] Tryz.f105 (.seq .nil (.seq (.join [5] [6, 7, 8, 9, 10, 11, 12, 13, 14] .nil (.cond .nil (.seq .nil (.cond .nil (.join [21] [22, 23, 24, 25, 26, 27, 28, 29, 30, 31, 32] .nil .nil))))) .nil)) [v0, v1] h k = true)) hk)

/- (*undercroft/cache.link).leave -/
noncomputable abbrev c106_1 (x7 : CV) (x6 : CV) (h : CH) (v0 : CV) (k : CV → CH → Bool) : Bool :=
 xAddr (some 1027) x7 fun x8 =>
 xStore (some 1) x8 x6 h fun h1 =>
 xNilCheck v0 fun x9 =>
 xAddr (some 1027) x9 fun x10 =>
 xLoad (some none) x10 h1 fun x11 =>
 xNilCheck v0 fun x12 =>
 xAddr (some 1026) x12 fun x13 =>
 xLoad (some none) x13 h1 fun x14 =>
 xNilCheck x11 fun x15 =>
 xAddr (some 1026) x15 fun x16 =>
 xStore (some 1) x16 x14 h1 fun h2 =>
 k (.tup []) h2
noncomputable def bd106 (v0 : CV) (h : CH) (k : CV → CH → Bool) : Bool :=
 xNilCheck v0 fun x1 =>
 xAddr (some 1026) x1 fun x2 =>
 xLoad (some none) x2 h fun x3 =>
 xNilCheck v0 fun x4 =>
 xAddr (some 1027) x4 fun x5 =>
 xLoad (some none) x5 h fun x6 =>
 xNilCheck x3 fun x7 =>
 c106_1 x7 x6 h v0 k
noncomputable abbrev ex106 : Ex := fun args h k => a1 args fun v0 => bd106 v0 h k
set_option maxRecDepth 100000 in
theorem sim106 : SimF Tryz.prog 106 ex106 := fun args h k hk => by
  obtain ⟨v0, rfl, hk⟩ := a1_ok hk
  exact sim_of (qf := (fun f => [46, 47, 62, 75, 82, 97, 104, 114, 121, 127, 128, 141, 151, 156, 157, 183].contains f)) (Z := zs) (C := []) (T := []) ⟨zerosB_ok zsOk, exNil⟩ .nil Tryz.func106 _ h k (Eq.mp (by kernel_rfl : (bd106 v0 h k = true) = (xFn Tryz.prog (fun f => [46, 47, 62, 75, 82, 97, 104, 114, 121, 127, 128, 141, 151, 156, 157, 183].contains f) zs [] [] Tryz.f106 .nil [v0] h k = true)) hk)

/- (*undercroft/cache.Cache).last -/
noncomputable abbrev c107_1 (x10 : CV) (x8 : CV) (h1 : CH) (v1 : CV) (v0 : CV) (k : CV → CH → Bool) : Bool :=
 xStore (some 1) x10 x8 h1 fun h2 =>
 xNilCheck v1 fun x11 =>
 xAddr (some 1026) x11 fun x12 =>
 xLoad (some none) x12 h2 fun x13 =>
 xNilCheck x13 fun x14 =>
 xAddr (some 1027) x14 fun x15 =>
 xStore (some 1) x15 v1 h2 fun h3 =>
 xNilCheck v0 fun x16 =>
 xAddr (some 3) x16 fun x17 =>
 xAddr (some 1026) x17 fun x18 =>
 xStore (some 1) x18 v1 h3 fun h4 =>
 k (.tup []) h4
noncomputable def bd107 (v0 v1 : CV) (h : CH) (k : CV → CH → Bool) : Bool :=
 xNilCheck v0 fun x1 =>
 xAddr (some 3) x1 fun x2 =>
 xAddr (some 1026) x2 fun x3 =>
 xLoad (some none) x3 h fun x4 =>
 xNilCheck v1 fun x5 =>
 xAddr (some 1026) x5 fun x6 =>
 xStore (some 1) x6 x4 h fun h1 =>
 xNilCheck v0 fun x7 =>
 xAddr (some 3) x7 fun x8 =>
 xNilCheck v1 fun x9 =>
 xAddr (some 1027) x9 fun x10 =>
 c107_1 x10 x8 h1 v1 v0 k
noncomputable abbrev ex107 : Ex := fun args h k => a2 args fun v0 v1 => bd107 v0 v1 h k
set_option maxRecDepth 100000 in
theorem sim107 : SimF Tryz.prog 107 ex107 := fun args h k hk => by
  obtain ⟨v0, v1, rfl, hk⟩ := a2_ok hk
  exact sim_of (qf := (fun f => [46, 47, 62, 75, 82, 97, 104, 114, 121, 127, 128, 141, 151, 156, 157, 183].contains f)) (Z := zs) (C := []) (T := []) ⟨zerosB_ok zsOk, exNil⟩ .nil Tryz.func107 _ h k (Eq.mp (by kernel_rfl : (bd107 v0 v1 h k = true) = (xFn Tryz.prog (fun f => [46, 47, 62, 75, 82, 97, 104, 114, 121, 127, 128, 141, 151, 156, 157, 183].contains f) zs [] [] Tryz.f107 .nil [v0, v1] h k = true)) hk)

/- (*undercroft/cache.Cache).room -/
noncomputable abbrev c108_1 (x24 : CV) (s19 : TupC 1) (h1 : CH) (K20 : TupC 1 → CH → Bool) (v0 : CV) (k : CV → CH → Bool) : Bool :=
 xIte x24
  (xNilCheck s19.1 fun x25 =>
  xAddr (some 1027) x25 fun x26 =>
  xLoad (some none) x26 h1 fun x27 =>
  K20 (x27, ()) h1)
  (bd106 s19.1 h1 fun x28 h2 =>
  xNilCheck v0 fun x29 =>
  xAddr (some 1031) x29 fun x30 =>
  xLoad (some none) x30 h2 fun x31 =>
  xNilCheck s19.1 fun x32 =>
  xAddr (some 0) x32 fun x33 =>
  xLoad (some none) x33 h2 fun x34 =>
  xMapDel (some (3, .int .i64, 203)) x31 x34 h2 fun h3 =>
  k (.bool true) h3)
noncomputable abbrev c108_2 (x11 : CV) (x14 : CV) (k : CV → CH → Bool) (h : CH) (v0 : CV) : Bool :=
 xBin (some (.int .i64)) .lss x11 x14 fun x15 =>
 xIte x15
  (k (.bool true) h)
  (xNilCheck v0 fun x16 =>
  xAddr (some 3) x16 fun x17 =>
  xAddr (some 1027) x17 fun x18 =>
  xLoad (some none) x18 h fun x19 =>
  xLoop (n := 1) (fun K20 s19 h1 =>
   xNilCheck s19.1 fun x22 =>
   xAddr (some 1025) x22 fun x23 =>
   xLoad (some none) x23 h1 fun x24 =>
   c108_1 x24 s19 h1 K20 v0 k) 1000000 (x19, ()) h)
noncomputable abbrev c108_3 (x4 : CV) (h : CH) (x3 : CV) (k : CV → CH → Bool) (v0 : CV) : Bool :=
 xAddr (some 1) x4 fun x5 =>
 xLoad (some none) x5 h fun x6 =>
 xBin (some (.int .i64)) .geq x3 x6 fun x7 =>
 xIte x7
  (k (.bool false) h)
  (xNilCheck v0 fun x8 =>
  xAddr (some 1031) x8 fun x9 =>
  xLoad (some none) x9 h fun x10 =>
  xMapLen x10 h fun x11 =>
  xNilCheck v0 fun x12 =>
  xAddr (some 1) x12 fun x13 =>
  xLoad (some none) x13 h fun x14 =>
  c108_2 x11 x14 k h v0)
noncomputable def bd108 (v0 : CV) (h : CH) (k : CV → CH → Bool) : Bool :=
 xNilCheck v0 fun x1 =>
 xAddr (some 2) x1 fun x2 =>
 xLoad (some none) x2 h fun x3 =>
 xNilCheck v0 fun x4 =>
 c108_3 x4 h x3 k v0
noncomputable abbrev ex108 : Ex := fun args h k => a1 args fun v0 => bd108 v0 h k
set_option maxRecDepth 100000 in
theorem sim108 : SimF Tryz.prog 108 ex108 := fun args h k hk => by
  obtain ⟨v0, rfl, hk⟩ := a1_ok hk
  exact sim_of (qf := (fun f => [46, 47, 62, 75, 82, 97, 104, 114, 121, 127, 128, 141, 151, 156, 157, 183].contains f)) (Z := zs) (C := [(106, ex106)]) (T := []) ⟨zerosB_ok zsOk, (exCons (by kernel_rfl) sim106 exNil)⟩ (.seq .nil (.seq .nil (.seq .nil (.seq .nil (.seq (.loop [3] [28, 29, 30, 31, 32, 33, 34, 35] .nil) .nil))))) Tryz.func108 _ h k (Eq.mp (by kernel_rfl : (bd108 v0 h k = true) = (xFn Tryz.prog (fun f => [46, 47, 62, 75, 82, 97, 104, 114, 121, 127, 128, 141, 151, 156, 157, 183].contains f) zs [(106, ex106)] [] Tryz.f108 (.seq .nil (.seq .nil (.seq .nil (.seq .nil (.seq (.loop [3] [28, 29, 30, 31, 32, 33, 34, 35] .nil) .nil))))) [v0] h k = true)) hk)

/- (*undercroft/cache.Cache).Read -/
noncomputable abbrev c60_1 (v0 : CV) (h13 : CH) (v1 : CV) (x34 : CV) (x28 : CV) (x1 : CV) (k : CV → CH → Bool) : Bool :=
 xNilCheck v0 fun x35 =>
 xAddr (some 1031) x35 fun x36 =>
 xLoad (some none) x36 h13 fun x37 =>
 xMapSet (some (3, .int .i64, 203)) x37 v1 x34 h13 fun h14 =>
 bd107 v0 x34 h14 fun x38 h15 =>
 xLoad (some (some 1024)) x28 h15 fun x39 =>
 xStore (some 1024) x1 x39 h15 fun h16 =>
 xLoad (some (some 1024)) x1 h16 fun x40 =>
 k (.tup [x40, (.int .i64 (.ofNat 0))]) h16
noncomputable abbrev c60_2 (x29 : CV) (x1 : CV) (h11 : CH) (k : CV → CH → Bool) (x27 : CV) (x28 : CV) (v1 : CV) (v0 : CV) : Bool :=
 xIte x29
  (xBuild (some (.inr 1)) (some (.agg [(.bytes 1024 0)])) [] fun x30 =>
  xStore (some 1024) x1 x30 h11 fun h12 =>
  xLoad (some (some 1024)) x1 h12 fun x31 =>
  k (.tup [x31, x27]) h12)
  (xLoad (some (some 1024)) x28 h11 fun x32 =>
  xBuild (some (.inl [(0, 1), (1, 1024), (1025, 1), (1026, 1), (1027, 1)])) (some (.agg [(.int .i64 (.ofNat 0)), (.bytes 1024 0), (.bool false), .nilp, .nilp])) [(0, v1), (1, x32)] fun x33 =>
  xBox 205 x33 h11 fun x34 h13 =>
  c60_1 v0 h13 v1 x34 x28 x1 k)
noncomputable abbrev c60_3 (v0 : CV) (h7 : CH) (v1 : CV) (x1 : CV) (k : CV → CH → Bool) : Bool :=
 xNilCheck v0 fun x22 =>
 xAddr (some 0) x22 fun x23 =>
 xLoad (some none) x23 h7 fun x24 =>
 bd98 x24 v1 h7 fun x25 h9 =>
 xExtract x25 0 fun x26 =>
 xExtract x25 1 fun x27 =>
 xBoxP 124 [(.bytes 1024 0)] h9 fun x28 h10 =>
 xStore (some 1024) x28 x26 h10 fun h11 =>
 xBin (some (.int .i64)) .neq x27 (.int .i64 (.ofNat 0)) fun x29 =>
 c60_2 x29 x1 h11 k x27 x28 v1 v0
noncomputable abbrev c60_4 (x11 : CV) (x10 : CV) (h2 : CH) (v0 : CV) (x1 : CV) (k : CV → CH → Bool) (v1 : CV) : Bool :=
 xIte x11
  (bd106 x10 h2 fun x12 h4 =>
  bd107 v0 x10 h4 fun x13 h5 =>
  xNilCheck x10 fun x14 =>
  xAddr (some 1) x14 fun x15 =>
  xLoad (some (some 1024)) x15 h5 fun x16 =>
  xStore (some 1024) x1 x16 h5 fun h6 =>
  xLoad (some (some 1024)) x1 h6 fun x17 =>
  k (.tup [x17, (.int .i64 (.ofNat 0))]) h6)
  (bd108 v0 h2 fun x18 h7 =>
  xUn .not x18 fun x19 =>
  xIte x19
   (xBuild (some (.inr 1)) (some (.agg [(.bytes 1024 0)])) [] fun x20 =>
   xStore (some 1024) x1 x20 h7 fun h8 =>
   xLoad (some (some 1024)) x1 h8 fun x21 =>
   k (.tup [x21, (.int .i64 (.ofNat 160))]) h8)
   (c60_3 v0 h7 v1 x1 k))
noncomputable abbrev c60_5 (x3 : CV) (x1 : CV) (h2 : CH) (k : CV → CH → Bool) (x2 : CV) (v0 : CV) (v1 : CV) : Bool :=
 xIte x3
  (xBuild (some (.inr 1)) (some (.agg [(.bytes 1024 0)])) [] fun x4 =>
  xStore (some 1024) x1 x4 h2 fun h3 =>
  xLoad (some (some 1024)) x1 h3 fun x5 =>
  k (.tup [x5, x2]) h3)
  (xNilCheck v0 fun x6 =>
  xAddr (some 1031) x6 fun x7 =>
  xLoad (some none) x7 h2 fun x8 =>
  xLookup (some (3, .int .i64, 203)) (some .nilp) true x8 v1 h2 fun x9 =>
  xExtract x9 0 fun x10 =>
  xExtract x9 1 fun x11 =>
  c60_4 x11 x10 h2 v0 x1 k v1)
noncomputable def bd60 (v0 v1 : CV) (h : CH) (k : CV → CH → Bool) : Bool :=
 xBoxP 124 [(.bytes 1024 0)] h fun x1 h1 =>
 bd105 v0 v1 h1 fun x2 h2 =>
 xBin (some (.int .i64)) .neq x2 (.int .i64 (.ofNat 0)) fun x3 =>
 c60_5 x3 x1 h2 k x2 v0 v1
noncomputable abbrev ex60 : Ex := fun args h k => a2 args fun v0 v1 => bd60 v0 v1 h k
set_option maxRecDepth 100000 in
theorem sim60 : SimF Tryz.prog 60 ex60 := fun args h k hk => by
  obtain ⟨v0, v1, rfl, hk⟩ := a2_ok hk
  exact sim_of (qf := (fun f => [46, 47, 62, 75, 82, 97, 104, 114, 121, 127, 128, 141, 151, 156, 157, 183].contains f)) (Z := zs) (C := [(105, ex105), (106, ex106), (107, ex107), (108, ex108), (98, ex98)]) (T := []) ⟨zerosB_ok zsOk, (exCons (by kernel_rfl) sim105 (exCons (by kernel_rfl) sim106 (exCons (by kernel_rfl) sim107 (exCons (by kernel_rfl) sim108 (exCons (by kernel_rfl) sim98 exNil)))))⟩ .nil Tryz.func60 _ h k (Eq.mp (by kernel_rfl : (bd60 v0 v1 h k = true) = (xFn Tryz.prog (fun f => [46, 47, 62, 75, 82, 97, 104, 114, 121, 127, 128, 141, 151, 156, 157, 183].contains f) zs [(105, ex105), (106, ex106), (107, ex107), (108, ex108), (98, ex98)] [] Tryz.f60 .nil [v0, v1] h k = true)) hk)

/- (*undercroft/disk.Disk).burn -/
noncomputable abbrev c109_1 (x17 : CV) (v0 : CV) (h : CH) (K13 : TupC 0 → CH → Bool) : Bool :=
 xBin (some (.int .i64)) .gtr x17 (.int .i64 (.ofNat 0)) fun x18 =>
 xIte x18
  (xNilCheck v0 fun x19 =>
  xAddr (some 5) x19 fun x20 =>
  xLoad (some none) x20 h fun x21 =>
  xBin (some (.int .i64)) .sub x21 (.int .i64 (.ofNat 1)) fun x22 =>
  xNilCheck v0 fun x23 =>
  xAddr (some 5) x23 fun x24 =>
  xStore (some 1) x24 x22 h fun h4 =>
  K13 (()) h4)
  (K13 (()) h)
noncomputable abbrev c109_2 (v0 : CV) (k : CV → CH → Bool) (h : CH) : Bool :=
 xJoin (n := 0) (fun s6 h2 =>
  xNilCheck v0 fun x8 =>
  xAddr (some 7) x8 fun x9 =>
  xLoad (some none) x9 h2 fun x10 =>
  xBin (some (.int .i64)) .add x10 (.int .i64 (.ofNat 1)) fun x11 =>
  xNilCheck v0 fun x12 =>
  xAddr (some 7) x12 fun x13 =>
  xStore (some 1) x13 x11 h2 fun h3 =>
  k (.bool true) h3)
 (fun K13 => xNilCheck v0 fun x15 =>
 xAddr (some 5) x15 fun x16 =>
 xLoad (some none) x16 h fun x17 =>
 c109_1 x17 v0 h K13)
noncomputable def bd109 (v0 : CV) (h : CH) (k : CV → CH → Bool) : Bool :=
 xNilCheck v0 fun x1 =>
 xAddr (some 5) x1 fun x2 =>
 xLoad (some none) x2 h fun x3 =>
 xBin (some (.int .i64)) .eql x3 (.int .i64 (.ofNat 0)) fun x4 =>
 xIte x4
  (xNilCheck v0 fun x5 =>
  xAddr (some 6) x5 fun x6 =>
  xStore (some 1) x6 (.bool true) h fun h1 =>
  k (.bool false) h1)
  (c109_2 v0 k h)
noncomputable abbrev ex109 : Ex := fun args h k => a1 args fun v0 => bd109 v0 h k
set_option maxRecDepth 100000 in
theorem sim109 : SimF Tryz.prog 109 ex109 := fun args h k hk => by
  obtain ⟨v0, rfl, hk⟩ := a1_ok hk
  exact sim_of (qf := (fun f => [46, 47, 62, 75, 82, 97, 104, 114, 121, 127, 128, 141, 151, 156, 157, 183].contains f)) (Z := zs) (C := []) (T := []) ⟨zerosB_ok zsOk, exNil⟩ (.seq .nil (.seq .nil (.join [] [11, 12, 13, 14, 15, 16, 17, 18, 19, 20, 21, 22] .nil .nil))) Tryz.func109 _ h k (Eq.mp (by kernel_rfl : (bd109 v0 h k = true) = (xFn Tryz.prog (fun f => [46, 47, 62, 75, 82, 97, 104, 114, 121, 127, 128, 141, 151, 156, 157, 183].contains f) zs [] [] Tryz.f109 (.seq .nil (.seq .nil (.join [] [11, 12, 13, 14, 15, 16, 17, 18, 19, 20, 21, 22] .nil .nil))) [v0] h k = true)) hk)

/- (*undercroft/disk.Disk).Write -/
noncomputable abbrev c61_1 (v1 : CV) (x23 : CV) (h8 : CH) (x22 : CV) (v0 : CV) (k : CV → CH → Bool) : Bool :=
 xBuild (some (.inl [(0, 1), (1, 1), (2, 1024)])) (some (.agg [(.bytes 1 0), (.int .i64 (.ofNat 0)), (.bytes 1024 0)])) [(0, (.int .u8 (.ofNat 1))), (1, v1), (2, x23)] fun x24 =>
 xNewS (some (213, 1026, 1040, false)) (some [(.bytes 1 0), (.int .i64 (.ofNat 0)), (.bytes 1024 0)]) 1 [(0, x24)] h8 fun x25 h9 =>
 xApp (some (213, 1026, 1040, false)) x22 x25 h9 fun x26 h10 =>
 xNilCheck v0 fun x27 =>
 xAddr (some 4) x27 fun x28 =>
 xStore (some 1) x28 x26 h10 fun h11 =>
 k (.int .i64 (.ofNat 0)) h11
noncomputable abbrev c61_2 (x15 : CV) (x13 : CV) (h6 : CH) (v0 : CV) (x1 : CV) (v1 : CV) (k : CV → CH → Bool) : Bool :=
 xStore (some 1) x15 x13 h6 fun h7 =>
 xNilCheck v0 fun x16 =>
 xAddr (some 2) x16 fun x17 =>
 xLoad (some none) x17 h7 fun x18 =>
 xLoad (some (some 1024)) x1 h7 fun x19 =>
 xMapSet (some (3, .int .i64, 124)) x18 v1 x19 h7 fun h8 =>
 xNilCheck v0 fun x20 =>
 xAddr (some 4) x20 fun x21 =>
 xLoad (some none) x21 h8 fun x22 =>
 xLoad (some (some 1024)) x1 h8 fun x23 =>
 c61_1 v1 x23 h8 x22 v0 k
noncomputable abbrev c61_3 (v1 : CV) (x10 : CV) (h4 : CH) (x9 : CV) (v0 : CV) (x1 : CV) (k : CV → CH → Bool) : Bool :=
 xBuild (some (.inl [(0, 1), (1, 1024)])) (some (.agg [(.int .i64 (.ofNat 0)), (.bytes 1024 0)])) [(0, v1), (1, x10)] fun x11 =>
 xNewS (some (132, 1025, 1032, false)) (some [(.int .i64 (.ofNat 0)), (.bytes 1024 0)]) 1 [(0, x11)] h4 fun x12 h5 =>
 xApp (some (132, 1025, 1032, false)) x9 x12 h5 fun x13 h6 =>
 xNilCheck v0 fun x14 =>
 xAddr (some 3) x14 fun x15 =>
 c61_2 x15 x13 h6 v0 x1 v1 k
noncomputable abbrev c61_4 (k : CV → CH → Bool) (v0 : CV) (x1 : CV) (v1 : CV) (h2 : CH) : Bool :=
 xJoin (n := 1) (fun s3 h3 =>
  xIte s3.1
   (k (.int .i64 (.ofNat 2)) h3)
   (bd109 v0 h3 fun x5 h4 =>
   xUn .not x5 fun x6 =>
   xIte x6
    (k (.int .i64 (.ofNat 3)) h4)
    (xNilCheck v0 fun x7 =>
    xAddr (some 3) x7 fun x8 =>
    xLoad (some none) x8 h4 fun x9 =>
    xLoad (some (some 1024)) x1 h4 fun x10 =>
    c61_3 v1 x10 h4 x9 v0 x1 k)))
 (fun K28 => xBin (some (.int .i64)) .lss v1 (.int .i64 (.ofNat 0)) fun x30 =>
 xIte x30
  (K28 ((.bool true), ()) h2)
  (xNilCheck v0 fun x31 =>
  xAddr (some 0) x31 fun x32 =>
  xLoad (some none) x32 h2 fun x33 =>
  xBin (some (.int .i64)) .geq v1 x33 fun x34 =>
  K28 (x34, ()) h2))
noncomputable def bd61 (v0 v1 v2 : CV) (h : CH) (k : CV → CH → Bool) : Bool :=
 xBox 124 v2 h fun x1 h1 =>
 bd100 v0 h1 fun x2 h2 =>
 xBin (some (.int .i64)) .neq x2 (.int .i64 (.ofNat 0)) fun x3 =>
 xIte x3
  (k x2 h2)
  (c61_4 k v0 x1 v1 h2)
noncomputable abbrev ex61 : Ex := fun args h k => a3 args fun v0 v1 v2 => bd61 v0 v1 v2 h k
set_option maxRecDepth 100000 in
theorem sim61 : SimF Tryz.prog 61 ex61 := fun args h k hk => by
  obtain ⟨v0, v1, v2, rfl, hk⟩ := a3_ok hk
  exact sim_of (qf := (fun f => [46, 47, 62, 75, 82, 97, 104, 114, 121, 127, 128, 141, 151, 156, 157, 183].contains f)) (Z := zs) (C := [(100, ex100), (109, ex109)]) (T := []) ⟨zerosB_ok zsOk, (exCons (by kernel_rfl) sim100 (exCons (by kernel_rfl) sim109 exNil))⟩ (.seq .nil (.seq .nil (.seq (.join [22] [13, 14, 15, 16, 17, 18, 19, 20, 21] .nil .nil) .nil))) Tryz.func61 _ h k (Eq.mp (by kernel_rfl : (bd61 v0 v1 v2 h k = true) = (xFn Tryz.prog (fun f => [46, 47, 62, 75, 82, 97, 104, 114, 121, 127, 128, 141, 151, 156, 157, 183].contains f) zs [(100, ex100), (109, ex109)] [] Tryz.f61 (.seq .nil (.seq .nil (.seq (.join [22] [13, 14, 15, 16, 17, 18, 19, 20, 21] .nil .nil) .nil))) [v0, v1, v2] h k = true)) hk)

/- undercroft/slab.SetU32 -/
noncomputable abbrev c82_1 (v1 : CV) (s7 : TupC 1) (v2 : CV) (x1 : CV) (h6 : CH) (K8 : TupC 1 → CH → Bool) : Bool :=
 xBin (some (.int .i64)) .add v1 s7.1 fun x11 =>
 xBin (some (.int .i64)) .mul (.int .i64 (.ofNat 8)) s7.1 fun x12 =>
 xBin (some (.int .u32)) .shr v2 x12 fun x13 =>
 xConv (some (.int .u32)) (some (.int .u8)) x13 fun x14 =>
 xIdx (some (some 1024, 1)) x1 x11 fun x15 =>
 xStore (some 1) x15 x14 h6 fun h7 =>
 xBin (some (.int .i64)) .add s7.1 (.int .i64 (.ofNat 1)) fun x16 =>
 K8 (x16, ()) h7
noncomputable abbrev c82_2 (x1 : CV) (x2 : CV) (k : CV → CH → Bool) (v1 : CV) (h2 : CH) (v2 : CV) : Bool :=
 xJoin (n := 0) (fun s2 h3 =>
  xLoad (some (some 1024)) x1 h3 fun x4 =>
  xStore (some 1024) x2 x4 h3 fun h4 =>
  xLoad (some (some 1024)) x2 h4 fun x5 =>
  k x5 h4)
 (fun K5 => bd120 v1 (.int .i64 (.ofNat 4)) h2 fun x7 h5 =>
 xIte x7
  (xLoop (n := 1) (fun K8 s7 h6 =>
   xBin (some (.int .i64)) .lss s7.1 (.int .i64 (.ofNat 4)) fun x10 =>
   xIte x10
    (c82_1 v1 s7 v2 x1 h6 K8)
    (K5 (()) h6)) 1000000 ((.int .i64 (.ofNat 0)), ()) h5)
  (K5 (()) h5))
noncomputable def bd82 (v0 v1 v2 : CV) (h : CH) (k : CV → CH → Bool) : Bool :=
 xBox 124 v0 h fun x1 h1 =>
 xBoxP 124 [(.bytes 1024 0)] h1 fun x2 h2 =>
 c82_2 x1 x2 k v1 h2 v2
noncomputable abbrev ex82 : Ex := fun args h k => a3 args fun v0 v1 v2 => bd82 v0 v1 v2 h k
set_option maxRecDepth 100000 in
theorem sim82 : SimF Tryz.prog 82 ex82 := fun args h k hk => by
  obtain ⟨v0, v1, v2, rfl, hk⟩ := a3_ok hk
  exact sim_of (qf := (fun f => [46, 47, 62, 75, 82, 97, 104, 114, 121, 127, 128, 141, 151, 156, 157, 183].contains f)) (Z := zs) (C := [(120, ex120)]) (T := []) ⟨zerosB_ok zsOk, (exCons (by kernel_rfl) sim120 exNil)⟩ (.seq .nil (.join [] [8, 9, 10, 11, 12, 7, 13, 14, 15, 16, 17, 18, 19, 20, 21, 22] (.seq .nil (.cond (.seq .nil (.loop [10] [11, 12, 7, 13, 14, 15, 16, 17, 18, 19, 20, 21, 22] .nil)) .nil)) .nil)) Tryz.func82 _ h k (Eq.mp (by kernel_rfl : (bd82 v0 v1 v2 h k = true) = (xFn Tryz.prog (fun f => [46, 47, 62, 75, 82, 97, 104, 114, 121, 127, 128, 141, 151, 156, 157, 183].contains f) zs [(120, ex120)] [] Tryz.f82 (.seq .nil (.join [] [8, 9, 10, 11, 12, 7, 13, 14, 15, 16, 17, 18, 19, 20, 21, 22] (.seq .nil (.cond (.seq .nil (.loop [10] [11, 12, 7, 13, 14, 15, 16, 17, 18, 19, 20, 21, 22] .nil)) .nil)) .nil)) [v0, v1, v2] h k = true)) hk)

/- undercroft/head.Encode -/
noncomputable abbrev c62_1 (s25 : TupC 1) (x30 : CV) (x31 : CV) (h11 : CH) (x22 : CV) (K26 : TupC 1 → CH → Bool) : Bool :=
 xBin (some (.int .i64)) .add s25.1 (.int .i64 (.ofNat 1)) fun x32 =>
 xBin (some (.int .i64)) .mul (.int .i64 (.ofNat 4)) x32 fun x33 =>
 xConv (some (.int .i64)) (some (.int .u32)) x30 fun x34 =>
 bd82 x31 x33 x34 h11 fun x35 h12 =>
 xStore (some 1024) x22 x35 h12 fun h13 =>
 xBin (some (.int .i64)) .add s25.1 (.int .i64 (.ofNat 1)) fun x36 =>
 K26 (x36, ()) h13
noncomputable abbrev c62_2 (s25 : TupC 1) (x25 : CV) (x24 : CV) (h11 : CH) (x22 : CV) (K26 : TupC 1 → CH → Bool) (x3 : CV) (k : CV → CH → Bool) : Bool :=
 xBin (some (.int .i64)) .lss s25.1 x25 fun x28 =>
 xIte x28
  (xIdx (some (none, 1)) x24 s25.1 fun x29 =>
  xLoad (some none) x29 h11 fun x30 =>
  xLoad (some (some 1024)) x22 h11 fun x31 =>
  c62_1 s25 x30 x31 h11 x22 K26)
  (xLoad (some (some 1024)) x22 h11 fun x37 =>
  xStore (some 1024) x3 x37 h11 fun h14 =>
  xLoad (some (some 1024)) x3 h14 fun x38 =>
  k (.tup [x38, (.int .i64 (.ofNat 0))]) h14)
noncomputable abbrev c62_3 (x16 : CV) (x20 : CV) (h6 : CH) (x2 : CV) (x3 : CV) (k : CV → CH → Bool) : Bool :=
 bd82 x16 (.int .i64 (.ofNat 0)) x20 h6 fun x21 h8 =>
 xBoxP 124 [(.bytes 1024 0)] h8 fun x22 h9 =>
 xStore (some 1024) x22 x21 h9 fun h10 =>
 xAddr (some 0) x2 fun x23 =>
 xLoad (some none) x23 h10 fun x24 =>
 xLen (some (.inl false)) x24 fun x25 =>
 xLoop (n := 1) (fun K26 s25 h11 =>
  c62_2 s25 x25 x24 h11 x22 K26 x3 k) 1000000 ((.int .i64 (.ofNat 0)), ()) h10
noncomputable abbrev c62_4 (x13 : CV) (x3 : CV) (h6 : CH) (k : CV → CH → Bool) (x2 : CV) : Bool :=
 xIte x13
  (xBuild (some (.inr 1)) (some (.agg [(.bytes 1024 0)])) [] fun x14 =>
  xStore (some 1024) x3 x14 h6 fun h7 =>
  xLoad (some (some 1024)) x3 h7 fun x15 =>
  k (.tup [x15, (.int .i64 (.ofNat 4))]) h7)
  (xBuild (some (.inr 1)) (some (.agg [(.bytes 1024 0)])) [] fun x16 =>
  xAddr (some 0) x2 fun x17 =>
  xLoad (some none) x17 h6 fun x18 =>
  xLen (some (.inl false)) x18 fun x19 =>
  xConv (some (.int .i64)) (some (.int .u32)) x19 fun x20 =>
  c62_3 x16 x20 h6 x2 x3 k)
noncomputable abbrev c62_5 (x6 : CV) (x3 : CV) (h4 : CH) (k : CV → CH → Bool) (x1 : CV) (x2 : CV) : Bool :=
 xIte x6
  (xBuild (some (.inr 1)) (some (.agg [(.bytes 1024 0)])) [] fun x7 =>
  xStore (some 1024) x3 x7 h4 fun h5 =>
  xLoad (some (some 1024)) x3 h5 fun x8 =>
  k (.tup [x8, (.int .i64 (.ofNat 2))]) h5)
  (xLoad (some (some 9)) x1 h4 fun x9 =>
  xAddr (some 0) x2 fun x10 =>
  xLoad (some none) x10 h4 fun x11 =>
  bd111 x9 x11 h4 fun x12 h6 =>
  xUn .not x12 fun x13 =>
  c62_4 x13 x3 h6 k x2)
noncomputable def bd62 (v0 v1 : CV) (h : CH) (k : CV → CH → Bool) : Bool :=
 xBox 58 v0 h fun x1 h1 =>
 xBox 138 v1 h1 fun x2 h2 =>
 xBoxP 124 [(.bytes 1024 0)] h2 fun x3 h3 =>
 xLoad (some (some 9)) x1 h3 fun x4 =>
 bd110 x4 h3 fun x5 h4 =>
 xUn .not x5 fun x6 =>
 c62_5 x6 x3 h4 k x1 x2
noncomputable abbrev ex62 : Ex := fun args h k => a2 args fun v0 v1 => bd62 v0 v1 h k
set_option maxRecDepth 100000 in
theorem sim62 : SimF Tryz.prog 62 ex62 := fun args h k hk => by
  obtain ⟨v0, v1, rfl, hk⟩ := a2_ok hk
  exact sim_of (qf := (fun f => [46, 47, 62, 75, 82, 97, 104, 114, 121, 127, 128, 141, 151, 156, 157, 183].contains f)) (Z := zs) (C := [(110, ex110), (111, ex111), (82, ex82)]) (T := []) ⟨zerosB_ok zsOk, (exCons (by kernel_rfl) sim110 (exCons (by kernel_rfl) sim111 (exCons (by kernel_rfl) sim82 exNil)))⟩ (.seq .nil (.seq .nil (.seq .nil (.seq .nil (.seq (.seq .nil (.loop [28] [29, 30, 31, 32, 7, 8, 33, 34, 35, 36, 37, 38, 39, 40] .nil)) .nil))))) Tryz.func62 _ h k (Eq.mp (by kernel_rfl : (bd62 v0 v1 h k = true) = (xFn Tryz.prog (fun f => [46, 47, 62, 75, 82, 97, 104, 114, 121, 127, 128, 141, 151, 156, 157, 183].contains f) zs [(110, ex110), (111, ex111), (82, ex82)] [] Tryz.f62 (.seq .nil (.seq .nil (.seq .nil (.seq .nil (.seq (.seq .nil (.loop [28] [29, 30, 31, 32, 7, 8, 33, 34, 35, 36, 37, 38, 39, 40] .nil)) .nil))))) [v0, v1] h k = true)) hk)

/- (*undercroft/disk.Disk).keep -/
noncomputable abbrev c112_1 (x5 : CV) (v0 : CV) (h1 : CH) (x1 : CV) (k : CV → CH → Bool) : Bool :=
 xIte x5
  (xNilCheck v0 fun x6 =>
  xAddr (some 1) x6 fun x7 =>
  xLoad (some none) x7 h1 fun x8 =>
  xAddr (some 0) x1 fun x9 =>
  xLoad (some none) x9 h1 fun x10 =>
  xMapDel (some (3, .int .i64, 124)) x8 x10 h1 fun h2 =>
  k (.tup []) h2)
  (xNilCheck v0 fun x11 =>
  xAddr (some 1) x11 fun x12 =>
  xLoad (some none) x12 h1 fun x13 =>
  xAddr (some 0) x1 fun x14 =>
  xLoad (some none) x14 h1 fun x15 =>
  xAddr (some 1) x1 fun x16 =>
  xLoad (some (some 1024)) x16 h1 fun x17 =>
  xMapSet (some (3, .int .i64, 124)) x13 x15 x17 h1 fun h3 =>
  k (.tup []) h3)
noncomputable def bd112 (v0 v1 : CV) (h : CH) (k : CV → CH → Bool) : Bool :=
 xBox 132 v1 h fun x1 h1 =>
 xAddr (some 1) x1 fun x2 =>
 xLoad (some (some 1024)) x2 h1 fun x3 =>
 xBuild (some (.inr 1)) (some (.agg [(.bytes 1024 0)])) [] fun x4 =>
 xEq (some (.agg (.bytes 1024))) .eql x3 x4 h1 fun x5 =>
 c112_1 x5 v0 h1 x1 k
noncomputable abbrev ex112 : Ex := fun args h k => a2 args fun v0 v1 => bd112 v0 v1 h k
set_option maxRecDepth 100000 in
theorem sim112 : SimF Tryz.prog 112 ex112 := fun args h k hk => by
  obtain ⟨v0, v1, rfl, hk⟩ := a2_ok hk
  exact sim_of (qf := (fun f => [46, 47, 62, 75, 82, 97, 104, 114, 121, 127, 128, 141, 151, 156, 157, 183].contains f)) (Z := zs) (C := []) (T := []) ⟨zerosB_ok zsOk, exNil⟩ .nil Tryz.func112 _ h k (Eq.mp (by kernel_rfl : (bd112 v0 v1 h k = true) = (xFn Tryz.prog (fun f => [46, 47, 62, 75, 82, 97, 104, 114, 121, 127, 128, 141, 151, 156, 157, 183].contains f) zs [] [] Tryz.f112 .nil [v0, v1] h k = true)) hk)

/- (*undercroft/disk.Disk).Barrier -/
noncomputable abbrev c63_1 (x7 : CV) (s8 : TupC 1) (h3 : CH) (v0 : CV) (K9 : TupC 1 → CH → Bool) : Bool :=
 xIdx (some (none, 1025)) x7 s8.1 fun x12 =>
 xLoad (some (some 1025)) x12 h3 fun x13 =>
 xBoxP 132 [(.int .i64 (.ofNat 0)), (.bytes 1024 0)] h3 fun x14 h4 =>
 xStore (some 1025) x14 x13 h4 fun h5 =>
 xLoad (some (some 1025)) x14 h5 fun x15 =>
 bd112 v0 x15 h5 fun x16 h6 =>
 xBin (some (.int .i64)) .add s8.1 (.int .i64 (.ofNat 1)) fun x17 =>
 K9 (x17, ()) h6
noncomputable abbrev c63_2 (h8 : CH) (x25 : CV) (v0 : CV) (k : CV → CH → Bool) : Bool :=
 xBuild (some (.inl [(0, 1), (1, 1), (2, 1024)])) (some (.agg [(.bytes 1 0), (.int .i64 (.ofNat 0)), (.bytes 1024 0)])) [(0, (.int .u8 (.ofNat 2)))] fun x26 =>
 xNewS (some (213, 1026, 1040, false)) (some [(.bytes 1 0), (.int .i64 (.ofNat 0)), (.bytes 1024 0)]) 1 [(0, x26)] h8 fun x27 h9 =>
 xApp (some (213, 1026, 1040, false)) x25 x27 h9 fun x28 h10 =>
 xNilCheck v0 fun x29 =>
 xAddr (some 4) x29 fun x30 =>
 xStore (some 1) x30 x28 h10 fun h11 =>
 k (.int .i64 (.ofNat 0)) h11
noncomputable abbrev c63_3 (x11 : CV) (x7 : CV) (s8 : TupC 1) (h3 : CH) (v0 : CV) (K9 : TupC 1 → CH → Bool) (k : CV → CH → Bool) : Bool :=
 xIte x11
  (c63_1 x7 s8 h3 v0 K9)
  (xNilCheck v0 fun x18 =>
  xAddr (some 3) x18 fun x19 =>
  xStore (some 1) x19 .nils h3 fun h7 =>
  xNilCheck v0 fun x20 =>
  xAddr (some 2) x20 fun x21 =>
  xLoad (some none) x21 h7 fun x22 =>
  xMapClr x22 h7 fun h8 =>
  xNilCheck v0 fun x23 =>
  xAddr (some 4) x23 fun x24 =>
  xLoad (some none) x24 h8 fun x25 =>
  c63_2 h8 x25 v0 k)
noncomputable abbrev c63_4 (v0 : CV) (h1 : CH) (k : CV → CH → Bool) : Bool :=
 bd109 v0 h1 fun x3 h2 =>
 xUn .not x3 fun x4 =>
 xIte x4
  (k (.int .i64 (.ofNat 3)) h2)
  (xNilCheck v0 fun x5 =>
  xAddr (some 3) x5 fun x6 =>
  xLoad (some none) x6 h2 fun x7 =>
  xLen (some (.inl false)) x7 fun x8 =>
  xLoop (n := 1) (fun K9 s8 h3 =>
   xBin (some (.int .i64)) .lss s8.1 x8 fun x11 =>
   c63_3 x11 x7 s8 h3 v0 K9 k) 1000000 ((.int .i64 (.ofNat 0)), ()) h2)
noncomputable def bd63 (v0 : CV) (h : CH) (k : CV → CH → Bool) : Bool :=
 bd100 v0 h fun x1 h1 =>
 xBin (some (.int .i64)) .neq x1 (.int .i64 (.ofNat 0)) fun x2 =>
 xIte x2
  (k x1 h1)
  (c63_4 v0 h1 k)
noncomputable abbrev ex63 : Ex := fun args h k => a1 args fun v0 => bd63 v0 h k
set_option maxRecDepth 100000 in
theorem sim63 : SimF Tryz.prog 63 ex63 := fun args h k hk => by
  obtain ⟨v0, rfl, hk⟩ := a1_ok hk
  exact sim_of (qf := (fun f => [46, 47, 62, 75, 82, 97, 104, 114, 121, 127, 128, 141, 151, 156, 157, 183].contains f)) (Z := zs) (C := [(100, ex100), (109, ex109), (112, ex112)]) (T := []) ⟨zerosB_ok zsOk, (exCons (by kernel_rfl) sim100 (exCons (by kernel_rfl) sim109 (exCons (by kernel_rfl) sim112 exNil)))⟩ (.seq .nil (.seq .nil (.seq .nil (.seq (.seq .nil (.loop [19] [20, 21, 22, 5, 23, 24, 25, 26] .nil)) .nil)))) Tryz.func63 _ h k (Eq.mp (by kernel_rfl : (bd63 v0 h k = true) = (xFn Tryz.prog (fun f => [46, 47, 62, 75, 82, 97, 104, 114, 121, 127, 128, 141, 151, 156, 157, 183].contains f) zs [(100, ex100), (109, ex109), (112, ex112)] [] Tryz.f63 (.seq .nil (.seq .nil (.seq .nil (.seq (.seq .nil (.loop [19] [20, 21, 22, 5, 23, 24, 25, 26] .nil)) .nil)))) [v0] h k = true)) hk)
end Go.Proofs
