/- Functions, run; each tied to the program. -/
import Derived.Test.YtkbbonhbihmbcaaGreatRRDAA
set_option linter.unusedVariables false
set_option linter.unusedSimpArgs false
namespace Go.Proofs
open Go.Vc Go.Xc
set_option maxRecDepth 100000

/- (*undercroft/undercroftref29.Disk).wrong -/
noncomputable abbrev c196_1 (x1 : CV) (s16 : TupC 1) (k : CV → CH → Bool) (K17 : TupC 1 → CH → Bool) (x6 : CV) (h3 : CH) : Bool :=
 xJoin (n := 1) (fun s18 h4 =>
 xIte s18.1
 (xAddr (some 17) x1 fun x20 =>
 xLoad (some none) x20 h4 fun x21 =>
 bd204 x21 s16.1 h4 fun x22 h5 =>
 xBin (some (.int .i64)) .eql x22 (.int .i64 (.ofNat 0)) fun x23 =>
 xIte x23
 (k (.bool true) h5)
 (xBin (some (.int .i64)) .add s16.1 (.int .i64 (.ofNat 1)) fun x24 =>
 K17 (x24, ()) h5))
 (k (.bool false) h4))
 (fun K24 => xBin (some (.int .i64)) .lss s16.1 x6 fun x26 =>
 xIte x26
 (xAddr (some 1) x1 fun x27 =>
 xAddr (some 0) x27 fun x28 =>
 xLoad (some none) x28 h3 fun x29 =>
 xBin (some (.int .u16)) .eql x29 (.int .u16 (.ofNat 2)) fun x30 =>
 K24 (x30, ()) h3)
 (K24 ((.bool false), ()) h3))
noncomputable abbrev c196_2 (s47 : TupC 1) (x42 : CV) (h11 : CH) (k : CV → CH → Bool) (K48 : TupC 1 → CH → Bool) : Bool :=
 xBin (some (.int .i64)) .lss s47.1 (.int .i64 (.ofNat 1024)) fun x50 =>
 xIte x50
 (xIdx (some (some 1024, 1)) x42 s47.1 fun x51 =>
 xLoad (some none) x51 h11 fun x52 =>
 xBin (some (.int .u8)) .neq x52 (.int .u8 (.ofNat 0)) fun x53 =>
 xIte x53
 (k (.bool true) h11)
 (xBin (some (.int .i64)) .add s47.1 (.int .i64 (.ofNat 1)) fun x54 =>
 K48 (x54, ()) h11))
 (k (.bool false) h11)
noncomputable abbrev c196_3 (h8 : CH) (x41 : CV) (x1 : CV) (k : CV → CH → Bool) : Bool :=
 xBoxP 70 [(.bytes 1024 0)] h8 fun x42 h9 =>
 xStore (some 1024) x42 x41 h9 fun h10 =>
 xAddr (some 1) x1 fun x43 =>
 xAddr (some 2) x43 fun x44 =>
 xLoad (some none) x44 h10 fun x45 =>
 xConv (some (.int .u32)) (some (.int .i64)) x45 fun x46 =>
 xBin (some (.int .i64)) .rem x46 (.int .i64 (.ofNat 1024)) fun x47 =>
 xLoop (n := 1) (fun K48 s47 h11 =>
 c196_2 s47 x42 h11 k K48) 1000000 (x47, ()) h10
noncomputable abbrev c196_4 (x39 : CV) (K54 : TupC 1 → CH → Bool) (h6 : CH) (x1 : CV) : Bool :=
 xBin (some (.int .i64)) .eql x39 (.int .i64 (.ofNat 0)) fun x56 =>
 xIte x56
 (K54 ((.bool true), ()) h6)
 (xAddr (some 1) x1 fun x57 =>
 xAddr (some 2) x57 fun x58 =>
 xLoad (some none) x58 h6 fun x59 =>
 xBin (some (.int .u32)) .rem x59 (.int .u32 (.ofNat 1024)) fun x60 =>
 xBin (some (.int .u32)) .eql x60 (.int .u32 (.ofNat 0)) fun x61 =>
 K54 (x61, ()) h6)
noncomputable abbrev c196_5 (x35 : CV) (h2 : CH) (x33 : CV) (k : CV → CH → Bool) (v0 : CV) (x1 : CV) : Bool :=
 xLoad (some none) x35 h2 fun x36 =>
 xConv (some (.int .u32)) (some (.int .i64)) x36 fun x37 =>
 xBin (some (.int .i64)) .quo x37 (.int .i64 (.ofNat 1024)) fun x38 =>
 bd204 x33 x38 h2 fun x39 h6 =>
 xJoin (n := 1) (fun s39 h7 =>
 xIte s39.1
 (k (.bool false) h7)
 (bd175 v0 x39 h7 fun x41 h8 =>
 c196_3 h8 x41 x1 k))
 (fun K54 => c196_4 x39 K54 h6 x1)
noncomputable abbrev c196_6 (v2 : CV) (x72 : CV) (h14 : CH) (v0 : CV) (K74 : TupC 1 → CH → Bool) : Bool :=
 xBin (some (.int .u8)) .eql v2 (.int .u8 (.ofNat 7)) fun x80 =>
 xIte x80
 (xAddr (some 0) x72 fun x81 =>
 xLoad (some none) x81 h14 fun x82 =>
 xBin (some (.int .i64)) .lss x82 (.int .i64 (.ofNat 0)) fun x83 =>
 xIte x83
 (xAddr (some 1) x72 fun x84 =>
 xLoad (some none) x84 h14 fun x85 =>
 bd212 v0 x85 h14 fun x86 h16 =>
 K74 (x86, ()) h16)
 (K74 ((.bool false), ()) h14))
 (K74 ((.bool false), ()) h14)
noncomputable abbrev c196_7 (v2 : CV) (x72 : CV) (h14 : CH) (v0 : CV) (K74 : TupC 1 → CH → Bool) : Bool :=
 xBin (some (.int .u8)) .eql v2 (.int .u8 (.ofNat 7)) fun x87 =>
 xIte x87
 (xAddr (some 0) x72 fun x88 =>
 xLoad (some none) x88 h14 fun x89 =>
 xBin (some (.int .i64)) .lss x89 (.int .i64 (.ofNat 0)) fun x90 =>
 xIte x90
 (xAddr (some 1) x72 fun x91 =>
 xLoad (some none) x91 h14 fun x92 =>
 bd212 v0 x92 h14 fun x93 h17 =>
 K74 (x93, ()) h17)
 (K74 ((.bool false), ()) h14))
 (K74 ((.bool false), ()) h14)
noncomputable abbrev c196_8 (k : CV → CH → Bool) (s61 : TupC 1) (K62 : TupC 1 → CH → Bool) (v2 : CV) (x72 : CV) (h14 : CH) (x6 : CV) (v0 : CV) : Bool :=
 xJoin (n := 1) (fun s72 h15 =>
 xIte s72.1
 (k (.bool true) h15)
 (xBin (some (.int .i64)) .add s61.1 (.int .i64 (.ofNat 1)) fun x74 =>
 K62 (x74, ()) h15))
 (fun K74 => xBin (some (.int .u8)) .eql v2 (.int .u8 (.ofNat 8)) fun x76 =>
 xIte x76
 (xAddr (some 0) x72 fun x77 =>
 xLoad (some none) x77 h14 fun x78 =>
 xBin (some (.int .i64)) .geq x78 x6 fun x79 =>
 xIte x79
 (K74 ((.bool true), ()) h14)
 (c196_6 v2 x72 h14 v0 K74))
 (c196_7 v2 x72 h14 v0 K74))
noncomputable abbrev c196_9 (s61 : TupC 1) (x66 : CV) (x1 : CV) (h12 : CH) (k : CV → CH → Bool) (K62 : TupC 1 → CH → Bool) (v2 : CV) (x6 : CV) (v0 : CV) : Bool :=
 xBin (some (.int .i64)) .lss s61.1 x66 fun x67 =>
 xIte x67
 (xAddr (some 17) x1 fun x68 =>
 xLoad (some none) x68 h12 fun x69 =>
 xIdx (some (none, 2)) x69 s61.1 fun x70 =>
 xLoad (some (some 2)) x70 h12 fun x71 =>
 xBoxP 278 [(.int .i64 (.ofNat 0)), (.int .i64 (.ofNat 0))] h12 fun x72 h13 =>
 xStore (some 2) x72 x71 h13 fun h14 =>
 c196_8 k s61 K62 v2 x72 h14 x6 v0)
 (k (.bool false) h12)
noncomputable abbrev c196_10 (x31 : CV) (x1 : CV) (h2 : CH) (k : CV → CH → Bool) (v0 : CV) (v2 : CV) (x6 : CV) : Bool :=
 xIte x31
 (xAddr (some 17) x1 fun x32 =>
 xLoad (some none) x32 h2 fun x33 =>
 xAddr (some 1) x1 fun x34 =>
 xAddr (some 2) x34 fun x35 =>
 c196_5 x35 h2 x33 k v0 x1)
 (xLoop (n := 1) (fun K62 s61 h12 =>
 xAddr (some 17) x1 fun x64 =>
 xLoad (some none) x64 h12 fun x65 =>
 xLen (some (.inl false)) x65 fun x66 =>
 c196_9 s61 x66 x1 h12 k K62 v2 x6 v0) 1000000 ((.int .i64 (.ofNat 0)), ()) h2)
noncomputable abbrev c196_11 (x7 : CV) (x1 : CV) (h2 : CH) (k : CV → CH → Bool) (v2 : CV) (x6 : CV) (v0 : CV) : Bool :=
 xIte x7
 (xAddr (some 1) x1 fun x8 =>
 xAddr (some 3) x8 fun x9 =>
 xLoad (some none) x9 h2 fun x10 =>
 xConv (some (.int .u32)) (some (.int .i64)) x10 fun x11 =>
 xAddr (some 17) x1 fun x12 =>
 xLoad (some none) x12 h2 fun x13 =>
 xLen (some (.inl false)) x13 fun x14 =>
 xBin (some (.int .i64)) .neq x11 x14 fun x15 =>
 k x15 h2)
 (xBin (some (.int .u8)) .eql v2 (.int .u8 (.ofNat 12)) fun x16 =>
 xIte x16
 (xLoop (n := 1) (fun K17 s16 h3 =>
 c196_1 x1 s16 k K17 x6 h3) 1000000 ((.int .i64 (.ofNat 0)), ()) h2)
 (xBin (some (.int .u8)) .eql v2 (.int .u8 (.ofNat 9)) fun x31 =>
 c196_10 x31 x1 h2 k v0 v2 x6))
noncomputable def bd196 (v0 v1 v2 : CV) (h : CH) (k : CV → CH → Bool) : Bool :=
 xBox 228 v1 h fun x1 h1 =>
 xAddr (some 1) x1 fun x2 =>
 xAddr (some 2) x2 fun x3 =>
 xLoad (some none) x3 h1 fun x4 =>
 xConv (some (.int .u32)) (some (.int .i64)) x4 fun x5 =>
 bd211 x5 h1 fun x6 h2 =>
 xBin (some (.int .u8)) .eql v2 (.int .u8 (.ofNat 10)) fun x7 =>
 c196_11 x7 x1 h2 k v2 x6 v0
noncomputable abbrev ex196 : Ex := fun args h k => a3 args fun v0 v1 v2 => bd196 v0 v1 v2 h k
theorem sim196 : SimF Tryz.prog 196 ex196 := fun args h k hk => by
 obtain ⟨v0, v1, v2, rfl, hk⟩ := a3_ok hk
 exact sim_of (qf := qz) (Z := zs) (C := [(211, ex211), (204, ex204), (175, ex175), (212, ex212)]) (T := []) ⟨zerosB_ok zsOk, (exCons (by kernel_rfl) sim211 (exCons (by kernel_rfl) sim204 (exCons (by kernel_rfl) sim175 (exCons (by kernel_rfl) sim212 exNil))))⟩ (.seq .nil (.seq .nil (.seq (.seq .nil (.seq .nil (.cond .nil (.seq .nil (.cond (.seq .nil (.loop [8] [67, 68, 69, 70, 71, 72, 73, 74, 75, 78, 79, 80, 81, 82, 6, 76, 77] (.seq (.join [75] [67, 68, 69, 70, 71, 72, 73, 74] .nil .nil) .nil))) (.seq .nil (.cond (.seq .nil (.seq (.join [101] [93, 94, 95, 96, 97, 98, 99, 100] .nil .nil) (.seq .nil (.seq .nil (.loop [11] [110, 111, 114, 115, 116, 117, 6, 112, 113] .nil))))) (.seq .nil (.loop [12] [20, 21, 22, 23, 24, 27, 28, 29, 30, 31, 13, 32, 33, 34, 35, 36, 37, 38, 39, 40, 41, 42, 43, 44, 45, 46, 47, 48, 49, 50, 51, 52, 53, 54, 6, 25, 26] (.seq .nil (.seq (.seq .nil (.join [54] [32, 33, 34, 35, 36, 37, 38, 39, 40, 41, 42, 43, 44, 45, 46, 47, 48, 49, 50, 51, 52, 53] .nil .nil)) .nil))))))))))) .nil))) Tryz.func196 _ h k (Eq.mp (by kernel_rfl : (bd196 v0 v1 v2 h k = true) = _) hk)

noncomputable abbrev c166_1 (v0 : CV) (x8 : CV) (v2 : CV) (h2 : CH) (v1 : CV) (s2 : TupC 1) (x2 : CV) (K3 : TupC 1 → CH → Bool) : Bool :=
 bd196 v0 x8 v2 h2 fun x9 h3 =>
 xIte x9
 (xIdx (some (none, 18)) v1 s2.1 fun x10 =>
 xAddr (some 0) x10 fun x11 =>
 xLoad (some none) x11 h3 fun x12 =>
 bd193 x2 x12 h3 fun x13 h4 =>
 xBin (some (.int .i64)) .add s2.1 (.int .i64 (.ofNat 1)) fun x14 =>
 K3 (x14, ()) h4)
 (xBin (some (.int .i64)) .add s2.1 (.int .i64 (.ofNat 1)) fun x15 =>
 K3 (x15, ()) h3)
noncomputable abbrev c166_2 (v1 : CV) (v0 : CV) (v2 : CV) (x2 : CV) (k : CV → CH → Bool) (h1 : CH) : Bool :=
 xLoop (n := 1) (fun K3 s2 h2 =>
 xLen (some (.inl false)) v1 fun x5 =>
 xBin (some (.int .i64)) .lss s2.1 x5 fun x6 =>
 xIte x6
 (xIdx (some (none, 18)) v1 s2.1 fun x7 =>
 xLoad (some (some 18)) x7 h2 fun x8 =>
 c166_1 v0 x8 v2 h2 v1 s2 x2 K3)
 (xNilCheck x2 fun x16 =>
 xAddr (some 1) x16 fun x17 =>
 xLoad (some none) x17 h2 fun x18 =>
 k x18 h2)) 1000000 ((.int .i64 (.ofNat 0)), ()) h1
noncomputable def bd166 (v0 v1 v2 : CV) (h : CH) (k : CV → CH → Bool) : Bool :=
 xBuild (some (.inl [(0, 1), (1, 1)])) (some (.agg [(.bytes 1 0), .nils])) [(0, v2)] fun x1 =>
 xBox 295 x1 h fun x2 h1 =>
 c166_2 v1 v0 v2 x2 k h1
noncomputable abbrev ex166 : Ex := fun args h k => a3 args fun v0 v1 v2 => bd166 v0 v1 v2 h k
theorem sim166 : SimF Tryz.prog 166 ex166 := fun args h k hk => by
 obtain ⟨v0, v1, v2, rfl, hk⟩ := a3_ok hk
 exact sim_of (qf := qz) (Z := zs) (C := [(196, ex196), (193, ex193)]) (T := []) ⟨zerosB_ok zsOk, (exCons (by kernel_rfl) sim196 (exCons (by kernel_rfl) sim193 exNil))⟩ (.seq .nil (.seq .nil (.seq (.seq .nil (.loop [8] [13, 14, 15, 16, 19, 20, 21, 22, 23, 24, 25, 9, 26, 27, 28, 29, 30, 31, 32, 33, 17, 18] .nil)) .nil))) Tryz.func166 _ h k (Eq.mp (by kernel_rfl : (bd166 v0 v1 v2 h k = true) = _) hk)

noncomputable abbrev c167_1 (x20 : CV) (h8 : CH) (s15 : TupC 2) (K16 : TupC 2 → CH → Bool) : Bool :=
 xBuild (some (.inl [(0, 1), (1, 1)])) (some (.agg [(.bytes 1 0), (.int .i64 (.ofNat 0))])) [(0, (.int .u8 (.ofNat 11))), (1, x20)] fun x25 =>
 xNewS (some (291, 2, 16, false)) (some [(.bytes 1 0), (.int .i64 (.ofNat 0))]) 1 [(0, x25)] h8 fun x26 h9 =>
 xApp (some (291, 2, 16, false)) s15.1 x26 h9 fun x27 h10 =>
 xBin (some (.int .i64)) .add s15.2.1 (.int .i64 (.ofNat 1)) fun x28 =>
 K16 (x27, x28, ()) h10
noncomputable abbrev c167_2 (x20 : CV) (x34 : CV) (K29 : TupC 1 → CH → Bool) (h6 : CH) (x1 : CV) : Bool :=
 xBin (some (.int .i64)) .lss x20 x34 fun x35 =>
 xIte x35
 (K29 ((.bool true), ()) h6)
 (xLen (some (.inl false)) x1 fun x36 =>
 xBin (some (.int .i64)) .lss x20 x36 fun x37 =>
 xIte x37
 (xIdx (some (none, 1)) x1 x20 fun x38 =>
 xLoad (some none) x38 h6 fun x39 =>
 xBin (some (.int .i64)) .gtr x39 (.int .i64 (.ofNat 0)) fun x40 =>
 K29 (x40, ()) h6)
 (K29 ((.bool false), ()) h6))
noncomputable abbrev c167_3 (x15 : CV) (s15 : TupC 2) (x20 : CV) (K16 : TupC 2 → CH → Bool) (v0 : CV) (h6 : CH) (x1 : CV) : Bool :=
 xJoin (n := 1) (fun s20 h7 =>
 xLoad (some (some 1024)) x15 h7 fun x22 =>
 bd135 x22 s15.2.1 h7 fun x23 h8 =>
 xBin (some .bool) .neq x23 s20.1 fun x24 =>
 xIte x24
 (c167_1 x20 h8 s15 K16)
 (xBin (some (.int .i64)) .add s15.2.1 (.int .i64 (.ofNat 1)) fun x29 =>
 K16 (s15.1, x29, ()) h8))
 (fun K29 => xNilCheck v0 fun x31 =>
 xAddr (some 2) x31 fun x32 =>
 xAddr (some 8) x32 fun x33 =>
 xLoad (some none) x33 h6 fun x34 =>
 c167_2 x20 x34 K29 h6 x1)
noncomputable abbrev c167_4 (s1 : TupC 2) (x15 : CV) (v0 : CV) (x1 : CV) (K2 : TupC 2 → CH → Bool) (h5 : CH) : Bool :=
 xLoop (n := 2) (fun K16 s15 h6 =>
 xBin (some (.int .i64)) .lss s15.2.1 (.int .i64 (.ofNat 8192)) fun x18 =>
 xIte x18
 (xBin (some (.int .i64)) .mul (.int .i64 (.ofNat 8192)) s1.2.1 fun x19 =>
 xBin (some (.int .i64)) .add x19 s15.2.1 fun x20 =>
 c167_3 x15 s15 x20 K16 v0 h6 x1)
 (xBin (some (.int .i64)) .add s1.2.1 (.int .i64 (.ofNat 1)) fun x41 =>
 K2 (s15.1, x41, ()) h6)) 1000000 (s1.1, (.int .i64 (.ofNat 0)), ()) h5
noncomputable abbrev c167_5 (s1 : TupC 2) (x7 : CV) (v0 : CV) (h2 : CH) (x1 : CV) (K2 : TupC 2 → CH → Bool) (k : CV → CH → Bool) : Bool :=
 xBin (some (.int .i64)) .lss s1.2.1 x7 fun x8 =>
 xIte x8
 (xNilCheck v0 fun x9 =>
 xAddr (some 2) x9 fun x10 =>
 xAddr (some 6) x10 fun x11 =>
 xLoad (some none) x11 h2 fun x12 =>
 xBin (some (.int .i64)) .add x12 s1.2.1 fun x13 =>
 bd175 v0 x13 h2 fun x14 h3 =>
 xBoxP 70 [(.bytes 1024 0)] h3 fun x15 h4 =>
 xStore (some 1024) x15 x14 h4 fun h5 =>
 c167_4 s1 x15 v0 x1 K2 h5)
 (k s1.1 h2)
noncomputable def bd167 (v0 v1 : CV) (h : CH) (k : CV → CH → Bool) : Bool :=
 bd195 v0 v1 h fun x1 h1 =>
 xLoop (n := 2) (fun K2 s1 h2 =>
 xNilCheck v0 fun x4 =>
 xAddr (some 2) x4 fun x5 =>
 xAddr (some 7) x5 fun x6 =>
 xLoad (some none) x6 h2 fun x7 =>
 c167_5 s1 x7 v0 h2 x1 K2 k) 1000000 (.nils, (.int .i64 (.ofNat 0)), ()) h1
noncomputable abbrev ex167 : Ex := fun args h k => a2 args fun v0 v1 => bd167 v0 v1 h k
theorem sim167 : SimF Tryz.prog 167 ex167 := fun args h k hk => by
 obtain ⟨v0, v1, rfl, hk⟩ := a2_ok hk
 exact sim_of (qf := qz) (Z := zs) (C := [(195, ex195), (175, ex175), (135, ex135)]) (T := []) ⟨zerosB_ok zsOk, (exCons (by kernel_rfl) sim195 (exCons (by kernel_rfl) sim175 (exCons (by kernel_rfl) sim135 exNil)))⟩ (.seq .nil (.seq .nil (.seq .nil (.seq (.seq .nil (.loop [5, 7] [15, 16, 17, 18, 19, 20, 21, 24, 25, 26, 27, 28, 29, 30, 31, 32, 8, 9, 33, 34, 37, 38, 39, 40, 10, 41, 42, 43, 44, 45, 46, 47, 48, 49, 50, 51, 52, 53, 54, 55, 56, 57, 58, 59, 60, 11, 61, 62, 63, 64, 65, 66, 67, 68, 69, 70, 35, 36, 22, 23] (.seq .nil (.seq (.seq .nil (.seq .nil (.loop [5, 9] [33, 34, 37, 38, 39, 40, 10, 41, 42, 43, 44, 45, 46, 47, 48, 49, 50, 51, 52, 53, 54, 55, 56, 57, 58, 59, 60, 11, 61, 62, 63, 64, 65, 66, 67, 68, 69, 70, 35, 36] (.seq .nil (.seq (.seq .nil (.join [11] [41, 42, 43, 44, 45, 46, 47, 48, 49, 50, 51, 52, 53, 54, 55, 56, 57, 58, 59, 60] .nil .nil)) .nil))))) .nil)))) .nil)))) Tryz.func167 _ h k (Eq.mp (by kernel_rfl : (bd167 v0 v1 h k = true) = _) hk)

noncomputable abbrev c205_1 (s12 : TupC 1) (x1 : CV) (h6 : CH) (x17 : CV) (x12 : CV) (K13 : TupC 1 → CH → Bool) : Bool :=
 xBin (some (.int .i64)) .add s12.1 (.int .i64 (.ofNat 1)) fun x18 =>
 xSlice (some (some 16, 1)) x1 (some s12.1) (some x18) none fun x19 =>
 xStrOf x19 h6 fun x20 =>
 xBin (some .string) .add x17 x20 fun x21 =>
 xAddr (some 1) x12 fun x22 =>
 xStore (some 1) x22 x21 h6 fun h7 =>
 xBin (some (.int .i64)) .add s12.1 (.int .i64 (.ofNat 1)) fun x23 =>
 K13 (x23, ()) h7
noncomputable abbrev c205_2 (s28 : TupC 1) (x2 : CV) (h11 : CH) (k : CV → CH → Bool) (x12 : CV) : Bool :=
 xIte s28.1
 (xBuild (some (.inl [(0, 1), (1, 1)])) (some (.agg [(.int .u16 (.ofNat 0)), (.str ⟨#[]⟩)])) [] fun x30 =>
 xStore (some 2) x2 x30 h11 fun h12 =>
 xLoad (some (some 2)) x2 h12 fun x31 =>
 k (.tup [x31, (.int .i64 (.ofNat 4))]) h12)
 (xLoad (some (some 2)) x12 h11 fun x32 =>
 xStore (some 2) x2 x32 h11 fun h13 =>
 xLoad (some (some 2)) x2 h13 fun x33 =>
 k (.tup [x33, (.int .i64 (.ofNat 0))]) h13)
noncomputable abbrev c205_3 (x28 : CV) (x26 : CV) (h9 : CH) (x2 : CV) (k : CV → CH → Bool) (x12 : CV) (x27 : CV) (x1 : CV) : Bool :=
 xStore (some 16) x28 x26 h9 fun h10 =>
 xJoin (n := 1) (fun s28 h11 =>
 c205_2 s28 x2 h11 k x12)
 (fun K33 => xBin (some (.int .i64)) .neq x27 (.int .i64 (.ofNat 0)) fun x35 =>
 xIte x35
 (K33 ((.bool true), ()) h10)
 (xLoad (some (some 16)) x28 h10 fun x36 =>
 xLoad (some (some 16)) x1 h10 fun x37 =>
 xEq (some (.agg (.bytes 16))) .neq x36 x37 h10 fun x38 =>
 K33 (x38, ()) h10))
noncomputable abbrev c205_4 (x12 : CV) (s12 : TupC 1) (x1 : CV) (K13 : TupC 1 → CH → Bool) (x2 : CV) (k : CV → CH → Bool) (h5 : CH) : Bool :=
 xJoin (n := 1) (fun s14 h6 =>
 xIte s14.1
 (xAddr (some 1) x12 fun x16 =>
 xLoad (some none) x16 h6 fun x17 =>
 c205_1 s12 x1 h6 x17 x12 K13)
 (xLoad (some (some 2)) x12 h6 fun x24 =>
 bd178 x24 h6 fun x25 h8 =>
 xExtract x25 0 fun x26 =>
 xExtract x25 1 fun x27 =>
 xBoxP 149 [(.bytes 16 0)] h8 fun x28 h9 =>
 c205_3 x28 x26 h9 x2 k x12 x27 x1))
 (fun K38 => xBin (some (.int .i64)) .lss s12.1 (.int .i64 (.ofNat 16)) fun x40 =>
 xIte x40
 (xIdx (some (some 16, 1)) x1 s12.1 fun x41 =>
 xLoad (some none) x41 h5 fun x42 =>
 xBin (some (.int .u8)) .neq x42 (.int .u8 (.ofNat 0)) fun x43 =>
 K38 (x43, ()) h5)
 (K38 ((.bool false), ()) h5))
noncomputable abbrev c205_5 (x5 : CV) (x9 : CV) (h2 : CH) (x1 : CV) (x2 : CV) (k : CV → CH → Bool) : Bool :=
 xBin (some (.int .u16)) .add x5 x9 fun x10 =>
 xBuild (some (.inl [(0, 1), (1, 1)])) (some (.agg [(.int .u16 (.ofNat 0)), (.str ⟨#[]⟩)])) [(0, x10)] fun x11 =>
 xBoxP 68 [(.int .u16 (.ofNat 0)), (.str ⟨#[]⟩)] h2 fun x12 h3 =>
 xStore (some 2) x12 x11 h3 fun h4 =>
 xLoop (n := 1) (fun K13 s12 h5 =>
 c205_4 x12 s12 x1 K13 x2 k h5) 1000000 ((.int .i64 (.ofNat 2)), ()) h4
noncomputable abbrev c205_6 (x1 : CV) (h2 : CH) (x2 : CV) (k : CV → CH → Bool) : Bool :=
 xIdx (some (some 16, 1)) x1 (.int .i64 (.ofNat 0)) fun x3 =>
 xLoad (some none) x3 h2 fun x4 =>
 xConv (some (.int .u8)) (some (.int .u16)) x4 fun x5 =>
 xIdx (some (some 16, 1)) x1 (.int .i64 (.ofNat 1)) fun x6 =>
 xLoad (some none) x6 h2 fun x7 =>
 xConv (some (.int .u8)) (some (.int .u16)) x7 fun x8 =>
 xBin (some (.int .u16)) .mul (.int .u16 (.ofNat 256)) x8 fun x9 =>
 c205_5 x5 x9 h2 x1 x2 k
noncomputable def bd205 (v0 : CV) (h : CH) (k : CV → CH → Bool) : Bool :=
 xBox 149 v0 h fun x1 h1 =>
 xBoxP 68 [(.int .u16 (.ofNat 0)), (.str ⟨#[]⟩)] h1 fun x2 h2 =>
 c205_6 x1 h2 x2 k
noncomputable abbrev exi205 : Ex := fun args h k => a1 args fun v0 => bd205 v0 h k
theorem simi205 : SimF Tryz.prog 205 exi205 := fun args h k hk => by
 obtain ⟨v0, rfl, hk⟩ := a1_ok hk
 exact sim_of (qf := qz) (Z := zs) (C := [(178, ex178)]) (T := []) ⟨zerosB_ok zsOk, (exCons (by kernel_rfl) sim178 exNil)⟩ (.seq .nil (.seq .nil (.seq (.seq .nil (.loop [5] [17, 18, 19, 20, 21, 22, 23, 24, 27, 28, 29, 30, 31, 32, 33, 34, 35, 25, 26] (.seq (.join [24] [17, 18, 19, 20, 21, 22, 23] .nil .nil) .nil))) (.seq .nil (.seq (.join [47] [41, 42, 43, 44, 45, 46] .nil .nil) .nil))))) Tryz.func205 _ h k (Eq.mp (by kernel_rfl : (bd205 v0 h k = true) = _) hk)
noncomputable abbrev ex205 : Ex := fun args h k => xQuiet (some exi205) args h k
theorem sim205 : SimF Tryz.prog 205 ex205 := simQ simi205

noncomputable abbrev c174_1 (x21 : CV) (s17 : TupC 1) (x16 : CV) (h8 : CH) (x17 : CV) (K18 : TupC 1 → CH → Bool) : Bool :=
 xBin (some (.int .i64)) .rem x21 (.int .i64 (.ofNat 1024)) fun x22 =>
 xBin (some (.int .i64)) .add x22 s17.1 fun x23 =>
 xIdx (some (some 1024, 1)) x16 x23 fun x24 =>
 xLoad (some none) x24 h8 fun x25 =>
 xIdx (some (some 16, 1)) x17 s17.1 fun x26 =>
 xStore (some 1) x26 x25 h8 fun h9 =>
 xBin (some (.int .i64)) .add s17.1 (.int .i64 (.ofNat 1)) fun x27 =>
 K18 (x27, ()) h9
noncomputable abbrev c174_2 (x32 : CV) (s1 : TupC 3) (K2 : TupC 3 → CH → Bool) (x31 : CV) (h12 : CH) : Bool :=
 xJoin (n := 1) (fun s32 h13 =>
 xLoad (some (some 2)) x32 h13 fun x34 =>
 xNewS (some (68, 2, 24, false)) (some [(.int .u16 (.ofNat 0)), (.str ⟨#[]⟩)]) 1 [(0, x34)] h13 fun x35 h14 =>
 xApp (some (68, 2, 24, false)) s1.2.1 x35 h14 fun x36 h15 =>
 xBin (some (.int .i64)) .add s1.2.2.1 (.int .i64 (.ofNat 1)) fun x37 =>
 K2 (s32.1, x36, x37, ()) h15)
 (fun K37 => xIte s1.1
 (xBin (some (.int .i64)) .eql x31 (.int .i64 (.ofNat 0)) fun x39 =>
 K37 (x39, ()) h12)
 (K37 ((.bool false), ()) h12))
noncomputable abbrev c174_3 (x20 : CV) (s1 : TupC 3) (s17 : TupC 1) (x16 : CV) (h8 : CH) (x17 : CV) (K18 : TupC 1 → CH → Bool) (K2 : TupC 3 → CH → Bool) : Bool :=
 xIte x20
 (xBin (some (.int .i64)) .mul s1.2.2.1 (.int .i64 (.ofNat 16)) fun x21 =>
 c174_1 x21 s17 x16 h8 x17 K18)
 (xLoad (some (some 16)) x17 h8 fun x28 =>
 ex205 [x28] h8 fun x29 h10 =>
 xExtract x29 0 fun x30 =>
 xExtract x29 1 fun x31 =>
 xBoxP 68 [(.int .u16 (.ofNat 0)), (.str ⟨#[]⟩)] h10 fun x32 h11 =>
 xStore (some 2) x32 x30 h11 fun h12 =>
 c174_2 x32 s1 K2 x31 h12)
noncomputable abbrev c174_4 (x11 : CV) (x13 : CV) (h2 : CH) (v0 : CV) (s1 : TupC 3) (K2 : TupC 3 → CH → Bool) : Bool :=
 bd204 x11 x13 h2 fun x14 h3 =>
 bd175 v0 x14 h3 fun x15 h4 =>
 xBoxP 70 [(.bytes 1024 0)] h4 fun x16 h5 =>
 xStore (some 1024) x16 x15 h5 fun h6 =>
 xBoxP 149 [(.bytes 16 0)] h6 fun x17 h7 =>
 xLoop (n := 1) (fun K18 s17 h8 =>
 xBin (some (.int .i64)) .lss s17.1 (.int .i64 (.ofNat 16)) fun x20 =>
 c174_3 x20 s1 s17 x16 h8 x17 K18 K2) 1000000 ((.int .i64 (.ofNat 0)), ()) h7
noncomputable abbrev c174_5 (x7 : CV) (s1 : TupC 3) (x1 : CV) (h2 : CH) (v0 : CV) (K2 : TupC 3 → CH → Bool) (k : CV → CH → Bool) : Bool :=
 xBin (some (.int .i64)) .quo x7 (.int .i64 (.ofNat 16)) fun x8 =>
 xBin (some (.int .i64)) .lss s1.2.2.1 x8 fun x9 =>
 xIte x9
 (xAddr (some 17) x1 fun x10 =>
 xLoad (some none) x10 h2 fun x11 =>
 xBin (some (.int .i64)) .mul s1.2.2.1 (.int .i64 (.ofNat 16)) fun x12 =>
 xBin (some (.int .i64)) .quo x12 (.int .i64 (.ofNat 1024)) fun x13 =>
 c174_4 x11 x13 h2 v0 s1 K2)
 (k (.tup [s1.2.1, s1.1]) h2)
noncomputable def bd174 (v0 v1 : CV) (h : CH) (k : CV → CH → Bool) : Bool :=
 xBox 228 v1 h fun x1 h1 =>
 xLoop (n := 3) (fun K2 s1 h2 =>
 xAddr (some 1) x1 fun x4 =>
 xAddr (some 2) x4 fun x5 =>
 xLoad (some none) x5 h2 fun x6 =>
 xConv (some (.int .u32)) (some (.int .i64)) x6 fun x7 =>
 c174_5 x7 s1 x1 h2 v0 K2 k) 1000000 ((.bool true), .nils, (.int .i64 (.ofNat 0)), ()) h1
noncomputable abbrev ex174 : Ex := fun args h k => a2 args fun v0 v1 => bd174 v0 v1 h k
theorem sim174 : SimF Tryz.prog 174 ex174 := fun args h k hk => by
 obtain ⟨v0, v1, rfl, hk⟩ := a2_ok hk
 exact sim_of (qf := qz) (Z := zs) (C := [(204, ex204), (175, ex175), (205, ex205)]) (T := []) ⟨zerosB_ok zsOk, (exCons (by kernel_rfl) sim204 (exCons (by kernel_rfl) sim175 (exCons (by kernel_rfl) sim205 exNil)))⟩ (.seq .nil (.seq .nil (.seq .nil (.seq (.seq .nil (.loop [7, 6, 8] [14, 15, 16, 17, 18, 19, 20, 23, 24, 25, 26, 27, 28, 29, 30, 9, 10, 11, 31, 32, 35, 36, 37, 38, 39, 40, 41, 42, 43, 33, 34, 45, 46, 44, 47, 48, 12, 13, 49, 50, 51, 52, 53, 54, 55, 56, 57, 21, 22] (.seq .nil (.seq (.seq .nil (.seq .nil (.seq (.seq .nil (.loop [11] [31, 32, 35, 36, 37, 38, 39, 40, 41, 42, 43, 33, 34] .nil)) (.seq .nil (.join [7] [49, 50, 51, 52, 53] .nil .nil))))) .nil)))) .nil)))) Tryz.func174 _ h k (Eq.mp (by kernel_rfl : (bd174 v0 v1 h k = true) = _) hk)

noncomputable abbrev c213_1 (v0 : CV) (s0 : TupC 1) (h1 : CH) (v1 : CV) (k : CV → CH → Bool) (K1 : TupC 1 → CH → Bool) : Bool :=
 xLen (some (.inl false)) v0 fun x3 =>
 xBin (some (.int .i64)) .lss s0.1 x3 fun x4 =>
 xIte x4
 (xIdx (some (none, 18)) v0 s0.1 fun x5 =>
 xAddr (some 0) x5 fun x6 =>
 xLoad (some none) x6 h1 fun x7 =>
 xBin (some (.int .i64)) .eql x7 v1 fun x8 =>
 xIte x8
 (k (.bool true) h1)
 (xBin (some (.int .i64)) .add s0.1 (.int .i64 (.ofNat 1)) fun x9 =>
 K1 (x9, ()) h1))
 (k (.bool false) h1)
noncomputable def bd213 (v0 v1 : CV) (h : CH) (k : CV → CH → Bool) : Bool :=
 xLoop (n := 1) (fun K1 s0 h1 =>
 c213_1 v0 s0 h1 v1 k K1) 1000000 ((.int .i64 (.ofNat 0)), ()) h
noncomputable abbrev ex213 : Ex := fun args h k => a2 args fun v0 v1 => bd213 v0 v1 h k
theorem sim213 : SimF Tryz.prog 213 ex213 := fun args h k hk => by
 obtain ⟨v0, v1, rfl, hk⟩ := a2_ok hk
 exact sim_of (qf := qz) (Z := zs) (C := []) (T := []) ⟨zerosB_ok zsOk, exNil⟩ (.seq .nil (.seq (.seq .nil (.loop [5] [6, 7, 8, 9, 12, 13, 14, 15, 16, 17, 18, 4, 10, 11] .nil)) .nil)) Tryz.func213 _ h k (Eq.mp (by kernel_rfl : (bd213 v0 v1 h k = true) = _) hk)

noncomputable abbrev c197_1 (x4 : CV) (s26 : TupC 1) (h7 : CH) (s11 : TupC 1) (k : CV → CH → Bool) (K27 : TupC 1 → CH → Bool) : Bool :=
 xIdx (some (none, 2)) x4 s26.1 fun x30 =>
 xAddr (some 1) x30 fun x31 =>
 xLoad (some none) x31 h7 fun x32 =>
 xIdx (some (none, 2)) x4 s11.1 fun x33 =>
 xAddr (some 1) x33 fun x34 =>
 xLoad (some none) x34 h7 fun x35 =>
 xBin (some .string) .eql x32 x35 fun x36 =>
 xIte x36
 (k (.bool true) h7)
 (xBin (some (.int .i64)) .add s26.1 (.int .i64 (.ofNat 1)) fun x37 =>
 K27 (x37, ()) h7)
noncomputable abbrev c197_2 (x4 : CV) (s11 : TupC 1) (h5 : CH) (K38 : TupC 1 → CH → Bool) : Bool :=
 xIdx (some (none, 2)) x4 s11.1 fun x42 =>
 xAddr (some 1) x42 fun x43 =>
 xLoad (some none) x43 h5 fun x44 =>
 xBin (some .string) .eql x44 (.str ⟨#[46]⟩) fun x45 =>
 xIte x45
 (K38 ((.bool true), ()) h5)
 (xIdx (some (none, 2)) x4 s11.1 fun x46 =>
 xAddr (some 1) x46 fun x47 =>
 xLoad (some none) x47 h5 fun x48 =>
 xBin (some .string) .eql x48 (.str ⟨#[46, 46]⟩) fun x49 =>
 K38 (x49, ()) h5)
noncomputable abbrev c197_3 (k : CV → CH → Bool) (s11 : TupC 1) (x4 : CV) (K12 : TupC 1 → CH → Bool) (x25 : CV) (h5 : CH) : Bool :=
 xJoin (n := 1) (fun s25 h6 =>
 xIte s25.1
 (k (.bool true) h6)
 (xLoop (n := 1) (fun K27 s26 h7 =>
 xBin (some (.int .i64)) .lss s26.1 s11.1 fun x29 =>
 xIte x29
 (c197_1 x4 s26 h7 s11 k K27)
 (xBin (some (.int .i64)) .add s11.1 (.int .i64 (.ofNat 1)) fun x38 =>
 K12 (x38, ()) h7)) 1000000 ((.int .i64 (.ofNat 0)), ()) h6))
 (fun K38 => xUn .not x25 fun x40 =>
 xIte x40
 (K38 ((.bool true), ()) h5)
 (xBin (some (.int .i64)) .gtr s11.1 (.int .i64 (.ofNat 1)) fun x41 =>
 xIte x41
 (c197_2 x4 s11 h5 K38)
 (K38 ((.bool false), ()) h5)))
noncomputable abbrev c197_4 (x18 : CV) (s11 : TupC 1) (K12 : TupC 1 → CH → Bool) (h4 : CH) (x4 : CV) (v1 : CV) (k : CV → CH → Bool) : Bool :=
 xBin (some (.int .u16)) .eql x18 (.int .u16 (.ofNat 0)) fun x19 =>
 xIte x19
 (xBin (some (.int .i64)) .add s11.1 (.int .i64 (.ofNat 1)) fun x20 =>
 K12 (x20, ()) h4)
 (xIdx (some (none, 2)) x4 s11.1 fun x21 =>
 xAddr (some 0) x21 fun x22 =>
 xLoad (some none) x22 h4 fun x23 =>
 xConv (some (.int .u16)) (some (.int .i64)) x23 fun x24 =>
 bd213 v1 x24 h4 fun x25 h5 =>
 c197_3 k s11 x4 K12 x25 h5)
noncomputable abbrev c197_5 (s10 : TupC 1) (k : CV → CH → Bool) (h3 : CH) (x4 : CV) (v1 : CV) : Bool :=
 xIte s10.1
 (k (.bool true) h3)
 (xLoop (n := 1) (fun K12 s11 h4 =>
 xLen (some (.inl false)) x4 fun x14 =>
 xBin (some (.int .i64)) .lss s11.1 x14 fun x15 =>
 xIte x15
 (xIdx (some (none, 2)) x4 s11.1 fun x16 =>
 xAddr (some 0) x16 fun x17 =>
 xLoad (some none) x17 h4 fun x18 =>
 c197_4 x18 s11 K12 h4 x4 v1 k)
 (k (.bool false) h4)) 1000000 ((.int .i64 (.ofNat 0)), ()) h3)
noncomputable abbrev c197_6 (x55 : CV) (x52 : CV) (h2 : CH) (K49 : TupC 1 → CH → Bool) (x4 : CV) : Bool :=
 xBuild (some (.inl [(0, 1), (1, 1)])) (some (.agg [(.int .u16 (.ofNat 0)), (.str ⟨#[]⟩)])) [(0, x55), (1, (.str ⟨#[46]⟩))] fun x56 =>
 xEq (some (.agg (.fld 0 (some none) .int (.fld 1 (some none) .str .done)))) .neq x52 x56 h2 fun x57 =>
 xIte x57
 (K49 ((.bool true), ()) h2)
 (xIdx (some (none, 2)) x4 (.int .i64 (.ofNat 1)) fun x58 =>
 xAddr (some 1) x58 fun x59 =>
 xLoad (some none) x59 h2 fun x60 =>
 xBin (some .string) .neq x60 (.str ⟨#[46, 46]⟩) fun x61 =>
 K49 (x61, ()) h2)
noncomputable abbrev c197_7 (x10 : CV) (k : CV → CH → Bool) (h2 : CH) (x4 : CV) (v1 : CV) (x1 : CV) : Bool :=
 xIte x10
 (k (.bool false) h2)
 (xJoin (n := 1) (fun s10 h3 =>
 c197_5 s10 k h3 x4 v1)
 (fun K49 => xIdx (some (none, 2)) x4 (.int .i64 (.ofNat 0)) fun x51 =>
 xLoad (some (some 2)) x51 h2 fun x52 =>
 xAddr (some 0) x1 fun x53 =>
 xLoad (some none) x53 h2 fun x54 =>
 xConv (some (.int .i64)) (some (.int .u16)) x54 fun x55 =>
 c197_6 x55 x52 h2 K49 x4))
noncomputable abbrev c197_8 (x1 : CV) (h1 : CH) (v0 : CV) (k : CV → CH → Bool) (v1 : CV) : Bool :=
 xLoad (some (some 18)) x1 h1 fun x2 =>
 bd174 v0 x2 h1 fun x3 h2 =>
 xExtract x3 0 fun x4 =>
 xExtract x3 1 fun x5 =>
 xUn .not x5 fun x6 =>
 xIte x6
 (k (.bool true) h2)
 (xAddr (some 1) x1 fun x7 =>
 xAddr (some 1) x7 fun x8 =>
 xLoad (some none) x8 h2 fun x9 =>
 xBin (some (.int .u16)) .eql x9 (.int .u16 (.ofNat 0)) fun x10 =>
 c197_7 x10 k h2 x4 v1 x1)
noncomputable def bd197 (v0 v1 v2 : CV) (h : CH) (k : CV → CH → Bool) : Bool :=
 xBox 228 v2 h fun x1 h1 =>
 c197_8 x1 h1 v0 k v1
noncomputable abbrev ex197 : Ex := fun args h k => a3 args fun v0 v1 v2 => bd197 v0 v1 v2 h k
theorem sim197 : SimF Tryz.prog 197 ex197 := fun args h k hk => by
 obtain ⟨v0, v1, v2, rfl, hk⟩ := a3_ok hk
 exact sim_of (qf := qz) (Z := zs) (C := [(174, ex174), (213, ex213)]) (T := []) ⟨zerosB_ok zsOk, (exCons (by kernel_rfl) sim174 (exCons (by kernel_rfl) sim213 exNil))⟩ (.seq .nil (.seq .nil (.seq .nil (.seq .nil (.seq (.join [38] [24, 25, 26, 27, 28, 29, 30, 31, 32, 33, 34, 35, 36, 37] .nil .nil) (.seq (.seq .nil (.loop [9] [39, 40, 41, 42, 45, 46, 47, 48, 49, 50, 51, 52, 53, 54, 55, 56, 57, 58, 10, 59, 60, 61, 62, 63, 64, 65, 66, 67, 68, 69, 70, 71, 72, 73, 74, 75, 76, 77, 78, 79, 80, 6, 11, 81, 82, 83, 86, 87, 88, 89, 90, 91, 92, 93, 94, 95, 96, 84, 85, 43, 44] (.seq .nil (.seq (.seq .nil (.seq .nil (.seq (.join [80] [59, 60, 61, 62, 63, 64, 65, 66, 67, 68, 69, 70, 71, 72, 73, 74, 75, 76, 77, 78, 79] .nil .nil) (.seq .nil (.loop [11] [81, 82, 83, 86, 87, 88, 89, 90, 91, 92, 93, 94, 95, 96, 6, 84, 85] .nil))))) .nil)))) .nil)))))) Tryz.func197 _ h k (Eq.mp (by kernel_rfl : (bd197 v0 v1 v2 h k = true) = _) hk)

noncomputable abbrev c168_1 (v0 : CV) (v1 : CV) (x13 : CV) (h2 : CH) (s2 : TupC 1) (x2 : CV) (K3 : TupC 1 → CH → Bool) : Bool :=
 bd197 v0 v1 x13 h2 fun x14 h3 =>
 xIte x14
 (xIdx (some (none, 18)) v1 s2.1 fun x15 =>
 xAddr (some 0) x15 fun x16 =>
 xLoad (some none) x16 h3 fun x17 =>
 bd193 x2 x17 h3 fun x18 h4 =>
 xBin (some (.int .i64)) .add s2.1 (.int .i64 (.ofNat 1)) fun x19 =>
 K3 (x19, ()) h4)
 (xBin (some (.int .i64)) .add s2.1 (.int .i64 (.ofNat 1)) fun x20 =>
 K3 (x20, ()) h3)
noncomputable abbrev c168_2 (x7 : CV) (h2 : CH) (v1 : CV) (s2 : TupC 1) (v0 : CV) (x2 : CV) (K3 : TupC 1 → CH → Bool) : Bool :=
 xAddr (some 1) x7 fun x8 =>
 xAddr (some 0) x8 fun x9 =>
 xLoad (some none) x9 h2 fun x10 =>
 xBin (some (.int .u16)) .eql x10 (.int .u16 (.ofNat 2)) fun x11 =>
 xIte x11
 (xIdx (some (none, 18)) v1 s2.1 fun x12 =>
 xLoad (some (some 18)) x12 h2 fun x13 =>
 c168_1 v0 v1 x13 h2 s2 x2 K3)
 (xBin (some (.int .i64)) .add s2.1 (.int .i64 (.ofNat 1)) fun x21 =>
 K3 (x21, ()) h2)
noncomputable abbrev c168_3 (v1 : CV) (v0 : CV) (x2 : CV) (k : CV → CH → Bool) (h1 : CH) : Bool :=
 xLoop (n := 1) (fun K3 s2 h2 =>
 xLen (some (.inl false)) v1 fun x5 =>
 xBin (some (.int .i64)) .lss s2.1 x5 fun x6 =>
 xIte x6
 (xIdx (some (none, 18)) v1 s2.1 fun x7 =>
 c168_2 x7 h2 v1 s2 v0 x2 K3)
 (xNilCheck x2 fun x22 =>
 xAddr (some 1) x22 fun x23 =>
 xLoad (some none) x23 h2 fun x24 =>
 k x24 h2)) 1000000 ((.int .i64 (.ofNat 0)), ()) h1
noncomputable def bd168 (v0 v1 : CV) (h : CH) (k : CV → CH → Bool) : Bool :=
 xBuild (some (.inl [(0, 1), (1, 1)])) (some (.agg [(.bytes 1 0), .nils])) [(0, (.int .u8 (.ofNat 13)))] fun x1 =>
 xBox 295 x1 h fun x2 h1 =>
 c168_3 v1 v0 x2 k h1
noncomputable abbrev ex168 : Ex := fun args h k => a2 args fun v0 v1 => bd168 v0 v1 h k
theorem sim168 : SimF Tryz.prog 168 ex168 := fun args h k hk => by
 obtain ⟨v0, v1, rfl, hk⟩ := a2_ok hk
 exact sim_of (qf := qz) (Z := zs) (C := [(197, ex197), (193, ex193)]) (T := []) ⟨zerosB_ok zsOk, (exCons (by kernel_rfl) sim197 (exCons (by kernel_rfl) sim193 exNil))⟩ (.seq .nil (.seq .nil (.seq (.seq .nil (.loop [6] [10, 11, 12, 13, 16, 17, 18, 19, 20, 21, 22, 23, 24, 25, 26, 27, 28, 29, 7, 30, 31, 32, 33, 34, 35, 36, 37, 14, 15] .nil)) .nil))) Tryz.func168 _ h k (Eq.mp (by kernel_rfl : (bd168 v0 v1 h k = true) = _) hk)

noncomputable abbrev c169_1 (x22 : CV) (x26 : CV) (h4 : CH) (s11 : TupC 2) (K12 : TupC 2 → CH → Bool) : Bool :=
 xBuild (some (.inl [(0, 1), (1, 1)])) (some (.agg [(.int .i64 (.ofNat 0)), (.int .i64 (.ofNat 0))])) [(0, x22), (1, x26)] fun x27 =>
 xNewS (some (302, 2, 16, false)) (some [(.int .i64 (.ofNat 0)), (.int .i64 (.ofNat 0))]) 1 [(0, x27)] h4 fun x28 h5 =>
 xApp (some (302, 2, 16, false)) s11.1 x28 h5 fun x29 h6 =>
 xBin (some (.int .i64)) .add s11.2.1 (.int .i64 (.ofNat 1)) fun x30 =>
 K12 (x29, x30, ()) h6
noncomputable abbrev c169_2 (x19 : CV) (v1 : CV) (s0 : TupC 2) (h4 : CH) (x10 : CV) (s11 : TupC 2) (K12 : TupC 2 → CH → Bool) : Bool :=
 xIte x19
 (xIdx (some (none, 18)) v1 s0.2.1 fun x20 =>
 xAddr (some 0) x20 fun x21 =>
 xLoad (some none) x21 h4 fun x22 =>
 xIdx (some (none, 2)) x10 s11.2.1 fun x23 =>
 xAddr (some 0) x23 fun x24 =>
 xLoad (some none) x24 h4 fun x25 =>
 xConv (some (.int .u16)) (some (.int .i64)) x25 fun x26 =>
 c169_1 x22 x26 h4 s11 K12)
 (xBin (some (.int .i64)) .add s11.2.1 (.int .i64 (.ofNat 1)) fun x31 =>
 K12 (s11.1, x31, ()) h4)
noncomputable abbrev c169_3 (s11 : TupC 2) (x14 : CV) (x10 : CV) (h4 : CH) (v1 : CV) (s0 : TupC 2) (K12 : TupC 2 → CH → Bool) (K1 : TupC 2 → CH → Bool) : Bool :=
 xBin (some (.int .i64)) .lss s11.2.1 x14 fun x15 =>
 xIte x15
 (xIdx (some (none, 2)) x10 s11.2.1 fun x16 =>
 xAddr (some 0) x16 fun x17 =>
 xLoad (some none) x17 h4 fun x18 =>
 xBin (some (.int .u16)) .neq x18 (.int .u16 (.ofNat 0)) fun x19 =>
 c169_2 x19 v1 s0 h4 x10 s11 K12)
 (xBin (some (.int .i64)) .add s0.2.1 (.int .i64 (.ofNat 1)) fun x32 =>
 K1 (s11.1, x32, ()) h4)
noncomputable abbrev c169_4 (s4 : TupC 1) (s0 : TupC 2) (K1 : TupC 2 → CH → Bool) (h2 : CH) (v1 : CV) (v0 : CV) : Bool :=
 xIte s4.1
 (xBin (some (.int .i64)) .add s0.2.1 (.int .i64 (.ofNat 1)) fun x6 =>
 K1 (s0.1, x6, ()) h2)
 (xIdx (some (none, 18)) v1 s0.2.1 fun x7 =>
 xLoad (some (some 18)) x7 h2 fun x8 =>
 bd174 v0 x8 h2 fun x9 h3 =>
 xExtract x9 0 fun x10 =>
 xExtract x9 1 fun x11 =>
 xLoop (n := 2) (fun K12 s11 h4 =>
 xLen (some (.inl false)) x10 fun x14 =>
 c169_3 s11 x14 x10 h4 v1 s0 K12 K1) 1000000 (s0.1, (.int .i64 (.ofNat 2)), ()) h3)
noncomputable abbrev c169_5 (x36 : CV) (h1 : CH) (K32 : TupC 1 → CH → Bool) (v1 : CV) (s0 : TupC 2) : Bool :=
 xLoad (some none) x36 h1 fun x37 =>
 xBin (some (.int .u16)) .neq x37 (.int .u16 (.ofNat 2)) fun x38 =>
 xIte x38
 (K32 ((.bool true), ()) h1)
 (xIdx (some (none, 18)) v1 s0.2.1 fun x39 =>
 xAddr (some 1) x39 fun x40 =>
 xAddr (some 1) x40 fun x41 =>
 xLoad (some none) x41 h1 fun x42 =>
 xBin (some (.int .u16)) .eql x42 (.int .u16 (.ofNat 0)) fun x43 =>
 K32 (x43, ()) h1)
noncomputable def bd169 (v0 v1 : CV) (h : CH) (k : CV → CH → Bool) : Bool :=
 xLoop (n := 2) (fun K1 s0 h1 =>
 xLen (some (.inl false)) v1 fun x3 =>
 xBin (some (.int .i64)) .lss s0.2.1 x3 fun x4 =>
 xIte x4
 (xJoin (n := 1) (fun s4 h2 =>
 c169_4 s4 s0 K1 h2 v1 v0)
 (fun K32 => xIdx (some (none, 18)) v1 s0.2.1 fun x34 =>
 xAddr (some 1) x34 fun x35 =>
 xAddr (some 0) x35 fun x36 =>
 c169_5 x36 h1 K32 v1 s0))
 (k s0.1 h1)) 1000000 (.nils, (.int .i64 (.ofNat 0)), ()) h
noncomputable abbrev ex169 : Ex := fun args h k => a2 args fun v0 v1 => bd169 v0 v1 h k
theorem sim169 : SimF Tryz.prog 169 ex169 := fun args h k hk => by
 obtain ⟨v0, v1, rfl, hk⟩ := a2_ok hk
 exact sim_of (qf := qz) (Z := zs) (C := [(174, ex174)]) (T := []) ⟨zerosB_ok zsOk, (exCons (by kernel_rfl) sim174 exNil)⟩ (.seq .nil (.seq .nil (.seq (.seq .nil (.loop [5, 6] [10, 11, 12, 13, 16, 17, 18, 19, 20, 21, 22, 23, 24, 25, 26, 27, 28, 29, 30, 31, 33, 34, 35, 36, 37, 38, 32, 39, 40, 7, 8, 9, 41, 42, 43, 44, 47, 48, 49, 50, 51, 52, 53, 54, 55, 56, 57, 58, 59, 60, 61, 62, 63, 64, 65, 66, 67, 45, 46, 14, 15] (.seq .nil (.seq (.seq (.join [31] [16, 17, 18, 19, 20, 21, 22, 23, 24, 25, 26, 27, 28, 29, 30] .nil .nil) (.seq .nil (.seq .nil (.loop [5, 9] [41, 42, 43, 44, 47, 48, 49, 50, 51, 52, 53, 54, 55, 56, 57, 58, 59, 60, 61, 62, 63, 64, 65, 66, 67, 45, 46] .nil)))) .nil)))) .nil))) Tryz.func169 _ h k (Eq.mp (by kernel_rfl : (bd169 v0 v1 h k = true) = _) hk)

noncomputable abbrev c198_1 (s14 : TupC 1) (v1 : CV) (s10 : TupC 2) (h5 : CH) (x7 : CV) (K11 : TupC 2 → CH → Bool) : Bool :=
 xIte s14.1
 (xIdx (some (none, 2)) v1 s10.2.1 fun x16 =>
 xAddr (some 1) x16 fun x17 =>
 xLoad (some none) x17 h5 fun x18 =>
 xIdx (some (none, 1)) x7 x18 fun x19 =>
 xStore (some 1) x19 (.bool true) h5 fun h6 =>
 xBin (some (.int .i64)) .add s10.2.1 (.int .i64 (.ofNat 1)) fun x20 =>
 K11 ((.bool true), x20, ()) h6)
 (xBin (some (.int .i64)) .add s10.2.1 (.int .i64 (.ofNat 1)) fun x21 =>
 K11 (s10.1, x21, ()) h5)
noncomputable abbrev c198_2 (x7 : CV) (x25 : CV) (h4 : CH) (v1 : CV) (s10 : TupC 2) (K21 : TupC 1 → CH → Bool) : Bool :=
 xIdx (some (none, 1)) x7 x25 fun x26 =>
 xLoad (some none) x26 h4 fun x27 =>
 xIte x27
 (xIdx (some (none, 2)) v1 s10.2.1 fun x28 =>
 xAddr (some 1) x28 fun x29 =>
 xLoad (some none) x29 h4 fun x30 =>
 xIdx (some (none, 1)) x7 x30 fun x31 =>
 xLoad (some none) x31 h4 fun x32 =>
 xUn .not x32 fun x33 =>
 K21 (x33, ()) h4)
 (K21 ((.bool false), ()) h4)
noncomputable abbrev c198_3 (v1 : CV) (x7 : CV) (K9 : TupC 1 → CH → Bool) (h3 : CH) : Bool :=
 xLoop (n := 2) (fun K11 s10 h4 =>
 xLen (some (.inl false)) v1 fun x13 =>
 xBin (some (.int .i64)) .lss s10.2.1 x13 fun x14 =>
 xIte x14
 (xJoin (n := 1) (fun s14 h5 =>
 c198_1 s14 v1 s10 h5 x7 K11)
 (fun K21 => xIdx (some (none, 2)) v1 s10.2.1 fun x23 =>
 xAddr (some 0) x23 fun x24 =>
 xLoad (some none) x24 h4 fun x25 =>
 c198_2 x7 x25 h4 v1 s10 K21))
 (K9 (s10.1, ()) h4)) 1000000 ((.bool false), (.int .i64 (.ofNat 0)), ()) h3
noncomputable abbrev c198_4 (x5 : CV) (h : CH) (v1 : CV) (k : CV → CH → Bool) : Bool :=
 xBin (some (.int .i64)) .add x5 (.int .i64 (.ofNat 1)) fun x6 =>
 xMake (some (4, 1, 1, false)) (some [(.bool false)]) x6 x6 h fun x7 h1 =>
 xIdx (some (none, 1)) x7 (.int .i64 (.ofNat 1)) fun x8 =>
 xStore (some 1) x8 (.bool true) h1 fun h2 =>
 xLoop (n := 1) (fun K9 s8 h3 =>
 xIte s8.1
 (c198_3 v1 x7 K9 h3)
 (k x7 h3)) 1000000 ((.bool true), ()) h2
noncomputable def bd198 (v0 v1 : CV) (h : CH) (k : CV → CH → Bool) : Bool :=
 xNilCheck v0 fun x1 =>
 xAddr (some 2) x1 fun x2 =>
 xAddr (some 0) x2 fun x3 =>
 xAddr (some 2) x3 fun x4 =>
 xLoad (some none) x4 h fun x5 =>
 c198_4 x5 h v1 k
noncomputable abbrev ex198 : Ex := fun args h k => a2 args fun v0 v1 => bd198 v0 v1 h k
theorem sim198 : SimF Tryz.prog 198 ex198 := fun args h k hk => by
 obtain ⟨v0, v1, rfl, hk⟩ := a2_ok hk
 exact sim_of (qf := qz) (Z := zs) (C := []) (T := []) ⟨zerosB_ok zsOk, exNil⟩ (.seq .nil (.seq .nil (.seq .nil (.seq .nil (.seq (.loop [6] [18, 7, 19, 20, 21, 22, 25, 26, 27, 28, 29, 30, 31, 32, 33, 34, 35, 36, 37, 38, 39, 40, 41, 42, 43, 44, 45, 46, 47, 48, 49, 50, 23, 24] (.seq .nil (.seq .nil (.seq .nil (.loop [6, 7] [19, 20, 21, 22, 25, 26, 27, 28, 29, 30, 31, 32, 33, 34, 35, 36, 37, 38, 39, 40, 41, 42, 43, 44, 45, 46, 47, 48, 49, 50, 23, 24] (.seq .nil (.seq (.join [43] [25, 26, 27, 28, 29, 30, 31, 32, 33, 34, 35, 36, 37, 38, 39, 40, 41, 42] .nil .nil) .nil))))))) .nil))))) Tryz.func198 _ h k (Eq.mp (by kernel_rfl : (bd198 v0 v1 h k = true) = _) hk)

noncomputable abbrev c199_1 (x8 : CV) (v0 : CV) (s0 : TupC 3) (h1 : CH) (K1 : TupC 3 → CH → Bool) : Bool :=
 xIte x8
 (xIdx (some (none, 2)) v0 s0.2.2.1 fun x9 =>
 xAddr (some 0) x9 fun x10 =>
 xLoad (some none) x10 h1 fun x11 =>
 xBin (some (.int .i64)) .add s0.2.1 (.int .i64 (.ofNat 1)) fun x12 =>
 xBin (some (.int .i64)) .add s0.2.2.1 (.int .i64 (.ofNat 1)) fun x13 =>
 K1 (x11, x12, x13, ()) h1)
 (xBin (some (.int .i64)) .add s0.2.2.1 (.int .i64 (.ofNat 1)) fun x14 =>
 K1 (s0.1, s0.2.1, x14, ()) h1)
noncomputable def bd199 (v0 v1 : CV) (h : CH) (k : CV → CH → Bool) : Bool :=
 xLoop (n := 3) (fun K1 s0 h1 =>
 xLen (some (.inl false)) v0 fun x3 =>
 xBin (some (.int .i64)) .lss s0.2.2.1 x3 fun x4 =>
 xIte x4
 (xIdx (some (none, 2)) v0 s0.2.2.1 fun x5 =>
 xAddr (some 1) x5 fun x6 =>
 xLoad (some none) x6 h1 fun x7 =>
 xBin (some (.int .i64)) .eql x7 v1 fun x8 =>
 c199_1 x8 v0 s0 h1 K1)
 (k (.tup [s0.1, s0.2.1]) h1)) 1000000 ((.int .i64 (.ofNat 0)), (.int .i64 (.ofNat 0)), (.int .i64 (.ofNat 0)), ()) h
noncomputable abbrev ex199 : Ex := fun args h k => a2 args fun v0 v1 => bd199 v0 v1 h k
theorem sim199 : SimF Tryz.prog 199 ex199 := fun args h k hk => by
 obtain ⟨v0, v1, rfl, hk⟩ := a2_ok hk
 exact sim_of (qf := qz) (Z := zs) (C := []) (T := []) ⟨zerosB_ok zsOk, exNil⟩ (.seq .nil (.seq .nil (.seq .nil (.seq (.seq .nil (.loop [6, 7, 8] [9, 10, 11, 12, 15, 16, 17, 18, 19, 20, 21, 22, 23, 24, 25, 26, 27, 28, 13, 14] .nil)) .nil)))) Tryz.func199 _ h k (Eq.mp (by kernel_rfl : (bd199 v0 v1 h k = true) = _) hk)

noncomputable abbrev c170_1 (x2 : CV) (s3 : TupC 1) (K4 : TupC 1 → CH → Bool) (x21 : CV) (h8 : CH) (x15 : CV) : Bool :=
 xJoin (n := 1) (fun s24 h9 =>
 xIte s24.1
 (bd193 x2 (.int .i64 (.ofNat 1)) h9 fun x26 h10 =>
 xBin (some (.int .i64)) .add s3.1 (.int .i64 (.ofNat 1)) fun x27 =>
 K4 (x27, ()) h10)
 (xBin (some (.int .i64)) .add s3.1 (.int .i64 (.ofNat 1)) fun x28 =>
 K4 (x28, ()) h9))
 (fun K28 => xBin (some (.int .i64)) .neq x21 (.int .i64 (.ofNat 0)) fun x30 =>
 xIte x30
 (K28 ((.bool true), ()) h8)
 (xIdx (some (none, 2)) x15 (.int .i64 (.ofNat 1)) fun x31 =>
 xAddr (some 0) x31 fun x32 =>
 xLoad (some none) x32 h8 fun x33 =>
 xBin (some (.int .u16)) .neq x33 (.int .u16 (.ofNat 1)) fun x34 =>
 K28 (x34, ()) h8))
noncomputable abbrev c170_2 (x44 : CV) (h8 : CH) (x20 : CV) (K40 : TupC 1 → CH → Bool) (x10 : CV) (x3 : CV) : Bool :=
 xLoad (some none) x44 h8 fun x45 =>
 xConv (some (.int .u16)) (some (.int .i64)) x45 fun x46 =>
 xBin (some (.int .i64)) .neq x46 x20 fun x47 =>
 xIte x47
 (K40 ((.bool true), ()) h8)
 (xAddr (some 0) x10 fun x48 =>
 xLoad (some none) x48 h8 fun x49 =>
 xIdx (some (none, 1)) x3 x49 fun x50 =>
 xLoad (some none) x50 h8 fun x51 =>
 xUn .not x51 fun x52 =>
 K40 (x52, ()) h8)
noncomputable abbrev c170_3 (x10 : CV) (x2 : CV) (s3 : TupC 1) (K4 : TupC 1 → CH → Bool) (x21 : CV) (h8 : CH) (x15 : CV) (x20 : CV) (x3 : CV) : Bool :=
 xJoin (n := 1) (fun s34 h11 =>
 xIte s34.1
 (xAddr (some 0) x10 fun x36 =>
 xLoad (some none) x36 h11 fun x37 =>
 bd193 x2 x37 h11 fun x38 h12 =>
 xBin (some (.int .i64)) .add s3.1 (.int .i64 (.ofNat 1)) fun x39 =>
 K4 (x39, ()) h12)
 (xBin (some (.int .i64)) .add s3.1 (.int .i64 (.ofNat 1)) fun x40 =>
 K4 (x40, ()) h11))
 (fun K40 => xBin (some (.int .i64)) .neq x21 (.int .i64 (.ofNat 1)) fun x42 =>
 xIte x42
 (K40 ((.bool true), ()) h8)
 (xIdx (some (none, 2)) x15 (.int .i64 (.ofNat 1)) fun x43 =>
 xAddr (some 0) x43 fun x44 =>
 c170_2 x44 h8 x20 K40 x10 x3))
noncomputable abbrev c170_4 (x10 : CV) (h7 : CH) (v2 : CV) (x2 : CV) (s3 : TupC 1) (K4 : TupC 1 → CH → Bool) (x15 : CV) (x3 : CV) : Bool :=
 xAddr (some 0) x10 fun x17 =>
 xLoad (some none) x17 h7 fun x18 =>
 bd199 v2 x18 h7 fun x19 h8 =>
 xExtract x19 0 fun x20 =>
 xExtract x19 1 fun x21 =>
 xAddr (some 0) x10 fun x22 =>
 xLoad (some none) x22 h8 fun x23 =>
 xBin (some (.int .i64)) .eql x23 (.int .i64 (.ofNat 1)) fun x24 =>
 xIte x24
 (c170_1 x2 s3 K4 x21 h8 x15)
 (c170_3 x10 x2 s3 K4 x21 h8 x15 x20 x3)
noncomputable abbrev c170_5 (x54 : CV) (h5 : CH) (K52 : TupC 1 → CH → Bool) (x10 : CV) : Bool :=
 xAddr (some 0) x54 fun x55 =>
 xLoad (some none) x55 h5 fun x56 =>
 xBin (some (.int .u16)) .neq x56 (.int .u16 (.ofNat 2)) fun x57 =>
 xIte x57
 (K52 ((.bool true), ()) h5)
 (xAddr (some 1) x10 fun x58 =>
 xAddr (some 1) x58 fun x59 =>
 xLoad (some none) x59 h5 fun x60 =>
 xBin (some (.int .u16)) .eql x60 (.int .u16 (.ofNat 0)) fun x61 =>
 K52 (x61, ()) h5)
noncomputable abbrev c170_6 (s3 : TupC 1) (K4 : TupC 1 → CH → Bool) (x10 : CV) (v0 : CV) (v2 : CV) (x2 : CV) (x3 : CV) (h5 : CH) : Bool :=
 xJoin (n := 1) (fun s10 h6 =>
 xIte s10.1
 (xBin (some (.int .i64)) .add s3.1 (.int .i64 (.ofNat 1)) fun x12 =>
 K4 (x12, ()) h6)
 (xLoad (some (some 18)) x10 h6 fun x13 =>
 bd174 v0 x13 h6 fun x14 h7 =>
 xExtract x14 0 fun x15 =>
 xExtract x14 1 fun x16 =>
 c170_4 x10 h7 v2 x2 s3 K4 x15 x3))
 (fun K52 => xAddr (some 1) x10 fun x54 =>
 c170_5 x54 h5 K52 x10)
noncomputable abbrev c170_7 (h3 : CH) (x9 : CV) (s3 : TupC 1) (K4 : TupC 1 → CH → Bool) (v0 : CV) (v2 : CV) (x2 : CV) (x3 : CV) : Bool :=
 xBoxP 228 [(.int .i64 (.ofNat 0)), (.int .u16 (.ofNat 0)), (.int .u16 (.ofNat 0)), (.int .u32 (.ofNat 0)), (.int .u32 (.ofNat 0)), (.int .u32 (.ofNat 0)), (.int .u32 (.ofNat 0)), (.int .u32 (.ofNat 0)), (.int .u32 (.ofNat 0)), (.int .u32 (.ofNat 0)), (.int .u32 (.ofNat 0)), (.int .u32 (.ofNat 0)), (.int .u32 (.ofNat 0)), (.int .u32 (.ofNat 0)), (.int .u32 (.ofNat 0)), (.int .u32 (.ofNat 0)), (.int .u32 (.ofNat 0)), .nils] h3 fun x10 h4 =>
 xStore (some 18) x10 x9 h4 fun h5 =>
 c170_6 s3 K4 x10 v0 v2 x2 x3 h5
noncomputable abbrev c170_8 (v1 : CV) (v0 : CV) (v2 : CV) (x2 : CV) (x3 : CV) (k : CV → CH → Bool) (h2 : CH) : Bool :=
 xLoop (n := 1) (fun K4 s3 h3 =>
 xLen (some (.inl false)) v1 fun x6 =>
 xBin (some (.int .i64)) .lss s3.1 x6 fun x7 =>
 xIte x7
 (xIdx (some (none, 18)) v1 s3.1 fun x8 =>
 xLoad (some (some 18)) x8 h3 fun x9 =>
 c170_7 h3 x9 s3 K4 v0 v2 x2 x3)
 (xNilCheck x2 fun x62 =>
 xAddr (some 1) x62 fun x63 =>
 xLoad (some none) x63 h3 fun x64 =>
 k x64 h3)) 1000000 ((.int .i64 (.ofNat 0)), ()) h2
noncomputable def bd170 (v0 v1 v2 : CV) (h : CH) (k : CV → CH → Bool) : Bool :=
 xBuild (some (.inl [(0, 1), (1, 1)])) (some (.agg [(.bytes 1 0), .nils])) [(0, (.int .u8 (.ofNat 14)))] fun x1 =>
 xBox 295 x1 h fun x2 h1 =>
 bd198 v0 v2 h1 fun x3 h2 =>
 c170_8 v1 v0 v2 x2 x3 k h2
noncomputable abbrev ex170 : Ex := fun args h k => a3 args fun v0 v1 v2 => bd170 v0 v1 v2 h k
theorem sim170 : SimF Tryz.prog 170 ex170 := fun args h k hk => by
 obtain ⟨v0, v1, v2, rfl, hk⟩ := a3_ok hk
 exact sim_of (qf := qz) (Z := zs) (C := [(198, ex198), (174, ex174), (199, ex199), (193, ex193)]) (T := []) ⟨zerosB_ok zsOk, (exCons (by kernel_rfl) sim198 (exCons (by kernel_rfl) sim174 (exCons (by kernel_rfl) sim199 (exCons (by kernel_rfl) sim193 exNil))))⟩ (.seq .nil (.seq .nil (.seq .nil (.seq (.seq .nil (.loop [9] [20, 21, 22, 23, 26, 27, 28, 29, 10, 30, 31, 32, 33, 34, 35, 36, 37, 38, 39, 41, 42, 43, 40, 44, 45, 11, 12, 47, 48, 49, 50, 46, 51, 52, 13, 14, 53, 54, 55, 56, 57, 58, 59, 60, 61, 62, 63, 64, 65, 66, 67, 68, 69, 70, 71, 72, 73, 74, 75, 76, 77, 78, 79, 80, 81, 82, 83, 84, 85, 86, 87, 88, 89, 24, 25] (.seq .nil (.seq (.seq .nil (.seq (.join [39] [30, 31, 32, 33, 34, 35, 36, 37, 38] .nil .nil) (.seq .nil (.seq .nil (.seq (.seq .nil (.cond (.seq (.join [64] [56, 57, 58, 59, 60, 61, 62, 63] .nil .nil) .nil) .nil)) (.join [85] [67, 68, 69, 70, 71, 72, 73, 74, 75, 76, 77, 78, 79, 80, 81, 82, 83, 84] .nil .nil)))))) .nil)))) .nil)))) Tryz.func170 _ h k (Eq.mp (by kernel_rfl : (bd170 v0 v1 v2 h k = true) = _) hk)

noncomputable abbrev c200_1 (x5 : CV) (h1 : CH) (v1 : CV) (v0 : CV) (s0 : TupC 1) (k : CV → CH → Bool) (K1 : TupC 1 → CH → Bool) : Bool :=
 xAddr (some 0) x5 fun x6 =>
 xLoad (some none) x6 h1 fun x7 =>
 xBin (some (.int .i64)) .eql x7 v1 fun x8 =>
 xIte x8
 (xIdx (some (none, 18)) v0 s0.1 fun x9 =>
 xAddr (some 1) x9 fun x10 =>
 xAddr (some 0) x10 fun x11 =>
 xLoad (some none) x11 h1 fun x12 =>
 k x12 h1)
 (xBin (some (.int .i64)) .add s0.1 (.int .i64 (.ofNat 1)) fun x13 =>
 K1 (x13, ()) h1)
noncomputable def bd200 (v0 v1 : CV) (h : CH) (k : CV → CH → Bool) : Bool :=
 xLoop (n := 1) (fun K1 s0 h1 =>
 xLen (some (.inl false)) v0 fun x3 =>
 xBin (some (.int .i64)) .lss s0.1 x3 fun x4 =>
 xIte x4
 (xIdx (some (none, 18)) v0 s0.1 fun x5 =>
 c200_1 x5 h1 v1 v0 s0 k K1)
 (k (.int .u16 (.ofNat 0)) h1)) 1000000 ((.int .i64 (.ofNat 0)), ()) h
noncomputable abbrev ex200 : Ex := fun args h k => a2 args fun v0 v1 => bd200 v0 v1 h k
theorem sim200 : SimF Tryz.prog 200 ex200 := fun args h k hk => by
 obtain ⟨v0, v1, rfl, hk⟩ := a2_ok hk
 exact sim_of (qf := qz) (Z := zs) (C := []) (T := []) ⟨zerosB_ok zsOk, exNil⟩ (.seq .nil (.seq (.seq .nil (.loop [5] [6, 7, 8, 9, 12, 13, 14, 15, 16, 17, 18, 19, 20, 21, 22, 23, 24, 4, 10, 11] .nil)) .nil)) Tryz.func200 _ h k (Eq.mp (by kernel_rfl : (bd200 v0 v1 h k = true) = _) hk)

noncomputable abbrev c171_1 (x18 : CV) (s14 : TupC 1) (x9 : CV) (h6 : CH) (x2 : CV) (s2 : TupC 1) (K3 : TupC 1 → CH → Bool) : Bool :=
 xConv (some (.int .u16)) (some (.int .i64)) x18 fun x19 =>
 xBin (some (.int .i64)) .neq x19 s14.1 fun x20 =>
 xIte x20
 (xAddr (some 0) x9 fun x21 =>
 xLoad (some none) x21 h6 fun x22 =>
 bd193 x2 x22 h6 fun x23 h7 =>
 xBin (some (.int .i64)) .add s2.1 (.int .i64 (.ofNat 1)) fun x24 =>
 K3 (x24, ()) h7)
 (xBin (some (.int .i64)) .add s2.1 (.int .i64 (.ofNat 1)) fun x25 =>
 K3 (x25, ()) h6)
noncomputable abbrev c171_2 (x40 : CV) (h9 : CH) (x39 : CV) (v2 : CV) (s27 : TupC 2) (v1 : CV) (K35 : TupC 1 → CH → Bool) : Bool :=
 xLoad (some none) x40 h9 fun x41 =>
 xBin (some (.int .i64)) .eql x39 x41 fun x42 =>
 xIte x42
 (xIdx (some (none, 2)) v2 s27.2.1 fun x43 =>
 xAddr (some 1) x43 fun x44 =>
 xLoad (some none) x44 h9 fun x45 =>
 bd200 v1 x45 h9 fun x46 h11 =>
 xBin (some (.int .u16)) .eql x46 (.int .u16 (.ofNat 2)) fun x47 =>
 K35 (x47, ()) h11)
 (K35 ((.bool false), ()) h9)
noncomputable abbrev c171_3 (s27 : TupC 2) (K28 : TupC 2 → CH → Bool) (v2 : CV) (h9 : CH) (x9 : CV) (v1 : CV) : Bool :=
 xJoin (n := 1) (fun s31 h10 =>
 xIte s31.1
 (xBin (some (.int .i64)) .add s27.1 (.int .i64 (.ofNat 1)) fun x33 =>
 xBin (some (.int .i64)) .add s27.2.1 (.int .i64 (.ofNat 1)) fun x34 =>
 K28 (x33, x34, ()) h10)
 (xBin (some (.int .i64)) .add s27.2.1 (.int .i64 (.ofNat 1)) fun x35 =>
 K28 (s27.1, x35, ()) h10))
 (fun K35 => xIdx (some (none, 2)) v2 s27.2.1 fun x37 =>
 xAddr (some 0) x37 fun x38 =>
 xLoad (some none) x38 h9 fun x39 =>
 xAddr (some 0) x9 fun x40 =>
 c171_2 x40 h9 x39 v2 s27 v1 K35)
noncomputable abbrev c171_4 (x49 : CV) (h5 : CH) (x9 : CV) (K47 : TupC 1 → CH → Bool) : Bool :=
 xAddr (some 0) x49 fun x50 =>
 xLoad (some none) x50 h5 fun x51 =>
 xBin (some (.int .u16)) .eql x51 (.int .u16 (.ofNat 2)) fun x52 =>
 xIte x52
 (xAddr (some 1) x9 fun x53 =>
 xAddr (some 1) x53 fun x54 =>
 xLoad (some none) x54 h5 fun x55 =>
 xBin (some (.int .u16)) .neq x55 (.int .u16 (.ofNat 0)) fun x56 =>
 K47 (x56, ()) h5)
 (K47 ((.bool false), ()) h5)
noncomputable abbrev c171_5 (v2 : CV) (x9 : CV) (v1 : CV) (K25 : TupC 1 → CH → Bool) (x14 : CV) (h5 : CH) : Bool :=
 xJoin (n := 1) (fun s26 h8 =>
 xIte s26.1
 (xLoop (n := 2) (fun K28 s27 h9 =>
 xLen (some (.inl false)) v2 fun x30 =>
 xBin (some (.int .i64)) .lss s27.2.1 x30 fun x31 =>
 xIte x31
 (c171_3 s27 K28 v2 h9 x9 v1)
 (K25 (s27.1, ()) h9)) 1000000 ((.int .i64 (.ofNat 2)), (.int .i64 (.ofNat 0)), ()) h8)
 (K25 (x14, ()) h8))
 (fun K47 => xAddr (some 1) x9 fun x49 =>
 c171_4 x49 h5 x9 K47)
noncomputable abbrev c171_6 (x9 : CV) (x8 : CV) (h3 : CH) (v2 : CV) (x2 : CV) (s2 : TupC 1) (K3 : TupC 1 → CH → Bool) (v1 : CV) : Bool :=
 xStore (some 18) x9 x8 h3 fun h4 =>
 xAddr (some 0) x9 fun x10 =>
 xLoad (some none) x10 h4 fun x11 =>
 bd199 v2 x11 h4 fun x12 h5 =>
 xExtract x12 0 fun x13 =>
 xExtract x12 1 fun x14 =>
 xJoin (n := 1) (fun s14 h6 =>
 xAddr (some 1) x9 fun x16 =>
 xAddr (some 1) x16 fun x17 =>
 xLoad (some none) x17 h6 fun x18 =>
 c171_1 x18 s14 x9 h6 x2 s2 K3)
 (fun K25 => c171_5 v2 x9 v1 K25 x14 h5)
noncomputable abbrev c171_7 (h2 : CH) (x8 : CV) (v2 : CV) (x2 : CV) (s2 : TupC 1) (K3 : TupC 1 → CH → Bool) (v1 : CV) : Bool :=
 xBoxP 228 [(.int .i64 (.ofNat 0)), (.int .u16 (.ofNat 0)), (.int .u16 (.ofNat 0)), (.int .u32 (.ofNat 0)), (.int .u32 (.ofNat 0)), (.int .u32 (.ofNat 0)), (.int .u32 (.ofNat 0)), (.int .u32 (.ofNat 0)), (.int .u32 (.ofNat 0)), (.int .u32 (.ofNat 0)), (.int .u32 (.ofNat 0)), (.int .u32 (.ofNat 0)), (.int .u32 (.ofNat 0)), (.int .u32 (.ofNat 0)), (.int .u32 (.ofNat 0)), (.int .u32 (.ofNat 0)), (.int .u32 (.ofNat 0)), .nils] h2 fun x9 h3 =>
 c171_6 x9 x8 h3 v2 x2 s2 K3 v1
noncomputable abbrev c171_8 (v1 : CV) (v2 : CV) (x2 : CV) (k : CV → CH → Bool) (h1 : CH) : Bool :=
 xLoop (n := 1) (fun K3 s2 h2 =>
 xLen (some (.inl false)) v1 fun x5 =>
 xBin (some (.int .i64)) .lss s2.1 x5 fun x6 =>
 xIte x6
 (xIdx (some (none, 18)) v1 s2.1 fun x7 =>
 xLoad (some (some 18)) x7 h2 fun x8 =>
 c171_7 h2 x8 v2 x2 s2 K3 v1)
 (xNilCheck x2 fun x57 =>
 xAddr (some 1) x57 fun x58 =>
 xLoad (some none) x58 h2 fun x59 =>
 k x59 h2)) 1000000 ((.int .i64 (.ofNat 0)), ()) h1
noncomputable def bd171 (v0 v1 v2 : CV) (h : CH) (k : CV → CH → Bool) : Bool :=
 xBuild (some (.inl [(0, 1), (1, 1)])) (some (.agg [(.bytes 1 0), .nils])) [(0, (.int .u8 (.ofNat 15)))] fun x1 =>
 xBox 295 x1 h fun x2 h1 =>
 c171_8 v1 v2 x2 k h1
noncomputable abbrev ex171 : Ex := fun args h k => a3 args fun v0 v1 v2 => bd171 v0 v1 v2 h k
theorem sim171 : SimF Tryz.prog 171 ex171 := fun args h k hk => by
 obtain ⟨v0, v1, v2, rfl, hk⟩ := a3_ok hk
 exact sim_of (qf := qz) (Z := zs) (C := [(199, ex199), (193, ex193), (200, ex200)]) (T := []) ⟨zerosB_ok zsOk, (exCons (by kernel_rfl) sim199 (exCons (by kernel_rfl) sim193 (exCons (by kernel_rfl) sim200 exNil)))⟩ (.seq .nil (.seq .nil (.seq (.seq .nil (.loop [8] [15, 16, 17, 18, 21, 22, 23, 24, 9, 26, 27, 28, 29, 25, 30, 31, 10, 11, 32, 33, 34, 35, 36, 37, 38, 39, 40, 41, 12, 42, 43, 44, 45, 48, 49, 50, 51, 52, 53, 54, 55, 56, 57, 58, 59, 60, 61, 62, 63, 64, 65, 66, 67, 46, 47, 68, 69, 70, 71, 72, 73, 74, 75, 76, 77, 19, 20] (.seq .nil (.seq (.seq .nil (.seq .nil (.join [11] [32, 33, 34, 35, 36, 37, 38, 39, 40, 41, 12, 42, 43, 44, 45, 48, 49, 50, 51, 52, 53, 54, 55, 56, 57, 58, 59, 60, 61, 62, 63, 64, 65, 66, 67, 46, 47] (.join [41] [32, 33, 34, 35, 36, 37, 38, 39, 40] .nil (.cond (.seq .nil (.seq .nil (.loop [11, 12] [42, 43, 44, 45, 48, 49, 50, 51, 52, 53, 54, 55, 56, 57, 58, 59, 60, 61, 62, 63, 64, 65, 66, 67, 46, 47] (.seq .nil (.seq (.join [65] [48, 49, 50, 51, 52, 53, 54, 55, 56, 57, 58, 59, 60, 61, 62, 63, 64] .nil .nil) .nil))))) .nil)) .nil))) .nil)))) .nil))) Tryz.func171 _ h k (Eq.mp (by kernel_rfl : (bd171 v0 v1 v2 h k = true) = _) hk)

noncomputable abbrev c126_1 (x28 : CV) (k : CV → CH → Bool) (h10 : CH) (v0 : CV) (x4 : CV) : Bool :=
 xLen (some (.inl false)) x28 fun x29 =>
 xBin (some (.int .i64)) .gtr x29 (.int .i64 (.ofNat 0)) fun x30 =>
 xIte x30
 (k x28 h10)
 (bd169 v0 x4 h10 fun x31 h11 =>
 bd170 v0 x4 x31 h11 fun x32 h12 =>
 xLen (some (.inl false)) x32 fun x33 =>
 xBin (some (.int .i64)) .gtr x33 (.int .i64 (.ofNat 0)) fun x34 =>
 xIte x34
 (k x32 h12)
 (bd171 v0 x4 x31 h12 fun x35 h13 =>
 k x35 h13))
noncomputable abbrev c126_2 (x22 : CV) (k : CV → CH → Bool) (h8 : CH) (v0 : CV) (x4 : CV) : Bool :=
 xLen (some (.inl false)) x22 fun x23 =>
 xBin (some (.int .i64)) .gtr x23 (.int .i64 (.ofNat 0)) fun x24 =>
 xIte x24
 (k x22 h8)
 (bd166 v0 x4 (.int .u8 (.ofNat 12)) h8 fun x25 h9 =>
 xLen (some (.inl false)) x25 fun x26 =>
 xBin (some (.int .i64)) .gtr x26 (.int .i64 (.ofNat 0)) fun x27 =>
 xIte x27
 (k x25 h9)
 (bd168 v0 x4 h9 fun x28 h10 =>
 c126_1 x28 k h10 v0 x4))
noncomputable abbrev c126_3 (x15 : CV) (x11 : CV) (s11 : TupC 1) (h6 : CH) (v0 : CV) (x4 : CV) (k : CV → CH → Bool) (K12 : TupC 1 → CH → Bool) : Bool :=
 xIte x15
 (xIdx (some (none, 1)) x11 s11.1 fun x16 =>
 xLoad (some none) x16 h6 fun x17 =>
 bd166 v0 x4 x17 h6 fun x18 h7 =>
 xLen (some (.inl false)) x18 fun x19 =>
 xBin (some (.int .i64)) .gtr x19 (.int .i64 (.ofNat 0)) fun x20 =>
 xIte x20
 (k x18 h7)
 (xBin (some (.int .i64)) .add s11.1 (.int .i64 (.ofNat 1)) fun x21 =>
 K12 (x21, ()) h7))
 (bd167 v0 x4 h6 fun x22 h8 =>
 c126_2 x22 k h8 v0 x4)
noncomputable abbrev c126_4 (h4 : CH) (v0 : CV) (x4 : CV) (k : CV → CH → Bool) : Bool :=
 xNewS (some (264, 1, 1, true)) (some [(.bytes 1 0)]) 4 [(0, (.int .u8 (.ofNat 7))), (1, (.int .u8 (.ofNat 8))), (2, (.int .u8 (.ofNat 9))), (3, (.int .u8 (.ofNat 10)))] h4 fun x11 h5 =>
 xLoop (n := 1) (fun K12 s11 h6 =>
 xLen (some (.inl false)) x11 fun x14 =>
 xBin (some (.int .i64)) .lss s11.1 x14 fun x15 =>
 c126_3 x15 x11 s11 h6 v0 x4 k K12) 1000000 ((.int .i64 (.ofNat 0)), ()) h5
noncomputable abbrev c126_5 (v0 : CV) (h1 : CH) (k : CV → CH → Bool) : Bool :=
 bd127 v0 h1 fun x4 h2 =>
 bd164 v0 x4 h2 fun x5 h3 =>
 xLen (some (.inl false)) x5 fun x6 =>
 xBin (some (.int .i64)) .gtr x6 (.int .i64 (.ofNat 0)) fun x7 =>
 xIte x7
 (k x5 h3)
 (bd165 v0 x4 h3 fun x8 h4 =>
 xLen (some (.inl false)) x8 fun x9 =>
 xBin (some (.int .i64)) .gtr x9 (.int .i64 (.ofNat 0)) fun x10 =>
 xIte x10
 (k x8 h4)
 (c126_4 h4 v0 x4 k))
noncomputable def bd126 (v0 : CV) (h : CH) (k : CV → CH → Bool) : Bool :=
 bd163 v0 h fun x1 h1 =>
 xLen (some (.inl false)) x1 fun x2 =>
 xBin (some (.int .i64)) .gtr x2 (.int .i64 (.ofNat 0)) fun x3 =>
 xIte x3
 (k x1 h1)
 (c126_5 v0 h1 k)
noncomputable abbrev ex126 : Ex := fun args h k => a1 args fun v0 => bd126 v0 h k
theorem sim126 : SimF Tryz.prog 126 ex126 := fun args h k hk => by
 obtain ⟨v0, rfl, hk⟩ := a1_ok hk
 exact sim_of (qf := qz) (Z := zs) (C := [(163, ex163), (127, ex127), (164, ex164), (165, ex165), (166, ex166), (167, ex167), (168, ex168), (169, ex169), (170, ex170), (171, ex171)]) (T := []) ⟨zerosB_ok zsOk, (exCons (by kernel_rfl) sim163 (exCons (by kernel_rfl) sim127 (exCons (by kernel_rfl) sim164 (exCons (by kernel_rfl) sim165 (exCons (by kernel_rfl) sim166 (exCons (by kernel_rfl) sim167 (exCons (by kernel_rfl) sim168 (exCons (by kernel_rfl) sim169 (exCons (by kernel_rfl) sim170 (exCons (by kernel_rfl) sim171 exNil))))))))))⟩ (.seq .nil (.seq .nil (.seq .nil (.seq .nil (.seq .nil (.seq .nil (.seq .nil (.seq .nil (.seq .nil (.seq (.seq .nil (.loop [6] [31, 32, 33, 34, 37, 38, 39, 40, 41, 42, 43, 3, 44, 45, 46, 47, 2, 35, 36] .nil)) .nil)))))))))) Tryz.func126 _ h k (Eq.mp (by kernel_rfl : (bd126 v0 h k = true) = _) hk)

noncomputable abbrev c128_1 (x50 : CV) (x56 : CV) (h9 : CH) (x45 : CV) (x21 : CV) (s31 : TupC 1) (K32 : TupC 1 → CH → Bool) : Bool :=
 xBuild (some (.inl [(0, 1), (1, 1024)])) (some (.agg [(.int .i64 (.ofNat 0)), (.bytes 1024 0)])) [(0, x50), (1, x56)] fun x57 =>
 xNewS (some (72, 1025, 1032, false)) (some [(.int .i64 (.ofNat 0)), (.bytes 1024 0)]) 1 [(0, x57)] h9 fun x58 h10 =>
 xApp (some (72, 1025, 1032, false)) x45 x58 h10 fun x59 h11 =>
 xAddr (some 5) x21 fun x60 =>
 xStore (some 1) x60 x59 h11 fun h12 =>
 xBin (some (.int .i64)) .add s31.1 (.int .i64 (.ofNat 1)) fun x61 =>
 K32 (x61, ()) h12
noncomputable abbrev c128_2 (x47 : CV) (s31 : TupC 1) (h8 : CH) (x1 : CV) (v0 : CV) (x45 : CV) (x21 : CV) (K32 : TupC 1 → CH → Bool) : Bool :=
 xIdx (some (none, 2)) x47 s31.1 fun x48 =>
 xAddr (some 0) x48 fun x49 =>
 xLoad (some none) x49 h8 fun x50 =>
 xAddr (some 17) x1 fun x51 =>
 xLoad (some none) x51 h8 fun x52 =>
 xIdx (some (none, 2)) x52 s31.1 fun x53 =>
 xAddr (some 1) x53 fun x54 =>
 xLoad (some none) x54 h8 fun x55 =>
 xQuiet (some ex175) [v0, x55] h8 fun x56 h9 =>
 c128_1 x50 x56 h9 x45 x21 s31 K32
noncomputable abbrev c128_3 (x41 : CV) (h8 : CH) (x21 : CV) (x1 : CV) (s31 : TupC 1) (v0 : CV) (K32 : TupC 1 → CH → Bool) : Bool :=
 xLoad (some none) x41 h8 fun x42 =>
 xBin (some (.int .i64)) .geq x42 (.int .i64 (.ofNat 0)) fun x43 =>
 xIte x43
 (xAddr (some 5) x21 fun x44 =>
 xLoad (some none) x44 h8 fun x45 =>
 xAddr (some 17) x1 fun x46 =>
 xLoad (some none) x46 h8 fun x47 =>
 c128_2 x47 s31 h8 x1 v0 x45 x21 K32)
 (xBin (some (.int .i64)) .add s31.1 (.int .i64 (.ofNat 1)) fun x62 =>
 K32 (x62, ()) h8)
noncomputable abbrev c128_4 (s31 : TupC 1) (x36 : CV) (x1 : CV) (h8 : CH) (x21 : CV) (v0 : CV) (K32 : TupC 1 → CH → Bool) (x2 : CV) (k : CV → CH → Bool) : Bool :=
 xBin (some (.int .i64)) .lss s31.1 x36 fun x37 =>
 xIte x37
 (xAddr (some 17) x1 fun x38 =>
 xLoad (some none) x38 h8 fun x39 =>
 xIdx (some (none, 2)) x39 s31.1 fun x40 =>
 xAddr (some 0) x40 fun x41 =>
 c128_3 x41 h8 x21 x1 s31 v0 K32)
 (xLoad (some (some 7)) x21 h8 fun x63 =>
 xStore (some 7) x2 x63 h8 fun h13 =>
 xLoad (some (some 7)) x2 h13 fun x64 =>
 k x64 h13)
noncomputable abbrev c128_5 (x24 : CV) (x1 : CV) (h4 : CH) (v0 : CV) (x21 : CV) (x2 : CV) (k : CV → CH → Bool) : Bool :=
 xIte x24
 (xLoad (some (some 18)) x1 h4 fun x25 =>
 bd174 v0 x25 h4 fun x26 h5 =>
 xExtract x26 0 fun x27 =>
 xExtract x26 1 fun x28 =>
 xAddr (some 6) x21 fun x29 =>
 xStore (some 1) x29 x27 h5 fun h6 =>
 xLoad (some (some 7)) x21 h6 fun x30 =>
 xStore (some 7) x2 x30 h6 fun h7 =>
 xLoad (some (some 7)) x2 h7 fun x31 =>
 k x31 h7)
 (xLoop (n := 1) (fun K32 s31 h8 =>
 xAddr (some 17) x1 fun x34 =>
 xLoad (some none) x34 h8 fun x35 =>
 xLen (some (.inl false)) x35 fun x36 =>
 c128_4 s31 x36 x1 h8 x21 v0 K32 x2 k) 1000000 ((.int .i64 (.ofNat 0)), ()) h4)
noncomputable abbrev c128_6 (h2 : CH) (x20 : CV) (x1 : CV) (v0 : CV) (x2 : CV) (k : CV → CH → Bool) : Bool :=
 xBoxP 66 [(.int .i64 (.ofNat 0)), (.int .u16 (.ofNat 0)), (.int .i64 (.ofNat 0)), (.int .i64 (.ofNat 0)), (.int .i64 (.ofNat 0)), .nils, .nils] h2 fun x21 h3 =>
 xStore (some 7) x21 x20 h3 fun h4 =>
 xAddr (some 1) x21 fun x22 =>
 xLoad (some none) x22 h4 fun x23 =>
 xBin (some (.int .u16)) .eql x23 (.int .u16 (.ofNat 2)) fun x24 =>
 c128_5 x24 x1 h4 v0 x21 x2 k
noncomputable abbrev c128_7 (x18 : CV) (x4 : CV) (x7 : CV) (x11 : CV) (x15 : CV) (h2 : CH) (x1 : CV) (v0 : CV) (x2 : CV) (k : CV → CH → Bool) : Bool :=
 xConv (some (.int .u32)) (some (.int .i64)) x18 fun x19 =>
 xBuild (some (.inl [(0, 1), (1, 1), (2, 1), (3, 1), (4, 1), (5, 1), (6, 1)])) (some (.agg [(.int .i64 (.ofNat 0)), (.int .u16 (.ofNat 0)), (.int .i64 (.ofNat 0)), (.int .i64 (.ofNat 0)), (.int .i64 (.ofNat 0)), .nils, .nils])) [(0, x4), (1, x7), (2, x11), (3, x15), (4, x19)] fun x20 =>
 c128_6 h2 x20 x1 v0 x2 k
noncomputable abbrev c128_8 (x9 : CV) (h2 : CH) (x1 : CV) (x4 : CV) (x7 : CV) (v0 : CV) (x2 : CV) (k : CV → CH → Bool) : Bool :=
 xLoad (some none) x9 h2 fun x10 =>
 xConv (some (.int .u16)) (some (.int .i64)) x10 fun x11 =>
 xAddr (some 1) x1 fun x12 =>
 xAddr (some 2) x12 fun x13 =>
 xLoad (some none) x13 h2 fun x14 =>
 xConv (some (.int .u32)) (some (.int .i64)) x14 fun x15 =>
 xAddr (some 1) x1 fun x16 =>
 xAddr (some 3) x16 fun x17 =>
 xLoad (some none) x17 h2 fun x18 =>
 c128_7 x18 x4 x7 x11 x15 h2 x1 v0 x2 k
noncomputable abbrev c128_9 (h1 : CH) (x1 : CV) (v0 : CV) (k : CV → CH → Bool) : Bool :=
 xBoxP 66 [(.int .i64 (.ofNat 0)), (.int .u16 (.ofNat 0)), (.int .i64 (.ofNat 0)), (.int .i64 (.ofNat 0)), (.int .i64 (.ofNat 0)), .nils, .nils] h1 fun x2 h2 =>
 xAddr (some 0) x1 fun x3 =>
 xLoad (some none) x3 h2 fun x4 =>
 xAddr (some 1) x1 fun x5 =>
 xAddr (some 0) x5 fun x6 =>
 xLoad (some none) x6 h2 fun x7 =>
 xAddr (some 1) x1 fun x8 =>
 xAddr (some 1) x8 fun x9 =>
 c128_8 x9 h2 x1 x4 x7 v0 x2 k
noncomputable def bd128 (v0 v1 : CV) (h : CH) (k : CV → CH → Bool) : Bool :=
 xBox 228 v1 h fun x1 h1 =>
 c128_9 h1 x1 v0 k
noncomputable abbrev ex128 : Ex := fun args h k => a2 args fun v0 v1 => bd128 v0 v1 h k
theorem sim128 : SimF Tryz.prog 128 ex128 := fun args h k hk => by
 obtain ⟨v0, v1, rfl, hk⟩ := a2_ok hk
 exact sim_of (qf := qz) (Z := zs) (C := [(174, ex174), (175, ex175)]) (T := []) ⟨zerosB_ok zsOk, (exCons (by kernel_rfl) sim174 (exCons (by kernel_rfl) sim175 exNil))⟩ (.seq .nil (.seq .nil (.seq .nil (.seq (.seq .nil (.loop [6] [36, 37, 38, 39, 40, 43, 44, 45, 46, 47, 48, 49, 50, 51, 52, 53, 54, 55, 56, 57, 58, 59, 60, 61, 62, 63, 64, 65, 66, 67, 68, 69, 41, 42] .nil)) .nil)))) Tryz.func128 _ h k (Eq.mp (by kernel_rfl : (bd128 v0 v1 h k = true) = _) hk)

noncomputable abbrev c77_1 (v0 : CV) (x1 : CV) (x2 : CV) (x5 : CV) (x10 : CV) (x15 : CV) (x34 : CV) (s34 : TupC 1) (x4 : CV) (x3 : CV) (x6 : CV) (x7 : CV) (x11 : CV) (x12 : CV) (x16 : CV) (x17 : CV) (x18 : CV) (x19 : CV) (x20 : CV) (x21 : CV) (x22 : CV) (x23 : CV) (x24 : CV) (x25 : CV) (x26 : CV) (x27 : CV) (x28 : CV) (x29 : CV) (x30 : CV) (x31 : CV) (x32 : CV) (x33 : CV) (x37 : CV) (x38 : CV) (x39 : CV) (x40 : CV) (x41 : CV) (x42 : CV) (x43 : CV) (x44 : CV) (x45 : CV) (x46 : CV) (x47 : CV) (x51 : CV) (x48 : CV) (x49 : CV) (x50 : CV) (x52 : CV) (x53 : CV) (x54 : CV) (h14 : CH) (h18 : CH) : Bool :=
 (eqCs [v0, x1, x2, .nils, x5, x10, x15, x34, s34.1, x4, x3, x4, x5, x6, x5, x7, (.tup []), (.tup []), x5, x10, x10, x11, x12, (.tup []), (.tup []), x5, x15, x5, x16, x17, x18, x19, x20, x5, x21, x22, x23, x24, x25, x5, x26, x27, x28, x29, x30, x15, x31, x32, x33, s34.1, x15, x37, x38, .junk, .junk, x39, x40, x5, x15, s34.1, x41, x42, x43, x44, x45, x46, .junk, .junk, .junk, .junk, .junk, .junk, .junk, .junk, .junk, .junk, (.tup [])] [v0, x1, x2, .nils, x5, x10, x15, x34, s34.1, x4, x3, x4, x5, x6, x5, x7, (.tup []), (.tup []), x5, x10, x10, x11, x12, (.tup []), (.tup []), x5, x15, x5, x16, x17, x18, x19, x20, x5, x21, x22, x23, x24, x25, x5, x26, x27, x28, x29, x30, x15, x31, x32, x33, s34.1, x15, x37, x38, .junk, .junk, x47, x51, x5, x15, s34.1, x48, x49, x50, x52, x53, x54, .junk, .junk, .junk, .junk, .junk, .junk, .junk, .junk, .junk, .junk, (.tup [])] && eqH h14 h18)
noncomputable abbrev c77_2 (x50 : CV) (h15 : CH) (x51 : CV) (x34 : CV) (v0 : CV) (x1 : CV) (x2 : CV) (x5 : CV) (x10 : CV) (x15 : CV) (s34 : TupC 1) (x4 : CV) (x3 : CV) (x6 : CV) (x7 : CV) (x11 : CV) (x12 : CV) (x16 : CV) (x17 : CV) (x18 : CV) (x19 : CV) (x20 : CV) (x21 : CV) (x22 : CV) (x23 : CV) (x24 : CV) (x25 : CV) (x26 : CV) (x27 : CV) (x28 : CV) (x29 : CV) (x30 : CV) (x31 : CV) (x32 : CV) (x33 : CV) (x37 : CV) (x38 : CV) (x39 : CV) (x40 : CV) (x41 : CV) (x42 : CV) (x43 : CV) (x44 : CV) (x45 : CV) (x46 : CV) (x47 : CV) (x48 : CV) (x49 : CV) (h14 : CH) : Bool :=
 xNewS (some (66, 7, 88, false)) (some [(.int .i64 (.ofNat 0)), (.int .u16 (.ofNat 0)), (.int .i64 (.ofNat 0)), (.int .i64 (.ofNat 0)), (.int .i64 (.ofNat 0)), .nils, .nils]) 1 [(0, x50)] h15 fun x52 h16 =>
 xApp (some (66, 7, 88, false)) x51 x52 h16 fun x53 h17 =>
 xAddr (some 0) x34 fun x54 =>
 xStore (some 1) x54 x53 h17 fun h18 =>
 c77_1 v0 x1 x2 x5 x10 x15 x34 s34 x4 x3 x6 x7 x11 x12 x16 x17 x18 x19 x20 x21 x22 x23 x24 x25 x26 x27 x28 x29 x30 x31 x32 x33 x37 x38 x39 x40 x41 x42 x43 x44 x45 x46 x47 x51 x48 x49 x50 x52 x53 x54 h14 h18
noncomputable abbrev c77_3 (v0 : CV) (x1 : CV) (x2 : CV) (x5 : CV) (x10 : CV) (x15 : CV) (x34 : CV) (s34 : TupC 1) (x4 : CV) (x3 : CV) (x6 : CV) (x7 : CV) (x11 : CV) (x12 : CV) (x16 : CV) (x17 : CV) (x18 : CV) (x19 : CV) (x20 : CV) (x21 : CV) (x22 : CV) (x23 : CV) (x24 : CV) (x25 : CV) (x26 : CV) (x27 : CV) (x28 : CV) (x29 : CV) (x30 : CV) (x31 : CV) (x32 : CV) (x33 : CV) (x37 : CV) (x38 : CV) (x39 : CV) (x40 : CV) (x41 : CV) (x42 : CV) (x43 : CV) (x44 : CV) (x45 : CV) (x46 : CV) (x47 : CV) (x55 : CV) (x48 : CV) (x49 : CV) (x56 : CV) (x57 : CV) (x58 : CV) (x59 : CV) (h14 : CH) (h22 : CH) : Bool :=
 (eqCs [v0, x1, x2, .nils, x5, x10, x15, x34, s34.1, x4, x3, x4, x5, x6, x5, x7, (.tup []), (.tup []), x5, x10, x10, x11, x12, (.tup []), (.tup []), x5, x15, x5, x16, x17, x18, x19, x20, x5, x21, x22, x23, x24, x25, x5, x26, x27, x28, x29, x30, x15, x31, x32, x33, s34.1, x15, x37, x38, .junk, .junk, x39, x40, x5, x15, s34.1, x41, x42, x43, x44, x45, x46, .junk, .junk, .junk, .junk, .junk, .junk, .junk, .junk, .junk, .junk, (.tup [])] [v0, x1, x2, .nils, x5, x10, x15, x34, s34.1, x4, x3, x4, x5, x6, x5, x7, (.tup []), (.tup []), x5, x10, x10, x11, x12, (.tup []), (.tup []), x5, x15, x5, x16, x17, x18, x19, x20, x5, x21, x22, x23, x24, x25, x5, x26, x27, x28, x29, x30, x15, x31, x32, x33, s34.1, x15, x37, x38, .junk, .junk, x47, x55, x5, x15, s34.1, x48, x49, x56, x57, x58, x59, .junk, .junk, .junk, .junk, .junk, .junk, .junk, .junk, .junk, .junk, (.tup [])] && eqH h14 h22)
noncomputable abbrev c77_4 (x56 : CV) (h19 : CH) (x55 : CV) (x34 : CV) (v0 : CV) (x1 : CV) (x2 : CV) (x5 : CV) (x10 : CV) (x15 : CV) (s34 : TupC 1) (x4 : CV) (x3 : CV) (x6 : CV) (x7 : CV) (x11 : CV) (x12 : CV) (x16 : CV) (x17 : CV) (x18 : CV) (x19 : CV) (x20 : CV) (x21 : CV) (x22 : CV) (x23 : CV) (x24 : CV) (x25 : CV) (x26 : CV) (x27 : CV) (x28 : CV) (x29 : CV) (x30 : CV) (x31 : CV) (x32 : CV) (x33 : CV) (x37 : CV) (x38 : CV) (x39 : CV) (x40 : CV) (x41 : CV) (x42 : CV) (x43 : CV) (x44 : CV) (x45 : CV) (x46 : CV) (x47 : CV) (x48 : CV) (x49 : CV) (h14 : CH) : Bool :=
 xNewS (some (66, 7, 88, false)) (some [(.int .i64 (.ofNat 0)), (.int .u16 (.ofNat 0)), (.int .i64 (.ofNat 0)), (.int .i64 (.ofNat 0)), (.int .i64 (.ofNat 0)), .nils, .nils]) 1 [(0, x56)] h19 fun x57 h20 =>
 xApp (some (66, 7, 88, false)) x55 x57 h20 fun x58 h21 =>
 xAddr (some 0) x34 fun x59 =>
 xStore (some 1) x59 x58 h21 fun h22 =>
 c77_3 v0 x1 x2 x5 x10 x15 x34 s34 x4 x3 x6 x7 x11 x12 x16 x17 x18 x19 x20 x21 x22 x23 x24 x25 x26 x27 x28 x29 x30 x31 x32 x33 x37 x38 x39 x40 x41 x42 x43 x44 x45 x46 x47 x55 x48 x49 x56 x57 x58 x59 h14 h22
noncomputable abbrev c77_5 (x47 : CV) (h10 : CH) (x5 : CV) (x49 : CV) (x34 : CV) (v0 : CV) (x1 : CV) (x2 : CV) (x10 : CV) (x15 : CV) (s34 : TupC 1) (x4 : CV) (x3 : CV) (x6 : CV) (x7 : CV) (x11 : CV) (x12 : CV) (x16 : CV) (x17 : CV) (x18 : CV) (x19 : CV) (x20 : CV) (x21 : CV) (x22 : CV) (x23 : CV) (x24 : CV) (x25 : CV) (x26 : CV) (x27 : CV) (x28 : CV) (x29 : CV) (x30 : CV) (x31 : CV) (x32 : CV) (x33 : CV) (x37 : CV) (x38 : CV) (x39 : CV) (x40 : CV) (x41 : CV) (x42 : CV) (x43 : CV) (x44 : CV) (x45 : CV) (x46 : CV) (x48 : CV) (h14 : CH) : Bool :=
 both
 (xLoad (some none) x47 h10 fun x55 =>
 bd128 x5 x49 h10 fun x56 h19 =>
 c77_4 x56 h19 x55 x34 v0 x1 x2 x5 x10 x15 s34 x4 x3 x6 x7 x11 x12 x16 x17 x18 x19 x20 x21 x22 x23 x24 x25 x26 x27 x28 x29 x30 x31 x32 x33 x37 x38 x39 x40 x41 x42 x43 x44 x45 x46 x47 x48 x49 h14)
 (both
 (bd128 x5 x49 h10 fun x50 h15 =>
 xLoad (some none) x47 h15 fun x51 =>
 c77_2 x50 h15 x51 x34 v0 x1 x2 x5 x10 x15 s34 x4 x3 x6 x7 x11 x12 x16 x17 x18 x19 x20 x21 x22 x23 x24 x25 x26 x27 x28 x29 x30 x31 x32 x33 x37 x38 x39 x40 x41 x42 x43 x44 x45 x46 x47 x48 x49 h14)
 (true))
noncomputable abbrev c77_6 (x15 : CV) (s34 : TupC 1) (h14 : CH) (x61 : CV) (x34 : CV) (K35 : TupC 1 → CH → Bool) : Bool :=
 xIdx (some (none, 18)) x15 s34.1 fun x62 =>
 xAddr (some 17) x62 fun x63 =>
 xLoad (some none) x63 h14 fun x64 =>
 xLen (some (.inl false)) x64 fun x65 =>
 xBin (some (.int .i64)) .sub x61 x65 fun x66 =>
 xAddr (some 1) x34 fun x67 =>
 xStore (some 1) x67 x66 h14 fun h23 =>
 xBin (some (.int .i64)) .add s34.1 (.int .i64 (.ofNat 1)) fun x68 =>
 K35 (x68, ()) h23
noncomputable abbrev c77_7 (x34 : CV) (x15 : CV) (s34 : TupC 1) (h10 : CH) (x5 : CV) (v0 : CV) (x1 : CV) (x2 : CV) (x10 : CV) (x4 : CV) (x3 : CV) (x6 : CV) (x7 : CV) (x11 : CV) (x12 : CV) (x16 : CV) (x17 : CV) (x18 : CV) (x19 : CV) (x20 : CV) (x21 : CV) (x22 : CV) (x23 : CV) (x24 : CV) (x25 : CV) (x26 : CV) (x27 : CV) (x28 : CV) (x29 : CV) (x30 : CV) (x31 : CV) (x32 : CV) (x33 : CV) (x37 : CV) (x38 : CV) (x39 : CV) (x40 : CV) (x41 : CV) (x42 : CV) (x43 : CV) (x44 : CV) (x45 : CV) (x46 : CV) (h14 : CH) (K35 : TupC 1 → CH → Bool) : Bool :=
 both
 (xAddr (some 0) x34 fun x47 =>
 xIdx (some (none, 18)) x15 s34.1 fun x48 =>
 xLoad (some (some 18)) x48 h10 fun x49 =>
 c77_5 x47 h10 x5 x49 x34 v0 x1 x2 x10 x15 s34 x4 x3 x6 x7 x11 x12 x16 x17 x18 x19 x20 x21 x22 x23 x24 x25 x26 x27 x28 x29 x30 x31 x32 x33 x37 x38 x39 x40 x41 x42 x43 x44 x45 x46 x48 h14)
 (xAddr (some 1) x34 fun x60 =>
 xLoad (some none) x60 h14 fun x61 =>
 c77_6 x15 s34 h14 x61 x34 K35)
noncomputable abbrev c77_8 (x43 : CV) (h11 : CH) (x40 : CV) (x34 : CV) (x15 : CV) (s34 : TupC 1) (h10 : CH) (x5 : CV) (v0 : CV) (x1 : CV) (x2 : CV) (x10 : CV) (x4 : CV) (x3 : CV) (x6 : CV) (x7 : CV) (x11 : CV) (x12 : CV) (x16 : CV) (x17 : CV) (x18 : CV) (x19 : CV) (x20 : CV) (x21 : CV) (x22 : CV) (x23 : CV) (x24 : CV) (x25 : CV) (x26 : CV) (x27 : CV) (x28 : CV) (x29 : CV) (x30 : CV) (x31 : CV) (x32 : CV) (x33 : CV) (x37 : CV) (x38 : CV) (x39 : CV) (x41 : CV) (x42 : CV) (K35 : TupC 1 → CH → Bool) : Bool :=
 xNewS (some (66, 7, 88, false)) (some [(.int .i64 (.ofNat 0)), (.int .u16 (.ofNat 0)), (.int .i64 (.ofNat 0)), (.int .i64 (.ofNat 0)), (.int .i64 (.ofNat 0)), .nils, .nils]) 1 [(0, x43)] h11 fun x44 h12 =>
 xApp (some (66, 7, 88, false)) x40 x44 h12 fun x45 h13 =>
 xAddr (some 0) x34 fun x46 =>
 xStore (some 1) x46 x45 h13 fun h14 =>
 c77_7 x34 x15 s34 h10 x5 v0 x1 x2 x10 x4 x3 x6 x7 x11 x12 x16 x17 x18 x19 x20 x21 x22 x23 x24 x25 x26 x27 x28 x29 x30 x31 x32 x33 x37 x38 x39 x40 x41 x42 x43 x44 x45 x46 h14 K35
noncomputable abbrev c77_9 (x34 : CV) (h10 : CH) (x15 : CV) (s34 : TupC 1) (x5 : CV) (v0 : CV) (x1 : CV) (x2 : CV) (x10 : CV) (x4 : CV) (x3 : CV) (x6 : CV) (x7 : CV) (x11 : CV) (x12 : CV) (x16 : CV) (x17 : CV) (x18 : CV) (x19 : CV) (x20 : CV) (x21 : CV) (x22 : CV) (x23 : CV) (x24 : CV) (x25 : CV) (x26 : CV) (x27 : CV) (x28 : CV) (x29 : CV) (x30 : CV) (x31 : CV) (x32 : CV) (x33 : CV) (x37 : CV) (x38 : CV) (K35 : TupC 1 → CH → Bool) : Bool :=
 xAddr (some 0) x34 fun x39 =>
 xLoad (some none) x39 h10 fun x40 =>
 xIdx (some (none, 18)) x15 s34.1 fun x41 =>
 xLoad (some (some 18)) x41 h10 fun x42 =>
 bd128 x5 x42 h10 fun x43 h11 =>
 c77_8 x43 h11 x40 x34 x15 s34 h10 x5 v0 x1 x2 x10 x4 x3 x6 x7 x11 x12 x16 x17 x18 x19 x20 x21 x22 x23 x24 x25 x26 x27 x28 x29 x30 x31 x32 x33 x37 x38 x39 x41 x42 K35
noncomputable abbrev c77_10 (s34 : TupC 1) (x37 : CV) (x34 : CV) (h10 : CH) (x15 : CV) (x5 : CV) (v0 : CV) (x1 : CV) (x2 : CV) (x10 : CV) (x4 : CV) (x3 : CV) (x6 : CV) (x7 : CV) (x11 : CV) (x12 : CV) (x16 : CV) (x17 : CV) (x18 : CV) (x19 : CV) (x20 : CV) (x21 : CV) (x22 : CV) (x23 : CV) (x24 : CV) (x25 : CV) (x26 : CV) (x27 : CV) (x28 : CV) (x29 : CV) (x30 : CV) (x31 : CV) (x32 : CV) (x33 : CV) (K35 : TupC 1 → CH → Bool) (k : CV → CH → Bool) : Bool :=
 xBin (some (.int .i64)) .lss s34.1 x37 fun x38 =>
 xIte x38
 (c77_9 x34 h10 x15 s34 x5 v0 x1 x2 x10 x4 x3 x6 x7 x11 x12 x16 x17 x18 x19 x20 x21 x22 x23 x24 x25 x26 x27 x28 x29 x30 x31 x32 x33 x37 x38 K35)
 (xLoad (some (some 3)) x34 h10 fun x69 =>
 xStore (some 3) x2 x69 h10 fun h24 =>
 xLoad (some (some 3)) x2 h24 fun x70 =>
 k (.tup [x70, .nils]) h24)
noncomputable abbrev c77_11 (h7 : CH) (x33 : CV) (x15 : CV) (x5 : CV) (v0 : CV) (x1 : CV) (x2 : CV) (x10 : CV) (x4 : CV) (x3 : CV) (x6 : CV) (x7 : CV) (x11 : CV) (x12 : CV) (x16 : CV) (x17 : CV) (x18 : CV) (x19 : CV) (x20 : CV) (x21 : CV) (x22 : CV) (x23 : CV) (x24 : CV) (x25 : CV) (x26 : CV) (x27 : CV) (x28 : CV) (x29 : CV) (x30 : CV) (x31 : CV) (x32 : CV) (k : CV → CH → Bool) : Bool :=
 xBoxP 30 [.nils, (.int .i64 (.ofNat 0)), (.int .i64 (.ofNat 0))] h7 fun x34 h8 =>
 xStore (some 3) x34 x33 h8 fun h9 =>
 xLoop (n := 1) (fun K35 s34 h10 =>
 xLen (some (.inl false)) x15 fun x37 =>
 c77_10 s34 x37 x34 h10 x15 x5 v0 x1 x2 x10 x4 x3 x6 x7 x11 x12 x16 x17 x18 x19 x20 x21 x22 x23 x24 x25 x26 x27 x28 x29 x30 x31 x32 x33 K35 k) 1000000 ((.int .i64 (.ofNat 0)), ()) h9
noncomputable abbrev c77_12 (x15 : CV) (x30 : CV) (x25 : CV) (h7 : CH) (x5 : CV) (v0 : CV) (x1 : CV) (x2 : CV) (x10 : CV) (x4 : CV) (x3 : CV) (x6 : CV) (x7 : CV) (x11 : CV) (x12 : CV) (x16 : CV) (x17 : CV) (x18 : CV) (x19 : CV) (x20 : CV) (x21 : CV) (x22 : CV) (x23 : CV) (x24 : CV) (x26 : CV) (x27 : CV) (x28 : CV) (x29 : CV) (k : CV → CH → Bool) : Bool :=
 xLen (some (.inl false)) x15 fun x31 =>
 xBin (some (.int .i64)) .sub x30 x31 fun x32 =>
 xBuild (some (.inl [(0, 1), (1, 1), (2, 1)])) (some (.agg [.nils, (.int .i64 (.ofNat 0)), (.int .i64 (.ofNat 0))])) [(1, x25), (2, x32)] fun x33 =>
 c77_11 h7 x33 x15 x5 v0 x1 x2 x10 x4 x3 x6 x7 x11 x12 x16 x17 x18 x19 x20 x21 x22 x23 x24 x25 x26 x27 x28 x29 x30 x31 x32 k
noncomputable abbrev c77_13 (x22 : CV) (h7 : CH) (x20 : CV) (x5 : CV) (x15 : CV) (v0 : CV) (x1 : CV) (x2 : CV) (x10 : CV) (x4 : CV) (x3 : CV) (x6 : CV) (x7 : CV) (x11 : CV) (x12 : CV) (x16 : CV) (x17 : CV) (x18 : CV) (x19 : CV) (x21 : CV) (k : CV → CH → Bool) : Bool :=
 xAddr (some 8) x22 fun x23 =>
 xLoad (some none) x23 h7 fun x24 =>
 xBin (some (.int .i64)) .sub x20 x24 fun x25 =>
 xNilCheck x5 fun x26 =>
 xAddr (some 2) x26 fun x27 =>
 xAddr (some 0) x27 fun x28 =>
 xAddr (some 2) x28 fun x29 =>
 xLoad (some none) x29 h7 fun x30 =>
 c77_12 x15 x30 x25 h7 x5 v0 x1 x2 x10 x4 x3 x6 x7 x11 x12 x16 x17 x18 x19 x20 x21 x22 x23 x24 x26 x27 x28 x29 k
noncomputable abbrev c77_14 (x12 : CV) (x2 : CV) (h5 : CH) (k : CV → CH → Bool) (x10 : CV) (x5 : CV) (v0 : CV) (x1 : CV) (x4 : CV) (x3 : CV) (x6 : CV) (x7 : CV) (x11 : CV) : Bool :=
 xIte x12
 (xBuild (some (.inl [(0, 1), (1, 1), (2, 1)])) (some (.agg [.nils, (.int .i64 (.ofNat 0)), (.int .i64 (.ofNat 0))])) [] fun x13 =>
 xStore (some 3) x2 x13 h5 fun h6 =>
 xLoad (some (some 3)) x2 h6 fun x14 =>
 k (.tup [x14, x10]) h6)
 (bd127 x5 h5 fun x15 h7 =>
 xNilCheck x5 fun x16 =>
 xAddr (some 2) x16 fun x17 =>
 xAddr (some 0) x17 fun x18 =>
 xAddr (some 0) x18 fun x19 =>
 xLoad (some none) x19 h7 fun x20 =>
 xNilCheck x5 fun x21 =>
 xAddr (some 2) x21 fun x22 =>
 c77_13 x22 h7 x20 x5 x15 v0 x1 x2 x10 x4 x3 x6 x7 x11 x12 x16 x17 x18 x19 x21 k)
noncomputable abbrev c77_15 (x7 : CV) (x2 : CV) (h3 : CH) (k : CV → CH → Bool) (x6 : CV) (x5 : CV) (v0 : CV) (x1 : CV) (x4 : CV) (x3 : CV) : Bool :=
 xIte x7
 (xBuild (some (.inl [(0, 1), (1, 1), (2, 1)])) (some (.agg [.nils, (.int .i64 (.ofNat 0)), (.int .i64 (.ofNat 0))])) [] fun x8 =>
 xStore (some 3) x2 x8 h3 fun h4 =>
 xLoad (some (some 3)) x2 h4 fun x9 =>
 k (.tup [x9, x6]) h4)
 (bd126 x5 h3 fun x10 h5 =>
 xLen (some (.inl false)) x10 fun x11 =>
 xBin (some (.int .i64)) .gtr x11 (.int .i64 (.ofNat 0)) fun x12 =>
 c77_14 x12 x2 h5 k x10 x5 v0 x1 x4 x3 x6 x7 x11)
noncomputable def bd77 (v0 : CV) (h : CH) (k : CV → CH → Bool) : Bool :=
 xBox 100 v0 h fun x1 h1 =>
 xBoxP 30 [.nils, (.int .i64 (.ofNat 0)), (.int .i64 (.ofNat 0))] h1 fun x2 h2 =>
 xLoad (some (some 2)) x1 h2 fun x3 =>
 bd125 x3 h2 fun x4 h3 =>
 xExtract x4 0 fun x5 =>
 xExtract x4 1 fun x6 =>
 xEq (some .ptr) .eql x5 .nilp h3 fun x7 =>
 c77_15 x7 x2 h3 k x6 x5 v0 x1 x4 x3
noncomputable abbrev ex77 : Ex := fun args h k => a1 args fun v0 => bd77 v0 h k
theorem sim77 : SimF Tryz.prog 77 ex77 := fun args h k hk => by
 obtain ⟨v0, rfl, hk⟩ := a1_ok hk
 exact sim_of (qf := qz) (Z := zs) (C := [(125, ex125), (126, ex126), (127, ex127), (128, ex128)]) (T := [(12, .tree [0, 1, 2, 3, 4, 5, 6, 7, 8, 9, 10, 11] (.fork [0, 2, 3, 4, 5, 6] (.cons 1 (.line [7, 8, 9, 10, 11]) (.cons 7 (.line [1, 8, 9, 10, 11]) .nil))))]) ⟨zerosB_ok zsOk, (exCons (by kernel_rfl) sim125 (exCons (by kernel_rfl) sim126 (exCons (by kernel_rfl) sim127 (exCons (by kernel_rfl) sim128 exNil))))⟩ (.seq .nil (.seq .nil (.seq .nil (.seq .nil (.seq .nil (.seq .nil (.seq .nil (.seq (.seq .nil (.loop [8] [49, 50, 51, 52, 55, 56, 57, 58, 59, 60, 61, 62, 63, 64, 65, 66, 67, 68, 69, 70, 71, 72, 73, 74, 75, 53, 54] .nil)) .nil)))))))) Tryz.func77 _ h k (Eq.mp (by kernel_rfl : (bd77 v0 h k = true) = _) hk)

noncomputable abbrev c176_1 (x8 : CV) (h1 : CH) (v1 : CV) (s3 : TupC 1) (k : CV → CH → Bool) (K4 : TupC 1 → CH → Bool) : Bool :=
 xLoad (some (some 1025)) x8 h1 fun x9 =>
 xIdx (some (none, 1025)) v1 s3.1 fun x10 =>
 xLoad (some (some 1025)) x10 h1 fun x11 =>
 xEq (some (.agg (.fld 0 (some none) .int (.fld 1 (some (some 1024)) (.bytes 1024) .done)))) .neq x9 x11 h1 fun x12 =>
 xIte x12
 (k (.bool false) h1)
 (xBin (some (.int .i64)) .add s3.1 (.int .i64 (.ofNat 1)) fun x13 =>
 K4 (x13, ()) h1)
noncomputable abbrev c176_2 (v1 : CV) (x1 : CV) (k : CV → CH → Bool) (h : CH) (v0 : CV) : Bool :=
 xLen (some (.inl false)) v1 fun x2 =>
 xBin (some (.int .i64)) .neq x1 x2 fun x3 =>
 xIte x3
 (k (.bool false) h)
 (xLoop (n := 1) (fun K4 s3 h1 =>
 xLen (some (.inl false)) v0 fun x6 =>
 xBin (some (.int .i64)) .lss s3.1 x6 fun x7 =>
 xIte x7
 (xIdx (some (none, 1025)) v0 s3.1 fun x8 =>
 c176_1 x8 h1 v1 s3 k K4)
 (k (.bool true) h1)) 1000000 ((.int .i64 (.ofNat 0)), ()) h)
noncomputable def bd176 (v0 v1 : CV) (h : CH) (k : CV → CH → Bool) : Bool :=
 xLen (some (.inl false)) v0 fun x1 =>
 c176_2 v1 x1 k h v0
noncomputable abbrev ex176 : Ex := fun args h k => a2 args fun v0 v1 => bd176 v0 v1 h k
theorem sim176 : SimF Tryz.prog 176 ex176 := fun args h k hk => by
 obtain ⟨v0, v1, rfl, hk⟩ := a2_ok hk
 exact sim_of (qf := qz) (Z := zs) (C := []) (T := []) ⟨zerosB_ok zsOk, exNil⟩ (.seq .nil (.seq .nil (.seq (.seq .nil (.loop [5] [11, 12, 13, 14, 17, 18, 19, 20, 21, 22, 23, 24, 25, 4, 15, 16] .nil)) .nil))) Tryz.func176 _ h k (Eq.mp (by kernel_rfl : (bd176 v0 v1 h k = true) = _) hk)

noncomputable abbrev c177_1 (v0 : CV) (s3 : TupC 1) (h1 : CH) (v1 : CV) (k : CV → CH → Bool) (K4 : TupC 1 → CH → Bool) : Bool :=
 xIdx (some (none, 2)) v0 s3.1 fun x8 =>
 xLoad (some (some 2)) x8 h1 fun x9 =>
 xIdx (some (none, 2)) v1 s3.1 fun x10 =>
 xLoad (some (some 2)) x10 h1 fun x11 =>
 xEq (some (.agg (.fld 0 (some none) .int (.fld 1 (some none) .str .done)))) .neq x9 x11 h1 fun x12 =>
 xIte x12
 (k (.bool false) h1)
 (xBin (some (.int .i64)) .add s3.1 (.int .i64 (.ofNat 1)) fun x13 =>
 K4 (x13, ()) h1)
noncomputable def bd177 (v0 v1 : CV) (h : CH) (k : CV → CH → Bool) : Bool :=
 xLen (some (.inl false)) v0 fun x1 =>
 xLen (some (.inl false)) v1 fun x2 =>
 xBin (some (.int .i64)) .neq x1 x2 fun x3 =>
 xIte x3
 (k (.bool false) h)
 (xLoop (n := 1) (fun K4 s3 h1 =>
 xLen (some (.inl false)) v0 fun x6 =>
 xBin (some (.int .i64)) .lss s3.1 x6 fun x7 =>
 xIte x7
 (c177_1 v0 s3 h1 v1 k K4)
 (k (.bool true) h1)) 1000000 ((.int .i64 (.ofNat 0)), ()) h)
noncomputable abbrev ex177 : Ex := fun args h k => a2 args fun v0 v1 => bd177 v0 v1 h k
theorem sim177 : SimF Tryz.prog 177 ex177 := fun args h k hk => by
 obtain ⟨v0, v1, rfl, hk⟩ := a2_ok hk
 exact sim_of (qf := qz) (Z := zs) (C := []) (T := []) ⟨zerosB_ok zsOk, exNil⟩ (.seq .nil (.seq .nil (.seq (.seq .nil (.loop [5] [11, 12, 13, 14, 17, 18, 19, 20, 21, 22, 23, 24, 25, 4, 15, 16] .nil)) .nil))) Tryz.func177 _ h k (Eq.mp (by kernel_rfl : (bd177 v0 v1 h k = true) = _) hk)

noncomputable abbrev c129_1 (x1 : CV) (h2 : CH) (x2 : CV) (k : CV → CH → Bool) : Bool :=
 xAddr (some 5) x1 fun x28 =>
 xLoad (some none) x28 h2 fun x29 =>
 xAddr (some 5) x2 fun x30 =>
 xLoad (some none) x30 h2 fun x31 =>
 bd176 x29 x31 h2 fun x32 h3 =>
 xIte x32
 (xAddr (some 6) x1 fun x33 =>
 xLoad (some none) x33 h3 fun x34 =>
 xAddr (some 6) x2 fun x35 =>
 xLoad (some none) x35 h3 fun x36 =>
 bd177 x34 x36 h3 fun x37 h4 =>
 k x37 h4)
 (k (.bool false) h3)
noncomputable abbrev c129_2 (x20 : CV) (h2 : CH) (x19 : CV) (x1 : CV) (x2 : CV) (k : CV → CH → Bool) : Bool :=
 xLoad (some none) x20 h2 fun x21 =>
 xBin (some (.int .i64)) .eql x19 x21 fun x22 =>
 xIte x22
 (xAddr (some 4) x1 fun x23 =>
 xLoad (some none) x23 h2 fun x24 =>
 xAddr (some 4) x2 fun x25 =>
 xLoad (some none) x25 h2 fun x26 =>
 xBin (some (.int .i64)) .eql x24 x26 fun x27 =>
 xIte x27
 (c129_1 x1 h2 x2 k)
 (k (.bool false) h2))
 (k (.bool false) h2)
noncomputable abbrev c129_3 (x12 : CV) (x1 : CV) (h2 : CH) (x2 : CV) (k : CV → CH → Bool) : Bool :=
 xIte x12
 (xAddr (some 2) x1 fun x13 =>
 xLoad (some none) x13 h2 fun x14 =>
 xAddr (some 2) x2 fun x15 =>
 xLoad (some none) x15 h2 fun x16 =>
 xBin (some (.int .i64)) .eql x14 x16 fun x17 =>
 xIte x17
 (xAddr (some 3) x1 fun x18 =>
 xLoad (some none) x18 h2 fun x19 =>
 xAddr (some 3) x2 fun x20 =>
 c129_2 x20 h2 x19 x1 x2 k)
 (k (.bool false) h2))
 (k (.bool false) h2)
noncomputable abbrev c129_4 (x3 : CV) (h2 : CH) (x2 : CV) (x1 : CV) (k : CV → CH → Bool) : Bool :=
 xLoad (some none) x3 h2 fun x4 =>
 xAddr (some 0) x2 fun x5 =>
 xLoad (some none) x5 h2 fun x6 =>
 xBin (some (.int .i64)) .eql x4 x6 fun x7 =>
 xIte x7
 (xAddr (some 1) x1 fun x8 =>
 xLoad (some none) x8 h2 fun x9 =>
 xAddr (some 1) x2 fun x10 =>
 xLoad (some none) x10 h2 fun x11 =>
 xBin (some (.int .u16)) .eql x9 x11 fun x12 =>
 c129_3 x12 x1 h2 x2 k)
 (k (.bool false) h2)
noncomputable def bd129 (v0 v1 : CV) (h : CH) (k : CV → CH → Bool) : Bool :=
 xBox 66 v0 h fun x1 h1 =>
 xBox 66 v1 h1 fun x2 h2 =>
 xAddr (some 0) x1 fun x3 =>
 c129_4 x3 h2 x2 x1 k
noncomputable abbrev ex129 : Ex := fun args h k => a2 args fun v0 v1 => bd129 v0 v1 h k
theorem sim129 : SimF Tryz.prog 129 ex129 := fun args h k hk => by
 obtain ⟨v0, v1, rfl, hk⟩ := a2_ok hk
 exact sim_of (qf := qz) (Z := zs) (C := [(176, ex176), (177, ex177)]) (T := []) ⟨zerosB_ok zsOk, (exCons (by kernel_rfl) sim176 (exCons (by kernel_rfl) sim177 exNil))⟩ .nil Tryz.func129 _ h k (Eq.mp (by kernel_rfl : (bd129 v0 v1 h k = true) = _) hk)

noncomputable abbrev c78_1 (x12 : CV) (h4 : CH) (x2 : CV) (s3 : TupC 1) (k : CV → CH → Bool) (K4 : TupC 1 → CH → Bool) : Bool :=
 xLoad (some (some 7)) x12 h4 fun x13 =>
 xAddr (some 0) x2 fun x14 =>
 xLoad (some none) x14 h4 fun x15 =>
 xIdx (some (none, 7)) x15 s3.1 fun x16 =>
 xLoad (some (some 7)) x16 h4 fun x17 =>
 bd129 x13 x17 h4 fun x18 h5 =>
 xUn .not x18 fun x19 =>
 xIte x19
 (k (.bool false) h5)
 (xBin (some (.int .i64)) .add s3.1 (.int .i64 (.ofNat 1)) fun x20 =>
 K4 (x20, ()) h5)
noncomputable abbrev c78_2 (x1 : CV) (x2 : CV) (k : CV → CH → Bool) (h3 : CH) : Bool :=
 xLoop (n := 1) (fun K4 s3 h4 =>
 xAddr (some 0) x1 fun x6 =>
 xLoad (some none) x6 h4 fun x7 =>
 xLen (some (.inl false)) x7 fun x8 =>
 xBin (some (.int .i64)) .lss s3.1 x8 fun x9 =>
 xIte x9
 (xAddr (some 0) x1 fun x10 =>
 xLoad (some none) x10 h4 fun x11 =>
 xIdx (some (none, 7)) x11 s3.1 fun x12 =>
 c78_1 x12 h4 x2 s3 k K4)
 (k (.bool true) h4)) 1000000 ((.int .i64 (.ofNat 0)), ()) h3
noncomputable abbrev c78_3 (x28 : CV) (x30 : CV) (K20 : TupC 1 → CH → Bool) (h2 : CH) (x1 : CV) (x2 : CV) : Bool :=
 xBin (some (.int .i64)) .neq x28 x30 fun x31 =>
 xIte x31
 (K20 ((.bool true), ()) h2)
 (xAddr (some 0) x1 fun x32 =>
 xLoad (some none) x32 h2 fun x33 =>
 xLen (some (.inl false)) x33 fun x34 =>
 xAddr (some 0) x2 fun x35 =>
 xLoad (some none) x35 h2 fun x36 =>
 xLen (some (.inl false)) x36 fun x37 =>
 xBin (some (.int .i64)) .neq x34 x37 fun x38 =>
 K20 (x38, ()) h2)
noncomputable abbrev c78_4 (x22 : CV) (h2 : CH) (x2 : CV) (K20 : TupC 1 → CH → Bool) (x1 : CV) : Bool :=
 xLoad (some none) x22 h2 fun x23 =>
 xAddr (some 1) x2 fun x24 =>
 xLoad (some none) x24 h2 fun x25 =>
 xBin (some (.int .i64)) .neq x23 x25 fun x26 =>
 xIte x26
 (K20 ((.bool true), ()) h2)
 (xAddr (some 2) x1 fun x27 =>
 xLoad (some none) x27 h2 fun x28 =>
 xAddr (some 2) x2 fun x29 =>
 xLoad (some none) x29 h2 fun x30 =>
 c78_3 x28 x30 K20 h2 x1 x2)
noncomputable def bd78 (v0 v1 : CV) (h : CH) (k : CV → CH → Bool) : Bool :=
 xBox 30 v0 h fun x1 h1 =>
 xBox 30 v1 h1 fun x2 h2 =>
 xJoin (n := 1) (fun s2 h3 =>
 xIte s2.1
 (k (.bool false) h3)
 (c78_2 x1 x2 k h3))
 (fun K20 => xAddr (some 1) x1 fun x22 =>
 c78_4 x22 h2 x2 K20 x1)
noncomputable abbrev ex78 : Ex := fun args h k => a2 args fun v0 v1 => bd78 v0 v1 h k
theorem sim78 : SimF Tryz.prog 78 ex78 := fun args h k hk => by
 obtain ⟨v0, v1, rfl, hk⟩ := a2_ok hk
 exact sim_of (qf := qz) (Z := zs) (C := [(129, ex129)]) (T := []) ⟨zerosB_ok zsOk, (exCons (by kernel_rfl) sim129 exNil)⟩ (.seq .nil (.seq (.join [26] [6, 7, 8, 9, 10, 11, 12, 13, 14, 15, 16, 17, 18, 19, 20, 21, 22, 23, 24, 25] .nil .nil) (.seq (.seq .nil (.loop [5] [27, 28, 29, 30, 31, 34, 35, 36, 37, 38, 39, 40, 41, 42, 43, 44, 45, 4, 32, 33] .nil)) .nil))) Tryz.func78 _ h k (Eq.mp (by kernel_rfl : (bd78 v0 v1 h k = true) = _) hk)

noncomputable abbrev c37_1 (h6 : CH) (x15 : CV) (x16 : CV) (x2 : CV) (k : CV → CH → Bool) : Bool :=
 xBoxP 30 [.nils, (.int .i64 (.ofNat 0)), (.int .i64 (.ofNat 0))] h6 fun x17 h7 =>
 xStore (some 3) x17 x15 h7 fun h8 =>
 xLen (some (.inl false)) x16 fun x18 =>
 xBin (some (.int .i64)) .eql x18 (.int .i64 (.ofNat 0)) fun x19 =>
 xIte x19
 (xLoad (some (some 3)) x17 h8 fun x20 =>
 xLoad (some (some 3)) x2 h8 fun x21 =>
 bd78 x20 x21 h8 fun x22 h9 =>
 k x22 h9)
 (k (.bool false) h8)
noncomputable abbrev c37_2 (h3 : CH) (x8 : CV) (k : CV → CH → Bool) (x2 : CV) : Bool :=
 xBoxP 100 [(.int .i64 (.ofNat 0)), .nils] h3 fun x9 h4 =>
 xStore (some 2) x9 x8 h4 fun h5 =>
 xAddr (some 0) x9 fun x10 =>
 xLoad (some none) x10 h5 fun x11 =>
 xBin (some (.int .i64)) .eql x11 (.int .i64 (.ofNat 0)) fun x12 =>
 xIte x12
 (k (.bool false) h5)
 (xLoad (some (some 2)) x9 h5 fun x13 =>
 bd77 x13 h5 fun x14 h6 =>
 xExtract x14 0 fun x15 =>
 xExtract x14 1 fun x16 =>
 c37_1 h6 x15 x16 x2 k)
noncomputable def bd37 (v0 v1 : CV) (h : CH) (k : CV → CH → Bool) : Bool :=
 xBox 27 v0 h fun x1 h1 =>
 xBox 30 v1 h1 fun x2 h2 =>
 xAddr (some 0) x1 fun x3 =>
 xLoad (some none) x3 h2 fun x4 =>
 xBin (some (.int .i64)) .gtr x4 (.int .i64 (.ofNat 4096)) fun x5 =>
 xIte x5
 (k (.bool false) h2)
 (xLoad (some (some 3)) x1 h2 fun x6 =>
 xLoad (some (some 3)) x2 h2 fun x7 =>
 bd38 x6 x7 (.int .i64 (.ofNat 0)) h2 fun x8 h3 =>
 c37_2 h3 x8 k x2)
noncomputable abbrev exi37 : Ex := fun args h k => a2 args fun v0 v1 => bd37 v0 v1 h k
theorem simi37 : SimF Tryz.prog 37 exi37 := fun args h k hk => by
 obtain ⟨v0, v1, rfl, hk⟩ := a2_ok hk
 exact sim_of (qf := qz) (Z := zs) (C := [(38, ex38), (77, ex77), (78, ex78)]) (T := []) ⟨zerosB_ok zsOk, (exCons (by kernel_rfl) sim38 (exCons (by kernel_rfl) sim77 (exCons (by kernel_rfl) sim78 exNil)))⟩ .nil Tryz.func37 _ h k (Eq.mp (by kernel_rfl : (bd37 v0 v1 h k = true) = _) hk)
noncomputable abbrev ex37 : Ex := fun args h k => xQuiet (some exi37) args h k
theorem sim37 : SimF Tryz.prog 37 ex37 := simQ simi37

noncomputable abbrev c86_1 (v0 : CV) (x2 : CV) (x3 : CV) (h3 : CH) (k : CV → CH → Bool) : Bool :=
 xBuild (some (.inl [(0, 1), (1, 1), (2, 1), (3, 1), (4, 1), (5, 1), (6, 1), (7, 1), (8, 1), (9, 1), (10, 1)])) (some (.agg [(.int .i64 (.ofNat 0)), .nilm, .nilm, .nils, .nils, (.int .i64 (.ofNat 0)), (.bool false), (.int .i64 (.ofNat 0)), (.int .i64 (.ofNat 0)), (.int .i64 (.ofNat 0)), (.int .i64 (.ofNat 0))])) [(0, v0), (1, x2), (2, x3), (5, (.int .i64 (.negSucc 0)))] fun x4 =>
 xBox 174 x4 h3 fun x5 h4 =>
 k (.tup [x5, (.int .i64 (.ofNat 0))]) h4
noncomputable def bd86 (v0 : CV) (h : CH) (k : CV → CH → Bool) : Bool :=
 xJoin (n := 1) (fun s0 h1 =>
 xIte s0.1
 (k (.tup [.nilp, (.int .i64 (.ofNat 2))]) h1)
 (xNewMap h1 fun x2 h2 =>
 xNewMap h2 fun x3 h3 =>
 c86_1 v0 x2 x3 h3 k))
 (fun K5 => xBin (some (.int .i64)) .lss v0 (.int .i64 (.ofNat 1)) fun x7 =>
 xIte x7
 (K5 ((.bool true), ()) h)
 (xBin (some (.int .i64)) .gtr v0 (.int .i64 (.ofNat 1048576)) fun x8 =>
 K5 (x8, ()) h))
noncomputable abbrev ex86 : Ex := fun args h k => a1 args fun v0 => bd86 v0 h k
theorem sim86 : SimF Tryz.prog 86 ex86 := fun args h k hk => by
 obtain ⟨v0, rfl, hk⟩ := a1_ok hk
 exact sim_of (qf := qz) (Z := zs) (C := []) (T := []) ⟨zerosB_ok zsOk, exNil⟩ (.seq .nil (.seq (.join [9] [4, 5, 6, 7, 8] .nil .nil) .nil)) Tryz.func86 _ h k (Eq.mp (by kernel_rfl : (bd86 v0 h k = true) = _) hk)

noncomputable abbrev c40_1 (x16 : CV) (h6 : CH) (x20 : CV) (s10 : TupC 2) (K11 : TupC 2 → CH → Bool) : Bool :=
 xAddr (some 0) x16 fun x21 =>
 xLoad (some none) x21 h6 fun x22 =>
 xAddr (some 1) x16 fun x23 =>
 xLoad (some (some 1024)) x23 h6 fun x24 =>
 xMapSet (some (3, .int .i64, 70)) x20 x22 x24 h6 fun h7 =>
 xAddr (some 0) x16 fun x25 =>
 xLoad (some none) x25 h7 fun x26 =>
 xBin (some (.int .i64)) .add s10.2.1 (.int .i64 (.ofNat 1)) fun x27 =>
 K11 (x26, x27, ()) h7
noncomputable abbrev c40_2 (x1 : CV) (h5 : CH) (x33 : CV) (K27 : TupC 1 → CH → Bool) (x16 : CV) : Bool :=
 xAddr (some 0) x1 fun x34 =>
 xLoad (some none) x34 h5 fun x35 =>
 xBin (some (.int .i64)) .geq x33 x35 fun x36 =>
 xIte x36
 (K27 ((.bool true), ()) h5)
 (xAddr (some 1) x16 fun x37 =>
 xLoad (some (some 1024)) x37 h5 fun x38 =>
 xBuild (some (.inr 1)) (some (.agg [(.bytes 1024 0)])) [] fun x39 =>
 xEq (some (.agg (.bytes 1024))) .eql x38 x39 h5 fun x40 =>
 K27 (x40, ()) h5)
noncomputable abbrev c40_3 (k : CV → CH → Bool) (x5 : CV) (x16 : CV) (s10 : TupC 2) (K11 : TupC 2 → CH → Bool) (h5 : CH) (x1 : CV) : Bool :=
 xJoin (n := 1) (fun s16 h6 =>
 xIte s16.1
 (k (.tup [.nilp, (.int .i64 (.ofNat 4))]) h6)
 (xNilCheck x5 fun x18 =>
 xAddr (some 1) x18 fun x19 =>
 xLoad (some none) x19 h6 fun x20 =>
 c40_1 x16 h6 x20 s10 K11))
 (fun K27 => xAddr (some 0) x16 fun x29 =>
 xLoad (some none) x29 h5 fun x30 =>
 xBin (some (.int .i64)) .leq x30 s10.1 fun x31 =>
 xIte x31
 (K27 ((.bool true), ()) h5)
 (xAddr (some 0) x16 fun x32 =>
 xLoad (some none) x32 h5 fun x33 =>
 c40_2 x1 h5 x33 K27 x16))
noncomputable abbrev c40_4 (x10 : CV) (x9 : CV) (k : CV → CH → Bool) (x5 : CV) (x1 : CV) (h2 : CH) : Bool :=
 xLoop (n := 2) (fun K11 s10 h3 =>
 xBin (some (.int .i64)) .lss s10.2.1 x10 fun x13 =>
 xIte x13
 (xIdx (some (none, 1025)) x9 s10.2.1 fun x14 =>
 xLoad (some (some 1025)) x14 h3 fun x15 =>
 xBoxP 72 [(.int .i64 (.ofNat 0)), (.bytes 1024 0)] h3 fun x16 h4 =>
 xStore (some 1025) x16 x15 h4 fun h5 =>
 c40_3 k x5 x16 s10 K11 h5 x1)
 (k (.tup [x5, (.int .i64 (.ofNat 0))]) h3)) 1000000 ((.int .i64 (.negSucc 0)), (.int .i64 (.ofNat 0)), ()) h2
noncomputable abbrev c40_5 (x2 : CV) (h1 : CH) (k : CV → CH → Bool) (x1 : CV) : Bool :=
 xLoad (some none) x2 h1 fun x3 =>
 bd86 x3 h1 fun x4 h2 =>
 xExtract x4 0 fun x5 =>
 xExtract x4 1 fun x6 =>
 xBin (some (.int .i64)) .neq x6 (.int .i64 (.ofNat 0)) fun x7 =>
 xIte x7
 (k (.tup [.nilp, (.int .i64 (.ofNat 4))]) h2)
 (xAddr (some 1) x1 fun x8 =>
 xLoad (some none) x8 h2 fun x9 =>
 xLen (some (.inl false)) x9 fun x10 =>
 c40_4 x10 x9 k x5 x1 h2)
noncomputable def bd40 (v0 : CV) (h : CH) (k : CV → CH → Bool) : Bool :=
 xBox 100 v0 h fun x1 h1 =>
 xAddr (some 0) x1 fun x2 =>
 c40_5 x2 h1 k x1
noncomputable abbrev ex40 : Ex := fun args h k => a1 args fun v0 => bd40 v0 h k
theorem sim40 : SimF Tryz.prog 40 ex40 := fun args h k hk => by
 obtain ⟨v0, rfl, hk⟩ := a1_ok hk
 exact sim_of (qf := qz) (Z := zs) (C := [(86, ex86)]) (T := []) ⟨zerosB_ok zsOk, (exCons (by kernel_rfl) sim86 exNil)⟩ (.seq .nil (.seq .nil (.seq .nil (.seq .nil (.seq (.seq .nil (.loop [6, 20] [21, 22, 23, 8, 24, 25, 26, 27, 28, 29, 30, 31, 32, 33, 34, 35, 36, 37, 38, 39, 40, 2, 3, 41, 42, 43, 44, 45, 46, 47, 48, 49, 50, 51] (.seq .nil (.seq .nil (.seq (.seq .nil (.seq (.join [40] [24, 25, 26, 27, 28, 29, 30, 31, 32, 33, 34, 35, 36, 37, 38, 39] .nil .nil) .nil)) .nil))))) .nil))))) Tryz.func40 _ h k (Eq.mp (by kernel_rfl : (bd40 v0 h k = true) = _) hk)

noncomputable def bd184 (v0 : CV) (h : CH) (k : CV → CH → Bool) : Bool :=
 xEq (some .ptr) .neq v0 .nilp h fun x1 =>
 xIte x1
 (xNilCheck v0 fun x2 =>
 xAddr (some 0) x2 fun x3 =>
 xLoad (some none) x3 h fun x4 =>
 xBin (some (.int .i64)) .gtr x4 (.int .i64 (.ofNat 0)) fun x5 =>
 k x5 h)
 (k (.bool false) h)
noncomputable abbrev ex184 : Ex := fun args h k => a1 args fun v0 => bd184 v0 h k
theorem sim184 : SimF Tryz.prog 184 ex184 := fun args h k hk => by
 obtain ⟨v0, rfl, hk⟩ := a1_ok hk
 exact sim_of (qf := qz) (Z := zs) (C := []) (T := []) ⟨zerosB_ok zsOk, exNil⟩ .nil Tryz.func184 _ h k (Eq.mp (by kernel_rfl : (bd184 v0 h k = true) = _) hk)

noncomputable def bd138 (v0 : CV) (h : CH) (k : CV → CH → Bool) : Bool :=
 bd184 v0 h fun x1 h1 =>
 xUn .not x1 fun x2 =>
 xIte x2
 (k (.int .i64 (.ofNat 0)) h1)
 (xNilCheck v0 fun x3 =>
 xAddr (some 0) x3 fun x4 =>
 xLoad (some none) x4 h1 fun x5 =>
 k x5 h1)
noncomputable abbrev ex138 : Ex := fun args h k => a1 args fun v0 => bd138 v0 h k
theorem sim138 : SimF Tryz.prog 138 ex138 := fun args h k hk => by
 obtain ⟨v0, rfl, hk⟩ := a1_ok hk
 exact sim_of (qf := qz) (Z := zs) (C := [(184, ex184)]) (T := []) ⟨zerosB_ok zsOk, (exCons (by kernel_rfl) sim184 exNil)⟩ .nil Tryz.func138 _ h k (Eq.mp (by kernel_rfl : (bd138 v0 h k = true) = _) hk)

noncomputable def bd136 (v0 : CV) (h : CH) (k : CV → CH → Bool) : Bool :=
 bd138 v0 h fun x1 h1 =>
 xBin (some (.int .i64)) .gtr x1 (.int .i64 (.ofNat 0)) fun x2 =>
 k x2 h1
noncomputable abbrev ex136 : Ex := fun args h k => a1 args fun v0 => bd136 v0 h k
theorem sim136 : SimF Tryz.prog 136 ex136 := fun args h k hk => by
 obtain ⟨v0, rfl, hk⟩ := a1_ok hk
 exact sim_of (qf := qz) (Z := zs) (C := [(138, ex138)]) (T := []) ⟨zerosB_ok zsOk, (exCons (by kernel_rfl) sim138 exNil)⟩ .nil Tryz.func136 _ h k (Eq.mp (by kernel_rfl : (bd136 v0 h k = true) = _) hk)

noncomputable abbrev c137_1 (x2 : CV) (h3 : CH) (k : CV → CH → Bool) : Bool :=
 xBuild (some (.inl [(0, 3), (3, 1), (4, 1), (5, 1), (6, 1), (7, 1), (8, 1)])) (some (.agg [(.int .i64 (.ofNat 0)), (.int .i64 (.ofNat 0)), (.int .i64 (.ofNat 0)), (.int .i64 (.ofNat 0)), (.int .i64 (.ofNat 0)), (.int .i64 (.ofNat 0)), (.int .i64 (.ofNat 0)), (.int .i64 (.ofNat 0)), (.int .i64 (.ofNat 0))])) [] fun x4 =>
 xStore (some 9) x2 x4 h3 fun h4 =>
 xLoad (some (some 9)) x2 h4 fun x5 =>
 k (.tup [x5, (.int .i64 (.ofNat 2))]) h4
noncomputable abbrev c137_2 (x2 : CV) (h10 : CH) (k : CV → CH → Bool) : Bool :=
 xBuild (some (.inl [(0, 3), (3, 1), (4, 1), (5, 1), (6, 1), (7, 1), (8, 1)])) (some (.agg [(.int .i64 (.ofNat 0)), (.int .i64 (.ofNat 0)), (.int .i64 (.ofNat 0)), (.int .i64 (.ofNat 0)), (.int .i64 (.ofNat 0)), (.int .i64 (.ofNat 0)), (.int .i64 (.ofNat 0)), (.int .i64 (.ofNat 0)), (.int .i64 (.ofNat 0))])) [] fun x40 =>
 xStore (some 9) x2 x40 h10 fun h11 =>
 xLoad (some (some 9)) x2 h11 fun x41 =>
 k (.tup [x41, (.int .i64 (.ofNat 2))]) h11
noncomputable abbrev c137_3 (x11 : CV) (h10 : CH) (x1 : CV) (x2 : CV) (k : CV → CH → Bool) : Bool :=
 xAddr (some 8) x11 fun x35 =>
 xLoad (some none) x35 h10 fun x36 =>
 xAddr (some 0) x1 fun x37 =>
 xLoad (some none) x37 h10 fun x38 =>
 xBin (some (.int .i64)) .geq x36 x38 fun x39 =>
 xIte x39
 (c137_2 x2 h10 k)
 (xLoad (some (some 9)) x11 h10 fun x42 =>
 xStore (some 9) x2 x42 h10 fun h12 =>
 xLoad (some (some 9)) x2 h12 fun x43 =>
 k (.tup [x43, (.int .i64 (.ofNat 0))]) h12)
noncomputable abbrev c137_4 (x26 : CV) (x11 : CV) (h8 : CH) (x1 : CV) (x2 : CV) (k : CV → CH → Bool) : Bool :=
 xBin (some (.int .i64)) .quo x26 (.int .i64 (.ofNat 8192)) fun x27 =>
 xAddr (some 7) x11 fun x28 =>
 xStore (some 1) x28 x27 h8 fun h9 =>
 xAddr (some 6) x11 fun x29 =>
 xLoad (some none) x29 h9 fun x30 =>
 xAddr (some 7) x11 fun x31 =>
 xLoad (some none) x31 h9 fun x32 =>
 xBin (some (.int .i64)) .add x30 x32 fun x33 =>
 xAddr (some 8) x11 fun x34 =>
 xStore (some 1) x34 x33 h9 fun h10 =>
 c137_3 x11 h10 x1 x2 k
noncomputable abbrev c137_5 (x19 : CV) (h7 : CH) (x18 : CV) (x11 : CV) (x1 : CV) (x2 : CV) (k : CV → CH → Bool) : Bool :=
 xLoad (some none) x19 h7 fun x20 =>
 xBin (some (.int .i64)) .add x18 x20 fun x21 =>
 xAddr (some 6) x11 fun x22 =>
 xStore (some 1) x22 x21 h7 fun h8 =>
 xAddr (some 0) x1 fun x23 =>
 xLoad (some none) x23 h8 fun x24 =>
 xBin (some (.int .i64)) .add x24 (.int .i64 (.ofNat 8192)) fun x25 =>
 xBin (some (.int .i64)) .sub x25 (.int .i64 (.ofNat 1)) fun x26 =>
 c137_4 x26 x11 h8 x1 x2 k
noncomputable abbrev c137_6 (x12 : CV) (h6 : CH) (x11 : CV) (x1 : CV) (x2 : CV) (k : CV → CH → Bool) : Bool :=
 xLoad (some none) x12 h6 fun x13 =>
 xBin (some (.int .i64)) .add x13 (.int .i64 (.ofNat 16)) fun x14 =>
 xBin (some (.int .i64)) .quo x14 (.int .i64 (.ofNat 16)) fun x15 =>
 xAddr (some 5) x11 fun x16 =>
 xStore (some 1) x16 x15 h6 fun h7 =>
 xAddr (some 4) x11 fun x17 =>
 xLoad (some none) x17 h7 fun x18 =>
 xAddr (some 5) x11 fun x19 =>
 c137_5 x19 h7 x18 x11 x1 x2 k
noncomputable abbrev c137_7 (x6 : CV) (x9 : CV) (h3 : CH) (x1 : CV) (x2 : CV) (k : CV → CH → Bool) : Bool :=
 xBuild (some (.inl [(0, 3), (3, 1), (4, 1), (5, 1), (6, 1), (7, 1), (8, 1)])) (some (.agg [(.int .i64 (.ofNat 0)), (.int .i64 (.ofNat 0)), (.int .i64 (.ofNat 0)), (.int .i64 (.ofNat 0)), (.int .i64 (.ofNat 0)), (.int .i64 (.ofNat 0)), (.int .i64 (.ofNat 0)), (.int .i64 (.ofNat 0)), (.int .i64 (.ofNat 0))])) [(0, x6), (1, (.int .i64 (.ofNat 1))), (2, x9)] fun x10 =>
 xBoxP 49 [(.int .i64 (.ofNat 0)), (.int .i64 (.ofNat 0)), (.int .i64 (.ofNat 0)), (.int .i64 (.ofNat 0)), (.int .i64 (.ofNat 0)), (.int .i64 (.ofNat 0)), (.int .i64 (.ofNat 0)), (.int .i64 (.ofNat 0)), (.int .i64 (.ofNat 0))] h3 fun x11 h5 =>
 xStore (some 9) x11 x10 h5 fun h6 =>
 xAddr (some 2) x1 fun x12 =>
 c137_6 x12 h6 x11 x1 x2 k
noncomputable abbrev c137_8 (x56 : CV) (K43 : TupC 1 → CH → Bool) (h2 : CH) (x1 : CV) : Bool :=
 xIte x56
 (K43 ((.bool true), ()) h2)
 (xAddr (some 0) x1 fun x57 =>
 xLoad (some none) x57 h2 fun x58 =>
 xBin (some (.int .i64)) .lss x58 (.int .i64 (.ofNat 1)) fun x59 =>
 xIte x59
 (K43 ((.bool true), ()) h2)
 (xAddr (some 0) x1 fun x60 =>
 xLoad (some none) x60 h2 fun x61 =>
 xBin (some (.int .i64)) .gtr x61 (.int .i64 (.ofNat 1048576)) fun x62 =>
 K43 (x62, ()) h2))
noncomputable abbrev c137_9 (x50 : CV) (K43 : TupC 1 → CH → Bool) (h2 : CH) (x1 : CV) : Bool :=
 xIte x50
 (K43 ((.bool true), ()) h2)
 (xAddr (some 2) x1 fun x51 =>
 xLoad (some none) x51 h2 fun x52 =>
 xBin (some (.int .i64)) .lss x52 (.int .i64 (.ofNat 1)) fun x53 =>
 xIte x53
 (K43 ((.bool true), ()) h2)
 (xAddr (some 2) x1 fun x54 =>
 xLoad (some none) x54 h2 fun x55 =>
 xBin (some (.int .i64)) .gtr x55 (.int .i64 (.ofNat 65535)) fun x56 =>
 c137_8 x56 K43 h2 x1))
noncomputable abbrev c137_10 (x2 : CV) (k : CV → CH → Bool) (x1 : CV) (h2 : CH) : Bool :=
 xJoin (n := 1) (fun s2 h3 =>
 xIte s2.1
 (c137_1 x2 h3 k)
 (xLoad (some (some 3)) x1 h3 fun x6 =>
 xAddr (some 1) x1 fun x7 =>
 xLoad (some none) x7 h3 fun x8 =>
 xBin (some (.int .i64)) .add (.int .i64 (.ofNat 1)) x8 fun x9 =>
 c137_7 x6 x9 h3 x1 x2 k))
 (fun K43 => xAddr (some 1) x1 fun x45 =>
 xLoad (some none) x45 h2 fun x46 =>
 xBin (some (.int .i64)) .lss x46 (.int .i64 (.ofNat 32)) fun x47 =>
 xIte x47
 (K43 ((.bool true), ()) h2)
 (xAddr (some 1) x1 fun x48 =>
 xLoad (some none) x48 h2 fun x49 =>
 xBin (some (.int .i64)) .gtr x49 (.int .i64 (.ofNat 256)) fun x50 =>
 c137_9 x50 K43 h2 x1))
noncomputable def bd137 (v0 : CV) (h : CH) (k : CV → CH → Bool) : Bool :=
 xBox 27 v0 h fun x1 h1 =>
 xBoxP 49 [(.int .i64 (.ofNat 0)), (.int .i64 (.ofNat 0)), (.int .i64 (.ofNat 0)), (.int .i64 (.ofNat 0)), (.int .i64 (.ofNat 0)), (.int .i64 (.ofNat 0)), (.int .i64 (.ofNat 0)), (.int .i64 (.ofNat 0)), (.int .i64 (.ofNat 0))] h1 fun x2 h2 =>
 c137_10 x2 k x1 h2
noncomputable abbrev ex137 : Ex := fun args h k => a1 args fun v0 => bd137 v0 h k
theorem sim137 : SimF Tryz.prog 137 ex137 := fun args h k hk => by
 obtain ⟨v0, rfl, hk⟩ := a1_ok hk
 exact sim_of (qf := qz) (Z := zs) (C := []) (T := []) ⟨zerosB_ok zsOk, exNil⟩ (.seq .nil (.seq (.join [32] [5, 6, 7, 8, 9, 10, 11, 12, 13, 14, 15, 16, 17, 18, 19, 20, 21, 22, 23, 24, 25, 26, 27, 28, 29, 30, 31] .nil .nil) .nil)) Tryz.func137 _ h k (Eq.mp (by kernel_rfl : (bd137 v0 h k = true) = _) hk)

noncomputable def bd140 (v0 : CV) (h : CH) (k : CV → CH → Bool) : Bool :=
 bd184 v0 h fun x1 h1 =>
 xUn .not x1 fun x2 =>
 xIte x2
 (k (.int .i64 (.ofNat 1)) h1)
 (xNilCheck v0 fun x3 =>
 xAddr (some 6) x3 fun x4 =>
 xLoad (some none) x4 h1 fun x5 =>
 xIte x5
 (k (.int .i64 (.ofNat 3)) h1)
 (k (.int .i64 (.ofNat 0)) h1))
noncomputable abbrev ex140 : Ex := fun args h k => a1 args fun v0 => bd140 v0 h k
theorem sim140 : SimF Tryz.prog 140 ex140 := fun args h k hk => by
 obtain ⟨v0, rfl, hk⟩ := a1_ok hk
 exact sim_of (qf := qz) (Z := zs) (C := [(184, ex184)]) (T := []) ⟨zerosB_ok zsOk, (exCons (by kernel_rfl) sim184 exNil)⟩ .nil Tryz.func140 _ h k (Eq.mp (by kernel_rfl : (bd140 v0 h k = true) = _) hk)

noncomputable abbrev c99_1 (x26 : CV) (v1 : CV) (h8 : CH) (x1 : CV) (k : CV → CH → Bool) : Bool :=
 xLookup (some (3, .int .i64, 70)) (some (.agg [(.bytes 1024 0)])) false x26 v1 h8 fun x27 =>
 xBoxP 70 [(.bytes 1024 0)] h8 fun x28 h10 =>
 xStore (some 1024) x28 x27 h10 fun h11 =>
 xLoad (some (some 1024)) x28 h11 fun x29 =>
 xStore (some 1024) x1 x29 h11 fun h12 =>
 xLoad (some (some 1024)) x1 h12 fun x30 =>
 k (.tup [x30, (.int .i64 (.ofNat 0))]) h12
noncomputable abbrev c99_2 (h6 : CH) (x19 : CV) (x20 : CV) (x1 : CV) (k : CV → CH → Bool) (v0 : CV) (v1 : CV) : Bool :=
 xBoxP 70 [(.bytes 1024 0)] h6 fun x21 h7 =>
 xStore (some 1024) x21 x19 h7 fun h8 =>
 xIte x20
 (xLoad (some (some 1024)) x21 h8 fun x22 =>
 xStore (some 1024) x1 x22 h8 fun h9 =>
 xLoad (some (some 1024)) x1 h9 fun x23 =>
 k (.tup [x23, (.int .i64 (.ofNat 0))]) h9)
 (xNilCheck v0 fun x24 =>
 xAddr (some 1) x24 fun x25 =>
 xLoad (some none) x25 h8 fun x26 =>
 c99_1 x26 v1 h8 x1 k)
noncomputable abbrev c99_3 (v0 : CV) (x12 : CV) (h4 : CH) (v1 : CV) (x1 : CV) (k : CV → CH → Bool) : Bool :=
 xNilCheck v0 fun x13 =>
 xAddr (some 8) x13 fun x14 =>
 xStore (some 1) x14 x12 h4 fun h6 =>
 xNilCheck v0 fun x15 =>
 xAddr (some 2) x15 fun x16 =>
 xLoad (some none) x16 h6 fun x17 =>
 xLookup (some (3, .int .i64, 70)) (some (.agg [(.bytes 1024 0)])) true x17 v1 h6 fun x18 =>
 xExtract x18 0 fun x19 =>
 xExtract x18 1 fun x20 =>
 c99_2 h6 x19 x20 x1 k v0 v1
noncomputable abbrev c99_4 (s5 : TupC 1) (x1 : CV) (h4 : CH) (k : CV → CH → Bool) (v0 : CV) (v1 : CV) : Bool :=
 xIte s5.1
 (xBuild (some (.inr 1)) (some (.agg [(.bytes 1024 0)])) [] fun x7 =>
 xStore (some 1024) x1 x7 h4 fun h5 =>
 xLoad (some (some 1024)) x1 h5 fun x8 =>
 k (.tup [x8, (.int .i64 (.ofNat 2))]) h5)
 (xNilCheck v0 fun x9 =>
 xAddr (some 8) x9 fun x10 =>
 xLoad (some none) x10 h4 fun x11 =>
 xBin (some (.int .i64)) .add x11 (.int .i64 (.ofNat 1)) fun x12 =>
 c99_3 v0 x12 h4 v1 x1 k)
noncomputable abbrev c99_5 (x3 : CV) (x1 : CV) (h2 : CH) (k : CV → CH → Bool) (x2 : CV) (v0 : CV) (v1 : CV) : Bool :=
 xIte x3
 (xBuild (some (.inr 1)) (some (.agg [(.bytes 1024 0)])) [] fun x4 =>
 xStore (some 1024) x1 x4 h2 fun h3 =>
 xLoad (some (some 1024)) x1 h3 fun x5 =>
 k (.tup [x5, x2]) h3)
 (xJoin (n := 1) (fun s5 h4 =>
 c99_4 s5 x1 h4 k v0 v1)
 (fun K30 => xBin (some (.int .i64)) .lss v1 (.int .i64 (.ofNat 0)) fun x32 =>
 xIte x32
 (K30 ((.bool true), ()) h2)
 (xNilCheck v0 fun x33 =>
 xAddr (some 0) x33 fun x34 =>
 xLoad (some none) x34 h2 fun x35 =>
 xBin (some (.int .i64)) .geq v1 x35 fun x36 =>
 K30 (x36, ()) h2)))
noncomputable def bd99 (v0 v1 : CV) (h : CH) (k : CV → CH → Bool) : Bool :=
 xBoxP 70 [(.bytes 1024 0)] h fun x1 h1 =>
 bd140 v0 h1 fun x2 h2 =>
 xBin (some (.int .i64)) .neq x2 (.int .i64 (.ofNat 0)) fun x3 =>
 c99_5 x3 x1 h2 k x2 v0 v1
noncomputable abbrev ex99 : Ex := fun args h k => a2 args fun v0 v1 => bd99 v0 v1 h k
theorem sim99 : SimF Tryz.prog 99 ex99 := fun args h k hk => by
 obtain ⟨v0, v1, rfl, hk⟩ := a2_ok hk
 exact sim_of (qf := qz) (Z := zs) (C := [(140, ex140)]) (T := []) ⟨zerosB_ok zsOk, (exCons (by kernel_rfl) sim140 exNil)⟩ (.seq .nil (.seq .nil (.seq (.join [25] [16, 17, 18, 19, 20, 21, 22, 23, 24] .nil .nil) .nil))) Tryz.func99 _ h k (Eq.mp (by kernel_rfl : (bd99 v0 v1 h k = true) = _) hk)

noncomputable abbrev c156_1 (x1 : CV) (h4 : CH) (x9 : CV) (k : CV → CH → Bool) : Bool :=
 xLoad (some (some 9)) x1 h4 fun x10 =>
 xEq (some (.agg (.fld 0 (some (some 3)) (.fld 0 (some none) .int (.fld 1 (some none) .int (.fld 2 (some none) .int .done))) (.fld 3 (some none) .int (.fld 4 (some none) .int (.fld 5 (some none) .int (.fld 6 (some none) .int (.fld 7 (some none) .int (.fld 8 (some none) .int .done))))))))) .eql x9 x10 h4 fun x11 =>
 k x11 h4
noncomputable abbrev c156_2 (h2 : CH) (x5 : CV) (x6 : CV) (x1 : CV) (k : CV → CH → Bool) : Bool :=
 xBoxP 49 [(.int .i64 (.ofNat 0)), (.int .i64 (.ofNat 0)), (.int .i64 (.ofNat 0)), (.int .i64 (.ofNat 0)), (.int .i64 (.ofNat 0)), (.int .i64 (.ofNat 0)), (.int .i64 (.ofNat 0)), (.int .i64 (.ofNat 0)), (.int .i64 (.ofNat 0))] h2 fun x7 h3 =>
 xStore (some 9) x7 x5 h3 fun h4 =>
 xBin (some (.int .i64)) .eql x6 (.int .i64 (.ofNat 0)) fun x8 =>
 xIte x8
 (xLoad (some (some 9)) x7 h4 fun x9 =>
 c156_1 x1 h4 x9 k)
 (k (.bool false) h4)
noncomputable def bd156 (v0 : CV) (h : CH) (k : CV → CH → Bool) : Bool :=
 xBox 49 v0 h fun x1 h1 =>
 xAddr (some 0) x1 fun x2 =>
 xLoad (some (some 3)) x2 h1 fun x3 =>
 bd137 x3 h1 fun x4 h2 =>
 xExtract x4 0 fun x5 =>
 xExtract x4 1 fun x6 =>
 c156_2 h2 x5 x6 x1 k
noncomputable abbrev ex156 : Ex := fun args h k => a1 args fun v0 => bd156 v0 h k
theorem sim156 : SimF Tryz.prog 156 ex156 := fun args h k hk => by
 obtain ⟨v0, rfl, hk⟩ := a1_ok hk
 exact sim_of (qf := qz) (Z := zs) (C := [(137, ex137)]) (T := []) ⟨zerosB_ok zsOk, (exCons (by kernel_rfl) sim137 exNil)⟩ .nil Tryz.func156 _ h k (Eq.mp (by kernel_rfl : (bd156 v0 h k = true) = _) hk)

noncomputable def bd150 (v0 v1 : CV) (h : CH) (k : CV → CH → Bool) : Bool :=
 xBin (some (.int .i64)) .geq v0 (.int .i64 (.ofNat 0)) fun x1 =>
 xIte x1
 (xBin (some (.int .i64)) .sub (.int .i64 (.ofNat 1024)) v1 fun x2 =>
 xBin (some (.int .i64)) .leq v0 x2 fun x3 =>
 k x3 h)
 (k (.bool false) h)
noncomputable abbrev ex150 : Ex := fun args h k => a2 args fun v0 v1 => bd150 v0 v1 h k
theorem sim150 : SimF Tryz.prog 150 ex150 := fun args h k hk => by
 obtain ⟨v0, v1, rfl, hk⟩ := a2_ok hk
 exact sim_of (qf := qz) (Z := zs) (C := []) (T := []) ⟨zerosB_ok zsOk, exNil⟩ .nil Tryz.func150 _ h k (Eq.mp (by kernel_rfl : (bd150 v0 v1 h k = true) = _) hk)

noncomputable abbrev c103_1 (x12 : CV) (x17 : CV) (v1 : CV) (x1 : CV) (h2 : CH) (k : CV → CH → Bool) : Bool :=
 xBin (some (.int .u32)) .or x12 x17 fun x18 =>
 xBin (some (.int .i64)) .add v1 (.int .i64 (.ofNat 3)) fun x19 =>
 xIdx (some (some 1024, 1)) x1 x19 fun x20 =>
 xLoad (some none) x20 h2 fun x21 =>
 xConv (some (.int .u8)) (some (.int .u32)) x21 fun x22 =>
 xBin (some (.int .u32)) .shl x22 (.int .u64 (.ofNat 24)) fun x23 =>
 xBin (some (.int .u32)) .or x18 x23 fun x24 =>
 k x24 h2
noncomputable abbrev c103_2 (x10 : CV) (x6 : CV) (v1 : CV) (x1 : CV) (h2 : CH) (k : CV → CH → Bool) : Bool :=
 xBin (some (.int .u32)) .shl x10 (.int .u64 (.ofNat 8)) fun x11 =>
 xBin (some (.int .u32)) .or x6 x11 fun x12 =>
 xBin (some (.int .i64)) .add v1 (.int .i64 (.ofNat 2)) fun x13 =>
 xIdx (some (some 1024, 1)) x1 x13 fun x14 =>
 xLoad (some none) x14 h2 fun x15 =>
 xConv (some (.int .u8)) (some (.int .u32)) x15 fun x16 =>
 xBin (some (.int .u32)) .shl x16 (.int .u64 (.ofNat 16)) fun x17 =>
 c103_1 x12 x17 v1 x1 h2 k
noncomputable abbrev c103_3 (x1 : CV) (v1 : CV) (h2 : CH) (k : CV → CH → Bool) : Bool :=
 xIdx (some (some 1024, 1)) x1 v1 fun x4 =>
 xLoad (some none) x4 h2 fun x5 =>
 xConv (some (.int .u8)) (some (.int .u32)) x5 fun x6 =>
 xBin (some (.int .i64)) .add v1 (.int .i64 (.ofNat 1)) fun x7 =>
 xIdx (some (some 1024, 1)) x1 x7 fun x8 =>
 xLoad (some none) x8 h2 fun x9 =>
 xConv (some (.int .u8)) (some (.int .u32)) x9 fun x10 =>
 c103_2 x10 x6 v1 x1 h2 k
noncomputable def bd103 (v0 v1 : CV) (h : CH) (k : CV → CH → Bool) : Bool :=
 xBox 70 v0 h fun x1 h1 =>
 bd150 v1 (.int .i64 (.ofNat 4)) h1 fun x2 h2 =>
 xUn .not x2 fun x3 =>
 xIte x3
 (k (.int .u32 (.ofNat 0)) h2)
 (c103_3 x1 v1 h2 k)
noncomputable abbrev ex103 : Ex := fun args h k => a2 args fun v0 v1 => bd103 v0 v1 h k
theorem sim103 : SimF Tryz.prog 103 ex103 := fun args h k hk => by
 obtain ⟨v0, v1, rfl, hk⟩ := a2_ok hk
 exact sim_of (qf := qz) (Z := zs) (C := [(150, ex150)]) (T := []) ⟨zerosB_ok zsOk, (exCons (by kernel_rfl) sim150 exNil)⟩ .nil Tryz.func103 _ h k (Eq.mp (by kernel_rfl : (bd103 v0 v1 h k = true) = _) hk)

noncomputable abbrev c157_1 (x24 : CV) (h5 : CH) (x14 : CV) (K21 : TupC 1 → CH → Bool) (x1 : CV) : Bool :=
 xLoad (some none) x24 h5 fun x25 =>
 xBin (some (.int .i64)) .add (.int .i64 (.ofNat 1)) x25 fun x26 =>
 xBin (some (.int .i64)) .lss x14 x26 fun x27 =>
 xIte x27
 (K21 ((.bool true), ()) h5)
 (xAddr (some 0) x1 fun x28 =>
 xAddr (some 0) x28 fun x29 =>
 xLoad (some none) x29 h5 fun x30 =>
 xBin (some (.int .i64)) .geq x14 x30 fun x31 =>
 K21 (x31, ()) h5)
noncomputable abbrev c157_2 (k : CV → CH → Bool) (x8 : CV) (x14 : CV) (s9 : TupC 1) (K10 : TupC 1 → CH → Bool) (x17 : CV) (h5 : CH) (x1 : CV) : Bool :=
 xJoin (n := 1) (fun s18 h6 =>
 xIte s18.1
 (k (.bool false) h6)
 (xBuild (some (.inl [])) (some (.agg [])) [] fun x20 =>
 xMapSet (some (3, .int .i64, 212)) x8 x14 x20 h6 fun h7 =>
 xBin (some (.int .i64)) .add s9.1 (.int .i64 (.ofNat 1)) fun x21 =>
 K10 (x21, ()) h7))
 (fun K21 => xIte x17
 (K21 ((.bool true), ()) h5)
 (xAddr (some 0) x1 fun x23 =>
 xAddr (some 1) x23 fun x24 =>
 c157_1 x24 h5 x14 K21 x1))
noncomputable abbrev c157_3 (s9 : TupC 1) (x9 : CV) (v1 : CV) (h3 : CH) (x8 : CV) (k : CV → CH → Bool) (K10 : TupC 1 → CH → Bool) (x1 : CV) : Bool :=
 xBin (some (.int .i64)) .lss s9.1 x9 fun x12 =>
 xIte x12
 (xIdx (some (none, 1)) v1 s9.1 fun x13 =>
 xLoad (some none) x13 h3 fun x14 =>
 xLookup (some (3, .int .i64, 212)) (some (.agg [])) true x8 x14 h3 fun x15 =>
 xExtract x15 0 fun x16 =>
 xExtract x15 1 fun x17 =>
 xBoxP 212 [] h3 fun x18 h4 =>
 xStore (some 0) x18 x16 h4 fun h5 =>
 c157_2 k x8 x14 s9 K10 x17 h5 x1)
 (k (.bool true) h3)
noncomputable abbrev c157_4 (x3 : CV) (h1 : CH) (x2 : CV) (k : CV → CH → Bool) (v1 : CV) (x1 : CV) : Bool :=
 xAddr (some 1) x3 fun x4 =>
 xLoad (some none) x4 h1 fun x5 =>
 xBin (some (.int .i64)) .sub x5 (.int .i64 (.ofNat 1)) fun x6 =>
 xBin (some (.int .i64)) .gtr x2 x6 fun x7 =>
 xIte x7
 (k (.bool false) h1)
 (xNewMap h1 fun x8 h2 =>
 xLen (some (.inl false)) v1 fun x9 =>
 xLoop (n := 1) (fun K10 s9 h3 =>
 c157_3 s9 x9 v1 h3 x8 k K10 x1) 1000000 ((.int .i64 (.ofNat 0)), ()) h2)
noncomputable def bd157 (v0 v1 : CV) (h : CH) (k : CV → CH → Bool) : Bool :=
 xBox 49 v0 h fun x1 h1 =>
 xLen (some (.inl false)) v1 fun x2 =>
 xAddr (some 0) x1 fun x3 =>
 c157_4 x3 h1 x2 k v1 x1
noncomputable abbrev ex157 : Ex := fun args h k => a2 args fun v0 v1 => bd157 v0 v1 h k
theorem sim157 : SimF Tryz.prog 157 ex157 := fun args h k hk => by
 obtain ⟨v0, v1, rfl, hk⟩ := a2_ok hk
 exact sim_of (qf := qz) (Z := zs) (C := []) (T := []) ⟨zerosB_ok zsOk, exNil⟩ (.seq .nil (.seq .nil (.seq .nil (.seq (.seq .nil (.loop [20] [21, 22, 23, 7, 25, 26, 27, 24, 28, 29, 8, 9, 30, 31, 32, 33, 34, 35, 36, 37, 38, 39, 40, 41, 42, 43, 44, 45, 4, 46, 47, 48, 49] (.seq .nil (.seq .nil (.seq (.seq .nil (.seq (.seq .nil (.join [45] [30, 31, 32, 33, 34, 35, 36, 37, 38, 39, 40, 41, 42, 43, 44] .nil .nil)) .nil)) .nil))))) .nil)))) Tryz.func157 _ h k (Eq.mp (by kernel_rfl : (bd157 v0 v1 h k = true) = _) hk)

noncomputable abbrev c139_1 (x29 : CV) (h10 : CH) (x25 : CV) (x19 : CV) (s20 : TupC 1) (K21 : TupC 1 → CH → Bool) : Bool :=
 xConv (some (.int .u32)) (some (.int .i64)) x29 fun x30 =>
 xNewS (some (3, 1, 8, false)) (some [(.int .i64 (.ofNat 0))]) 1 [(0, x30)] h10 fun x31 h11 =>
 xApp (some (3, 1, 8, false)) x25 x31 h11 fun x32 h12 =>
 xAddr (some 0) x19 fun x33 =>
 xStore (some 1) x33 x32 h12 fun h13 =>
 xBin (some (.int .i64)) .add s20.1 (.int .i64 (.ofNat 1)) fun x34 =>
 K21 (x34, ()) h13
noncomputable abbrev c139_2 (x39 : CV) (x3 : CV) (h14 : CH) (k : CV → CH → Bool) (x19 : CV) : Bool :=
 xIte x39
 (xBuild (some (.inl [(0, 1)])) (some (.agg [.nils])) [] fun x40 =>
 xStore (some 1) x3 x40 h14 fun h15 =>
 xLoad (some (some 1)) x3 h15 fun x41 =>
 k (.tup [x41, (.int .i64 (.ofNat 4))]) h15)
 (xLoad (some (some 1)) x19 h14 fun x42 =>
 xStore (some 1) x3 x42 h14 fun h16 =>
 xLoad (some (some 1)) x3 h16 fun x43 =>
 k (.tup [x43, (.int .i64 (.ofNat 0))]) h16)
noncomputable abbrev c139_3 (x23 : CV) (x19 : CV) (h9 : CH) (x2 : CV) (s20 : TupC 1) (K21 : TupC 1 → CH → Bool) (x1 : CV) (x3 : CV) (k : CV → CH → Bool) : Bool :=
 xIte x23
 (xAddr (some 0) x19 fun x24 =>
 xLoad (some none) x24 h9 fun x25 =>
 xLoad (some (some 1024)) x2 h9 fun x26 =>
 xBin (some (.int .i64)) .add s20.1 (.int .i64 (.ofNat 1)) fun x27 =>
 xBin (some (.int .i64)) .mul (.int .i64 (.ofNat 4)) x27 fun x28 =>
 xQuiet (some ex103) [x26, x28] h9 fun x29 h10 =>
 c139_1 x29 h10 x25 x19 s20 K21)
 (xLoad (some (some 9)) x1 h9 fun x35 =>
 xAddr (some 0) x19 fun x36 =>
 xLoad (some none) x36 h9 fun x37 =>
 bd157 x35 x37 h9 fun x38 h14 =>
 xUn .not x38 fun x39 =>
 c139_2 x39 x3 h14 k x19)
noncomputable abbrev c139_4 (x16 : CV) (x3 : CV) (h6 : CH) (k : CV → CH → Bool) (x10 : CV) (x2 : CV) (x1 : CV) : Bool :=
 xIte x16
 (xBuild (some (.inl [(0, 1)])) (some (.agg [.nils])) [] fun x17 =>
 xStore (some 1) x3 x17 h6 fun h7 =>
 xLoad (some (some 1)) x3 h7 fun x18 =>
 k (.tup [x18, (.int .i64 (.ofNat 4))]) h7)
 (xBoxP 176 [.nils] h6 fun x19 h8 =>
 xConv (some (.int .u32)) (some (.int .i64)) x10 fun x20 =>
 xLoop (n := 1) (fun K21 s20 h9 =>
 xBin (some (.int .i64)) .lss s20.1 x20 fun x23 =>
 c139_3 x23 x19 h9 x2 s20 K21 x1 x3 k) 1000000 ((.int .i64 (.ofNat 0)), ()) h8)
noncomputable abbrev c139_5 (x2 : CV) (h4 : CH) (x1 : CV) (x3 : CV) (k : CV → CH → Bool) : Bool :=
 xLoad (some (some 1024)) x2 h4 fun x9 =>
 bd103 x9 (.int .i64 (.ofNat 0)) h4 fun x10 h6 =>
 xConv (some (.int .u32)) (some (.int .i64)) x10 fun x11 =>
 xAddr (some 0) x1 fun x12 =>
 xAddr (some 1) x12 fun x13 =>
 xLoad (some none) x13 h6 fun x14 =>
 xBin (some (.int .i64)) .sub x14 (.int .i64 (.ofNat 1)) fun x15 =>
 xBin (some (.int .i64)) .gtr x11 x15 fun x16 =>
 c139_4 x16 x3 h6 k x10 x2 x1
noncomputable abbrev c139_6 (v1 : CV) (h1 : CH) (x1 : CV) (k : CV → CH → Bool) : Bool :=
 xBox 70 v1 h1 fun x2 h2 =>
 xBoxP 176 [.nils] h2 fun x3 h3 =>
 xLoad (some (some 9)) x1 h3 fun x4 =>
 bd156 x4 h3 fun x5 h4 =>
 xUn .not x5 fun x6 =>
 xIte x6
 (xBuild (some (.inl [(0, 1)])) (some (.agg [.nils])) [] fun x7 =>
 xStore (some 1) x3 x7 h4 fun h5 =>
 xLoad (some (some 1)) x3 h5 fun x8 =>
 k (.tup [x8, (.int .i64 (.ofNat 2))]) h5)
 (c139_5 x2 h4 x1 x3 k)
noncomputable def bd139 (v0 v1 : CV) (h : CH) (k : CV → CH → Bool) : Bool :=
 xBox 49 v0 h fun x1 h1 =>
 c139_6 v1 h1 x1 k
noncomputable abbrev ex139 : Ex := fun args h k => a2 args fun v0 v1 => bd139 v0 v1 h k
theorem sim139 : SimF Tryz.prog 139 ex139 := fun args h k hk => by
 obtain ⟨v0, v1, rfl, hk⟩ := a2_ok hk
 exact sim_of (qf := qz) (Z := zs) (C := [(156, ex156), (103, ex103), (157, ex157)]) (T := []) ⟨zerosB_ok zsOk, (exCons (by kernel_rfl) sim156 (exCons (by kernel_rfl) sim103 (exCons (by kernel_rfl) sim157 exNil)))⟩ (.seq .nil (.seq .nil (.seq .nil (.seq .nil (.seq .nil (.seq (.seq .nil (.loop [25] [26, 27, 8, 28, 29, 30, 31, 32, 33, 34, 35, 36, 37, 38, 39] .nil)) .nil)))))) Tryz.func139 _ h k (Eq.mp (by kernel_rfl : (bd139 v0 v1 h k = true) = _) hk)

noncomputable abbrev c87_1 (x22 : CV) (x2 : CV) (h12 : CH) (k : CV → CH → Bool) (x1 : CV) (x21 : CV) : Bool :=
 xIte x22
 (xBuild (some (.inl [(0, 1)])) (some (.agg [.nils])) [] fun x23 =>
 xStore (some 1) x2 x23 h12 fun h13 =>
 xLoad (some (some 1)) x2 h13 fun x24 =>
 k (.tup [x24, (.int .i64 (.ofNat 3))]) h13)
 (xLoad (some (some 9)) x1 h12 fun x25 =>
 xLoad (some (some 1024)) x21 h12 fun x26 =>
 bd139 x25 x26 h12 fun x27 h14 =>
 xExtract x27 0 fun x28 =>
 xExtract x27 1 fun x29 =>
 xStore (some 1) x2 x28 h14 fun h15 =>
 xLoad (some (some 1)) x2 h15 fun x30 =>
 k (.tup [x30, x29]) h15)
noncomputable abbrev c87_2 (s12 : TupC 1) (x2 : CV) (h8 : CH) (k : CV → CH → Bool) (x1 : CV) (v0 : CV) : Bool :=
 xIte s12.1
 (xBuild (some (.inl [(0, 1)])) (some (.agg [.nils])) [] fun x14 =>
 xStore (some 1) x2 x14 h8 fun h9 =>
 xLoad (some (some 1)) x2 h9 fun x15 =>
 k (.tup [x15, (.int .i64 (.ofNat 2))]) h9)
 (xAddr (some 3) x1 fun x16 =>
 xLoad (some none) x16 h8 fun x17 =>
 bd99 v0 x17 h8 fun x18 h10 =>
 xExtract x18 0 fun x19 =>
 xExtract x18 1 fun x20 =>
 xBoxP 70 [(.bytes 1024 0)] h10 fun x21 h11 =>
 xStore (some 1024) x21 x19 h11 fun h12 =>
 xBin (some (.int .i64)) .neq x20 (.int .i64 (.ofNat 0)) fun x22 =>
 c87_1 x22 x2 h12 k x1 x21)
noncomputable abbrev c87_3 (x33 : CV) (x34 : CV) (h7 : CH) (K30 : TupC 1 → CH → Bool) (x1 : CV) (v0 : CV) : Bool :=
 xEq (some (.agg (.fld 0 (some (some 3)) (.fld 0 (some none) .int (.fld 1 (some none) .int (.fld 2 (some none) .int .done))) (.fld 3 (some none) .int (.fld 4 (some none) .int (.fld 5 (some none) .int (.fld 6 (some none) .int (.fld 7 (some none) .int (.fld 8 (some none) .int .done))))))))) .neq x33 x34 h7 fun x35 =>
 xIte x35
 (K30 ((.bool true), ()) h7)
 (xAddr (some 0) x1 fun x36 =>
 xAddr (some 0) x36 fun x37 =>
 xLoad (some none) x37 h7 fun x38 =>
 xQuiet (some ex138) [v0] h7 fun x39 h16 =>
 xBin (some (.int .i64)) .gtr x38 x39 fun x40 =>
 K30 (x40, ()) h16)
noncomputable abbrev c87_4 (h5 : CH) (x10 : CV) (x2 : CV) (k : CV → CH → Bool) (x1 : CV) (v0 : CV) (x11 : CV) : Bool :=
 xBoxP 49 [(.int .i64 (.ofNat 0)), (.int .i64 (.ofNat 0)), (.int .i64 (.ofNat 0)), (.int .i64 (.ofNat 0)), (.int .i64 (.ofNat 0)), (.int .i64 (.ofNat 0)), (.int .i64 (.ofNat 0)), (.int .i64 (.ofNat 0)), (.int .i64 (.ofNat 0))] h5 fun x12 h6 =>
 xStore (some 9) x12 x10 h6 fun h7 =>
 xJoin (n := 1) (fun s12 h8 =>
 c87_2 s12 x2 h8 k x1 v0)
 (fun K30 => xBin (some (.int .i64)) .neq x11 (.int .i64 (.ofNat 0)) fun x32 =>
 xIte x32
 (K30 ((.bool true), ()) h7)
 (xLoad (some (some 9)) x12 h7 fun x33 =>
 xLoad (some (some 9)) x1 h7 fun x34 =>
 c87_3 x33 x34 h7 K30 x1 v0))
noncomputable abbrev c87_5 (x4 : CV) (x2 : CV) (h3 : CH) (k : CV → CH → Bool) (x1 : CV) (v0 : CV) : Bool :=
 xIte x4
 (xBuild (some (.inl [(0, 1)])) (some (.agg [.nils])) [] fun x5 =>
 xStore (some 1) x2 x5 h3 fun h4 =>
 xLoad (some (some 1)) x2 h4 fun x6 =>
 k (.tup [x6, (.int .i64 (.ofNat 1))]) h4)
 (xAddr (some 0) x1 fun x7 =>
 xLoad (some (some 3)) x7 h3 fun x8 =>
 bd137 x8 h3 fun x9 h5 =>
 xExtract x9 0 fun x10 =>
 xExtract x9 1 fun x11 =>
 c87_4 h5 x10 x2 k x1 v0 x11)
noncomputable def bd87 (v0 v1 : CV) (h : CH) (k : CV → CH → Bool) : Bool :=
 xBox 49 v1 h fun x1 h1 =>
 xBoxP 176 [.nils] h1 fun x2 h2 =>
 bd136 v0 h2 fun x3 h3 =>
 xUn .not x3 fun x4 =>
 c87_5 x4 x2 h3 k x1 v0
noncomputable abbrev ex87 : Ex := fun args h k => a2 args fun v0 v1 => bd87 v0 v1 h k
theorem sim87 : SimF Tryz.prog 87 ex87 := fun args h k hk => by
 obtain ⟨v0, v1, rfl, hk⟩ := a2_ok hk
 exact sim_of (qf := qz) (Z := zs) (C := [(136, ex136), (137, ex137), (99, ex99), (139, ex139), (138, ex138)]) (T := []) ⟨zerosB_ok zsOk, (exCons (by kernel_rfl) sim136 (exCons (by kernel_rfl) sim137 (exCons (by kernel_rfl) sim99 (exCons (by kernel_rfl) sim139 (exCons (by kernel_rfl) sim138 exNil)))))⟩ (.seq .nil (.seq .nil (.seq (.seq .nil (.join [34] [20, 21, 22, 23, 24, 25, 26, 27, 28, 29, 30, 31, 32, 33] .nil .nil)) .nil))) Tryz.func87 _ h k (Eq.mp (by kernel_rfl : (bd87 v0 v1 h k = true) = _) hk)

noncomputable abbrev c88_1 (x7 : CV) (x6 : CV) (h4 : CH) (k : CV → CH → Bool) : Bool :=
 xAddr (some 3) x7 fun x8 =>
 xNilCheck x6 fun x9 =>
 xAddr (some 3) x9 fun x10 =>
 xAddr (some 1026) x10 fun x11 =>
 xStore (some 1) x11 x8 h4 fun h5 =>
 xNilCheck x6 fun x12 =>
 xAddr (some 3) x12 fun x13 =>
 xNilCheck x6 fun x14 =>
 xAddr (some 3) x14 fun x15 =>
 xAddr (some 1027) x15 fun x16 =>
 xStore (some 1) x16 x13 h5 fun h6 =>
 k (.tup [x6, (.int .i64 (.ofNat 0))]) h6
noncomputable abbrev c88_2 (s2 : TupC 1) (k : CV → CH → Bool) (h2 : CH) (v0 : CV) (v1 : CV) : Bool :=
 xIte s2.1
 (k (.tup [.nilp, (.int .i64 (.ofNat 2))]) h2)
 (xNewMap h2 fun x4 h3 =>
 xBuild (some (.inl [(0, 1), (1, 1), (2, 1), (3, 1028), (1031, 1)])) (some (.agg [.nilp, (.int .i64 (.ofNat 0)), (.int .i64 (.ofNat 0)), (.int .i64 (.ofNat 0)), (.bytes 1024 0), (.bool false), .nilp, .nilp, .nilm])) [(0, v0), (1, v1), (4, x4)] fun x5 =>
 xBox 243 x5 h3 fun x6 h4 =>
 xNilCheck x6 fun x7 =>
 c88_1 x7 x6 h4 k)
noncomputable abbrev c88_3 (x1 : CV) (k : CV → CH → Bool) (h1 : CH) (v0 : CV) (v1 : CV) : Bool :=
 xBin (some (.int .i64)) .eql x1 (.int .i64 (.ofNat 0)) fun x2 =>
 xIte x2
 (k (.tup [.nilp, (.int .i64 (.ofNat 1))]) h1)
 (xJoin (n := 1) (fun s2 h2 =>
 c88_2 s2 k h2 v0 v1)
 (fun K16 => xBin (some (.int .i64)) .lss v1 (.int .i64 (.ofNat 1)) fun x18 =>
 xIte x18
 (K16 ((.bool true), ()) h1)
 (xBin (some (.int .i64)) .gtr v1 (.int .i64 (.ofNat 4096)) fun x19 =>
 K16 (x19, ()) h1)))
noncomputable def bd88 (v0 v1 : CV) (h : CH) (k : CV → CH → Bool) : Bool :=
 bd138 v0 h fun x1 h1 =>
 c88_3 x1 k h1 v0 v1
noncomputable abbrev ex88 : Ex := fun args h k => a2 args fun v0 v1 => bd88 v0 v1 h k
theorem sim88 : SimF Tryz.prog 88 ex88 := fun args h k hk => by
 obtain ⟨v0, v1, rfl, hk⟩ := a2_ok hk
 exact sim_of (qf := qz) (Z := zs) (C := [(138, ex138)]) (T := []) ⟨zerosB_ok zsOk, (exCons (by kernel_rfl) sim138 exNil)⟩ (.seq .nil (.seq .nil (.seq (.join [15] [10, 11, 12, 13, 14] .nil .nil) .nil))) Tryz.func88 _ h k (Eq.mp (by kernel_rfl : (bd88 v0 v1 h k = true) = _) hk)

noncomputable abbrev c89_1 (v0 : CV) (x6 : CV) (h1 : CH) (k : CV → CH → Bool) : Bool :=
 xNilCheck v0 fun x7 =>
 xAddr (some 9) x7 fun x8 =>
 xStore (some 1) x8 x6 h1 fun h2 =>
 xNilCheck v0 fun x9 =>
 xAddr (some 9) x9 fun x10 =>
 xLoad (some none) x10 h2 fun x11 =>
 xNilCheck v0 fun x12 =>
 xAddr (some 10) x12 fun x13 =>
 xStore (some 1) x13 x11 h2 fun h3 =>
 xNilCheck v0 fun x14 =>
 xAddr (some 10) x14 fun x15 =>
 xLoad (some none) x15 h3 fun x16 =>
 k x16 h3
noncomputable def bd89 (v0 : CV) (h : CH) (k : CV → CH → Bool) : Bool :=
 bd140 v0 h fun x1 h1 =>
 xBin (some (.int .i64)) .neq x1 (.int .i64 (.ofNat 0)) fun x2 =>
 xIte x2
 (k (.int .i64 (.ofNat 0)) h1)
 (xNilCheck v0 fun x3 =>
 xAddr (some 9) x3 fun x4 =>
 xLoad (some none) x4 h1 fun x5 =>
 xBin (some (.int .i64)) .add x5 (.int .i64 (.ofNat 1)) fun x6 =>
 c89_1 v0 x6 h1 k)
noncomputable abbrev ex89 : Ex := fun args h k => a1 args fun v0 => bd89 v0 h k
theorem sim89 : SimF Tryz.prog 89 ex89 := fun args h k hk => by
 obtain ⟨v0, rfl, hk⟩ := a1_ok hk
 exact sim_of (qf := qz) (Z := zs) (C := [(140, ex140)]) (T := []) ⟨zerosB_ok zsOk, (exCons (by kernel_rfl) sim140 exNil)⟩ .nil Tryz.func89 _ h k (Eq.mp (by kernel_rfl : (bd89 v0 h k = true) = _) hk)

noncomputable abbrev c41_1 (v0 : CV) (v1 : CV) (x1 : CV) (x25 : CV) (x6 : CV) (x18 : CV) (x17 : CV) (x3 : CV) (x2 : CV) (x4 : CV) (x5 : CV) (x7 : CV) (x8 : CV) (x9 : CV) (x10 : CV) (x11 : CV) (x16 : CV) (x12 : CV) (x13 : CV) (x14 : CV) (x15 : CV) (x19 : CV) (x20 : CV) (x23 : CV) (x21 : CV) (x22 : CV) (x24 : CV) (x31 : CV) (x27 : CV) (x26 : CV) (x28 : CV) (x29 : CV) (x30 : CV) (h8 : CH) (h11 : CH) : Bool :=
 (eqCs [v0, v1, (.tup []), x1, x25, (.int .i64 (.ofNat 0)), x6, x18, x17, x3, v0, x2, x3, x4, x5, x5, x7, (.tup []), x8, x9, x10, x11, x16, v0, x12, x13, x14, x15, x16, x17, x18, x18, x19, (.tup []), v0, x17, x20, v0, x23, x21, x22, x24, x25] [v0, v1, (.tup []), x1, x31, (.int .i64 (.ofNat 0)), x6, x18, x17, x3, v0, x2, x3, x4, x5, x5, x7, (.tup []), x8, x9, x10, x11, x16, v0, x12, x13, x14, x15, x16, x17, x18, x18, x19, (.tup []), v0, x17, x27, v0, x26, x28, x29, x30, x31] && eqH h8 h11)
noncomputable abbrev c41_2 (v0 : CV) (x17 : CV) (x27 : CV) (x26 : CV) (x29 : CV) (h10 : CH) (v1 : CV) (x1 : CV) (x25 : CV) (x6 : CV) (x18 : CV) (x3 : CV) (x2 : CV) (x4 : CV) (x5 : CV) (x7 : CV) (x8 : CV) (x9 : CV) (x10 : CV) (x11 : CV) (x16 : CV) (x12 : CV) (x13 : CV) (x14 : CV) (x15 : CV) (x19 : CV) (x20 : CV) (x23 : CV) (x21 : CV) (x22 : CV) (x24 : CV) (x28 : CV) (h8 : CH) : Bool :=
 xBuild (some (.inl [(0, 2), (2, 1), (3, 1), (4, 9), (13, 1), (14, 1), (15, 1), (16, 1), (17, 1), (18, 1)])) (some (.agg [.nils, .nilm, .nilp, .nilp, (.int .i64 (.ofNat 0)), (.int .i64 (.ofNat 0)), (.int .i64 (.ofNat 0)), (.int .i64 (.ofNat 0)), (.int .i64 (.ofNat 0)), (.int .i64 (.ofNat 0)), (.int .i64 (.ofNat 0)), (.int .i64 (.ofNat 0)), (.int .i64 (.ofNat 0)), (.int .i64 (.ofNat 0)), (.bool false), (.int .i64 (.ofNat 0)), .nilm, (.int .i64 (.ofNat 0)), (.int .i64 (.ofNat 0))])) [(1, v0), (2, x17), (3, x27), (4, x26), (0, x29)] fun x30 =>
 xBox 51 x30 h10 fun x31 h11 =>
 c41_1 v0 v1 x1 x25 x6 x18 x17 x3 x2 x4 x5 x7 x8 x9 x10 x11 x16 x12 x13 x14 x15 x19 x20 x23 x21 x22 x24 x31 x27 x26 x28 x29 x30 h8 h11
noncomputable abbrev c41_3 (v0 : CV) (v1 : CV) (x1 : CV) (x25 : CV) (x6 : CV) (x18 : CV) (x17 : CV) (x3 : CV) (x2 : CV) (x4 : CV) (x5 : CV) (x7 : CV) (x8 : CV) (x9 : CV) (x10 : CV) (x11 : CV) (x16 : CV) (x12 : CV) (x13 : CV) (x14 : CV) (x15 : CV) (x19 : CV) (x20 : CV) (x23 : CV) (x21 : CV) (x22 : CV) (x24 : CV) (x37 : CV) (x35 : CV) (x34 : CV) (x32 : CV) (x33 : CV) (x36 : CV) (h8 : CH) (h14 : CH) : Bool :=
 (eqCs [v0, v1, (.tup []), x1, x25, (.int .i64 (.ofNat 0)), x6, x18, x17, x3, v0, x2, x3, x4, x5, x5, x7, (.tup []), x8, x9, x10, x11, x16, v0, x12, x13, x14, x15, x16, x17, x18, x18, x19, (.tup []), v0, x17, x20, v0, x23, x21, x22, x24, x25] [v0, v1, (.tup []), x1, x37, (.int .i64 (.ofNat 0)), x6, x18, x17, x3, v0, x2, x3, x4, x5, x5, x7, (.tup []), x8, x9, x10, x11, x16, v0, x12, x13, x14, x15, x16, x17, x18, x18, x19, (.tup []), v0, x17, x35, v0, x34, x32, x33, x36, x37] && eqH h8 h14)
noncomputable abbrev c41_4 (v0 : CV) (x17 : CV) (x35 : CV) (x34 : CV) (x33 : CV) (h13 : CH) (v1 : CV) (x1 : CV) (x25 : CV) (x6 : CV) (x18 : CV) (x3 : CV) (x2 : CV) (x4 : CV) (x5 : CV) (x7 : CV) (x8 : CV) (x9 : CV) (x10 : CV) (x11 : CV) (x16 : CV) (x12 : CV) (x13 : CV) (x14 : CV) (x15 : CV) (x19 : CV) (x20 : CV) (x23 : CV) (x21 : CV) (x22 : CV) (x24 : CV) (x32 : CV) (h8 : CH) : Bool :=
 xBuild (some (.inl [(0, 2), (2, 1), (3, 1), (4, 9), (13, 1), (14, 1), (15, 1), (16, 1), (17, 1), (18, 1)])) (some (.agg [.nils, .nilm, .nilp, .nilp, (.int .i64 (.ofNat 0)), (.int .i64 (.ofNat 0)), (.int .i64 (.ofNat 0)), (.int .i64 (.ofNat 0)), (.int .i64 (.ofNat 0)), (.int .i64 (.ofNat 0)), (.int .i64 (.ofNat 0)), (.int .i64 (.ofNat 0)), (.int .i64 (.ofNat 0)), (.int .i64 (.ofNat 0)), (.bool false), (.int .i64 (.ofNat 0)), .nilm, (.int .i64 (.ofNat 0)), (.int .i64 (.ofNat 0))])) [(1, v0), (2, x17), (3, x35), (4, x34), (0, x33)] fun x36 =>
 xBox 51 x36 h13 fun x37 h14 =>
 c41_3 v0 v1 x1 x25 x6 x18 x17 x3 x2 x4 x5 x7 x8 x9 x10 x11 x16 x12 x13 x14 x15 x19 x20 x23 x21 x22 x24 x37 x35 x34 x32 x33 x36 h8 h14
noncomputable abbrev c41_5 (v0 : CV) (v1 : CV) (x1 : CV) (x25 : CV) (x6 : CV) (x18 : CV) (x17 : CV) (x3 : CV) (x2 : CV) (x4 : CV) (x5 : CV) (x7 : CV) (x8 : CV) (x9 : CV) (x10 : CV) (x11 : CV) (x16 : CV) (x12 : CV) (x13 : CV) (x14 : CV) (x15 : CV) (x19 : CV) (x20 : CV) (x23 : CV) (x21 : CV) (x22 : CV) (x24 : CV) (x41 : CV) (x38 : CV) (x39 : CV) (x32 : CV) (x33 : CV) (x40 : CV) (h8 : CH) (h16 : CH) : Bool :=
 (eqCs [v0, v1, (.tup []), x1, x25, (.int .i64 (.ofNat 0)), x6, x18, x17, x3, v0, x2, x3, x4, x5, x5, x7, (.tup []), x8, x9, x10, x11, x16, v0, x12, x13, x14, x15, x16, x17, x18, x18, x19, (.tup []), v0, x17, x20, v0, x23, x21, x22, x24, x25] [v0, v1, (.tup []), x1, x41, (.int .i64 (.ofNat 0)), x6, x18, x17, x3, v0, x2, x3, x4, x5, x5, x7, (.tup []), x8, x9, x10, x11, x16, v0, x12, x13, x14, x15, x16, x17, x18, x18, x19, (.tup []), v0, x17, x38, v0, x39, x32, x33, x40, x41] && eqH h8 h16)
noncomputable abbrev c41_6 (v0 : CV) (x17 : CV) (x38 : CV) (x39 : CV) (x33 : CV) (h15 : CH) (v1 : CV) (x1 : CV) (x25 : CV) (x6 : CV) (x18 : CV) (x3 : CV) (x2 : CV) (x4 : CV) (x5 : CV) (x7 : CV) (x8 : CV) (x9 : CV) (x10 : CV) (x11 : CV) (x16 : CV) (x12 : CV) (x13 : CV) (x14 : CV) (x15 : CV) (x19 : CV) (x20 : CV) (x23 : CV) (x21 : CV) (x22 : CV) (x24 : CV) (x32 : CV) (h8 : CH) : Bool :=
 xBuild (some (.inl [(0, 2), (2, 1), (3, 1), (4, 9), (13, 1), (14, 1), (15, 1), (16, 1), (17, 1), (18, 1)])) (some (.agg [.nils, .nilm, .nilp, .nilp, (.int .i64 (.ofNat 0)), (.int .i64 (.ofNat 0)), (.int .i64 (.ofNat 0)), (.int .i64 (.ofNat 0)), (.int .i64 (.ofNat 0)), (.int .i64 (.ofNat 0)), (.int .i64 (.ofNat 0)), (.int .i64 (.ofNat 0)), (.int .i64 (.ofNat 0)), (.int .i64 (.ofNat 0)), (.bool false), (.int .i64 (.ofNat 0)), .nilm, (.int .i64 (.ofNat 0)), (.int .i64 (.ofNat 0))])) [(1, v0), (2, x17), (3, x38), (4, x39), (0, x33)] fun x40 =>
 xBox 51 x40 h15 fun x41 h16 =>
 c41_5 v0 v1 x1 x25 x6 x18 x17 x3 x2 x4 x5 x7 x8 x9 x10 x11 x16 x12 x13 x14 x15 x19 x20 x23 x21 x22 x24 x41 x38 x39 x32 x33 x40 h8 h16
noncomputable abbrev c41_7 (x1 : CV) (h12 : CH) (v0 : CV) (x17 : CV) (x33 : CV) (v1 : CV) (x25 : CV) (x6 : CV) (x18 : CV) (x3 : CV) (x2 : CV) (x4 : CV) (x5 : CV) (x7 : CV) (x8 : CV) (x9 : CV) (x10 : CV) (x11 : CV) (x16 : CV) (x12 : CV) (x13 : CV) (x14 : CV) (x15 : CV) (x19 : CV) (x20 : CV) (x23 : CV) (x21 : CV) (x22 : CV) (x24 : CV) (x32 : CV) (h8 : CH) : Bool :=
 both
 (xLoad (some (some 9)) x1 h12 fun x38 =>
 bd89 v0 h12 fun x39 h15 =>
 c41_6 v0 x17 x38 x39 x33 h15 v1 x1 x25 x6 x18 x3 x2 x4 x5 x7 x8 x9 x10 x11 x16 x12 x13 x14 x15 x19 x20 x23 x21 x22 x24 x32 h8)
 (both
 (bd89 v0 h12 fun x34 h13 =>
 xLoad (some (some 9)) x1 h13 fun x35 =>
 c41_4 v0 x17 x35 x34 x33 h13 v1 x1 x25 x6 x18 x3 x2 x4 x5 x7 x8 x9 x10 x11 x16 x12 x13 x14 x15 x19 x20 x23 x21 x22 x24 x32 h8)
 (true))
noncomputable abbrev c41_8 (v0 : CV) (v1 : CV) (x1 : CV) (x25 : CV) (x6 : CV) (x18 : CV) (x17 : CV) (x3 : CV) (x2 : CV) (x4 : CV) (x5 : CV) (x7 : CV) (x8 : CV) (x9 : CV) (x10 : CV) (x11 : CV) (x16 : CV) (x12 : CV) (x13 : CV) (x14 : CV) (x15 : CV) (x19 : CV) (x20 : CV) (x23 : CV) (x21 : CV) (x22 : CV) (x24 : CV) (x47 : CV) (x42 : CV) (x43 : CV) (x44 : CV) (x45 : CV) (x46 : CV) (h8 : CH) (h19 : CH) : Bool :=
 (eqCs [v0, v1, (.tup []), x1, x25, (.int .i64 (.ofNat 0)), x6, x18, x17, x3, v0, x2, x3, x4, x5, x5, x7, (.tup []), x8, x9, x10, x11, x16, v0, x12, x13, x14, x15, x16, x17, x18, x18, x19, (.tup []), v0, x17, x20, v0, x23, x21, x22, x24, x25] [v0, v1, (.tup []), x1, x47, (.int .i64 (.ofNat 0)), x6, x18, x17, x3, v0, x2, x3, x4, x5, x5, x7, (.tup []), x8, x9, x10, x11, x16, v0, x12, x13, x14, x15, x16, x17, x18, x18, x19, (.tup []), v0, x17, x42, v0, x43, x44, x45, x46, x47] && eqH h8 h19)
noncomputable abbrev c41_9 (v0 : CV) (x17 : CV) (x42 : CV) (x43 : CV) (x45 : CV) (h18 : CH) (v1 : CV) (x1 : CV) (x25 : CV) (x6 : CV) (x18 : CV) (x3 : CV) (x2 : CV) (x4 : CV) (x5 : CV) (x7 : CV) (x8 : CV) (x9 : CV) (x10 : CV) (x11 : CV) (x16 : CV) (x12 : CV) (x13 : CV) (x14 : CV) (x15 : CV) (x19 : CV) (x20 : CV) (x23 : CV) (x21 : CV) (x22 : CV) (x24 : CV) (x44 : CV) (h8 : CH) : Bool :=
 xBuild (some (.inl [(0, 2), (2, 1), (3, 1), (4, 9), (13, 1), (14, 1), (15, 1), (16, 1), (17, 1), (18, 1)])) (some (.agg [.nils, .nilm, .nilp, .nilp, (.int .i64 (.ofNat 0)), (.int .i64 (.ofNat 0)), (.int .i64 (.ofNat 0)), (.int .i64 (.ofNat 0)), (.int .i64 (.ofNat 0)), (.int .i64 (.ofNat 0)), (.int .i64 (.ofNat 0)), (.int .i64 (.ofNat 0)), (.int .i64 (.ofNat 0)), (.int .i64 (.ofNat 0)), (.bool false), (.int .i64 (.ofNat 0)), .nilm, (.int .i64 (.ofNat 0)), (.int .i64 (.ofNat 0))])) [(1, v0), (2, x17), (3, x42), (4, x43), (0, x45)] fun x46 =>
 xBox 51 x46 h18 fun x47 h19 =>
 c41_8 v0 v1 x1 x25 x6 x18 x17 x3 x2 x4 x5 x7 x8 x9 x10 x11 x16 x12 x13 x14 x15 x19 x20 x23 x21 x22 x24 x47 x42 x43 x44 x45 x46 h8 h19
noncomputable abbrev c41_10 (v0 : CV) (v1 : CV) (x1 : CV) (x25 : CV) (x6 : CV) (x18 : CV) (x17 : CV) (x3 : CV) (x2 : CV) (x4 : CV) (x5 : CV) (x7 : CV) (x8 : CV) (x9 : CV) (x10 : CV) (x11 : CV) (x16 : CV) (x12 : CV) (x13 : CV) (x14 : CV) (x15 : CV) (x19 : CV) (x20 : CV) (x23 : CV) (x21 : CV) (x22 : CV) (x24 : CV) (x52 : CV) (x42 : CV) (x50 : CV) (x48 : CV) (x49 : CV) (x51 : CV) (h8 : CH) (h22 : CH) : Bool :=
 (eqCs [v0, v1, (.tup []), x1, x25, (.int .i64 (.ofNat 0)), x6, x18, x17, x3, v0, x2, x3, x4, x5, x5, x7, (.tup []), x8, x9, x10, x11, x16, v0, x12, x13, x14, x15, x16, x17, x18, x18, x19, (.tup []), v0, x17, x20, v0, x23, x21, x22, x24, x25] [v0, v1, (.tup []), x1, x52, (.int .i64 (.ofNat 0)), x6, x18, x17, x3, v0, x2, x3, x4, x5, x5, x7, (.tup []), x8, x9, x10, x11, x16, v0, x12, x13, x14, x15, x16, x17, x18, x18, x19, (.tup []), v0, x17, x42, v0, x50, x48, x49, x51, x52] && eqH h8 h22)
noncomputable abbrev c41_11 (v0 : CV) (x17 : CV) (x42 : CV) (x50 : CV) (x49 : CV) (h21 : CH) (v1 : CV) (x1 : CV) (x25 : CV) (x6 : CV) (x18 : CV) (x3 : CV) (x2 : CV) (x4 : CV) (x5 : CV) (x7 : CV) (x8 : CV) (x9 : CV) (x10 : CV) (x11 : CV) (x16 : CV) (x12 : CV) (x13 : CV) (x14 : CV) (x15 : CV) (x19 : CV) (x20 : CV) (x23 : CV) (x21 : CV) (x22 : CV) (x24 : CV) (x48 : CV) (h8 : CH) : Bool :=
 xBuild (some (.inl [(0, 2), (2, 1), (3, 1), (4, 9), (13, 1), (14, 1), (15, 1), (16, 1), (17, 1), (18, 1)])) (some (.agg [.nils, .nilm, .nilp, .nilp, (.int .i64 (.ofNat 0)), (.int .i64 (.ofNat 0)), (.int .i64 (.ofNat 0)), (.int .i64 (.ofNat 0)), (.int .i64 (.ofNat 0)), (.int .i64 (.ofNat 0)), (.int .i64 (.ofNat 0)), (.int .i64 (.ofNat 0)), (.int .i64 (.ofNat 0)), (.int .i64 (.ofNat 0)), (.bool false), (.int .i64 (.ofNat 0)), .nilm, (.int .i64 (.ofNat 0)), (.int .i64 (.ofNat 0))])) [(1, v0), (2, x17), (3, x42), (4, x50), (0, x49)] fun x51 =>
 xBox 51 x51 h21 fun x52 h22 =>
 c41_10 v0 v1 x1 x25 x6 x18 x17 x3 x2 x4 x5 x7 x8 x9 x10 x11 x16 x12 x13 x14 x15 x19 x20 x23 x21 x22 x24 x52 x42 x50 x48 x49 x51 h8 h22
noncomputable abbrev c41_12 (h5 : CH) (v0 : CV) (x17 : CV) (x42 : CV) (v1 : CV) (x1 : CV) (x25 : CV) (x6 : CV) (x18 : CV) (x3 : CV) (x2 : CV) (x4 : CV) (x5 : CV) (x7 : CV) (x8 : CV) (x9 : CV) (x10 : CV) (x11 : CV) (x16 : CV) (x12 : CV) (x13 : CV) (x14 : CV) (x15 : CV) (x19 : CV) (x20 : CV) (x23 : CV) (x21 : CV) (x22 : CV) (x24 : CV) (h8 : CH) : Bool :=
 both
 (xNewMap h5 fun x48 h20 =>
 xBuild (some (.inl [(0, 1), (1, 1)])) (some (.agg [.nils, .nilm])) [(1, x48)] fun x49 =>
 bd89 v0 h20 fun x50 h21 =>
 c41_11 v0 x17 x42 x50 x49 h21 v1 x1 x25 x6 x18 x3 x2 x4 x5 x7 x8 x9 x10 x11 x16 x12 x13 x14 x15 x19 x20 x23 x21 x22 x24 x48 h8)
 (both
 (bd89 v0 h5 fun x43 h17 =>
 xNewMap h17 fun x44 h18 =>
 xBuild (some (.inl [(0, 1), (1, 1)])) (some (.agg [.nils, .nilm])) [(1, x44)] fun x45 =>
 c41_9 v0 x17 x42 x43 x45 h18 v1 x1 x25 x6 x18 x3 x2 x4 x5 x7 x8 x9 x10 x11 x16 x12 x13 x14 x15 x19 x20 x23 x21 x22 x24 x44 h8)
 (true))
noncomputable abbrev c41_13 (x1 : CV) (h5 : CH) (v0 : CV) (x17 : CV) (v1 : CV) (x25 : CV) (x6 : CV) (x18 : CV) (x3 : CV) (x2 : CV) (x4 : CV) (x5 : CV) (x7 : CV) (x8 : CV) (x9 : CV) (x10 : CV) (x11 : CV) (x16 : CV) (x12 : CV) (x13 : CV) (x14 : CV) (x15 : CV) (x19 : CV) (x20 : CV) (x23 : CV) (x21 : CV) (x22 : CV) (x24 : CV) (h8 : CH) (k : CV → CH → Bool) : Bool :=
 both
 (both
 (xLoad (some (some 9)) x1 h5 fun x42 =>
 c41_12 h5 v0 x17 x42 v1 x1 x25 x6 x18 x3 x2 x4 x5 x7 x8 x9 x10 x11 x16 x12 x13 x14 x15 x19 x20 x23 x21 x22 x24 h8)
 (both
 (xNewMap h5 fun x32 h12 =>
 xBuild (some (.inl [(0, 1), (1, 1)])) (some (.agg [.nils, .nilm])) [(1, x32)] fun x33 =>
 c41_7 x1 h12 v0 x17 x33 v1 x25 x6 x18 x3 x2 x4 x5 x7 x8 x9 x10 x11 x16 x12 x13 x14 x15 x19 x20 x23 x21 x22 x24 x32 h8)
 (both
 (bd89 v0 h5 fun x26 h9 =>
 xLoad (some (some 9)) x1 h9 fun x27 =>
 xNewMap h9 fun x28 h10 =>
 xBuild (some (.inl [(0, 1), (1, 1)])) (some (.agg [.nils, .nilm])) [(1, x28)] fun x29 =>
 c41_2 v0 x17 x27 x26 x29 h10 v1 x1 x25 x6 x18 x3 x2 x4 x5 x7 x8 x9 x10 x11 x16 x12 x13 x14 x15 x19 x20 x23 x21 x22 x24 x28 h8)
 (true))))
 (k (.tup [x25, (.int .i64 (.ofNat 0))]) h8)
noncomputable abbrev c41_14 (v0 : CV) (x17 : CV) (x20 : CV) (x23 : CV) (x22 : CV) (h7 : CH) (x1 : CV) (h5 : CH) (v1 : CV) (x6 : CV) (x18 : CV) (x3 : CV) (x2 : CV) (x4 : CV) (x5 : CV) (x7 : CV) (x8 : CV) (x9 : CV) (x10 : CV) (x11 : CV) (x16 : CV) (x12 : CV) (x13 : CV) (x14 : CV) (x15 : CV) (x19 : CV) (x21 : CV) (k : CV → CH → Bool) : Bool :=
 xBuild (some (.inl [(0, 2), (2, 1), (3, 1), (4, 9), (13, 1), (14, 1), (15, 1), (16, 1), (17, 1), (18, 1)])) (some (.agg [.nils, .nilm, .nilp, .nilp, (.int .i64 (.ofNat 0)), (.int .i64 (.ofNat 0)), (.int .i64 (.ofNat 0)), (.int .i64 (.ofNat 0)), (.int .i64 (.ofNat 0)), (.int .i64 (.ofNat 0)), (.int .i64 (.ofNat 0)), (.int .i64 (.ofNat 0)), (.int .i64 (.ofNat 0)), (.int .i64 (.ofNat 0)), (.bool false), (.int .i64 (.ofNat 0)), .nilm, (.int .i64 (.ofNat 0)), (.int .i64 (.ofNat 0))])) [(1, v0), (2, x17), (3, x20), (4, x23), (0, x22)] fun x24 =>
 xBox 51 x24 h7 fun x25 h8 =>
 c41_13 x1 h5 v0 x17 v1 x25 x6 x18 x3 x2 x4 x5 x7 x8 x9 x10 x11 x16 x12 x13 x14 x15 x19 x20 x23 x21 x22 x24 h8 k
noncomputable abbrev c41_15 (x18 : CV) (k : CV → CH → Bool) (h5 : CH) (x1 : CV) (v0 : CV) (x17 : CV) (v1 : CV) (x6 : CV) (x3 : CV) (x2 : CV) (x4 : CV) (x5 : CV) (x7 : CV) (x8 : CV) (x9 : CV) (x10 : CV) (x11 : CV) (x16 : CV) (x12 : CV) (x13 : CV) (x14 : CV) (x15 : CV) : Bool :=
 xBin (some (.int .i64)) .neq x18 (.int .i64 (.ofNat 0)) fun x19 =>
 xIte x19
 (k (.tup [.nilp, x18]) h5)
 (xLoad (some (some 9)) x1 h5 fun x20 =>
 xNewMap h5 fun x21 h6 =>
 xBuild (some (.inl [(0, 1), (1, 1)])) (some (.agg [.nils, .nilm])) [(1, x21)] fun x22 =>
 bd89 v0 h6 fun x23 h7 =>
 c41_14 v0 x17 x20 x23 x22 h7 x1 h5 v1 x6 x18 x3 x2 x4 x5 x7 x8 x9 x10 x11 x16 x12 x13 x14 x15 x19 x21 k)
noncomputable abbrev c41_16 (x11 : CV) (k : CV → CH → Bool) (h4 : CH) (x1 : CV) (v0 : CV) (v1 : CV) (x6 : CV) (x3 : CV) (x2 : CV) (x4 : CV) (x5 : CV) (x7 : CV) (x8 : CV) (x9 : CV) (x10 : CV) : Bool :=
 xIte x11
 (k (.tup [.nilp, (.int .i64 (.ofNat 4))]) h4)
 (xAddr (some 0) x1 fun x12 =>
 xAddr (some 1) x12 fun x13 =>
 xLoad (some none) x13 h4 fun x14 =>
 xBin (some (.int .i64)) .add x14 (.int .i64 (.ofNat 32)) fun x15 =>
 bd88 v0 x15 h4 fun x16 h5 =>
 xExtract x16 0 fun x17 =>
 xExtract x16 1 fun x18 =>
 c41_15 x18 k h5 x1 v0 x17 v1 x6 x3 x2 x4 x5 x7 x8 x9 x10 x11 x16 x12 x13 x14 x15)
noncomputable abbrev c41_17 (x6 : CV) (x4 : CV) (h3 : CH) (x5 : CV) (k : CV → CH → Bool) (x1 : CV) (v0 : CV) (v1 : CV) (x3 : CV) (x2 : CV) : Bool :=
 xStore (some 1) x6 x4 h3 fun h4 =>
 xBin (some (.int .i64)) .neq x5 (.int .i64 (.ofNat 0)) fun x7 =>
 xIte x7
 (k (.tup [.nilp, x5]) h4)
 (xAddr (some 0) x6 fun x8 =>
 xLoad (some none) x8 h4 fun x9 =>
 xLen (some (.inl false)) x9 fun x10 =>
 xBin (some (.int .i64)) .gtr x10 (.int .i64 (.ofNat 0)) fun x11 =>
 c41_16 x11 k h4 x1 v0 v1 x6 x3 x2 x4 x5 x7 x8 x9 x10)
noncomputable def bd41 (v0 v1 : CV) (h : CH) (k : CV → CH → Bool) : Bool :=
 xBox 49 v1 h fun x1 h1 =>
 xLoad (some (some 9)) x1 h1 fun x2 =>
 bd87 v0 x2 h1 fun x3 h2 =>
 xExtract x3 0 fun x4 =>
 xExtract x3 1 fun x5 =>
 xBoxP 176 [.nils] h2 fun x6 h3 =>
 c41_17 x6 x4 h3 x5 k x1 v0 v1 x3 x2
noncomputable abbrev ex41 : Ex := fun args h k => a2 args fun v0 v1 => bd41 v0 v1 h k
theorem sim41 : SimF Tryz.prog 41 ex41 := fun args h k hk => by
 obtain ⟨v0, v1, rfl, hk⟩ := a2_ok hk
 exact sim_of (qf := qz) (Z := zs) (C := [(87, ex87), (88, ex88), (89, ex89)]) (T := [(9, .tree [0, 1, 2, 3, 5, 6, 4, 7, 8, 9, 10] (.fork [0, 1, 3] (.cons 2 (.fork [] (.cons 5 (.line [6, 4, 7, 8, 9, 10]) (.cons 4 (.line [5, 6, 7, 8, 9, 10]) .nil))) (.cons 5 (.fork [6] (.cons 2 (.line [4, 7, 8, 9, 10]) (.cons 4 (.line [2, 7, 8, 9, 10]) .nil))) (.cons 4 (.line [2, 5, 6, 7, 8, 9, 10]) .nil)))))]) ⟨zerosB_ok zsOk, (exCons (by kernel_rfl) sim87 (exCons (by kernel_rfl) sim88 (exCons (by kernel_rfl) sim89 exNil)))⟩ .nil Tryz.func41 _ h k (Eq.mp (by kernel_rfl : (bd41 v0 v1 h k = true) = _) hk)

noncomputable abbrev c141_1 (s1 : TupC 1) (x1 : CV) (h2 : CH) (k : CV → CH → Bool) (K2 : TupC 1 → CH → Bool) : Bool :=
 xBin (some (.int .i64)) .lss s1.1 (.int .i64 (.ofNat 1024)) fun x4 =>
 xIte x4
 (xIdx (some (some 1024, 1)) x1 s1.1 fun x5 =>
 xLoad (some none) x5 h2 fun x6 =>
 xBin (some (.int .u8)) .neq x6 (.int .u8 (.ofNat 0)) fun x7 =>
 xIte x7
 (k (.bool false) h2)
 (xBin (some (.int .i64)) .add s1.1 (.int .i64 (.ofNat 1)) fun x8 =>
 K2 (x8, ()) h2))
 (k (.bool true) h2)
noncomputable def bd141 (v0 : CV) (h : CH) (k : CV → CH → Bool) : Bool :=
 xBox 70 v0 h fun x1 h1 =>
 xLoop (n := 1) (fun K2 s1 h2 =>
 c141_1 s1 x1 h2 k K2) 1000000 ((.int .i64 (.ofNat 0)), ()) h1
noncomputable abbrev ex141 : Ex := fun args h k => a1 args fun v0 => bd141 v0 h k
theorem sim141 : SimF Tryz.prog 141 ex141 := fun args h k hk => by
 obtain ⟨v0, rfl, hk⟩ := a1_ok hk
 exact sim_of (qf := qz) (Z := zs) (C := []) (T := []) ⟨zerosB_ok zsOk, exNil⟩ (.seq .nil (.seq (.seq .nil (.loop [3] [4, 5, 8, 9, 10, 11, 2, 6, 7] .nil)) .nil)) Tryz.func141 _ h k (Eq.mp (by kernel_rfl : (bd141 v0 h k = true) = _) hk)

noncomputable abbrev c90_1 (x26 : CV) (h3 : CH) (x13 : CV) (K15 : TupC 1 → CH → Bool) (x1 : CV) (s2 : TupC 1) : Bool :=
 xLoad (some none) x26 h3 fun x27 =>
 xBin (some (.int .i64)) .geq x27 x13 fun x28 =>
 xIte x28
 (K15 ((.bool true), ()) h3)
 (xAddr (some 1) x1 fun x29 =>
 xLoad (some none) x29 h3 fun x30 =>
 xIdx (some (none, 1025)) x30 s2.1 fun x31 =>
 xAddr (some 1) x31 fun x32 =>
 xLoad (some (some 1024)) x32 h3 fun x33 =>
 bd141 x33 h3 fun x34 h5 =>
 K15 (x34, ()) h5)
noncomputable abbrev c90_2 (x21 : CV) (x1 : CV) (h3 : CH) (s2 : TupC 1) (x13 : CV) (K15 : TupC 1 → CH → Bool) : Bool :=
 xIte x21
 (xAddr (some 1) x1 fun x22 =>
 xLoad (some none) x22 h3 fun x23 =>
 xBin (some (.int .i64)) .sub s2.1 (.int .i64 (.ofNat 1)) fun x24 =>
 xIdx (some (none, 1025)) x23 x24 fun x25 =>
 xAddr (some 0) x25 fun x26 =>
 c90_1 x26 h3 x13 K15 x1 s2)
 (xAddr (some 1) x1 fun x35 =>
 xLoad (some none) x35 h3 fun x36 =>
 xIdx (some (none, 1025)) x36 s2.1 fun x37 =>
 xAddr (some 1) x37 fun x38 =>
 xLoad (some (some 1024)) x38 h3 fun x39 =>
 bd141 x39 h3 fun x40 h6 =>
 K15 (x40, ()) h6)
noncomputable abbrev c90_3 (x13 : CV) (K15 : TupC 1 → CH → Bool) (h3 : CH) (x1 : CV) (s2 : TupC 1) : Bool :=
 xBin (some (.int .i64)) .lss x13 (.int .i64 (.ofNat 0)) fun x17 =>
 xIte x17
 (K15 ((.bool true), ()) h3)
 (xAddr (some 0) x1 fun x18 =>
 xLoad (some none) x18 h3 fun x19 =>
 xBin (some (.int .i64)) .geq x13 x19 fun x20 =>
 xIte x20
 (K15 ((.bool true), ()) h3)
 (xBin (some (.int .i64)) .gtr s2.1 (.int .i64 (.ofNat 0)) fun x21 =>
 c90_2 x21 x1 h3 s2 x13 K15))
noncomputable abbrev c90_4 (x1 : CV) (h3 : CH) (s2 : TupC 1) (k : CV → CH → Bool) (K3 : TupC 1 → CH → Bool) : Bool :=
 xAddr (some 1) x1 fun x9 =>
 xLoad (some none) x9 h3 fun x10 =>
 xIdx (some (none, 1025)) x10 s2.1 fun x11 =>
 xAddr (some 0) x11 fun x12 =>
 xLoad (some none) x12 h3 fun x13 =>
 xJoin (n := 1) (fun s13 h4 =>
 xIte s13.1
 (k (.bool false) h4)
 (xBin (some (.int .i64)) .add s2.1 (.int .i64 (.ofNat 1)) fun x15 =>
 K3 (x15, ()) h4))
 (fun K15 => c90_3 x13 K15 h3 x1 s2)
noncomputable abbrev c90_5 (k : CV → CH → Bool) (x1 : CV) (h1 : CH) : Bool :=
 xJoin (n := 1) (fun s1 h2 =>
 xIte s1.1
 (k (.bool false) h2)
 (xLoop (n := 1) (fun K3 s2 h3 =>
 xAddr (some 1) x1 fun x5 =>
 xLoad (some none) x5 h3 fun x6 =>
 xLen (some (.inl false)) x6 fun x7 =>
 xBin (some (.int .i64)) .lss s2.1 x7 fun x8 =>
 xIte x8
 (c90_4 x1 h3 s2 k K3)
 (k (.bool true) h3)) 1000000 ((.int .i64 (.ofNat 0)), ()) h2))
 (fun K40 => xAddr (some 0) x1 fun x42 =>
 xLoad (some none) x42 h1 fun x43 =>
 xBin (some (.int .i64)) .lss x43 (.int .i64 (.ofNat 1)) fun x44 =>
 xIte x44
 (K40 ((.bool true), ()) h1)
 (xAddr (some 0) x1 fun x45 =>
 xLoad (some none) x45 h1 fun x46 =>
 xBin (some (.int .i64)) .gtr x46 (.int .i64 (.ofNat 1048576)) fun x47 =>
 K40 (x47, ()) h1))
noncomputable def bd90 (v0 : CV) (h : CH) (k : CV → CH → Bool) : Bool :=
 xBox 100 v0 h fun x1 h1 =>
 c90_5 k x1 h1
noncomputable abbrev ex90 : Ex := fun args h k => a1 args fun v0 => bd90 v0 h k
theorem sim90 : SimF Tryz.prog 90 ex90 := fun args h k hk => by
 obtain ⟨v0, rfl, hk⟩ := a1_ok hk
 exact sim_of (qf := qz) (Z := zs) (C := [(141, ex141)]) (T := []) ⟨zerosB_ok zsOk, (exCons (by kernel_rfl) sim141 exNil)⟩ (.seq .nil (.seq (.join [12] [5, 6, 7, 8, 9, 10, 11] .nil .nil) (.seq (.seq .nil (.loop [3] [13, 14, 15, 16, 17, 20, 21, 22, 23, 24, 25, 4, 26, 27, 28, 29, 30, 31, 32, 33, 34, 35, 36, 37, 38, 39, 40, 41, 42, 43, 44, 45, 46, 47, 48, 49, 50, 51, 52, 53, 54, 55, 56, 57, 2, 18, 19] (.seq .nil (.seq (.seq .nil (.join [57] [26, 27, 28, 29, 30, 31, 32, 33, 34, 35, 36, 37, 38, 39, 40, 41, 42, 43, 44, 45, 46, 47, 48, 49, 50, 51, 52, 53, 54, 55, 56] .nil .nil)) .nil)))) .nil))) Tryz.func90 _ h k (Eq.mp (by kernel_rfl : (bd90 v0 h k = true) = _) hk)

noncomputable abbrev c91_1 (x4 : CV) (v0 : CV) (s0 : TupC 2) (h1 : CH) (K1 : TupC 2 → CH → Bool) (k : CV → CH → Bool) : Bool :=
 xIte x4
 (xIdx (some (none, 1025)) v0 s0.2.1 fun x5 =>
 xLoad (some (some 1025)) x5 h1 fun x6 =>
 xNewS (some (72, 1025, 1032, false)) (some [(.int .i64 (.ofNat 0)), (.bytes 1024 0)]) 1 [(0, x6)] h1 fun x7 h2 =>
 xApp (some (72, 1025, 1032, false)) s0.1 x7 h2 fun x8 h3 =>
 xBin (some (.int .i64)) .add s0.2.1 (.int .i64 (.ofNat 1)) fun x9 =>
 K1 (x8, x9, ()) h3)
 (k s0.1 h1)
noncomputable def bd91 (v0 : CV) (h : CH) (k : CV → CH → Bool) : Bool :=
 xLoop (n := 2) (fun K1 s0 h1 =>
 xLen (some (.inl false)) v0 fun x3 =>
 xBin (some (.int .i64)) .lss s0.2.1 x3 fun x4 =>
 c91_1 x4 v0 s0 h1 K1 k) 1000000 (.nils, (.int .i64 (.ofNat 0)), ()) h
noncomputable abbrev ex91 : Ex := fun args h k => a1 args fun v0 => bd91 v0 h k
theorem sim91 : SimF Tryz.prog 91 ex91 := fun args h k hk => by
 obtain ⟨v0, rfl, hk⟩ := a1_ok hk
 exact sim_of (qf := qz) (Z := zs) (C := []) (T := []) ⟨zerosB_ok zsOk, exNil⟩ (.seq .nil (.seq .nil (.seq (.seq .nil (.loop [3, 4] [5, 6, 7, 8, 11, 12, 13, 14, 15, 16, 17, 9, 10] .nil)) .nil))) Tryz.func91 _ h k (Eq.mp (by kernel_rfl : (bd91 v0 h k = true) = _) hk)

noncomputable abbrev c42_1 (x5 : CV) (h3 : CH) (x8 : CV) (x9 : CV) (k : CV → CH → Bool) : Bool :=
 xLoad (some none) x5 h3 fun x10 => ifX (sameX x8 x10) (
 xBuild (some (.inl [(0, 1), (1, 1), (2, 1), (3, 1), (4, 1), (5, 1), (6, 1), (7, 1), (8, 1), (9, 1), (10, 1)])) (some (.agg [(.int .i64 (.ofNat 0)), .nils, .nils, (.bool false), (.int .i64 (.ofNat 0)), (.bool false), .nils, (.int .i64 (.ofNat 0)), (.int .i64 (.ofNat 0)), (.int .i64 (.ofNat 0)), (.int .i64 (.ofNat 0))])) [(0, x8), (1, x9)] fun x11 =>
 xBox 184 x11 h3 fun x12 h4 =>
 k (.tup [x12, (.int .i64 (.ofNat 0))]) h4) false
noncomputable def bd42 (v0 : CV) (h : CH) (k : CV → CH → Bool) : Bool :=
 xBox 100 v0 h fun x1 h1 =>
 xLoad (some (some 2)) x1 h1 fun x2 =>
 bd90 x2 h1 fun x3 h2 =>
 xUn .not x3 fun x4 =>
 xIte x4
 (k (.tup [.nilp, (.int .i64 (.ofNat 4))]) h2)
 (xAddr (some 0) x1 fun x5 =>
 xAddr (some 1) x1 fun x6 =>
 xLoad (some none) x6 h2 fun x7 =>
 xLoad (some none) x5 h2 fun x8 =>
 bd91 x7 h2 fun x9 h3 =>
 c42_1 x5 h3 x8 x9 k)
noncomputable abbrev ex42 : Ex := fun args h k => a1 args fun v0 => bd42 v0 h k
theorem sim42 : SimF Tryz.prog 42 ex42 := fun args h k hk => by
 obtain ⟨v0, rfl, hk⟩ := a1_ok hk
 exact sim_of (qf := qz) (Z := zs) (C := [(90, ex90), (91, ex91)]) (T := [(3, .ld ⟨[0, 2, 3], 1, 4, [5, 6, 7, 8]⟩)]) ⟨zerosB_ok zsOk, (exCons (by kernel_rfl) sim90 (exCons (by kernel_rfl) sim91 exNil))⟩ .nil Tryz.func42 _ h k (Eq.mp (by kernel_rfl : (bd42 v0 h k = true) = _) hk)

noncomputable def bd185 (v0 : CV) (h : CH) (k : CV → CH → Bool) : Bool :=
 xEq (some .ptr) .eql v0 .nilp h fun x1 =>
 xIte x1
 (k (.int .i64 (.ofNat 0)) h)
 (xNilCheck v0 fun x2 =>
 xAddr (some 0) x2 fun x3 =>
 xLoad (some none) x3 h fun x4 =>
 k x4 h)
noncomputable abbrev ex185 : Ex := fun args h k => a1 args fun v0 => bd185 v0 h k
theorem sim185 : SimF Tryz.prog 185 ex185 := fun args h k hk => by
 obtain ⟨v0, rfl, hk⟩ := a1_ok hk
 exact sim_of (qf := qz) (Z := zs) (C := []) (T := []) ⟨zerosB_ok zsOk, exNil⟩ .nil Tryz.func185 _ h k (Eq.mp (by kernel_rfl : (bd185 v0 h k = true) = _) hk)

noncomputable def bd142 (v0 v1 : CV) (h : CH) (k : CV → CH → Bool) : Bool :=
 xBox 49 v1 h fun x1 h1 =>
 xLoad (some (some 9)) x1 h1 fun x2 =>
 bd133 x2 h1 fun x3 h2 =>
 xIte x3
 (xAddr (some 0) x1 fun x4 =>
 xAddr (some 0) x4 fun x5 =>
 xLoad (some none) x5 h2 fun x6 =>
 xQuiet (some ex185) [v0] h2 fun x7 h3 =>
 xBin (some (.int .i64)) .leq x6 x7 fun x8 =>
 k x8 h3)
 (k (.bool false) h2)
noncomputable abbrev ex142 : Ex := fun args h k => a2 args fun v0 v1 => bd142 v0 v1 h k
theorem sim142 : SimF Tryz.prog 142 ex142 := fun args h k hk => by
 obtain ⟨v0, v1, rfl, hk⟩ := a2_ok hk
 exact sim_of (qf := qz) (Z := zs) (C := [(133, ex133), (185, ex185)]) (T := []) ⟨zerosB_ok zsOk, (exCons (by kernel_rfl) sim133 (exCons (by kernel_rfl) sim185 exNil))⟩ .nil Tryz.func142 _ h k (Eq.mp (by kernel_rfl : (bd142 v0 v1 h k = true) = _) hk)

noncomputable abbrev c186_1 (x8 : CV) (v1 : CV) (v0 : CV) (s1 : TupC 1) (h2 : CH) (x1 : CV) (k : CV → CH → Bool) (K2 : TupC 1 → CH → Bool) : Bool :=
 xBin (some (.int .i64)) .eql x8 v1 fun x9 =>
 xIte x9
 (xIdx (some (none, 1025)) v0 s1.1 fun x10 =>
 xAddr (some 1) x10 fun x11 =>
 xLoad (some (some 1024)) x11 h2 fun x12 =>
 xStore (some 1024) x1 x12 h2 fun h3 =>
 xLoad (some (some 1024)) x1 h3 fun x13 =>
 k x13 h3)
 (xBin (some (.int .i64)) .add s1.1 (.int .i64 (.ofNat 1)) fun x14 =>
 K2 (x14, ()) h2)
noncomputable abbrev c186_2 (s1 : TupC 1) (x4 : CV) (v0 : CV) (h2 : CH) (v1 : CV) (x1 : CV) (k : CV → CH → Bool) (K2 : TupC 1 → CH → Bool) : Bool :=
 xBin (some (.int .i64)) .lss s1.1 x4 fun x5 =>
 xIte x5
 (xIdx (some (none, 1025)) v0 s1.1 fun x6 =>
 xAddr (some 0) x6 fun x7 =>
 xLoad (some none) x7 h2 fun x8 =>
 c186_1 x8 v1 v0 s1 h2 x1 k K2)
 (xBuild (some (.inr 1)) (some (.agg [(.bytes 1024 0)])) [] fun x15 =>
 xStore (some 1024) x1 x15 h2 fun h4 =>
 xLoad (some (some 1024)) x1 h4 fun x16 =>
 k x16 h4)
noncomputable def bd186 (v0 v1 : CV) (h : CH) (k : CV → CH → Bool) : Bool :=
 xBoxP 70 [(.bytes 1024 0)] h fun x1 h1 =>
 xLoop (n := 1) (fun K2 s1 h2 =>
 xLen (some (.inl false)) v0 fun x4 =>
 c186_2 s1 x4 v0 h2 v1 x1 k K2) 1000000 ((.int .i64 (.ofNat 0)), ()) h1
noncomputable abbrev ex186 : Ex := fun args h k => a2 args fun v0 v1 => bd186 v0 v1 h k
theorem sim186 : SimF Tryz.prog 186 ex186 := fun args h k hk => by
 obtain ⟨v0, v1, rfl, hk⟩ := a2_ok hk
 exact sim_of (qf := qz) (Z := zs) (C := []) (T := []) ⟨zerosB_ok zsOk, exNil⟩ (.seq .nil (.seq (.seq .nil (.loop [5] [6, 7, 8, 9, 12, 13, 14, 15, 16, 17, 18, 19, 20, 21, 22, 23, 10, 11] .nil)) .nil)) Tryz.func186 _ h k (Eq.mp (by kernel_rfl : (bd186 v0 v1 h k = true) = _) hk)

noncomputable abbrev c143_1 (x33 : CV) (v0 : CV) (h7 : CH) (s23 : TupC 1) (x1 : CV) (k : CV → CH → Bool) (K24 : TupC 1 → CH → Bool) : Bool :=
 xIte x33
 (xNilCheck v0 fun x34 =>
 xAddr (some 2) x34 fun x35 =>
 xLoad (some none) x35 h7 fun x36 =>
 xIdx (some (none, 1025)) x36 s23.1 fun x37 =>
 xAddr (some 1) x37 fun x38 =>
 xLoad (some (some 1024)) x38 h7 fun x39 =>
 xStore (some 1024) x1 x39 h7 fun h8 =>
 xLoad (some (some 1024)) x1 h8 fun x40 =>
 k (.tup [x40, (.int .i64 (.ofNat 0))]) h8)
 (xBin (some (.int .i64)) .sub s23.1 (.int .i64 (.ofNat 1)) fun x41 =>
 K24 (x41, ()) h7)
noncomputable abbrev c143_2 (x26 : CV) (v0 : CV) (h7 : CH) (s23 : TupC 1) (v1 : CV) (x1 : CV) (k : CV → CH → Bool) (K24 : TupC 1 → CH → Bool) : Bool :=
 xIte x26
 (xNilCheck v0 fun x27 =>
 xAddr (some 2) x27 fun x28 =>
 xLoad (some none) x28 h7 fun x29 =>
 xIdx (some (none, 1025)) x29 s23.1 fun x30 =>
 xAddr (some 0) x30 fun x31 =>
 xLoad (some none) x31 h7 fun x32 =>
 xBin (some (.int .i64)) .eql x32 v1 fun x33 =>
 c143_1 x33 v0 h7 s23 x1 k K24)
 (xNilCheck v0 fun x42 =>
 xAddr (some 1) x42 fun x43 =>
 xLoad (some none) x43 h7 fun x44 =>
 bd186 x44 v1 h7 fun x45 h9 =>
 xStore (some 1024) x1 x45 h9 fun h10 =>
 xLoad (some (some 1024)) x1 h10 fun x46 =>
 k (.tup [x46, (.int .i64 (.ofNat 0))]) h10)
noncomputable abbrev c143_3 (v0 : CV) (h6 : CH) (v1 : CV) (x1 : CV) (k : CV → CH → Bool) : Bool :=
 xNilCheck v0 fun x19 =>
 xAddr (some 2) x19 fun x20 =>
 xLoad (some none) x20 h6 fun x21 =>
 xLen (some (.inl false)) x21 fun x22 =>
 xBin (some (.int .i64)) .sub x22 (.int .i64 (.ofNat 1)) fun x23 =>
 xLoop (n := 1) (fun K24 s23 h7 =>
 xBin (some (.int .i64)) .geq s23.1 (.int .i64 (.ofNat 0)) fun x26 =>
 c143_2 x26 v0 h7 s23 v1 x1 k K24) 1000000 (x23, ()) h6
noncomputable abbrev c143_4 (s9 : TupC 1) (x1 : CV) (h4 : CH) (k : CV → CH → Bool) (v0 : CV) (v1 : CV) : Bool :=
 xIte s9.1
 (xBuild (some (.inr 1)) (some (.agg [(.bytes 1024 0)])) [] fun x11 =>
 xStore (some 1024) x1 x11 h4 fun h5 =>
 xLoad (some (some 1024)) x1 h5 fun x12 =>
 k (.tup [x12, (.int .i64 (.ofNat 2))]) h5)
 (xNilCheck v0 fun x13 =>
 xAddr (some 8) x13 fun x14 =>
 xLoad (some none) x14 h4 fun x15 =>
 xBin (some (.int .i64)) .add x15 (.int .i64 (.ofNat 1)) fun x16 =>
 xNilCheck v0 fun x17 =>
 xAddr (some 8) x17 fun x18 =>
 xStore (some 1) x18 x16 h4 fun h6 =>
 c143_3 v0 h6 v1 x1 k)
noncomputable abbrev c143_5 (x7 : CV) (x1 : CV) (h1 : CH) (k : CV → CH → Bool) (v0 : CV) (v1 : CV) : Bool :=
 xIte x7
 (xBuild (some (.inr 1)) (some (.agg [(.bytes 1024 0)])) [] fun x8 =>
 xStore (some 1024) x1 x8 h1 fun h3 =>
 xLoad (some (some 1024)) x1 h3 fun x9 =>
 k (.tup [x9, (.int .i64 (.ofNat 3))]) h3)
 (xJoin (n := 1) (fun s9 h4 =>
 c143_4 s9 x1 h4 k v0 v1)
 (fun K46 => xBin (some (.int .i64)) .lss v1 (.int .i64 (.ofNat 0)) fun x48 =>
 xIte x48
 (K46 ((.bool true), ()) h1)
 (xNilCheck v0 fun x49 =>
 xAddr (some 0) x49 fun x50 =>
 xLoad (some none) x50 h1 fun x51 =>
 xBin (some (.int .i64)) .geq v1 x51 fun x52 =>
 K46 (x52, ()) h1)))
noncomputable abbrev c143_6 (v0 : CV) (h1 : CH) (x1 : CV) (k : CV → CH → Bool) (v1 : CV) : Bool :=
 xEq (some .ptr) .eql v0 .nilp h1 fun x2 =>
 xIte x2
 (xBuild (some (.inr 1)) (some (.agg [(.bytes 1024 0)])) [] fun x3 =>
 xStore (some 1024) x1 x3 h1 fun h2 =>
 xLoad (some (some 1024)) x1 h2 fun x4 =>
 k (.tup [x4, (.int .i64 (.ofNat 1))]) h2)
 (xNilCheck v0 fun x5 =>
 xAddr (some 5) x5 fun x6 =>
 xLoad (some none) x6 h1 fun x7 =>
 c143_5 x7 x1 h1 k v0 v1)
noncomputable def bd143 (v0 v1 : CV) (h : CH) (k : CV → CH → Bool) : Bool :=
 xBoxP 70 [(.bytes 1024 0)] h fun x1 h1 =>
 c143_6 v0 h1 x1 k v1
noncomputable abbrev ex143 : Ex := fun args h k => a2 args fun v0 v1 => bd143 v0 v1 h k
theorem sim143 : SimF Tryz.prog 143 ex143 := fun args h k hk => by
 obtain ⟨v0, v1, rfl, hk⟩ := a2_ok hk
 exact sim_of (qf := qz) (Z := zs) (C := [(186, ex186)]) (T := []) ⟨zerosB_ok zsOk, (exCons (by kernel_rfl) sim186 exNil)⟩ (.seq .nil (.seq .nil (.seq .nil (.seq (.join [24] [15, 16, 17, 18, 19, 20, 21, 22, 23] .nil .nil) (.seq .nil (.seq (.seq .nil (.loop [6] [40, 41, 44, 45, 46, 47, 48, 49, 50, 51, 52, 53, 54, 55, 56, 57, 58, 59, 60, 61, 5, 42, 43] .nil)) .nil)))))) Tryz.func143 _ h k (Eq.mp (by kernel_rfl : (bd143 v0 v1 h k = true) = _) hk)

noncomputable abbrev c92_1 (x26 : CV) (x2 : CV) (h12 : CH) (k : CV → CH → Bool) (x25 : CV) : Bool :=
 xIte x26
 (xBuild (some (.inl [(0, 1)])) (some (.agg [.nils])) [] fun x27 =>
 xStore (some 1) x2 x27 h12 fun h13 =>
 xLoad (some (some 1)) x2 h13 fun x28 =>
 k (.tup [x28, (.int .i64 (.ofNat 4))]) h13)
 (xLoad (some (some 1)) x25 h12 fun x29 =>
 xStore (some 1) x2 x29 h12 fun h14 =>
 xLoad (some (some 1)) x2 h14 fun x30 =>
 k (.tup [x30, (.int .i64 (.ofNat 0))]) h14)
noncomputable abbrev c92_2 (x17 : CV) (x2 : CV) (h8 : CH) (k : CV → CH → Bool) (x1 : CV) (x16 : CV) : Bool :=
 xIte x17
 (xBuild (some (.inl [(0, 1)])) (some (.agg [.nils])) [] fun x18 =>
 xStore (some 1) x2 x18 h8 fun h9 =>
 xLoad (some (some 1)) x2 h9 fun x19 =>
 k (.tup [x19, (.int .i64 (.ofNat 3))]) h9)
 (xLoad (some (some 9)) x1 h8 fun x20 =>
 xLoad (some (some 1024)) x16 h8 fun x21 =>
 bd144 x20 x21 h8 fun x22 h10 =>
 xExtract x22 0 fun x23 =>
 xExtract x22 1 fun x24 =>
 xBoxP 176 [.nils] h10 fun x25 h11 =>
 xStore (some 1) x25 x23 h11 fun h12 =>
 xBin (some (.int .i64)) .neq x24 (.int .i64 (.ofNat 0)) fun x26 =>
 c92_1 x26 x2 h12 k x25)
noncomputable abbrev c92_3 (x8 : CV) (x2 : CV) (h4 : CH) (k : CV → CH → Bool) (x1 : CV) (v0 : CV) : Bool :=
 xIte x8
 (xBuild (some (.inl [(0, 1)])) (some (.agg [.nils])) [] fun x9 =>
 xStore (some 1) x2 x9 h4 fun h5 =>
 xLoad (some (some 1)) x2 h5 fun x10 =>
 k (.tup [x10, (.int .i64 (.ofNat 2))]) h5)
 (xAddr (some 3) x1 fun x11 =>
 xLoad (some none) x11 h4 fun x12 =>
 bd143 v0 x12 h4 fun x13 h6 =>
 xExtract x13 0 fun x14 =>
 xExtract x13 1 fun x15 =>
 xBoxP 70 [(.bytes 1024 0)] h6 fun x16 h7 =>
 xStore (some 1024) x16 x14 h7 fun h8 =>
 xBin (some (.int .i64)) .neq x15 (.int .i64 (.ofNat 0)) fun x17 =>
 c92_2 x17 x2 h8 k x1 x16)
noncomputable abbrev c92_4 (v0 : CV) (h2 : CH) (x2 : CV) (k : CV → CH → Bool) (x1 : CV) : Bool :=
 xEq (some .ptr) .eql v0 .nilp h2 fun x3 =>
 xIte x3
 (xBuild (some (.inl [(0, 1)])) (some (.agg [.nils])) [] fun x4 =>
 xStore (some 1) x2 x4 h2 fun h3 =>
 xLoad (some (some 1)) x2 h3 fun x5 =>
 k (.tup [x5, (.int .i64 (.ofNat 1))]) h3)
 (xLoad (some (some 9)) x1 h2 fun x6 =>
 bd142 v0 x6 h2 fun x7 h4 =>
 xUn .not x7 fun x8 =>
 c92_3 x8 x2 h4 k x1 v0)
noncomputable def bd92 (v0 v1 : CV) (h : CH) (k : CV → CH → Bool) : Bool :=
 xBox 49 v1 h fun x1 h1 =>
 xBoxP 176 [.nils] h1 fun x2 h2 =>
 c92_4 v0 h2 x2 k x1
noncomputable abbrev ex92 : Ex := fun args h k => a2 args fun v0 v1 => bd92 v0 v1 h k
theorem sim92 : SimF Tryz.prog 92 ex92 := fun args h k hk => by
 obtain ⟨v0, v1, rfl, hk⟩ := a2_ok hk
 exact sim_of (qf := qz) (Z := zs) (C := [(142, ex142), (143, ex143), (144, ex144)]) (T := []) ⟨zerosB_ok zsOk, (exCons (by kernel_rfl) sim142 (exCons (by kernel_rfl) sim143 (exCons (by kernel_rfl) sim144 exNil)))⟩ .nil Tryz.func92 _ h k (Eq.mp (by kernel_rfl : (bd92 v0 v1 h k = true) = _) hk)

noncomputable abbrev c93_1 (v0 : CV) (x5 : CV) (h1 : CH) (k : CV → CH → Bool) : Bool :=
 xNilCheck v0 fun x6 =>
 xAddr (some 9) x6 fun x7 =>
 xStore (some 1) x7 x5 h1 fun h2 =>
 xNilCheck v0 fun x8 =>
 xAddr (some 9) x8 fun x9 =>
 xLoad (some none) x9 h2 fun x10 =>
 xNilCheck v0 fun x11 =>
 xAddr (some 10) x11 fun x12 =>
 xStore (some 1) x12 x10 h2 fun h3 =>
 xNilCheck v0 fun x13 =>
 xAddr (some 9) x13 fun x14 =>
 xLoad (some none) x14 h3 fun x15 =>
 k x15 h3
noncomputable def bd93 (v0 : CV) (h : CH) (k : CV → CH → Bool) : Bool :=
 xJoin (n := 1) (fun s0 h1 =>
 xIte s0.1
 (k (.int .i64 (.ofNat 0)) h1)
 (xNilCheck v0 fun x2 =>
 xAddr (some 9) x2 fun x3 =>
 xLoad (some none) x3 h1 fun x4 =>
 xBin (some (.int .i64)) .add x4 (.int .i64 (.ofNat 1)) fun x5 =>
 c93_1 v0 x5 h1 k))
 (fun K15 => xEq (some .ptr) .eql v0 .nilp h fun x17 =>
 xIte x17
 (K15 ((.bool true), ()) h)
 (xNilCheck v0 fun x18 =>
 xAddr (some 5) x18 fun x19 =>
 xLoad (some none) x19 h fun x20 =>
 K15 (x20, ()) h))
noncomputable abbrev ex93 : Ex := fun args h k => a1 args fun v0 => bd93 v0 h k
theorem sim93 : SimF Tryz.prog 93 ex93 := fun args h k hk => by
 obtain ⟨v0, rfl, hk⟩ := a1_ok hk
 exact sim_of (qf := qz) (Z := zs) (C := []) (T := []) ⟨zerosB_ok zsOk, exNil⟩ (.seq .nil (.seq (.join [10] [3, 4, 5, 6, 7, 8, 9] .nil .nil) .nil)) Tryz.func93 _ h k (Eq.mp (by kernel_rfl : (bd93 v0 h k = true) = _) hk)

noncomputable abbrev c43_1 (x1 : CV) (h5 : CH) (x12 : CV) (v0 : CV) (x13 : CV) (k : CV → CH → Bool) : Bool :=
 xLoad (some (some 9)) x1 h5 fun x14 => ifX (sameX x12 x14) (
 xBuild (some (.inl [(0, 1), (1, 9), (10, 1), (11, 1), (12, 1), (13, 1), (14, 1), (15, 1), (16, 1), (17, 1)])) (some (.agg [.nilp, (.int .i64 (.ofNat 0)), (.int .i64 (.ofNat 0)), (.int .i64 (.ofNat 0)), (.int .i64 (.ofNat 0)), (.int .i64 (.ofNat 0)), (.int .i64 (.ofNat 0)), (.int .i64 (.ofNat 0)), (.int .i64 (.ofNat 0)), (.int .i64 (.ofNat 0)), (.int .i64 (.ofNat 0)), (.bool false), .nils, (.bool false), (.int .i64 (.ofNat 0)), .nils, (.int .i64 (.ofNat 0)), (.int .i64 (.ofNat 0))])) [(0, v0), (1, x12), (2, x13), (3, (.bool true))] fun x15 =>
 xBox 188 x15 h5 fun x16 h6 =>
 k (.tup [x16, (.int .i64 (.ofNat 0))]) h6) false
noncomputable abbrev c43_2 (x7 : CV) (k : CV → CH → Bool) (x5 : CV) (h4 : CH) (x6 : CV) (x1 : CV) (v0 : CV) : Bool :=
 xIte x7
 (k (.tup [.nilp, x5]) h4)
 (xAddr (some 0) x6 fun x8 =>
 xLoad (some none) x8 h4 fun x9 =>
 xLen (some (.inl false)) x9 fun x10 =>
 xBin (some (.int .i64)) .gtr x10 (.int .i64 (.ofNat 0)) fun x11 =>
 xIte x11
 (k (.tup [.nilp, (.int .i64 (.ofNat 4))]) h4)
 (xLoad (some (some 9)) x1 h4 fun x12 =>
 bd93 v0 h4 fun x13 h5 =>
 c43_1 x1 h5 x12 v0 x13 k))
noncomputable def bd43 (v0 v1 : CV) (h : CH) (k : CV → CH → Bool) : Bool :=
 xBox 49 v1 h fun x1 h1 =>
 xLoad (some (some 9)) x1 h1 fun x2 =>
 bd92 v0 x2 h1 fun x3 h2 =>
 xExtract x3 0 fun x4 =>
 xExtract x3 1 fun x5 =>
 xBoxP 176 [.nils] h2 fun x6 h3 =>
 xStore (some 1) x6 x4 h3 fun h4 =>
 xBin (some (.int .i64)) .neq x5 (.int .i64 (.ofNat 0)) fun x7 =>
 c43_2 x7 k x5 h4 x6 x1 v0
noncomputable abbrev ex43 : Ex := fun args h k => a2 args fun v0 v1 => bd43 v0 v1 h k
theorem sim43 : SimF Tryz.prog 43 ex43 := fun args h k hk => by
 obtain ⟨v0, v1, rfl, hk⟩ := a2_ok hk
 exact sim_of (qf := qz) (Z := zs) (C := [(92, ex92), (93, ex93)]) (T := [(6, .ld ⟨[0, 2], 1, 3, [4, 5, 6, 7]⟩)]) ⟨zerosB_ok zsOk, (exCons (by kernel_rfl) sim92 (exCons (by kernel_rfl) sim93 exNil))⟩ .nil Tryz.func43 _ h k (Eq.mp (by kernel_rfl : (bd43 v0 v1 h k = true) = _) hk)

noncomputable abbrev c9_1 (x21 : CV) (h13 : CH) (x34 : CV) (x24 : CV) (x29 : CV) (k : CV → CH → Bool) : Bool :=
 xLoad (some (some 9)) x21 h13 fun x36 =>
 bd43 x34 x36 h13 fun x37 h14 =>
 xExtract x37 0 fun x38 =>
 xExtract x37 1 fun x39 =>
 xBuild (some (.inl [(0, 1), (1, 1), (2, 1), (3, 1)])) (some (.agg [.nilp, .nilp, .nilp, .nilp])) [(0, x24), (1, x29), (2, x34), (3, x38)] fun x40 =>
 xBox 41 x40 h14 fun x41 h15 =>
 xEq (some .ptr) .neq x38 .nilp h15 fun x42 =>
 k (.tup [x41, (.bool true), x42]) h15
noncomputable abbrev c9_2 (k : CV → CH → Bool) (x15 : CV) (x21 : CV) (x24 : CV) (x29 : CV) (h11 : CH) (x30 : CV) : Bool :=
 xJoin (n := 1) (fun s30 h12 =>
 xIte s30.1
 (k (.tup [.nilp, (.bool true), (.bool false)]) h12)
 (xLoad (some (some 2)) x15 h12 fun x32 =>
 bd42 x32 h12 fun x33 h13 =>
 xExtract x33 0 fun x34 =>
 xExtract x33 1 fun x35 =>
 c9_1 x21 h13 x34 x24 x29 k))
 (fun K42 => xEq (some .ptr) .eql x29 .nilp h11 fun x44 =>
 xIte x44
 (K42 ((.bool true), ()) h11)
 (xBin (some (.int .i64)) .neq x30 (.int .i64 (.ofNat 0)) fun x45 =>
 K42 (x45, ()) h11))
noncomputable abbrev c9_3 (k : CV → CH → Bool) (x21 : CV) (x24 : CV) (x15 : CV) (h9 : CH) (x25 : CV) : Bool :=
 xJoin (n := 1) (fun s25 h10 =>
 xIte s25.1
 (k (.tup [.nilp, (.bool true), (.bool false)]) h10)
 (xLoad (some (some 9)) x21 h10 fun x27 =>
 bd41 x24 x27 h10 fun x28 h11 =>
 xExtract x28 0 fun x29 =>
 xExtract x28 1 fun x30 =>
 c9_2 k x15 x21 x24 x29 h11 x30))
 (fun K45 => xEq (some .ptr) .eql x24 .nilp h9 fun x47 =>
 xIte x47
 (K45 ((.bool true), ()) h9)
 (xBin (some (.int .i64)) .neq x25 (.int .i64 (.ofNat 0)) fun x48 =>
 K45 (x48, ()) h9))
noncomputable abbrev c9_4 (h6 : CH) (x19 : CV) (x15 : CV) (k : CV → CH → Bool) : Bool :=
 xBoxP 49 [(.int .i64 (.ofNat 0)), (.int .i64 (.ofNat 0)), (.int .i64 (.ofNat 0)), (.int .i64 (.ofNat 0)), (.int .i64 (.ofNat 0)), (.int .i64 (.ofNat 0)), (.int .i64 (.ofNat 0)), (.int .i64 (.ofNat 0)), (.int .i64 (.ofNat 0))] h6 fun x21 h7 =>
 xStore (some 9) x21 x19 h7 fun h8 =>
 xLoad (some (some 2)) x15 h8 fun x22 =>
 bd40 x22 h8 fun x23 h9 =>
 xExtract x23 0 fun x24 =>
 xExtract x23 1 fun x25 =>
 c9_3 k x21 x24 x15 h9 x25
noncomputable abbrev c9_5 (x1 : CV) (h2 : CH) (x9 : CV) (x11 : CV) (k : CV → CH → Bool) : Bool :=
 xAddr (some 6) x1 fun x12 =>
 xLoad (some none) x12 h2 fun x13 =>
 bd38 x9 x11 x13 h2 fun x14 h3 =>
 xBoxP 100 [(.int .i64 (.ofNat 0)), .nils] h3 fun x15 h4 =>
 xStore (some 2) x15 x14 h4 fun h5 =>
 xAddr (some 0) x1 fun x16 =>
 xLoad (some (some 3)) x16 h5 fun x17 =>
 bd39 x17 h5 fun x18 h6 =>
 xExtract x18 0 fun x19 =>
 xExtract x18 1 fun x20 =>
 c9_4 h6 x19 x15 k
noncomputable abbrev c9_6 (x2 : CV) (h1 : CH) (x1 : CV) (k : CV → CH → Bool) : Bool :=
 xLoad (some (some 3)) x2 h1 fun x3 =>
 xAddr (some 3) x1 fun x4 =>
 xLoad (some (some 3)) x4 h1 fun x5 =>
 ex37 [x3, x5] h1 fun x6 h2 =>
 xUn .not x6 fun x7 =>
 xIte x7
 (k (.tup [.nilp, (.bool false), (.bool false)]) h2)
 (xAddr (some 0) x1 fun x8 =>
 xLoad (some (some 3)) x8 h2 fun x9 =>
 xAddr (some 3) x1 fun x10 =>
 xLoad (some (some 3)) x10 h2 fun x11 =>
 c9_5 x1 h2 x9 x11 k)
noncomputable def bd9 (v0 : CV) (h : CH) (k : CV → CH → Bool) : Bool :=
 xBox 32 v0 h fun x1 h1 =>
 xAddr (some 0) x1 fun x2 =>
 c9_6 x2 h1 x1 k
noncomputable abbrev ex9 : Ex := fun args h k => a1 args fun v0 => bd9 v0 h k
theorem sim9 : SimF Tryz.prog 9 ex9 := fun args h k hk => by
 obtain ⟨v0, rfl, hk⟩ := a1_ok hk
 exact sim_of (qf := qz) (Z := zs) (C := [(37, ex37), (38, ex38), (39, ex39), (40, ex40), (41, ex41), (42, ex42), (43, ex43)]) (T := []) ⟨zerosB_ok zsOk, (exCons (by kernel_rfl) sim37 (exCons (by kernel_rfl) sim38 (exCons (by kernel_rfl) sim39 (exCons (by kernel_rfl) sim40 (exCons (by kernel_rfl) sim41 (exCons (by kernel_rfl) sim42 (exCons (by kernel_rfl) sim43 exNil)))))))⟩ (.seq .nil (.seq .nil (.seq .nil (.seq .nil (.seq .nil (.seq .nil (.seq (.join [45] [40, 41, 42, 43, 44] .nil .nil) (.seq .nil (.seq (.join [57] [52, 53, 54, 55, 56] .nil .nil) .nil))))))))) Tryz.func9 _ h k (Eq.mp (by kernel_rfl : (bd9 v0 h k = true) = _) hk)

noncomputable def bd94 (v0 v1 : CV) (h : CH) (k : CV → CH → Bool) : Bool :=
 bd140 v0 h fun x1 h1 =>
 xBin (some (.int .i64)) .eql x1 (.int .i64 (.ofNat 0)) fun x2 =>
 xIte x2
 (xBin (some (.int .i64)) .gtr v1 (.int .i64 (.ofNat 0)) fun x3 =>
 xIte x3
 (xNilCheck v0 fun x4 =>
 xAddr (some 10) x4 fun x5 =>
 xLoad (some none) x5 h1 fun x6 =>
 xBin (some (.int .i64)) .eql x6 v1 fun x7 =>
 k x7 h1)
 (k (.bool false) h1))
 (k (.bool false) h1)
noncomputable abbrev ex94 : Ex := fun args h k => a2 args fun v0 v1 => bd94 v0 v1 h k
theorem sim94 : SimF Tryz.prog 94 ex94 := fun args h k hk => by
 obtain ⟨v0, v1, rfl, hk⟩ := a2_ok hk
 exact sim_of (qf := qz) (Z := zs) (C := [(140, ex140)]) (T := []) ⟨zerosB_ok zsOk, (exCons (by kernel_rfl) sim140 exNil)⟩ .nil Tryz.func94 _ h k (Eq.mp (by kernel_rfl : (bd94 v0 v1 h k = true) = _) hk)

noncomputable def bd45 (v0 : CV) (h : CH) (k : CV → CH → Bool) : Bool :=
 xJoin (n := 1) (fun s0 h1 =>
 xIte s0.1
 (k (.int .i64 (.ofNat 1)) h1)
 (xNilCheck v0 fun x2 =>
 xAddr (some 2) x2 fun x3 =>
 xLoad (some none) x3 h1 fun x4 =>
 xNilCheck v0 fun x5 =>
 xAddr (some 13) x5 fun x6 =>
 xLoad (some none) x6 h1 fun x7 =>
 bd94 x4 x7 h1 fun x8 h2 =>
 xUn .not x8 fun x9 =>
 xIte x9
 (k (.int .i64 (.ofNat 3)) h2)
 (k (.int .i64 (.ofNat 0)) h2)))
 (fun K9 => xEq (some .ptr) .eql v0 .nilp h fun x11 =>
 xIte x11
 (K9 ((.bool true), ()) h)
 (xNilCheck v0 fun x12 =>
 xAddr (some 2) x12 fun x13 =>
 xLoad (some none) x13 h fun x14 =>
 xEq (some .ptr) .eql x14 .nilp h fun x15 =>
 K9 (x15, ()) h))
noncomputable abbrev ex45 : Ex := fun args h k => a1 args fun v0 => bd45 v0 h k
theorem sim45 : SimF Tryz.prog 45 ex45 := fun args h k hk => by
 obtain ⟨v0, rfl, hk⟩ := a1_ok hk
 exact sim_of (qf := qz) (Z := zs) (C := [(94, ex94)]) (T := []) ⟨zerosB_ok zsOk, (exCons (by kernel_rfl) sim94 exNil)⟩ (.seq .nil (.seq (.join [11] [3, 4, 5, 6, 7, 8, 9, 10] .nil .nil) .nil)) Tryz.func45 _ h k (Eq.mp (by kernel_rfl : (bd45 v0 h k = true) = _) hk)

noncomputable abbrev c97_1 (x1 : CV) (h2 : CH) (k : CV → CH → Bool) : Bool :=
 xBuild (some (.inl [(0, 3), (3, 1), (4, 1), (5, 1), (6, 1), (7, 1), (8, 1)])) (some (.agg [(.int .i64 (.ofNat 0)), (.int .i64 (.ofNat 0)), (.int .i64 (.ofNat 0)), (.int .i64 (.ofNat 0)), (.int .i64 (.ofNat 0)), (.int .i64 (.ofNat 0)), (.int .i64 (.ofNat 0)), (.int .i64 (.ofNat 0)), (.int .i64 (.ofNat 0))])) [] fun x4 =>
 xStore (some 9) x1 x4 h2 fun h3 =>
 xLoad (some (some 9)) x1 h3 fun x5 =>
 k x5 h3
noncomputable def bd97 (v0 : CV) (h : CH) (k : CV → CH → Bool) : Bool :=
 xBoxP 49 [(.int .i64 (.ofNat 0)), (.int .i64 (.ofNat 0)), (.int .i64 (.ofNat 0)), (.int .i64 (.ofNat 0)), (.int .i64 (.ofNat 0)), (.int .i64 (.ofNat 0)), (.int .i64 (.ofNat 0)), (.int .i64 (.ofNat 0)), (.int .i64 (.ofNat 0))] h fun x1 h1 =>
 bd45 v0 h1 fun x2 h2 =>
 xBin (some (.int .i64)) .neq x2 (.int .i64 (.ofNat 0)) fun x3 =>
 xIte x3
 (c97_1 x1 h2 k)
 (xNilCheck v0 fun x6 =>
 xAddr (some 4) x6 fun x7 =>
 xLoad (some (some 9)) x7 h2 fun x8 =>
 xStore (some 9) x1 x8 h2 fun h4 =>
 xLoad (some (some 9)) x1 h4 fun x9 =>
 k x9 h4)
noncomputable abbrev ex97 : Ex := fun args h k => a1 args fun v0 => bd97 v0 h k
theorem sim97 : SimF Tryz.prog 97 ex97 := fun args h k hk => by
 obtain ⟨v0, rfl, hk⟩ := a1_ok hk
 exact sim_of (qf := qz) (Z := zs) (C := [(45, ex45)]) (T := []) ⟨zerosB_ok zsOk, (exCons (by kernel_rfl) sim45 exNil)⟩ .nil Tryz.func97 _ h k (Eq.mp (by kernel_rfl : (bd97 v0 h k = true) = _) hk)

noncomputable abbrev c53_1 (x7 : CV) (v1 : CV) (x2 : CV) (h3 : CH) (k : CV → CH → Bool) (x6 : CV) : Bool :=
 xBin (some (.int .i64)) .mul x7 (.int .i64 (.ofNat 64)) fun x8 =>
 xBin (some (.int .i64)) .geq v1 (.int .i64 (.ofNat 1)) fun x9 =>
 xIte x9
 (xAddr (some 0) x2 fun x10 =>
 xAddr (some 2) x10 fun x11 =>
 xLoad (some none) x11 h3 fun x12 =>
 xBin (some (.int .i64)) .leq v1 x12 fun x13 =>
 k (.tup [x6, x8, x13]) h3)
 (k (.tup [x6, x8, (.bool false)]) h3)
noncomputable abbrev c53_2 (h1 : CH) (x1 : CV) (v1 : CV) (k : CV → CH → Bool) : Bool :=
 xBoxP 49 [(.int .i64 (.ofNat 0)), (.int .i64 (.ofNat 0)), (.int .i64 (.ofNat 0)), (.int .i64 (.ofNat 0)), (.int .i64 (.ofNat 0)), (.int .i64 (.ofNat 0)), (.int .i64 (.ofNat 0)), (.int .i64 (.ofNat 0)), (.int .i64 (.ofNat 0))] h1 fun x2 h2 =>
 xStore (some 9) x2 x1 h2 fun h3 =>
 xAddr (some 4) x2 fun x3 =>
 xLoad (some none) x3 h3 fun x4 =>
 xBin (some (.int .i64)) .quo v1 (.int .i64 (.ofNat 16)) fun x5 =>
 xBin (some (.int .i64)) .add x4 x5 fun x6 =>
 xBin (some (.int .i64)) .rem v1 (.int .i64 (.ofNat 16)) fun x7 =>
 c53_1 x7 v1 x2 h3 k x6
noncomputable def bd53 (v0 v1 : CV) (h : CH) (k : CV → CH → Bool) : Bool :=
 bd97 v0 h fun x1 h1 =>
 c53_2 h1 x1 v1 k
noncomputable abbrev ex53 : Ex := fun args h k => a2 args fun v0 v1 => bd53 v0 v1 h k
theorem sim53 : SimF Tryz.prog 53 ex53 := fun args h k hk => by
 obtain ⟨v0, v1, rfl, hk⟩ := a2_ok hk
 exact sim_of (qf := qz) (Z := zs) (C := [(97, ex97)]) (T := []) ⟨zerosB_ok zsOk, (exCons (by kernel_rfl) sim97 exNil)⟩ .nil Tryz.func53 _ h k (Eq.mp (by kernel_rfl : (bd53 v0 v1 h k = true) = _) hk)

noncomputable abbrev c98_1 (v0 : CV) (h : CH) (v1 : CV) (k : CV → CH → Bool) : Bool :=
 xNilCheck v0 fun x6 =>
 xAddr (some 4) x6 fun x7 =>
 xAddr (some 3) x7 fun x8 =>
 xLoad (some none) x8 h fun x9 =>
 xNilCheck v0 fun x10 =>
 xAddr (some 4) x10 fun x11 =>
 xAddr (some 0) x11 fun x12 =>
 xAddr (some 1) x12 fun x13 =>
 xLoad (some none) x13 h fun x14 =>
 xBin (some (.int .i64)) .add x9 x14 fun x15 =>
 xBin (some (.int .i64)) .lss v1 x15 fun x16 =>
 k x16 h
noncomputable def bd98 (v0 v1 : CV) (h : CH) (k : CV → CH → Bool) : Bool :=
 xNilCheck v0 fun x1 =>
 xAddr (some 4) x1 fun x2 =>
 xAddr (some 3) x2 fun x3 =>
 xLoad (some none) x3 h fun x4 =>
 xBin (some (.int .i64)) .geq v1 x4 fun x5 =>
 xIte x5
 (c98_1 v0 h v1 k)
 (k (.bool false) h)
noncomputable abbrev ex98 : Ex := fun args h k => a2 args fun v0 v1 => bd98 v0 v1 h k
theorem sim98 : SimF Tryz.prog 98 ex98 := fun args h k hk => by
 obtain ⟨v0, v1, rfl, hk⟩ := a2_ok hk
 exact sim_of (qf := qz) (Z := zs) (C := []) (T := []) ⟨zerosB_ok zsOk, exNil⟩ .nil Tryz.func98 _ h k (Eq.mp (by kernel_rfl : (bd98 v0 v1 h k = true) = _) hk)

noncomputable def bd189 (v0 : CV) (h : CH) (k : CV → CH → Bool) : Bool :=
 bd184 v0 h fun x1 h1 =>
 xIte x1
 (xNilCheck v0 fun x2 =>
 xAddr (some 6) x2 fun x3 =>
 xLoad (some none) x3 h1 fun x4 =>
 k x4 h1)
 (k (.bool false) h1)
noncomputable abbrev ex189 : Ex := fun args h k => a1 args fun v0 => bd189 v0 h k
theorem sim189 : SimF Tryz.prog 189 ex189 := fun args h k hk => by
 obtain ⟨v0, rfl, hk⟩ := a1_ok hk
 exact sim_of (qf := qz) (Z := zs) (C := [(184, ex184)]) (T := []) ⟨zerosB_ok zsOk, (exCons (by kernel_rfl) sim184 exNil)⟩ .nil Tryz.func189 _ h k (Eq.mp (by kernel_rfl : (bd189 v0 h k = true) = _) hk)

noncomputable abbrev c145_1 (k : CV → CH → Bool) (v1 : CV) (h2 : CH) (v0 : CV) : Bool :=
 xJoin (n := 1) (fun s5 h3 =>
 xIte s5.1
 (k (.int .i64 (.ofNat 2)) h3)
 (k (.int .i64 (.ofNat 0)) h3))
 (fun K6 => xBin (some (.int .i64)) .lss v1 (.int .i64 (.ofNat 0)) fun x8 =>
 xIte x8
 (K6 ((.bool true), ()) h2)
 (xNilCheck v0 fun x9 =>
 xAddr (some 0) x9 fun x10 =>
 xLoad (some none) x10 h2 fun x11 =>
 bd138 x11 h2 fun x12 h4 =>
 xBin (some (.int .i64)) .geq v1 x12 fun x13 =>
 K6 (x13, ()) h4))
noncomputable def bd145 (v0 v1 : CV) (h : CH) (k : CV → CH → Bool) : Bool :=
 xJoin (n := 1) (fun s0 h1 =>
 xIte s0.1
 (k (.int .i64 (.ofNat 1)) h1)
 (xNilCheck v0 fun x2 =>
 xAddr (some 0) x2 fun x3 =>
 xLoad (some none) x3 h1 fun x4 =>
 bd189 x4 h1 fun x5 h2 =>
 xIte x5
 (k (.int .i64 (.ofNat 3)) h2)
 (c145_1 k v1 h2 v0)))
 (fun K13 => xEq (some .ptr) .eql v0 .nilp h fun x15 =>
 xIte x15
 (K13 ((.bool true), ()) h)
 (xNilCheck v0 fun x16 =>
 xAddr (some 0) x16 fun x17 =>
 xLoad (some none) x17 h fun x18 =>
 xEq (some .ptr) .eql x18 .nilp h fun x19 =>
 K13 (x19, ()) h))
noncomputable abbrev ex145 : Ex := fun args h k => a2 args fun v0 v1 => bd145 v0 v1 h k
theorem sim145 : SimF Tryz.prog 145 ex145 := fun args h k hk => by
 obtain ⟨v0, v1, rfl, hk⟩ := a2_ok hk
 exact sim_of (qf := qz) (Z := zs) (C := [(189, ex189), (138, ex138)]) (T := []) ⟨zerosB_ok zsOk, (exCons (by kernel_rfl) sim189 (exCons (by kernel_rfl) sim138 exNil))⟩ (.seq .nil (.seq (.join [5] [6, 7, 8, 9, 10, 11, 12, 13, 14] .nil (.cond .nil (.seq .nil (.cond .nil (.join [21] [22, 23, 24, 25, 26, 27, 28, 29, 30, 31, 32] .nil .nil))))) .nil)) Tryz.func145 _ h k (Eq.mp (by kernel_rfl : (bd145 v0 v1 h k = true) = _) hk)

noncomputable abbrev c146_1 (x7 : CV) (x6 : CV) (h : CH) (v0 : CV) (k : CV → CH → Bool) : Bool :=
 xAddr (some 1027) x7 fun x8 =>
 xStore (some 1) x8 x6 h fun h1 =>
 xNilCheck v0 fun x9 =>
 xAddr (some 1027) x9 fun x10 =>
 xLoad (some none) x10 h1 fun x11 =>
 xNilCheck v0 fun x12 =>
 xAddr (some 1026) x12 fun x13 =>
 xLoad (some none) x13 h1 fun x14 =>
 xNilCheck x11 fun x15 =>
 xAddr (some 1026) x15 fun x16 =>
 xStore (some 1) x16 x14 h1 fun h2 =>
 k (.tup []) h2
noncomputable def bd146 (v0 : CV) (h : CH) (k : CV → CH → Bool) : Bool :=
 xNilCheck v0 fun x1 =>
 xAddr (some 1026) x1 fun x2 =>
 xLoad (some none) x2 h fun x3 =>
 xNilCheck v0 fun x4 =>
 xAddr (some 1027) x4 fun x5 =>
 xLoad (some none) x5 h fun x6 =>
 xNilCheck x3 fun x7 =>
 c146_1 x7 x6 h v0 k
noncomputable abbrev ex146 : Ex := fun args h k => a1 args fun v0 => bd146 v0 h k
theorem sim146 : SimF Tryz.prog 146 ex146 := fun args h k hk => by
 obtain ⟨v0, rfl, hk⟩ := a1_ok hk
 exact sim_of (qf := qz) (Z := zs) (C := []) (T := []) ⟨zerosB_ok zsOk, exNil⟩ .nil Tryz.func146 _ h k (Eq.mp (by kernel_rfl : (bd146 v0 h k = true) = _) hk)

noncomputable abbrev c147_1 (x10 : CV) (x8 : CV) (h1 : CH) (v1 : CV) (v0 : CV) (k : CV → CH → Bool) : Bool :=
 xStore (some 1) x10 x8 h1 fun h2 =>
 xNilCheck v1 fun x11 =>
 xAddr (some 1026) x11 fun x12 =>
 xLoad (some none) x12 h2 fun x13 =>
 xNilCheck x13 fun x14 =>
 xAddr (some 1027) x14 fun x15 =>
 xStore (some 1) x15 v1 h2 fun h3 =>
 xNilCheck v0 fun x16 =>
 xAddr (some 3) x16 fun x17 =>
 xAddr (some 1026) x17 fun x18 =>
 xStore (some 1) x18 v1 h3 fun h4 =>
 k (.tup []) h4
noncomputable def bd147 (v0 v1 : CV) (h : CH) (k : CV → CH → Bool) : Bool :=
 xNilCheck v0 fun x1 =>
 xAddr (some 3) x1 fun x2 =>
 xAddr (some 1026) x2 fun x3 =>
 xLoad (some none) x3 h fun x4 =>
 xNilCheck v1 fun x5 =>
 xAddr (some 1026) x5 fun x6 =>
 xStore (some 1) x6 x4 h fun h1 =>
 xNilCheck v0 fun x7 =>
 xAddr (some 3) x7 fun x8 =>
 xNilCheck v1 fun x9 =>
 xAddr (some 1027) x9 fun x10 =>
 c147_1 x10 x8 h1 v1 v0 k
noncomputable abbrev ex147 : Ex := fun args h k => a2 args fun v0 v1 => bd147 v0 v1 h k
theorem sim147 : SimF Tryz.prog 147 ex147 := fun args h k hk => by
 obtain ⟨v0, v1, rfl, hk⟩ := a2_ok hk
 exact sim_of (qf := qz) (Z := zs) (C := []) (T := []) ⟨zerosB_ok zsOk, exNil⟩ .nil Tryz.func147 _ h k (Eq.mp (by kernel_rfl : (bd147 v0 v1 h k = true) = _) hk)

noncomputable abbrev c148_1 (x24 : CV) (s19 : TupC 1) (h1 : CH) (K20 : TupC 1 → CH → Bool) (v0 : CV) (k : CV → CH → Bool) : Bool :=
 xIte x24
 (xNilCheck s19.1 fun x25 =>
 xAddr (some 1027) x25 fun x26 =>
 xLoad (some none) x26 h1 fun x27 =>
 K20 (x27, ()) h1)
 (bd146 s19.1 h1 fun x28 h2 =>
 xNilCheck v0 fun x29 =>
 xAddr (some 1031) x29 fun x30 =>
 xLoad (some none) x30 h2 fun x31 =>
 xNilCheck s19.1 fun x32 =>
 xAddr (some 0) x32 fun x33 =>
 xLoad (some none) x33 h2 fun x34 =>
 xMapDel (some (3, .int .i64, 239)) x31 x34 h2 fun h3 =>
 k (.bool true) h3)
noncomputable abbrev c148_2 (x11 : CV) (x14 : CV) (k : CV → CH → Bool) (h : CH) (v0 : CV) : Bool :=
 xBin (some (.int .i64)) .lss x11 x14 fun x15 =>
 xIte x15
 (k (.bool true) h)
 (xNilCheck v0 fun x16 =>
 xAddr (some 3) x16 fun x17 =>
 xAddr (some 1027) x17 fun x18 =>
 xLoad (some none) x18 h fun x19 =>
 xLoop (n := 1) (fun K20 s19 h1 =>
 xNilCheck s19.1 fun x22 =>
 xAddr (some 1025) x22 fun x23 =>
 xLoad (some none) x23 h1 fun x24 =>
 c148_1 x24 s19 h1 K20 v0 k) 1000000 (x19, ()) h)
noncomputable abbrev c148_3 (x4 : CV) (h : CH) (x3 : CV) (k : CV → CH → Bool) (v0 : CV) : Bool :=
 xAddr (some 1) x4 fun x5 =>
 xLoad (some none) x5 h fun x6 =>
 xBin (some (.int .i64)) .geq x3 x6 fun x7 =>
 xIte x7
 (k (.bool false) h)
 (xNilCheck v0 fun x8 =>
 xAddr (some 1031) x8 fun x9 =>
 xLoad (some none) x9 h fun x10 =>
 xMapLen x10 h fun x11 =>
 xNilCheck v0 fun x12 =>
 xAddr (some 1) x12 fun x13 =>
 xLoad (some none) x13 h fun x14 =>
 c148_2 x11 x14 k h v0)
noncomputable def bd148 (v0 : CV) (h : CH) (k : CV → CH → Bool) : Bool :=
 xNilCheck v0 fun x1 =>
 xAddr (some 2) x1 fun x2 =>
 xLoad (some none) x2 h fun x3 =>
 xNilCheck v0 fun x4 =>
 c148_3 x4 h x3 k v0
noncomputable abbrev ex148 : Ex := fun args h k => a1 args fun v0 => bd148 v0 h k
theorem sim148 : SimF Tryz.prog 148 ex148 := fun args h k hk => by
 obtain ⟨v0, rfl, hk⟩ := a1_ok hk
 exact sim_of (qf := qz) (Z := zs) (C := [(146, ex146)]) (T := []) ⟨zerosB_ok zsOk, (exCons (by kernel_rfl) sim146 exNil)⟩ (.seq .nil (.seq .nil (.seq .nil (.seq .nil (.seq (.loop [3] [28, 29, 30, 31, 32, 33, 34, 35] .nil) .nil))))) Tryz.func148 _ h k (Eq.mp (by kernel_rfl : (bd148 v0 h k = true) = _) hk)

noncomputable abbrev c100_1 (v0 : CV) (h13 : CH) (v1 : CV) (x34 : CV) (x28 : CV) (x1 : CV) (k : CV → CH → Bool) : Bool :=
 xNilCheck v0 fun x35 =>
 xAddr (some 1031) x35 fun x36 =>
 xLoad (some none) x36 h13 fun x37 =>
 xMapSet (some (3, .int .i64, 239)) x37 v1 x34 h13 fun h14 =>
 bd147 v0 x34 h14 fun x38 h15 =>
 xLoad (some (some 1024)) x28 h15 fun x39 =>
 xStore (some 1024) x1 x39 h15 fun h16 =>
 xLoad (some (some 1024)) x1 h16 fun x40 =>
 k (.tup [x40, (.int .i64 (.ofNat 0))]) h16
noncomputable abbrev c100_2 (x29 : CV) (x1 : CV) (h11 : CH) (k : CV → CH → Bool) (x27 : CV) (x28 : CV) (v1 : CV) (v0 : CV) : Bool :=
 xIte x29
 (xBuild (some (.inr 1)) (some (.agg [(.bytes 1024 0)])) [] fun x30 =>
 xStore (some 1024) x1 x30 h11 fun h12 =>
 xLoad (some (some 1024)) x1 h12 fun x31 =>
 k (.tup [x31, x27]) h12)
 (xLoad (some (some 1024)) x28 h11 fun x32 =>
 xBuild (some (.inl [(0, 1), (1, 1024), (1025, 1), (1026, 1), (1027, 1)])) (some (.agg [(.int .i64 (.ofNat 0)), (.bytes 1024 0), (.bool false), .nilp, .nilp])) [(0, v1), (1, x32)] fun x33 =>
 xBox 241 x33 h11 fun x34 h13 =>
 c100_1 v0 h13 v1 x34 x28 x1 k)
noncomputable abbrev c100_3 (v0 : CV) (h7 : CH) (v1 : CV) (x1 : CV) (k : CV → CH → Bool) : Bool :=
 xNilCheck v0 fun x22 =>
 xAddr (some 0) x22 fun x23 =>
 xLoad (some none) x23 h7 fun x24 =>
 bd99 x24 v1 h7 fun x25 h9 =>
 xExtract x25 0 fun x26 =>
 xExtract x25 1 fun x27 =>
 xBoxP 70 [(.bytes 1024 0)] h9 fun x28 h10 =>
 xStore (some 1024) x28 x26 h10 fun h11 =>
 xBin (some (.int .i64)) .neq x27 (.int .i64 (.ofNat 0)) fun x29 =>
 c100_2 x29 x1 h11 k x27 x28 v1 v0
noncomputable abbrev c100_4 (x11 : CV) (x10 : CV) (h2 : CH) (v0 : CV) (x1 : CV) (k : CV → CH → Bool) (v1 : CV) : Bool :=
 xIte x11
 (bd146 x10 h2 fun x12 h4 =>
 bd147 v0 x10 h4 fun x13 h5 =>
 xNilCheck x10 fun x14 =>
 xAddr (some 1) x14 fun x15 =>
 xLoad (some (some 1024)) x15 h5 fun x16 =>
 xStore (some 1024) x1 x16 h5 fun h6 =>
 xLoad (some (some 1024)) x1 h6 fun x17 =>
 k (.tup [x17, (.int .i64 (.ofNat 0))]) h6)
 (bd148 v0 h2 fun x18 h7 =>
 xUn .not x18 fun x19 =>
 xIte x19
 (xBuild (some (.inr 1)) (some (.agg [(.bytes 1024 0)])) [] fun x20 =>
 xStore (some 1024) x1 x20 h7 fun h8 =>
 xLoad (some (some 1024)) x1 h8 fun x21 =>
 k (.tup [x21, (.int .i64 (.ofNat 160))]) h8)
 (c100_3 v0 h7 v1 x1 k))
noncomputable abbrev c100_5 (x3 : CV) (x1 : CV) (h2 : CH) (k : CV → CH → Bool) (x2 : CV) (v0 : CV) (v1 : CV) : Bool :=
 xIte x3
 (xBuild (some (.inr 1)) (some (.agg [(.bytes 1024 0)])) [] fun x4 =>
 xStore (some 1024) x1 x4 h2 fun h3 =>
 xLoad (some (some 1024)) x1 h3 fun x5 =>
 k (.tup [x5, x2]) h3)
 (xNilCheck v0 fun x6 =>
 xAddr (some 1031) x6 fun x7 =>
 xLoad (some none) x7 h2 fun x8 =>
 xLookup (some (3, .int .i64, 239)) (some .nilp) true x8 v1 h2 fun x9 =>
 xExtract x9 0 fun x10 =>
 xExtract x9 1 fun x11 =>
 c100_4 x11 x10 h2 v0 x1 k v1)
noncomputable def bd100 (v0 v1 : CV) (h : CH) (k : CV → CH → Bool) : Bool :=
 xBoxP 70 [(.bytes 1024 0)] h fun x1 h1 =>
 bd145 v0 v1 h1 fun x2 h2 =>
 xBin (some (.int .i64)) .neq x2 (.int .i64 (.ofNat 0)) fun x3 =>
 c100_5 x3 x1 h2 k x2 v0 v1
noncomputable abbrev ex100 : Ex := fun args h k => a2 args fun v0 v1 => bd100 v0 v1 h k
theorem sim100 : SimF Tryz.prog 100 ex100 := fun args h k hk => by
 obtain ⟨v0, v1, rfl, hk⟩ := a2_ok hk
 exact sim_of (qf := qz) (Z := zs) (C := [(145, ex145), (146, ex146), (147, ex147), (148, ex148), (99, ex99)]) (T := []) ⟨zerosB_ok zsOk, (exCons (by kernel_rfl) sim145 (exCons (by kernel_rfl) sim146 (exCons (by kernel_rfl) sim147 (exCons (by kernel_rfl) sim148 (exCons (by kernel_rfl) sim99 exNil)))))⟩ .nil Tryz.func100 _ h k (Eq.mp (by kernel_rfl : (bd100 v0 v1 h k = true) = _) hk)

noncomputable abbrev c54_1 (x9 : CV) (v0 : CV) (h6 : CH) (v1 : CV) (x1 : CV) (k : CV → CH → Bool) : Bool :=
 xIte x9
 (xNilCheck v0 fun x10 =>
 xAddr (some 2) x10 fun x11 =>
 xLoad (some none) x11 h6 fun x12 =>
 bd99 x12 v1 h6 fun x13 h7 =>
 xExtract x13 0 fun x14 =>
 xExtract x13 1 fun x15 =>
 xStore (some 1024) x1 x14 h7 fun h8 =>
 xLoad (some (some 1024)) x1 h8 fun x16 =>
 k (.tup [x16, x15]) h8)
 (xNilCheck v0 fun x17 =>
 xAddr (some 3) x17 fun x18 =>
 xLoad (some none) x18 h6 fun x19 =>
 bd100 x19 v1 h6 fun x20 h9 =>
 xExtract x20 0 fun x21 =>
 xExtract x20 1 fun x22 =>
 xStore (some 1024) x1 x21 h9 fun h10 =>
 xLoad (some (some 1024)) x1 h10 fun x23 =>
 k (.tup [x23, x22]) h10)
noncomputable abbrev c54_2 (x1 : CV) (k : CV → CH → Bool) (v0 : CV) (v1 : CV) (h2 : CH) : Bool :=
 xJoin (n := 1) (fun s5 h4 =>
 xIte s5.1
 (xBuild (some (.inr 1)) (some (.agg [(.bytes 1024 0)])) [] fun x7 =>
 xStore (some 1024) x1 x7 h4 fun h5 =>
 xLoad (some (some 1024)) x1 h5 fun x8 =>
 k (.tup [x8, (.int .i64 (.ofNat 2))]) h5)
 (bd98 v0 v1 h4 fun x9 h6 =>
 c54_1 x9 v0 h6 v1 x1 k))
 (fun K23 => xBin (some (.int .i64)) .lss v1 (.int .i64 (.ofNat 0)) fun x25 =>
 xIte x25
 (K23 ((.bool true), ()) h2)
 (xNilCheck v0 fun x26 =>
 xAddr (some 4) x26 fun x27 =>
 xAddr (some 0) x27 fun x28 =>
 xAddr (some 0) x28 fun x29 =>
 xLoad (some none) x29 h2 fun x30 =>
 xBin (some (.int .i64)) .geq v1 x30 fun x31 =>
 K23 (x31, ()) h2))
noncomputable def bd54 (v0 v1 : CV) (h : CH) (k : CV → CH → Bool) : Bool :=
 xBoxP 70 [(.bytes 1024 0)] h fun x1 h1 =>
 bd45 v0 h1 fun x2 h2 =>
 xBin (some (.int .i64)) .neq x2 (.int .i64 (.ofNat 0)) fun x3 =>
 xIte x3
 (xBuild (some (.inr 1)) (some (.agg [(.bytes 1024 0)])) [] fun x4 =>
 xStore (some 1024) x1 x4 h2 fun h3 =>
 xLoad (some (some 1024)) x1 h3 fun x5 =>
 k (.tup [x5, x2]) h3)
 (c54_2 x1 k v0 v1 h2)
noncomputable abbrev ex54 : Ex := fun args h k => a2 args fun v0 v1 => bd54 v0 v1 h k
theorem sim54 : SimF Tryz.prog 54 ex54 := fun args h k hk => by
 obtain ⟨v0, v1, rfl, hk⟩ := a2_ok hk
 exact sim_of (qf := qz) (Z := zs) (C := [(45, ex45), (98, ex98), (99, ex99), (100, ex100)]) (T := []) ⟨zerosB_ok zsOk, (exCons (by kernel_rfl) sim45 (exCons (by kernel_rfl) sim98 (exCons (by kernel_rfl) sim99 (exCons (by kernel_rfl) sim100 exNil))))⟩ (.seq .nil (.seq .nil (.seq (.join [24] [13, 14, 15, 16, 17, 18, 19, 20, 21, 22, 23] .nil .nil) .nil))) Tryz.func54 _ h k (Eq.mp (by kernel_rfl : (bd54 v0 v1 h k = true) = _) hk)

noncomputable abbrev c149_1 (x3 : CV) (v0 : CV) (v1 : CV) (x2 : CV) (k : CV → CH → Bool) (h1 : CH) : Bool :=
 xIte x3
 (xBin (some (.int .i64)) .add v0 v1 fun x4 =>
 xMin (.int .i64 (.ofNat 1024)) x4 fun x5 =>
 xMax x2 x5 fun x6 =>
 k (.tup [x2, x6]) h1)
 (xBin (some (.int .i64)) .sub (.int .i64 (.ofNat 1024)) v0 fun x7 =>
 xBin (some (.int .i64)) .lss v1 x7 fun x8 =>
 xIte x8
 (xBin (some (.int .i64)) .add v0 v1 fun x9 =>
 xMax x2 x9 fun x10 =>
 k (.tup [x2, x10]) h1)
 (xMax x2 (.int .i64 (.ofNat 1024)) fun x11 =>
 k (.tup [x2, x11]) h1))
noncomputable abbrev c149_2 (v0 : CV) (K11 : TupC 1 → CH → Bool) (h : CH) (v1 : CV) : Bool :=
 xBin (some (.int .i64)) .geq v0 (.int .i64 (.ofNat 1024)) fun x14 =>
 xIte x14
 (K11 ((.bool true), ()) h)
 (xBin (some (.int .i64)) .lss v0 (.int .i64 (.ofNat 0)) fun x15 =>
 xIte x15
 (xBin (some (.int .i64)) .add v0 (.int .i64 (.ofNat 1)) fun x16 =>
 xUn .neg x16 fun x17 =>
 xBin (some (.int .i64)) .leq v1 x17 fun x18 =>
 K11 (x18, ()) h)
 (K11 ((.bool false), ()) h))
noncomputable def bd149 (v0 v1 : CV) (h : CH) (k : CV → CH → Bool) : Bool :=
 xJoin (n := 1) (fun s0 h1 =>
 xIte s0.1
 (k (.tup [(.int .i64 (.ofNat 0)), (.int .i64 (.ofNat 0))]) h1)
 (xMax v0 (.int .i64 (.ofNat 0)) fun x2 =>
 xBin (some (.int .i64)) .lss v0 (.int .i64 (.ofNat 0)) fun x3 =>
 c149_1 x3 v0 v1 x2 k h1))
 (fun K11 => xBin (some (.int .i64)) .lss v1 (.int .i64 (.ofNat 1)) fun x13 =>
 xIte x13
 (K11 ((.bool true), ()) h)
 (c149_2 v0 K11 h v1))
noncomputable abbrev ex149 : Ex := fun args h k => a2 args fun v0 v1 => bd149 v0 v1 h k
theorem sim149 : SimF Tryz.prog 149 ex149 := fun args h k hk => by
 obtain ⟨v0, v1, rfl, hk⟩ := a2_ok hk
 exact sim_of (qf := qz) (Z := zs) (C := []) (T := []) ⟨zerosB_ok zsOk, exNil⟩ (.seq .nil (.seq (.join [24] [8, 9, 10, 11, 12, 13, 14, 15, 16, 17, 18, 19, 20, 21, 22, 23] .nil .nil) .nil)) Tryz.func149 _ h k (Eq.mp (by kernel_rfl : (bd149 v0 v1 h k = true) = _) hk)

noncomputable abbrev c101_1 (x9 : CV) (s6 : TupC 1) (v1 : CV) (v2 : CV) (h4 : CH) (x1 : CV) (K7 : TupC 1 → CH → Bool) (x2 : CV) (k : CV → CH → Bool) : Bool :=
 xIte x9
 (xBin (some (.int .i64)) .sub s6.1 v1 fun x10 =>
 xIdx (some (none, 1)) v2 x10 fun x11 =>
 xLoad (some none) x11 h4 fun x12 =>
 xIdx (some (some 1024, 1)) x1 s6.1 fun x13 =>
 xStore (some 1) x13 x12 h4 fun h5 =>
 xBin (some (.int .i64)) .add s6.1 (.int .i64 (.ofNat 1)) fun x14 =>
 K7 (x14, ()) h5)
 (xLoad (some (some 1024)) x1 h4 fun x15 =>
 xStore (some 1024) x2 x15 h4 fun h6 =>
 xLoad (some (some 1024)) x2 h6 fun x16 =>
 k x16 h6)
noncomputable def bd101 (v0 v1 v2 : CV) (h : CH) (k : CV → CH → Bool) : Bool :=
 xBox 70 v0 h fun x1 h1 =>
 xBoxP 70 [(.bytes 1024 0)] h1 fun x2 h2 =>
 xLen (some (.inl false)) v2 fun x3 =>
 bd149 v1 x3 h2 fun x4 h3 =>
 xExtract x4 0 fun x5 =>
 xExtract x4 1 fun x6 =>
 xLoop (n := 1) (fun K7 s6 h4 =>
 xBin (some (.int .i64)) .lss s6.1 x6 fun x9 =>
 c101_1 x9 s6 v1 v2 h4 x1 K7 x2 k) 1000000 (x5, ()) h3
noncomputable abbrev ex101 : Ex := fun args h k => a3 args fun v0 v1 v2 => bd101 v0 v1 v2 h k
theorem sim101 : SimF Tryz.prog 101 ex101 := fun args h k hk => by
 obtain ⟨v0, v1, v2, rfl, hk⟩ := a3_ok hk
 exact sim_of (qf := qz) (Z := zs) (C := [(149, ex149)]) (T := []) ⟨zerosB_ok zsOk, (exCons (by kernel_rfl) sim149 exNil)⟩ (.seq .nil (.seq .nil (.seq (.seq .nil (.loop [9] [18, 19, 20, 23, 24, 25, 26, 27, 28, 29, 30, 21, 22] .nil)) .nil))) Tryz.func101 _ h k (Eq.mp (by kernel_rfl : (bd101 v0 v1 v2 h k = true) = _) hk)

noncomputable abbrev c102_1 (x5 : CV) (v1 : CV) (x1 : CV) (h2 : CH) (k : CV → CH → Bool) : Bool :=
 xConv (some (.int .u8)) (some (.int .u16)) x5 fun x6 =>
 xBin (some (.int .i64)) .add v1 (.int .i64 (.ofNat 1)) fun x7 =>
 xIdx (some (some 1024, 1)) x1 x7 fun x8 =>
 xLoad (some none) x8 h2 fun x9 =>
 xConv (some (.int .u8)) (some (.int .u16)) x9 fun x10 =>
 xBin (some (.int .u16)) .shl x10 (.int .u64 (.ofNat 8)) fun x11 =>
 xBin (some (.int .u16)) .or x6 x11 fun x12 =>
 k x12 h2
noncomputable def bd102 (v0 v1 : CV) (h : CH) (k : CV → CH → Bool) : Bool :=
 xBox 70 v0 h fun x1 h1 =>
 bd150 v1 (.int .i64 (.ofNat 2)) h1 fun x2 h2 =>
 xUn .not x2 fun x3 =>
 xIte x3
 (k (.int .u16 (.ofNat 0)) h2)
 (xIdx (some (some 1024, 1)) x1 v1 fun x4 =>
 xLoad (some none) x4 h2 fun x5 =>
 c102_1 x5 v1 x1 h2 k)
noncomputable abbrev ex102 : Ex := fun args h k => a2 args fun v0 v1 => bd102 v0 v1 h k
theorem sim102 : SimF Tryz.prog 102 ex102 := fun args h k hk => by
 obtain ⟨v0, v1, rfl, hk⟩ := a2_ok hk
 exact sim_of (qf := qz) (Z := zs) (C := [(150, ex150)]) (T := []) ⟨zerosB_ok zsOk, (exCons (by kernel_rfl) sim150 exNil)⟩ .nil Tryz.func102 _ h k (Eq.mp (by kernel_rfl : (bd102 v0 v1 h k = true) = _) hk)
end Go.Proofs
