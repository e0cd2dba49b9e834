/- Functions, run; each tied to the program. -/
import Derived.Test.YtacfcgoighnioaaGreatXcQ
import Derived.Test.YtacfcgoighnioaaGreatProg
set_option linter.unusedVariables false
set_option linter.unusedSimpArgs false
namespace Go.Proofs
open Go.Vc Go.Xc
noncomputable instance : Sites := sitesOf Tryz.prog
def zs : List (Nat × CV) := [(3, (.int .i64 (.ofNat 0))),
  (4, (.bool false)),
  (26, (.agg [(.int .i64 (.ofNat 0)), (.int .i64 (.ofNat 0)), (.int .i64 (.ofNat 0))])),
  (29, (.agg [.nils, (.int .i64 (.ofNat 0)), (.int .i64 (.ofNat 0))])),
  (31, (.agg [(.int .i64 (.ofNat 0)), (.int .i64 (.ofNat 0)), (.int .i64 (.ofNat 0)), .nils, (.int .i64 (.ofNat 0)), (.int .i64 (.ofNat 0)), (.int .i64 (.ofNat 0))])),
  (34, (.int .i64 (.ofNat 0))),
  (40, (.agg [.nilp, .nilp, .nilp, .nilp])),
  (49, (.agg [(.int .i64 (.ofNat 0)), (.int .i64 (.ofNat 0))])),
  (55, (.agg [.nils, .nilm])),
  (58, (.agg [(.int .i64 (.ofNat 0)), (.int .i64 (.ofNat 0)), (.int .i64 (.ofNat 0)), (.int .i64 (.ofNat 0)), (.int .i64 (.ofNat 0)), (.int .i64 (.ofNat 0)), (.int .i64 (.ofNat 0)), (.int .i64 (.ofNat 0)), (.int .i64 (.ofNat 0))])),
  (60, (.agg [.nils, .nilm, .nilp, .nilp, (.int .i64 (.ofNat 0)), (.int .i64 (.ofNat 0)), (.int .i64 (.ofNat 0)), (.int .i64 (.ofNat 0)), (.int .i64 (.ofNat 0)), (.int .i64 (.ofNat 0)), (.int .i64 (.ofNat 0)), (.int .i64 (.ofNat 0)), (.int .i64 (.ofNat 0)), (.int .i64 (.ofNat 0)), (.bool false), (.int .i64 (.ofNat 0)), .nilm, (.int .i64 (.ofNat 0)), (.int .i64 (.ofNat 0))])),
  (66, (.agg [(.int .i64 (.ofNat 0)), .nils])),
  (82, (.agg [(.int .i64 (.ofNat 0)), (.int .u16 (.ofNat 0)), (.int .i64 (.ofNat 0)), (.int .i64 (.ofNat 0)), (.int .i64 (.ofNat 0)), .nils, .nils])),
  (84, (.agg [(.int .u16 (.ofNat 0)), (.str ⟨#[]⟩)])),
  (99, (.agg [(.int .u16 (.ofNat 0)), (.int .u16 (.ofNat 0)), (.int .u32 (.ofNat 0)), (.int .u32 (.ofNat 0)), (.int .u32 (.ofNat 0)), (.int .u32 (.ofNat 0)), (.int .u32 (.ofNat 0)), (.int .u32 (.ofNat 0)), (.int .u32 (.ofNat 0)), (.int .u32 (.ofNat 0)), (.int .u32 (.ofNat 0)), (.int .u32 (.ofNat 0)), (.int .u32 (.ofNat 0)), (.int .u32 (.ofNat 0)), (.int .u32 (.ofNat 0)), (.int .u32 (.ofNat 0))])),
  (101, (.agg [.nilp, (.int .i64 (.ofNat 0)), (.int .u16 (.ofNat 0)), (.int .u16 (.ofNat 0)), (.int .u32 (.ofNat 0)), (.int .u32 (.ofNat 0)), (.int .u32 (.ofNat 0)), (.int .u32 (.ofNat 0)), (.int .u32 (.ofNat 0)), (.int .u32 (.ofNat 0)), (.int .u32 (.ofNat 0)), (.int .u32 (.ofNat 0)), (.int .u32 (.ofNat 0)), (.int .u32 (.ofNat 0)), (.int .u32 (.ofNat 0)), (.int .u32 (.ofNat 0)), (.int .u32 (.ofNat 0)), (.int .u32 (.ofNat 0))])),
  (103, .nils),
  (107, (.agg [(.int .i64 (.ofNat 0)), (.int .i64 (.ofNat 0))])),
  (110, (.agg [.nilp, (.int .i64 (.ofNat 0)), (.int .i64 (.ofNat 0)), (.int .i64 (.ofNat 0))])),
  (120, (.agg [(.int .i64 (.ofNat 0)), (.int .i64 (.ofNat 0)), (.int .i64 (.ofNat 0)), (.int .i64 (.ofNat 0)), (.int .i64 (.ofNat 0)), (.int .i64 (.ofNat 0)), (.int .i64 (.ofNat 0)), (.int .i64 (.ofNat 0)), (.int .i64 (.ofNat 0)), .nils, .nils, (.int .i64 (.ofNat 0)), (.int .i64 (.ofNat 0)), (.bool false)])),
  (124, (.agg [(.bytes 1024 0)])),
  (132, (.agg [(.int .i64 (.ofNat 0)), (.bytes 1024 0)])),
  (136, (.agg [(.int .i64 (.ofNat 0)), .nilm, .nilm, .nils, .nils, (.int .i64 (.ofNat 0)), (.bool false), (.int .i64 (.ofNat 0)), (.int .i64 (.ofNat 0)), (.int .i64 (.ofNat 0)), (.int .i64 (.ofNat 0))])),
  (138, (.agg [.nils])),
  (147, (.agg [(.int .i64 (.ofNat 0)), .nils, .nils, (.bool false), (.int .i64 (.ofNat 0)), (.bool false), .nils, (.int .i64 (.ofNat 0)), (.int .i64 (.ofNat 0)), (.int .i64 (.ofNat 0)), (.int .i64 (.ofNat 0))])),
  (151, (.agg [.nilp, (.int .i64 (.ofNat 0)), (.int .i64 (.ofNat 0)), (.int .i64 (.ofNat 0)), (.int .i64 (.ofNat 0)), (.int .i64 (.ofNat 0)), (.int .i64 (.ofNat 0)), (.int .i64 (.ofNat 0)), (.int .i64 (.ofNat 0)), (.int .i64 (.ofNat 0)), (.int .i64 (.ofNat 0)), (.bool false), .nils, (.bool false), (.int .i64 (.ofNat 0)), .nils, (.int .i64 (.ofNat 0)), (.int .i64 (.ofNat 0))])),
  (163, (.agg [(.bytes 1 0), (.int .i64 (.ofNat 0)), (.int .i64 (.ofNat 0))])),
  (172, (.agg [(.bytes 64 0)])),
  (173, (.agg [(.bytes 64 0)])),
  (187, (.agg [(.int .i64 (.ofNat 0)), .nils, (.int .i64 (.ofNat 0)), (.int .i64 (.ofNat 0)), (.int .i64 (.ofNat 0)), (.int .i64 (.ofNat 0)), (.int .i64 (.ofNat 0)), (.int .i64 (.ofNat 0)), (.int .i64 (.ofNat 0)), (.int .i64 (.ofNat 0)), (.int .i64 (.ofNat 0)), .nils])),
  (191, (.agg [(.int .i64 (.ofNat 0)), (.int .u16 (.ofNat 0)), (.int .u16 (.ofNat 0)), (.int .u32 (.ofNat 0)), (.int .u32 (.ofNat 0)), (.int .u32 (.ofNat 0)), (.int .u32 (.ofNat 0)), (.int .u32 (.ofNat 0)), (.int .u32 (.ofNat 0)), (.int .u32 (.ofNat 0)), (.int .u32 (.ofNat 0)), (.int .u32 (.ofNat 0)), (.int .u32 (.ofNat 0)), (.int .u32 (.ofNat 0)), (.int .u32 (.ofNat 0)), (.int .u32 (.ofNat 0)), (.int .u32 (.ofNat 0)), .nils])),
  (197, (.agg [(.int .i64 (.ofNat 0)), (.int .i64 (.ofNat 0)), (.int .i64 (.ofNat 0)), (.int .i64 (.ofNat 0)), (.int .i64 (.ofNat 0)), (.int .i64 (.ofNat 0)), (.int .i64 (.ofNat 0)), (.int .i64 (.ofNat 0)), (.int .i64 (.ofNat 0))])),
  (203, .nilp),
  (205, (.agg [(.int .i64 (.ofNat 0)), (.bytes 1024 0), (.bool false), .nilp, .nilp])),
  (207, (.agg [.nilp, (.int .i64 (.ofNat 0)), (.int .i64 (.ofNat 0)), (.int .i64 (.ofNat 0)), (.bytes 1024 0), (.bool false), .nilp, .nilp, .nilm])),
  (213, (.agg [(.bytes 1 0), (.int .i64 (.ofNat 0)), (.bytes 1024 0)])),
  (223, (.agg [])),
  (229, (.int .u8 (.ofNat 0))),
  (243, (.agg [(.int .i64 (.ofNat 0)), (.int .i64 (.ofNat 0))])),
  (247, (.agg [(.bytes 16 0)])),
  (252, (.agg [(.int .u32 (.ofNat 0)), (.int .u32 (.ofNat 0)), (.int .u32 (.ofNat 0)), (.int .u32 (.ofNat 0)), (.int .u32 (.ofNat 0)), (.int .u32 (.ofNat 0)), (.int .u32 (.ofNat 0)), (.int .u32 (.ofNat 0)), (.int .u32 (.ofNat 0)), (.int .u32 (.ofNat 0)), (.int .u32 (.ofNat 0)), (.int .u32 (.ofNat 0))])),
  (263, (.agg [(.bytes 1 0), (.int .i64 (.ofNat 0))])),
  (264, (.agg [(.int .i64 (.ofNat 0)), (.int .i64 (.ofNat 0)), (.int .i64 (.ofNat 0))])),
  (267, (.agg [(.bytes 1 0), .nils])),
  (274, (.agg [(.int .i64 (.ofNat 0)), (.int .i64 (.ofNat 0))]))]
set_option maxRecDepth 100000 in
theorem zsOk : zerosB Tryz.prog zs = true := by kernel_rfl

/- undercroft/undercroftref03.Of -/
noncomputable abbrev c20_1 (x2 : CV) (h3 : CH) (k : CV → CH → Bool) : Bool :=
 xBuild (some (.inl [(0, 3), (3, 1), (4, 1), (5, 1), (6, 1), (7, 1), (8, 1)])) (some (.agg [(.int .i64 (.ofNat 0)), (.int .i64 (.ofNat 0)), (.int .i64 (.ofNat 0)), (.int .i64 (.ofNat 0)), (.int .i64 (.ofNat 0)), (.int .i64 (.ofNat 0)), (.int .i64 (.ofNat 0)), (.int .i64 (.ofNat 0)), (.int .i64 (.ofNat 0))])) [] fun x4 =>
 xStore (some 9) x2 x4 h3 fun h4 =>
 xLoad (some (some 9)) x2 h4 fun x5 =>
 k (.tup [x5, (.int .i64 (.ofNat 2))]) h4
noncomputable abbrev c20_2 (x2 : CV) (h12 : CH) (k : CV → CH → Bool) : Bool :=
 xBuild (some (.inl [(0, 3), (3, 1), (4, 1), (5, 1), (6, 1), (7, 1), (8, 1)])) (some (.agg [(.int .i64 (.ofNat 0)), (.int .i64 (.ofNat 0)), (.int .i64 (.ofNat 0)), (.int .i64 (.ofNat 0)), (.int .i64 (.ofNat 0)), (.int .i64 (.ofNat 0)), (.int .i64 (.ofNat 0)), (.int .i64 (.ofNat 0)), (.int .i64 (.ofNat 0))])) [] fun x54 =>
 xStore (some 9) x2 x54 h12 fun h13 =>
 xLoad (some (some 9)) x2 h13 fun x55 =>
 k (.tup [x55, (.int .i64 (.ofNat 2))]) h13
noncomputable abbrev c20_3 (x11 : CV) (h12 : CH) (x1 : CV) (x2 : CV) (k : CV → CH → Bool) : Bool :=
 xAddr (some 8) x11 fun x49 =>
 xLoad (some none) x49 h12 fun x50 =>
 xAddr (some 0) x1 fun x51 =>
 xLoad (some none) x51 h12 fun x52 =>
 xBin (some (.int .i64)) .geq x50 x52 fun x53 =>
 xIte x53
  (c20_2 x2 h12 k)
  (xLoad (some (some 9)) x11 h12 fun x56 =>
  xStore (some 9) x2 x56 h12 fun h14 =>
  xLoad (some (some 9)) x2 h14 fun x57 =>
  k (.tup [x57, (.int .i64 (.ofNat 0))]) h14)
noncomputable abbrev c20_4 (x38 : CV) (x11 : CV) (h10 : CH) (K31 : TupC 0 → CH → Bool) (x1 : CV) (x2 : CV) (k : CV → CH → Bool) : Bool :=
 xIte x38
  (xAddr (some 7) x11 fun x39 =>
  xLoad (some none) x39 h10 fun x40 =>
  xBin (some (.int .i64)) .add x40 (.int .i64 (.ofNat 1)) fun x41 =>
  xAddr (some 7) x11 fun x42 =>
  xStore (some 1) x42 x41 h10 fun h11 =>
  K31 (()) h11)
  (xAddr (some 6) x11 fun x43 =>
  xLoad (some none) x43 h10 fun x44 =>
  xAddr (some 7) x11 fun x45 =>
  xLoad (some none) x45 h10 fun x46 =>
  xBin (some (.int .i64)) .add x44 x46 fun x47 =>
  xAddr (some 8) x11 fun x48 =>
  xStore (some 1) x48 x47 h10 fun h12 =>
  c20_3 x11 h12 x1 x2 k)
noncomputable abbrev c20_5 (x30 : CV) (x29 : CV) (h7 : CH) (x11 : CV) (x1 : CV) (x2 : CV) (k : CV → CH → Bool) : Bool :=
 xStore (some 1) x30 x29 h7 fun h9 =>
 xLoop (n := 0) (fun K31 s30 h10 =>
  xAddr (some 7) x11 fun x33 =>
  xLoad (some none) x33 h10 fun x34 =>
  xBin (some (.int .i64)) .mul (.int .i64 (.ofNat 8192)) x34 fun x35 =>
  xAddr (some 0) x1 fun x36 =>
  xLoad (some none) x36 h10 fun x37 =>
  xBin (some (.int .i64)) .lss x35 x37 fun x38 =>
  c20_4 x38 x11 h10 K31 x1 x2 k) 1000000 () h9
noncomputable abbrev c20_6 (x20 : CV) (x11 : CV) (h7 : CH) (K12 : TupC 0 → CH → Bool) (x1 : CV) (x2 : CV) (k : CV → CH → Bool) : Bool :=
 xIte x20
  (xAddr (some 5) x11 fun x21 =>
  xLoad (some none) x21 h7 fun x22 =>
  xBin (some (.int .i64)) .add x22 (.int .i64 (.ofNat 1)) fun x23 =>
  xAddr (some 5) x11 fun x24 =>
  xStore (some 1) x24 x23 h7 fun h8 =>
  K12 (()) h8)
  (xAddr (some 4) x11 fun x25 =>
  xLoad (some none) x25 h7 fun x26 =>
  xAddr (some 5) x11 fun x27 =>
  xLoad (some none) x27 h7 fun x28 =>
  xBin (some (.int .i64)) .add x26 x28 fun x29 =>
  xAddr (some 6) x11 fun x30 =>
  c20_5 x30 x29 h7 x11 x1 x2 k)
noncomputable abbrev c20_7 (x11 : CV) (x1 : CV) (x2 : CV) (k : CV → CH → Bool) (h6 : CH) : Bool :=
 xLoop (n := 0) (fun K12 s11 h7 =>
  xAddr (some 5) x11 fun x14 =>
  xLoad (some none) x14 h7 fun x15 =>
  xBin (some (.int .i64)) .mul (.int .i64 (.ofNat 16)) x15 fun x16 =>
  xAddr (some 2) x1 fun x17 =>
  xLoad (some none) x17 h7 fun x18 =>
  xBin (some (.int .i64)) .add x18 (.int .i64 (.ofNat 1)) fun x19 =>
  xBin (some (.int .i64)) .lss x16 x19 fun x20 =>
  c20_6 x20 x11 h7 K12 x1 x2 k) 1000000 () h6
noncomputable abbrev c20_8 (x6 : CV) (x9 : CV) (h3 : CH) (x1 : CV) (x2 : CV) (k : CV → CH → Bool) : Bool :=
 xBuild (some (.inl [(0, 3), (3, 1), (4, 1), (5, 1), (6, 1), (7, 1), (8, 1)])) (some (.agg [(.int .i64 (.ofNat 0)), (.int .i64 (.ofNat 0)), (.int .i64 (.ofNat 0)), (.int .i64 (.ofNat 0)), (.int .i64 (.ofNat 0)), (.int .i64 (.ofNat 0)), (.int .i64 (.ofNat 0)), (.int .i64 (.ofNat 0)), (.int .i64 (.ofNat 0))])) [(0, x6), (1, (.int .i64 (.ofNat 1))), (2, x9)] fun x10 =>
 xBoxP 58 [(.int .i64 (.ofNat 0)), (.int .i64 (.ofNat 0)), (.int .i64 (.ofNat 0)), (.int .i64 (.ofNat 0)), (.int .i64 (.ofNat 0)), (.int .i64 (.ofNat 0)), (.int .i64 (.ofNat 0)), (.int .i64 (.ofNat 0)), (.int .i64 (.ofNat 0))] h3 fun x11 h5 =>
 xStore (some 9) x11 x10 h5 fun h6 =>
 c20_7 x11 x1 x2 k h6
noncomputable abbrev c20_9 (x70 : CV) (K57 : TupC 1 → CH → Bool) (h2 : CH) (x1 : CV) : Bool :=
 xIte x70
  (K57 ((.bool true), ()) h2)
  (xAddr (some 0) x1 fun x71 =>
  xLoad (some none) x71 h2 fun x72 =>
  xBin (some (.int .i64)) .gtr x72 (.int .i64 (.ofNat 1048576)) fun x73 =>
  xIte x73
   (K57 ((.bool true), ()) h2)
   (xAddr (some 0) x1 fun x74 =>
   xLoad (some none) x74 h2 fun x75 =>
   xBin (some (.int .i64)) .lss x75 (.int .i64 (.ofNat 1)) fun x76 =>
   K57 (x76, ()) h2))
noncomputable abbrev c20_10 (x64 : CV) (K57 : TupC 1 → CH → Bool) (h2 : CH) (x1 : CV) : Bool :=
 xIte x64
  (K57 ((.bool true), ()) h2)
  (xAddr (some 2) x1 fun x65 =>
  xLoad (some none) x65 h2 fun x66 =>
  xBin (some (.int .i64)) .lss x66 (.int .i64 (.ofNat 1)) fun x67 =>
  xIte x67
   (K57 ((.bool true), ()) h2)
   (xAddr (some 2) x1 fun x68 =>
   xLoad (some none) x68 h2 fun x69 =>
   xBin (some (.int .i64)) .gtr x69 (.int .i64 (.ofNat 65535)) fun x70 =>
   c20_9 x70 K57 h2 x1))
noncomputable abbrev c20_11 (x2 : CV) (k : CV → CH → Bool) (x1 : CV) (h2 : CH) : Bool :=
 xJoin (n := 1) (fun s2 h3 =>
  xIte s2.1
   (c20_1 x2 h3 k)
   (xLoad (some (some 3)) x1 h3 fun x6 =>
   xAddr (some 1) x1 fun x7 =>
   xLoad (some none) x7 h3 fun x8 =>
   xBin (some (.int .i64)) .add (.int .i64 (.ofNat 1)) x8 fun x9 =>
   c20_8 x6 x9 h3 x1 x2 k))
 (fun K57 => xAddr (some 1) x1 fun x59 =>
 xLoad (some none) x59 h2 fun x60 =>
 xBin (some (.int .i64)) .lss x60 (.int .i64 (.ofNat 32)) fun x61 =>
 xIte x61
  (K57 ((.bool true), ()) h2)
  (xAddr (some 1) x1 fun x62 =>
  xLoad (some none) x62 h2 fun x63 =>
  xBin (some (.int .i64)) .gtr x63 (.int .i64 (.ofNat 256)) fun x64 =>
  c20_10 x64 K57 h2 x1))
noncomputable def bd20 (v0 : CV) (h : CH) (k : CV → CH → Bool) : Bool :=
 xBox 26 v0 h fun x1 h1 =>
 xBoxP 58 [(.int .i64 (.ofNat 0)), (.int .i64 (.ofNat 0)), (.int .i64 (.ofNat 0)), (.int .i64 (.ofNat 0)), (.int .i64 (.ofNat 0)), (.int .i64 (.ofNat 0)), (.int .i64 (.ofNat 0)), (.int .i64 (.ofNat 0)), (.int .i64 (.ofNat 0))] h1 fun x2 h2 =>
 c20_11 x2 k x1 h2
noncomputable abbrev ex20 : Ex := fun args h k => a1 args fun v0 => bd20 v0 h k
set_option maxRecDepth 100000 in
theorem sim20 : SimF Tryz.prog 20 ex20 := fun args h k hk => by
  obtain ⟨v0, rfl, hk⟩ := a1_ok hk
  exact sim_of (qf := (fun f => [46, 47, 62, 75, 82, 97, 104, 114, 121, 127, 128, 141, 151, 156, 157, 183].contains f)) (Z := zs) (C := []) (T := []) ⟨zerosB_ok zsOk, exNil⟩ (.seq .nil (.seq (.join [32] [5, 6, 7, 8, 9, 10, 11, 12, 13, 14, 15, 16, 17, 18, 19, 20, 21, 22, 23, 24, 25, 26, 27, 28, 29, 30, 31] .nil .nil) (.seq .nil (.seq (.loop [] [39, 40, 41, 42, 43, 44, 45, 46, 47, 48, 49] .nil) (.seq .nil (.seq (.loop [] [56, 57, 58, 59, 60, 61, 62, 63, 64, 65] .nil) .nil)))))) Tryz.func20 _ h k (Eq.mp (by kernel_rfl : (bd20 v0 h k = true) = (xFn Tryz.prog (fun f => [46, 47, 62, 75, 82, 97, 104, 114, 121, 127, 128, 141, 151, 156, 157, 183].contains f) zs [] [] Tryz.f20 (.seq .nil (.seq (.join [32] [5, 6, 7, 8, 9, 10, 11, 12, 13, 14, 15, 16, 17, 18, 19, 20, 21, 22, 23, 24, 25, 26, 27, 28, 29, 30, 31] .nil .nil) (.seq .nil (.seq (.loop [] [39, 40, 41, 42, 43, 44, 45, 46, 47, 48, 49] .nil) (.seq .nil (.seq (.loop [] [56, 57, 58, 59, 60, 61, 62, 63, 64, 65] .nil) .nil)))))) [v0] h k = true)) hk)

/- undercroft/undercroftkit.Fresh -/
noncomputable abbrev c57_1 (x15 : CV) (x21 : CV) (x24 : CV) (x13 : CV) (x2 : CV) (h9 : CH) (k : CV → CH → Bool) : Bool :=
 xBuild (some (.inl [(0, 1), (1, 1), (2, 1)])) (some (.agg [.nils, (.int .i64 (.ofNat 0)), (.int .i64 (.ofNat 0))])) [(0, x15), (1, x21), (2, x24)] fun x25 =>
 xBuild (some (.inl [(0, 3), (3, 3), (6, 1)])) (some (.agg [(.int .i64 (.ofNat 0)), (.int .i64 (.ofNat 0)), (.int .i64 (.ofNat 0)), .nils, (.int .i64 (.ofNat 0)), (.int .i64 (.ofNat 0)), (.int .i64 (.ofNat 0))])) [(0, x13), (1, x25)] fun x26 =>
 xStore (some 7) x2 x26 h9 fun h10 =>
 xLoad (some (some 7)) x2 h10 fun x27 =>
 k x27 h10
noncomputable abbrev c57_2 (x16 : CV) (h9 : CH) (x7 : CV) (x1 : CV) (x15 : CV) (x13 : CV) (x2 : CV) (k : CV → CH → Bool) : Bool :=
 xLoad (some none) x16 h9 fun x17 =>
 xAddr (some 8) x7 fun x18 =>
 xLoad (some none) x18 h9 fun x19 =>
 xBin (some (.int .i64)) .sub x17 x19 fun x20 =>
 xBin (some (.int .i64)) .sub x20 (.int .i64 (.ofNat 1)) fun x21 =>
 xAddr (some 2) x1 fun x22 =>
 xLoad (some none) x22 h9 fun x23 =>
 xBin (some (.int .i64)) .sub x23 (.int .i64 (.ofNat 1)) fun x24 =>
 c57_1 x15 x21 x24 x13 x2 h9 k
noncomputable abbrev c57_3 (x12 : CV) (x11 : CV) (h7 : CH) (x1 : CV) (x7 : CV) (x2 : CV) (k : CV → CH → Bool) : Bool :=
 xStore (some 7) x12 x11 h7 fun h8 =>
 xLoad (some (some 3)) x1 h8 fun x13 =>
 xLoad (some (some 7)) x12 h8 fun x14 =>
 xNewS (some (82, 7, 88, false)) (some [(.int .i64 (.ofNat 0)), (.int .u16 (.ofNat 0)), (.int .i64 (.ofNat 0)), (.int .i64 (.ofNat 0)), (.int .i64 (.ofNat 0)), .nils, .nils]) 1 [(0, x14)] h8 fun x15 h9 =>
 xAddr (some 0) x1 fun x16 =>
 c57_2 x16 h9 x7 x1 x15 x13 x2 k
noncomputable abbrev c57_4 (x10 : CV) (h6 : CH) (x1 : CV) (x7 : CV) (x2 : CV) (k : CV → CH → Bool) : Bool :=
 xBuild (some (.inl [(0, 1), (1, 1), (2, 1), (3, 1), (4, 1), (5, 1), (6, 1)])) (some (.agg [(.int .i64 (.ofNat 0)), (.int .u16 (.ofNat 0)), (.int .i64 (.ofNat 0)), (.int .i64 (.ofNat 0)), (.int .i64 (.ofNat 0)), .nils, .nils])) [(0, (.int .i64 (.ofNat 1))), (1, (.int .u16 (.ofNat 2))), (2, (.int .i64 (.ofNat 2))), (3, (.int .i64 (.ofNat 32))), (4, (.int .i64 (.ofNat 1))), (6, x10)] fun x11 =>
 xBoxP 82 [(.int .i64 (.ofNat 0)), (.int .u16 (.ofNat 0)), (.int .i64 (.ofNat 0)), (.int .i64 (.ofNat 0)), (.int .i64 (.ofNat 0)), .nils, .nils] h6 fun x12 h7 =>
 c57_3 x12 x11 h7 x1 x7 x2 k
noncomputable abbrev c57_5 (h5 : CH) (x1 : CV) (x7 : CV) (x2 : CV) (k : CV → CH → Bool) : Bool :=
 xBuild (some (.inl [(0, 1), (1, 1)])) (some (.agg [(.int .u16 (.ofNat 0)), (.str ⟨#[]⟩)])) [(0, (.int .u16 (.ofNat 1))), (1, (.str ⟨#[46]⟩))] fun x8 =>
 xBuild (some (.inl [(0, 1), (1, 1)])) (some (.agg [(.int .u16 (.ofNat 0)), (.str ⟨#[]⟩)])) [(0, (.int .u16 (.ofNat 1))), (1, (.str ⟨#[46, 46]⟩))] fun x9 =>
 xNewS (some (84, 2, 24, false)) (some [(.int .u16 (.ofNat 0)), (.str ⟨#[]⟩)]) 2 [(0, x8), (1, x9)] h5 fun x10 h6 =>
 c57_4 x10 h6 x1 x7 x2 k
noncomputable abbrev c57_6 (x3 : CV) (h2 : CH) (x1 : CV) (x2 : CV) (k : CV → CH → Bool) : Bool :=
 bd20 x3 h2 fun x4 h3 =>
 xExtract x4 0 fun x5 =>
 xExtract x4 1 fun x6 =>
 xBoxP 58 [(.int .i64 (.ofNat 0)), (.int .i64 (.ofNat 0)), (.int .i64 (.ofNat 0)), (.int .i64 (.ofNat 0)), (.int .i64 (.ofNat 0)), (.int .i64 (.ofNat 0)), (.int .i64 (.ofNat 0)), (.int .i64 (.ofNat 0)), (.int .i64 (.ofNat 0))] h3 fun x7 h4 =>
 xStore (some 9) x7 x5 h4 fun h5 =>
 c57_5 h5 x1 x7 x2 k
noncomputable def bd57 (v0 : CV) (h : CH) (k : CV → CH → Bool) : Bool :=
 xBox 26 v0 h fun x1 h1 =>
 xBoxP 31 [(.int .i64 (.ofNat 0)), (.int .i64 (.ofNat 0)), (.int .i64 (.ofNat 0)), .nils, (.int .i64 (.ofNat 0)), (.int .i64 (.ofNat 0)), (.int .i64 (.ofNat 0))] h1 fun x2 h2 =>
 xLoad (some (some 3)) x1 h2 fun x3 =>
 c57_6 x3 h2 x1 x2 k
noncomputable abbrev ex57 : Ex := fun args h k => a1 args fun v0 => bd57 v0 h k
set_option maxRecDepth 100000 in
theorem sim57 : SimF Tryz.prog 57 ex57 := fun args h k hk => by
  obtain ⟨v0, rfl, hk⟩ := a1_ok hk
  exact sim_of (qf := (fun f => [46, 47, 62, 75, 82, 97, 104, 114, 121, 127, 128, 141, 151, 156, 157, 183].contains f)) (Z := zs) (C := [(20, ex20)]) (T := []) ⟨zerosB_ok zsOk, (exCons (by kernel_rfl) sim20 exNil)⟩ .nil Tryz.func57 _ h k (Eq.mp (by kernel_rfl : (bd57 v0 h k = true) = (xFn Tryz.prog (fun f => [46, 47, 62, 75, 82, 97, 104, 114, 121, 127, 128, 141, 151, 156, 157, 183].contains f) zs [(20, ex20)] [] Tryz.f57 .nil [v0] h k = true)) hk)

/- undercroft/undercroftkit.Example -/
noncomputable def bd25 (h : CH) (k : CV → CH → Bool) : Bool :=
 xBoxP 31 [(.int .i64 (.ofNat 0)), (.int .i64 (.ofNat 0)), (.int .i64 (.ofNat 0)), .nils, (.int .i64 (.ofNat 0)), (.int .i64 (.ofNat 0)), (.int .i64 (.ofNat 0))] h fun x1 h1 =>
 xBuild (some (.inl [(0, 1), (1, 1), (2, 1)])) (some (.agg [(.int .i64 (.ofNat 0)), (.int .i64 (.ofNat 0)), (.int .i64 (.ofNat 0))])) [(0, (.int .i64 (.ofNat 400))), (1, (.int .i64 (.ofNat 32))), (2, (.int .i64 (.ofNat 60)))] fun x2 =>
 bd57 x2 h1 fun x3 h2 =>
 xStore (some 7) x1 x3 h2 fun h3 =>
 xLoad (some (some 7)) x1 h3 fun x4 =>
 k x4 h3
noncomputable abbrev ex25 : Ex := fun args h k => a0 args (bd25  h k)
set_option maxRecDepth 100000 in
theorem sim25 : SimF Tryz.prog 25 ex25 := fun args h k hk => by
  obtain ⟨rfl, hk⟩ := a0_ok hk
  exact sim_of (qf := (fun f => [46, 47, 62, 75, 82, 97, 104, 114, 121, 127, 128, 141, 151, 156, 157, 183].contains f)) (Z := zs) (C := [(57, ex57)]) (T := []) ⟨zerosB_ok zsOk, (exCons (by kernel_rfl) sim57 exNil)⟩ .nil Tryz.func25 _ h k (Eq.mp (by kernel_rfl : (bd25  h k = true) = (xFn Tryz.prog (fun f => [46, 47, 62, 75, 82, 97, 104, 114, 121, 127, 128, 141, 151, 156, 157, 183].contains f) zs [(57, ex57)] [] Tryz.f25 .nil [] h k = true)) hk)

/- undercroft/undercroftkit.Pick -/
noncomputable def bd42 (v0 v1 : CV) (h : CH) (k : CV → CH → Bool) : Bool :=
 xBin (some (.int .i64)) .rem v0 v1 fun x1 =>
 xBin (some (.int .i64)) .lss x1 (.int .i64 (.ofNat 0)) fun x2 =>
 xIte x2
  (xBin (some (.int .i64)) .add x1 v1 fun x3 =>
  k x3 h)
  (k x1 h)
noncomputable abbrev ex42 : Ex := fun args h k => a2 args fun v0 v1 => bd42 v0 v1 h k
set_option maxRecDepth 100000 in
theorem sim42 : SimF Tryz.prog 42 ex42 := fun args h k hk => by
  obtain ⟨v0, v1, rfl, hk⟩ := a2_ok hk
  exact sim_of (qf := (fun f => [46, 47, 62, 75, 82, 97, 104, 114, 121, 127, 128, 141, 151, 156, 157, 183].contains f)) (Z := zs) (C := []) (T := []) ⟨zerosB_ok zsOk, exNil⟩ .nil Tryz.func42 _ h k (Eq.mp (by kernel_rfl : (bd42 v0 v1 h k = true) = (xFn Tryz.prog (fun f => [46, 47, 62, 75, 82, 97, 104, 114, 121, 127, 128, 141, 151, 156, 157, 183].contains f) zs [] [] Tryz.f42 .nil [v0, v1] h k = true)) hk)

/- undercroft/undercroftkit.divisor -/
noncomputable def bd43 (v0 v1 : CV) (h : CH) (k : CV → CH → Bool) : Bool :=
 xLoop (n := 2) (fun K1 s0 h1 =>
  xBin (some (.int .i64)) .gtr s0.2.1 (.int .i64 (.ofNat 0)) fun x3 =>
  xIte x3
   (xBin (some (.int .i64)) .rem s0.1 s0.2.1 fun x4 =>
   K1 (s0.2.1, x4, ()) h1)
   (k s0.1 h1)) 1000000 (v0, v1, ()) h
noncomputable abbrev ex43 : Ex := fun args h k => a2 args fun v0 v1 => bd43 v0 v1 h k
set_option maxRecDepth 100000 in
theorem sim43 : SimF Tryz.prog 43 ex43 := fun args h k hk => by
  obtain ⟨v0, v1, rfl, hk⟩ := a2_ok hk
  exact sim_of (qf := (fun f => [46, 47, 62, 75, 82, 97, 104, 114, 121, 127, 128, 141, 151, 156, 157, 183].contains f)) (Z := zs) (C := []) (T := []) ⟨zerosB_ok zsOk, exNil⟩ (.seq .nil (.seq (.loop [0, 1] [5, 6, 7, 8, 9, 10] .nil) .nil)) Tryz.func43 _ h k (Eq.mp (by kernel_rfl : (bd43 v0 v1 h k = true) = (xFn Tryz.prog (fun f => [46, 47, 62, 75, 82, 97, 104, 114, 121, 127, 128, 141, 151, 156, 157, 183].contains f) zs [] [] Tryz.f43 (.seq .nil (.seq (.loop [0, 1] [5, 6, 7, 8, 9, 10] .nil) .nil)) [v0, v1] h k = true)) hk)

/- undercroft/undercroftref18.Name -/
noncomputable abbrev c177_1 (k : CV → CH → Bool) (s1 : TupC 1) (K2 : TupC 1 → CH → Bool) (v0 : CV) (h1 : CH) : Bool :=
 xJoin (n := 1) (fun s5 h2 =>
  xIte s5.1
   (k (.int .i64 (.ofNat 4)) h2)
   (xBin (some (.int .i64)) .add s1.1 (.int .i64 (.ofNat 1)) fun x7 =>
   K2 (x7, ()) h2))
 (fun K7 => xIndex (some none) v0 s1.1 fun x9 =>
 xBin (some (.int .u8)) .eql x9 (.int .u8 (.ofNat 0)) fun x10 =>
 xIte x10
  (K7 ((.bool true), ()) h1)
  (xIndex (some none) v0 s1.1 fun x11 =>
  xBin (some (.int .u8)) .eql x11 (.int .u8 (.ofNat 47)) fun x12 =>
  K7 (x12, ()) h1))
noncomputable abbrev c177_2 (v0 : CV) (k : CV → CH → Bool) (h : CH) : Bool :=
 xLoop (n := 1) (fun K2 s1 h1 =>
  xLen (some (.inl true)) v0 fun x4 =>
  xBin (some (.int .i64)) .lss s1.1 x4 fun x5 =>
  xIte x5
   (c177_1 k s1 K2 v0 h1)
   (xLen (some (.inl true)) v0 fun x13 =>
   xBin (some (.int .i64)) .gtr x13 (.int .i64 (.ofNat 14)) fun x14 =>
   xIte x14
    (k (.int .i64 (.ofNat 12)) h1)
    (k (.int .i64 (.ofNat 0)) h1))) 1000000 ((.int .i64 (.ofNat 0)), ()) h
noncomputable def bd177 (v0 : CV) (h : CH) (k : CV → CH → Bool) : Bool :=
 xBin (some .string) .eql v0 (.str ⟨#[]⟩) fun x1 =>
 xIte x1
  (k (.int .i64 (.ofNat 4)) h)
  (c177_2 v0 k h)
noncomputable abbrev ex177 : Ex := fun args h k => a1 args fun v0 => bd177 v0 h k
set_option maxRecDepth 100000 in
theorem sim177 : SimF Tryz.prog 177 ex177 := fun args h k hk => by
  obtain ⟨v0, rfl, hk⟩ := a1_ok hk
  exact sim_of (qf := (fun f => [46, 47, 62, 75, 82, 97, 104, 114, 121, 127, 128, 141, 151, 156, 157, 183].contains f)) (Z := zs) (C := []) (T := []) ⟨zerosB_ok zsOk, exNil⟩ (.seq .nil (.seq .nil (.seq (.seq .nil (.loop [3] [6, 7, 8, 9, 12, 13, 14, 15, 16, 17, 18, 19, 20, 21, 2, 10, 11] (.seq .nil (.seq (.join [21] [12, 13, 14, 15, 16, 17, 18, 19, 20] .nil .nil) .nil)))) .nil))) Tryz.func177 _ h k (Eq.mp (by kernel_rfl : (bd177 v0 h k = true) = (xFn Tryz.prog (fun f => [46, 47, 62, 75, 82, 97, 104, 114, 121, 127, 128, 141, 151, 156, 157, 183].contains f) zs [] [] Tryz.f177 (.seq .nil (.seq .nil (.seq (.seq .nil (.loop [3] [6, 7, 8, 9, 12, 13, 14, 15, 16, 17, 18, 19, 20, 21, 2, 10, 11] (.seq .nil (.seq (.join [21] [12, 13, 14, 15, 16, 17, 18, 19, 20] .nil .nil) .nil)))) .nil))) [v0] h k = true)) hk)

/- undercroft/undercroftref18.Encode -/
noncomputable abbrev c144_1 (x8 : CV) (x3 : CV) (h3 : CH) (x2 : CV) (k : CV → CH → Bool) : Bool :=
 xBin (some .string) .neq x8 (.str ⟨#[]⟩) fun x9 =>
 xIte x9
  (xLoad (some (some 16)) x3 h3 fun x10 =>
  xStore (some 16) x2 x10 h3 fun h4 =>
  xLoad (some (some 16)) x2 h4 fun x11 =>
  k (.tup [x11, (.int .i64 (.ofNat 4))]) h4)
  (xLoad (some (some 16)) x3 h3 fun x12 =>
  xStore (some 16) x2 x12 h3 fun h5 =>
  xLoad (some (some 16)) x2 h5 fun x13 =>
  k (.tup [x13, (.int .i64 (.ofNat 0))]) h5)
noncomputable abbrev c144_2 (x35 : CV) (s29 : TupC 1) (x1 : CV) (h10 : CH) (x3 : CV) (K30 : TupC 1 → CH → Bool) (x2 : CV) (k : CV → CH → Bool) : Bool :=
 xIte x35
  (xBin (some (.int .i64)) .add (.int .i64 (.ofNat 2)) s29.1 fun x36 =>
  xAddr (some 1) x1 fun x37 =>
  xLoad (some none) x37 h10 fun x38 =>
  xIndex (some none) x38 s29.1 fun x39 =>
  xIdx (some (some 16, 1)) x3 x36 fun x40 =>
  xStore (some 1) x40 x39 h10 fun h11 =>
  xBin (some (.int .i64)) .add s29.1 (.int .i64 (.ofNat 1)) fun x41 =>
  K30 (x41, ()) h11)
  (xLoad (some (some 16)) x3 h10 fun x42 =>
  xStore (some 16) x2 x42 h10 fun h12 =>
  xLoad (some (some 16)) x2 h12 fun x43 =>
  k (.tup [x43, (.int .i64 (.ofNat 0))]) h12)
noncomputable abbrev c144_3 (x3 : CV) (x28 : CV) (h8 : CH) (x1 : CV) (x2 : CV) (k : CV → CH → Bool) : Bool :=
 xIdx (some (some 16, 1)) x3 (.int .i64 (.ofNat 1)) fun x29 =>
 xStore (some 1) x29 x28 h8 fun h9 =>
 xLoop (n := 1) (fun K30 s29 h10 =>
  xAddr (some 1) x1 fun x32 =>
  xLoad (some none) x32 h10 fun x33 =>
  xLen (some (.inl true)) x33 fun x34 =>
  xBin (some (.int .i64)) .lss s29.1 x34 fun x35 =>
  c144_2 x35 s29 x1 h10 x3 K30 x2 k) 1000000 ((.int .i64 (.ofNat 0)), ()) h9
noncomputable abbrev c144_4 (x22 : CV) (x3 : CV) (h6 : CH) (x1 : CV) (x2 : CV) (k : CV → CH → Bool) : Bool :=
 xConv (some (.int .u16)) (some (.int .u8)) x22 fun x23 =>
 xIdx (some (some 16, 1)) x3 (.int .i64 (.ofNat 0)) fun x24 =>
 xStore (some 1) x24 x23 h6 fun h8 =>
 xAddr (some 0) x1 fun x25 =>
 xLoad (some none) x25 h8 fun x26 =>
 xBin (some (.int .u16)) .quo x26 (.int .u16 (.ofNat 256)) fun x27 =>
 xConv (some (.int .u16)) (some (.int .u8)) x27 fun x28 =>
 c144_3 x3 x28 h8 x1 x2 k
noncomputable abbrev c144_5 (x16 : CV) (x3 : CV) (h6 : CH) (x2 : CV) (k : CV → CH → Bool) (x1 : CV) : Bool :=
 xBin (some (.int .i64)) .neq x16 (.int .i64 (.ofNat 0)) fun x17 =>
 xIte x17
  (xLoad (some (some 16)) x3 h6 fun x18 =>
  xStore (some 16) x2 x18 h6 fun h7 =>
  xLoad (some (some 16)) x2 h7 fun x19 =>
  k (.tup [x19, x16]) h7)
  (xAddr (some 0) x1 fun x20 =>
  xLoad (some none) x20 h6 fun x21 =>
  xBin (some (.int .u16)) .rem x21 (.int .u16 (.ofNat 256)) fun x22 =>
  c144_4 x22 x3 h6 x1 x2 k)
noncomputable abbrev c144_6 (h2 : CH) (x1 : CV) (x2 : CV) (k : CV → CH → Bool) : Bool :=
 xBoxP 247 [(.bytes 16 0)] h2 fun x3 h3 =>
 xAddr (some 0) x1 fun x4 =>
 xLoad (some none) x4 h3 fun x5 =>
 xBin (some (.int .u16)) .eql x5 (.int .u16 (.ofNat 0)) fun x6 =>
 xIte x6
  (xAddr (some 1) x1 fun x7 =>
  xLoad (some none) x7 h3 fun x8 =>
  c144_1 x8 x3 h3 x2 k)
  (xAddr (some 1) x1 fun x14 =>
  xLoad (some none) x14 h3 fun x15 =>
  bd177 x15 h3 fun x16 h6 =>
  c144_5 x16 x3 h6 x2 k x1)
noncomputable def bd144 (v0 : CV) (h : CH) (k : CV → CH → Bool) : Bool :=
 xBox 84 v0 h fun x1 h1 =>
 xBoxP 247 [(.bytes 16 0)] h1 fun x2 h2 =>
 c144_6 h2 x1 x2 k
noncomputable abbrev ex144 : Ex := fun args h k => a1 args fun v0 => bd144 v0 h k
set_option maxRecDepth 100000 in
theorem sim144 : SimF Tryz.prog 144 ex144 := fun args h k hk => by
  obtain ⟨v0, rfl, hk⟩ := a1_ok hk
  exact sim_of (qf := (fun f => [46, 47, 62, 75, 82, 97, 104, 114, 121, 127, 128, 141, 151, 156, 157, 183].contains f)) (Z := zs) (C := [(177, ex177)]) (T := []) ⟨zerosB_ok zsOk, (exCons (by kernel_rfl) sim177 exNil)⟩ (.seq .nil (.seq .nil (.seq .nil (.seq .nil (.seq .nil (.seq .nil (.seq .nil (.seq (.seq .nil (.loop [6] [32, 33, 34, 35, 36, 39, 40, 41, 42, 43, 44, 45, 37, 38] .nil)) .nil)))))))) Tryz.func144 _ h k (Eq.mp (by kernel_rfl : (bd144 v0 h k = true) = (xFn Tryz.prog (fun f => [46, 47, 62, 75, 82, 97, 104, 114, 121, 127, 128, 141, 151, 156, 157, 183].contains f) zs [(177, ex177)] [] Tryz.f144 (.seq .nil (.seq .nil (.seq .nil (.seq .nil (.seq .nil (.seq .nil (.seq .nil (.seq (.seq .nil (.loop [6] [32, 33, 34, 35, 36, 39, 40, 41, 42, 43, 44, 45, 37, 38] .nil)) .nil)))))))) [v0] h k = true)) hk)

/- (*undercroft/undercroftkit.Page).take -/
noncomputable abbrev c145_1 (x34 : CV) (h2 : CH) (v0 : CV) (x20 : CV) (k : CV → CH → Bool) (s9 : TupC 1) (K10 : TupC 1 → CH → Bool) : Bool :=
 xLoad (some none) x34 h2 fun x35 =>
 xUn .not x35 fun x36 =>
 xIte x36
  (xNilCheck v0 fun x37 =>
  xAddr (some 10) x37 fun x38 =>
  xLoad (some none) x38 h2 fun x39 =>
  xIdx (some (none, 1)) x39 x20 fun x40 =>
  xStore (some 1) x40 (.bool true) h2 fun h3 =>
  k x20 h3)
  (xBin (some (.int .i64)) .add s9.1 (.int .i64 (.ofNat 1)) fun x41 =>
  K10 (x41, ()) h2)
noncomputable abbrev c145_2 (x25 : CV) (h1 : CH) (x23 : CV) (x9 : CV) (v0 : CV) (x20 : CV) (k : CV → CH → Bool) (s9 : TupC 1) (K10 : TupC 1 → CH → Bool) : Bool :=
 xLoad (some none) x25 h1 fun x26 =>
 xBin (some (.int .i64)) .add x23 x26 fun x27 =>
 xBin (some (.int .i64)) .rem x27 x9 fun x28 =>
 xNilCheck v0 fun x29 =>
 xAddr (some 12) x29 fun x30 =>
 xStore (some 1) x30 x28 h1 fun h2 =>
 xNilCheck v0 fun x31 =>
 xAddr (some 10) x31 fun x32 =>
 xLoad (some none) x32 h2 fun x33 =>
 xIdx (some (none, 1)) x33 x20 fun x34 =>
 c145_1 x34 h2 v0 x20 k s9 K10
noncomputable abbrev c145_3 (x15 : CV) (h1 : CH) (v0 : CV) (x9 : CV) (k : CV → CH → Bool) (s9 : TupC 1) (K10 : TupC 1 → CH → Bool) : Bool :=
 xLoad (some none) x15 h1 fun x16 =>
 xNilCheck v0 fun x17 =>
 xAddr (some 12) x17 fun x18 =>
 xLoad (some none) x18 h1 fun x19 =>
 xBin (some (.int .i64)) .add x16 x19 fun x20 =>
 xNilCheck v0 fun x21 =>
 xAddr (some 12) x21 fun x22 =>
 xLoad (some none) x22 h1 fun x23 =>
 xNilCheck v0 fun x24 =>
 xAddr (some 11) x24 fun x25 =>
 c145_2 x25 h1 x23 x9 v0 x20 k s9 K10
noncomputable abbrev c145_4 (x9 : CV) (v0 : CV) (k : CV → CH → Bool) (h : CH) : Bool :=
 xLoop (n := 1) (fun K10 s9 h1 =>
  xBin (some (.int .i64)) .lss s9.1 x9 fun x12 =>
  xIte x12
   (xNilCheck v0 fun x13 =>
   xAddr (some 0) x13 fun x14 =>
   xAddr (some 8) x14 fun x15 =>
   c145_3 x15 h1 v0 x9 k s9 K10)
   (xNilCheck v0 fun x42 =>
   xAddr (some 13) x42 fun x43 =>
   xStore (some 1) x43 (.bool true) h1 fun h4 =>
   k (.int .i64 (.ofNat 0)) h4)) 1000000 ((.int .i64 (.ofNat 0)), ()) h
noncomputable def bd145 (v0 : CV) (h : CH) (k : CV → CH → Bool) : Bool :=
 xNilCheck v0 fun x1 =>
 xAddr (some 9) x1 fun x2 =>
 xLoad (some none) x2 h fun x3 =>
 xLen (some (.inl false)) x3 fun x4 =>
 xNilCheck v0 fun x5 =>
 xAddr (some 0) x5 fun x6 =>
 xAddr (some 8) x6 fun x7 =>
 xLoad (some none) x7 h fun x8 =>
 xBin (some (.int .i64)) .sub x4 x8 fun x9 =>
 c145_4 x9 v0 k h
noncomputable abbrev ex145 : Ex := fun args h k => a1 args fun v0 => bd145 v0 h k
set_option maxRecDepth 100000 in
theorem sim145 : SimF Tryz.prog 145 ex145 := fun args h k hk => by
  obtain ⟨v0, rfl, hk⟩ := a1_ok hk
  exact sim_of (qf := (fun f => [46, 47, 62, 75, 82, 97, 104, 114, 121, 127, 128, 141, 151, 156, 157, 183].contains f)) (Z := zs) (C := []) (T := []) ⟨zerosB_ok zsOk, exNil⟩ (.seq .nil (.seq .nil (.seq (.seq .nil (.loop [4] [17, 18, 19, 22, 23, 24, 25, 26, 27, 28, 29, 30, 31, 5, 32, 33, 34, 35, 36, 37, 38, 39, 40, 41, 42, 43, 44, 45, 46, 47, 48, 49, 50, 51, 52, 53, 54, 55, 56, 57, 58, 59, 60, 2, 20, 21] .nil)) .nil))) Tryz.func145 _ h k (Eq.mp (by kernel_rfl : (bd145 v0 h k = true) = (xFn Tryz.prog (fun f => [46, 47, 62, 75, 82, 97, 104, 114, 121, 127, 128, 141, 151, 156, 157, 183].contains f) zs [] [] Tryz.f145 (.seq .nil (.seq .nil (.seq (.seq .nil (.loop [4] [17, 18, 19, 22, 23, 24, 25, 26, 27, 28, 29, 30, 31, 5, 32, 33, 34, 35, 36, 37, 38, 39, 40, 41, 42, 43, 44, 45, 46, 47, 48, 49, 50, 51, 52, 53, 54, 55, 56, 57, 58, 59, 60, 2, 20, 21] .nil)) .nil))) [v0] h k = true)) hk)

/- (*undercroft/undercroftkit.Page).got -/
noncomputable abbrev c146_1 (x8 : CV) (s0 : TupC 2) (x7 : CV) (v1 : CV) (h1 : CH) (x4 : CV) (K1 : TupC 2 → CH → Bool) : Bool :=
 xBin (some (.int .i64)) .add x8 s0.2.1 fun x9 =>
 xIdx (some (none, 1024)) x7 v1 fun x10 =>
 xIdx (some (some 1024, 1)) x10 x9 fun x11 =>
 xLoad (some none) x11 h1 fun x12 =>
 xConv (some (.int .u8)) (some (.int .i64)) x12 fun x13 =>
 xBin (some (.int .i64)) .add x4 x13 fun x14 =>
 xBin (some (.int .i64)) .sub s0.2.1 (.int .i64 (.ofNat 1)) fun x15 =>
 K1 (x14, x15, ()) h1
noncomputable def bd146 (v0 v1 v2 : CV) (h : CH) (k : CV → CH → Bool) : Bool :=
 xLoop (n := 2) (fun K1 s0 h1 =>
  xBin (some (.int .i64)) .geq s0.2.1 (.int .i64 (.ofNat 0)) fun x3 =>
  xIte x3
   (xBin (some (.int .i64)) .mul (.int .i64 (.ofNat 256)) s0.1 fun x4 =>
   xNilCheck v0 fun x5 =>
   xAddr (some 9) x5 fun x6 =>
   xLoad (some none) x6 h1 fun x7 =>
   xBin (some (.int .i64)) .mul (.int .i64 (.ofNat 4)) v2 fun x8 =>
   c146_1 x8 s0 x7 v1 h1 x4 K1)
   (k s0.1 h1)) 1000000 ((.int .i64 (.ofNat 0)), (.int .i64 (.ofNat 3)), ()) h
noncomputable abbrev ex146 : Ex := fun args h k => a3 args fun v0 v1 v2 => bd146 v0 v1 v2 h k
set_option maxRecDepth 100000 in
theorem sim146 : SimF Tryz.prog 146 ex146 := fun args h k hk => by
  obtain ⟨v0, v1, v2, rfl, hk⟩ := a3_ok hk
  exact sim_of (qf := (fun f => [46, 47, 62, 75, 82, 97, 104, 114, 121, 127, 128, 141, 151, 156, 157, 183].contains f)) (Z := zs) (C := []) (T := []) ⟨zerosB_ok zsOk, exNil⟩ (.seq .nil (.seq .nil (.seq (.seq .nil (.loop [7, 8] [9, 10, 13, 14, 15, 16, 17, 18, 19, 20, 21, 22, 23, 24, 25, 26, 27, 28, 11, 12] .nil)) .nil))) Tryz.func146 _ h k (Eq.mp (by kernel_rfl : (bd146 v0 v1 v2 h k = true) = (xFn Tryz.prog (fun f => [46, 47, 62, 75, 82, 97, 104, 114, 121, 127, 128, 141, 151, 156, 157, 183].contains f) zs [] [] Tryz.f146 (.seq .nil (.seq .nil (.seq (.seq .nil (.loop [7, 8] [9, 10, 13, 14, 15, 16, 17, 18, 19, 20, 21, 22, 23, 24, 25, 26, 27, 28, 11, 12] .nil)) .nil))) [v0, v1, v2] h k = true)) hk)

/- (*undercroft/undercroftkit.Page).put -/
noncomputable abbrev c147_1 (s0 : TupC 2) (x6 : CV) (v1 : CV) (x8 : CV) (h1 : CH) (K1 : TupC 2 → CH → Bool) : Bool :=
 xBin (some (.int .i64)) .rem s0.1 (.int .i64 (.ofNat 256)) fun x9 =>
 xConv (some (.int .i64)) (some (.int .u8)) x9 fun x10 =>
 xIdx (some (none, 1024)) x6 v1 fun x11 =>
 xIdx (some (some 1024, 1)) x11 x8 fun x12 =>
 xStore (some 1) x12 x10 h1 fun h2 =>
 xBin (some (.int .i64)) .quo s0.1 (.int .i64 (.ofNat 256)) fun x13 =>
 xBin (some (.int .i64)) .add s0.2.1 (.int .i64 (.ofNat 1)) fun x14 =>
 K1 (x13, x14, ()) h2
noncomputable def bd147 (v0 v1 v2 v3 : CV) (h : CH) (k : CV → CH → Bool) : Bool :=
 xLoop (n := 2) (fun K1 s0 h1 =>
  xBin (some (.int .i64)) .lss s0.2.1 (.int .i64 (.ofNat 4)) fun x3 =>
  xIte x3
   (xNilCheck v0 fun x4 =>
   xAddr (some 9) x4 fun x5 =>
   xLoad (some none) x5 h1 fun x6 =>
   xBin (some (.int .i64)) .mul (.int .i64 (.ofNat 4)) v2 fun x7 =>
   xBin (some (.int .i64)) .add x7 s0.2.1 fun x8 =>
   c147_1 s0 x6 v1 x8 h1 K1)
   (k (.tup []) h1)) 1000000 (v3, (.int .i64 (.ofNat 0)), ()) h
noncomputable abbrev ex147 : Ex := fun args h k => a4 args fun v0 v1 v2 v3 => bd147 v0 v1 v2 v3 h k
set_option maxRecDepth 100000 in
theorem sim147 : SimF Tryz.prog 147 ex147 := fun args h k hk => by
  obtain ⟨v0, v1, v2, v3, rfl, hk⟩ := a4_ok hk
  exact sim_of (qf := (fun f => [46, 47, 62, 75, 82, 97, 104, 114, 121, 127, 128, 141, 151, 156, 157, 183].contains f)) (Z := zs) (C := []) (T := []) ⟨zerosB_ok zsOk, exNil⟩ (.seq .nil (.loop [3, 8] [9, 10, 13, 14, 15, 16, 17, 18, 19, 20, 21, 22, 23, 24, 25, 26, 27, 28, 11, 12] .nil)) Tryz.func147 _ h k (Eq.mp (by kernel_rfl : (bd147 v0 v1 v2 v3 h k = true) = (xFn Tryz.prog (fun f => [46, 47, 62, 75, 82, 97, 104, 114, 121, 127, 128, 141, 151, 156, 157, 183].contains f) zs [] [] Tryz.f147 (.seq .nil (.loop [3, 8] [9, 10, 13, 14, 15, 16, 17, 18, 19, 20, 21, 22, 23, 24, 25, 26, 27, 28, 11, 12] .nil)) [v0, v1, v2, v3] h k = true)) hk)

/- (*undercroft/undercroftkit.Page).file -/
noncomputable abbrev c90_1 (x23 : CV) (x22 : CV) (h8 : CH) (v0 : CV) (x2 : CV) (x11 : CV) (x1 : CV) (x3 : CV) (k : CV → CH → Bool) : Bool :=
 xStore (some 1) x23 x22 h8 fun h9 =>
 xNilCheck v0 fun x24 =>
 xAddr (some 9) x24 fun x25 =>
 xLoad (some none) x25 h9 fun x26 =>
 xLoad (some (some 1024)) x2 h9 fun x27 =>
 xIdx (some (none, 1024)) x26 x11 fun x28 =>
 xStore (some 1024) x28 x27 h9 fun h10 =>
 xLoad (some (some 16)) x1 h10 fun x29 =>
 xStore (some 16) x3 x29 h10 fun h11 =>
 xLoad (some (some 16)) x3 h11 fun x30 =>
 k x30 h11
noncomputable abbrev c90_2 (x11 : CV) (x1 : CV) (v2 : CV) (h6 : CH) (v0 : CV) (x2 : CV) (x3 : CV) (k : CV → CH → Bool) : Bool :=
 xConv (some (.int .i64)) (some (.int .u32)) x11 fun x17 =>
 xAddr (some 4) x1 fun x18 =>
 xIdx (some (some 10, 1)) x18 v2 fun x19 =>
 xStore (some 1) x19 x17 h6 fun h8 =>
 xAddr (some 3) x1 fun x20 =>
 xLoad (some none) x20 h8 fun x21 =>
 xBin (some (.int .u32)) .add x21 (.int .u32 (.ofNat 1)) fun x22 =>
 xAddr (some 3) x1 fun x23 =>
 c90_1 x23 x22 h8 v0 x2 x11 x1 x3 k
noncomputable abbrev c90_3 (v0 : CV) (h19 : CH) (x2 : CV) (x43 : CV) (x1 : CV) (x3 : CV) (k : CV → CH → Bool) : Bool :=
 xNilCheck v0 fun x54 =>
 xAddr (some 9) x54 fun x55 =>
 xLoad (some none) x55 h19 fun x56 =>
 xLoad (some (some 1024)) x2 h19 fun x57 =>
 xIdx (some (none, 1024)) x56 x43 fun x58 =>
 xStore (some 1024) x58 x57 h19 fun h20 =>
 xLoad (some (some 16)) x1 h20 fun x59 =>
 xStore (some 16) x3 x59 h20 fun h21 =>
 xLoad (some (some 16)) x3 h21 fun x60 =>
 k x60 h21
noncomputable abbrev c90_4 (x46 : CV) (x1 : CV) (h16 : CH) (x3 : CV) (k : CV → CH → Bool) (v0 : CV) (s41 : TupC 2) (x43 : CV) (x2 : CV) : Bool :=
 xIte x46
  (xLoad (some (some 16)) x1 h16 fun x47 =>
  xStore (some 16) x3 x47 h16 fun h17 =>
  xLoad (some (some 16)) x3 h17 fun x48 =>
  k x48 h17)
  (xAddr (some 3) x1 fun x49 =>
  xLoad (some none) x49 h16 fun x50 =>
  xBin (some (.int .u32)) .add x50 (.int .u32 (.ofNat 1)) fun x51 =>
  xAddr (some 3) x1 fun x52 =>
  xStore (some 1) x52 x51 h16 fun h18 =>
  bd147 v0 s41.1 s41.2.1 x43 h18 fun x53 h19 =>
  c90_3 v0 h19 x2 x43 x1 x3 k)
noncomputable abbrev c90_5 (x77 : CV) (x1 : CV) (h26 : CH) (x3 : CV) (k : CV → CH → Bool) (v0 : CV) (s35 : TupC 1) (s34 : TupC 2) (x74 : CV) (K71 : TupC 1 → CH → Bool) : Bool :=
 xIte x77
  (xLoad (some (some 16)) x1 h26 fun x78 =>
  xStore (some 16) x3 x78 h26 fun h27 =>
  xLoad (some (some 16)) x3 h27 fun x79 =>
  k x79 h27)
  (xAddr (some 3) x1 fun x80 =>
  xLoad (some none) x80 h26 fun x81 =>
  xBin (some (.int .u32)) .add x81 (.int .u32 (.ofNat 1)) fun x82 =>
  xAddr (some 3) x1 fun x83 =>
  xStore (some 1) x83 x82 h26 fun h28 =>
  bd147 v0 s35.1 s34.2.1 x74 h28 fun x84 h29 =>
  K71 (x74, ()) h29)
noncomputable abbrev c90_6 (v2 : CV) (K60 : TupC 2 → CH → Bool) (x67 : CV) (v0 : CV) (h24 : CH) (x1 : CV) (x3 : CV) (k : CV → CH → Bool) (s35 : TupC 1) (s34 : TupC 2) : Bool :=
 xJoin (n := 1) (fun s67 h25 =>
  xBin (some (.int .i64)) .sub v2 (.int .i64 (.ofNat 10)) fun x69 =>
  xBin (some (.int .i64)) .sub x69 (.int .i64 (.ofNat 256)) fun x70 =>
  xBin (some (.int .i64)) .rem x70 (.int .i64 (.ofNat 256)) fun x71 =>
  K60 (s67.1, x71, ()) h25)
 (fun K71 => xBin (some (.int .i64)) .eql x67 (.int .i64 (.ofNat 0)) fun x73 =>
 xIte x73
  (bd145 v0 h24 fun x74 h26 =>
  xNilCheck v0 fun x75 =>
  xAddr (some 13) x75 fun x76 =>
  xLoad (some none) x76 h26 fun x77 =>
  c90_5 x77 x1 h26 x3 k v0 s35 s34 x74 K71)
  (K71 (x67, ()) h24))
noncomputable abbrev c90_7 (x62 : CV) (s35 : TupC 1) (x1 : CV) (h13 : CH) (K60 : TupC 2 → CH → Bool) (s34 : TupC 2) (v0 : CV) (v2 : CV) (x3 : CV) (k : CV → CH → Bool) : Bool :=
 xIte x62
  (xConv (some (.int .i64)) (some (.int .u32)) s35.1 fun x63 =>
  xAddr (some 14) x1 fun x64 =>
  xStore (some 1) x64 x63 h13 fun h22 =>
  K60 (s35.1, s34.2.1, ()) h22)
  (xConv (some (.int .i64)) (some (.int .u32)) s35.1 fun x65 =>
  xAddr (some 15) x1 fun x66 =>
  xStore (some 1) x66 x65 h13 fun h23 =>
  bd146 v0 s35.1 s34.2.1 h23 fun x67 h24 =>
  c90_6 v2 K60 x67 v0 h24 x1 x3 k s35 s34)
noncomputable abbrev c90_8 (x39 : CV) (x1 : CV) (h13 : CH) (x3 : CV) (k : CV → CH → Bool) (v0 : CV) (x2 : CV) (v2 : CV) (s35 : TupC 1) (s34 : TupC 2) : Bool :=
 xIte x39
  (xLoad (some (some 16)) x1 h13 fun x40 =>
  xStore (some 16) x3 x40 h13 fun h14 =>
  xLoad (some (some 16)) x3 h14 fun x41 =>
  k x41 h14)
  (xJoin (n := 2) (fun s41 h15 =>
   bd145 v0 h15 fun x43 h16 =>
   xNilCheck v0 fun x44 =>
   xAddr (some 13) x44 fun x45 =>
   xLoad (some none) x45 h16 fun x46 =>
   c90_4 x46 x1 h16 x3 k v0 s41 x43 x2)
  (fun K60 => xBin (some (.int .i64)) .lss v2 (.int .i64 (.ofNat 266)) fun x62 =>
  c90_7 x62 s35 x1 h13 K60 s34 v0 v2 x3 k))
noncomputable abbrev c90_9 (s34 : TupC 2) (v0 : CV) (h12 : CH) (x1 : CV) (K84 : TupC 1 → CH → Bool) : Bool :=
 xBin (some (.int .i64)) .eql s34.1 (.int .i64 (.ofNat 0)) fun x86 =>
 xIte x86
  (bd145 v0 h12 fun x87 h30 =>
  xAddr (some 3) x1 fun x88 =>
  xLoad (some none) x88 h30 fun x89 =>
  xBin (some (.int .u32)) .add x89 (.int .u32 (.ofNat 1)) fun x90 =>
  xAddr (some 3) x1 fun x91 =>
  xStore (some 1) x91 x90 h30 fun h31 =>
  K84 (x87, ()) h31)
  (K84 (s34.1, ()) h12)
noncomputable abbrev c90_10 (x1 : CV) (h4 : CH) (v2 : CV) (K91 : TupC 2 → CH → Bool) : Bool :=
 xAddr (some 15) x1 fun x94 =>
 xLoad (some none) x94 h4 fun x95 =>
 xConv (some (.int .u32)) (some (.int .i64)) x95 fun x96 =>
 xBin (some (.int .i64)) .sub v2 (.int .i64 (.ofNat 10)) fun x97 =>
 xBin (some (.int .i64)) .sub x97 (.int .i64 (.ofNat 256)) fun x98 =>
 xBin (some (.int .i64)) .quo x98 (.int .i64 (.ofNat 256)) fun x99 =>
 K91 (x96, x99, ()) h4
noncomputable abbrev c90_11 (v0 : CV) (x1 : CV) (x3 : CV) (k : CV → CH → Bool) (x2 : CV) (v2 : CV) (h4 : CH) (x33 : CV) (x34 : CV) : Bool :=
 xJoin (n := 2) (fun s34 h12 =>
  xJoin (n := 1) (fun s35 h13 =>
   xNilCheck v0 fun x37 =>
   xAddr (some 13) x37 fun x38 =>
   xLoad (some none) x38 h13 fun x39 =>
   c90_8 x39 x1 h13 x3 k v0 x2 v2 s35 s34)
  (fun K84 => c90_9 s34 v0 h12 x1 K84))
 (fun K91 => xBin (some (.int .i64)) .geq v2 (.int .i64 (.ofNat 266)) fun x93 =>
 xIte x93
  (c90_10 x1 h4 v2 K91)
  (K91 (x33, x34, ()) h4))
noncomputable abbrev c90_12 (x10 : CV) (v0 : CV) (h4 : CH) (x1 : CV) (x3 : CV) (k : CV → CH → Bool) (v2 : CV) (x2 : CV) : Bool :=
 xIte x10
  (bd145 v0 h4 fun x11 h6 =>
  xNilCheck v0 fun x12 =>
  xAddr (some 13) x12 fun x13 =>
  xLoad (some none) x13 h6 fun x14 =>
  xIte x14
   (xLoad (some (some 16)) x1 h6 fun x15 =>
   xStore (some 16) x3 x15 h6 fun h7 =>
   xLoad (some (some 16)) x3 h7 fun x16 =>
   k x16 h7)
   (c90_2 x11 x1 v2 h6 v0 x2 x3 k))
  (xAddr (some 14) x1 fun x31 =>
  xLoad (some none) x31 h4 fun x32 =>
  xConv (some (.int .u32)) (some (.int .i64)) x32 fun x33 =>
  xBin (some (.int .i64)) .sub v2 (.int .i64 (.ofNat 10)) fun x34 =>
  c90_11 v0 x1 x3 k x2 v2 h4 x33 x34)
noncomputable abbrev c90_13 (v0 : CV) (K99 : TupC 0 → CH → Bool) (v2 : CV) (h3 : CH) : Bool :=
 xJoin (n := 1) (fun s100 h32 =>
  xIte s100.1
   (xNilCheck v0 fun x102 =>
   xAddr (some 13) x102 fun x103 =>
   xStore (some 1) x103 (.bool true) h32 fun h33 =>
   K99 (()) h33)
   (K99 (()) h32))
 (fun K103 => xBin (some (.int .i64)) .lss v2 (.int .i64 (.ofNat 0)) fun x105 =>
 xIte x105
  (K103 ((.bool true), ()) h3)
  (xBin (some (.int .i64)) .geq v2 (.int .i64 (.ofNat 65802)) fun x106 =>
  K103 (x106, ()) h3))
noncomputable abbrev c90_14 (v0 : CV) (x1 : CV) (x3 : CV) (k : CV → CH → Bool) (v2 : CV) (x2 : CV) (h3 : CH) : Bool :=
 xJoin (n := 0) (fun s3 h4 =>
  xNilCheck v0 fun x5 =>
  xAddr (some 13) x5 fun x6 =>
  xLoad (some none) x6 h4 fun x7 =>
  xIte x7
   (xLoad (some (some 16)) x1 h4 fun x8 =>
   xStore (some 16) x3 x8 h4 fun h5 =>
   xLoad (some (some 16)) x3 h5 fun x9 =>
   k x9 h5)
   (xBin (some (.int .i64)) .lss v2 (.int .i64 (.ofNat 10)) fun x10 =>
   c90_12 x10 v0 h4 x1 x3 k v2 x2))
 (fun K99 => c90_13 v0 K99 v2 h3)
noncomputable abbrev c90_15 (h2 : CH) (v0 : CV) (x1 : CV) (k : CV → CH → Bool) (v2 : CV) (x2 : CV) : Bool :=
 xBoxP 99 [(.int .u16 (.ofNat 0)), (.int .u16 (.ofNat 0)), (.int .u32 (.ofNat 0)), (.int .u32 (.ofNat 0)), (.int .u32 (.ofNat 0)), (.int .u32 (.ofNat 0)), (.int .u32 (.ofNat 0)), (.int .u32 (.ofNat 0)), (.int .u32 (.ofNat 0)), (.int .u32 (.ofNat 0)), (.int .u32 (.ofNat 0)), (.int .u32 (.ofNat 0)), (.int .u32 (.ofNat 0)), (.int .u32 (.ofNat 0)), (.int .u32 (.ofNat 0)), (.int .u32 (.ofNat 0))] h2 fun x3 h3 =>
 c90_14 v0 x1 x3 k v2 x2 h3
noncomputable def bd90 (v0 v1 v2 v3 : CV) (h : CH) (k : CV → CH → Bool) : Bool :=
 xBox 99 v1 h fun x1 h1 =>
 xBox 124 v3 h1 fun x2 h2 =>
 c90_15 h2 v0 x1 k v2 x2
noncomputable abbrev ex90 : Ex := fun args h k => a4 args fun v0 v1 v2 v3 => bd90 v0 v1 v2 v3 h k
set_option maxRecDepth 100000 in
theorem sim90 : SimF Tryz.prog 90 ex90 := fun args h k hk => by
  obtain ⟨v0, v1, v2, v3, rfl, hk⟩ := a4_ok hk
  exact sim_of (qf := (fun f => [46, 47, 62, 75, 82, 97, 104, 114, 121, 127, 128, 141, 151, 156, 157, 183].contains f)) (Z := zs) (C := [(145, ex145), (147, ex147), (146, ex146)]) (T := []) ⟨zerosB_ok zsOk, (exCons (by kernel_rfl) sim145 (exCons (by kernel_rfl) sim147 (exCons (by kernel_rfl) sim146 exNil)))⟩ (.seq .nil (.join [] [14, 15, 16, 17, 18, 19, 20, 21, 22] (.join [19] [14, 15, 16, 17, 18] .nil .nil) (.seq .nil (.seq .nil (.seq .nil (.seq .nil (.join [10, 11] [59, 60, 61, 62, 63, 64, 65, 66, 67] .nil (.join [10] [68, 69, 70, 71, 72, 73, 74, 75] .nil (.seq .nil (.join [10, 11] [81, 82, 83, 84, 85, 86, 87, 88, 89, 90, 91, 92, 12, 93, 94, 95, 96, 97, 98, 99, 100, 101, 102, 103, 104, 105, 106, 107, 108, 109, 110, 111, 112, 113, 114, 115] (.seq .nil (.cond .nil (.seq .nil (.seq .nil (.join [12] [93, 94, 95, 96, 97, 98, 99, 100, 101, 102, 103, 104, 105, 106, 107, 108, 109, 110] .nil .nil))))) .nil)))))))))) Tryz.func90 _ h k (Eq.mp (by kernel_rfl : (bd90 v0 v1 v2 v3 h k = true) = (xFn Tryz.prog (fun f => [46, 47, 62, 75, 82, 97, 104, 114, 121, 127, 128, 141, 151, 156, 157, 183].contains f) zs [(145, ex145), (147, ex147), (146, ex146)] [] Tryz.f90 (.seq .nil (.join [] [14, 15, 16, 17, 18, 19, 20, 21, 22] (.join [19] [14, 15, 16, 17, 18] .nil .nil) (.seq .nil (.seq .nil (.seq .nil (.seq .nil (.join [10, 11] [59, 60, 61, 62, 63, 64, 65, 66, 67] .nil (.join [10] [68, 69, 70, 71, 72, 73, 74, 75] .nil (.seq .nil (.join [10, 11] [81, 82, 83, 84, 85, 86, 87, 88, 89, 90, 91, 92, 12, 93, 94, 95, 96, 97, 98, 99, 100, 101, 102, 103, 104, 105, 106, 107, 108, 109, 110, 111, 112, 113, 114, 115] (.seq .nil (.cond .nil (.seq .nil (.seq .nil (.join [12] [93, 94, 95, 96, 97, 98, 99, 100, 101, 102, 103, 104, 105, 106, 107, 108, 109, 110] .nil .nil))))) .nil)))))))))) [v0, v1, v2, v3] h k = true)) hk)

/- (*undercroft/undercroftkit.Page).dir -/
noncomputable abbrev c89_1 (x16 : CV) (s12 : TupC 1) (x12 : CV) (h9 : CH) (x3 : CV) (K13 : TupC 1 → CH → Bool) : Bool :=
 xBin (some (.int .i64)) .rem x16 (.int .i64 (.ofNat 1024)) fun x17 =>
 xBin (some (.int .i64)) .add x17 s12.1 fun x18 =>
 xIdx (some (some 16, 1)) x12 s12.1 fun x19 =>
 xLoad (some none) x19 h9 fun x20 =>
 xIdx (some (some 1024, 1)) x3 x18 fun x21 =>
 xStore (some 1) x21 x20 h9 fun h10 =>
 xBin (some (.int .i64)) .add s12.1 (.int .i64 (.ofNat 1)) fun x22 =>
 K13 (x22, ()) h10
noncomputable abbrev c89_2 (x25 : CV) (x3 : CV) (h11 : CH) (v0 : CV) (x24 : CV) (x1 : CV) (s3 : TupC 1) (K4 : TupC 1 → CH → Bool) : Bool :=
 xBin (some (.int .i64)) .quo x25 (.int .i64 (.ofNat 1024)) fun x26 =>
 xLoad (some (some 1024)) x3 h11 fun x27 =>
 bd90 v0 x24 x26 x27 h11 fun x28 h12 =>
 xStore (some 16) x1 x28 h12 fun h13 =>
 xBuild (some (.inr 1)) (some (.agg [(.bytes 1024 0)])) [] fun x29 =>
 xStore (some 1024) x3 x29 h13 fun h14 =>
 xBin (some (.int .i64)) .add s3.1 (.int .i64 (.ofNat 1)) fun x30 =>
 K4 (x30, ()) h14
noncomputable abbrev c89_3 (x33 : CV) (K31 : TupC 1 → CH → Bool) (h9 : CH) (v2 : CV) (s3 : TupC 1) : Bool :=
 xBin (some (.int .i64)) .rem x33 (.int .i64 (.ofNat 1024)) fun x34 =>
 xBin (some (.int .i64)) .eql x34 (.int .i64 (.ofNat 1008)) fun x35 =>
 xIte x35
  (K31 ((.bool true), ()) h9)
  (xLen (some (.inl false)) v2 fun x36 =>
  xBin (some (.int .i64)) .sub x36 (.int .i64 (.ofNat 1)) fun x37 =>
  xBin (some (.int .i64)) .eql s3.1 x37 fun x38 =>
  K31 (x38, ()) h9)
noncomputable abbrev c89_4 (x1 : CV) (s3 : TupC 1) (x3 : CV) (v0 : CV) (K4 : TupC 1 → CH → Bool) (h9 : CH) (v2 : CV) : Bool :=
 xJoin (n := 1) (fun s22 h11 =>
  xIte s22.1
   (xLoad (some (some 16)) x1 h11 fun x24 =>
   xBin (some (.int .i64)) .mul s3.1 (.int .i64 (.ofNat 16)) fun x25 =>
   c89_2 x25 x3 h11 v0 x24 x1 s3 K4)
   (xBin (some (.int .i64)) .add s3.1 (.int .i64 (.ofNat 1)) fun x31 =>
   K4 (x31, ()) h11))
 (fun K31 => xBin (some (.int .i64)) .mul s3.1 (.int .i64 (.ofNat 16)) fun x33 =>
 c89_3 x33 K31 h9 v2 s3)
noncomputable abbrev c89_5 (h6 : CH) (x10 : CV) (s3 : TupC 1) (x3 : CV) (x1 : CV) (v0 : CV) (K4 : TupC 1 → CH → Bool) (v2 : CV) : Bool :=
 xBoxP 247 [(.bytes 16 0)] h6 fun x12 h7 =>
 xStore (some 16) x12 x10 h7 fun h8 =>
 xLoop (n := 1) (fun K13 s12 h9 =>
  xBin (some (.int .i64)) .lss s12.1 (.int .i64 (.ofNat 16)) fun x15 =>
  xIte x15
   (xBin (some (.int .i64)) .mul s3.1 (.int .i64 (.ofNat 16)) fun x16 =>
   c89_1 x16 s12 x12 h9 x3 K13)
   (c89_4 x1 s3 x3 v0 K4 h9 v2)) 1000000 ((.int .i64 (.ofNat 0)), ()) h8
noncomputable abbrev c89_6 (v2 : CV) (s3 : TupC 1) (x3 : CV) (x1 : CV) (v0 : CV) (K4 : TupC 1 → CH → Bool) (x2 : CV) (k : CV → CH → Bool) (h4 : CH) : Bool :=
 xJoin (n := 1) (fun s5 h5 =>
  xIte s5.1
   (xIdx (some (none, 2)) v2 s3.1 fun x7 =>
   xLoad (some (some 2)) x7 h5 fun x8 =>
   bd144 x8 h5 fun x9 h6 =>
   xExtract x9 0 fun x10 =>
   xExtract x9 1 fun x11 =>
   c89_5 h6 x10 s3 x3 x1 v0 K4 v2)
   (xLoad (some (some 16)) x1 h5 fun x39 =>
   xStore (some 16) x2 x39 h5 fun h15 =>
   xLoad (some (some 16)) x2 h15 fun x40 =>
   k x40 h15))
 (fun K40 => xLen (some (.inl false)) v2 fun x42 =>
 xBin (some (.int .i64)) .lss s3.1 x42 fun x43 =>
 xIte x43
  (xNilCheck v0 fun x44 =>
  xAddr (some 13) x44 fun x45 =>
  xLoad (some none) x45 h4 fun x46 =>
  xUn .not x46 fun x47 =>
  K40 (x47, ()) h4)
  (K40 ((.bool false), ()) h4))
noncomputable abbrev c89_7 (h1 : CH) (v2 : CV) (x1 : CV) (v0 : CV) (k : CV → CH → Bool) : Bool :=
 xBoxP 99 [(.int .u16 (.ofNat 0)), (.int .u16 (.ofNat 0)), (.int .u32 (.ofNat 0)), (.int .u32 (.ofNat 0)), (.int .u32 (.ofNat 0)), (.int .u32 (.ofNat 0)), (.int .u32 (.ofNat 0)), (.int .u32 (.ofNat 0)), (.int .u32 (.ofNat 0)), (.int .u32 (.ofNat 0)), (.int .u32 (.ofNat 0)), (.int .u32 (.ofNat 0)), (.int .u32 (.ofNat 0)), (.int .u32 (.ofNat 0)), (.int .u32 (.ofNat 0)), (.int .u32 (.ofNat 0))] h1 fun x2 h2 =>
 xBoxP 124 [(.bytes 1024 0)] h2 fun x3 h3 =>
 xLoop (n := 1) (fun K4 s3 h4 =>
  c89_6 v2 s3 x3 x1 v0 K4 x2 k h4) 1000000 ((.int .i64 (.ofNat 0)), ()) h3
noncomputable def bd89 (v0 v1 v2 : CV) (h : CH) (k : CV → CH → Bool) : Bool :=
 xBox 99 v1 h fun x1 h1 =>
 c89_7 h1 v2 x1 v0 k
noncomputable abbrev ex89 : Ex := fun args h k => a3 args fun v0 v1 v2 => bd89 v0 v1 v2 h k
set_option maxRecDepth 100000 in
theorem sim89 : SimF Tryz.prog 89 ex89 := fun args h k hk => by
  obtain ⟨v0, v1, v2, rfl, hk⟩ := a3_ok hk
  exact sim_of (qf := (fun f => [46, 47, 62, 75, 82, 97, 104, 114, 121, 127, 128, 141, 151, 156, 157, 183].contains f)) (Z := zs) (C := [(144, ex144), (90, ex90)]) (T := []) ⟨zerosB_ok zsOk, (exCons (by kernel_rfl) sim144 (exCons (by kernel_rfl) sim90 exNil))⟩ (.seq .nil (.seq .nil (.seq (.seq .nil (.loop [8] [12, 13, 14, 15, 16, 17, 18, 19, 20, 21, 22, 26, 27, 28, 29, 30, 25, 31, 32, 9, 10, 11, 33, 34, 37, 38, 39, 40, 41, 42, 43, 44, 45, 35, 36, 46, 47, 48, 49, 50, 51, 52, 53, 54, 55, 56, 57, 58, 59, 60, 61, 62, 63, 64, 23, 24] (.seq (.join [22] [12, 13, 14, 15, 16, 17, 18, 19, 20, 21] .nil .nil) (.seq (.seq .nil (.seq (.seq .nil (.loop [11] [33, 34, 37, 38, 39, 40, 41, 42, 43, 44, 45, 35, 36] .nil)) (.join [56] [46, 47, 48, 49, 50, 51, 52, 53, 54, 55] .nil .nil))) .nil)))) .nil))) Tryz.func89 _ h k (Eq.mp (by kernel_rfl : (bd89 v0 v1 v2 h k = true) = (xFn Tryz.prog (fun f => [46, 47, 62, 75, 82, 97, 104, 114, 121, 127, 128, 141, 151, 156, 157, 183].contains f) zs [(144, ex144), (90, ex90)] [] Tryz.f89 (.seq .nil (.seq .nil (.seq (.seq .nil (.loop [8] [12, 13, 14, 15, 16, 17, 18, 19, 20, 21, 22, 26, 27, 28, 29, 30, 25, 31, 32, 9, 10, 11, 33, 34, 37, 38, 39, 40, 41, 42, 43, 44, 45, 35, 36, 46, 47, 48, 49, 50, 51, 52, 53, 54, 55, 56, 57, 58, 59, 60, 61, 62, 63, 64, 23, 24] (.seq (.join [22] [12, 13, 14, 15, 16, 17, 18, 19, 20, 21] .nil .nil) (.seq (.seq .nil (.seq (.seq .nil (.loop [11] [33, 34, 37, 38, 39, 40, 41, 42, 43, 44, 45, 35, 36] .nil)) (.join [56] [46, 47, 48, 49, 50, 51, 52, 53, 54, 55] .nil .nil))) .nil)))) .nil))) [v0, v1, v2] h k = true)) hk)

/- undercroft/undercroftref10.put -/
noncomputable abbrev c148_1 (s2 : TupC 2) (x1 : CV) (x6 : CV) (h3 : CH) (K3 : TupC 2 → CH → Bool) : Bool :=
 xBin (some (.int .u32)) .rem s2.1 (.int .u32 (.ofNat 256)) fun x7 =>
 xConv (some (.int .u32)) (some (.int .u8)) x7 fun x8 =>
 xIdx (some (some 64, 1)) x1 x6 fun x9 =>
 xStore (some 1) x9 x8 h3 fun h4 =>
 xBin (some (.int .u32)) .quo s2.1 (.int .u32 (.ofNat 256)) fun x10 =>
 xBin (some (.int .i64)) .add s2.2.1 (.int .i64 (.ofNat 1)) fun x11 =>
 K3 (x10, x11, ()) h4
noncomputable abbrev c148_2 (h1 : CH) (v2 : CV) (v1 : CV) (x1 : CV) (k : CV → CH → Bool) (v3 : CV) : Bool :=
 xBoxP 172 [(.bytes 64 0)] h1 fun x2 h2 =>
 xLoop (n := 2) (fun K3 s2 h3 =>
  xBin (some (.int .i64)) .lss s2.2.1 v2 fun x5 =>
  xIte x5
   (xBin (some (.int .i64)) .add v1 s2.2.1 fun x6 =>
   c148_1 s2 x1 x6 h3 K3)
   (xLoad (some (some 64)) x1 h3 fun x12 =>
   xStore (some 64) x2 x12 h3 fun h5 =>
   xLoad (some (some 64)) x2 h5 fun x13 =>
   k x13 h5)) 1000000 (v3, (.int .i64 (.ofNat 0)), ()) h2
noncomputable def bd148 (v0 v1 v2 v3 : CV) (h : CH) (k : CV → CH → Bool) : Bool :=
 xBox 172 v0 h fun x1 h1 =>
 c148_2 h1 v2 v1 x1 k v3
noncomputable abbrev ex148 : Ex := fun args h k => a4 args fun v0 v1 v2 v3 => bd148 v0 v1 v2 v3 h k
set_option maxRecDepth 100000 in
theorem sim148 : SimF Tryz.prog 148 ex148 := fun args h k hk => by
  obtain ⟨v0, v1, v2, v3, rfl, hk⟩ := a4_ok hk
  exact sim_of (qf := (fun f => [46, 47, 62, 75, 82, 97, 104, 114, 121, 127, 128, 141, 151, 156, 157, 183].contains f)) (Z := zs) (C := []) (T := []) ⟨zerosB_ok zsOk, exNil⟩ (.seq .nil (.seq (.seq .nil (.loop [3, 9] [10, 11, 12, 15, 16, 17, 18, 19, 20, 21, 22, 23, 13, 14] .nil)) .nil)) Tryz.func148 _ h k (Eq.mp (by kernel_rfl : (bd148 v0 v1 v2 v3 h k = true) = (xFn Tryz.prog (fun f => [46, 47, 62, 75, 82, 97, 104, 114, 121, 127, 128, 141, 151, 156, 157, 183].contains f) zs [] [] Tryz.f148 (.seq .nil (.seq (.seq .nil (.loop [3, 9] [10, 11, 12, 15, 16, 17, 18, 19, 20, 21, 22, 23, 13, 14] .nil)) .nil)) [v0, v1, v2, v3] h k = true)) hk)

/- undercroft/undercroftref10.numbers -/
noncomputable abbrev c149_1 (x3 : CV) (x13 : CV) (h4 : CH) (x1 : CV) (x2 : CV) (k : CV → CH → Bool) : Bool :=
 xIdx (some (some 12, 1)) x3 (.int .i64 (.ofNat 10)) fun x14 =>
 xStore (some 1) x14 x13 h4 fun h6 =>
 xAddr (some 15) x1 fun x15 =>
 xLoad (some none) x15 h6 fun x16 =>
 xIdx (some (some 12, 1)) x3 (.int .i64 (.ofNat 11)) fun x17 =>
 xStore (some 1) x17 x16 h6 fun h7 =>
 xLoad (some (some 12)) x3 h7 fun x18 =>
 xStore (some 12) x2 x18 h7 fun h8 =>
 xLoad (some (some 12)) x2 h8 fun x19 =>
 k x19 h8
noncomputable abbrev c149_2 (x6 : CV) (x1 : CV) (s3 : TupC 1) (h4 : CH) (x3 : CV) (K4 : TupC 1 → CH → Bool) (x2 : CV) (k : CV → CH → Bool) : Bool :=
 xIte x6
  (xAddr (some 4) x1 fun x7 =>
  xIdx (some (some 10, 1)) x7 s3.1 fun x8 =>
  xLoad (some none) x8 h4 fun x9 =>
  xIdx (some (some 12, 1)) x3 s3.1 fun x10 =>
  xStore (some 1) x10 x9 h4 fun h5 =>
  xBin (some (.int .i64)) .add s3.1 (.int .i64 (.ofNat 1)) fun x11 =>
  K4 (x11, ()) h5)
  (xAddr (some 14) x1 fun x12 =>
  xLoad (some none) x12 h4 fun x13 =>
  c149_1 x3 x13 h4 x1 x2 k)
noncomputable abbrev c149_3 (h2 : CH) (x1 : CV) (x2 : CV) (k : CV → CH → Bool) : Bool :=
 xBoxP 252 [(.int .u32 (.ofNat 0)), (.int .u32 (.ofNat 0)), (.int .u32 (.ofNat 0)), (.int .u32 (.ofNat 0)), (.int .u32 (.ofNat 0)), (.int .u32 (.ofNat 0)), (.int .u32 (.ofNat 0)), (.int .u32 (.ofNat 0)), (.int .u32 (.ofNat 0)), (.int .u32 (.ofNat 0)), (.int .u32 (.ofNat 0)), (.int .u32 (.ofNat 0))] h2 fun x3 h3 =>
 xLoop (n := 1) (fun K4 s3 h4 =>
  xBin (some (.int .i64)) .lss s3.1 (.int .i64 (.ofNat 10)) fun x6 =>
  c149_2 x6 x1 s3 h4 x3 K4 x2 k) 1000000 ((.int .i64 (.ofNat 0)), ()) h3
noncomputable def bd149 (v0 : CV) (h : CH) (k : CV → CH → Bool) : Bool :=
 xBox 99 v0 h fun x1 h1 =>
 xBoxP 252 [(.int .u32 (.ofNat 0)), (.int .u32 (.ofNat 0)), (.int .u32 (.ofNat 0)), (.int .u32 (.ofNat 0)), (.int .u32 (.ofNat 0)), (.int .u32 (.ofNat 0)), (.int .u32 (.ofNat 0)), (.int .u32 (.ofNat 0)), (.int .u32 (.ofNat 0)), (.int .u32 (.ofNat 0)), (.int .u32 (.ofNat 0)), (.int .u32 (.ofNat 0))] h1 fun x2 h2 =>
 c149_3 h2 x1 x2 k
noncomputable abbrev ex149 : Ex := fun args h k => a1 args fun v0 => bd149 v0 h k
set_option maxRecDepth 100000 in
theorem sim149 : SimF Tryz.prog 149 ex149 := fun args h k hk => by
  obtain ⟨v0, rfl, hk⟩ := a1_ok hk
  exact sim_of (qf := (fun f => [46, 47, 62, 75, 82, 97, 104, 114, 121, 127, 128, 141, 151, 156, 157, 183].contains f)) (Z := zs) (C := []) (T := []) ⟨zerosB_ok zsOk, exNil⟩ (.seq .nil (.seq .nil (.seq (.seq .nil (.loop [4] [5, 6, 9, 10, 11, 12, 13, 14, 7, 8] .nil)) .nil))) Tryz.func149 _ h k (Eq.mp (by kernel_rfl : (bd149 v0 h k = true) = (xFn Tryz.prog (fun f => [46, 47, 62, 75, 82, 97, 104, 114, 121, 127, 128, 141, 151, 156, 157, 183].contains f) zs [] [] Tryz.f149 (.seq .nil (.seq .nil (.seq (.seq .nil (.loop [4] [5, 6, 9, 10, 11, 12, 13, 14, 7, 8] .nil)) .nil))) [v0] h k = true)) hk)

/- undercroft/undercroftref10.Encode -/
noncomputable abbrev c91_1 (s24 : TupC 1) (x24 : CV) (h15 : CH) (x28 : CV) (x3 : CV) (K25 : TupC 1 → CH → Bool) : Bool :=
 xBin (some (.int .i64)) .mul (.int .i64 (.ofNat 4)) s24.1 fun x29 =>
 xBin (some (.int .i64)) .add (.int .i64 (.ofNat 12)) x29 fun x30 =>
 xIdx (some (some 12, 1)) x24 s24.1 fun x31 =>
 xLoad (some none) x31 h15 fun x32 =>
 bd148 x28 x30 (.int .i64 (.ofNat 4)) x32 h15 fun x33 h16 =>
 xStore (some 64) x3 x33 h16 fun h17 =>
 xBin (some (.int .i64)) .add s24.1 (.int .i64 (.ofNat 1)) fun x34 =>
 K25 (x34, ()) h17
noncomputable abbrev c91_2 (x3 : CV) (x24 : CV) (x2 : CV) (k : CV → CH → Bool) (h14 : CH) : Bool :=
 xLoop (n := 1) (fun K25 s24 h15 =>
  xBin (some (.int .i64)) .lss s24.1 (.int .i64 (.ofNat 12)) fun x27 =>
  xIte x27
   (xLoad (some (some 64)) x3 h15 fun x28 =>
   c91_1 s24 x24 h15 x28 x3 K25)
   (xLoad (some (some 64)) x3 h15 fun x35 =>
   xStore (some 64) x2 x35 h15 fun h18 =>
   xLoad (some (some 64)) x2 h18 fun x36 =>
   k x36 h18)) 1000000 ((.int .i64 (.ofNat 0)), ()) h14
noncomputable abbrev c91_3 (h12 : CH) (x23 : CV) (x3 : CV) (x2 : CV) (k : CV → CH → Bool) : Bool :=
 xBoxP 252 [(.int .u32 (.ofNat 0)), (.int .u32 (.ofNat 0)), (.int .u32 (.ofNat 0)), (.int .u32 (.ofNat 0)), (.int .u32 (.ofNat 0)), (.int .u32 (.ofNat 0)), (.int .u32 (.ofNat 0)), (.int .u32 (.ofNat 0)), (.int .u32 (.ofNat 0)), (.int .u32 (.ofNat 0)), (.int .u32 (.ofNat 0)), (.int .u32 (.ofNat 0))] h12 fun x24 h13 =>
 xStore (some 12) x24 x23 h13 fun h14 =>
 c91_2 x3 x24 x2 k h14
noncomputable abbrev c91_4 (x3 : CV) (x17 : CV) (h8 : CH) (x1 : CV) (x2 : CV) (k : CV → CH → Bool) : Bool :=
 xStore (some 64) x3 x17 h8 fun h9 =>
 xLoad (some (some 64)) x3 h9 fun x18 =>
 xAddr (some 3) x1 fun x19 =>
 xLoad (some none) x19 h9 fun x20 =>
 bd148 x18 (.int .i64 (.ofNat 8)) (.int .i64 (.ofNat 4)) x20 h9 fun x21 h10 =>
 xStore (some 64) x3 x21 h10 fun h11 =>
 xLoad (some (some 16)) x1 h11 fun x22 =>
 bd149 x22 h11 fun x23 h12 =>
 c91_3 h12 x23 x3 x2 k
noncomputable abbrev c91_5 (x11 : CV) (x9 : CV) (h5 : CH) (x3 : CV) (x1 : CV) (x2 : CV) (k : CV → CH → Bool) : Bool :=
 xConv (some (.int .u16)) (some (.int .u32)) x11 fun x12 =>
 bd148 x9 (.int .i64 (.ofNat 2)) (.int .i64 (.ofNat 2)) x12 h5 fun x13 h6 =>
 xStore (some 64) x3 x13 h6 fun h7 =>
 xLoad (some (some 64)) x3 h7 fun x14 =>
 xAddr (some 2) x1 fun x15 =>
 xLoad (some none) x15 h7 fun x16 =>
 bd148 x14 (.int .i64 (.ofNat 4)) (.int .i64 (.ofNat 4)) x16 h7 fun x17 h8 =>
 c91_4 x3 x17 h8 x1 x2 k
noncomputable abbrev c91_6 (x1 : CV) (h3 : CH) (x4 : CV) (x3 : CV) (x2 : CV) (k : CV → CH → Bool) : Bool :=
 xAddr (some 0) x1 fun x5 =>
 xLoad (some none) x5 h3 fun x6 =>
 xConv (some (.int .u16)) (some (.int .u32)) x6 fun x7 =>
 bd148 x4 (.int .i64 (.ofNat 0)) (.int .i64 (.ofNat 2)) x7 h3 fun x8 h4 =>
 xStore (some 64) x3 x8 h4 fun h5 =>
 xLoad (some (some 64)) x3 h5 fun x9 =>
 xAddr (some 1) x1 fun x10 =>
 xLoad (some none) x10 h5 fun x11 =>
 c91_5 x11 x9 h5 x3 x1 x2 k
noncomputable def bd91 (v0 : CV) (h : CH) (k : CV → CH → Bool) : Bool :=
 xBox 99 v0 h fun x1 h1 =>
 xBoxP 172 [(.bytes 64 0)] h1 fun x2 h2 =>
 xBoxP 172 [(.bytes 64 0)] h2 fun x3 h3 =>
 xLoad (some (some 64)) x3 h3 fun x4 =>
 c91_6 x1 h3 x4 x3 x2 k
noncomputable abbrev ex91 : Ex := fun args h k => a1 args fun v0 => bd91 v0 h k
set_option maxRecDepth 100000 in
theorem sim91 : SimF Tryz.prog 91 ex91 := fun args h k hk => by
  obtain ⟨v0, rfl, hk⟩ := a1_ok hk
  exact sim_of (qf := (fun f => [46, 47, 62, 75, 82, 97, 104, 114, 121, 127, 128, 141, 151, 156, 157, 183].contains f)) (Z := zs) (C := [(148, ex148), (149, ex149)]) (T := []) ⟨zerosB_ok zsOk, (exCons (by kernel_rfl) sim148 (exCons (by kernel_rfl) sim149 exNil))⟩ (.seq .nil (.seq .nil (.seq .nil (.seq .nil (.seq .nil (.seq .nil (.seq .nil (.seq (.seq .nil (.loop [5] [26, 27, 30, 31, 32, 33, 34, 35, 36, 37, 28, 29] .nil)) .nil)))))))) Tryz.func91 _ h k (Eq.mp (by kernel_rfl : (bd91 v0 h k = true) = (xFn Tryz.prog (fun f => [46, 47, 62, 75, 82, 97, 104, 114, 121, 127, 128, 141, 151, 156, 157, 183].contains f) zs [(148, ex148), (149, ex149)] [] Tryz.f91 (.seq .nil (.seq .nil (.seq .nil (.seq .nil (.seq .nil (.seq .nil (.seq .nil (.seq (.seq .nil (.loop [5] [26, 27, 30, 31, 32, 33, 34, 35, 36, 37, 28, 29] .nil)) .nil)))))))) [v0] h k = true)) hk)

/- (*undercroft/undercroftkit.Page).item -/
noncomputable abbrev c44_1 (x23 : CV) (h8 : CH) (x1 : CV) (s15 : TupC 1) (v0 : CV) (x19 : CV) (x14 : CV) (K16 : TupC 1 → CH → Bool) : Bool :=
 xLoad (some none) x23 h8 fun x24 =>
 xAddr (some 5) x1 fun x25 =>
 xLoad (some none) x25 h8 fun x26 =>
 xIdx (some (none, 1025)) x26 s15.1 fun x27 =>
 xAddr (some 1) x27 fun x28 =>
 xLoad (some (some 1024)) x28 h8 fun x29 =>
 bd90 v0 x19 x24 x29 h8 fun x30 h9 =>
 xStore (some 16) x14 x30 h9 fun h10 =>
 xBin (some (.int .i64)) .add s15.1 (.int .i64 (.ofNat 1)) fun x31 =>
 K16 (x31, ()) h10
noncomputable abbrev c44_2 (x51 : CV) (s34 : TupC 1) (x34 : CV) (h14 : CH) (x40 : CV) (x48 : CV) (K35 : TupC 1 → CH → Bool) : Bool :=
 xBin (some (.int .i64)) .mul (.int .i64 (.ofNat 64)) x51 fun x52 =>
 xBin (some (.int .i64)) .add x52 s34.1 fun x53 =>
 xIdx (some (some 64, 1)) x34 s34.1 fun x54 =>
 xLoad (some none) x54 h14 fun x55 =>
 xIdx (some (none, 1024)) x40 x48 fun x56 =>
 xIdx (some (some 1024, 1)) x56 x53 fun x57 =>
 xStore (some 1) x57 x55 h14 fun h15 =>
 xBin (some (.int .i64)) .add s34.1 (.int .i64 (.ofNat 1)) fun x58 =>
 K35 (x58, ()) h15
noncomputable abbrev c44_3 (x43 : CV) (h14 : CH) (x1 : CV) (s34 : TupC 1) (x34 : CV) (x40 : CV) (K35 : TupC 1 → CH → Bool) : Bool :=
 xLoad (some none) x43 h14 fun x44 =>
 xAddr (some 0) x1 fun x45 =>
 xLoad (some none) x45 h14 fun x46 =>
 xBin (some (.int .i64)) .quo x46 (.int .i64 (.ofNat 16)) fun x47 =>
 xBin (some (.int .i64)) .add x44 x47 fun x48 =>
 xAddr (some 0) x1 fun x49 =>
 xLoad (some none) x49 h14 fun x50 =>
 xBin (some (.int .i64)) .rem x50 (.int .i64 (.ofNat 16)) fun x51 =>
 c44_2 x51 s34 x34 h14 x40 x48 K35
noncomputable abbrev c44_4 (v0 : CV) (x1 : CV) (x34 : CV) (k : CV → CH → Bool) (h13 : CH) : Bool :=
 xLoop (n := 1) (fun K35 s34 h14 =>
  xBin (some (.int .i64)) .lss s34.1 (.int .i64 (.ofNat 64)) fun x37 =>
  xIte x37
   (xNilCheck v0 fun x38 =>
   xAddr (some 9) x38 fun x39 =>
   xLoad (some none) x39 h14 fun x40 =>
   xNilCheck v0 fun x41 =>
   xAddr (some 0) x41 fun x42 =>
   xAddr (some 4) x42 fun x43 =>
   c44_3 x43 h14 x1 s34 x34 x40 K35)
   (k (.tup []) h14)) 1000000 ((.int .i64 (.ofNat 0)), ()) h13
noncomputable abbrev c44_5 (s17 : TupC 1) (x14 : CV) (h8 : CH) (x1 : CV) (s15 : TupC 1) (v0 : CV) (K16 : TupC 1 → CH → Bool) (k : CV → CH → Bool) : Bool :=
 xIte s17.1
  (xLoad (some (some 16)) x14 h8 fun x19 =>
  xAddr (some 5) x1 fun x20 =>
  xLoad (some none) x20 h8 fun x21 =>
  xIdx (some (none, 1025)) x21 s15.1 fun x22 =>
  xAddr (some 0) x22 fun x23 =>
  c44_1 x23 h8 x1 s15 v0 x19 x14 K16)
  (xLoad (some (some 16)) x14 h8 fun x32 =>
  bd91 x32 h8 fun x33 h11 =>
  xBoxP 172 [(.bytes 64 0)] h11 fun x34 h12 =>
  xStore (some 64) x34 x33 h12 fun h13 =>
  c44_4 v0 x1 x34 k h13)
noncomputable abbrev c44_6 (x63 : CV) (x1 : CV) (h7 : CH) (v0 : CV) (K58 : TupC 1 → CH → Bool) : Bool :=
 xIte x63
  (xAddr (some 1) x1 fun x64 =>
  xLoad (some none) x64 h7 fun x65 =>
  xBin (some (.int .u16)) .eql x65 (.int .u16 (.ofNat 1)) fun x66 =>
  xIte x66
   (xNilCheck v0 fun x67 =>
   xAddr (some 13) x67 fun x68 =>
   xLoad (some none) x68 h7 fun x69 =>
   xUn .not x69 fun x70 =>
   K58 (x70, ()) h7)
   (K58 ((.bool false), ()) h7))
  (K58 ((.bool false), ()) h7)
noncomputable abbrev c44_7 (x1 : CV) (h5 : CH) (x14 : CV) (v0 : CV) (K70 : TupC 0 → CH → Bool) : Bool :=
 xAddr (some 1) x1 fun x72 =>
 xLoad (some none) x72 h5 fun x73 =>
 xBin (some (.int .u16)) .eql x73 (.int .u16 (.ofNat 2)) fun x74 =>
 xIte x74
  (xLoad (some (some 16)) x14 h5 fun x75 =>
  xAddr (some 6) x1 fun x76 =>
  xLoad (some none) x76 h5 fun x77 =>
  bd89 v0 x75 x77 h5 fun x78 h16 =>
  xStore (some 16) x14 x78 h16 fun h17 =>
  K70 (()) h17)
  (K70 (()) h5)
noncomputable abbrev c44_8 (x14 : CV) (x1 : CV) (v0 : CV) (k : CV → CH → Bool) (h5 : CH) : Bool :=
 xJoin (n := 0) (fun s14 h6 =>
  xLoop (n := 1) (fun K16 s15 h7 =>
   xJoin (n := 1) (fun s17 h8 =>
    c44_5 s17 x14 h8 x1 s15 v0 K16 k)
   (fun K58 => xAddr (some 5) x1 fun x60 =>
   xLoad (some none) x60 h7 fun x61 =>
   xLen (some (.inl false)) x61 fun x62 =>
   xBin (some (.int .i64)) .lss s15.1 x62 fun x63 =>
   c44_6 x63 x1 h7 v0 K58)) 1000000 ((.int .i64 (.ofNat 0)), ()) h6)
 (fun K70 => c44_7 x1 h5 x14 v0 K70)
noncomputable abbrev c44_9 (h2 : CH) (x13 : CV) (x1 : CV) (v0 : CV) (k : CV → CH → Bool) : Bool :=
 xBoxP 99 [(.int .u16 (.ofNat 0)), (.int .u16 (.ofNat 0)), (.int .u32 (.ofNat 0)), (.int .u32 (.ofNat 0)), (.int .u32 (.ofNat 0)), (.int .u32 (.ofNat 0)), (.int .u32 (.ofNat 0)), (.int .u32 (.ofNat 0)), (.int .u32 (.ofNat 0)), (.int .u32 (.ofNat 0)), (.int .u32 (.ofNat 0)), (.int .u32 (.ofNat 0)), (.int .u32 (.ofNat 0)), (.int .u32 (.ofNat 0)), (.int .u32 (.ofNat 0)), (.int .u32 (.ofNat 0))] h2 fun x14 h4 =>
 xStore (some 16) x14 x13 h4 fun h5 =>
 c44_8 x14 x1 v0 k h5
noncomputable abbrev c44_10 (x6 : CV) (x9 : CV) (x12 : CV) (h2 : CH) (x1 : CV) (v0 : CV) (k : CV → CH → Bool) : Bool :=
 xBuild (some (.inl [(0, 1), (1, 1), (2, 1), (3, 1), (4, 10), (14, 1), (15, 1)])) (some (.agg [(.int .u16 (.ofNat 0)), (.int .u16 (.ofNat 0)), (.int .u32 (.ofNat 0)), (.int .u32 (.ofNat 0)), (.int .u32 (.ofNat 0)), (.int .u32 (.ofNat 0)), (.int .u32 (.ofNat 0)), (.int .u32 (.ofNat 0)), (.int .u32 (.ofNat 0)), (.int .u32 (.ofNat 0)), (.int .u32 (.ofNat 0)), (.int .u32 (.ofNat 0)), (.int .u32 (.ofNat 0)), (.int .u32 (.ofNat 0)), (.int .u32 (.ofNat 0)), (.int .u32 (.ofNat 0))])) [(0, x6), (1, x9), (2, x12)] fun x13 =>
 c44_9 h2 x13 x1 v0 k
noncomputable abbrev c44_11 (s1 : TupC 1) (v0 : CV) (h2 : CH) (k : CV → CH → Bool) (x1 : CV) : Bool :=
 xIte s1.1
  (xNilCheck v0 fun x3 =>
  xAddr (some 13) x3 fun x4 =>
  xStore (some 1) x4 (.bool true) h2 fun h3 =>
  k (.tup []) h3)
  (xAddr (some 1) x1 fun x5 =>
  xLoad (some none) x5 h2 fun x6 =>
  xAddr (some 2) x1 fun x7 =>
  xLoad (some none) x7 h2 fun x8 =>
  xConv (some (.int .i64)) (some (.int .u16)) x8 fun x9 =>
  xAddr (some 3) x1 fun x10 =>
  xLoad (some none) x10 h2 fun x11 =>
  xConv (some (.int .i64)) (some (.int .u32)) x11 fun x12 =>
  c44_10 x6 x9 x12 h2 x1 v0 k)
noncomputable abbrev c44_12 (x81 : CV) (K78 : TupC 1 → CH → Bool) (h1 : CH) (x1 : CV) (v0 : CV) : Bool :=
 xBin (some (.int .i64)) .lss x81 (.int .i64 (.ofNat 1)) fun x82 =>
 xIte x82
  (K78 ((.bool true), ()) h1)
  (xAddr (some 0) x1 fun x83 =>
  xLoad (some none) x83 h1 fun x84 =>
  xNilCheck v0 fun x85 =>
  xAddr (some 0) x85 fun x86 =>
  xAddr (some 0) x86 fun x87 =>
  xAddr (some 2) x87 fun x88 =>
  xLoad (some none) x88 h1 fun x89 =>
  xBin (some (.int .i64)) .gtr x84 x89 fun x90 =>
  K78 (x90, ()) h1)
noncomputable def bd44 (v0 v1 : CV) (h : CH) (k : CV → CH → Bool) : Bool :=
 xBox 82 v1 h fun x1 h1 =>
 xJoin (n := 1) (fun s1 h2 =>
  c44_11 s1 v0 h2 k x1)
 (fun K78 => xAddr (some 0) x1 fun x80 =>
 xLoad (some none) x80 h1 fun x81 =>
 c44_12 x81 K78 h1 x1 v0)
noncomputable abbrev ex44 : Ex := fun args h k => a2 args fun v0 v1 => bd44 v0 v1 h k
set_option maxRecDepth 100000 in
theorem sim44 : SimF Tryz.prog 44 ex44 := fun args h k hk => by
  obtain ⟨v0, v1, rfl, hk⟩ := a2_ok hk
  exact sim_of (qf := (fun f => [46, 47, 62, 75, 82, 97, 104, 114, 121, 127, 128, 141, 151, 156, 157, 183].contains f)) (Z := zs) (C := [(90, ex90), (91, ex91), (89, ex89)]) (T := []) ⟨zerosB_ok zsOk, (exCons (by kernel_rfl) sim90 (exCons (by kernel_rfl) sim91 (exCons (by kernel_rfl) sim89 exNil)))⟩ (.seq .nil (.seq (.join [21] [8, 9, 10, 11, 12, 13, 14, 15, 16, 17, 18, 19, 20] .nil .nil) (.seq .nil (.join [] [34, 35, 36, 37, 38, 39, 40, 41] .nil (.seq (.seq .nil (.loop [5] [42, 43, 44, 45, 46, 47, 48, 49, 50, 51, 52, 53, 54, 55, 56, 57, 58, 61, 62, 63, 64, 65, 66, 67, 68, 69, 70, 71, 72, 73, 74, 75, 59, 60] (.seq (.join [58] [42, 43, 44, 45, 46, 47, 48, 49, 50, 51, 52, 53, 54, 55, 56, 57] .nil .nil) .nil))) (.seq .nil (.seq .nil (.loop [7] [78, 79, 82, 83, 84, 85, 86, 87, 88, 89, 90, 91, 92, 93, 94, 95, 96, 97, 98, 99, 100, 101, 102, 103, 104, 105, 80, 81] .nil)))))))) Tryz.func44 _ h k (Eq.mp (by kernel_rfl : (bd44 v0 v1 h k = true) = (xFn Tryz.prog (fun f => [46, 47, 62, 75, 82, 97, 104, 114, 121, 127, 128, 141, 151, 156, 157, 183].contains f) zs [(90, ex90), (91, ex91), (89, ex89)] [] Tryz.f44 (.seq .nil (.seq (.join [21] [8, 9, 10, 11, 12, 13, 14, 15, 16, 17, 18, 19, 20] .nil .nil) (.seq .nil (.join [] [34, 35, 36, 37, 38, 39, 40, 41] .nil (.seq (.seq .nil (.loop [5] [42, 43, 44, 45, 46, 47, 48, 49, 50, 51, 52, 53, 54, 55, 56, 57, 58, 61, 62, 63, 64, 65, 66, 67, 68, 69, 70, 71, 72, 73, 74, 75, 59, 60] (.seq (.join [58] [42, 43, 44, 45, 46, 47, 48, 49, 50, 51, 52, 53, 54, 55, 56, 57] .nil .nil) .nil))) (.seq .nil (.seq .nil (.loop [7] [78, 79, 82, 83, 84, 85, 86, 87, 88, 89, 90, 91, 92, 93, 94, 95, 96, 97, 98, 99, 100, 101, 102, 103, 104, 105, 80, 81] .nil)))))))) [v0, v1] h k = true)) hk)

/- undercroft/undercroftref03.Fits -/
noncomputable abbrev c92_1 (x1 : CV) (h4 : CH) (x9 : CV) (k : CV → CH → Bool) : Bool :=
 xLoad (some (some 9)) x1 h4 fun x10 =>
 xEq (some (.agg (.fld 0 (some (some 3)) (.fld 0 (some none) .int (.fld 1 (some none) .int (.fld 2 (some none) .int .done))) (.fld 3 (some none) .int (.fld 4 (some none) .int (.fld 5 (some none) .int (.fld 6 (some none) .int (.fld 7 (some none) .int (.fld 8 (some none) .int .done))))))))) .eql x9 x10 h4 fun x11 =>
 k x11 h4
noncomputable abbrev c92_2 (h2 : CH) (x5 : CV) (x6 : CV) (x1 : CV) (k : CV → CH → Bool) : Bool :=
 xBoxP 58 [(.int .i64 (.ofNat 0)), (.int .i64 (.ofNat 0)), (.int .i64 (.ofNat 0)), (.int .i64 (.ofNat 0)), (.int .i64 (.ofNat 0)), (.int .i64 (.ofNat 0)), (.int .i64 (.ofNat 0)), (.int .i64 (.ofNat 0)), (.int .i64 (.ofNat 0))] h2 fun x7 h3 =>
 xStore (some 9) x7 x5 h3 fun h4 =>
 xBin (some (.int .i64)) .eql x6 (.int .i64 (.ofNat 0)) fun x8 =>
 xIte x8
  (xLoad (some (some 9)) x7 h4 fun x9 =>
  c92_1 x1 h4 x9 k)
  (k (.bool false) h4)
noncomputable def bd92 (v0 : CV) (h : CH) (k : CV → CH → Bool) : Bool :=
 xBox 58 v0 h fun x1 h1 =>
 xAddr (some 0) x1 fun x2 =>
 xLoad (some (some 3)) x2 h1 fun x3 =>
 bd20 x3 h1 fun x4 h2 =>
 xExtract x4 0 fun x5 =>
 xExtract x4 1 fun x6 =>
 c92_2 h2 x5 x6 x1 k
noncomputable abbrev ex92 : Ex := fun args h k => a1 args fun v0 => bd92 v0 h k
set_option maxRecDepth 100000 in
theorem sim92 : SimF Tryz.prog 92 ex92 := fun args h k hk => by
  obtain ⟨v0, rfl, hk⟩ := a1_ok hk
  exact sim_of (qf := (fun f => [46, 47, 62, 75, 82, 97, 104, 114, 121, 127, 128, 141, 151, 156, 157, 183].contains f)) (Z := zs) (C := [(20, ex20)]) (T := []) ⟨zerosB_ok zsOk, (exCons (by kernel_rfl) sim20 exNil)⟩ .nil Tryz.func92 _ h k (Eq.mp (by kernel_rfl : (bd92 v0 h k = true) = (xFn Tryz.prog (fun f => [46, 47, 62, 75, 82, 97, 104, 114, 121, 127, 128, 141, 151, 156, 157, 183].contains f) zs [(20, ex20)] [] Tryz.f92 .nil [v0] h k = true)) hk)

/- undercroft/undercroftref03.numbers -/
noncomputable abbrev c93_1 (x5 : CV) (x8 : CV) (x11 : CV) (x13 : CV) (x15 : CV) (x17 : CV) (x19 : CV) (x21 : CV) (x23 : CV) (x2 : CV) (h2 : CH) (k : CV → CH → Bool) : Bool :=
 xBuild (some (.inr 1)) (some (.agg [(.int .i64 (.ofNat 0)), (.int .i64 (.ofNat 0)), (.int .i64 (.ofNat 0)), (.int .i64 (.ofNat 0)), (.int .i64 (.ofNat 0)), (.int .i64 (.ofNat 0)), (.int .i64 (.ofNat 0)), (.int .i64 (.ofNat 0)), (.int .i64 (.ofNat 0))])) [(0, x5), (1, x8), (2, x11), (3, x13), (4, x15), (5, x17), (6, x19), (7, x21), (8, x23)] fun x24 =>
 xStore (some 9) x2 x24 h2 fun h3 =>
 xLoad (some (some 9)) x2 h3 fun x25 =>
 k x25 h3
noncomputable abbrev c93_2 (x1 : CV) (h2 : CH) (x5 : CV) (x8 : CV) (x11 : CV) (x13 : CV) (x2 : CV) (k : CV → CH → Bool) : Bool :=
 xAddr (some 4) x1 fun x14 =>
 xLoad (some none) x14 h2 fun x15 =>
 xAddr (some 5) x1 fun x16 =>
 xLoad (some none) x16 h2 fun x17 =>
 xAddr (some 6) x1 fun x18 =>
 xLoad (some none) x18 h2 fun x19 =>
 xAddr (some 7) x1 fun x20 =>
 xLoad (some none) x20 h2 fun x21 =>
 xAddr (some 8) x1 fun x22 =>
 xLoad (some none) x22 h2 fun x23 =>
 c93_1 x5 x8 x11 x13 x15 x17 x19 x21 x23 x2 h2 k
noncomputable abbrev c93_3 (x1 : CV) (h2 : CH) (x2 : CV) (k : CV → CH → Bool) : Bool :=
 xAddr (some 0) x1 fun x3 =>
 xAddr (some 0) x3 fun x4 =>
 xLoad (some none) x4 h2 fun x5 =>
 xAddr (some 0) x1 fun x6 =>
 xAddr (some 1) x6 fun x7 =>
 xLoad (some none) x7 h2 fun x8 =>
 xAddr (some 0) x1 fun x9 =>
 xAddr (some 2) x9 fun x10 =>
 xLoad (some none) x10 h2 fun x11 =>
 xAddr (some 3) x1 fun x12 =>
 xLoad (some none) x12 h2 fun x13 =>
 c93_2 x1 h2 x5 x8 x11 x13 x2 k
noncomputable def bd93 (v0 : CV) (h : CH) (k : CV → CH → Bool) : Bool :=
 xBox 58 v0 h fun x1 h1 =>
 xBoxP 197 [(.int .i64 (.ofNat 0)), (.int .i64 (.ofNat 0)), (.int .i64 (.ofNat 0)), (.int .i64 (.ofNat 0)), (.int .i64 (.ofNat 0)), (.int .i64 (.ofNat 0)), (.int .i64 (.ofNat 0)), (.int .i64 (.ofNat 0)), (.int .i64 (.ofNat 0))] h1 fun x2 h2 =>
 c93_3 x1 h2 x2 k
noncomputable abbrev ex93 : Ex := fun args h k => a1 args fun v0 => bd93 v0 h k
set_option maxRecDepth 100000 in
theorem sim93 : SimF Tryz.prog 93 ex93 := fun args h k hk => by
  obtain ⟨v0, rfl, hk⟩ := a1_ok hk
  exact sim_of (qf := (fun f => [46, 47, 62, 75, 82, 97, 104, 114, 121, 127, 128, 141, 151, 156, 157, 183].contains f)) (Z := zs) (C := []) (T := []) ⟨zerosB_ok zsOk, exNil⟩ .nil Tryz.func93 _ h k (Eq.mp (by kernel_rfl : (bd93 v0 h k = true) = (xFn Tryz.prog (fun f => [46, 47, 62, 75, 82, 97, 104, 114, 121, 127, 128, 141, 151, 156, 157, 183].contains f) zs [] [] Tryz.f93 .nil [v0] h k = true)) hk)

/- undercroft/undercroftref03.Encode -/
noncomputable abbrev c45_1 (s23 : TupC 2) (x8 : CV) (x29 : CV) (h12 : CH) (K24 : TupC 2 → CH → Bool) : Bool :=
 xBin (some (.int .i64)) .rem s23.1 (.int .i64 (.ofNat 256)) fun x30 =>
 xConv (some (.int .i64)) (some (.int .u8)) x30 fun x31 =>
 xIdx (some (some 1024, 1)) x8 x29 fun x32 =>
 xStore (some 1) x32 x31 h12 fun h13 =>
 xBin (some (.int .i64)) .quo s23.1 (.int .i64 (.ofNat 256)) fun x33 =>
 xBin (some (.int .i64)) .add s23.2.1 (.int .i64 (.ofNat 1)) fun x34 =>
 K24 (x33, x34, ()) h13
noncomputable abbrev c45_2 (s23 : TupC 2) (s18 : TupC 1) (x8 : CV) (h12 : CH) (K24 : TupC 2 → CH → Bool) (K19 : TupC 1 → CH → Bool) : Bool :=
 xBin (some (.int .i64)) .lss s23.2.1 (.int .i64 (.ofNat 4)) fun x26 =>
 xIte x26
  (xBin (some (.int .i64)) .mul (.int .i64 (.ofNat 4)) s18.1 fun x27 =>
  xBin (some (.int .i64)) .add (.int .i64 (.ofNat 8)) x27 fun x28 =>
  xBin (some (.int .i64)) .add x28 s23.2.1 fun x29 =>
  c45_1 s23 x8 x29 h12 K24)
  (xBin (some (.int .i64)) .add s18.1 (.int .i64 (.ofNat 1)) fun x35 =>
  K19 (x35, ()) h12)
noncomputable abbrev c45_3 (x21 : CV) (x18 : CV) (s18 : TupC 1) (h11 : CH) (x8 : CV) (K19 : TupC 1 → CH → Bool) (x2 : CV) (k : CV → CH → Bool) : Bool :=
 xIte x21
  (xIdx (some (some 9, 1)) x18 s18.1 fun x22 =>
  xLoad (some none) x22 h11 fun x23 =>
  xLoop (n := 2) (fun K24 s23 h12 =>
   c45_2 s23 s18 x8 h12 K24 K19) 1000000 (x23, (.int .i64 (.ofNat 0)), ()) h11)
  (xLoad (some (some 1024)) x8 h11 fun x36 =>
  xStore (some 1024) x2 x36 h11 fun h14 =>
  xLoad (some (some 1024)) x2 h14 fun x37 =>
  k (.tup [x37, (.int .i64 (.ofNat 0))]) h14)
noncomputable abbrev c45_4 (h8 : CH) (x17 : CV) (x8 : CV) (x2 : CV) (k : CV → CH → Bool) : Bool :=
 xBoxP 197 [(.int .i64 (.ofNat 0)), (.int .i64 (.ofNat 0)), (.int .i64 (.ofNat 0)), (.int .i64 (.ofNat 0)), (.int .i64 (.ofNat 0)), (.int .i64 (.ofNat 0)), (.int .i64 (.ofNat 0)), (.int .i64 (.ofNat 0)), (.int .i64 (.ofNat 0))] h8 fun x18 h9 =>
 xStore (some 9) x18 x17 h9 fun h10 =>
 xLoop (n := 1) (fun K19 s18 h11 =>
  xBin (some (.int .i64)) .lss s18.1 (.int .i64 (.ofNat 9)) fun x21 =>
  c45_3 x21 x18 s18 h11 x8 K19 x2 k) 1000000 ((.int .i64 (.ofNat 0)), ()) h10
noncomputable abbrev c45_5 (x12 : CV) (s8 : TupC 1) (x8 : CV) (h6 : CH) (K9 : TupC 1 → CH → Bool) (x1 : CV) (x2 : CV) (k : CV → CH → Bool) : Bool :=
 xIte x12
  (xIndex (some none) (.str ⟨#[99, 114, 111, 102, 116, 102, 115, 49]⟩) s8.1 fun x13 =>
  xIdx (some (some 1024, 1)) x8 s8.1 fun x14 =>
  xStore (some 1) x14 x13 h6 fun h7 =>
  xBin (some (.int .i64)) .add s8.1 (.int .i64 (.ofNat 1)) fun x15 =>
  K9 (x15, ()) h7)
  (xLoad (some (some 9)) x1 h6 fun x16 =>
  bd93 x16 h6 fun x17 h8 =>
  c45_4 h8 x17 x8 x2 k)
noncomputable abbrev c45_6 (x5 : CV) (x2 : CV) (h3 : CH) (k : CV → CH → Bool) (x1 : CV) : Bool :=
 xIte x5
  (xBuild (some (.inr 1)) (some (.agg [(.bytes 1024 0)])) [] fun x6 =>
  xStore (some 1024) x2 x6 h3 fun h4 =>
  xLoad (some (some 1024)) x2 h4 fun x7 =>
  k (.tup [x7, (.int .i64 (.ofNat 2))]) h4)
  (xBoxP 124 [(.bytes 1024 0)] h3 fun x8 h5 =>
  xLoop (n := 1) (fun K9 s8 h6 =>
   xLen (some (.inl true)) (.str ⟨#[99, 114, 111, 102, 116, 102, 115, 49]⟩) fun x11 =>
   xBin (some (.int .i64)) .lss s8.1 x11 fun x12 =>
   c45_5 x12 s8 x8 h6 K9 x1 x2 k) 1000000 ((.int .i64 (.ofNat 0)), ()) h5)
noncomputable def bd45 (v0 : CV) (h : CH) (k : CV → CH → Bool) : Bool :=
 xBox 58 v0 h fun x1 h1 =>
 xBoxP 124 [(.bytes 1024 0)] h1 fun x2 h2 =>
 xLoad (some (some 9)) x1 h2 fun x3 =>
 bd92 x3 h2 fun x4 h3 =>
 xUn .not x4 fun x5 =>
 c45_6 x5 x2 h3 k x1
noncomputable abbrev ex45 : Ex := fun args h k => a1 args fun v0 => bd45 v0 h k
set_option maxRecDepth 100000 in
theorem sim45 : SimF Tryz.prog 45 ex45 := fun args h k hk => by
  obtain ⟨v0, rfl, hk⟩ := a1_ok hk
  exact sim_of (qf := (fun f => [46, 47, 62, 75, 82, 97, 104, 114, 121, 127, 128, 141, 151, 156, 157, 183].contains f)) (Z := zs) (C := [(92, ex92), (93, ex93)]) (T := []) ⟨zerosB_ok zsOk, (exCons (by kernel_rfl) sim92 (exCons (by kernel_rfl) sim93 exNil))⟩ (.seq .nil (.seq .nil (.seq .nil (.seq .nil (.seq .nil (.seq (.seq .nil (.loop [7] [17, 18, 19, 20, 23, 24, 25, 26, 27, 21, 22] .nil)) (.seq .nil (.seq (.seq .nil (.loop [9] [30, 31, 34, 35, 36, 10, 11, 37, 38, 41, 42, 43, 44, 45, 46, 47, 48, 49, 50, 51, 39, 40, 32, 33] (.seq .nil (.seq (.seq .nil (.seq .nil (.loop [10, 11] [37, 38, 41, 42, 43, 44, 45, 46, 47, 48, 49, 50, 51, 39, 40] .nil))) .nil)))) .nil)))))))) Tryz.func45 _ h k (Eq.mp (by kernel_rfl : (bd45 v0 h k = true) = (xFn Tryz.prog (fun f => [46, 47, 62, 75, 82, 97, 104, 114, 121, 127, 128, 141, 151, 156, 157, 183].contains f) zs [(92, ex92), (93, ex93)] [] Tryz.f45 (.seq .nil (.seq .nil (.seq .nil (.seq .nil (.seq .nil (.seq (.seq .nil (.loop [7] [17, 18, 19, 20, 23, 24, 25, 26, 27, 21, 22] .nil)) (.seq .nil (.seq (.seq .nil (.loop [9] [30, 31, 34, 35, 36, 10, 11, 37, 38, 41, 42, 43, 44, 45, 46, 47, 48, 49, 50, 51, 39, 40, 32, 33] (.seq .nil (.seq (.seq .nil (.seq .nil (.loop [10, 11] [37, 38, 41, 42, 43, 44, 45, 46, 47, 48, 49, 50, 51, 39, 40] .nil))) .nil)))) .nil)))))))) [v0] h k = true)) hk)

/- undercroft/undercroftref02.Has -/
noncomputable abbrev c94_1 (s6 : TupC 2) (x9 : CV) (K7 : TupC 2 → CH → Bool) (h3 : CH) (k : CV → CH → Bool) : Bool :=
 xBin (some (.int .i64)) .lss s6.2.1 x9 fun x10 =>
 xIte x10
  (xBin (some (.int .i64)) .quo s6.1 (.int .i64 (.ofNat 2)) fun x11 =>
  xBin (some (.int .i64)) .add s6.2.1 (.int .i64 (.ofNat 1)) fun x12 =>
  K7 (x11, x12, ()) h3)
  (xBin (some (.int .i64)) .rem s6.1 (.int .i64 (.ofNat 2)) fun x13 =>
  xBin (some (.int .i64)) .eql x13 (.int .i64 (.ofNat 1)) fun x14 =>
  k x14 h3)
noncomputable abbrev c94_2 (v1 : CV) (x1 : CV) (h2 : CH) (k : CV → CH → Bool) : Bool :=
 xBin (some (.int .i64)) .quo v1 (.int .i64 (.ofNat 8)) fun x3 =>
 xIdx (some (some 1024, 1)) x1 x3 fun x4 =>
 xLoad (some none) x4 h2 fun x5 =>
 xConv (some (.int .u8)) (some (.int .i64)) x5 fun x6 =>
 xLoop (n := 2) (fun K7 s6 h3 =>
  xBin (some (.int .i64)) .rem v1 (.int .i64 (.ofNat 8)) fun x9 =>
  c94_1 s6 x9 K7 h3 k) 1000000 (x6, (.int .i64 (.ofNat 0)), ()) h2
noncomputable def bd94 (v0 v1 : CV) (h : CH) (k : CV → CH → Bool) : Bool :=
 xBox 124 v0 h fun x1 h1 =>
 xJoin (n := 1) (fun s1 h2 =>
  xIte s1.1
   (k (.bool false) h2)
   (c94_2 v1 x1 h2 k))
 (fun K14 => xBin (some (.int .i64)) .lss v1 (.int .i64 (.ofNat 0)) fun x16 =>
 xIte x16
  (K14 ((.bool true), ()) h1)
  (xBin (some (.int .i64)) .geq v1 (.int .i64 (.ofNat 8192)) fun x17 =>
  K14 (x17, ()) h1))
noncomputable abbrev ex94 : Ex := fun args h k => a2 args fun v0 v1 => bd94 v0 v1 h k
set_option maxRecDepth 100000 in
theorem sim94 : SimF Tryz.prog 94 ex94 := fun args h k hk => by
  obtain ⟨v0, v1, rfl, hk⟩ := a2_ok hk
  exact sim_of (qf := (fun f => [46, 47, 62, 75, 82, 97, 104, 114, 121, 127, 128, 141, 151, 156, 157, 183].contains f)) (Z := zs) (C := []) (T := []) ⟨zerosB_ok zsOk, exNil⟩ (.seq .nil (.seq (.join [12] [7, 8, 9, 10, 11] .nil .nil) (.seq .nil (.seq (.seq .nil (.loop [5, 6] [18, 19, 20, 21, 24, 25, 22, 23] .nil)) .nil)))) Tryz.func94 _ h k (Eq.mp (by kernel_rfl : (bd94 v0 v1 h k = true) = (xFn Tryz.prog (fun f => [46, 47, 62, 75, 82, 97, 104, 114, 121, 127, 128, 141, 151, 156, 157, 183].contains f) zs [] [] Tryz.f94 (.seq .nil (.seq (.join [12] [7, 8, 9, 10, 11] .nil .nil) (.seq .nil (.seq (.seq .nil (.loop [5, 6] [18, 19, 20, 21, 24, 25, 22, 23] .nil)) .nil)))) [v0, v1] h k = true)) hk)

/- undercroft/undercroftref02.Set -/
noncomputable abbrev c46_1 (v1 : CV) (x1 : CV) (h5 : CH) (s5 : TupC 2) (K14 : TupC 0 → CH → Bool) : Bool :=
 xBin (some (.int .i64)) .quo v1 (.int .i64 (.ofNat 8)) fun x16 =>
 xBin (some (.int .i64)) .quo v1 (.int .i64 (.ofNat 8)) fun x17 =>
 xIdx (some (some 1024, 1)) x1 x17 fun x18 =>
 xLoad (some none) x18 h5 fun x19 =>
 xBin (some (.int .u8)) .add x19 s5.1 fun x20 =>
 xIdx (some (some 1024, 1)) x1 x16 fun x21 =>
 xStore (some 1) x21 x20 h5 fun h8 =>
 K14 (()) h8
noncomputable abbrev c46_2 (v1 : CV) (x1 : CV) (h5 : CH) (s5 : TupC 2) (K14 : TupC 0 → CH → Bool) : Bool :=
 xBin (some (.int .i64)) .quo v1 (.int .i64 (.ofNat 8)) fun x22 =>
 xBin (some (.int .i64)) .quo v1 (.int .i64 (.ofNat 8)) fun x23 =>
 xIdx (some (some 1024, 1)) x1 x23 fun x24 =>
 xLoad (some none) x24 h5 fun x25 =>
 xBin (some (.int .u8)) .sub x25 s5.1 fun x26 =>
 xIdx (some (some 1024, 1)) x1 x22 fun x27 =>
 xStore (some 1) x27 x26 h5 fun h9 =>
 K14 (()) h9
noncomputable abbrev c46_3 (x9 : CV) (s5 : TupC 2) (K6 : TupC 2 → CH → Bool) (h5 : CH) (x1 : CV) (x2 : CV) (k : CV → CH → Bool) (v2 : CV) (v1 : CV) : Bool :=
 xIte x9
  (xBin (some (.int .u8)) .mul (.int .u8 (.ofNat 2)) s5.1 fun x10 =>
  xBin (some (.int .i64)) .add s5.2.1 (.int .i64 (.ofNat 1)) fun x11 =>
  K6 (x10, x11, ()) h5)
  (xJoin (n := 0) (fun s11 h6 =>
   xLoad (some (some 1024)) x1 h6 fun x13 =>
   xStore (some 1024) x2 x13 h6 fun h7 =>
   xLoad (some (some 1024)) x2 h7 fun x14 =>
   k x14 h7)
  (fun K14 => xIte v2
   (c46_1 v1 x1 h5 s5 K14)
   (c46_2 v1 x1 h5 s5 K14)))
noncomputable abbrev c46_4 (s2 : TupC 1) (x1 : CV) (h3 : CH) (x2 : CV) (k : CV → CH → Bool) (v1 : CV) (v2 : CV) : Bool :=
 xIte s2.1
  (xLoad (some (some 1024)) x1 h3 fun x4 =>
  xStore (some 1024) x2 x4 h3 fun h4 =>
  xLoad (some (some 1024)) x2 h4 fun x5 =>
  k x5 h4)
  (xLoop (n := 2) (fun K6 s5 h5 =>
   xBin (some (.int .i64)) .rem v1 (.int .i64 (.ofNat 8)) fun x8 =>
   xBin (some (.int .i64)) .lss s5.2.1 x8 fun x9 =>
   c46_3 x9 s5 K6 h5 x1 x2 k v2 v1) 1000000 ((.int .u8 (.ofNat 1)), (.int .i64 (.ofNat 0)), ()) h3)
noncomputable abbrev c46_5 (v1 : CV) (K27 : TupC 1 → CH → Bool) (h2 : CH) (x1 : CV) (v2 : CV) : Bool :=
 xBin (some (.int .i64)) .lss v1 (.int .i64 (.ofNat 0)) fun x29 =>
 xIte x29
  (K27 ((.bool true), ()) h2)
  (xBin (some (.int .i64)) .geq v1 (.int .i64 (.ofNat 8192)) fun x30 =>
  xIte x30
   (K27 ((.bool true), ()) h2)
   (xLoad (some (some 1024)) x1 h2 fun x31 =>
   bd94 x31 v1 h2 fun x32 h10 =>
   xBin (some .bool) .eql x32 v2 fun x33 =>
   K27 (x33, ()) h10))
noncomputable def bd46 (v0 v1 v2 : CV) (h : CH) (k : CV → CH → Bool) : Bool :=
 xBox 124 v0 h fun x1 h1 =>
 xBoxP 124 [(.bytes 1024 0)] h1 fun x2 h2 =>
 xJoin (n := 1) (fun s2 h3 =>
  c46_4 s2 x1 h3 x2 k v1 v2)
 (fun K27 => c46_5 v1 K27 h2 x1 v2)
noncomputable abbrev ex46 : Ex := fun args h k => a3 args fun v0 v1 v2 => bd46 v0 v1 v2 h k
set_option maxRecDepth 100000 in
theorem sim46 : SimF Tryz.prog 46 ex46 := fun args h k hk => by
  obtain ⟨v0, v1, v2, rfl, hk⟩ := a3_ok hk
  exact sim_of (qf := (fun f => [46, 47, 62, 75, 82, 97, 104, 114, 121, 127, 128, 141, 151, 156, 157, 183].contains f)) (Z := zs) (C := [(94, ex94)]) (T := []) ⟨zerosB_ok zsOk, (exCons (by kernel_rfl) sim94 exNil)⟩ (.seq .nil (.seq (.join [21] [9, 10, 11, 12, 13, 14, 15, 16, 17, 18, 19, 20] .nil .nil) (.seq .nil (.seq (.seq .nil (.loop [7, 8] [23, 24, 25, 26, 29, 30, 27, 28] .nil)) (.join [] [31, 32, 33, 34, 35, 36, 37, 38, 39, 40, 41, 42, 43, 44, 45, 46, 47, 48, 49] .nil .nil))))) Tryz.func46 _ h k (Eq.mp (by kernel_rfl : (bd46 v0 v1 v2 h k = true) = (xFn Tryz.prog (fun f => [46, 47, 62, 75, 82, 97, 104, 114, 121, 127, 128, 141, 151, 156, 157, 183].contains f) zs [(94, ex94)] [] Tryz.f46 (.seq .nil (.seq (.join [21] [9, 10, 11, 12, 13, 14, 15, 16, 17, 18, 19, 20] .nil .nil) (.seq .nil (.seq (.seq .nil (.loop [7, 8] [23, 24, 25, 26, 29, 30, 27, 28] .nil)) (.join [] [31, 32, 33, 34, 35, 36, 37, 38, 39, 40, 41, 42, 43, 44, 45, 46, 47, 48, 49] .nil .nil))))) [v0, v1, v2] h k = true)) hk)

/- undercroft/undercroftkit.blockMark -/
noncomputable abbrev c47_1 (x2 : CV) (v1 : CV) (x1 : CV) (h1 : CH) (k : CV → CH → Bool) : Bool :=
 xConv (some (.int .i64)) (some (.int .u8)) x2 fun x3 =>
 xBin (some (.int .i64)) .add v1 (.int .i64 (.ofNat 1)) fun x4 =>
 xConv (some (.int .i64)) (some (.int .u8)) x4 fun x5 =>
 xBuild (some (.inr 1)) (some (.agg [(.bytes 1024 0)])) [(0, x3), (1, x5), (2, (.int .u8 (.ofNat 77)))] fun x6 =>
 xStore (some 1024) x1 x6 h1 fun h2 =>
 xLoad (some (some 1024)) x1 h2 fun x7 =>
 k x7 h2
noncomputable def bd47 (v0 v1 : CV) (h : CH) (k : CV → CH → Bool) : Bool :=
 xBoxP 124 [(.bytes 1024 0)] h fun x1 h1 =>
 xBin (some (.int .i64)) .add v0 (.int .i64 (.ofNat 1)) fun x2 =>
 c47_1 x2 v1 x1 h1 k
noncomputable abbrev ex47 : Ex := fun args h k => a2 args fun v0 v1 => bd47 v0 v1 h k
set_option maxRecDepth 100000 in
theorem sim47 : SimF Tryz.prog 47 ex47 := fun args h k hk => by
  obtain ⟨v0, v1, rfl, hk⟩ := a2_ok hk
  exact sim_of (qf := (fun f => [46, 47, 62, 75, 82, 97, 104, 114, 121, 127, 128, 141, 151, 156, 157, 183].contains f)) (Z := zs) (C := []) (T := []) ⟨zerosB_ok zsOk, exNil⟩ .nil Tryz.func47 _ h k (Eq.mp (by kernel_rfl : (bd47 v0 v1 h k = true) = (xFn Tryz.prog (fun f => [46, 47, 62, 75, 82, 97, 104, 114, 121, 127, 128, 141, 151, 156, 157, 183].contains f) zs [] [] Tryz.f47 .nil [v0, v1] h k = true)) hk)

/- undercroft/undercroftkit.image -/
noncomputable abbrev c48_1 (s4 : TupC 1) (x16 : CV) (h4 : CH) (x14 : CV) (x4 : CV) (K5 : TupC 1 → CH → Bool) : Bool :=
 xBuild (some (.inl [(0, 1), (1, 1024)])) (some (.agg [(.int .i64 (.ofNat 0)), (.bytes 1024 0)])) [(0, s4.1), (1, x16)] fun x17 =>
 xNewS (some (132, 1025, 1032, false)) (some [(.int .i64 (.ofNat 0)), (.bytes 1024 0)]) 1 [(0, x17)] h4 fun x18 h5 =>
 xApp (some (132, 1025, 1032, false)) x14 x18 h5 fun x19 h6 =>
 xAddr (some 1) x4 fun x20 =>
 xStore (some 1) x20 x19 h6 fun h7 =>
 xBin (some (.int .i64)) .add s4.1 (.int .i64 (.ofNat 1)) fun x21 =>
 K5 (x21, ()) h7
noncomputable abbrev c48_2 (x10 : CV) (h4 : CH) (x4 : CV) (v0 : CV) (s4 : TupC 1) (K5 : TupC 1 → CH → Bool) : Bool :=
 xBuild (some (.inr 1)) (some (.agg [(.bytes 1024 0)])) [] fun x11 =>
 xEq (some (.agg (.bytes 1024))) .neq x10 x11 h4 fun x12 =>
 xIte x12
  (xAddr (some 1) x4 fun x13 =>
  xLoad (some none) x13 h4 fun x14 =>
  xIdx (some (none, 1024)) v0 s4.1 fun x15 =>
  xLoad (some (some 1024)) x15 h4 fun x16 =>
  c48_1 s4 x16 h4 x14 x4 K5)
  (xBin (some (.int .i64)) .add s4.1 (.int .i64 (.ofNat 1)) fun x22 =>
  K5 (x22, ()) h4)
noncomputable abbrev c48_3 (v0 : CV) (x4 : CV) (x1 : CV) (k : CV → CH → Bool) (h3 : CH) : Bool :=
 xLoop (n := 1) (fun K5 s4 h4 =>
  xLen (some (.inl false)) v0 fun x7 =>
  xBin (some (.int .i64)) .lss s4.1 x7 fun x8 =>
  xIte x8
   (xIdx (some (none, 1024)) v0 s4.1 fun x9 =>
   xLoad (some (some 1024)) x9 h4 fun x10 =>
   c48_2 x10 h4 x4 v0 s4 K5)
   (xLoad (some (some 2)) x4 h4 fun x23 =>
   xStore (some 2) x1 x23 h4 fun h8 =>
   xLoad (some (some 2)) x1 h8 fun x24 =>
   k x24 h8)) 1000000 ((.int .i64 (.ofNat 0)), ()) h3
noncomputable def bd48 (v0 : CV) (h : CH) (k : CV → CH → Bool) : Bool :=
 xBoxP 66 [(.int .i64 (.ofNat 0)), .nils] h fun x1 h1 =>
 xLen (some (.inl false)) v0 fun x2 =>
 xBuild (some (.inl [(0, 1), (1, 1)])) (some (.agg [(.int .i64 (.ofNat 0)), .nils])) [(0, x2)] fun x3 =>
 xBoxP 66 [(.int .i64 (.ofNat 0)), .nils] h1 fun x4 h2 =>
 xStore (some 2) x4 x3 h2 fun h3 =>
 c48_3 v0 x4 x1 k h3
noncomputable abbrev ex48 : Ex := fun args h k => a1 args fun v0 => bd48 v0 h k
set_option maxRecDepth 100000 in
theorem sim48 : SimF Tryz.prog 48 ex48 := fun args h k hk => by
  obtain ⟨v0, rfl, hk⟩ := a1_ok hk
  exact sim_of (qf := (fun f => [46, 47, 62, 75, 82, 97, 104, 114, 121, 127, 128, 141, 151, 156, 157, 183].contains f)) (Z := zs) (C := []) (T := []) ⟨zerosB_ok zsOk, exNil⟩ (.seq .nil (.seq .nil (.seq (.seq .nil (.loop [4] [8, 9, 10, 11, 14, 15, 16, 17, 18, 19, 20, 21, 22, 23, 24, 25, 26, 27, 28, 29, 30, 12, 13] .nil)) .nil))) Tryz.func48 _ h k (Eq.mp (by kernel_rfl : (bd48 v0 h k = true) = (xFn Tryz.prog (fun f => [46, 47, 62, 75, 82, 97, 104, 114, 121, 127, 128, 141, 151, 156, 157, 183].contains f) zs [] [] Tryz.f48 (.seq .nil (.seq .nil (.seq (.seq .nil (.loop [4] [8, 9, 10, 11, 14, 15, 16, 17, 18, 19, 20, 21, 22, 23, 24, 25, 26, 27, 28, 29, 30, 12, 13] .nil)) .nil))) [v0] h k = true)) hk)

/- undercroft/undercroftkit.Laid -/
noncomputable abbrev c19_1 (v0 : CV) (v1 : CV) (x26 : CV) (x1 : CV) (x2 : CV) (x3 : CV) (x8 : CV) (x7 : CV) (x20 : CV) (x25 : CV) (s47 : TupC 1) (x5 : CV) (x4 : CV) (x6 : CV) (x9 : CV) (x12 : CV) (x13 : CV) (x14 : CV) (x17_b : Nat) (x17_n : Nat) (x17_c : Nat) (x15 : CV) (x16 : CV) (x18_b : Nat) (x18_n : Nat) (x18_c : Nat) (x19 : CV) (x21 : CV) (x22 : CV) (x23 : CV) (x24 : CV) (v2 : CV) (x27 : CV) (x28 : CV) (x29 : CV) (x30 : CV) (x31 : CV) (x32 : CV) (x33 : CV) (x34 : CV) (x37 : CV) (x38 : CV) (x39 : CV) (x40 : CV) (x41 : CV) (s49 : TupC 1) (x57 : CV) (x58 : CV) (x59 : CV) (x66 : CV) (x62 : CV) (x63 : CV) (x64 : CV) (x65 : CV) (x67 : CV) (x68 : CV) (x69 : CV) (x73 : CV) (x70 : CV) (x71 : CV) (x74 : CV) (x72 : CV) (x75 : CV) (x76 : CV) (x77 : CV) (h22 : CH) (h24 : CH) : Bool :=
 (eqCs [v0, v1, x26, x1, x2, (.tup []), x3, x8, x7, x20, x25, s47.1, (.tup []), x5, x4, x5, x6, x7, x7, x9, (.tup []), x12, x13, x14, (.sl x17_b 0 x17_n x17_c), x15, x16, (.sl x18_b 0 x18_n x18_c), x19, x20, x21, x22, x23, x24, x25, v2, x26, x20, x26, x25, x27, x28, x29, x20, x26, x30, x25, x31, x32, x33, x34, x20, x37, x38, x39, x25, x40, x41, .junk, .junk, .junk, .junk, .junk, .junk, .junk, .junk, .junk, .junk, .junk, .junk, .junk, .junk, .junk, .junk, .junk, .junk, s49.1, .junk, .junk, .junk, .junk, .junk, .junk, .junk, .junk, .junk, x20, x57, x58, x59, (.tup []), x66, x20, x62, x63, x64, x65, x66, x67, x68, x69, (.tup []), (.tup []), (.tup []), (.tup []), (.tup []), (.tup []), (.tup []), (.tup []), (.tup []), (.tup []), (.tup []), (.tup []), (.tup []), (.tup []), (.tup []), (.tup []), (.tup []), (.tup []), (.tup []), (.tup []), (.tup []), (.tup []), (.tup []), (.tup []), (.tup []), (.tup []), (.tup []), (.tup []), (.tup []), (.tup []), (.tup []), (.tup []), (.tup []), (.tup []), (.tup []), (.tup []), (.tup []), (.tup []), (.tup []), (.tup []), (.tup []), (.tup []), (.tup []), (.tup []), (.tup []), (.tup []), (.tup []), (.tup []), (.tup []), (.tup []), (.tup []), (.tup []), (.tup []), (.tup []), (.tup []), (.tup []), (.tup []), (.tup []), (.tup []), (.tup []), (.tup []), (.tup []), (.tup []), (.tup []), (.tup []), (.tup []), (.tup []), (.tup []), (.tup []), (.tup []), (.tup []), (.tup []), (.tup []), (.tup []), (.tup []), (.tup []), (.tup []), (.tup []), (.tup []), (.tup []), (.tup []), (.tup []), (.tup []), (.tup [])] [v0, v1, x26, x1, x2, (.tup []), x3, x8, x7, x20, x25, s47.1, (.tup []), x5, x4, x5, x6, x7, x7, x9, (.tup []), x12, x13, x14, (.sl x17_b 0 x17_n x17_c), x15, x16, (.sl x18_b 0 x18_n x18_c), x19, x20, x21, x22, x23, x24, x25, v2, x26, x20, x26, x25, x27, x28, x29, x20, x26, x30, x25, x31, x32, x33, x34, x20, x37, x38, x39, x25, x40, x41, .junk, .junk, .junk, .junk, .junk, .junk, .junk, .junk, .junk, .junk, .junk, .junk, .junk, .junk, .junk, .junk, .junk, .junk, s49.1, .junk, .junk, .junk, .junk, .junk, .junk, .junk, .junk, .junk, x20, x57, x58, x59, (.tup []), x73, x20, x70, x71, x74, x72, x73, x75, x76, x77, (.tup []), (.tup []), (.tup []), (.tup []), (.tup []), (.tup []), (.tup []), (.tup []), (.tup []), (.tup []), (.tup []), (.tup []), (.tup []), (.tup []), (.tup []), (.tup []), (.tup []), (.tup []), (.tup []), (.tup []), (.tup []), (.tup []), (.tup []), (.tup []), (.tup []), (.tup []), (.tup []), (.tup []), (.tup []), (.tup []), (.tup []), (.tup []), (.tup []), (.tup []), (.tup []), (.tup []), (.tup []), (.tup []), (.tup []), (.tup []), (.tup []), (.tup []), (.tup []), (.tup []), (.tup []), (.tup []), (.tup []), (.tup []), (.tup []), (.tup []), (.tup []), (.tup []), (.tup []), (.tup []), (.tup []), (.tup []), (.tup []), (.tup []), (.tup []), (.tup []), (.tup []), (.tup []), (.tup []), (.tup []), (.tup []), (.tup []), (.tup []), (.tup []), (.tup []), (.tup []), (.tup []), (.tup []), (.tup []), (.tup []), (.tup []), (.tup []), (.tup []), (.tup []), (.tup []), (.tup []), (.tup []), (.tup []), (.tup []), (.tup [])] && eqH h22 h24)
noncomputable abbrev c19_2 (x74 : CV) (x75 : CV) (h23 : CH) (v0 : CV) (v1 : CV) (x26 : CV) (x1 : CV) (x2 : CV) (x3 : CV) (x8 : CV) (x7 : CV) (x20 : CV) (x25 : CV) (s47 : TupC 1) (x5 : CV) (x4 : CV) (x6 : CV) (x9 : CV) (x12 : CV) (x13 : CV) (x14 : CV) (x17_b : Nat) (x17_n : Nat) (x17_c : Nat) (x15 : CV) (x16 : CV) (x18_b : Nat) (x18_n : Nat) (x18_c : Nat) (x19 : CV) (x21 : CV) (x22 : CV) (x23 : CV) (x24 : CV) (v2 : CV) (x27 : CV) (x28 : CV) (x29 : CV) (x30 : CV) (x31 : CV) (x32 : CV) (x33 : CV) (x34 : CV) (x37 : CV) (x38 : CV) (x39 : CV) (x40 : CV) (x41 : CV) (s49 : TupC 1) (x57 : CV) (x58 : CV) (x59 : CV) (x66 : CV) (x62 : CV) (x63 : CV) (x64 : CV) (x65 : CV) (x67 : CV) (x68 : CV) (x69 : CV) (x73 : CV) (x70 : CV) (x71 : CV) (x72 : CV) (x76 : CV) (h22 : CH) : Bool :=
 xIdx (some (none, 1024)) x74 (.int .i64 (.ofNat 0)) fun x77 =>
 xStore (some 1024) x77 x75 h23 fun h24 =>
 c19_1 v0 v1 x26 x1 x2 x3 x8 x7 x20 x25 s47 x5 x4 x6 x9 x12 x13 x14 x17_b x17_n x17_c x15 x16 x18_b x18_n x18_c x19 x21 x22 x23 x24 v2 x27 x28 x29 x30 x31 x32 x33 x34 x37 x38 x39 x40 x41 s49 x57 x58 x59 x66 x62 x63 x64 x65 x67 x68 x69 x73 x70 x71 x74 x72 x75 x76 x77 h22 h24
noncomputable abbrev c19_3 (x71 : CV) (h23 : CH) (x73 : CV) (v0 : CV) (v1 : CV) (x26 : CV) (x1 : CV) (x2 : CV) (x3 : CV) (x8 : CV) (x7 : CV) (x20 : CV) (x25 : CV) (s47 : TupC 1) (x5 : CV) (x4 : CV) (x6 : CV) (x9 : CV) (x12 : CV) (x13 : CV) (x14 : CV) (x17_b : Nat) (x17_n : Nat) (x17_c : Nat) (x15 : CV) (x16 : CV) (x18_b : Nat) (x18_n : Nat) (x18_c : Nat) (x19 : CV) (x21 : CV) (x22 : CV) (x23 : CV) (x24 : CV) (v2 : CV) (x27 : CV) (x28 : CV) (x29 : CV) (x30 : CV) (x31 : CV) (x32 : CV) (x33 : CV) (x34 : CV) (x37 : CV) (x38 : CV) (x39 : CV) (x40 : CV) (x41 : CV) (s49 : TupC 1) (x57 : CV) (x58 : CV) (x59 : CV) (x66 : CV) (x62 : CV) (x63 : CV) (x64 : CV) (x65 : CV) (x67 : CV) (x68 : CV) (x69 : CV) (x70 : CV) (x72 : CV) (h22 : CH) : Bool :=
 xLoad (some none) x71 h23 fun x74 =>
 xExtract x73 0 fun x75 =>
 xExtract x73 1 fun x76 =>
 c19_2 x74 x75 h23 v0 v1 x26 x1 x2 x3 x8 x7 x20 x25 s47 x5 x4 x6 x9 x12 x13 x14 x17_b x17_n x17_c x15 x16 x18_b x18_n x18_c x19 x21 x22 x23 x24 v2 x27 x28 x29 x30 x31 x32 x33 x34 x37 x38 x39 x40 x41 s49 x57 x58 x59 x66 x62 x63 x64 x65 x67 x68 x69 x73 x70 x71 x72 x76 h22
noncomputable abbrev c19_4 (v0 : CV) (v1 : CV) (x26 : CV) (x1 : CV) (x2 : CV) (x3 : CV) (x8 : CV) (x7 : CV) (x20 : CV) (x25 : CV) (s47 : TupC 1) (x5 : CV) (x4 : CV) (x6 : CV) (x9 : CV) (x12 : CV) (x13 : CV) (x14 : CV) (x17_b : Nat) (x17_n : Nat) (x17_c : Nat) (x15 : CV) (x16 : CV) (x18_b : Nat) (x18_n : Nat) (x18_c : Nat) (x19 : CV) (x21 : CV) (x22 : CV) (x23 : CV) (x24 : CV) (v2 : CV) (x27 : CV) (x28 : CV) (x29 : CV) (x30 : CV) (x31 : CV) (x32 : CV) (x33 : CV) (x34 : CV) (x37 : CV) (x38 : CV) (x39 : CV) (x40 : CV) (x41 : CV) (s49 : TupC 1) (x57 : CV) (x58 : CV) (x59 : CV) (x66 : CV) (x62 : CV) (x63 : CV) (x64 : CV) (x65 : CV) (x67 : CV) (x68 : CV) (x69 : CV) (x79 : CV) (x70 : CV) (x71 : CV) (x78 : CV) (x72 : CV) (x80 : CV) (x81 : CV) (x82 : CV) (h22 : CH) (h26 : CH) : Bool :=
 (eqCs [v0, v1, x26, x1, x2, (.tup []), x3, x8, x7, x20, x25, s47.1, (.tup []), x5, x4, x5, x6, x7, x7, x9, (.tup []), x12, x13, x14, (.sl x17_b 0 x17_n x17_c), x15, x16, (.sl x18_b 0 x18_n x18_c), x19, x20, x21, x22, x23, x24, x25, v2, x26, x20, x26, x25, x27, x28, x29, x20, x26, x30, x25, x31, x32, x33, x34, x20, x37, x38, x39, x25, x40, x41, .junk, .junk, .junk, .junk, .junk, .junk, .junk, .junk, .junk, .junk, .junk, .junk, .junk, .junk, .junk, .junk, .junk, .junk, s49.1, .junk, .junk, .junk, .junk, .junk, .junk, .junk, .junk, .junk, x20, x57, x58, x59, (.tup []), x66, x20, x62, x63, x64, x65, x66, x67, x68, x69, (.tup []), (.tup []), (.tup []), (.tup []), (.tup []), (.tup []), (.tup []), (.tup []), (.tup []), (.tup []), (.tup []), (.tup []), (.tup []), (.tup []), (.tup []), (.tup []), (.tup []), (.tup []), (.tup []), (.tup []), (.tup []), (.tup []), (.tup []), (.tup []), (.tup []), (.tup []), (.tup []), (.tup []), (.tup []), (.tup []), (.tup []), (.tup []), (.tup []), (.tup []), (.tup []), (.tup []), (.tup []), (.tup []), (.tup []), (.tup []), (.tup []), (.tup []), (.tup []), (.tup []), (.tup []), (.tup []), (.tup []), (.tup []), (.tup []), (.tup []), (.tup []), (.tup []), (.tup []), (.tup []), (.tup []), (.tup []), (.tup []), (.tup []), (.tup []), (.tup []), (.tup []), (.tup []), (.tup []), (.tup []), (.tup []), (.tup []), (.tup []), (.tup []), (.tup []), (.tup []), (.tup []), (.tup []), (.tup []), (.tup []), (.tup []), (.tup []), (.tup []), (.tup []), (.tup []), (.tup []), (.tup []), (.tup []), (.tup []), (.tup [])] [v0, v1, x26, x1, x2, (.tup []), x3, x8, x7, x20, x25, s47.1, (.tup []), x5, x4, x5, x6, x7, x7, x9, (.tup []), x12, x13, x14, (.sl x17_b 0 x17_n x17_c), x15, x16, (.sl x18_b 0 x18_n x18_c), x19, x20, x21, x22, x23, x24, x25, v2, x26, x20, x26, x25, x27, x28, x29, x20, x26, x30, x25, x31, x32, x33, x34, x20, x37, x38, x39, x25, x40, x41, .junk, .junk, .junk, .junk, .junk, .junk, .junk, .junk, .junk, .junk, .junk, .junk, .junk, .junk, .junk, .junk, .junk, .junk, s49.1, .junk, .junk, .junk, .junk, .junk, .junk, .junk, .junk, .junk, x20, x57, x58, x59, (.tup []), x79, x20, x70, x71, x78, x72, x79, x80, x81, x82, (.tup []), (.tup []), (.tup []), (.tup []), (.tup []), (.tup []), (.tup []), (.tup []), (.tup []), (.tup []), (.tup []), (.tup []), (.tup []), (.tup []), (.tup []), (.tup []), (.tup []), (.tup []), (.tup []), (.tup []), (.tup []), (.tup []), (.tup []), (.tup []), (.tup []), (.tup []), (.tup []), (.tup []), (.tup []), (.tup []), (.tup []), (.tup []), (.tup []), (.tup []), (.tup []), (.tup []), (.tup []), (.tup []), (.tup []), (.tup []), (.tup []), (.tup []), (.tup []), (.tup []), (.tup []), (.tup []), (.tup []), (.tup []), (.tup []), (.tup []), (.tup []), (.tup []), (.tup []), (.tup []), (.tup []), (.tup []), (.tup []), (.tup []), (.tup []), (.tup []), (.tup []), (.tup []), (.tup []), (.tup []), (.tup []), (.tup []), (.tup []), (.tup []), (.tup []), (.tup []), (.tup []), (.tup []), (.tup []), (.tup []), (.tup []), (.tup []), (.tup []), (.tup []), (.tup []), (.tup []), (.tup []), (.tup []), (.tup []), (.tup [])] && eqH h22 h26)
noncomputable abbrev c19_5 (x78 : CV) (x80 : CV) (h25 : CH) (v0 : CV) (v1 : CV) (x26 : CV) (x1 : CV) (x2 : CV) (x3 : CV) (x8 : CV) (x7 : CV) (x20 : CV) (x25 : CV) (s47 : TupC 1) (x5 : CV) (x4 : CV) (x6 : CV) (x9 : CV) (x12 : CV) (x13 : CV) (x14 : CV) (x17_b : Nat) (x17_n : Nat) (x17_c : Nat) (x15 : CV) (x16 : CV) (x18_b : Nat) (x18_n : Nat) (x18_c : Nat) (x19 : CV) (x21 : CV) (x22 : CV) (x23 : CV) (x24 : CV) (v2 : CV) (x27 : CV) (x28 : CV) (x29 : CV) (x30 : CV) (x31 : CV) (x32 : CV) (x33 : CV) (x34 : CV) (x37 : CV) (x38 : CV) (x39 : CV) (x40 : CV) (x41 : CV) (s49 : TupC 1) (x57 : CV) (x58 : CV) (x59 : CV) (x66 : CV) (x62 : CV) (x63 : CV) (x64 : CV) (x65 : CV) (x67 : CV) (x68 : CV) (x69 : CV) (x79 : CV) (x70 : CV) (x71 : CV) (x72 : CV) (x81 : CV) (h22 : CH) : Bool :=
 xIdx (some (none, 1024)) x78 (.int .i64 (.ofNat 0)) fun x82 =>
 xStore (some 1024) x82 x80 h25 fun h26 =>
 c19_4 v0 v1 x26 x1 x2 x3 x8 x7 x20 x25 s47 x5 x4 x6 x9 x12 x13 x14 x17_b x17_n x17_c x15 x16 x18_b x18_n x18_c x19 x21 x22 x23 x24 v2 x27 x28 x29 x30 x31 x32 x33 x34 x37 x38 x39 x40 x41 s49 x57 x58 x59 x66 x62 x63 x64 x65 x67 x68 x69 x79 x70 x71 x78 x72 x80 x81 x82 h22 h26
noncomputable abbrev c19_6 (x71 : CV) (h18 : CH) (x72 : CV) (v0 : CV) (v1 : CV) (x26 : CV) (x1 : CV) (x2 : CV) (x3 : CV) (x8 : CV) (x7 : CV) (x20 : CV) (x25 : CV) (s47 : TupC 1) (x5 : CV) (x4 : CV) (x6 : CV) (x9 : CV) (x12 : CV) (x13 : CV) (x14 : CV) (x17_b : Nat) (x17_n : Nat) (x17_c : Nat) (x15 : CV) (x16 : CV) (x18_b : Nat) (x18_n : Nat) (x18_c : Nat) (x19 : CV) (x21 : CV) (x22 : CV) (x23 : CV) (x24 : CV) (v2 : CV) (x27 : CV) (x28 : CV) (x29 : CV) (x30 : CV) (x31 : CV) (x32 : CV) (x33 : CV) (x34 : CV) (x37 : CV) (x38 : CV) (x39 : CV) (x40 : CV) (x41 : CV) (s49 : TupC 1) (x57 : CV) (x58 : CV) (x59 : CV) (x66 : CV) (x62 : CV) (x63 : CV) (x64 : CV) (x65 : CV) (x67 : CV) (x68 : CV) (x69 : CV) (x70 : CV) (h22 : CH) : Bool :=
 both
  (xLoad (some none) x71 h18 fun x78 =>
  bd45 x72 h18 fun x79 h25 =>
  xExtract x79 0 fun x80 =>
  xExtract x79 1 fun x81 =>
  c19_5 x78 x80 h25 v0 v1 x26 x1 x2 x3 x8 x7 x20 x25 s47 x5 x4 x6 x9 x12 x13 x14 x17_b x17_n x17_c x15 x16 x18_b x18_n x18_c x19 x21 x22 x23 x24 v2 x27 x28 x29 x30 x31 x32 x33 x34 x37 x38 x39 x40 x41 s49 x57 x58 x59 x66 x62 x63 x64 x65 x67 x68 x69 x79 x70 x71 x72 x81 h22)
  (both
   (bd45 x72 h18 fun x73 h23 =>
   c19_3 x71 h23 x73 v0 v1 x26 x1 x2 x3 x8 x7 x20 x25 s47 x5 x4 x6 x9 x12 x13 x14 x17_b x17_n x17_c x15 x16 x18_b x18_n x18_c x19 x21 x22 x23 x24 v2 x27 x28 x29 x30 x31 x32 x33 x34 x37 x38 x39 x40 x41 s49 x57 x58 x59 x66 x62 x63 x64 x65 x67 x68 x69 x70 x72 h22)
   (true))
noncomputable abbrev c19_7 (x103 : CV) (h28 : CH) (s82 : TupC 1) (x91 : CV) (x95 : CV) (K83 : TupC 1 → CH → Bool) : Bool :=
 xLoad (some (some 1024)) x103 h28 fun x104 =>
 xBin (some (.int .i64)) .rem s82.1 (.int .i64 (.ofNat 8192)) fun x105 =>
 xQuiet (some ex46) [x104, x105, (.bool true)] h28 fun x106 h29 =>
 xIdx (some (none, 1024)) x91 x95 fun x107 =>
 xStore (some 1024) x107 x106 h29 fun h30 =>
 xBin (some (.int .i64)) .add s82.1 (.int .i64 (.ofNat 1)) fun x108 =>
 K83 (x108, ()) h30
noncomputable abbrev c19_8 (x20 : CV) (h28 : CH) (x8 : CV) (s82 : TupC 1) (x91 : CV) (x95 : CV) (K83 : TupC 1 → CH → Bool) : Bool :=
 xNilCheck x20 fun x96 =>
 xAddr (some 9) x96 fun x97 =>
 xLoad (some none) x97 h28 fun x98 =>
 xAddr (some 6) x8 fun x99 =>
 xLoad (some none) x99 h28 fun x100 =>
 xBin (some (.int .i64)) .quo s82.1 (.int .i64 (.ofNat 8192)) fun x101 =>
 xBin (some (.int .i64)) .add x100 x101 fun x102 =>
 xIdx (some (none, 1024)) x98 x102 fun x103 =>
 c19_7 x103 h28 s82 x91 x95 K83
noncomputable abbrev c19_9 (s108 : TupC 1) (x20 : CV) (h31 : CH) (s82 : TupC 1) (x26 : CV) (K83 : TupC 1 → CH → Bool) : Bool :=
 xIte s108.1
  (xNilCheck x20 fun x110 =>
  xAddr (some 9) x110 fun x111 =>
  xLoad (some none) x111 h31 fun x112 =>
  xQuiet (some ex47) [s82.1, x26] h31 fun x113 h32 =>
  xIdx (some (none, 1024)) x112 s82.1 fun x114 =>
  xStore (some 1024) x114 x113 h32 fun h33 =>
  xBin (some (.int .i64)) .add s82.1 (.int .i64 (.ofNat 1)) fun x115 =>
  K83 (x115, ()) h33)
  (xBin (some (.int .i64)) .add s82.1 (.int .i64 (.ofNat 1)) fun x116 =>
  K83 (x116, ()) h31)
noncomputable abbrev c19_10 (x20 : CV) (s82 : TupC 1) (x26 : CV) (K83 : TupC 1 → CH → Bool) (h28 : CH) : Bool :=
 xJoin (n := 1) (fun s108 h31 =>
  c19_9 s108 x20 h31 s82 x26 K83)
 (fun K116 => xBin (some (.int .i64)) .rem x26 (.int .i64 (.ofNat 2)) fun x118 =>
 xBin (some (.int .i64)) .eql x118 (.int .i64 (.ofNat 1)) fun x119 =>
 xIte x119
  (xBin (some (.int .i64)) .rem s82.1 (.int .i64 (.ofNat 3)) fun x120 =>
  xBin (some (.int .i64)) .eql x120 (.int .i64 (.ofNat 0)) fun x121 =>
  K116 (x121, ()) h28)
  (K116 ((.bool false), ()) h28))
noncomputable abbrev c19_11 (s87 : TupC 1) (x20 : CV) (h28 : CH) (x8 : CV) (s82 : TupC 1) (K83 : TupC 1 → CH → Bool) (x26 : CV) : Bool :=
 xIte s87.1
  (xNilCheck x20 fun x89 =>
  xAddr (some 9) x89 fun x90 =>
  xLoad (some none) x90 h28 fun x91 =>
  xAddr (some 6) x8 fun x92 =>
  xLoad (some none) x92 h28 fun x93 =>
  xBin (some (.int .i64)) .quo s82.1 (.int .i64 (.ofNat 8192)) fun x94 =>
  xBin (some (.int .i64)) .add x93 x94 fun x95 =>
  c19_8 x20 h28 x8 s82 x91 x95 K83)
  (c19_10 x20 s82 x26 K83 h28)
noncomputable abbrev c19_12 (x8 : CV) (h27 : CH) (s82 : TupC 1) (K121 : TupC 1 → CH → Bool) (x20 : CV) : Bool :=
 xAddr (some 8) x8 fun x123 =>
 xLoad (some none) x123 h27 fun x124 =>
 xBin (some (.int .i64)) .lss s82.1 x124 fun x125 =>
 xIte x125
  (K121 ((.bool true), ()) h27)
  (xNilCheck x20 fun x126 =>
  xAddr (some 10) x126 fun x127 =>
  xLoad (some none) x127 h27 fun x128 =>
  xIdx (some (none, 1)) x128 s82.1 fun x129 =>
  xLoad (some none) x129 h27 fun x130 =>
  K121 (x130, ()) h27)
noncomputable abbrev c19_13 (x146 : CV) (h27 : CH) (x26 : CV) (x145 : CV) (x142 : CV) (K136 : TupC 0 → CH → Bool) : Bool :=
 xLoad (some none) x146 h27 fun x147 =>
 xBin (some (.int .i64)) .sub x147 (.int .i64 (.ofNat 1)) fun x148 =>
 xBin (some (.int .i64)) .rem x26 x148 fun x149 =>
 xBin (some (.int .i64)) .add x145 x149 fun x150 =>
 xQuiet (some ex47) [(.int .i64 (.ofNat 1)), x26] h27 fun x151 h37 =>
 xIdx (some (none, 1024)) x142 x150 fun x152 =>
 xStore (some 1024) x152 x151 h37 fun h38 =>
 K136 (()) h38
noncomputable abbrev c19_14 (x138 : CV) (x20 : CV) (h27 : CH) (x8 : CV) (x1 : CV) (x26 : CV) (K136 : TupC 0 → CH → Bool) : Bool :=
 xBin (some (.int .i64)) .eql x138 (.int .i64 (.ofNat 1)) fun x139 =>
 xIte x139
  (xNilCheck x20 fun x140 =>
  xAddr (some 9) x140 fun x141 =>
  xLoad (some none) x141 h27 fun x142 =>
  xAddr (some 3) x8 fun x143 =>
  xLoad (some none) x143 h27 fun x144 =>
  xBin (some (.int .i64)) .add x144 (.int .i64 (.ofNat 1)) fun x145 =>
  xAddr (some 1) x1 fun x146 =>
  c19_13 x146 h27 x26 x145 x142 K136)
  (K136 (()) h27)
noncomputable abbrev c19_15 (x20 : CV) (x3 : CV) (k : CV → CH → Bool) (x26 : CV) (h27 : CH) (x8 : CV) (x1 : CV) : Bool :=
 xJoin (n := 0) (fun s130 h34 =>
  xNilCheck x20 fun x132 =>
  xAddr (some 9) x132 fun x133 =>
  xLoad (some none) x133 h34 fun x134 =>
  bd48 x134 h34 fun x135 h35 =>
  xStore (some 2) x3 x135 h35 fun h36 =>
  xLoad (some (some 2)) x3 h36 fun x136 =>
  k x136 h36)
 (fun K136 => xBin (some (.int .i64)) .rem x26 (.int .i64 (.ofNat 2)) fun x138 =>
 c19_14 x138 x20 h27 x8 x1 x26 K136)
noncomputable abbrev c19_16 (x20 : CV) (x8 : CV) (h18 : CH) (v0 : CV) (v1 : CV) (x26 : CV) (x1 : CV) (x2 : CV) (x3 : CV) (x7 : CV) (x25 : CV) (s47 : TupC 1) (x5 : CV) (x4 : CV) (x6 : CV) (x9 : CV) (x12 : CV) (x13 : CV) (x14 : CV) (x17_b : Nat) (x17_n : Nat) (x17_c : Nat) (x15 : CV) (x16 : CV) (x18_b : Nat) (x18_n : Nat) (x18_c : Nat) (x19 : CV) (x21 : CV) (x22 : CV) (x23 : CV) (x24 : CV) (v2 : CV) (x27 : CV) (x28 : CV) (x29 : CV) (x30 : CV) (x31 : CV) (x32 : CV) (x33 : CV) (x34 : CV) (x37 : CV) (x38 : CV) (x39 : CV) (x40 : CV) (x41 : CV) (s49 : TupC 1) (x57 : CV) (x58 : CV) (x59 : CV) (x66 : CV) (x62 : CV) (x63 : CV) (x64 : CV) (x65 : CV) (x67 : CV) (x68 : CV) (x69 : CV) (h22 : CH) (k : CV → CH → Bool) : Bool :=
 both
  (xNilCheck x20 fun x70 =>
  xAddr (some 9) x70 fun x71 =>
  xLoad (some (some 9)) x8 h18 fun x72 =>
  c19_6 x71 h18 x72 v0 v1 x26 x1 x2 x3 x8 x7 x20 x25 s47 x5 x4 x6 x9 x12 x13 x14 x17_b x17_n x17_c x15 x16 x18_b x18_n x18_c x19 x21 x22 x23 x24 v2 x27 x28 x29 x30 x31 x32 x33 x34 x37 x38 x39 x40 x41 s49 x57 x58 x59 x66 x62 x63 x64 x65 x67 x68 x69 x70 h22)
  (xLoop (n := 1) (fun K83 s82 h27 =>
   xAddr (some 0) x1 fun x85 =>
   xLoad (some none) x85 h27 fun x86 =>
   xBin (some (.int .i64)) .lss s82.1 x86 fun x87 =>
   xIte x87
    (xJoin (n := 1) (fun s87 h28 =>
     c19_11 s87 x20 h28 x8 s82 K83 x26)
    (fun K121 => c19_12 x8 h27 s82 K121 x20))
    (c19_15 x20 x3 k x26 h27 x8 x1)) 1000000 ((.int .i64 (.ofNat 0)), ()) h22)
noncomputable abbrev c19_17 (x66 : CV) (x64 : CV) (x67 : CV) (h21 : CH) (x20 : CV) (x8 : CV) (h18 : CH) (v0 : CV) (v1 : CV) (x26 : CV) (x1 : CV) (x2 : CV) (x3 : CV) (x7 : CV) (x25 : CV) (s47 : TupC 1) (x5 : CV) (x4 : CV) (x6 : CV) (x9 : CV) (x12 : CV) (x13 : CV) (x14 : CV) (x17_b : Nat) (x17_n : Nat) (x17_c : Nat) (x15 : CV) (x16 : CV) (x18_b : Nat) (x18_n : Nat) (x18_c : Nat) (x19 : CV) (x21 : CV) (x22 : CV) (x23 : CV) (x24 : CV) (v2 : CV) (x27 : CV) (x28 : CV) (x29 : CV) (x30 : CV) (x31 : CV) (x32 : CV) (x33 : CV) (x34 : CV) (x37 : CV) (x38 : CV) (x39 : CV) (x40 : CV) (x41 : CV) (s49 : TupC 1) (x57 : CV) (x58 : CV) (x59 : CV) (x62 : CV) (x63 : CV) (x65 : CV) (k : CV → CH → Bool) : Bool :=
 xExtract x66 1 fun x68 =>
 xIdx (some (none, 1024)) x64 (.int .i64 (.ofNat 0)) fun x69 =>
 xStore (some 1024) x69 x67 h21 fun h22 =>
 c19_16 x20 x8 h18 v0 v1 x26 x1 x2 x3 x7 x25 s47 x5 x4 x6 x9 x12 x13 x14 x17_b x17_n x17_c x15 x16 x18_b x18_n x18_c x19 x21 x22 x23 x24 v2 x27 x28 x29 x30 x31 x32 x33 x34 x37 x38 x39 x40 x41 s49 x57 x58 x59 x66 x62 x63 x64 x65 x67 x68 x69 h22 k
noncomputable abbrev c19_18 (x63 : CV) (h18 : CH) (x8 : CV) (x20 : CV) (v0 : CV) (v1 : CV) (x26 : CV) (x1 : CV) (x2 : CV) (x3 : CV) (x7 : CV) (x25 : CV) (s47 : TupC 1) (x5 : CV) (x4 : CV) (x6 : CV) (x9 : CV) (x12 : CV) (x13 : CV) (x14 : CV) (x17_b : Nat) (x17_n : Nat) (x17_c : Nat) (x15 : CV) (x16 : CV) (x18_b : Nat) (x18_n : Nat) (x18_c : Nat) (x19 : CV) (x21 : CV) (x22 : CV) (x23 : CV) (x24 : CV) (v2 : CV) (x27 : CV) (x28 : CV) (x29 : CV) (x30 : CV) (x31 : CV) (x32 : CV) (x33 : CV) (x34 : CV) (x37 : CV) (x38 : CV) (x39 : CV) (x40 : CV) (x41 : CV) (s49 : TupC 1) (x57 : CV) (x58 : CV) (x59 : CV) (x62 : CV) (k : CV → CH → Bool) : Bool :=
 xLoad (some none) x63 h18 fun x64 =>
 xLoad (some (some 9)) x8 h18 fun x65 =>
 bd45 x65 h18 fun x66 h21 =>
 xExtract x66 0 fun x67 =>
 c19_17 x66 x64 x67 h21 x20 x8 h18 v0 v1 x26 x1 x2 x3 x7 x25 s47 x5 x4 x6 x9 x12 x13 x14 x17_b x17_n x17_c x15 x16 x18_b x18_n x18_c x19 x21 x22 x23 x24 v2 x27 x28 x29 x30 x31 x32 x33 x34 x37 x38 x39 x40 x41 s49 x57 x58 x59 x62 x63 x65 k
noncomputable abbrev c19_19 (x59 : CV) (x3 : CV) (h18 : CH) (k : CV → CH → Bool) (x20 : CV) (x8 : CV) (v0 : CV) (v1 : CV) (x26 : CV) (x1 : CV) (x2 : CV) (x7 : CV) (x25 : CV) (s47 : TupC 1) (x5 : CV) (x4 : CV) (x6 : CV) (x9 : CV) (x12 : CV) (x13 : CV) (x14 : CV) (x17_b : Nat) (x17_n : Nat) (x17_c : Nat) (x15 : CV) (x16 : CV) (x18_b : Nat) (x18_n : Nat) (x18_c : Nat) (x19 : CV) (x21 : CV) (x22 : CV) (x23 : CV) (x24 : CV) (v2 : CV) (x27 : CV) (x28 : CV) (x29 : CV) (x30 : CV) (x31 : CV) (x32 : CV) (x33 : CV) (x34 : CV) (x37 : CV) (x38 : CV) (x39 : CV) (x40 : CV) (x41 : CV) (s49 : TupC 1) (x57 : CV) (x58 : CV) : Bool :=
 xIte x59
  (xBuild (some (.inl [(0, 1), (1, 1)])) (some (.agg [(.int .i64 (.ofNat 0)), .nils])) [] fun x60 =>
  xStore (some 2) x3 x60 h18 fun h20 =>
  xLoad (some (some 2)) x3 h20 fun x61 =>
  k x61 h20)
  (xNilCheck x20 fun x62 =>
  xAddr (some 9) x62 fun x63 =>
  c19_18 x63 h18 x8 x20 v0 v1 x26 x1 x2 x3 x7 x25 s47 x5 x4 x6 x9 x12 x13 x14 x17_b x17_n x17_c x15 x16 x18_b x18_n x18_c x19 x21 x22 x23 x24 v2 x27 x28 x29 x30 x31 x32 x33 x34 x37 x38 x39 x40 x41 s49 x57 x58 x59 x62 k)
noncomputable abbrev c19_20 (s49 : TupC 1) (x2 : CV) (h18 : CH) (s47 : TupC 1) (x20 : CV) (K48 : TupC 1 → CH → Bool) (x3 : CV) (k : CV → CH → Bool) (x8 : CV) (v0 : CV) (v1 : CV) (x26 : CV) (x1 : CV) (x7 : CV) (x25 : CV) (x5 : CV) (x4 : CV) (x6 : CV) (x9 : CV) (x12 : CV) (x13 : CV) (x14 : CV) (x17_b : Nat) (x17_n : Nat) (x17_c : Nat) (x15 : CV) (x16 : CV) (x18_b : Nat) (x18_n : Nat) (x18_c : Nat) (x19 : CV) (x21 : CV) (x22 : CV) (x23 : CV) (x24 : CV) (v2 : CV) (x27 : CV) (x28 : CV) (x29 : CV) (x30 : CV) (x31 : CV) (x32 : CV) (x33 : CV) (x34 : CV) (x37 : CV) (x38 : CV) (x39 : CV) (x40 : CV) (x41 : CV) : Bool :=
 xIte s49.1
  (xAddr (some 0) x2 fun x51 =>
  xLoad (some none) x51 h18 fun x52 =>
  xIdx (some (none, 7)) x52 s47.1 fun x53 =>
  xLoad (some (some 7)) x53 h18 fun x54 =>
  bd44 x20 x54 h18 fun x55 h19 =>
  xBin (some (.int .i64)) .add s47.1 (.int .i64 (.ofNat 1)) fun x56 =>
  K48 (x56, ()) h19)
  (xNilCheck x20 fun x57 =>
  xAddr (some 13) x57 fun x58 =>
  xLoad (some none) x58 h18 fun x59 =>
  c19_19 x59 x3 h18 k x20 x8 v0 v1 x26 x1 x2 x7 x25 s47 x5 x4 x6 x9 x12 x13 x14 x17_b x17_n x17_c x15 x16 x18_b x18_n x18_c x19 x21 x22 x23 x24 v2 x27 x28 x29 x30 x31 x32 x33 x34 x37 x38 x39 x40 x41 s49 x57 x58)
noncomputable abbrev c19_21 (x2 : CV) (h17 : CH) (s47 : TupC 1) (x20 : CV) (K152 : TupC 1 → CH → Bool) : Bool :=
 xAddr (some 0) x2 fun x154 =>
 xLoad (some none) x154 h17 fun x155 =>
 xLen (some (.inl false)) x155 fun x156 =>
 xBin (some (.int .i64)) .lss s47.1 x156 fun x157 =>
 xIte x157
  (xNilCheck x20 fun x158 =>
  xAddr (some 13) x158 fun x159 =>
  xLoad (some none) x159 h17 fun x160 =>
  xUn .not x160 fun x161 =>
  K152 (x161, ()) h17)
  (K152 ((.bool false), ()) h17)
noncomputable abbrev c19_22 (x2 : CV) (x20 : CV) (x3 : CV) (k : CV → CH → Bool) (x8 : CV) (v0 : CV) (v1 : CV) (x26 : CV) (x1 : CV) (x7 : CV) (x25 : CV) (x5 : CV) (x4 : CV) (x6 : CV) (x9 : CV) (x12 : CV) (x13 : CV) (x14 : CV) (x17_b : Nat) (x17_n : Nat) (x17_c : Nat) (x15 : CV) (x16 : CV) (x18_b : Nat) (x18_n : Nat) (x18_c : Nat) (x19 : CV) (x21 : CV) (x22 : CV) (x23 : CV) (x24 : CV) (v2 : CV) (x27 : CV) (x28 : CV) (x29 : CV) (x30 : CV) (x31 : CV) (x32 : CV) (x33 : CV) (x34 : CV) (x37 : CV) (x38 : CV) (x39 : CV) (x40 : CV) (x41 : CV) (h15 : CH) : Bool :=
 xLoop (n := 1) (fun K48 s47 h17 =>
  xJoin (n := 1) (fun s49 h18 =>
   c19_20 s49 x2 h18 s47 x20 K48 x3 k x8 v0 v1 x26 x1 x7 x25 x5 x4 x6 x9 x12 x13 x14 x17_b x17_n x17_c x15 x16 x18_b x18_n x18_c x19 x21 x22 x23 x24 v2 x27 x28 x29 x30 x31 x32 x33 x34 x37 x38 x39 x40 x41)
  (fun K152 => c19_21 x2 h17 s47 x20 K152)) 1000000 ((.int .i64 (.ofNat 0)), ()) h15
noncomputable abbrev c19_23 (x41 : CV) (x20 : CV) (h15 : CH) (K35 : TupC 0 → CH → Bool) (x2 : CV) (x3 : CV) (k : CV → CH → Bool) (x8 : CV) (v0 : CV) (v1 : CV) (x26 : CV) (x1 : CV) (x7 : CV) (x25 : CV) (x5 : CV) (x4 : CV) (x6 : CV) (x9 : CV) (x12 : CV) (x13 : CV) (x14 : CV) (x17_b : Nat) (x17_n : Nat) (x17_c : Nat) (x15 : CV) (x16 : CV) (x18_b : Nat) (x18_n : Nat) (x18_c : Nat) (x19 : CV) (x21 : CV) (x22 : CV) (x23 : CV) (x24 : CV) (v2 : CV) (x27 : CV) (x28 : CV) (x29 : CV) (x30 : CV) (x31 : CV) (x32 : CV) (x33 : CV) (x34 : CV) (x37 : CV) (x38 : CV) (x39 : CV) (x40 : CV) : Bool :=
 xIte x41
  (xNilCheck x20 fun x42 =>
  xAddr (some 11) x42 fun x43 =>
  xLoad (some none) x43 h15 fun x44 =>
  xBin (some (.int .i64)) .add x44 (.int .i64 (.ofNat 1)) fun x45 =>
  xNilCheck x20 fun x46 =>
  xAddr (some 11) x46 fun x47 =>
  xStore (some 1) x47 x45 h15 fun h16 =>
  K35 (()) h16)
  (c19_22 x2 x20 x3 k x8 v0 v1 x26 x1 x7 x25 x5 x4 x6 x9 x12 x13 x14 x17_b x17_n x17_c x15 x16 x18_b x18_n x18_c x19 x21 x22 x23 x24 v2 x27 x28 x29 x30 x31 x32 x33 x34 x37 x38 x39 x40 x41 h15)
noncomputable abbrev c19_24 (x37 : CV) (h14 : CH) (x25 : CV) (x20 : CV) (K35 : TupC 0 → CH → Bool) (x2 : CV) (x3 : CV) (k : CV → CH → Bool) (x8 : CV) (v0 : CV) (v1 : CV) (x26 : CV) (x1 : CV) (x7 : CV) (x5 : CV) (x4 : CV) (x6 : CV) (x9 : CV) (x12 : CV) (x13 : CV) (x14 : CV) (x17_b : Nat) (x17_n : Nat) (x17_c : Nat) (x15 : CV) (x16 : CV) (x18_b : Nat) (x18_n : Nat) (x18_c : Nat) (x19 : CV) (x21 : CV) (x22 : CV) (x23 : CV) (x24 : CV) (v2 : CV) (x27 : CV) (x28 : CV) (x29 : CV) (x30 : CV) (x31 : CV) (x32 : CV) (x33 : CV) (x34 : CV) : Bool :=
 xAddr (some 11) x37 fun x38 =>
 xLoad (some none) x38 h14 fun x39 =>
 bd43 x39 x25 h14 fun x40 h15 =>
 xBin (some (.int .i64)) .neq x40 (.int .i64 (.ofNat 1)) fun x41 =>
 c19_23 x41 x20 h15 K35 x2 x3 k x8 v0 v1 x26 x1 x7 x25 x5 x4 x6 x9 x12 x13 x14 x17_b x17_n x17_c x15 x16 x18_b x18_n x18_c x19 x21 x22 x23 x24 v2 x27 x28 x29 x30 x31 x32 x33 x34 x37 x38 x39 x40
noncomputable abbrev c19_25 (x31 : CV) (x20 : CV) (h12 : CH) (x25 : CV) (x2 : CV) (x3 : CV) (k : CV → CH → Bool) (x8 : CV) (v0 : CV) (v1 : CV) (x26 : CV) (x1 : CV) (x7 : CV) (x5 : CV) (x4 : CV) (x6 : CV) (x9 : CV) (x12 : CV) (x13 : CV) (x14 : CV) (x17_b : Nat) (x17_n : Nat) (x17_c : Nat) (x15 : CV) (x16 : CV) (x18_b : Nat) (x18_n : Nat) (x18_c : Nat) (x19 : CV) (x21 : CV) (x22 : CV) (x23 : CV) (x24 : CV) (v2 : CV) (x27 : CV) (x28 : CV) (x29 : CV) (x30 : CV) : Bool :=
 xBin (some (.int .i64)) .add (.int .i64 (.ofNat 1)) x31 fun x32 =>
 xNilCheck x20 fun x33 =>
 xAddr (some 11) x33 fun x34 =>
 xStore (some 1) x34 x32 h12 fun h13 =>
 xLoop (n := 0) (fun K35 s34 h14 =>
  xNilCheck x20 fun x37 =>
  c19_24 x37 h14 x25 x20 K35 x2 x3 k x8 v0 v1 x26 x1 x7 x5 x4 x6 x9 x12 x13 x14 x17_b x17_n x17_c x15 x16 x18_b x18_n x18_c x19 x21 x22 x23 x24 v2 x27 x28 x29 x30 x31 x32 x33 x34) 1000000 () h13
noncomputable abbrev c19_26 (x20 : CV) (x27 : CV) (h11 : CH) (x26 : CV) (x25 : CV) (x2 : CV) (x3 : CV) (k : CV → CH → Bool) (x8 : CV) (v0 : CV) (v1 : CV) (x1 : CV) (x7 : CV) (x5 : CV) (x4 : CV) (x6 : CV) (x9 : CV) (x12 : CV) (x13 : CV) (x14 : CV) (x17_b : Nat) (x17_n : Nat) (x17_c : Nat) (x15 : CV) (x16 : CV) (x18_b : Nat) (x18_n : Nat) (x18_c : Nat) (x19 : CV) (x21 : CV) (x22 : CV) (x23 : CV) (x24 : CV) (v2 : CV) : Bool :=
 xNilCheck x20 fun x28 =>
 xAddr (some 12) x28 fun x29 =>
 xStore (some 1) x29 x27 h11 fun h12 =>
 xBin (some (.int .i64)) .quo x26 (.int .i64 (.ofNat 7)) fun x30 =>
 xBin (some (.int .i64)) .rem x30 x25 fun x31 =>
 c19_25 x31 x20 h12 x25 x2 x3 k x8 v0 v1 x26 x1 x7 x5 x4 x6 x9 x12 x13 x14 x17_b x17_n x17_c x15 x16 x18_b x18_n x18_c x19 x21 x22 x23 x24 v2 x27 x28 x29 x30
noncomputable abbrev c19_27 (x8 : CV) (h10 : CH) (x22 : CV) (v2 : CV) (x20 : CV) (x2 : CV) (x3 : CV) (k : CV → CH → Bool) (v0 : CV) (v1 : CV) (x1 : CV) (x7 : CV) (x5 : CV) (x4 : CV) (x6 : CV) (x9 : CV) (x12 : CV) (x13 : CV) (x14 : CV) (x17_b : Nat) (x17_n : Nat) (x17_c : Nat) (x15 : CV) (x16 : CV) (x18_b : Nat) (x18_n : Nat) (x18_c : Nat) (x19 : CV) (x21 : CV) : Bool :=
 xAddr (some 8) x8 fun x23 =>
 xLoad (some none) x23 h10 fun x24 =>
 xBin (some (.int .i64)) .sub x22 x24 fun x25 =>
 bd42 v2 (.int .i64 (.ofNat 1000003)) h10 fun x26 h11 =>
 xBin (some (.int .i64)) .rem x26 x25 fun x27 =>
 c19_26 x20 x27 h11 x26 x25 x2 x3 k x8 v0 v1 x1 x7 x5 x4 x6 x9 x12 x13 x14 x17_b x17_n x17_c x15 x16 x18_b x18_n x18_c x19 x21 x22 x23 x24 v2
noncomputable abbrev c19_28 (x14 : CV) (x16 : CV) (h6 : CH) (x12 : CV) (x1 : CV) (x8 : CV) (v2 : CV) (x2 : CV) (x3 : CV) (k : CV → CH → Bool) (v0 : CV) (v1 : CV) (x7 : CV) (x5 : CV) (x4 : CV) (x6 : CV) (x9 : CV) (x13 : CV) (x15 : CV) : Bool :=
 xMkO (some (124, 1024, 1024, false)) (some [(.bytes 1024 0)]) x14 x14 fun x17_o x17_n x17_c =>
 xMkO (some (4, 1, 1, false)) (some [(.bool false)]) x16 x16 fun x18_o x18_n x18_c =>
 xNew x17_o h6 fun x17_b h8 =>
 xNew x18_o h8 fun x18_b h9 =>
 xBuild (some (.inl [(0, 9), (9, 1), (10, 1), (11, 1), (12, 1), (13, 1)])) (some (.agg [(.int .i64 (.ofNat 0)), (.int .i64 (.ofNat 0)), (.int .i64 (.ofNat 0)), (.int .i64 (.ofNat 0)), (.int .i64 (.ofNat 0)), (.int .i64 (.ofNat 0)), (.int .i64 (.ofNat 0)), (.int .i64 (.ofNat 0)), (.int .i64 (.ofNat 0)), .nils, .nils, (.int .i64 (.ofNat 0)), (.int .i64 (.ofNat 0)), (.bool false)])) [(0, x12), (1, (.sl x17_b 0 x17_n x17_c)), (2, (.sl x18_b 0 x18_n x18_c))] fun x19 =>
 xBox 120 x19 h9 fun x20 h10 =>
 xAddr (some 0) x1 fun x21 =>
 xLoad (some none) x21 h10 fun x22 =>
 c19_27 x8 h10 x22 v2 x20 x2 x3 k v0 v1 x1 x7 x5 x4 x6 x9 x12 x13 x14 x17_b x17_n x17_c x15 x16 x18_b x18_n x18_c x19 x21
noncomputable abbrev c19_29 (x9 : CV) (x3 : CV) (h6 : CH) (k : CV → CH → Bool) (x8 : CV) (x1 : CV) (v2 : CV) (x2 : CV) (v0 : CV) (v1 : CV) (x7 : CV) (x5 : CV) (x4 : CV) (x6 : CV) : Bool :=
 xIte x9
  (xBuild (some (.inl [(0, 1), (1, 1)])) (some (.agg [(.int .i64 (.ofNat 0)), .nils])) [] fun x10 =>
  xStore (some 2) x3 x10 h6 fun h7 =>
  xLoad (some (some 2)) x3 h7 fun x11 =>
  k x11 h7)
  (xLoad (some (some 9)) x8 h6 fun x12 =>
  xAddr (some 0) x1 fun x13 =>
  xLoad (some none) x13 h6 fun x14 =>
  xAddr (some 0) x1 fun x15 =>
  xLoad (some none) x15 h6 fun x16 =>
  c19_28 x14 x16 h6 x12 x1 x8 v2 x2 x3 k v0 v1 x7 x5 x4 x6 x9 x13 x15)
noncomputable abbrev c19_30 (h4 : CH) (x6 : CV) (x7 : CV) (x3 : CV) (k : CV → CH → Bool) (x1 : CV) (v2 : CV) (x2 : CV) (v0 : CV) (v1 : CV) (x5 : CV) (x4 : CV) : Bool :=
 xBoxP 58 [(.int .i64 (.ofNat 0)), (.int .i64 (.ofNat 0)), (.int .i64 (.ofNat 0)), (.int .i64 (.ofNat 0)), (.int .i64 (.ofNat 0)), (.int .i64 (.ofNat 0)), (.int .i64 (.ofNat 0)), (.int .i64 (.ofNat 0)), (.int .i64 (.ofNat 0))] h4 fun x8 h5 =>
 xStore (some 9) x8 x6 h5 fun h6 =>
 xBin (some (.int .i64)) .neq x7 (.int .i64 (.ofNat 0)) fun x9 =>
 c19_29 x9 x3 h6 k x8 x1 v2 x2 v0 v1 x7 x5 x4 x6
noncomputable def bd19 (v0 v1 v2 : CV) (h : CH) (k : CV → CH → Bool) : Bool :=
 xBox 26 v0 h fun x1 h1 =>
 xBox 29 v1 h1 fun x2 h2 =>
 xBoxP 66 [(.int .i64 (.ofNat 0)), .nils] h2 fun x3 h3 =>
 xLoad (some (some 3)) x1 h3 fun x4 =>
 bd20 x4 h3 fun x5 h4 =>
 xExtract x5 0 fun x6 =>
 xExtract x5 1 fun x7 =>
 c19_30 h4 x6 x7 x3 k x1 v2 x2 v0 v1 x5 x4
noncomputable abbrev ex19 : Ex := fun args h k => a3 args fun v0 v1 v2 => bd19 v0 v1 v2 h k
set_option maxRecDepth 100000 in
theorem sim19 : SimF Tryz.prog 19 ex19 := fun args h k hk => by
  obtain ⟨v0, v1, v2, rfl, hk⟩ := a3_ok hk
  exact sim_of (qf := (fun f => [46, 47, 62, 75, 82, 97, 104, 114, 121, 127, 128, 141, 151, 156, 157, 183].contains f)) (Z := zs) (C := [(20, ex20), (42, ex42), (43, ex43), (44, ex44), (45, ex45), (46, ex46), (47, ex47), (48, ex48)]) (T := [(4, .f2 ⟨[0, 1, 2, 4, 5], 3, 6, [7, 8, 9]⟩), (17, .tree [0, 1, 2, 3, 4, 5, 6, 7, 8, 9, 10] (.fork [0, 1, 2, 4] (.cons 3 (.line [5, 6, 7, 8, 9, 10]) (.cons 5 (.line [3, 6, 7, 8, 9, 10]) .nil))))]) ⟨zerosB_ok zsOk, (exCons (by kernel_rfl) sim20 (exCons (by kernel_rfl) sim42 (exCons (by kernel_rfl) sim43 (exCons (by kernel_rfl) sim44 (exCons (by kernel_rfl) sim45 (exCons (by kernel_rfl) sim46 (exCons (by kernel_rfl) sim47 (exCons (by kernel_rfl) sim48 exNil))))))))⟩ (.seq .nil (.seq .nil (.seq .nil (.seq .nil (.seq .nil (.seq .nil (.seq .nil (.seq .nil (.seq (.loop [] [51, 52, 53, 54, 55, 56, 57, 58, 59, 60, 61, 62, 63, 64] .nil) (.seq (.seq .nil (.loop [11] [65, 66, 67, 68, 69, 70, 71, 72, 73, 74, 75, 76, 79, 80, 81, 82, 83, 84, 85, 77, 78] (.seq (.join [76] [65, 66, 67, 68, 69, 70, 71, 72, 73, 74, 75] .nil .nil) .nil))) (.seq .nil (.seq .nil (.seq (.seq .nil (.loop [12] [101, 102, 103, 104, 107, 108, 109, 110, 111, 112, 113, 114, 115, 116, 117, 118, 119, 120, 121, 122, 123, 124, 125, 126, 127, 128, 129, 130, 131, 132, 133, 134, 135, 136, 137, 138, 139, 140, 141, 142, 143, 144, 145, 146, 147, 148, 149, 150, 151, 152, 153, 154, 155, 156, 157, 158, 159, 160, 105, 106] (.seq .nil (.seq (.join [119] [107, 108, 109, 110, 111, 112, 113, 114, 115, 116, 117, 118] .nil (.cond .nil (.join [151] [144, 145, 146, 147, 148, 149, 150] .nil .nil))) .nil)))) (.join [] [161, 162, 163, 164, 165, 166, 167, 168, 169, 170, 171, 172, 173, 174, 175, 176, 177, 178, 179] .nil .nil)))))))))))))) Tryz.func19 _ h k (Eq.mp (by kernel_rfl : (bd19 v0 v1 v2 h k = true) = (xFn Tryz.prog (fun f => [46, 47, 62, 75, 82, 97, 104, 114, 121, 127, 128, 141, 151, 156, 157, 183].contains f) zs [(20, ex20), (42, ex42), (43, ex43), (44, ex44), (45, ex45), (46, ex46), (47, ex47), (48, ex48)] [(4, .f2 ⟨[0, 1, 2, 4, 5], 3, 6, [7, 8, 9]⟩), (17, .tree [0, 1, 2, 3, 4, 5, 6, 7, 8, 9, 10] (.fork [0, 1, 2, 4] (.cons 3 (.line [5, 6, 7, 8, 9, 10]) (.cons 5 (.line [3, 6, 7, 8, 9, 10]) .nil))))] Tryz.f19 (.seq .nil (.seq .nil (.seq .nil (.seq .nil (.seq .nil (.seq .nil (.seq .nil (.seq .nil (.seq (.loop [] [51, 52, 53, 54, 55, 56, 57, 58, 59, 60, 61, 62, 63, 64] .nil) (.seq (.seq .nil (.loop [11] [65, 66, 67, 68, 69, 70, 71, 72, 73, 74, 75, 76, 79, 80, 81, 82, 83, 84, 85, 77, 78] (.seq (.join [76] [65, 66, 67, 68, 69, 70, 71, 72, 73, 74, 75] .nil .nil) .nil))) (.seq .nil (.seq .nil (.seq (.seq .nil (.loop [12] [101, 102, 103, 104, 107, 108, 109, 110, 111, 112, 113, 114, 115, 116, 117, 118, 119, 120, 121, 122, 123, 124, 125, 126, 127, 128, 129, 130, 131, 132, 133, 134, 135, 136, 137, 138, 139, 140, 141, 142, 143, 144, 145, 146, 147, 148, 149, 150, 151, 152, 153, 154, 155, 156, 157, 158, 159, 160, 105, 106] (.seq .nil (.seq (.join [119] [107, 108, 109, 110, 111, 112, 113, 114, 115, 116, 117, 118] .nil (.cond .nil (.join [151] [144, 145, 146, 147, 148, 149, 150] .nil .nil))) .nil)))) (.join [] [161, 162, 163, 164, 165, 166, 167, 168, 169, 170, 171, 172, 173, 174, 175, 176, 177, 178, 179] .nil .nil)))))))))))))) [v0, v1, v2] h k = true)) hk)

/- undercroft/undercroftref05.Whole -/
noncomputable abbrev c125_1 (x23 : CV) (h6 : CH) (x1 : CV) (K18 : TupC 1 → CH → Bool) (x14 : CV) (x3 : CV) : Bool :=
 xLoad (some none) x23 h6 fun x24 =>
 xAddr (some 0) x1 fun x25 =>
 xLoad (some none) x25 h6 fun x26 =>
 xBin (some (.int .i64)) .geq x24 x26 fun x27 =>
 xIte x27
  (K18 ((.bool true), ()) h6)
  (xAddr (some 1) x14 fun x28 =>
  xLoad (some (some 1024)) x28 h6 fun x29 =>
  xLoad (some (some 1024)) x3 h6 fun x30 =>
  xEq (some (.agg (.bytes 1024))) .eql x29 x30 h6 fun x31 =>
  K18 (x31, ()) h6)
noncomputable abbrev c125_2 (k : CV → CH → Bool) (x14 : CV) (s3 : TupC 2) (K4 : TupC 2 → CH → Bool) (h6 : CH) (x1 : CV) (x3 : CV) : Bool :=
 xJoin (n := 1) (fun s14 h7 =>
  xIte s14.1
   (k (.int .i64 (.ofNat 2)) h7)
   (xAddr (some 0) x14 fun x16 =>
   xLoad (some none) x16 h7 fun x17 =>
   xBin (some (.int .i64)) .add s3.2.1 (.int .i64 (.ofNat 1)) fun x18 =>
   K4 (x17, x18, ()) h7))
 (fun K18 => xAddr (some 0) x14 fun x20 =>
 xLoad (some none) x20 h6 fun x21 =>
 xBin (some (.int .i64)) .leq x21 s3.1 fun x22 =>
 xIte x22
  (K18 ((.bool true), ()) h6)
  (xAddr (some 0) x14 fun x23 =>
  c125_1 x23 h6 x1 K18 x14 x3))
noncomputable abbrev c125_3 (s3 : TupC 2) (x8 : CV) (x1 : CV) (h4 : CH) (k : CV → CH → Bool) (K4 : TupC 2 → CH → Bool) (x3 : CV) : Bool :=
 xBin (some (.int .i64)) .lss s3.2.1 x8 fun x9 =>
 xIte x9
  (xAddr (some 1) x1 fun x10 =>
  xLoad (some none) x10 h4 fun x11 =>
  xIdx (some (none, 1025)) x11 s3.2.1 fun x12 =>
  xLoad (some (some 1025)) x12 h4 fun x13 =>
  xBoxP 132 [(.int .i64 (.ofNat 0)), (.bytes 1024 0)] h4 fun x14 h5 =>
  xStore (some 1025) x14 x13 h5 fun h6 =>
  c125_2 k x14 s3 K4 h6 x1 x3)
  (k (.int .i64 (.ofNat 0)) h4)
noncomputable abbrev c125_4 (k : CV → CH → Bool) (x1 : CV) (h1 : CH) : Bool :=
 xJoin (n := 1) (fun s1 h2 =>
  xIte s1.1
   (k (.int .i64 (.ofNat 2)) h2)
   (xBoxP 124 [(.bytes 1024 0)] h2 fun x3 h3 =>
   xLoop (n := 2) (fun K4 s3 h4 =>
    xAddr (some 1) x1 fun x6 =>
    xLoad (some none) x6 h4 fun x7 =>
    xLen (some (.inl false)) x7 fun x8 =>
    c125_3 s3 x8 x1 h4 k K4 x3) 1000000 ((.int .i64 (.negSucc 0)), (.int .i64 (.ofNat 0)), ()) h3))
 (fun K31 => xAddr (some 0) x1 fun x33 =>
 xLoad (some none) x33 h1 fun x34 =>
 xBin (some (.int .i64)) .lss x34 (.int .i64 (.ofNat 1)) fun x35 =>
 xIte x35
  (K31 ((.bool true), ()) h1)
  (xAddr (some 0) x1 fun x36 =>
  xLoad (some none) x36 h1 fun x37 =>
  xBin (some (.int .i64)) .gtr x37 (.int .i64 (.ofNat 1048576)) fun x38 =>
  K31 (x38, ()) h1))
noncomputable def bd125 (v0 : CV) (h : CH) (k : CV → CH → Bool) : Bool :=
 xBox 66 v0 h fun x1 h1 =>
 c125_4 k x1 h1
noncomputable abbrev ex125 : Ex := fun args h k => a1 args fun v0 => bd125 v0 h k
set_option maxRecDepth 100000 in
theorem sim125 : SimF Tryz.prog 125 ex125 := fun args h k hk => by
  obtain ⟨v0, rfl, hk⟩ := a1_ok hk
  exact sim_of (qf := (fun f => [46, 47, 62, 75, 82, 97, 104, 114, 121, 127, 128, 141, 151, 156, 157, 183].contains f)) (Z := zs) (C := []) (T := []) ⟨zerosB_ok zsOk, exNil⟩ (.seq .nil (.seq (.join [14] [7, 8, 9, 10, 11, 12, 13] .nil .nil) (.seq .nil (.seq .nil (.seq (.seq .nil (.loop [4, 5] [15, 16, 17, 18, 19, 22, 23, 24, 25, 26, 6, 27, 28, 29, 30, 31, 32, 33, 34, 35, 36, 37, 38, 39, 40, 41, 42, 43, 2, 44, 45, 20, 21] (.seq .nil (.seq (.seq .nil (.seq (.join [43] [27, 28, 29, 30, 31, 32, 33, 34, 35, 36, 37, 38, 39, 40, 41, 42] .nil .nil) .nil)) .nil)))) .nil))))) Tryz.func125 _ h k (Eq.mp (by kernel_rfl : (bd125 v0 h k = true) = (xFn Tryz.prog (fun f => [46, 47, 62, 75, 82, 97, 104, 114, 121, 127, 128, 141, 151, 156, 157, 183].contains f) zs [] [] Tryz.f125 (.seq .nil (.seq (.join [14] [7, 8, 9, 10, 11, 12, 13] .nil .nil) (.seq .nil (.seq .nil (.seq (.seq .nil (.loop [4, 5] [15, 16, 17, 18, 19, 22, 23, 24, 25, 26, 6, 27, 28, 29, 30, 31, 32, 33, 34, 35, 36, 37, 38, 39, 40, 41, 42, 43, 2, 44, 45, 20, 21] (.seq .nil (.seq (.seq .nil (.seq (.join [43] [27, 28, 29, 30, 31, 32, 33, 34, 35, 36, 37, 38, 39, 40, 41, 42] .nil .nil) .nil)) .nil)))) .nil))))) [v0] h k = true)) hk)

/- undercroft/undercroftref29.one -/
noncomputable def bd126 (v0 : CV) (h : CH) (k : CV → CH → Bool) : Bool :=
 xBuild (some (.inl [(0, 1), (1, 1)])) (some (.agg [(.bytes 1 0), (.int .i64 (.ofNat 0))])) [(0, v0)] fun x1 =>
 xNewS (some (263, 2, 16, false)) (some [(.bytes 1 0), (.int .i64 (.ofNat 0))]) 1 [(0, x1)] h fun x2 h1 =>
 k x2 h1
noncomputable abbrev ex126 : Ex := fun args h k => a1 args fun v0 => bd126 v0 h k
set_option maxRecDepth 100000 in
theorem sim126 : SimF Tryz.prog 126 ex126 := fun args h k hk => by
  obtain ⟨v0, rfl, hk⟩ := a1_ok hk
  exact sim_of (qf := (fun f => [46, 47, 62, 75, 82, 97, 104, 114, 121, 127, 128, 141, 151, 156, 157, 183].contains f)) (Z := zs) (C := []) (T := []) ⟨zerosB_ok zsOk, exNil⟩ .nil Tryz.func126 _ h k (Eq.mp (by kernel_rfl : (bd126 v0 h k = true) = (xFn Tryz.prog (fun f => [46, 47, 62, 75, 82, 97, 104, 114, 121, 127, 128, 141, 151, 156, 157, 183].contains f) zs [] [] Tryz.f126 .nil [v0] h k = true)) hk)

/- undercroft/undercroftref05.At -/
noncomputable abbrev c128_1 (x14 : CV) (x1 : CV) (h3 : CH) (s2 : TupC 1) (x2 : CV) (k : CV → CH → Bool) (K3 : TupC 1 → CH → Bool) : Bool :=
 xIte x14
  (xAddr (some 1) x1 fun x15 =>
  xLoad (some none) x15 h3 fun x16 =>
  xIdx (some (none, 1025)) x16 s2.1 fun x17 =>
  xAddr (some 1) x17 fun x18 =>
  xLoad (some (some 1024)) x18 h3 fun x19 =>
  xStore (some 1024) x2 x19 h3 fun h4 =>
  xLoad (some (some 1024)) x2 h4 fun x20 =>
  k x20 h4)
  (xBin (some (.int .i64)) .add s2.1 (.int .i64 (.ofNat 1)) fun x21 =>
  K3 (x21, ()) h3)
noncomputable abbrev c128_2 (x8 : CV) (x1 : CV) (h3 : CH) (s2 : TupC 1) (v1 : CV) (x2 : CV) (k : CV → CH → Bool) (K3 : TupC 1 → CH → Bool) : Bool :=
 xIte x8
  (xAddr (some 1) x1 fun x9 =>
  xLoad (some none) x9 h3 fun x10 =>
  xIdx (some (none, 1025)) x10 s2.1 fun x11 =>
  xAddr (some 0) x11 fun x12 =>
  xLoad (some none) x12 h3 fun x13 =>
  xBin (some (.int .i64)) .eql x13 v1 fun x14 =>
  c128_1 x14 x1 h3 s2 x2 k K3)
  (xBuild (some (.inr 1)) (some (.agg [(.bytes 1024 0)])) [] fun x22 =>
  xStore (some 1024) x2 x22 h3 fun h5 =>
  xLoad (some (some 1024)) x2 h5 fun x23 =>
  k x23 h5)
noncomputable def bd128 (v0 v1 : CV) (h : CH) (k : CV → CH → Bool) : Bool :=
 xBox 66 v0 h fun x1 h1 =>
 xBoxP 124 [(.bytes 1024 0)] h1 fun x2 h2 =>
 xLoop (n := 1) (fun K3 s2 h3 =>
  xAddr (some 1) x1 fun x5 =>
  xLoad (some none) x5 h3 fun x6 =>
  xLen (some (.inl false)) x6 fun x7 =>
  xBin (some (.int .i64)) .lss s2.1 x7 fun x8 =>
  c128_2 x8 x1 h3 s2 v1 x2 k K3) 1000000 ((.int .i64 (.ofNat 0)), ()) h2
noncomputable abbrev ex128 : Ex := fun args h k => a2 args fun v0 v1 => bd128 v0 v1 h k
set_option maxRecDepth 100000 in
theorem sim128 : SimF Tryz.prog 128 ex128 := fun args h k hk => by
  obtain ⟨v0, v1, rfl, hk⟩ := a2_ok hk
  exact sim_of (qf := (fun f => [46, 47, 62, 75, 82, 97, 104, 114, 121, 127, 128, 141, 151, 156, 157, 183].contains f)) (Z := zs) (C := []) (T := []) ⟨zerosB_ok zsOk, exNil⟩ (.seq .nil (.seq (.seq .nil (.loop [5] [6, 7, 8, 9, 10, 13, 14, 15, 16, 17, 18, 19, 20, 21, 22, 23, 24, 25, 26, 11, 12] .nil)) .nil)) Tryz.func128 _ h k (Eq.mp (by kernel_rfl : (bd128 v0 v1 h k = true) = (xFn Tryz.prog (fun f => [46, 47, 62, 75, 82, 97, 104, 114, 121, 127, 128, 141, 151, 156, 157, 183].contains f) zs [] [] Tryz.f128 (.seq .nil (.seq (.seq .nil (.loop [5] [6, 7, 8, 9, 10, 13, 14, 15, 16, 17, 18, 19, 20, 21, 22, 23, 24, 25, 26, 11, 12] .nil)) .nil)) [v0, v1] h k = true)) hk)

/- undercroft/undercroftref03.Decode -/
noncomputable abbrev c127_1 (x1 : CV) (x15 : CV) (h5 : CH) (x12 : CV) (x3 : CV) (s3 : TupC 1) (s6 : TupC 1) (K7 : TupC 1 → CH → Bool) : Bool :=
 xIdx (some (some 1024, 1)) x1 x15 fun x16 =>
 xLoad (some none) x16 h5 fun x17 =>
 xConv (some (.int .u8)) (some (.int .i64)) x17 fun x18 =>
 xBin (some (.int .i64)) .add x12 x18 fun x19 =>
 xIdx (some (some 3, 1)) x3 s3.1 fun x20 =>
 xStore (some 1) x20 x19 h5 fun h6 =>
 xBin (some (.int .i64)) .sub s6.1 (.int .i64 (.ofNat 1)) fun x21 =>
 K7 (x21, ()) h6
noncomputable abbrev c127_2 (x3 : CV) (s3 : TupC 1) (h5 : CH) (s6 : TupC 1) (x1 : CV) (K7 : TupC 1 → CH → Bool) : Bool :=
 xIdx (some (some 3, 1)) x3 s3.1 fun x10 =>
 xLoad (some none) x10 h5 fun x11 =>
 xBin (some (.int .i64)) .mul (.int .i64 (.ofNat 256)) x11 fun x12 =>
 xBin (some (.int .i64)) .mul (.int .i64 (.ofNat 4)) s3.1 fun x13 =>
 xBin (some (.int .i64)) .add (.int .i64 (.ofNat 8)) x13 fun x14 =>
 xBin (some (.int .i64)) .add x14 s6.1 fun x15 =>
 c127_1 x1 x15 h5 x12 x3 s3 s6 K7
noncomputable abbrev c127_3 (x2 : CV) (h13 : CH) (k : CV → CH → Bool) : Bool :=
 xBuild (some (.inl [(0, 3), (3, 1), (4, 1), (5, 1), (6, 1), (7, 1), (8, 1)])) (some (.agg [(.int .i64 (.ofNat 0)), (.int .i64 (.ofNat 0)), (.int .i64 (.ofNat 0)), (.int .i64 (.ofNat 0)), (.int .i64 (.ofNat 0)), (.int .i64 (.ofNat 0)), (.int .i64 (.ofNat 0)), (.int .i64 (.ofNat 0)), (.int .i64 (.ofNat 0))])) [] fun x40 =>
 xStore (some 9) x2 x40 h13 fun h14 =>
 xLoad (some (some 9)) x2 h14 fun x41 =>
 k (.tup [x41, (.int .i64 (.ofNat 4))]) h14
noncomputable abbrev c127_4 (x38 : CV) (h12 : CH) (x1 : CV) (K43 : TupC 1 → CH → Bool) (x3 : CV) (v1 : CV) : Bool :=
 xLoad (some (some 1024)) x38 h12 fun x47 =>
 xLoad (some (some 1024)) x1 h12 fun x48 =>
 xEq (some (.agg (.bytes 1024))) .neq x47 x48 h12 fun x49 =>
 xIte x49
  (K43 ((.bool true), ()) h12)
  (xIdx (some (some 3, 1)) x3 (.int .i64 (.ofNat 0)) fun x50 =>
  xLoad (some none) x50 h12 fun x51 =>
  xBin (some (.int .i64)) .gtr x51 v1 fun x52 =>
  K43 (x52, ()) h12)
noncomputable abbrev c127_5 (x2 : CV) (k : CV → CH → Bool) (x33 : CV) (x32 : CV) (h12 : CH) (x37 : CV) (x38 : CV) (x1 : CV) (x3 : CV) (v1 : CV) : Bool :=
 xJoin (n := 1) (fun s38 h13 =>
  xIte s38.1
   (c127_3 x2 h13 k)
   (xLoad (some (some 9)) x33 h13 fun x42 =>
   xStore (some 9) x2 x42 h13 fun h15 =>
   xLoad (some (some 9)) x2 h15 fun x43 =>
   k (.tup [x43, (.int .i64 (.ofNat 0))]) h15))
 (fun K43 => xBin (some (.int .i64)) .neq x32 (.int .i64 (.ofNat 0)) fun x45 =>
 xIte x45
  (K43 ((.bool true), ()) h12)
  (xBin (some (.int .i64)) .neq x37 (.int .i64 (.ofNat 0)) fun x46 =>
  xIte x46
   (K43 ((.bool true), ()) h12)
   (c127_4 x38 h12 x1 K43 x3 v1)))
noncomputable abbrev c127_6 (h7 : CH) (x31 : CV) (x2 : CV) (k : CV → CH → Bool) (x32 : CV) (x1 : CV) (x3 : CV) (v1 : CV) : Bool :=
 xBoxP 58 [(.int .i64 (.ofNat 0)), (.int .i64 (.ofNat 0)), (.int .i64 (.ofNat 0)), (.int .i64 (.ofNat 0)), (.int .i64 (.ofNat 0)), (.int .i64 (.ofNat 0)), (.int .i64 (.ofNat 0)), (.int .i64 (.ofNat 0)), (.int .i64 (.ofNat 0))] h7 fun x33 h8 =>
 xStore (some 9) x33 x31 h8 fun h9 =>
 xLoad (some (some 9)) x33 h9 fun x34 =>
 bd45 x34 h9 fun x35 h10 =>
 xExtract x35 0 fun x36 =>
 xExtract x35 1 fun x37 =>
 xBoxP 124 [(.bytes 1024 0)] h10 fun x38 h11 =>
 xStore (some 1024) x38 x36 h11 fun h12 =>
 c127_5 x2 k x33 x32 h12 x37 x38 x1 x3 v1
noncomputable abbrev c127_7 (x3 : CV) (h4 : CH) (x24 : CV) (x26 : CV) (x2 : CV) (k : CV → CH → Bool) (x1 : CV) (v1 : CV) : Bool :=
 xIdx (some (some 3, 1)) x3 (.int .i64 (.ofNat 2)) fun x27 =>
 xLoad (some none) x27 h4 fun x28 =>
 xBuild (some (.inl [(0, 1), (1, 1), (2, 1)])) (some (.agg [(.int .i64 (.ofNat 0)), (.int .i64 (.ofNat 0)), (.int .i64 (.ofNat 0))])) [(0, x24), (1, x26), (2, x28)] fun x29 =>
 bd20 x29 h4 fun x30 h7 =>
 xExtract x30 0 fun x31 =>
 xExtract x30 1 fun x32 =>
 c127_6 h7 x31 x2 k x32 x1 x3 v1
noncomputable abbrev c127_8 (x6 : CV) (x3 : CV) (s3 : TupC 1) (x1 : CV) (K4 : TupC 1 → CH → Bool) (h4 : CH) (x2 : CV) (k : CV → CH → Bool) (v1 : CV) : Bool :=
 xIte x6
  (xLoop (n := 1) (fun K7 s6 h5 =>
   xBin (some (.int .i64)) .geq s6.1 (.int .i64 (.ofNat 0)) fun x9 =>
   xIte x9
    (c127_2 x3 s3 h5 s6 x1 K7)
    (xBin (some (.int .i64)) .add s3.1 (.int .i64 (.ofNat 1)) fun x22 =>
    K4 (x22, ()) h5)) 1000000 ((.int .i64 (.ofNat 3)), ()) h4)
  (xIdx (some (some 3, 1)) x3 (.int .i64 (.ofNat 0)) fun x23 =>
  xLoad (some none) x23 h4 fun x24 =>
  xIdx (some (some 3, 1)) x3 (.int .i64 (.ofNat 1)) fun x25 =>
  xLoad (some none) x25 h4 fun x26 =>
  c127_7 x3 h4 x24 x26 x2 k x1 v1)
noncomputable abbrev c127_9 (h1 : CH) (x1 : CV) (k : CV → CH → Bool) (v1 : CV) : Bool :=
 xBoxP 58 [(.int .i64 (.ofNat 0)), (.int .i64 (.ofNat 0)), (.int .i64 (.ofNat 0)), (.int .i64 (.ofNat 0)), (.int .i64 (.ofNat 0)), (.int .i64 (.ofNat 0)), (.int .i64 (.ofNat 0)), (.int .i64 (.ofNat 0)), (.int .i64 (.ofNat 0))] h1 fun x2 h2 =>
 xBoxP 264 [(.int .i64 (.ofNat 0)), (.int .i64 (.ofNat 0)), (.int .i64 (.ofNat 0))] h2 fun x3 h3 =>
 xLoop (n := 1) (fun K4 s3 h4 =>
  xBin (some (.int .i64)) .lss s3.1 (.int .i64 (.ofNat 3)) fun x6 =>
  c127_8 x6 x3 s3 x1 K4 h4 x2 k v1) 1000000 ((.int .i64 (.ofNat 0)), ()) h3
noncomputable def bd127 (v0 v1 : CV) (h : CH) (k : CV → CH → Bool) : Bool :=
 xBox 124 v0 h fun x1 h1 =>
 c127_9 h1 x1 k v1
noncomputable abbrev ex127 : Ex := fun args h k => a2 args fun v0 v1 => bd127 v0 v1 h k
set_option maxRecDepth 100000 in
theorem sim127 : SimF Tryz.prog 127 ex127 := fun args h k hk => by
  obtain ⟨v0, v1, rfl, hk⟩ := a2_ok hk
  exact sim_of (qf := (fun f => [46, 47, 62, 75, 82, 97, 104, 114, 121, 127, 128, 141, 151, 156, 157, 183].contains f)) (Z := zs) (C := [(20, ex20), (45, ex45)]) (T := []) ⟨zerosB_ok zsOk, (exCons (by kernel_rfl) sim20 (exCons (by kernel_rfl) sim45 exNil))⟩ (.seq .nil (.seq .nil (.seq (.seq .nil (.loop [7] [13, 14, 8, 17, 18, 21, 22, 23, 24, 25, 26, 27, 28, 29, 30, 31, 32, 33, 34, 35, 19, 20, 15, 16] (.seq .nil (.seq (.seq .nil (.loop [8] [17, 18, 21, 22, 23, 24, 25, 26, 27, 28, 29, 30, 31, 32, 33, 34, 35, 19, 20] .nil)) .nil)))) (.seq .nil (.seq .nil (.seq (.join [68] [52, 53, 54, 55, 56, 57, 58, 59, 60, 61, 62, 63, 64, 65, 66, 67] .nil .nil) .nil)))))) Tryz.func127 _ h k (Eq.mp (by kernel_rfl : (bd127 v0 v1 h k = true) = (xFn Tryz.prog (fun f => [46, 47, 62, 75, 82, 97, 104, 114, 121, 127, 128, 141, 151, 156, 157, 183].contains f) zs [(20, ex20), (45, ex45)] [] Tryz.f127 (.seq .nil (.seq .nil (.seq (.seq .nil (.loop [7] [13, 14, 8, 17, 18, 21, 22, 23, 24, 25, 26, 27, 28, 29, 30, 31, 32, 33, 34, 35, 19, 20, 15, 16] (.seq .nil (.seq (.seq .nil (.loop [8] [17, 18, 21, 22, 23, 24, 25, 26, 27, 28, 29, 30, 31, 32, 33, 34, 35, 19, 20] .nil)) .nil)))) (.seq .nil (.seq .nil (.seq (.join [68] [52, 53, 54, 55, 56, 57, 58, 59, 60, 61, 62, 63, 64, 65, 66, 67] .nil .nil) .nil)))))) [v0, v1] h k = true)) hk)

/- undercroft/undercroftref01.inside -/
noncomputable def bd184 (v0 : CV) (h : CH) (k : CV → CH → Bool) : Bool :=
 xBin (some (.int .i64)) .geq v0 (.int .i64 (.ofNat 0)) fun x1 =>
 xIte x1
  (xBin (some (.int .i64)) .lss v0 (.int .i64 (.ofNat 1024)) fun x2 =>
  k x2 h)
  (k (.bool false) h)
noncomputable abbrev ex184 : Ex := fun args h k => a1 args fun v0 => bd184 v0 h k
set_option maxRecDepth 100000 in
theorem sim184 : SimF Tryz.prog 184 ex184 := fun args h k hk => by
  obtain ⟨v0, rfl, hk⟩ := a1_ok hk
  exact sim_of (qf := (fun f => [46, 47, 62, 75, 82, 97, 104, 114, 121, 127, 128, 141, 151, 156, 157, 183].contains f)) (Z := zs) (C := []) (T := []) ⟨zerosB_ok zsOk, exNil⟩ .nil Tryz.func184 _ h k (Eq.mp (by kernel_rfl : (bd184 v0 h k = true) = (xFn Tryz.prog (fun f => [46, 47, 62, 75, 82, 97, 104, 114, 121, 127, 128, 141, 151, 156, 157, 183].contains f) zs [] [] Tryz.f184 .nil [v0] h k = true)) hk)

/- undercroft/undercroftref01.number -/
noncomputable abbrev c178_1 (s3 : TupC 2) (v1 : CV) (x1 : CV) (h3 : CH) (K4 : TupC 2 → CH → Bool) : Bool :=
 xBin (some (.int .u32)) .mul s3.1 (.int .u32 (.ofNat 256)) fun x7 =>
 xBin (some (.int .i64)) .add v1 s3.2.1 fun x8 =>
 xIdx (some (some 1024, 1)) x1 x8 fun x9 =>
 xLoad (some none) x9 h3 fun x10 =>
 xConv (some (.int .u8)) (some (.int .u32)) x10 fun x11 =>
 xBin (some (.int .u32)) .add x7 x11 fun x12 =>
 xBin (some (.int .i64)) .sub s3.2.1 (.int .i64 (.ofNat 1)) fun x13 =>
 K4 (x12, x13, ()) h3
noncomputable abbrev c178_2 (k : CV → CH → Bool) (v2 : CV) (v1 : CV) (x1 : CV) (h1 : CH) : Bool :=
 xJoin (n := 1) (fun s1 h2 =>
  xIte s1.1
   (k (.int .u32 (.ofNat 0)) h2)
   (xBin (some (.int .i64)) .sub v2 (.int .i64 (.ofNat 1)) fun x3 =>
   xLoop (n := 2) (fun K4 s3 h3 =>
    xBin (some (.int .i64)) .geq s3.2.1 (.int .i64 (.ofNat 0)) fun x6 =>
    xIte x6
     (c178_1 s3 v1 x1 h3 K4)
     (k s3.1 h3)) 1000000 ((.int .u32 (.ofNat 0)), x3, ()) h2))
 (fun K13 => bd184 v1 h1 fun x15 h4 =>
 xUn .not x15 fun x16 =>
 xIte x16
  (K13 ((.bool true), ()) h4)
  (xBin (some (.int .i64)) .add v1 v2 fun x17 =>
  xBin (some (.int .i64)) .sub x17 (.int .i64 (.ofNat 1)) fun x18 =>
  bd184 x18 h4 fun x19 h5 =>
  xUn .not x19 fun x20 =>
  K13 (x20, ()) h5))
noncomputable def bd178 (v0 v1 v2 : CV) (h : CH) (k : CV → CH → Bool) : Bool :=
 xBox 124 v0 h fun x1 h1 =>
 c178_2 k v2 v1 x1 h1
noncomputable abbrev ex178 : Ex := fun args h k => a3 args fun v0 v1 v2 => bd178 v0 v1 v2 h k
set_option maxRecDepth 100000 in
theorem sim178 : SimF Tryz.prog 178 ex178 := fun args h k hk => by
  obtain ⟨v0, v1, v2, rfl, hk⟩ := a3_ok hk
  exact sim_of (qf := (fun f => [46, 47, 62, 75, 82, 97, 104, 114, 121, 127, 128, 141, 151, 156, 157, 183].contains f)) (Z := zs) (C := [(184, ex184)]) (T := []) ⟨zerosB_ok zsOk, (exCons (by kernel_rfl) sim184 exNil)⟩ (.seq .nil (.seq (.join [19] [9, 10, 11, 12, 13, 14, 15, 16, 17, 18] .nil .nil) (.seq .nil (.seq (.seq .nil (.loop [7, 8] [22, 23, 26, 27, 28, 29, 30, 31, 32, 33, 34, 24, 25] .nil)) .nil)))) Tryz.func178 _ h k (Eq.mp (by kernel_rfl : (bd178 v0 v1 v2 h k = true) = (xFn Tryz.prog (fun f => [46, 47, 62, 75, 82, 97, 104, 114, 121, 127, 128, 141, 151, 156, 157, 183].contains f) zs [(184, ex184)] [] Tryz.f178 (.seq .nil (.seq (.join [19] [9, 10, 11, 12, 13, 14, 15, 16, 17, 18] .nil .nil) (.seq .nil (.seq (.seq .nil (.loop [7, 8] [22, 23, 26, 27, 28, 29, 30, 31, 32, 33, 34, 24, 25] .nil)) .nil)))) [v0, v1, v2] h k = true)) hk)

/- undercroft/undercroftref01.U32 -/
noncomputable def bd153 (v0 v1 : CV) (h : CH) (k : CV → CH → Bool) : Bool :=
 xBox 124 v0 h fun x1 h1 =>
 xLoad (some (some 1024)) x1 h1 fun x2 =>
 bd178 x2 v1 (.int .i64 (.ofNat 4)) h1 fun x3 h2 =>
 k x3 h2
noncomputable abbrev ex153 : Ex := fun args h k => a2 args fun v0 v1 => bd153 v0 v1 h k
set_option maxRecDepth 100000 in
theorem sim153 : SimF Tryz.prog 153 ex153 := fun args h k hk => by
  obtain ⟨v0, v1, rfl, hk⟩ := a2_ok hk
  exact sim_of (qf := (fun f => [46, 47, 62, 75, 82, 97, 104, 114, 121, 127, 128, 141, 151, 156, 157, 183].contains f)) (Z := zs) (C := [(178, ex178)]) (T := []) ⟨zerosB_ok zsOk, (exCons (by kernel_rfl) sim178 exNil)⟩ .nil Tryz.func153 _ h k (Eq.mp (by kernel_rfl : (bd153 v0 v1 h k = true) = (xFn Tryz.prog (fun f => [46, 47, 62, 75, 82, 97, 104, 114, 121, 127, 128, 141, 151, 156, 157, 183].contains f) zs [(178, ex178)] [] Tryz.f153 .nil [v0, v1] h k = true)) hk)

/- undercroft/undercroftref07.May -/
noncomputable abbrev c154_1 (x24 : CV) (x2 : CV) (h5 : CH) (s21 : TupC 1) (x20 : CV) (k : CV → CH → Bool) (K22 : TupC 1 → CH → Bool) (s10 : TupC 1) (K11 : TupC 1 → CH → Bool) : Bool :=
 xIte x24
  (xAddr (some 0) x2 fun x25 =>
  xLoad (some none) x25 h5 fun x26 =>
  xIdx (some (none, 1)) x26 s21.1 fun x27 =>
  xLoad (some none) x27 h5 fun x28 =>
  xBin (some (.int .i64)) .eql x28 x20 fun x29 =>
  xIte x29
   (k (.bool false) h5)
   (xBin (some (.int .i64)) .add s21.1 (.int .i64 (.ofNat 1)) fun x30 =>
   K22 (x30, ()) h5))
  (xBin (some (.int .i64)) .add s10.1 (.int .i64 (.ofNat 1)) fun x31 =>
  K11 (x31, ()) h5)
noncomputable abbrev c154_2 (x34 : CV) (h3 : CH) (x20 : CV) (K31 : TupC 1 → CH → Bool) (x1 : CV) : Bool :=
 xLoad (some none) x34 h3 fun x35 =>
 xBin (some (.int .i64)) .add (.int .i64 (.ofNat 1)) x35 fun x36 =>
 xBin (some (.int .i64)) .lss x20 x36 fun x37 =>
 xIte x37
  (K31 ((.bool true), ()) h3)
  (xAddr (some 0) x1 fun x38 =>
  xAddr (some 0) x38 fun x39 =>
  xLoad (some none) x39 h3 fun x40 =>
  xBin (some (.int .i64)) .geq x20 x40 fun x41 =>
  K31 (x41, ()) h3)
noncomputable abbrev c154_3 (x19 : CV) (h3 : CH) (k : CV → CH → Bool) (s10 : TupC 1) (x2 : CV) (K11 : TupC 1 → CH → Bool) (x1 : CV) : Bool :=
 xLoad (some none) x19 h3 fun x20 =>
 xJoin (n := 1) (fun s20 h4 =>
  xIte s20.1
   (k (.bool false) h4)
   (xLoop (n := 1) (fun K22 s21 h5 =>
    xBin (some (.int .i64)) .lss s21.1 s10.1 fun x24 =>
    c154_1 x24 x2 h5 s21 x20 k K22 s10 K11) 1000000 ((.int .i64 (.ofNat 0)), ()) h4))
 (fun K31 => xAddr (some 0) x1 fun x33 =>
 xAddr (some 1) x33 fun x34 =>
 c154_2 x34 h3 x20 K31 x1)
noncomputable abbrev c154_4 (x2 : CV) (k : CV → CH → Bool) (x1 : CV) (h2 : CH) : Bool :=
 xLoop (n := 1) (fun K11 s10 h3 =>
  xAddr (some 0) x2 fun x13 =>
  xLoad (some none) x13 h3 fun x14 =>
  xLen (some (.inl false)) x14 fun x15 =>
  xBin (some (.int .i64)) .lss s10.1 x15 fun x16 =>
  xIte x16
   (xAddr (some 0) x2 fun x17 =>
   xLoad (some none) x17 h3 fun x18 =>
   xIdx (some (none, 1)) x18 s10.1 fun x19 =>
   c154_3 x19 h3 k s10 x2 K11 x1)
   (k (.bool true) h3)) 1000000 ((.int .i64 (.ofNat 0)), ()) h2
noncomputable abbrev c154_5 (x2 : CV) (h2 : CH) (x1 : CV) (k : CV → CH → Bool) : Bool :=
 xAddr (some 0) x2 fun x3 =>
 xLoad (some none) x3 h2 fun x4 =>
 xLen (some (.inl false)) x4 fun x5 =>
 xAddr (some 0) x1 fun x6 =>
 xAddr (some 1) x6 fun x7 =>
 xLoad (some none) x7 h2 fun x8 =>
 xBin (some (.int .i64)) .sub x8 (.int .i64 (.ofNat 1)) fun x9 =>
 xBin (some (.int .i64)) .gtr x5 x9 fun x10 =>
 xIte x10
  (k (.bool false) h2)
  (c154_4 x2 k x1 h2)
noncomputable def bd154 (v0 v1 : CV) (h : CH) (k : CV → CH → Bool) : Bool :=
 xBox 58 v0 h fun x1 h1 =>
 xBox 138 v1 h1 fun x2 h2 =>
 c154_5 x2 h2 x1 k
noncomputable abbrev ex154 : Ex := fun args h k => a2 args fun v0 v1 => bd154 v0 v1 h k
set_option maxRecDepth 100000 in
theorem sim154 : SimF Tryz.prog 154 ex154 := fun args h k hk => by
  obtain ⟨v0, v1, rfl, hk⟩ := a2_ok hk
  exact sim_of (qf := (fun f => [46, 47, 62, 75, 82, 97, 104, 114, 121, 127, 128, 141, 151, 156, 157, 183].contains f)) (Z := zs) (C := []) (T := []) ⟨zerosB_ok zsOk, exNil⟩ (.seq .nil (.seq .nil (.seq (.seq .nil (.loop [5] [16, 17, 18, 19, 20, 23, 24, 25, 26, 27, 6, 28, 29, 30, 31, 32, 33, 34, 35, 36, 37, 38, 39, 40, 4, 7, 41, 42, 43, 46, 47, 48, 49, 50, 51, 52, 44, 45, 21, 22] (.seq .nil (.seq (.seq .nil (.seq (.join [40] [28, 29, 30, 31, 32, 33, 34, 35, 36, 37, 38, 39] .nil .nil) (.seq .nil (.loop [7] [41, 42, 43, 46, 47, 48, 49, 50, 51, 52, 4, 44, 45] .nil)))) .nil)))) .nil))) Tryz.func154 _ h k (Eq.mp (by kernel_rfl : (bd154 v0 v1 h k = true) = (xFn Tryz.prog (fun f => [46, 47, 62, 75, 82, 97, 104, 114, 121, 127, 128, 141, 151, 156, 157, 183].contains f) zs [] [] Tryz.f154 (.seq .nil (.seq .nil (.seq (.seq .nil (.loop [5] [16, 17, 18, 19, 20, 23, 24, 25, 26, 27, 6, 28, 29, 30, 31, 32, 33, 34, 35, 36, 37, 38, 39, 40, 4, 7, 41, 42, 43, 46, 47, 48, 49, 50, 51, 52, 44, 45, 21, 22] (.seq .nil (.seq (.seq .nil (.seq (.join [40] [28, 29, 30, 31, 32, 33, 34, 35, 36, 37, 38, 39] .nil .nil) (.seq .nil (.loop [7] [41, 42, 43, 46, 47, 48, 49, 50, 51, 52, 4, 44, 45] .nil)))) .nil)))) .nil))) [v0, v1] h k = true)) hk)

/- undercroft/undercroftref07.Decode -/
noncomputable abbrev c104_1 (v0 : CV) (v1 : CV) (x1 : CV) (x2 : CV) (x3 : CV) (x11 : CV) (x19 : CV) (s19 : TupC 1) (x4 : CV) (x5 : CV) (x6 : CV) (x9 : CV) (x10 : CV) (x12 : CV) (x13 : CV) (x14 : CV) (x15 : CV) (x16 : CV) (x22 : CV) (x23 : CV) (x24 : CV) (x25 : CV) (x26 : CV) (x27 : CV) (x28 : CV) (x29 : CV) (x30 : CV) (x31 : CV) (x32 : CV) (x33 : CV) (x38 : CV) (x34 : CV) (x35 : CV) (x36 : CV) (x37 : CV) (x39 : CV) (x40 : CV) (x41 : CV) (x42 : CV) (h13 : CH) (h17 : CH) : Bool :=
 (eqCs [v0, v1, x1, x2, x3, (.int .i64 (.ofNat 0)), x11, x19, s19.1, x4, x5, x6, (.tup []), x9, x10, x11, x11, x12, x13, x14, x15, x16, (.tup []), s19.1, x11, x22, .junk, .junk, x23, x24, x25, s19.1, x26, x27, x28, x29, x30, x31, x32, (.tup []), (.tup []), (.tup []), (.tup []), (.tup []), (.tup [])] [v0, v1, x1, x2, x3, (.int .i64 (.ofNat 0)), x11, x19, s19.1, x4, x5, x6, (.tup []), x9, x10, x11, x11, x12, x13, x14, x15, x16, (.tup []), s19.1, x11, x22, .junk, .junk, x33, x38, x34, s19.1, x35, x36, x37, x39, x40, x41, x42, (.tup []), (.tup []), (.tup []), (.tup []), (.tup []), (.tup [])] && eqH h13 h17)
noncomputable abbrev c104_2 (x39 : CV) (h14 : CH) (x38 : CV) (x19 : CV) (v0 : CV) (v1 : CV) (x1 : CV) (x2 : CV) (x3 : CV) (x11 : CV) (s19 : TupC 1) (x4 : CV) (x5 : CV) (x6 : CV) (x9 : CV) (x10 : CV) (x12 : CV) (x13 : CV) (x14 : CV) (x15 : CV) (x16 : CV) (x22 : CV) (x23 : CV) (x24 : CV) (x25 : CV) (x26 : CV) (x27 : CV) (x28 : CV) (x29 : CV) (x30 : CV) (x31 : CV) (x32 : CV) (x33 : CV) (x34 : CV) (x35 : CV) (x36 : CV) (x37 : CV) (h13 : CH) : Bool :=
 xNewS (some (3, 1, 8, false)) (some [(.int .i64 (.ofNat 0))]) 1 [(0, x39)] h14 fun x40 h15 =>
 xApp (some (3, 1, 8, false)) x38 x40 h15 fun x41 h16 =>
 xAddr (some 0) x19 fun x42 =>
 xStore (some 1) x42 x41 h16 fun h17 =>
 c104_1 v0 v1 x1 x2 x3 x11 x19 s19 x4 x5 x6 x9 x10 x12 x13 x14 x15 x16 x22 x23 x24 x25 x26 x27 x28 x29 x30 x31 x32 x33 x38 x34 x35 x36 x37 x39 x40 x41 x42 h13 h17
noncomputable abbrev c104_3 (v0 : CV) (v1 : CV) (x1 : CV) (x2 : CV) (x3 : CV) (x11 : CV) (x19 : CV) (s19 : TupC 1) (x4 : CV) (x5 : CV) (x6 : CV) (x9 : CV) (x10 : CV) (x12 : CV) (x13 : CV) (x14 : CV) (x15 : CV) (x16 : CV) (x22 : CV) (x23 : CV) (x24 : CV) (x25 : CV) (x26 : CV) (x27 : CV) (x28 : CV) (x29 : CV) (x30 : CV) (x31 : CV) (x32 : CV) (x33 : CV) (x43 : CV) (x34 : CV) (x35 : CV) (x36 : CV) (x44 : CV) (x45 : CV) (x46 : CV) (x47 : CV) (x48 : CV) (h13 : CH) (h21 : CH) : Bool :=
 (eqCs [v0, v1, x1, x2, x3, (.int .i64 (.ofNat 0)), x11, x19, s19.1, x4, x5, x6, (.tup []), x9, x10, x11, x11, x12, x13, x14, x15, x16, (.tup []), s19.1, x11, x22, .junk, .junk, x23, x24, x25, s19.1, x26, x27, x28, x29, x30, x31, x32, (.tup []), (.tup []), (.tup []), (.tup []), (.tup []), (.tup [])] [v0, v1, x1, x2, x3, (.int .i64 (.ofNat 0)), x11, x19, s19.1, x4, x5, x6, (.tup []), x9, x10, x11, x11, x12, x13, x14, x15, x16, (.tup []), s19.1, x11, x22, .junk, .junk, x33, x43, x34, s19.1, x35, x36, x44, x45, x46, x47, x48, (.tup []), (.tup []), (.tup []), (.tup []), (.tup []), (.tup [])] && eqH h13 h21)
noncomputable abbrev c104_4 (x45 : CV) (h18 : CH) (x43 : CV) (x19 : CV) (v0 : CV) (v1 : CV) (x1 : CV) (x2 : CV) (x3 : CV) (x11 : CV) (s19 : TupC 1) (x4 : CV) (x5 : CV) (x6 : CV) (x9 : CV) (x10 : CV) (x12 : CV) (x13 : CV) (x14 : CV) (x15 : CV) (x16 : CV) (x22 : CV) (x23 : CV) (x24 : CV) (x25 : CV) (x26 : CV) (x27 : CV) (x28 : CV) (x29 : CV) (x30 : CV) (x31 : CV) (x32 : CV) (x33 : CV) (x34 : CV) (x35 : CV) (x36 : CV) (x44 : CV) (h13 : CH) : Bool :=
 xNewS (some (3, 1, 8, false)) (some [(.int .i64 (.ofNat 0))]) 1 [(0, x45)] h18 fun x46 h19 =>
 xApp (some (3, 1, 8, false)) x43 x46 h19 fun x47 h20 =>
 xAddr (some 0) x19 fun x48 =>
 xStore (some 1) x48 x47 h20 fun h21 =>
 c104_3 v0 v1 x1 x2 x3 x11 x19 s19 x4 x5 x6 x9 x10 x12 x13 x14 x15 x16 x22 x23 x24 x25 x26 x27 x28 x29 x30 x31 x32 x33 x43 x34 x35 x36 x44 x45 x46 x47 x48 h13 h21
noncomputable abbrev c104_5 (x33 : CV) (h9 : CH) (x34 : CV) (x36 : CV) (x19 : CV) (v0 : CV) (v1 : CV) (x1 : CV) (x2 : CV) (x3 : CV) (x11 : CV) (s19 : TupC 1) (x4 : CV) (x5 : CV) (x6 : CV) (x9 : CV) (x10 : CV) (x12 : CV) (x13 : CV) (x14 : CV) (x15 : CV) (x16 : CV) (x22 : CV) (x23 : CV) (x24 : CV) (x25 : CV) (x26 : CV) (x27 : CV) (x28 : CV) (x29 : CV) (x30 : CV) (x31 : CV) (x32 : CV) (x35 : CV) (h13 : CH) : Bool :=
 both
  (xLoad (some none) x33 h9 fun x43 =>
  bd153 x34 x36 h9 fun x44 h18 =>
  xConv (some (.int .u32)) (some (.int .i64)) x44 fun x45 =>
  c104_4 x45 h18 x43 x19 v0 v1 x1 x2 x3 x11 s19 x4 x5 x6 x9 x10 x12 x13 x14 x15 x16 x22 x23 x24 x25 x26 x27 x28 x29 x30 x31 x32 x33 x34 x35 x36 x44 h13)
  (both
   (bd153 x34 x36 h9 fun x37 h14 =>
   xLoad (some none) x33 h14 fun x38 =>
   xConv (some (.int .u32)) (some (.int .i64)) x37 fun x39 =>
   c104_2 x39 h14 x38 x19 v0 v1 x1 x2 x3 x11 s19 x4 x5 x6 x9 x10 x12 x13 x14 x15 x16 x22 x23 x24 x25 x26 x27 x28 x29 x30 x31 x32 x33 x34 x35 x36 x37 h13)
   (true))
noncomputable abbrev c104_6 (x19 : CV) (x2 : CV) (h9 : CH) (s19 : TupC 1) (v0 : CV) (v1 : CV) (x1 : CV) (x3 : CV) (x11 : CV) (x4 : CV) (x5 : CV) (x6 : CV) (x9 : CV) (x10 : CV) (x12 : CV) (x13 : CV) (x14 : CV) (x15 : CV) (x16 : CV) (x22 : CV) (x23 : CV) (x24 : CV) (x25 : CV) (x26 : CV) (x27 : CV) (x28 : CV) (x29 : CV) (x30 : CV) (x31 : CV) (x32 : CV) (h13 : CH) (K20 : TupC 1 → CH → Bool) : Bool :=
 both
  (xAddr (some 0) x19 fun x33 =>
  xLoad (some (some 1024)) x2 h9 fun x34 =>
  xBin (some (.int .i64)) .add s19.1 (.int .i64 (.ofNat 1)) fun x35 =>
  xBin (some (.int .i64)) .mul (.int .i64 (.ofNat 4)) x35 fun x36 =>
  c104_5 x33 h9 x34 x36 x19 v0 v1 x1 x2 x3 x11 s19 x4 x5 x6 x9 x10 x12 x13 x14 x15 x16 x22 x23 x24 x25 x26 x27 x28 x29 x30 x31 x32 x35 h13)
  (xBin (some (.int .i64)) .add s19.1 (.int .i64 (.ofNat 1)) fun x49 =>
  K20 (x49, ()) h13)
noncomputable abbrev c104_7 (x28 : CV) (h10 : CH) (x24 : CV) (x19 : CV) (x2 : CV) (h9 : CH) (s19 : TupC 1) (v0 : CV) (v1 : CV) (x1 : CV) (x3 : CV) (x11 : CV) (x4 : CV) (x5 : CV) (x6 : CV) (x9 : CV) (x10 : CV) (x12 : CV) (x13 : CV) (x14 : CV) (x15 : CV) (x16 : CV) (x22 : CV) (x23 : CV) (x25 : CV) (x26 : CV) (x27 : CV) (K20 : TupC 1 → CH → Bool) : Bool :=
 xConv (some (.int .u32)) (some (.int .i64)) x28 fun x29 =>
 xNewS (some (3, 1, 8, false)) (some [(.int .i64 (.ofNat 0))]) 1 [(0, x29)] h10 fun x30 h11 =>
 xApp (some (3, 1, 8, false)) x24 x30 h11 fun x31 h12 =>
 xAddr (some 0) x19 fun x32 =>
 xStore (some 1) x32 x31 h12 fun h13 =>
 c104_6 x19 x2 h9 s19 v0 v1 x1 x3 x11 x4 x5 x6 x9 x10 x12 x13 x14 x15 x16 x22 x23 x24 x25 x26 x27 x28 x29 x30 x31 x32 h13 K20
noncomputable abbrev c104_8 (x23 : CV) (h9 : CH) (x2 : CV) (s19 : TupC 1) (x19 : CV) (v0 : CV) (v1 : CV) (x1 : CV) (x3 : CV) (x11 : CV) (x4 : CV) (x5 : CV) (x6 : CV) (x9 : CV) (x10 : CV) (x12 : CV) (x13 : CV) (x14 : CV) (x15 : CV) (x16 : CV) (x22 : CV) (K20 : TupC 1 → CH → Bool) : Bool :=
 xLoad (some none) x23 h9 fun x24 =>
 xLoad (some (some 1024)) x2 h9 fun x25 =>
 xBin (some (.int .i64)) .add s19.1 (.int .i64 (.ofNat 1)) fun x26 =>
 xBin (some (.int .i64)) .mul (.int .i64 (.ofNat 4)) x26 fun x27 =>
 bd153 x25 x27 h9 fun x28 h10 =>
 c104_7 x28 h10 x24 x19 x2 h9 s19 v0 v1 x1 x3 x11 x4 x5 x6 x9 x10 x12 x13 x14 x15 x16 x22 x23 x25 x26 x27 K20
noncomputable abbrev c104_9 (x53 : CV) (x3 : CV) (h22 : CH) (k : CV → CH → Bool) (x19 : CV) : Bool :=
 xIte x53
  (xBuild (some (.inl [(0, 1)])) (some (.agg [.nils])) [] fun x54 =>
  xStore (some 1) x3 x54 h22 fun h23 =>
  xLoad (some (some 1)) x3 h23 fun x55 =>
  k (.tup [x55, (.int .i64 (.ofNat 4))]) h23)
  (xLoad (some (some 1)) x19 h22 fun x56 =>
  xStore (some 1) x3 x56 h22 fun h24 =>
  xLoad (some (some 1)) x3 h24 fun x57 =>
  k (.tup [x57, (.int .i64 (.ofNat 0))]) h24)
noncomputable abbrev c104_10 (x11 : CV) (x19 : CV) (x2 : CV) (v0 : CV) (v1 : CV) (x1 : CV) (x3 : CV) (x4 : CV) (x5 : CV) (x6 : CV) (x9 : CV) (x10 : CV) (x12 : CV) (x13 : CV) (x14 : CV) (x15 : CV) (x16 : CV) (k : CV → CH → Bool) (h8 : CH) : Bool :=
 xLoop (n := 1) (fun K20 s19 h9 =>
  xBin (some (.int .i64)) .lss s19.1 x11 fun x22 =>
  xIte x22
   (xAddr (some 0) x19 fun x23 =>
   c104_8 x23 h9 x2 s19 x19 v0 v1 x1 x3 x11 x4 x5 x6 x9 x10 x12 x13 x14 x15 x16 x22 K20)
   (xLoad (some (some 9)) x1 h9 fun x50 =>
   xLoad (some (some 1)) x19 h9 fun x51 =>
   bd154 x50 x51 h9 fun x52 h22 =>
   xUn .not x52 fun x53 =>
   c104_9 x53 x3 h22 k x19)) 1000000 ((.int .i64 (.ofNat 0)), ()) h8
noncomputable abbrev c104_11 (x11 : CV) (x15 : CV) (x3 : CV) (h6 : CH) (k : CV → CH → Bool) (x2 : CV) (v0 : CV) (v1 : CV) (x1 : CV) (x4 : CV) (x5 : CV) (x6 : CV) (x9 : CV) (x10 : CV) (x12 : CV) (x13 : CV) (x14 : CV) : Bool :=
 xBin (some (.int .i64)) .gtr x11 x15 fun x16 =>
 xIte x16
  (xBuild (some (.inl [(0, 1)])) (some (.agg [.nils])) [] fun x17 =>
  xStore (some 1) x3 x17 h6 fun h7 =>
  xLoad (some (some 1)) x3 h7 fun x18 =>
  k (.tup [x18, (.int .i64 (.ofNat 4))]) h7)
  (xBoxP 138 [.nils] h6 fun x19 h8 =>
  c104_10 x11 x19 x2 v0 v1 x1 x3 x4 x5 x6 x9 x10 x12 x13 x14 x15 x16 k h8)
noncomputable abbrev c104_12 (x2 : CV) (h4 : CH) (x1 : CV) (x3 : CV) (k : CV → CH → Bool) (v0 : CV) (v1 : CV) (x4 : CV) (x5 : CV) (x6 : CV) : Bool :=
 xLoad (some (some 1024)) x2 h4 fun x9 =>
 bd153 x9 (.int .i64 (.ofNat 0)) h4 fun x10 h6 =>
 xConv (some (.int .u32)) (some (.int .i64)) x10 fun x11 =>
 xAddr (some 0) x1 fun x12 =>
 xAddr (some 1) x12 fun x13 =>
 xLoad (some none) x13 h6 fun x14 =>
 xBin (some (.int .i64)) .sub x14 (.int .i64 (.ofNat 1)) fun x15 =>
 c104_11 x11 x15 x3 h6 k x2 v0 v1 x1 x4 x5 x6 x9 x10 x12 x13 x14
noncomputable abbrev c104_13 (h2 : CH) (x1 : CV) (k : CV → CH → Bool) (x2 : CV) (v0 : CV) (v1 : CV) : Bool :=
 xBoxP 138 [.nils] h2 fun x3 h3 =>
 xLoad (some (some 9)) x1 h3 fun x4 =>
 bd92 x4 h3 fun x5 h4 =>
 xUn .not x5 fun x6 =>
 xIte x6
  (xBuild (some (.inl [(0, 1)])) (some (.agg [.nils])) [] fun x7 =>
  xStore (some 1) x3 x7 h4 fun h5 =>
  xLoad (some (some 1)) x3 h5 fun x8 =>
  k (.tup [x8, (.int .i64 (.ofNat 2))]) h5)
  (c104_12 x2 h4 x1 x3 k v0 v1 x4 x5 x6)
noncomputable def bd104 (v0 v1 : CV) (h : CH) (k : CV → CH → Bool) : Bool :=
 xBox 58 v0 h fun x1 h1 =>
 xBox 124 v1 h1 fun x2 h2 =>
 c104_13 h2 x1 k x2 v0 v1
noncomputable abbrev ex104 : Ex := fun args h k => a2 args fun v0 v1 => bd104 v0 v1 h k
set_option maxRecDepth 100000 in
theorem sim104 : SimF Tryz.prog 104 ex104 := fun args h k hk => by
  obtain ⟨v0, v1, rfl, hk⟩ := a2_ok hk
  exact sim_of (qf := (fun f => [46, 47, 62, 75, 82, 97, 104, 114, 121, 127, 128, 141, 151, 156, 157, 183].contains f)) (Z := zs) (C := [(92, ex92), (153, ex153), (154, ex154)]) (T := [(10, .tree [0, 1, 2, 3, 4, 5, 6, 7, 8, 9, 10, 11] (.fork [0, 2, 3, 4, 5] (.cons 1 (.line [6, 7, 8, 9, 10, 11]) (.cons 6 (.line [1, 7, 8, 9, 10, 11]) .nil))))]) ⟨zerosB_ok zsOk, (exCons (by kernel_rfl) sim92 (exCons (by kernel_rfl) sim153 (exCons (by kernel_rfl) sim154 exNil)))⟩ (.seq .nil (.seq .nil (.seq .nil (.seq .nil (.seq .nil (.seq (.seq .nil (.loop [8] [23, 24, 25, 28, 29, 30, 31, 32, 33, 34, 35, 36, 37, 38, 26, 27] .nil)) .nil)))))) Tryz.func104 _ h k (Eq.mp (by kernel_rfl : (bd104 v0 v1 h k = true) = (xFn Tryz.prog (fun f => [46, 47, 62, 75, 82, 97, 104, 114, 121, 127, 128, 141, 151, 156, 157, 183].contains f) zs [(92, ex92), (153, ex153), (154, ex154)] [(10, .tree [0, 1, 2, 3, 4, 5, 6, 7, 8, 9, 10, 11] (.fork [0, 2, 3, 4, 5] (.cons 1 (.line [6, 7, 8, 9, 10, 11]) (.cons 6 (.line [1, 7, 8, 9, 10, 11]) .nil))))] Tryz.f104 (.seq .nil (.seq .nil (.seq .nil (.seq .nil (.seq .nil (.seq (.seq .nil (.loop [8] [23, 24, 25, 28, 29, 30, 31, 32, 33, 34, 35, 36, 37, 38, 26, 27] .nil)) .nil)))))) [v0, v1] h k = true)) hk)

/- undercroft/undercroftref29.Open -/
noncomputable abbrev c84_1 (x27 : CV) (x28 : CV) (x29 : CV) (h12 : CH) (k : CV → CH → Bool) : Bool :=
 xBuild (some (.inl [(0, 2), (2, 9), (11, 1)])) (some (.agg [(.int .i64 (.ofNat 0)), .nils, (.int .i64 (.ofNat 0)), (.int .i64 (.ofNat 0)), (.int .i64 (.ofNat 0)), (.int .i64 (.ofNat 0)), (.int .i64 (.ofNat 0)), (.int .i64 (.ofNat 0)), (.int .i64 (.ofNat 0)), (.int .i64 (.ofNat 0)), (.int .i64 (.ofNat 0)), .nils])) [(0, x27), (1, x28), (2, x29)] fun x30 =>
 xBox 187 x30 h12 fun x31 h14 =>
 k (.tup [x31, .nils]) h14
noncomputable abbrev c84_2 (h10 : CH) (x22 : CV) (x23 : CV) (k : CV → CH → Bool) (x1 : CV) (x13 : CV) : Bool :=
 xBoxP 138 [.nils] h10 fun x24 h11 =>
 xStore (some 1) x24 x22 h11 fun h12 =>
 xBin (some (.int .i64)) .neq x23 (.int .i64 (.ofNat 0)) fun x25 =>
 xIte x25
  (bd126 (.int .u8 (.ofNat 3)) h12 fun x26 h13 =>
  k (.tup [.nilp, x26]) h13)
  (xLoad (some (some 2)) x1 h12 fun x27 =>
  xLoad (some (some 9)) x13 h12 fun x28 =>
  xLoad (some (some 1)) x24 h12 fun x29 =>
  c84_1 x27 x28 x29 h12 k)
noncomputable abbrev c84_3 (x14 : CV) (h7 : CH) (k : CV → CH → Bool) (x13 : CV) (x1 : CV) : Bool :=
 xIte x14
  (bd126 (.int .u8 (.ofNat 2)) h7 fun x15 h8 =>
  k (.tup [.nilp, x15]) h8)
  (xLoad (some (some 9)) x13 h7 fun x16 =>
  xLoad (some (some 2)) x1 h7 fun x17 =>
  xAddr (some 3) x13 fun x18 =>
  xLoad (some none) x18 h7 fun x19 =>
  xQuiet (some ex128) [x17, x19] h7 fun x20 h9 =>
  xQuiet (some ex104) [x16, x20] h9 fun x21 h10 =>
  xExtract x21 0 fun x22 =>
  xExtract x21 1 fun x23 =>
  c84_2 h10 x22 x23 k x1 x13)
noncomputable abbrev c84_4 (h5 : CH) (x11 : CV) (x12 : CV) (k : CV → CH → Bool) (x1 : CV) : Bool :=
 xBoxP 58 [(.int .i64 (.ofNat 0)), (.int .i64 (.ofNat 0)), (.int .i64 (.ofNat 0)), (.int .i64 (.ofNat 0)), (.int .i64 (.ofNat 0)), (.int .i64 (.ofNat 0)), (.int .i64 (.ofNat 0)), (.int .i64 (.ofNat 0)), (.int .i64 (.ofNat 0))] h5 fun x13 h6 =>
 xStore (some 9) x13 x11 h6 fun h7 =>
 xBin (some (.int .i64)) .neq x12 (.int .i64 (.ofNat 0)) fun x14 =>
 c84_3 x14 h7 k x13 x1
noncomputable abbrev c84_5 (x4 : CV) (h2 : CH) (k : CV → CH → Bool) (x1 : CV) : Bool :=
 xIte x4
  (bd126 (.int .u8 (.ofNat 1)) h2 fun x5 h3 =>
  k (.tup [.nilp, x5]) h3)
  (xLoad (some (some 2)) x1 h2 fun x6 =>
  xQuiet (some ex128) [x6, (.int .i64 (.ofNat 0))] h2 fun x7 h4 =>
  xAddr (some 0) x1 fun x8 =>
  xLoad (some none) x8 h4 fun x9 =>
  xQuiet (some ex127) [x7, x9] h4 fun x10 h5 =>
  xExtract x10 0 fun x11 =>
  xExtract x10 1 fun x12 =>
  c84_4 h5 x11 x12 k x1)
noncomputable def bd84 (v0 : CV) (h : CH) (k : CV → CH → Bool) : Bool :=
 xBox 66 v0 h fun x1 h1 =>
 xLoad (some (some 2)) x1 h1 fun x2 =>
 bd125 x2 h1 fun x3 h2 =>
 xBin (some (.int .i64)) .neq x3 (.int .i64 (.ofNat 0)) fun x4 =>
 c84_5 x4 h2 k x1
noncomputable abbrev ex84 : Ex := fun args h k => a1 args fun v0 => bd84 v0 h k
set_option maxRecDepth 100000 in
theorem sim84 : SimF Tryz.prog 84 ex84 := fun args h k hk => by
  obtain ⟨v0, rfl, hk⟩ := a1_ok hk
  exact sim_of (qf := (fun f => [46, 47, 62, 75, 82, 97, 104, 114, 121, 127, 128, 141, 151, 156, 157, 183].contains f)) (Z := zs) (C := [(125, ex125), (126, ex126), (128, ex128), (127, ex127), (104, ex104)]) (T := []) ⟨zerosB_ok zsOk, (exCons (by kernel_rfl) sim125 (exCons (by kernel_rfl) sim126 (exCons (by kernel_rfl) sim128 (exCons (by kernel_rfl) sim127 (exCons (by kernel_rfl) sim104 exNil)))))⟩ .nil Tryz.func84 _ h k (Eq.mp (by kernel_rfl : (bd84 v0 h k = true) = (xFn Tryz.prog (fun f => [46, 47, 62, 75, 82, 97, 104, 114, 121, 127, 128, 141, 151, 156, 157, 183].contains f) zs [(125, ex125), (126, ex126), (128, ex128), (127, ex127), (104, ex104)] [] Tryz.f84 .nil [v0] h k = true)) hk)

/- (*undercroft/undercroftref29.Disk).At -/
noncomputable abbrev c141_1 (v0 : CV) (h2 : CH) (s1 : TupC 1) (x19 : CV) (x1 : CV) (k : CV → CH → Bool) : Bool :=
 xNilCheck v0 fun x20 =>
 xAddr (some 2) x20 fun x21 =>
 xAddr (some 3) x21 fun x22 =>
 xLoad (some none) x22 h2 fun x23 =>
 xBin (some (.int .i64)) .add x23 (.int .i64 (.ofNat 1)) fun x24 =>
 xBin (some (.int .i64)) .add x24 s1.1 fun x25 =>
 xQuiet (some ex128) [x19, x25] h2 fun x26 h3 =>
 xStore (some 1024) x1 x26 h3 fun h4 =>
 xLoad (some (some 1024)) x1 h4 fun x27 =>
 k x27 h4
noncomputable abbrev c141_2 (x12 : CV) (h2 : CH) (s1 : TupC 1) (v1 : CV) (v0 : CV) (x1 : CV) (k : CV → CH → Bool) (K2 : TupC 1 → CH → Bool) : Bool :=
 xLoad (some none) x12 h2 fun x13 =>
 xIdx (some (none, 1)) x13 s1.1 fun x14 =>
 xLoad (some none) x14 h2 fun x15 =>
 xBin (some (.int .i64)) .eql x15 v1 fun x16 =>
 xIte x16
  (xNilCheck v0 fun x17 =>
  xAddr (some 0) x17 fun x18 =>
  xLoad (some (some 2)) x18 h2 fun x19 =>
  c141_1 v0 h2 s1 x19 x1 k)
  (xBin (some (.int .i64)) .add s1.1 (.int .i64 (.ofNat 1)) fun x28 =>
  K2 (x28, ()) h2)
noncomputable abbrev c141_3 (x9 : CV) (v0 : CV) (h2 : CH) (s1 : TupC 1) (v1 : CV) (x1 : CV) (k : CV → CH → Bool) (K2 : TupC 1 → CH → Bool) : Bool :=
 xIte x9
  (xNilCheck v0 fun x10 =>
  xAddr (some 11) x10 fun x11 =>
  xAddr (some 0) x11 fun x12 =>
  c141_2 x12 h2 s1 v1 v0 x1 k K2)
  (xNilCheck v0 fun x29 =>
  xAddr (some 0) x29 fun x30 =>
  xLoad (some (some 2)) x30 h2 fun x31 =>
  bd128 x31 v1 h2 fun x32 h5 =>
  xStore (some 1024) x1 x32 h5 fun h6 =>
  xLoad (some (some 1024)) x1 h6 fun x33 =>
  k x33 h6)
noncomputable def bd141 (v0 v1 : CV) (h : CH) (k : CV → CH → Bool) : Bool :=
 xBoxP 124 [(.bytes 1024 0)] h fun x1 h1 =>
 xLoop (n := 1) (fun K2 s1 h2 =>
  xNilCheck v0 fun x4 =>
  xAddr (some 11) x4 fun x5 =>
  xAddr (some 0) x5 fun x6 =>
  xLoad (some none) x6 h2 fun x7 =>
  xLen (some (.inl false)) x7 fun x8 =>
  xBin (some (.int .i64)) .lss s1.1 x8 fun x9 =>
  c141_3 x9 v0 h2 s1 v1 x1 k K2) 1000000 ((.int .i64 (.ofNat 0)), ()) h1
noncomputable abbrev ex141 : Ex := fun args h k => a2 args fun v0 v1 => bd141 v0 v1 h k
set_option maxRecDepth 100000 in
theorem sim141 : SimF Tryz.prog 141 ex141 := fun args h k hk => by
  obtain ⟨v0, v1, rfl, hk⟩ := a2_ok hk
  exact sim_of (qf := (fun f => [46, 47, 62, 75, 82, 97, 104, 114, 121, 127, 128, 141, 151, 156, 157, 183].contains f)) (Z := zs) (C := [(128, ex128)]) (T := []) ⟨zerosB_ok zsOk, (exCons (by kernel_rfl) sim128 exNil)⟩ (.seq .nil (.seq (.seq .nil (.loop [5] [6, 7, 8, 9, 10, 11, 12, 13, 16, 17, 18, 19, 20, 21, 22, 23, 24, 25, 26, 27, 28, 29, 30, 31, 32, 33, 34, 35, 36, 37, 38, 14, 15] .nil)) .nil)) Tryz.func141 _ h k (Eq.mp (by kernel_rfl : (bd141 v0 v1 h k = true) = (xFn Tryz.prog (fun f => [46, 47, 62, 75, 82, 97, 104, 114, 121, 127, 128, 141, 151, 156, 157, 183].contains f) zs [(128, ex128)] [] Tryz.f141 (.seq .nil (.seq (.seq .nil (.loop [5] [6, 7, 8, 9, 10, 11, 12, 13, 16, 17, 18, 19, 20, 21, 22, 23, 24, 25, 26, 27, 28, 29, 30, 31, 32, 33, 34, 35, 36, 37, 38, 14, 15] .nil)) .nil)) [v0, v1] h k = true)) hk)

/- (*undercroft/undercroftref29.Disk).Raw -/
noncomputable abbrev c162_1 (x14 : CV) (s10 : TupC 1) (x9 : CV) (h6 : CH) (x10 : CV) (K11 : TupC 1 → CH → Bool) : Bool :=
 xBin (some (.int .i64)) .mul (.int .i64 (.ofNat 64)) x14 fun x15 =>
 xBin (some (.int .i64)) .add x15 s10.1 fun x16 =>
 xIdx (some (some 1024, 1)) x9 x16 fun x17 =>
 xLoad (some none) x17 h6 fun x18 =>
 xIdx (some (some 64, 1)) x10 s10.1 fun x19 =>
 xStore (some 1) x19 x18 h6 fun h7 =>
 xBin (some (.int .i64)) .add s10.1 (.int .i64 (.ofNat 1)) fun x20 =>
 K11 (x20, ()) h7
noncomputable abbrev c162_2 (v1 : CV) (x9 : CV) (x10 : CV) (x1 : CV) (k : CV → CH → Bool) (h5 : CH) : Bool :=
 xLoop (n := 1) (fun K11 s10 h6 =>
  xBin (some (.int .i64)) .lss s10.1 (.int .i64 (.ofNat 64)) fun x13 =>
  xIte x13
   (xBin (some (.int .i64)) .rem v1 (.int .i64 (.ofNat 16)) fun x14 =>
   c162_1 x14 s10 x9 h6 x10 K11)
   (xLoad (some (some 64)) x10 h6 fun x21 =>
   xStore (some 64) x1 x21 h6 fun h8 =>
   xLoad (some (some 64)) x1 h8 fun x22 =>
   k x22 h8)) 1000000 ((.int .i64 (.ofNat 0)), ()) h5
noncomputable abbrev c162_3 (x3 : CV) (h1 : CH) (v1 : CV) (v0 : CV) (x1 : CV) (k : CV → CH → Bool) : Bool :=
 xAddr (some 4) x3 fun x4 =>
 xLoad (some none) x4 h1 fun x5 =>
 xBin (some (.int .i64)) .quo v1 (.int .i64 (.ofNat 16)) fun x6 =>
 xBin (some (.int .i64)) .add x5 x6 fun x7 =>
 bd141 v0 x7 h1 fun x8 h2 =>
 xBoxP 124 [(.bytes 1024 0)] h2 fun x9 h3 =>
 xStore (some 1024) x9 x8 h3 fun h4 =>
 xBoxP 172 [(.bytes 64 0)] h4 fun x10 h5 =>
 c162_2 v1 x9 x10 x1 k h5
noncomputable def bd162 (v0 v1 : CV) (h : CH) (k : CV → CH → Bool) : Bool :=
 xBoxP 172 [(.bytes 64 0)] h fun x1 h1 =>
 xNilCheck v0 fun x2 =>
 xAddr (some 2) x2 fun x3 =>
 c162_3 x3 h1 v1 v0 x1 k
noncomputable abbrev exi162 : Ex := fun args h k => a2 args fun v0 v1 => bd162 v0 v1 h k
set_option maxRecDepth 100000 in
theorem simi162 : SimF Tryz.prog 162 exi162 := fun args h k hk => by
  obtain ⟨v0, v1, rfl, hk⟩ := a2_ok hk
  exact sim_of (qf := (fun f => [46, 47, 62, 75, 82, 97, 104, 114, 121, 127, 128, 141, 151, 156, 157, 183].contains f)) (Z := zs) (C := [(141, ex141)]) (T := []) ⟨zerosB_ok zsOk, (exCons (by kernel_rfl) sim141 exNil)⟩ (.seq .nil (.seq .nil (.seq .nil (.seq (.seq .nil (.loop [7] [18, 19, 22, 23, 24, 25, 26, 27, 28, 29, 30, 20, 21] .nil)) .nil)))) Tryz.func162 _ h k (Eq.mp (by kernel_rfl : (bd162 v0 v1 h k = true) = (xFn Tryz.prog (fun f => [46, 47, 62, 75, 82, 97, 104, 114, 121, 127, 128, 141, 151, 156, 157, 183].contains f) zs [(141, ex141)] [] Tryz.f162 (.seq .nil (.seq .nil (.seq .nil (.seq (.seq .nil (.loop [7] [18, 19, 22, 23, 24, 25, 26, 27, 28, 29, 30, 20, 21] .nil)) .nil)))) [v0, v1] h k = true)) hk)
noncomputable abbrev ex162 : Ex := fun args h k => xQuiet (some exi162) args h k
theorem sim162 : SimF Tryz.prog 162 ex162 := simQ simi162

/- undercroft/undercroftref10.get -/
noncomputable abbrev c183_1 (s2 : TupC 2) (v1 : CV) (x1 : CV) (h2 : CH) (K3 : TupC 2 → CH → Bool) : Bool :=
 xBin (some (.int .u32)) .mul (.int .u32 (.ofNat 256)) s2.1 fun x6 =>
 xBin (some (.int .i64)) .add v1 s2.2.1 fun x7 =>
 xIdx (some (some 64, 1)) x1 x7 fun x8 =>
 xLoad (some none) x8 h2 fun x9 =>
 xConv (some (.int .u8)) (some (.int .u32)) x9 fun x10 =>
 xBin (some (.int .u32)) .add x6 x10 fun x11 =>
 xBin (some (.int .i64)) .sub s2.2.1 (.int .i64 (.ofNat 1)) fun x12 =>
 K3 (x11, x12, ()) h2
noncomputable def bd183 (v0 v1 v2 : CV) (h : CH) (k : CV → CH → Bool) : Bool :=
 xBox 172 v0 h fun x1 h1 =>
 xBin (some (.int .i64)) .sub v2 (.int .i64 (.ofNat 1)) fun x2 =>
 xLoop (n := 2) (fun K3 s2 h2 =>
  xBin (some (.int .i64)) .geq s2.2.1 (.int .i64 (.ofNat 0)) fun x5 =>
  xIte x5
   (c183_1 s2 v1 x1 h2 K3)
   (k s2.1 h2)) 1000000 ((.int .u32 (.ofNat 0)), x2, ()) h1
noncomputable abbrev ex183 : Ex := fun args h k => a3 args fun v0 v1 v2 => bd183 v0 v1 v2 h k
set_option maxRecDepth 100000 in
theorem sim183 : SimF Tryz.prog 183 ex183 := fun args h k hk => by
  obtain ⟨v0, v1, v2, rfl, hk⟩ := a3_ok hk
  exact sim_of (qf := (fun f => [46, 47, 62, 75, 82, 97, 104, 114, 121, 127, 128, 141, 151, 156, 157, 183].contains f)) (Z := zs) (C := []) (T := []) ⟨zerosB_ok zsOk, exNil⟩ (.seq .nil (.seq .nil (.seq (.seq .nil (.loop [7, 8] [11, 12, 15, 16, 17, 18, 19, 20, 21, 22, 23, 13, 14] .nil)) .nil))) Tryz.func183 _ h k (Eq.mp (by kernel_rfl : (bd183 v0 v1 v2 h k = true) = (xFn Tryz.prog (fun f => [46, 47, 62, 75, 82, 97, 104, 114, 121, 127, 128, 141, 151, 156, 157, 183].contains f) zs [] [] Tryz.f183 (.seq .nil (.seq .nil (.seq (.seq .nil (.loop [7, 8] [11, 12, 15, 16, 17, 18, 19, 20, 21, 22, 23, 13, 14] .nil)) .nil))) [v0, v1, v2] h k = true)) hk)

/- undercroft/undercroftref10.Decode -/
noncomputable abbrev c172_1 (s14 : TupC 1) (x18 : CV) (h9 : CH) (x14 : CV) (K15 : TupC 1 → CH → Bool) : Bool :=
 xBin (some (.int .i64)) .mul (.int .i64 (.ofNat 4)) s14.1 fun x19 =>
 xBin (some (.int .i64)) .add (.int .i64 (.ofNat 12)) x19 fun x20 =>
 bd183 x18 x20 (.int .i64 (.ofNat 4)) h9 fun x21 h10 =>
 xAddr (some 4) x14 fun x22 =>
 xIdx (some (some 10, 1)) x22 s14.1 fun x23 =>
 xStore (some 1) x23 x21 h10 fun h11 =>
 xBin (some (.int .i64)) .add s14.1 (.int .i64 (.ofNat 1)) fun x24 =>
 K15 (x24, ()) h11
noncomputable abbrev c172_2 (x27 : CV) (x26 : CV) (h12 : CH) (x1 : CV) (x14 : CV) (x2 : CV) (k : CV → CH → Bool) : Bool :=
 xStore (some 1) x27 x26 h12 fun h13 =>
 xLoad (some (some 64)) x1 h13 fun x28 =>
 bd183 x28 (.int .i64 (.ofNat 56)) (.int .i64 (.ofNat 4)) h13 fun x29 h14 =>
 xAddr (some 15) x14 fun x30 =>
 xStore (some 1) x30 x29 h14 fun h15 =>
 xLoad (some (some 16)) x14 h15 fun x31 =>
 xStore (some 16) x2 x31 h15 fun h16 =>
 xLoad (some (some 16)) x2 h16 fun x32 =>
 k x32 h16
noncomputable abbrev c172_3 (x1 : CV) (x14 : CV) (x2 : CV) (k : CV → CH → Bool) (h8 : CH) : Bool :=
 xLoop (n := 1) (fun K15 s14 h9 =>
  xBin (some (.int .i64)) .lss s14.1 (.int .i64 (.ofNat 10)) fun x17 =>
  xIte x17
   (xLoad (some (some 64)) x1 h9 fun x18 =>
   c172_1 s14 x18 h9 x14 K15)
   (xLoad (some (some 64)) x1 h9 fun x25 =>
   bd183 x25 (.int .i64 (.ofNat 52)) (.int .i64 (.ofNat 4)) h9 fun x26 h12 =>
   xAddr (some 14) x14 fun x27 =>
   c172_2 x27 x26 h12 x1 x14 x2 k)) 1000000 ((.int .i64 (.ofNat 0)), ()) h8
noncomputable abbrev c172_4 (h6 : CH) (x13 : CV) (x1 : CV) (x2 : CV) (k : CV → CH → Bool) : Bool :=
 xBoxP 99 [(.int .u16 (.ofNat 0)), (.int .u16 (.ofNat 0)), (.int .u32 (.ofNat 0)), (.int .u32 (.ofNat 0)), (.int .u32 (.ofNat 0)), (.int .u32 (.ofNat 0)), (.int .u32 (.ofNat 0)), (.int .u32 (.ofNat 0)), (.int .u32 (.ofNat 0)), (.int .u32 (.ofNat 0)), (.int .u32 (.ofNat 0)), (.int .u32 (.ofNat 0)), (.int .u32 (.ofNat 0)), (.int .u32 (.ofNat 0)), (.int .u32 (.ofNat 0)), (.int .u32 (.ofNat 0))] h6 fun x14 h7 =>
 xStore (some 16) x14 x13 h7 fun h8 =>
 c172_3 x1 x14 x2 k h8
noncomputable abbrev c172_5 (x5 : CV) (x8 : CV) (x10 : CV) (x12 : CV) (h6 : CH) (x1 : CV) (x2 : CV) (k : CV → CH → Bool) : Bool :=
 xBuild (some (.inl [(0, 1), (1, 1), (2, 1), (3, 1), (4, 10), (14, 1), (15, 1)])) (some (.agg [(.int .u16 (.ofNat 0)), (.int .u16 (.ofNat 0)), (.int .u32 (.ofNat 0)), (.int .u32 (.ofNat 0)), (.int .u32 (.ofNat 0)), (.int .u32 (.ofNat 0)), (.int .u32 (.ofNat 0)), (.int .u32 (.ofNat 0)), (.int .u32 (.ofNat 0)), (.int .u32 (.ofNat 0)), (.int .u32 (.ofNat 0)), (.int .u32 (.ofNat 0)), (.int .u32 (.ofNat 0)), (.int .u32 (.ofNat 0)), (.int .u32 (.ofNat 0)), (.int .u32 (.ofNat 0))])) [(0, x5), (1, x8), (2, x10), (3, x12)] fun x13 =>
 c172_4 h6 x13 x1 x2 k
noncomputable abbrev c172_6 (x6 : CV) (h3 : CH) (x1 : CV) (x5 : CV) (x2 : CV) (k : CV → CH → Bool) : Bool :=
 xQuiet (some ex183) [x6, (.int .i64 (.ofNat 2)), (.int .i64 (.ofNat 2))] h3 fun x7 h4 =>
 xConv (some (.int .u32)) (some (.int .u16)) x7 fun x8 =>
 xLoad (some (some 64)) x1 h4 fun x9 =>
 xQuiet (some ex183) [x9, (.int .i64 (.ofNat 4)), (.int .i64 (.ofNat 4))] h4 fun x10 h5 =>
 xLoad (some (some 64)) x1 h5 fun x11 =>
 xQuiet (some ex183) [x11, (.int .i64 (.ofNat 8)), (.int .i64 (.ofNat 4))] h5 fun x12 h6 =>
 c172_5 x5 x8 x10 x12 h6 x1 x2 k
noncomputable abbrev c172_7 (h1 : CH) (x1 : CV) (k : CV → CH → Bool) : Bool :=
 xBoxP 99 [(.int .u16 (.ofNat 0)), (.int .u16 (.ofNat 0)), (.int .u32 (.ofNat 0)), (.int .u32 (.ofNat 0)), (.int .u32 (.ofNat 0)), (.int .u32 (.ofNat 0)), (.int .u32 (.ofNat 0)), (.int .u32 (.ofNat 0)), (.int .u32 (.ofNat 0)), (.int .u32 (.ofNat 0)), (.int .u32 (.ofNat 0)), (.int .u32 (.ofNat 0)), (.int .u32 (.ofNat 0)), (.int .u32 (.ofNat 0)), (.int .u32 (.ofNat 0)), (.int .u32 (.ofNat 0))] h1 fun x2 h2 =>
 xLoad (some (some 64)) x1 h2 fun x3 =>
 xQuiet (some ex183) [x3, (.int .i64 (.ofNat 0)), (.int .i64 (.ofNat 2))] h2 fun x4 h3 =>
 xConv (some (.int .u32)) (some (.int .u16)) x4 fun x5 =>
 xLoad (some (some 64)) x1 h3 fun x6 =>
 c172_6 x6 h3 x1 x5 x2 k
noncomputable def bd172 (v0 : CV) (h : CH) (k : CV → CH → Bool) : Bool :=
 xBox 172 v0 h fun x1 h1 =>
 c172_7 h1 x1 k
noncomputable abbrev exi172 : Ex := fun args h k => a1 args fun v0 => bd172 v0 h k
set_option maxRecDepth 100000 in
theorem simi172 : SimF Tryz.prog 172 exi172 := fun args h k hk => by
  obtain ⟨v0, rfl, hk⟩ := a1_ok hk
  exact sim_of (qf := (fun f => [46, 47, 62, 75, 82, 97, 104, 114, 121, 127, 128, 141, 151, 156, 157, 183].contains f)) (Z := zs) (C := [(183, ex183)]) (T := []) ⟨zerosB_ok zsOk, (exCons (by kernel_rfl) sim183 exNil)⟩ (.seq .nil (.seq .nil (.seq (.seq .nil (.loop [4] [16, 17, 20, 21, 22, 23, 24, 25, 26, 27, 18, 19] .nil)) .nil))) Tryz.func172 _ h k (Eq.mp (by kernel_rfl : (bd172 v0 h k = true) = (xFn Tryz.prog (fun f => [46, 47, 62, 75, 82, 97, 104, 114, 121, 127, 128, 141, 151, 156, 157, 183].contains f) zs [(183, ex183)] [] Tryz.f172 (.seq .nil (.seq .nil (.seq (.seq .nil (.loop [4] [16, 17, 20, 21, 22, 23, 24, 25, 26, 27, 18, 19] .nil)) .nil))) [v0] h k = true)) hk)
noncomputable abbrev ex172 : Ex := fun args h k => xQuiet (some exi172) args h k
theorem sim172 : SimF Tryz.prog 172 ex172 := simQ simi172

/- (*undercroft/undercroftref29.Disk).Node -/
noncomputable def bd138 (v0 v1 : CV) (h : CH) (k : CV → CH → Bool) : Bool :=
 xBoxP 99 [(.int .u16 (.ofNat 0)), (.int .u16 (.ofNat 0)), (.int .u32 (.ofNat 0)), (.int .u32 (.ofNat 0)), (.int .u32 (.ofNat 0)), (.int .u32 (.ofNat 0)), (.int .u32 (.ofNat 0)), (.int .u32 (.ofNat 0)), (.int .u32 (.ofNat 0)), (.int .u32 (.ofNat 0)), (.int .u32 (.ofNat 0)), (.int .u32 (.ofNat 0)), (.int .u32 (.ofNat 0)), (.int .u32 (.ofNat 0)), (.int .u32 (.ofNat 0)), (.int .u32 (.ofNat 0))] h fun x1 h1 =>
 ex162 [v0, v1] h1 fun x2 h2 =>
 ex172 [x2] h2 fun x3 h3 =>
 xStore (some 16) x1 x3 h3 fun h4 =>
 xLoad (some (some 16)) x1 h4 fun x4 =>
 k x4 h4
noncomputable abbrev exi138 : Ex := fun args h k => a2 args fun v0 v1 => bd138 v0 v1 h k
set_option maxRecDepth 100000 in
theorem simi138 : SimF Tryz.prog 138 exi138 := fun args h k hk => by
  obtain ⟨v0, v1, rfl, hk⟩ := a2_ok hk
  exact sim_of (qf := (fun f => [46, 47, 62, 75, 82, 97, 104, 114, 121, 127, 128, 141, 151, 156, 157, 183].contains f)) (Z := zs) (C := [(162, ex162), (172, ex172)]) (T := []) ⟨zerosB_ok zsOk, (exCons (by kernel_rfl) sim162 (exCons (by kernel_rfl) sim172 exNil))⟩ .nil Tryz.func138 _ h k (Eq.mp (by kernel_rfl : (bd138 v0 v1 h k = true) = (xFn Tryz.prog (fun f => [46, 47, 62, 75, 82, 97, 104, 114, 121, 127, 128, 141, 151, 156, 157, 183].contains f) zs [(162, ex162), (172, ex172)] [] Tryz.f138 .nil [v0, v1] h k = true)) hk)
noncomputable abbrev ex138 : Ex := fun args h k => xQuiet (some exi138) args h k
theorem sim138 : SimF Tryz.prog 138 ex138 := simQ simi138

/- undercroft/undercroftref29.odd -/
noncomputable abbrev c163_1 (x20 : CV) (x2 : CV) (h4 : CH) (k : CV → CH → Bool) : Bool :=
 xIte x20
  (xAddr (some 2) x2 fun x21 =>
  xLoad (some none) x21 h4 fun x22 =>
  xBin (some (.int .u32)) .lss x22 (.int .u32 (.ofNat 32)) fun x23 =>
  xIte x23
   (k (.bool true) h4)
   (xAddr (some 1) x2 fun x24 =>
   xLoad (some none) x24 h4 fun x25 =>
   xBin (some (.int .u16)) .eql x25 (.int .u16 (.ofNat 1)) fun x26 =>
   k x26 h4))
  (k (.bool false) h4)
noncomputable abbrev c163_2 (x14 : CV) (h4 : CH) (k : CV → CH → Bool) (x2 : CV) : Bool :=
 xLoad (some none) x14 h4 fun x15 =>
 xBin (some (.int .u32)) .rem x15 (.int .u32 (.ofNat 16)) fun x16 =>
 xBin (some (.int .u32)) .neq x16 (.int .u32 (.ofNat 0)) fun x17 =>
 xIte x17
  (k (.bool true) h4)
  (xAddr (some 1) x2 fun x18 =>
  xLoad (some none) x18 h4 fun x19 =>
  xBin (some (.int .u16)) .neq x19 (.int .u16 (.ofNat 0)) fun x20 =>
  c163_1 x20 x2 h4 k)
noncomputable abbrev c163_3 (x30 : CV) (K26 : TupC 1 → CH → Bool) (h3 : CH) (x2 : CV) : Bool :=
 xIte x30
  (K26 ((.bool true), ()) h3)
  (xAddr (some 2) x2 fun x31 =>
  xLoad (some none) x31 h3 fun x32 =>
  xBin (some (.int .u32)) .gtr x32 (.int .u32 (.ofNat 67381248)) fun x33 =>
  xIte x33
   (K26 ((.bool true), ()) h3)
   (xAddr (some 1) x2 fun x34 =>
   xLoad (some none) x34 h3 fun x35 =>
   xBin (some (.int .u16)) .gtr x35 (.int .u16 (.ofNat 1000)) fun x36 =>
   K26 (x36, ()) h3))
noncomputable abbrev c163_4 (k : CV → CH → Bool) (x2 : CV) (h3 : CH) : Bool :=
 xJoin (n := 1) (fun s9 h4 =>
  xIte s9.1
   (k (.bool true) h4)
   (xAddr (some 0) x2 fun x11 =>
   xLoad (some none) x11 h4 fun x12 =>
   xBin (some (.int .u16)) .eql x12 (.int .u16 (.ofNat 2)) fun x13 =>
   xIte x13
    (xAddr (some 2) x2 fun x14 =>
    c163_2 x14 h4 k x2)
    (k (.bool false) h4)))
 (fun K26 => xAddr (some 0) x2 fun x28 =>
 xLoad (some none) x28 h3 fun x29 =>
 xBin (some (.int .u16)) .gtr x29 (.int .u16 (.ofNat 2)) fun x30 =>
 c163_3 x30 K26 h3 x2)
noncomputable abbrev c163_5 (s2 : TupC 1) (x1 : CV) (h3 : CH) (k : CV → CH → Bool) (K3 : TupC 1 → CH → Bool) (x2 : CV) : Bool :=
 xBin (some (.int .i64)) .lss s2.1 (.int .i64 (.ofNat 64)) fun x5 =>
 xIte x5
  (xIdx (some (some 64, 1)) x1 s2.1 fun x6 =>
  xLoad (some none) x6 h3 fun x7 =>
  xBin (some (.int .u8)) .neq x7 (.int .u8 (.ofNat 0)) fun x8 =>
  xIte x8
   (k (.bool true) h3)
   (xBin (some (.int .i64)) .add s2.1 (.int .i64 (.ofNat 1)) fun x9 =>
   K3 (x9, ()) h3))
  (c163_4 k x2 h3)
noncomputable def bd163 (v0 v1 : CV) (h : CH) (k : CV → CH → Bool) : Bool :=
 xBox 172 v0 h fun x1 h1 =>
 xBox 99 v1 h1 fun x2 h2 =>
 xLoop (n := 1) (fun K3 s2 h3 =>
  c163_5 s2 x1 h3 k K3 x2) 1000000 ((.int .i64 (.ofNat 60)), ()) h2
noncomputable abbrev ex163 : Ex := fun args h k => a2 args fun v0 v1 => bd163 v0 v1 h k
set_option maxRecDepth 100000 in
theorem sim163 : SimF Tryz.prog 163 ex163 := fun args h k hk => by
  obtain ⟨v0, v1, rfl, hk⟩ := a2_ok hk
  exact sim_of (qf := (fun f => [46, 47, 62, 75, 82, 97, 104, 114, 121, 127, 128, 141, 151, 156, 157, 183].contains f)) (Z := zs) (C := []) (T := []) ⟨zerosB_ok zsOk, exNil⟩ (.seq .nil (.seq (.seq .nil (.loop [5] [6, 7, 10, 11, 12, 13, 4, 8, 9] .nil)) (.seq (.join [26] [14, 15, 16, 17, 18, 19, 20, 21, 22, 23, 24, 25] .nil .nil) .nil))) Tryz.func163 _ h k (Eq.mp (by kernel_rfl : (bd163 v0 v1 h k = true) = (xFn Tryz.prog (fun f => [46, 47, 62, 75, 82, 97, 104, 114, 121, 127, 128, 141, 151, 156, 157, 183].contains f) zs [] [] Tryz.f163 (.seq .nil (.seq (.seq .nil (.loop [5] [6, 7, 10, 11, 12, 13, 4, 8, 9] .nil)) (.seq (.join [26] [14, 15, 16, 17, 18, 19, 20, 21, 22, 23, 24, 25] .nil .nil) .nil))) [v0, v1] h k = true)) hk)

/- (*undercroft/undercroftref29.Faults).add -/
noncomputable abbrev c164_1 (x18 : CV) (s0 : TupC 3) (h2 : CH) (s14 : TupC 2) (K1 : TupC 3 → CH → Bool) : Bool :=
 xIdx (some (none, 2)) x18 s0.2.2.1 fun x19 =>
 xLoad (some (some 2)) x19 h2 fun x20 =>
 xNewS (some (263, 2, 16, false)) (some [(.bytes 1 0), (.int .i64 (.ofNat 0))]) 1 [(0, x20)] h2 fun x21 h3 =>
 xApp (some (263, 2, 16, false)) s14.1 x21 h3 fun x22 h4 =>
 xBin (some (.int .i64)) .add s0.2.2.1 (.int .i64 (.ofNat 1)) fun x23 =>
 K1 (x22, s14.2.1, x23, ()) h4
noncomputable abbrev c164_2 (x27 : CV) (h5 : CH) (v1 : CV) (s0 : TupC 3) (K23 : TupC 2 → CH → Bool) : Bool :=
 xLoad (some none) x27 h5 fun x28 =>
 xBuild (some (.inl [(0, 1), (1, 1)])) (some (.agg [(.bytes 1 0), (.int .i64 (.ofNat 0))])) [(0, x28), (1, v1)] fun x29 =>
 xNewS (some (263, 2, 16, false)) (some [(.bytes 1 0), (.int .i64 (.ofNat 0))]) 1 [(0, x29)] h5 fun x30 h6 =>
 xApp (some (263, 2, 16, false)) s0.1 x30 h6 fun x31 h7 =>
 K23 (x31, (.bool true), ()) h7
noncomputable abbrev c164_3 (v0 : CV) (v1 : CV) (s0 : TupC 3) (K23 : TupC 2 → CH → Bool) (h1 : CH) : Bool :=
 xJoin (n := 1) (fun s24 h5 =>
  xIte s24.1
   (xNilCheck v0 fun x26 =>
   xAddr (some 0) x26 fun x27 =>
   c164_2 x27 h5 v1 s0 K23)
   (K23 (s0.1, s0.2.1, ()) h5))
 (fun K31 => xUn .not s0.2.1 fun x33 =>
 xIte x33
  (xNilCheck v0 fun x34 =>
  xAddr (some 1) x34 fun x35 =>
  xLoad (some none) x35 h1 fun x36 =>
  xIdx (some (none, 2)) x36 s0.2.2.1 fun x37 =>
  xAddr (some 1) x37 fun x38 =>
  xLoad (some none) x38 h1 fun x39 =>
  xBin (some (.int .i64)) .gtr x39 v1 fun x40 =>
  K31 (x40, ()) h1)
  (K31 ((.bool false), ()) h1))
noncomputable abbrev c164_4 (x10 : CV) (s0 : TupC 3) (h1 : CH) (v1 : CV) (k : CV → CH → Bool) (v0 : CV) (K1 : TupC 3 → CH → Bool) : Bool :=
 xIdx (some (none, 2)) x10 s0.2.2.1 fun x11 =>
 xAddr (some 1) x11 fun x12 =>
 xLoad (some none) x12 h1 fun x13 =>
 xBin (some (.int .i64)) .eql x13 v1 fun x14 =>
 xIte x14
  (k (.tup []) h1)
  (xJoin (n := 2) (fun s14 h2 =>
   xNilCheck v0 fun x16 =>
   xAddr (some 1) x16 fun x17 =>
   xLoad (some none) x17 h2 fun x18 =>
   c164_1 x18 s0 h2 s14 K1)
  (fun K23 => c164_3 v0 v1 s0 K23 h1))
noncomputable abbrev c164_5 (x46 : CV) (h1 : CH) (v1 : CV) (s0 : TupC 3) (K43 : TupC 1 → CH → Bool) : Bool :=
 xAddr (some 0) x46 fun x47 =>
 xLoad (some none) x47 h1 fun x48 =>
 xBuild (some (.inl [(0, 1), (1, 1)])) (some (.agg [(.bytes 1 0), (.int .i64 (.ofNat 0))])) [(0, x48), (1, v1)] fun x49 =>
 xNewS (some (263, 2, 16, false)) (some [(.bytes 1 0), (.int .i64 (.ofNat 0))]) 1 [(0, x49)] h1 fun x50 h10 =>
 xApp (some (263, 2, 16, false)) s0.1 x50 h10 fun x51 h11 =>
 K43 (x51, ()) h11
noncomputable abbrev c164_6 (x7 : CV) (v0 : CV) (h1 : CH) (s0 : TupC 3) (v1 : CV) (k : CV → CH → Bool) (K1 : TupC 3 → CH → Bool) : Bool :=
 xIte x7
  (xNilCheck v0 fun x8 =>
  xAddr (some 1) x8 fun x9 =>
  xLoad (some none) x9 h1 fun x10 =>
  c164_4 x10 s0 h1 v1 k v0 K1)
  (xJoin (n := 1) (fun s40 h8 =>
   xNilCheck v0 fun x42 =>
   xAddr (some 1) x42 fun x43 =>
   xStore (some 1) x43 s40.1 h8 fun h9 =>
   k (.tup []) h9)
  (fun K43 => xUn .not s0.2.1 fun x45 =>
  xIte x45
   (xNilCheck v0 fun x46 =>
   c164_5 x46 h1 v1 s0 K43)
   (K43 (s0.1, ()) h1)))
noncomputable def bd164 (v0 v1 : CV) (h : CH) (k : CV → CH → Bool) : Bool :=
 xLoop (n := 3) (fun K1 s0 h1 =>
  xNilCheck v0 fun x3 =>
  xAddr (some 1) x3 fun x4 =>
  xLoad (some none) x4 h1 fun x5 =>
  xLen (some (.inl false)) x5 fun x6 =>
  xBin (some (.int .i64)) .lss s0.2.2.1 x6 fun x7 =>
  c164_6 x7 v0 h1 s0 v1 k K1) 1000000 (.nils, (.bool false), (.int .i64 (.ofNat 0)), ()) h
noncomputable abbrev ex164 : Ex := fun args h k => a2 args fun v0 v1 => bd164 v0 v1 h k
set_option maxRecDepth 100000 in
theorem sim164 : SimF Tryz.prog 164 ex164 := fun args h k hk => by
  obtain ⟨v0, v1, rfl, hk⟩ := a2_ok hk
  exact sim_of (qf := (fun f => [46, 47, 62, 75, 82, 97, 104, 114, 121, 127, 128, 141, 151, 156, 157, 183].contains f)) (Z := zs) (C := []) (T := []) ⟨zerosB_ok zsOk, exNil⟩ (.seq .nil (.seq .nil (.seq (.seq .nil (.loop [4, 5, 6] [7, 8, 9, 10, 11, 12, 13, 16, 17, 18, 19, 20, 21, 22, 23, 24, 25, 26, 27, 28, 29, 30, 31, 32, 33, 34, 35, 36, 37, 38, 39, 40, 41, 42, 43, 44, 45, 46, 47, 48, 49, 50, 51, 52, 53, 54, 55, 56, 57, 58, 14, 15] (.seq .nil (.seq (.seq .nil (.join [4, 5] [26, 27, 28, 29, 30, 31, 32, 33, 34, 35, 36, 37, 38, 39, 40, 41, 42, 43, 44, 45, 46, 47, 48] (.join [39] [26, 27, 28, 29, 30, 31, 32, 33, 34, 35, 36, 37, 38] .nil .nil) .nil)) .nil)))) (.join [4] [59, 60, 61, 62, 63, 64, 65, 66, 67, 68, 69] .nil .nil)))) Tryz.func164 _ h k (Eq.mp (by kernel_rfl : (bd164 v0 v1 h k = true) = (xFn Tryz.prog (fun f => [46, 47, 62, 75, 82, 97, 104, 114, 121, 127, 128, 141, 151, 156, 157, 183].contains f) zs [] [] Tryz.f164 (.seq .nil (.seq .nil (.seq (.seq .nil (.loop [4, 5, 6] [7, 8, 9, 10, 11, 12, 13, 16, 17, 18, 19, 20, 21, 22, 23, 24, 25, 26, 27, 28, 29, 30, 31, 32, 33, 34, 35, 36, 37, 38, 39, 40, 41, 42, 43, 44, 45, 46, 47, 48, 49, 50, 51, 52, 53, 54, 55, 56, 57, 58, 14, 15] (.seq .nil (.seq (.seq .nil (.join [4, 5] [26, 27, 28, 29, 30, 31, 32, 33, 34, 35, 36, 37, 38, 39, 40, 41, 42, 43, 44, 45, 46, 47, 48] (.join [39] [26, 27, 28, 29, 30, 31, 32, 33, 34, 35, 36, 37, 38] .nil .nil) .nil)) .nil)))) (.join [4] [59, 60, 61, 62, 63, 64, 65, 66, 67, 68, 69] .nil .nil)))) [v0, v1] h k = true)) hk)

/- (*undercroft/undercroftref29.Disk).nodes -/
noncomputable abbrev c129_1 (x26 : CV) (x14 : CV) (h9 : CH) (K22 : TupC 1 → CH → Bool) : Bool :=
 xIte x26
  (xAddr (some 0) x14 fun x27 =>
  xLoad (some none) x27 h9 fun x28 =>
  xBin (some (.int .u16)) .neq x28 (.int .u16 (.ofNat 2)) fun x29 =>
  xIte x29
   (K22 ((.bool true), ()) h9)
   (xAddr (some 1) x14 fun x30 =>
   xLoad (some none) x30 h9 fun x31 =>
   xBin (some (.int .u16)) .eql x31 (.int .u16 (.ofNat 0)) fun x32 =>
   K22 (x32, ()) h9))
  (K22 ((.bool false), ()) h9)
noncomputable abbrev c129_2 (x33 : CV) (x14 : CV) (h9 : CH) (K22 : TupC 1 → CH → Bool) : Bool :=
 xIte x33
  (xAddr (some 0) x14 fun x34 =>
  xLoad (some none) x34 h9 fun x35 =>
  xBin (some (.int .u16)) .neq x35 (.int .u16 (.ofNat 2)) fun x36 =>
  xIte x36
   (K22 ((.bool true), ()) h9)
   (xAddr (some 1) x14 fun x37 =>
   xLoad (some none) x37 h9 fun x38 =>
   xBin (some (.int .u16)) .eql x38 (.int .u16 (.ofNat 0)) fun x39 =>
   K22 (x39, ()) h9))
  (K22 ((.bool false), ()) h9)
noncomputable abbrev c129_3 (s17 : TupC 1) (K22 : TupC 1 → CH → Bool) (h9 : CH) (s7 : TupC 1) (x17 : CV) (x14 : CV) : Bool :=
 xIte s17.1
  (K22 ((.bool true), ()) h9)
  (xBin (some (.int .i64)) .eql s7.1 (.int .i64 (.ofNat 0)) fun x24 =>
  xIte x24
   (xUn .not x17 fun x25 =>
   xIte x25
    (K22 ((.bool true), ()) h9)
    (xBin (some (.int .i64)) .eql s7.1 (.int .i64 (.ofNat 1)) fun x26 =>
    c129_1 x26 x14 h9 K22))
   (xBin (some (.int .i64)) .eql s7.1 (.int .i64 (.ofNat 1)) fun x33 =>
   c129_2 x33 x14 h9 K22))
noncomputable abbrev c129_4 (x12 : CV) (h8 : CH) (x14 : CV) (K39 : TupC 1 → CH → Bool) (x17 : CV) : Bool :=
 xLoad (some (some 64)) x12 h8 fun x44 =>
 xLoad (some (some 16)) x14 h8 fun x45 =>
 bd163 x44 x45 h8 fun x46 h12 =>
 xIte x46
  (K39 ((.bool true), ()) h12)
  (xAddr (some 0) x14 fun x47 =>
  xLoad (some none) x47 h12 fun x48 =>
  xBin (some (.int .u16)) .eql x48 (.int .u16 (.ofNat 0)) fun x49 =>
  xIte x49
   (xUn .not x17 fun x50 =>
   K39 (x50, ()) h12)
   (K39 ((.bool false), ()) h12))
noncomputable abbrev c129_5 (x41 : CV) (h8 : CH) (x12 : CV) (x14 : CV) (K39 : TupC 1 → CH → Bool) (x17 : CV) : Bool :=
 xLoad (some none) x41 h8 fun x42 =>
 xBin (some (.int .u16)) .neq x42 (.int .u16 (.ofNat 0)) fun x43 =>
 xIte x43
  (c129_4 x12 h8 x14 K39 x17)
  (xAddr (some 0) x14 fun x51 =>
  xLoad (some none) x51 h8 fun x52 =>
  xBin (some (.int .u16)) .eql x52 (.int .u16 (.ofNat 0)) fun x53 =>
  xIte x53
   (xUn .not x17 fun x54 =>
   K39 (x54, ()) h8)
   (K39 ((.bool false), ()) h8))
noncomputable abbrev c129_6 (x2 : CV) (s7 : TupC 1) (K8 : TupC 1 → CH → Bool) (x17 : CV) (x14 : CV) (h8 : CH) (x12 : CV) : Bool :=
 xJoin (n := 1) (fun s17 h9 =>
  xJoin (n := 1) (fun s18 h10 =>
   xIte s18.1
    (bd164 x2 s7.1 h10 fun x20 h11 =>
    xBin (some (.int .i64)) .add s7.1 (.int .i64 (.ofNat 1)) fun x21 =>
    K8 (x21, ()) h11)
    (xBin (some (.int .i64)) .add s7.1 (.int .i64 (.ofNat 1)) fun x22 =>
    K8 (x22, ()) h10))
  (fun K22 => c129_3 s17 K22 h9 s7 x17 x14))
 (fun K39 => xAddr (some 0) x14 fun x41 =>
 c129_5 x41 h8 x12 x14 K39 x17)
noncomputable abbrev c129_7 (h6 : CH) (x13 : CV) (x12 : CV) (x2 : CV) (s7 : TupC 1) (K8 : TupC 1 → CH → Bool) : Bool :=
 xBoxP 99 [(.int .u16 (.ofNat 0)), (.int .u16 (.ofNat 0)), (.int .u32 (.ofNat 0)), (.int .u32 (.ofNat 0)), (.int .u32 (.ofNat 0)), (.int .u32 (.ofNat 0)), (.int .u32 (.ofNat 0)), (.int .u32 (.ofNat 0)), (.int .u32 (.ofNat 0)), (.int .u32 (.ofNat 0)), (.int .u32 (.ofNat 0)), (.int .u32 (.ofNat 0)), (.int .u32 (.ofNat 0)), (.int .u32 (.ofNat 0)), (.int .u32 (.ofNat 0)), (.int .u32 (.ofNat 0))] h6 fun x14 h7 =>
 xStore (some 16) x14 x13 h7 fun h8 =>
 xLoad (some (some 64)) x12 h8 fun x15 =>
 xBuild (some (.inr 1)) (some (.agg [(.bytes 64 0)])) [] fun x16 =>
 xEq (some (.agg (.bytes 64))) .eql x15 x16 h8 fun x17 =>
 c129_6 x2 s7 K8 x17 x14 h8 x12
noncomputable abbrev c129_8 (x55 : CV) (h15 : CH) (x65 : CV) (x66 : CV) (x7 : CV) (x2 : CV) (s56 : TupC 1) (K57 : TupC 1 → CH → Bool) : Bool :=
 xLoad (some (some 64)) x55 h15 fun x67 => ifX (sameX x65 x67) (
  xEq (some (.agg (.bytes 64))) .neq x66 x65 h15 fun x68 =>
  xIte x68
   (xBin (some (.int .i64)) .add x7 (.int .i64 (.ofNat 1)) fun x69 =>
   bd164 x2 x69 h15 fun x70 h16 =>
   xBin (some (.int .i64)) .add s56.1 (.int .i64 (.ofNat 1)) fun x71 =>
   K57 (x71, ()) h16)
   (xBin (some (.int .i64)) .add s56.1 (.int .i64 (.ofNat 1)) fun x72 =>
   K57 (x72, ()) h15)) false
noncomputable abbrev c129_9 (x62 : CV) (s56 : TupC 1) (x55 : CV) (h14 : CH) (v0 : CV) (x7 : CV) (x2 : CV) (K57 : TupC 1 → CH → Bool) (k : CV → CH → Bool) : Bool :=
 xBin (some (.int .i64)) .mul (.int .i64 (.ofNat 16)) x62 fun x63 =>
 xBin (some (.int .i64)) .lss s56.1 x63 fun x64 =>
 xIte x64
  (xLoad (some (some 64)) x55 h14 fun x65 =>
  ex162 [v0, s56.1] h14 fun x66 h15 =>
  c129_8 x55 h15 x65 x66 x7 x2 s56 K57)
  (xNilCheck x2 fun x73 =>
  xAddr (some 1) x73 fun x74 =>
  xLoad (some none) x74 h14 fun x75 =>
  k x75 h14)
noncomputable abbrev c129_10 (x10 : CV) (v0 : CV) (s7 : TupC 1) (h2 : CH) (x2 : CV) (K8 : TupC 1 → CH → Bool) (x7 : CV) (k : CV → CH → Bool) : Bool :=
 xIte x10
  (ex162 [v0, s7.1] h2 fun x11 h3 =>
  xBoxP 172 [(.bytes 64 0)] h3 fun x12 h4 =>
  xStore (some 64) x12 x11 h4 fun h5 =>
  ex138 [v0, s7.1] h5 fun x13 h6 =>
  c129_7 h6 x13 x12 x2 s7 K8)
  (xBoxP 172 [(.bytes 64 0)] h2 fun x55 h13 =>
  xBin (some (.int .i64)) .add x7 (.int .i64 (.ofNat 1)) fun x56 =>
  xLoop (n := 1) (fun K57 s56 h14 =>
   xNilCheck v0 fun x59 =>
   xAddr (some 2) x59 fun x60 =>
   xAddr (some 5) x60 fun x61 =>
   xLoad (some none) x61 h14 fun x62 =>
   c129_9 x62 s56 x55 h14 v0 x7 x2 K57 k) 1000000 (x56, ()) h13)
noncomputable def bd129 (v0 : CV) (h : CH) (k : CV → CH → Bool) : Bool :=
 xBuild (some (.inl [(0, 1), (1, 1)])) (some (.agg [(.bytes 1 0), .nils])) [(0, (.int .u8 (.ofNat 4)))] fun x1 =>
 xBox 267 x1 h fun x2 h1 =>
 xNilCheck v0 fun x3 =>
 xAddr (some 2) x3 fun x4 =>
 xAddr (some 0) x4 fun x5 =>
 xAddr (some 2) x5 fun x6 =>
 xLoad (some none) x6 h1 fun x7 =>
 xLoop (n := 1) (fun K8 s7 h2 =>
  xBin (some (.int .i64)) .leq s7.1 x7 fun x10 =>
  c129_10 x10 v0 s7 h2 x2 K8 x7 k) 1000000 ((.int .i64 (.ofNat 0)), ()) h1
noncomputable abbrev ex129 : Ex := fun args h k => a1 args fun v0 => bd129 v0 h k
set_option maxRecDepth 100000 in
theorem sim129 : SimF Tryz.prog 129 ex129 := fun args h k hk => by
  obtain ⟨v0, rfl, hk⟩ := a1_ok hk
  exact sim_of (qf := (fun f => [46, 47, 62, 75, 82, 97, 104, 114, 121, 127, 128, 141, 151, 156, 157, 183].contains f)) (Z := zs) (C := [(162, ex162), (138, ex138), (164, ex164), (163, ex163)]) (T := [(16, .ld ⟨[0, 1], 3, 2, [4]⟩)]) ⟨zerosB_ok zsOk, (exCons (by kernel_rfl) sim162 (exCons (by kernel_rfl) sim138 (exCons (by kernel_rfl) sim164 (exCons (by kernel_rfl) sim163 exNil))))⟩ (.seq .nil (.seq .nil (.seq .nil (.seq (.seq .nil (.loop [5] [20, 21, 22, 25, 26, 27, 6, 28, 29, 30, 7, 31, 32, 33, 8, 34, 35, 36, 37, 38, 39, 40, 41, 42, 43, 44, 45, 46, 47, 48, 49, 50, 9, 51, 52, 53, 54, 55, 56, 57, 58, 59, 60, 61, 62, 63, 64, 65, 66, 67, 68, 69, 70, 71, 72, 73, 74, 75, 76, 23, 24] (.seq .nil (.seq (.seq .nil (.seq .nil (.seq .nil (.join [9] [34, 35, 36, 37, 38, 39, 40, 41, 42, 43, 44, 45, 46, 47, 48, 49, 50] .nil (.join [73] [51, 52, 53, 54, 55, 56, 57, 58, 59, 60, 61, 62, 63, 64, 65, 66, 67, 68, 69, 70, 71, 72] .nil .nil))))) .nil)))) (.seq .nil (.seq (.seq .nil (.loop [11] [79, 80, 81, 82, 83, 84, 85, 86, 89, 90, 91, 92, 93, 94, 95, 96, 97, 87, 88] .nil)) .nil)))))) Tryz.func129 _ h k (Eq.mp (by kernel_rfl : (bd129 v0 h k = true) = (xFn Tryz.prog (fun f => [46, 47, 62, 75, 82, 97, 104, 114, 121, 127, 128, 141, 151, 156, 157, 183].contains f) zs [(162, ex162), (138, ex138), (164, ex164), (163, ex163)] [(16, .ld ⟨[0, 1], 3, 2, [4]⟩)] Tryz.f129 (.seq .nil (.seq .nil (.seq .nil (.seq (.seq .nil (.loop [5] [20, 21, 22, 25, 26, 27, 6, 28, 29, 30, 7, 31, 32, 33, 8, 34, 35, 36, 37, 38, 39, 40, 41, 42, 43, 44, 45, 46, 47, 48, 49, 50, 9, 51, 52, 53, 54, 55, 56, 57, 58, 59, 60, 61, 62, 63, 64, 65, 66, 67, 68, 69, 70, 71, 72, 73, 74, 75, 76, 23, 24] (.seq .nil (.seq (.seq .nil (.seq .nil (.seq .nil (.join [9] [34, 35, 36, 37, 38, 39, 40, 41, 42, 43, 44, 45, 46, 47, 48, 49, 50] .nil (.join [73] [51, 52, 53, 54, 55, 56, 57, 58, 59, 60, 61, 62, 63, 64, 65, 66, 67, 68, 69, 70, 71, 72] .nil .nil))))) .nil)))) (.seq .nil (.seq (.seq .nil (.loop [11] [79, 80, 81, 82, 83, 84, 85, 86, 89, 90, 91, 92, 93, 94, 95, 96, 97, 87, 88] .nil)) .nil)))))) [v0] h k = true)) hk)

/- (*undercroft/undercroftref29.Disk).data -/
noncomputable abbrev c165_1 (x1 : CV) (h : CH) (v1 : CV) (v0 : CV) (k : CV → CH → Bool) : Bool :=
 xAddr (some 2) x1 fun x2 =>
 xAddr (some 8) x2 fun x3 =>
 xLoad (some none) x3 h fun x4 =>
 xBin (some (.int .i64)) .geq v1 x4 fun x5 =>
 xIte x5
  (xNilCheck v0 fun x6 =>
  xAddr (some 2) x6 fun x7 =>
  xAddr (some 0) x7 fun x8 =>
  xAddr (some 0) x8 fun x9 =>
  xLoad (some none) x9 h fun x10 =>
  xBin (some (.int .i64)) .lss v1 x10 fun x11 =>
  k x11 h)
  (k (.bool false) h)
noncomputable def bd165 (v0 v1 : CV) (h : CH) (k : CV → CH → Bool) : Bool :=
 xNilCheck v0 fun x1 =>
 c165_1 x1 h v1 v0 k
noncomputable abbrev ex165 : Ex := fun args h k => a2 args fun v0 v1 => bd165 v0 v1 h k
set_option maxRecDepth 100000 in
theorem sim165 : SimF Tryz.prog 165 ex165 := fun args h k hk => by
  obtain ⟨v0, v1, rfl, hk⟩ := a2_ok hk
  exact sim_of (qf := (fun f => [46, 47, 62, 75, 82, 97, 104, 114, 121, 127, 128, 141, 151, 156, 157, 183].contains f)) (Z := zs) (C := []) (T := []) ⟨zerosB_ok zsOk, exNil⟩ .nil Tryz.func165 _ h k (Eq.mp (by kernel_rfl : (bd165 v0 v1 h k = true) = (xFn Tryz.prog (fun f => [46, 47, 62, 75, 82, 97, 104, 114, 121, 127, 128, 141, 151, 156, 157, 183].contains f) zs [] [] Tryz.f165 .nil [v0, v1] h k = true)) hk)

/- undercroft/undercroftref29.number -/
noncomputable abbrev c174_1 (v1 : CV) (s1 : TupC 2) (x1 : CV) (h2 : CH) (x5 : CV) (K2 : TupC 2 → CH → Bool) : Bool :=
 xBin (some (.int .i64)) .mul (.int .i64 (.ofNat 4)) v1 fun x6 =>
 xBin (some (.int .i64)) .add x6 s1.2.1 fun x7 =>
 xIdx (some (some 1024, 1)) x1 x7 fun x8 =>
 xLoad (some none) x8 h2 fun x9 =>
 xConv (some (.int .u8)) (some (.int .i64)) x9 fun x10 =>
 xBin (some (.int .i64)) .add x5 x10 fun x11 =>
 xBin (some (.int .i64)) .sub s1.2.1 (.int .i64 (.ofNat 1)) fun x12 =>
 K2 (x11, x12, ()) h2
noncomputable def bd174 (v0 v1 : CV) (h : CH) (k : CV → CH → Bool) : Bool :=
 xBox 124 v0 h fun x1 h1 =>
 xLoop (n := 2) (fun K2 s1 h2 =>
  xBin (some (.int .i64)) .geq s1.2.1 (.int .i64 (.ofNat 0)) fun x4 =>
  xIte x4
   (xBin (some (.int .i64)) .mul (.int .i64 (.ofNat 256)) s1.1 fun x5 =>
   c174_1 v1 s1 x1 h2 x5 K2)
   (k s1.1 h2)) 1000000 ((.int .i64 (.ofNat 0)), (.int .i64 (.ofNat 3)), ()) h1
noncomputable abbrev ex174 : Ex := fun args h k => a2 args fun v0 v1 => bd174 v0 v1 h k
set_option maxRecDepth 100000 in
theorem sim174 : SimF Tryz.prog 174 ex174 := fun args h k hk => by
  obtain ⟨v0, v1, rfl, hk⟩ := a2_ok hk
  exact sim_of (qf := (fun f => [46, 47, 62, 75, 82, 97, 104, 114, 121, 127, 128, 141, 151, 156, 157, 183].contains f)) (Z := zs) (C := []) (T := []) ⟨zerosB_ok zsOk, exNil⟩ (.seq .nil (.seq .nil (.seq (.seq .nil (.loop [5, 6] [7, 8, 11, 12, 13, 14, 15, 16, 17, 18, 19, 20, 9, 10] .nil)) .nil))) Tryz.func174 _ h k (Eq.mp (by kernel_rfl : (bd174 v0 v1 h k = true) = (xFn Tryz.prog (fun f => [46, 47, 62, 75, 82, 97, 104, 114, 121, 127, 128, 141, 151, 156, 157, 183].contains f) zs [] [] Tryz.f174 (.seq .nil (.seq .nil (.seq (.seq .nil (.loop [5, 6] [7, 8, 11, 12, 13, 14, 15, 16, 17, 18, 19, 20, 9, 10] .nil)) .nil))) [v0, v1] h k = true)) hk)

/- (*undercroft/undercroftref29.Disk).under -/
noncomputable abbrev c173_1 (x9 : CV) (x7 : CV) (h5 : CH) (s2 : TupC 2) (K3 : TupC 2 → CH → Bool) : Bool :=
 xBuild (some (.inl [(0, 1), (1, 1)])) (some (.agg [(.int .i64 (.ofNat 0)), (.int .i64 (.ofNat 0))])) [(0, x9), (1, x7)] fun x10 =>
 xNewS (some (243, 2, 16, false)) (some [(.int .i64 (.ofNat 0)), (.int .i64 (.ofNat 0))]) 1 [(0, x10)] h5 fun x11 h6 =>
 xApp (some (243, 2, 16, false)) s2.1 x11 h6 fun x12 h7 =>
 xBin (some (.int .i64)) .add s2.2.1 (.int .i64 (.ofNat 1)) fun x13 =>
 K3 (x12, x13, ()) h7
noncomputable abbrev c173_2 (s2 : TupC 2) (x2 : CV) (h4 : CH) (v2 : CV) (K3 : TupC 2 → CH → Bool) (k : CV → CH → Bool) : Bool :=
 xBin (some (.int .i64)) .lss s2.2.1 (.int .i64 (.ofNat 256)) fun x5 =>
 xIte x5
  (xLoad (some (some 1024)) x2 h4 fun x6 =>
  bd174 x6 s2.2.1 h4 fun x7 h5 =>
  xBin (some (.int .i64)) .neq x7 (.int .i64 (.ofNat 0)) fun x8 =>
  xIte x8
   (xBin (some (.int .i64)) .add v2 s2.2.1 fun x9 =>
   c173_1 x9 x7 h5 s2 K3)
   (xBin (some (.int .i64)) .add s2.2.1 (.int .i64 (.ofNat 1)) fun x14 =>
   K3 (s2.1, x14, ()) h5))
  (k s2.1 h4)
noncomputable def bd173 (v0 v1 v2 : CV) (h : CH) (k : CV → CH → Bool) : Bool :=
 bd141 v0 v1 h fun x1 h1 =>
 xBoxP 124 [(.bytes 1024 0)] h1 fun x2 h2 =>
 xStore (some 1024) x2 x1 h2 fun h3 =>
 xLoop (n := 2) (fun K3 s2 h4 =>
  c173_2 s2 x2 h4 v2 K3 k) 1000000 (.nils, (.int .i64 (.ofNat 0)), ()) h3
noncomputable abbrev ex173 : Ex := fun args h k => a3 args fun v0 v1 v2 => bd173 v0 v1 v2 h k
set_option maxRecDepth 100000 in
theorem sim173 : SimF Tryz.prog 173 ex173 := fun args h k hk => by
  obtain ⟨v0, v1, v2, rfl, hk⟩ := a3_ok hk
  exact sim_of (qf := (fun f => [46, 47, 62, 75, 82, 97, 104, 114, 121, 127, 128, 141, 151, 156, 157, 183].contains f)) (Z := zs) (C := [(141, ex141), (174, ex174)]) (T := []) ⟨zerosB_ok zsOk, (exCons (by kernel_rfl) sim141 (exCons (by kernel_rfl) sim174 exNil))⟩ (.seq .nil (.seq .nil (.seq .nil (.seq (.seq .nil (.loop [7, 9] [14, 15, 18, 19, 20, 10, 21, 22, 23, 24, 25, 26, 27, 28, 29, 30, 16, 17] .nil)) .nil)))) Tryz.func173 _ h k (Eq.mp (by kernel_rfl : (bd173 v0 v1 v2 h k = true) = (xFn Tryz.prog (fun f => [46, 47, 62, 75, 82, 97, 104, 114, 121, 127, 128, 141, 151, 156, 157, 183].contains f) zs [(141, ex141), (174, ex174)] [] Tryz.f173 (.seq .nil (.seq .nil (.seq .nil (.seq (.seq .nil (.loop [7, 9] [14, 15, 18, 19, 20, 10, 21, 22, 23, 24, 25, 26, 27, 28, 29, 30, 16, 17] .nil)) .nil)))) [v0, v1, v2] h k = true)) hk)

/- (*undercroft/undercroftref29.Disk).Spots -/
noncomputable abbrev c139_1 (s1 : TupC 2) (x12 : CV) (h2 : CH) (K2 : TupC 2 → CH → Bool) : Bool :=
 xBuild (some (.inl [(0, 1), (1, 1)])) (some (.agg [(.int .i64 (.ofNat 0)), (.int .i64 (.ofNat 0))])) [(0, s1.2.1), (1, x12)] fun x13 =>
 xNewS (some (243, 2, 16, false)) (some [(.int .i64 (.ofNat 0)), (.int .i64 (.ofNat 0))]) 1 [(0, x13)] h2 fun x14 h3 =>
 xApp (some (243, 2, 16, false)) s1.1 x14 h3 fun x15 h4 =>
 xBin (some (.int .i64)) .add s1.2.1 (.int .i64 (.ofNat 1)) fun x16 =>
 K2 (x15, x16, ()) h4
noncomputable abbrev c139_2 (x7 : CV) (x1 : CV) (s1 : TupC 2) (h2 : CH) (K2 : TupC 2 → CH → Bool) : Bool :=
 xBin (some (.int .u32)) .neq x7 (.int .u32 (.ofNat 0)) fun x8 =>
 xIte x8
  (xAddr (some 4) x1 fun x9 =>
  xIdx (some (some 10, 1)) x9 s1.2.1 fun x10 =>
  xLoad (some none) x10 h2 fun x11 =>
  xConv (some (.int .u32)) (some (.int .i64)) x11 fun x12 =>
  c139_1 s1 x12 h2 K2)
  (xBin (some (.int .i64)) .add s1.2.1 (.int .i64 (.ofNat 1)) fun x17 =>
  K2 (s1.1, x17, ()) h2)
noncomputable abbrev c139_3 (x38 : CV) (s31 : TupC 2) (v0 : CV) (x36 : CV) (h16 : CH) (s36 : TupC 1) (K32 : TupC 2 → CH → Bool) : Bool :=
 xIte x38
  (xBin (some (.int .i64)) .mul (.int .i64 (.ofNat 256)) s31.2.1 fun x39 =>
  xBin (some (.int .i64)) .add (.int .i64 (.ofNat 266)) x39 fun x40 =>
  bd173 v0 x36 x40 h16 fun x41 h17 =>
  xApp (some (243, 2, 16, false)) s36.1 x41 h17 fun x42 h18 =>
  xBin (some (.int .i64)) .add s31.2.1 (.int .i64 (.ofNat 1)) fun x43 =>
  K32 (x42, x43, ()) h18)
  (xBin (some (.int .i64)) .add s31.2.1 (.int .i64 (.ofNat 1)) fun x44 =>
  K32 (s36.1, x44, ()) h16)
noncomputable abbrev c139_4 (x36 : CV) (h14 : CH) (s31 : TupC 2) (K44 : TupC 1 → CH → Bool) : Bool :=
 xBuild (some (.inl [(0, 1), (1, 1)])) (some (.agg [(.int .i64 (.ofNat 0)), (.int .i64 (.ofNat 0))])) [(0, (.int .i64 (.negSucc 0))), (1, x36)] fun x47 =>
 xNewS (some (243, 2, 16, false)) (some [(.int .i64 (.ofNat 0)), (.int .i64 (.ofNat 0))]) 1 [(0, x47)] h14 fun x48 h19 =>
 xApp (some (243, 2, 16, false)) s31.1 x48 h19 fun x49 h20 =>
 K44 (x49, ()) h20
noncomputable abbrev c139_5 (x34 : CV) (x31 : CV) (h13 : CH) (s31 : TupC 2) (v0 : CV) (K32 : TupC 2 → CH → Bool) (k : CV → CH → Bool) : Bool :=
 xIte x34
  (xLoad (some (some 1024)) x31 h13 fun x35 =>
  bd174 x35 s31.2.1 h13 fun x36 h14 =>
  xJoin (n := 1) (fun s36 h15 =>
   bd165 v0 x36 h15 fun x38 h16 =>
   c139_3 x38 s31 v0 x36 h16 s36 K32)
  (fun K44 => xBin (some (.int .i64)) .neq x36 (.int .i64 (.ofNat 0)) fun x46 =>
  xIte x46
   (c139_4 x36 h14 s31 K44)
   (K44 (s31.1, ()) h14)))
  (k s31.1 h13)
noncomputable abbrev c139_6 (x28 : CV) (k : CV → CH → Bool) (s26 : TupC 1) (h9 : CH) (v0 : CV) (x26 : CV) : Bool :=
 xUn .not x28 fun x29 =>
 xIte x29
  (k s26.1 h9)
  (bd141 v0 x26 h9 fun x30 h10 =>
  xBoxP 124 [(.bytes 1024 0)] h10 fun x31 h11 =>
  xStore (some 1024) x31 x30 h11 fun h12 =>
  xLoop (n := 2) (fun K32 s31 h13 =>
   xBin (some (.int .i64)) .lss s31.2.1 (.int .i64 (.ofNat 256)) fun x34 =>
   c139_5 x34 x31 h13 s31 v0 K32 k) 1000000 (s26.1, (.int .i64 (.ofNat 0)), ()) h12)
noncomputable abbrev c139_7 (x26 : CV) (h7 : CH) (s22 : TupC 1) (K49 : TupC 1 → CH → Bool) : Bool :=
 xBuild (some (.inl [(0, 1), (1, 1)])) (some (.agg [(.int .i64 (.ofNat 0)), (.int .i64 (.ofNat 0))])) [(0, (.int .i64 (.negSucc 0))), (1, x26)] fun x52 =>
 xNewS (some (243, 2, 16, false)) (some [(.int .i64 (.ofNat 0)), (.int .i64 (.ofNat 0))]) 1 [(0, x52)] h7 fun x53 h21 =>
 xApp (some (243, 2, 16, false)) s22.1 x53 h21 fun x54 h22 =>
 K49 (x54, ()) h22
noncomputable abbrev c139_8 (x1 : CV) (h7 : CH) (v0 : CV) (k : CV → CH → Bool) (s22 : TupC 1) : Bool :=
 xAddr (some 15) x1 fun x24 =>
 xLoad (some none) x24 h7 fun x25 =>
 xConv (some (.int .u32)) (some (.int .i64)) x25 fun x26 =>
 xJoin (n := 1) (fun s26 h8 =>
  bd165 v0 x26 h8 fun x28 h9 =>
  c139_6 x28 k s26 h9 v0 x26)
 (fun K49 => xBin (some (.int .i64)) .neq x26 (.int .i64 (.ofNat 0)) fun x51 =>
 xIte x51
  (c139_7 x26 h7 s22 K49)
  (K49 (s22.1, ()) h7))
noncomputable abbrev c139_9 (x20 : CV) (h2 : CH) (s1 : TupC 2) (K57 : TupC 1 → CH → Bool) : Bool :=
 xBuild (some (.inl [(0, 1), (1, 1)])) (some (.agg [(.int .i64 (.ofNat 0)), (.int .i64 (.ofNat 0))])) [(0, (.int .i64 (.negSucc 0))), (1, x20)] fun x60 =>
 xNewS (some (243, 2, 16, false)) (some [(.int .i64 (.ofNat 0)), (.int .i64 (.ofNat 0))]) 1 [(0, x60)] h2 fun x61 h25 =>
 xApp (some (243, 2, 16, false)) s1.1 x61 h25 fun x62 h26 =>
 K57 (x62, ()) h26
noncomputable abbrev c139_10 (v0 : CV) (x20 : CV) (x1 : CV) (k : CV → CH → Bool) (h2 : CH) (s1 : TupC 2) : Bool :=
 xJoin (n := 1) (fun s20 h5 =>
  bd165 v0 x20 h5 fun x22 h6 =>
  xJoin (n := 1) (fun s22 h7 =>
   c139_8 x1 h7 v0 k s22)
  (fun K54 => xIte x22
   (bd173 v0 x20 (.int .i64 (.ofNat 10)) h6 fun x56 h23 =>
   xApp (some (243, 2, 16, false)) s20.1 x56 h23 fun x57 h24 =>
   K54 (x57, ()) h24)
   (K54 (s20.1, ()) h6)))
 (fun K57 => xBin (some (.int .i64)) .neq x20 (.int .i64 (.ofNat 0)) fun x59 =>
 xIte x59
  (c139_9 x20 h2 s1 K57)
  (K57 (s1.1, ()) h2))
noncomputable abbrev c139_11 (s1 : TupC 2) (x1 : CV) (h2 : CH) (K2 : TupC 2 → CH → Bool) (v0 : CV) (k : CV → CH → Bool) : Bool :=
 xBin (some (.int .i64)) .lss s1.2.1 (.int .i64 (.ofNat 10)) fun x4 =>
 xIte x4
  (xAddr (some 4) x1 fun x5 =>
  xIdx (some (some 10, 1)) x5 s1.2.1 fun x6 =>
  xLoad (some none) x6 h2 fun x7 =>
  c139_2 x7 x1 s1 h2 K2)
  (xAddr (some 14) x1 fun x18 =>
  xLoad (some none) x18 h2 fun x19 =>
  xConv (some (.int .u32)) (some (.int .i64)) x19 fun x20 =>
  c139_10 v0 x20 x1 k h2 s1)
noncomputable def bd139 (v0 v1 : CV) (h : CH) (k : CV → CH → Bool) : Bool :=
 xBox 99 v1 h fun x1 h1 =>
 xLoop (n := 2) (fun K2 s1 h2 =>
  c139_11 s1 x1 h2 K2 v0 k) 1000000 (.nils, (.int .i64 (.ofNat 0)), ()) h1
noncomputable abbrev ex139 : Ex := fun args h k => a2 args fun v0 v1 => bd139 v0 v1 h k
set_option maxRecDepth 100000 in
theorem sim139 : SimF Tryz.prog 139 ex139 := fun args h k hk => by
  obtain ⟨v0, v1, rfl, hk⟩ := a2_ok hk
  exact sim_of (qf := (fun f => [46, 47, 62, 75, 82, 97, 104, 114, 121, 127, 128, 141, 151, 156, 157, 183].contains f)) (Z := zs) (C := [(165, ex165), (141, ex141), (174, ex174), (173, ex173)]) (T := []) ⟨zerosB_ok zsOk, (exCons (by kernel_rfl) sim165 (exCons (by kernel_rfl) sim141 (exCons (by kernel_rfl) sim174 (exCons (by kernel_rfl) sim173 exNil))))⟩ (.seq .nil (.seq .nil (.seq (.seq .nil (.loop [5, 6] [13, 14, 17, 18, 19, 20, 21, 22, 23, 24, 25, 26, 27, 28, 29, 30, 31, 15, 16] .nil)) (.seq .nil (.join [5] [35, 36, 37, 38, 39, 40, 41] .nil (.seq .nil (.join [5] [45, 46, 47, 48, 49, 50] .nil (.seq .nil (.join [5] [54, 55, 56, 57, 58, 59, 60] .nil (.seq .nil (.seq .nil (.seq .nil (.seq (.seq .nil (.loop [5, 11] [70, 71, 74, 75, 76, 12, 77, 78, 79, 80, 81, 82, 83, 84, 85, 86, 8, 87, 88, 89, 90, 91, 92, 93, 94, 95, 72, 73] (.seq .nil (.seq (.seq .nil (.join [5] [77, 78, 79, 80, 81, 82, 83] .nil .nil)) .nil)))) .nil))))))))))))) Tryz.func139 _ h k (Eq.mp (by kernel_rfl : (bd139 v0 v1 h k = true) = (xFn Tryz.prog (fun f => [46, 47, 62, 75, 82, 97, 104, 114, 121, 127, 128, 141, 151, 156, 157, 183].contains f) zs [(165, ex165), (141, ex141), (174, ex174), (173, ex173)] [] Tryz.f139 (.seq .nil (.seq .nil (.seq (.seq .nil (.loop [5, 6] [13, 14, 17, 18, 19, 20, 21, 22, 23, 24, 25, 26, 27, 28, 29, 30, 31, 15, 16] .nil)) (.seq .nil (.join [5] [35, 36, 37, 38, 39, 40, 41] .nil (.seq .nil (.join [5] [45, 46, 47, 48, 49, 50] .nil (.seq .nil (.join [5] [54, 55, 56, 57, 58, 59, 60] .nil (.seq .nil (.seq .nil (.seq .nil (.seq (.seq .nil (.loop [5, 11] [70, 71, 74, 75, 76, 12, 77, 78, 79, 80, 81, 82, 83, 84, 85, 86, 8, 87, 88, 89, 90, 91, 92, 93, 94, 95, 72, 73] (.seq .nil (.seq (.seq .nil (.join [5] [77, 78, 79, 80, 81, 82, 83] .nil .nil)) .nil)))) .nil))))))))))))) [v0, v1] h k = true)) hk)

/- (*undercroft/undercroftref29.Disk).Files -/
noncomputable abbrev c86_1 (x18 : CV) (h5 : CH) (s0 : TupC 2) (K1 : TupC 2 → CH → Bool) : Bool :=
 xNewS (some (191, 18, 96, false)) (some [(.int .i64 (.ofNat 0)), (.int .u16 (.ofNat 0)), (.int .u16 (.ofNat 0)), (.int .u32 (.ofNat 0)), (.int .u32 (.ofNat 0)), (.int .u32 (.ofNat 0)), (.int .u32 (.ofNat 0)), (.int .u32 (.ofNat 0)), (.int .u32 (.ofNat 0)), (.int .u32 (.ofNat 0)), (.int .u32 (.ofNat 0)), (.int .u32 (.ofNat 0)), (.int .u32 (.ofNat 0)), (.int .u32 (.ofNat 0)), (.int .u32 (.ofNat 0)), (.int .u32 (.ofNat 0)), (.int .u32 (.ofNat 0)), .nils]) 1 [(0, x18)] h5 fun x19 h6 =>
 xApp (some (191, 18, 96, false)) s0.1 x19 h6 fun x20 h7 =>
 xBin (some (.int .i64)) .add s0.2.1 (.int .i64 (.ofNat 1)) fun x21 =>
 K1 (x20, x21, ()) h7
noncomputable abbrev c86_2 (x10 : CV) (h5 : CH) (x15 : CV) (s0 : TupC 2) (x16 : CV) (K1 : TupC 2 → CH → Bool) : Bool :=
 xLoad (some (some 16)) x10 h5 fun x17 => ifX (sameX x15 x17) (
  xBuild (some (.inl [(0, 1), (1, 16), (17, 1)])) (some (.agg [(.int .i64 (.ofNat 0)), (.int .u16 (.ofNat 0)), (.int .u16 (.ofNat 0)), (.int .u32 (.ofNat 0)), (.int .u32 (.ofNat 0)), (.int .u32 (.ofNat 0)), (.int .u32 (.ofNat 0)), (.int .u32 (.ofNat 0)), (.int .u32 (.ofNat 0)), (.int .u32 (.ofNat 0)), (.int .u32 (.ofNat 0)), (.int .u32 (.ofNat 0)), (.int .u32 (.ofNat 0)), (.int .u32 (.ofNat 0)), (.int .u32 (.ofNat 0)), (.int .u32 (.ofNat 0)), (.int .u32 (.ofNat 0)), .nils])) [(0, s0.2.1), (1, x15), (2, x16)] fun x18 =>
  c86_1 x18 h5 s0 K1) false
noncomputable abbrev c86_3 (x11 : CV) (h4 : CH) (x10 : CV) (v0 : CV) (s0 : TupC 2) (K1 : TupC 2 → CH → Bool) : Bool :=
 xLoad (some none) x11 h4 fun x12 =>
 xBin (some (.int .u16)) .neq x12 (.int .u16 (.ofNat 0)) fun x13 =>
 xIte x13
  (xLoad (some (some 16)) x10 h4 fun x14 =>
  xLoad (some (some 16)) x10 h4 fun x15 =>
  bd139 v0 x14 h4 fun x16 h5 =>
  c86_2 x10 h5 x15 s0 x16 K1)
  (xBin (some (.int .i64)) .add s0.2.1 (.int .i64 (.ofNat 1)) fun x22 =>
  K1 (s0.1, x22, ()) h4)
noncomputable abbrev c86_4 (h2 : CH) (x9 : CV) (v0 : CV) (s0 : TupC 2) (K1 : TupC 2 → CH → Bool) : Bool :=
 xBoxP 99 [(.int .u16 (.ofNat 0)), (.int .u16 (.ofNat 0)), (.int .u32 (.ofNat 0)), (.int .u32 (.ofNat 0)), (.int .u32 (.ofNat 0)), (.int .u32 (.ofNat 0)), (.int .u32 (.ofNat 0)), (.int .u32 (.ofNat 0)), (.int .u32 (.ofNat 0)), (.int .u32 (.ofNat 0)), (.int .u32 (.ofNat 0)), (.int .u32 (.ofNat 0)), (.int .u32 (.ofNat 0)), (.int .u32 (.ofNat 0)), (.int .u32 (.ofNat 0)), (.int .u32 (.ofNat 0))] h2 fun x10 h3 =>
 xStore (some 16) x10 x9 h3 fun h4 =>
 xAddr (some 0) x10 fun x11 =>
 c86_3 x11 h4 x10 v0 s0 K1
noncomputable def bd86 (v0 : CV) (h : CH) (k : CV → CH → Bool) : Bool :=
 xLoop (n := 2) (fun K1 s0 h1 =>
  xNilCheck v0 fun x3 =>
  xAddr (some 2) x3 fun x4 =>
  xAddr (some 0) x4 fun x5 =>
  xAddr (some 2) x5 fun x6 =>
  xLoad (some none) x6 h1 fun x7 =>
  xBin (some (.int .i64)) .leq s0.2.1 x7 fun x8 =>
  xIte x8
   (ex138 [v0, s0.2.1] h1 fun x9 h2 =>
   c86_4 h2 x9 v0 s0 K1)
   (k s0.1 h1)) 1000000 (.nils, (.int .i64 (.ofNat 1)), ()) h
noncomputable abbrev ex86 : Ex := fun args h k => a1 args fun v0 => bd86 v0 h k
set_option maxRecDepth 100000 in
theorem sim86 : SimF Tryz.prog 86 ex86 := fun args h k hk => by
  obtain ⟨v0, rfl, hk⟩ := a1_ok hk
  exact sim_of (qf := (fun f => [46, 47, 62, 75, 82, 97, 104, 114, 121, 127, 128, 141, 151, 156, 157, 183].contains f)) (Z := zs) (C := [(138, ex138), (139, ex139)]) (T := [(7, .ld ⟨[0, 1, 3, 4], 2, 5, [6, 7, 8, 9]⟩)]) ⟨zerosB_ok zsOk, (exCons (by kernel_rfl) sim138 (exCons (by kernel_rfl) sim139 exNil))⟩ (.seq .nil (.seq .nil (.seq (.seq .nil (.loop [3, 4] [6, 7, 8, 9, 10, 11, 12, 13, 16, 17, 18, 5, 19, 20, 21, 22, 23, 24, 25, 26, 27, 28, 29, 30, 14, 15] .nil)) .nil))) Tryz.func86 _ h k (Eq.mp (by kernel_rfl : (bd86 v0 h k = true) = (xFn Tryz.prog (fun f => [46, 47, 62, 75, 82, 97, 104, 114, 121, 127, 128, 141, 151, 156, 157, 183].contains f) zs [(138, ex138), (139, ex139)] [(7, .ld ⟨[0, 1, 3, 4], 2, 5, [6, 7, 8, 9]⟩)] Tryz.f86 (.seq .nil (.seq .nil (.seq (.seq .nil (.loop [3, 4] [6, 7, 8, 9, 10, 11, 12, 13, 16, 17, 18, 5, 19, 20, 21, 22, 23, 24, 25, 26, 27, 28, 29, 30, 14, 15] .nil)) .nil))) [v0] h k = true)) hk)

/- (*undercroft/undercroftref29.Disk).pointers -/
noncomputable abbrev c130_1 (x20 : CV) (v1 : CV) (s2 : TupC 1) (h4 : CH) (x2 : CV) (s6 : TupC 1) (K7 : TupC 1 → CH → Bool) : Bool :=
 xUn .not x20 fun x21 =>
 xIte x21
  (xIdx (some (none, 18)) v1 s2.1 fun x22 =>
  xAddr (some 0) x22 fun x23 =>
  xLoad (some none) x23 h4 fun x24 =>
  bd164 x2 x24 h4 fun x25 h5 =>
  xBin (some (.int .i64)) .add s6.1 (.int .i64 (.ofNat 1)) fun x26 =>
  K7 (x26, ()) h5)
  (xBin (some (.int .i64)) .add s6.1 (.int .i64 (.ofNat 1)) fun x27 =>
  K7 (x27, ()) h4)
noncomputable abbrev c130_2 (x13 : CV) (v1 : CV) (s2 : TupC 1) (h3 : CH) (s6 : TupC 1) (v0 : CV) (x2 : CV) (K7 : TupC 1 → CH → Bool) (K3 : TupC 1 → CH → Bool) : Bool :=
 xIte x13
  (xIdx (some (none, 18)) v1 s2.1 fun x14 =>
  xAddr (some 17) x14 fun x15 =>
  xLoad (some none) x15 h3 fun x16 =>
  xIdx (some (none, 2)) x16 s6.1 fun x17 =>
  xAddr (some 1) x17 fun x18 =>
  xLoad (some none) x18 h3 fun x19 =>
  bd165 v0 x19 h3 fun x20 h4 =>
  c130_1 x20 v1 s2 h4 x2 s6 K7)
  (xBin (some (.int .i64)) .add s2.1 (.int .i64 (.ofNat 1)) fun x28 =>
  K3 (x28, ()) h3)
noncomputable abbrev c130_3 (x6 : CV) (v1 : CV) (s2 : TupC 1) (v0 : CV) (x2 : CV) (K3 : TupC 1 → CH → Bool) (h2 : CH) (k : CV → CH → Bool) : Bool :=
 xIte x6
  (xLoop (n := 1) (fun K7 s6 h3 =>
   xIdx (some (none, 18)) v1 s2.1 fun x9 =>
   xAddr (some 17) x9 fun x10 =>
   xLoad (some none) x10 h3 fun x11 =>
   xLen (some (.inl false)) x11 fun x12 =>
   xBin (some (.int .i64)) .lss s6.1 x12 fun x13 =>
   c130_2 x13 v1 s2 h3 s6 v0 x2 K7 K3) 1000000 ((.int .i64 (.ofNat 0)), ()) h2)
  (xNilCheck x2 fun x29 =>
  xAddr (some 1) x29 fun x30 =>
  xLoad (some none) x30 h2 fun x31 =>
  k x31 h2)
noncomputable def bd130 (v0 v1 : CV) (h : CH) (k : CV → CH → Bool) : Bool :=
 xBuild (some (.inl [(0, 1), (1, 1)])) (some (.agg [(.bytes 1 0), .nils])) [(0, (.int .u8 (.ofNat 5)))] fun x1 =>
 xBox 267 x1 h fun x2 h1 =>
 xLoop (n := 1) (fun K3 s2 h2 =>
  xLen (some (.inl false)) v1 fun x5 =>
  xBin (some (.int .i64)) .lss s2.1 x5 fun x6 =>
  c130_3 x6 v1 s2 v0 x2 K3 h2 k) 1000000 ((.int .i64 (.ofNat 0)), ()) h1
noncomputable abbrev ex130 : Ex := fun args h k => a2 args fun v0 v1 => bd130 v0 v1 h k
set_option maxRecDepth 100000 in
theorem sim130 : SimF Tryz.prog 130 ex130 := fun args h k hk => by
  obtain ⟨v0, v1, rfl, hk⟩ := a2_ok hk
  exact sim_of (qf := (fun f => [46, 47, 62, 75, 82, 97, 104, 114, 121, 127, 128, 141, 151, 156, 157, 183].contains f)) (Z := zs) (C := [(165, ex165), (164, ex164)]) (T := []) ⟨zerosB_ok zsOk, (exCons (by kernel_rfl) sim165 (exCons (by kernel_rfl) sim164 exNil))⟩ (.seq .nil (.seq .nil (.seq (.seq .nil (.loop [6] [11, 12, 13, 14, 7, 17, 18, 19, 20, 21, 22, 23, 24, 27, 28, 29, 30, 31, 32, 33, 34, 35, 36, 37, 8, 38, 39, 40, 41, 42, 43, 44, 45, 46, 25, 26, 15, 16] (.seq .nil (.seq (.seq .nil (.loop [7] [17, 18, 19, 20, 21, 22, 23, 24, 27, 28, 29, 30, 31, 32, 33, 34, 35, 36, 37, 8, 38, 39, 40, 41, 42, 43, 44, 45, 46, 25, 26] .nil)) .nil)))) .nil))) Tryz.func130 _ h k (Eq.mp (by kernel_rfl : (bd130 v0 v1 h k = true) = (xFn Tryz.prog (fun f => [46, 47, 62, 75, 82, 97, 104, 114, 121, 127, 128, 141, 151, 156, 157, 183].contains f) zs [(165, ex165), (164, ex164)] [] Tryz.f130 (.seq .nil (.seq .nil (.seq (.seq .nil (.loop [6] [11, 12, 13, 14, 7, 17, 18, 19, 20, 21, 22, 23, 24, 27, 28, 29, 30, 31, 32, 33, 34, 35, 36, 37, 8, 38, 39, 40, 41, 42, 43, 44, 45, 46, 25, 26, 15, 16] (.seq .nil (.seq (.seq .nil (.loop [7] [17, 18, 19, 20, 21, 22, 23, 24, 27, 28, 29, 30, 31, 32, 33, 34, 35, 36, 37, 8, 38, 39, 40, 41, 42, 43, 44, 45, 46, 25, 26] .nil)) .nil)))) .nil))) [v0, v1] h k = true)) hk)

/- (*undercroft/undercroftref29.Disk).owned -/
noncomputable abbrev c166_1 (x21 : CV) (h3 : CH) (x6 : CV) (s10 : TupC 1) (K11 : TupC 1 → CH → Bool) : Bool :=
 xAddr (some 1) x21 fun x22 =>
 xLoad (some none) x22 h3 fun x23 =>
 xIdx (some (none, 1)) x6 x23 fun x24 =>
 xLoad (some none) x24 h3 fun x25 =>
 xBin (some (.int .i64)) .add x25 (.int .i64 (.ofNat 1)) fun x26 =>
 xIdx (some (none, 1)) x6 x23 fun x27 =>
 xStore (some 1) x27 x26 h3 fun h4 =>
 xBin (some (.int .i64)) .add s10.1 (.int .i64 (.ofNat 1)) fun x28 =>
 K11 (x28, ()) h4
noncomputable abbrev c166_2 (x15 : CV) (s10 : TupC 1) (v1 : CV) (s6 : TupC 1) (h3 : CH) (x6 : CV) (K11 : TupC 1 → CH → Bool) (K7 : TupC 1 → CH → Bool) : Bool :=
 xLen (some (.inl false)) x15 fun x16 =>
 xBin (some (.int .i64)) .lss s10.1 x16 fun x17 =>
 xIte x17
  (xIdx (some (none, 18)) v1 s6.1 fun x18 =>
  xAddr (some 17) x18 fun x19 =>
  xLoad (some none) x19 h3 fun x20 =>
  xIdx (some (none, 2)) x20 s10.1 fun x21 =>
  c166_1 x21 h3 x6 s10 K11)
  (xBin (some (.int .i64)) .add s6.1 (.int .i64 (.ofNat 1)) fun x29 =>
  K7 (x29, ()) h3)
noncomputable abbrev c166_3 (v1 : CV) (x6 : CV) (k : CV → CH → Bool) (h1 : CH) : Bool :=
 xLoop (n := 1) (fun K7 s6 h2 =>
  xLen (some (.inl false)) v1 fun x9 =>
  xBin (some (.int .i64)) .lss s6.1 x9 fun x10 =>
  xIte x10
   (xLoop (n := 1) (fun K11 s10 h3 =>
    xIdx (some (none, 18)) v1 s6.1 fun x13 =>
    xAddr (some 17) x13 fun x14 =>
    xLoad (some none) x14 h3 fun x15 =>
    c166_2 x15 s10 v1 s6 h3 x6 K11 K7) 1000000 ((.int .i64 (.ofNat 0)), ()) h2)
   (k x6 h2)) 1000000 ((.int .i64 (.ofNat 0)), ()) h1
noncomputable def bd166 (v0 v1 : CV) (h : CH) (k : CV → CH → Bool) : Bool :=
 xNilCheck v0 fun x1 =>
 xAddr (some 2) x1 fun x2 =>
 xAddr (some 0) x2 fun x3 =>
 xAddr (some 0) x3 fun x4 =>
 xLoad (some none) x4 h fun x5 =>
 xMake (some (3, 1, 8, false)) (some [(.int .i64 (.ofNat 0))]) x5 x5 h fun x6 h1 =>
 c166_3 v1 x6 k h1
noncomputable abbrev ex166 : Ex := fun args h k => a2 args fun v0 v1 => bd166 v0 v1 h k
set_option maxRecDepth 100000 in
theorem sim166 : SimF Tryz.prog 166 ex166 := fun args h k hk => by
  obtain ⟨v0, v1, rfl, hk⟩ := a2_ok hk
  exact sim_of (qf := (fun f => [46, 47, 62, 75, 82, 97, 104, 114, 121, 127, 128, 141, 151, 156, 157, 183].contains f)) (Z := zs) (C := []) (T := []) ⟨zerosB_ok zsOk, exNil⟩ (.seq .nil (.seq .nil (.seq (.seq .nil (.loop [6] [15, 16, 17, 18, 7, 21, 22, 23, 24, 25, 26, 27, 28, 31, 32, 33, 34, 35, 36, 37, 38, 39, 40, 41, 42, 43, 44, 29, 30, 19, 20] (.seq .nil (.seq (.seq .nil (.loop [7] [21, 22, 23, 24, 25, 26, 27, 28, 31, 32, 33, 34, 35, 36, 37, 38, 39, 40, 41, 42, 43, 44, 29, 30] .nil)) .nil)))) .nil))) Tryz.func166 _ h k (Eq.mp (by kernel_rfl : (bd166 v0 v1 h k = true) = (xFn Tryz.prog (fun f => [46, 47, 62, 75, 82, 97, 104, 114, 121, 127, 128, 141, 151, 156, 157, 183].contains f) zs [] [] Tryz.f166 (.seq .nil (.seq .nil (.seq (.seq .nil (.loop [6] [15, 16, 17, 18, 7, 21, 22, 23, 24, 25, 26, 27, 28, 31, 32, 33, 34, 35, 36, 37, 38, 39, 40, 41, 42, 43, 44, 29, 30, 19, 20] (.seq .nil (.seq (.seq .nil (.loop [7] [21, 22, 23, 24, 25, 26, 27, 28, 31, 32, 33, 34, 35, 36, 37, 38, 39, 40, 41, 42, 43, 44, 29, 30] .nil)) .nil)))) .nil))) [v0, v1] h k = true)) hk)

/- (*undercroft/undercroftref29.Disk).twice -/
noncomputable abbrev c131_1 (s3 : TupC 1) (h3 : CH) (x13 : CV) (x2 : CV) (K4 : TupC 1 → CH → Bool) : Bool :=
 xBuild (some (.inl [(0, 1), (1, 1)])) (some (.agg [(.bytes 1 0), (.int .i64 (.ofNat 0))])) [(0, (.int .u8 (.ofNat 6))), (1, s3.1)] fun x14 =>
 xNewS (some (263, 2, 16, false)) (some [(.bytes 1 0), (.int .i64 (.ofNat 0))]) 1 [(0, x14)] h3 fun x15 h4 =>
 xApp (some (263, 2, 16, false)) x13 x15 h4 fun x16 h5 =>
 xNilCheck x2 fun x17 =>
 xAddr (some 1) x17 fun x18 =>
 xStore (some 1) x18 x16 h5 fun h6 =>
 xBin (some (.int .i64)) .add s3.1 (.int .i64 (.ofNat 1)) fun x19 =>
 K4 (x19, ()) h6
noncomputable abbrev c131_2 (x3 : CV) (s3 : TupC 1) (h3 : CH) (x2 : CV) (K4 : TupC 1 → CH → Bool) : Bool :=
 xIdx (some (none, 1)) x3 s3.1 fun x8 =>
 xLoad (some none) x8 h3 fun x9 =>
 xBin (some (.int .i64)) .gtr x9 (.int .i64 (.ofNat 1)) fun x10 =>
 xIte x10
  (xNilCheck x2 fun x11 =>
  xAddr (some 1) x11 fun x12 =>
  xLoad (some none) x12 h3 fun x13 =>
  c131_1 s3 h3 x13 x2 K4)
  (xBin (some (.int .i64)) .add s3.1 (.int .i64 (.ofNat 1)) fun x20 =>
  K4 (x20, ()) h3)
noncomputable abbrev c131_3 (x1 : CV) (h : CH) (v0 : CV) (v1 : CV) (k : CV → CH → Bool) : Bool :=
 xBox 267 x1 h fun x2 h1 =>
 bd166 v0 v1 h1 fun x3 h2 =>
 xLoop (n := 1) (fun K4 s3 h3 =>
  xLen (some (.inl false)) x3 fun x6 =>
  xBin (some (.int .i64)) .lss s3.1 x6 fun x7 =>
  xIte x7
   (c131_2 x3 s3 h3 x2 K4)
   (xNilCheck x2 fun x21 =>
   xAddr (some 1) x21 fun x22 =>
   xLoad (some none) x22 h3 fun x23 =>
   k x23 h3)) 1000000 ((.int .i64 (.ofNat 0)), ()) h2
noncomputable def bd131 (v0 v1 : CV) (h : CH) (k : CV → CH → Bool) : Bool :=
 xBuild (some (.inl [(0, 1), (1, 1)])) (some (.agg [(.bytes 1 0), .nils])) [(0, (.int .u8 (.ofNat 6)))] fun x1 =>
 c131_3 x1 h v0 v1 k
noncomputable abbrev ex131 : Ex := fun args h k => a2 args fun v0 v1 => bd131 v0 v1 h k
set_option maxRecDepth 100000 in
theorem sim131 : SimF Tryz.prog 131 ex131 := fun args h k hk => by
  obtain ⟨v0, v1, rfl, hk⟩ := a2_ok hk
  exact sim_of (qf := (fun f => [46, 47, 62, 75, 82, 97, 104, 114, 121, 127, 128, 141, 151, 156, 157, 183].contains f)) (Z := zs) (C := [(166, ex166)]) (T := []) ⟨zerosB_ok zsOk, (exCons (by kernel_rfl) sim166 exNil)⟩ (.seq .nil (.seq .nil (.seq .nil (.seq (.seq .nil (.loop [7] [13, 14, 15, 16, 19, 20, 21, 22, 23, 24, 25, 26, 27, 28, 29, 30, 31, 32, 33, 34, 17, 18] .nil)) .nil)))) Tryz.func131 _ h k (Eq.mp (by kernel_rfl : (bd131 v0 v1 h k = true) = (xFn Tryz.prog (fun f => [46, 47, 62, 75, 82, 97, 104, 114, 121, 127, 128, 141, 151, 156, 157, 183].contains f) zs [(166, ex166)] [] Tryz.f131 (.seq .nil (.seq .nil (.seq .nil (.seq (.seq .nil (.loop [7] [13, 14, 15, 16, 19, 20, 21, 22, 23, 24, 25, 26, 27, 28, 29, 30, 31, 32, 33, 34, 17, 18] .nil)) .nil)))) [v0, v1] h k = true)) hk)

/- undercroft/undercroftref29.Up -/
noncomputable def bd180 (v0 : CV) (h : CH) (k : CV → CH → Bool) : Bool :=
 xBin (some (.int .i64)) .add v0 (.int .i64 (.ofNat 1024)) fun x1 =>
 xBin (some (.int .i64)) .sub x1 (.int .i64 (.ofNat 1)) fun x2 =>
 xBin (some (.int .i64)) .quo x2 (.int .i64 (.ofNat 1024)) fun x3 =>
 k x3 h
noncomputable abbrev ex180 : Ex := fun args h k => a1 args fun v0 => bd180 v0 h k
set_option maxRecDepth 100000 in
theorem sim180 : SimF Tryz.prog 180 ex180 := fun args h k hk => by
  obtain ⟨v0, rfl, hk⟩ := a1_ok hk
  exact sim_of (qf := (fun f => [46, 47, 62, 75, 82, 97, 104, 114, 121, 127, 128, 141, 151, 156, 157, 183].contains f)) (Z := zs) (C := []) (T := []) ⟨zerosB_ok zsOk, exNil⟩ .nil Tryz.func180 _ h k (Eq.mp (by kernel_rfl : (bd180 v0 h k = true) = (xFn Tryz.prog (fun f => [46, 47, 62, 75, 82, 97, 104, 114, 121, 127, 128, 141, 151, 156, 157, 183].contains f) zs [] [] Tryz.f180 .nil [v0] h k = true)) hk)

/- undercroft/undercroftref29.Mapped -/
noncomputable abbrev c175_1 (v0 : CV) (s0 : TupC 1) (h1 : CH) (v1 : CV) (k : CV → CH → Bool) (K1 : TupC 1 → CH → Bool) : Bool :=
 xIdx (some (none, 2)) v0 s0.1 fun x5 =>
 xAddr (some 0) x5 fun x6 =>
 xLoad (some none) x6 h1 fun x7 =>
 xBin (some (.int .i64)) .eql x7 v1 fun x8 =>
 xIte x8
  (xIdx (some (none, 2)) v0 s0.1 fun x9 =>
  xAddr (some 1) x9 fun x10 =>
  xLoad (some none) x10 h1 fun x11 =>
  k x11 h1)
  (xBin (some (.int .i64)) .add s0.1 (.int .i64 (.ofNat 1)) fun x12 =>
  K1 (x12, ()) h1)
noncomputable def bd175 (v0 v1 : CV) (h : CH) (k : CV → CH → Bool) : Bool :=
 xLoop (n := 1) (fun K1 s0 h1 =>
  xLen (some (.inl false)) v0 fun x3 =>
  xBin (some (.int .i64)) .lss s0.1 x3 fun x4 =>
  xIte x4
   (c175_1 v0 s0 h1 v1 k K1)
   (k (.int .i64 (.ofNat 0)) h1)) 1000000 ((.int .i64 (.ofNat 0)), ()) h
noncomputable abbrev ex175 : Ex := fun args h k => a2 args fun v0 v1 => bd175 v0 v1 h k
set_option maxRecDepth 100000 in
theorem sim175 : SimF Tryz.prog 175 ex175 := fun args h k hk => by
  obtain ⟨v0, v1, rfl, hk⟩ := a2_ok hk
  exact sim_of (qf := (fun f => [46, 47, 62, 75, 82, 97, 104, 114, 121, 127, 128, 141, 151, 156, 157, 183].contains f)) (Z := zs) (C := []) (T := []) ⟨zerosB_ok zsOk, exNil⟩ (.seq .nil (.seq (.seq .nil (.loop [5] [6, 7, 8, 9, 12, 13, 14, 15, 16, 17, 18, 19, 20, 21, 22, 23, 4, 10, 11] .nil)) .nil)) Tryz.func175 _ h k (Eq.mp (by kernel_rfl : (bd175 v0 v1 h k = true) = (xFn Tryz.prog (fun f => [46, 47, 62, 75, 82, 97, 104, 114, 121, 127, 128, 141, 151, 156, 157, 183].contains f) zs [] [] Tryz.f175 (.seq .nil (.seq (.seq .nil (.loop [5] [6, 7, 8, 9, 12, 13, 14, 15, 16, 17, 18, 19, 20, 21, 22, 23, 4, 10, 11] .nil)) .nil)) [v0, v1] h k = true)) hk)

/- (*undercroft/undercroftref29.Disk).blank -/
noncomputable def bd181 (v0 v1 : CV) (h : CH) (k : CV → CH → Bool) : Bool :=
 bd141 v0 v1 h fun x1 h1 =>
 xBuild (some (.inr 1)) (some (.agg [(.bytes 1024 0)])) [] fun x2 =>
 xEq (some (.agg (.bytes 1024))) .eql x1 x2 h1 fun x3 =>
 k x3 h1
noncomputable abbrev ex181 : Ex := fun args h k => a2 args fun v0 v1 => bd181 v0 v1 h k
set_option maxRecDepth 100000 in
theorem sim181 : SimF Tryz.prog 181 ex181 := fun args h k hk => by
  obtain ⟨v0, v1, rfl, hk⟩ := a2_ok hk
  exact sim_of (qf := (fun f => [46, 47, 62, 75, 82, 97, 104, 114, 121, 127, 128, 141, 151, 156, 157, 183].contains f)) (Z := zs) (C := [(141, ex141)]) (T := []) ⟨zerosB_ok zsOk, (exCons (by kernel_rfl) sim141 exNil)⟩ .nil Tryz.func181 _ h k (Eq.mp (by kernel_rfl : (bd181 v0 v1 h k = true) = (xFn Tryz.prog (fun f => [46, 47, 62, 75, 82, 97, 104, 114, 121, 127, 128, 141, 151, 156, 157, 183].contains f) zs [(141, ex141)] [] Tryz.f181 .nil [v0, v1] h k = true)) hk)
end Go.Proofs
