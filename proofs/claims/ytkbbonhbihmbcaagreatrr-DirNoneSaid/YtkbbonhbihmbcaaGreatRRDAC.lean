/- Functions, run; each tied to the program. -/
import Derived.Test.YtkbbonhbihmbcaaGreatRRDAB
set_option linter.unusedVariables false
set_option linter.unusedSimpArgs false
namespace Go.Proofs
open Go.Vc Go.Xc
set_option maxRecDepth 100000

/- undercroft/node.Decode -/
noncomputable abbrev c55_1 (s20 : TupC 1) (x24 : CV) (h14 : CH) (x20 : CV) (K21 : TupC 1 → CH → Bool) : Bool :=
 xBin (some (.int .i64)) .mul (.int .i64 (.ofNat 4)) s20.1 fun x25 =>
 xBin (some (.int .i64)) .add (.int .i64 (.ofNat 12)) x25 fun x26 =>
 bd103 x24 x26 h14 fun x27 h15 =>
 xAddr (some 4) x20 fun x28 =>
 xIdx (some (some 10, 1)) x28 s20.1 fun x29 =>
 xStore (some 1) x29 x27 h15 fun h16 =>
 xBin (some (.int .i64)) .add s20.1 (.int .i64 (.ofNat 1)) fun x30 =>
 K21 (x30, ()) h16
noncomputable abbrev c55_2 (x6 : CV) (x20 : CV) (x2 : CV) (k : CV → CH → Bool) (h13 : CH) : Bool :=
 xLoop (n := 1) (fun K21 s20 h14 =>
 xBin (some (.int .i64)) .lss s20.1 (.int .i64 (.ofNat 10)) fun x23 =>
 xIte x23
 (xLoad (some (some 1024)) x6 h14 fun x24 =>
 c55_1 s20 x24 h14 x20 K21)
 (xLoad (some (some 16)) x20 h14 fun x31 =>
 xStore (some 16) x2 x31 h14 fun h17 =>
 xLoad (some (some 16)) x2 h17 fun x32 =>
 k x32 h17)) 1000000 ((.int .i64 (.ofNat 0)), ()) h13
noncomputable abbrev c55_3 (h11 : CH) (x19 : CV) (x6 : CV) (x2 : CV) (k : CV → CH → Bool) : Bool :=
 xBoxP 78 [(.int .u16 (.ofNat 0)), (.int .u16 (.ofNat 0)), (.int .u32 (.ofNat 0)), (.int .u32 (.ofNat 0)), (.int .u32 (.ofNat 0)), (.int .u32 (.ofNat 0)), (.int .u32 (.ofNat 0)), (.int .u32 (.ofNat 0)), (.int .u32 (.ofNat 0)), (.int .u32 (.ofNat 0)), (.int .u32 (.ofNat 0)), (.int .u32 (.ofNat 0)), (.int .u32 (.ofNat 0)), (.int .u32 (.ofNat 0)), (.int .u32 (.ofNat 0)), (.int .u32 (.ofNat 0))] h11 fun x20 h12 =>
 xStore (some 16) x20 x19 h12 fun h13 =>
 c55_2 x6 x20 x2 k h13
noncomputable abbrev c55_4 (x8 : CV) (x10 : CV) (x12 : CV) (x14 : CV) (x16 : CV) (x18 : CV) (h11 : CH) (x6 : CV) (x2 : CV) (k : CV → CH → Bool) : Bool :=
 xBuild (some (.inl [(0, 1), (1, 1), (2, 1), (3, 1), (4, 10), (14, 1), (15, 1)])) (some (.agg [(.int .u16 (.ofNat 0)), (.int .u16 (.ofNat 0)), (.int .u32 (.ofNat 0)), (.int .u32 (.ofNat 0)), (.int .u32 (.ofNat 0)), (.int .u32 (.ofNat 0)), (.int .u32 (.ofNat 0)), (.int .u32 (.ofNat 0)), (.int .u32 (.ofNat 0)), (.int .u32 (.ofNat 0)), (.int .u32 (.ofNat 0)), (.int .u32 (.ofNat 0)), (.int .u32 (.ofNat 0)), (.int .u32 (.ofNat 0)), (.int .u32 (.ofNat 0)), (.int .u32 (.ofNat 0))])) [(0, x8), (1, x10), (2, x12), (3, x14), (5, x16), (6, x18)] fun x19 =>
 c55_3 h11 x19 x6 x2 k
noncomputable abbrev c55_5 (x6 : CV) (h8 : CH) (x8 : CV) (x10 : CV) (x12 : CV) (x2 : CV) (k : CV → CH → Bool) : Bool :=
 xLoad (some (some 1024)) x6 h8 fun x13 =>
 xQuiet (some ex103) [x13, (.int .i64 (.ofNat 8))] h8 fun x14 h9 =>
 xLoad (some (some 1024)) x6 h9 fun x15 =>
 xQuiet (some ex103) [x15, (.int .i64 (.ofNat 52))] h9 fun x16 h10 =>
 xLoad (some (some 1024)) x6 h10 fun x17 =>
 xQuiet (some ex103) [x17, (.int .i64 (.ofNat 56))] h10 fun x18 h11 =>
 c55_4 x8 x10 x12 x14 x16 x18 h11 x6 x2 k
noncomputable abbrev c55_6 (x6 : CV) (x5 : CV) (h4 : CH) (x2 : CV) (k : CV → CH → Bool) : Bool :=
 xStore (some 1024) x6 x5 h4 fun h5 =>
 xLoad (some (some 1024)) x6 h5 fun x7 =>
 xQuiet (some ex102) [x7, (.int .i64 (.ofNat 0))] h5 fun x8 h6 =>
 xLoad (some (some 1024)) x6 h6 fun x9 =>
 xQuiet (some ex102) [x9, (.int .i64 (.ofNat 2))] h6 fun x10 h7 =>
 xLoad (some (some 1024)) x6 h7 fun x11 =>
 xQuiet (some ex103) [x11, (.int .i64 (.ofNat 4))] h7 fun x12 h8 =>
 c55_5 x6 h8 x8 x10 x12 x2 k
noncomputable abbrev c55_7 (h1 : CH) (x1 : CV) (k : CV → CH → Bool) : Bool :=
 xBoxP 78 [(.int .u16 (.ofNat 0)), (.int .u16 (.ofNat 0)), (.int .u32 (.ofNat 0)), (.int .u32 (.ofNat 0)), (.int .u32 (.ofNat 0)), (.int .u32 (.ofNat 0)), (.int .u32 (.ofNat 0)), (.int .u32 (.ofNat 0)), (.int .u32 (.ofNat 0)), (.int .u32 (.ofNat 0)), (.int .u32 (.ofNat 0)), (.int .u32 (.ofNat 0)), (.int .u32 (.ofNat 0)), (.int .u32 (.ofNat 0)), (.int .u32 (.ofNat 0)), (.int .u32 (.ofNat 0))] h1 fun x2 h2 =>
 xBuild (some (.inr 1)) (some (.agg [(.bytes 1024 0)])) [] fun x3 =>
 xSlice (some (some 64, 1)) x1 none none none fun x4 =>
 bd101 x3 (.int .i64 (.ofNat 0)) x4 h2 fun x5 h3 =>
 xBoxP 70 [(.bytes 1024 0)] h3 fun x6 h4 =>
 c55_6 x6 x5 h4 x2 k
noncomputable def bd55 (v0 : CV) (h : CH) (k : CV → CH → Bool) : Bool :=
 xBox 127 v0 h fun x1 h1 =>
 c55_7 h1 x1 k
noncomputable abbrev ex55 : Ex := fun args h k => a1 args fun v0 => bd55 v0 h k
theorem sim55 : SimF Tryz.prog 55 ex55 := fun args h k hk => by
 obtain ⟨v0, rfl, hk⟩ := a1_ok hk
 exact sim_of (qf := qz) (Z := zs) (C := [(101, ex101), (102, ex102), (103, ex103)]) (T := []) ⟨zerosB_ok zsOk, (exCons (by kernel_rfl) sim101 (exCons (by kernel_rfl) sim102 (exCons (by kernel_rfl) sim103 exNil)))⟩ (.seq .nil (.seq .nil (.seq .nil (.seq (.seq .nil (.loop [22] [23, 24, 5, 25, 26, 27, 28, 29, 30, 31, 32, 33] .nil)) .nil)))) Tryz.func55 _ h k (Eq.mp (by kernel_rfl : (bd55 v0 h k = true) = _) hk)

noncomputable abbrev c19_1 (x1 : CV) (h2 : CH) (k : CV → CH → Bool) (x2 : CV) : Bool :=
 xBuild (some (.inl [(0, 1), (1, 1), (2, 1), (3, 1), (4, 10), (14, 1), (15, 1)])) (some (.agg [(.int .u16 (.ofNat 0)), (.int .u16 (.ofNat 0)), (.int .u32 (.ofNat 0)), (.int .u32 (.ofNat 0)), (.int .u32 (.ofNat 0)), (.int .u32 (.ofNat 0)), (.int .u32 (.ofNat 0)), (.int .u32 (.ofNat 0)), (.int .u32 (.ofNat 0)), (.int .u32 (.ofNat 0)), (.int .u32 (.ofNat 0)), (.int .u32 (.ofNat 0)), (.int .u32 (.ofNat 0)), (.int .u32 (.ofNat 0)), (.int .u32 (.ofNat 0)), (.int .u32 (.ofNat 0))])) [] fun x4 =>
 xStore (some 16) x1 x4 h2 fun h3 =>
 xLoad (some (some 16)) x1 h3 fun x5 =>
 k (.tup [x5, x2]) h3
noncomputable abbrev c19_2 (x1 : CV) (h4 : CH) (k : CV → CH → Bool) : Bool :=
 xBuild (some (.inl [(0, 1), (1, 1), (2, 1), (3, 1), (4, 10), (14, 1), (15, 1)])) (some (.agg [(.int .u16 (.ofNat 0)), (.int .u16 (.ofNat 0)), (.int .u32 (.ofNat 0)), (.int .u32 (.ofNat 0)), (.int .u32 (.ofNat 0)), (.int .u32 (.ofNat 0)), (.int .u32 (.ofNat 0)), (.int .u32 (.ofNat 0)), (.int .u32 (.ofNat 0)), (.int .u32 (.ofNat 0)), (.int .u32 (.ofNat 0)), (.int .u32 (.ofNat 0)), (.int .u32 (.ofNat 0)), (.int .u32 (.ofNat 0)), (.int .u32 (.ofNat 0)), (.int .u32 (.ofNat 0))])) [] fun x11 =>
 xStore (some 16) x1 x11 h4 fun h5 =>
 xLoad (some (some 16)) x1 h5 fun x12 =>
 k (.tup [x12, (.int .i64 (.ofNat 2))]) h5
noncomputable abbrev c19_3 (x1 : CV) (h8 : CH) (k : CV → CH → Bool) (x15 : CV) : Bool :=
 xBuild (some (.inl [(0, 1), (1, 1), (2, 1), (3, 1), (4, 10), (14, 1), (15, 1)])) (some (.agg [(.int .u16 (.ofNat 0)), (.int .u16 (.ofNat 0)), (.int .u32 (.ofNat 0)), (.int .u32 (.ofNat 0)), (.int .u32 (.ofNat 0)), (.int .u32 (.ofNat 0)), (.int .u32 (.ofNat 0)), (.int .u32 (.ofNat 0)), (.int .u32 (.ofNat 0)), (.int .u32 (.ofNat 0)), (.int .u32 (.ofNat 0)), (.int .u32 (.ofNat 0)), (.int .u32 (.ofNat 0)), (.int .u32 (.ofNat 0)), (.int .u32 (.ofNat 0)), (.int .u32 (.ofNat 0))])) [] fun x18 =>
 xStore (some 16) x1 x18 h8 fun h9 =>
 xLoad (some (some 16)) x1 h9 fun x19 =>
 k (.tup [x19, x15]) h9
noncomputable abbrev c19_4 (x8 : CV) (x16 : CV) (h8 : CH) (x1 : CV) (k : CV → CH → Bool) : Bool :=
 xBin (some (.int .i64)) .add x8 (.int .i64 (.ofNat 64)) fun x20 =>
 xSlice (some (some 1024, 1)) x16 (some x8) (some x20) none fun x21 =>
 xArr (some 64) x21 fun x22 =>
 xLoad (some (some 64)) x22 h8 fun x23 =>
 bd55 x23 h8 fun x24 h10 =>
 xStore (some 16) x1 x24 h10 fun h11 =>
 xLoad (some (some 16)) x1 h11 fun x25 =>
 k (.tup [x25, (.int .i64 (.ofNat 0))]) h11
noncomputable abbrev c19_5 (x6 : CV) (x1 : CV) (h4 : CH) (k : CV → CH → Bool) (v0 : CV) (x7 : CV) (x8 : CV) : Bool :=
 xExtract x6 2 fun x9 =>
 xUn .not x9 fun x10 =>
 xIte x10
 (c19_2 x1 h4 k)
 (bd54 v0 x7 h4 fun x13 h6 =>
 xExtract x13 0 fun x14 =>
 xExtract x13 1 fun x15 =>
 xBoxP 70 [(.bytes 1024 0)] h6 fun x16 h7 =>
 xStore (some 1024) x16 x14 h7 fun h8 =>
 xBin (some (.int .i64)) .neq x15 (.int .i64 (.ofNat 0)) fun x17 =>
 xIte x17
 (c19_3 x1 h8 k x15)
 (c19_4 x8 x16 h8 x1 k))
noncomputable def bd19 (v0 v1 : CV) (h : CH) (k : CV → CH → Bool) : Bool :=
 xBoxP 78 [(.int .u16 (.ofNat 0)), (.int .u16 (.ofNat 0)), (.int .u32 (.ofNat 0)), (.int .u32 (.ofNat 0)), (.int .u32 (.ofNat 0)), (.int .u32 (.ofNat 0)), (.int .u32 (.ofNat 0)), (.int .u32 (.ofNat 0)), (.int .u32 (.ofNat 0)), (.int .u32 (.ofNat 0)), (.int .u32 (.ofNat 0)), (.int .u32 (.ofNat 0)), (.int .u32 (.ofNat 0)), (.int .u32 (.ofNat 0)), (.int .u32 (.ofNat 0)), (.int .u32 (.ofNat 0))] h fun x1 h1 =>
 bd45 v0 h1 fun x2 h2 =>
 xBin (some (.int .i64)) .neq x2 (.int .i64 (.ofNat 0)) fun x3 =>
 xIte x3
 (c19_1 x1 h2 k x2)
 (bd53 v0 v1 h2 fun x6 h4 =>
 xExtract x6 0 fun x7 =>
 xExtract x6 1 fun x8 =>
 c19_5 x6 x1 h4 k v0 x7 x8)
noncomputable abbrev ex19 : Ex := fun args h k => a2 args fun v0 v1 => bd19 v0 v1 h k
theorem sim19 : SimF Tryz.prog 19 ex19 := fun args h k hk => by
 obtain ⟨v0, v1, rfl, hk⟩ := a2_ok hk
 exact sim_of (qf := qz) (Z := zs) (C := [(45, ex45), (53, ex53), (54, ex54), (55, ex55)]) (T := []) ⟨zerosB_ok zsOk, (exCons (by kernel_rfl) sim45 (exCons (by kernel_rfl) sim53 (exCons (by kernel_rfl) sim54 (exCons (by kernel_rfl) sim55 exNil))))⟩ .nil Tryz.func19 _ h k (Eq.mp (by kernel_rfl : (bd19 v0 v1 h k = true) = _) hk)

noncomputable abbrev c66_1 (x1 : CV) (h5 : CH) (k : CV → CH → Bool) (s5 : TupC 1) : Bool :=
 xBuild (some (.inl [(0, 1), (1, 1), (2, 1), (3, 1), (4, 10), (14, 1), (15, 1)])) (some (.agg [(.int .u16 (.ofNat 0)), (.int .u16 (.ofNat 0)), (.int .u32 (.ofNat 0)), (.int .u32 (.ofNat 0)), (.int .u32 (.ofNat 0)), (.int .u32 (.ofNat 0)), (.int .u32 (.ofNat 0)), (.int .u32 (.ofNat 0)), (.int .u32 (.ofNat 0)), (.int .u32 (.ofNat 0)), (.int .u32 (.ofNat 0)), (.int .u32 (.ofNat 0)), (.int .u32 (.ofNat 0)), (.int .u32 (.ofNat 0)), (.int .u32 (.ofNat 0)), (.int .u32 (.ofNat 0))])) [] fun x8 =>
 xStore (some 16) x1 x8 h5 fun h6 =>
 xLoad (some (some 16)) x1 h6 fun x9 =>
 k (.tup [x9, s5.1]) h6
noncomputable abbrev c66_2 (x1 : CV) (k : CV → CH → Bool) (x5 : CV) (x4 : CV) (h4 : CH) : Bool :=
 xJoin (n := 1) (fun s5 h5 =>
 xBin (some (.int .i64)) .neq s5.1 (.int .i64 (.ofNat 0)) fun x7 =>
 xIte x7
 (c66_1 x1 h5 k s5)
 (xLoad (some (some 16)) x5 h5 fun x10 =>
 xStore (some 16) x1 x10 h5 fun h7 =>
 xLoad (some (some 16)) x1 h7 fun x11 =>
 k (.tup [x11, (.int .i64 (.ofNat 0))]) h7))
 (fun K11 => xBin (some (.int .i64)) .eql x4 (.int .i64 (.ofNat 0)) fun x13 =>
 xIte x13
 (xAddr (some 0) x5 fun x14 =>
 xLoad (some none) x14 h4 fun x15 =>
 xBin (some (.int .u16)) .neq x15 (.int .u16 (.ofNat 2)) fun x16 =>
 xIte x16
 (K11 ((.int .i64 (.ofNat 7)), ()) h4)
 (K11 (x4, ()) h4))
 (K11 (x4, ()) h4))
noncomputable abbrev c66_3 (h2 : CH) (x3 : CV) (x1 : CV) (k : CV → CH → Bool) (x4 : CV) : Bool :=
 xBoxP 78 [(.int .u16 (.ofNat 0)), (.int .u16 (.ofNat 0)), (.int .u32 (.ofNat 0)), (.int .u32 (.ofNat 0)), (.int .u32 (.ofNat 0)), (.int .u32 (.ofNat 0)), (.int .u32 (.ofNat 0)), (.int .u32 (.ofNat 0)), (.int .u32 (.ofNat 0)), (.int .u32 (.ofNat 0)), (.int .u32 (.ofNat 0)), (.int .u32 (.ofNat 0)), (.int .u32 (.ofNat 0)), (.int .u32 (.ofNat 0)), (.int .u32 (.ofNat 0)), (.int .u32 (.ofNat 0))] h2 fun x5 h3 =>
 xStore (some 16) x5 x3 h3 fun h4 =>
 c66_2 x1 k x5 x4 h4
noncomputable def bd66 (v0 v1 : CV) (h : CH) (k : CV → CH → Bool) : Bool :=
 xBoxP 78 [(.int .u16 (.ofNat 0)), (.int .u16 (.ofNat 0)), (.int .u32 (.ofNat 0)), (.int .u32 (.ofNat 0)), (.int .u32 (.ofNat 0)), (.int .u32 (.ofNat 0)), (.int .u32 (.ofNat 0)), (.int .u32 (.ofNat 0)), (.int .u32 (.ofNat 0)), (.int .u32 (.ofNat 0)), (.int .u32 (.ofNat 0)), (.int .u32 (.ofNat 0)), (.int .u32 (.ofNat 0)), (.int .u32 (.ofNat 0)), (.int .u32 (.ofNat 0)), (.int .u32 (.ofNat 0))] h fun x1 h1 =>
 bd19 v0 v1 h1 fun x2 h2 =>
 xExtract x2 0 fun x3 =>
 xExtract x2 1 fun x4 =>
 c66_3 h2 x3 x1 k x4
noncomputable abbrev ex66 : Ex := fun args h k => a2 args fun v0 v1 => bd66 v0 v1 h k
theorem sim66 : SimF Tryz.prog 66 ex66 := fun args h k hk => by
 obtain ⟨v0, v1, rfl, hk⟩ := a2_ok hk
 exact sim_of (qf := qz) (Z := zs) (C := [(19, ex19)]) (T := []) ⟨zerosB_ok zsOk, (exCons (by kernel_rfl) sim19 exNil)⟩ (.seq .nil (.seq .nil (.join [7] [14, 15, 16, 17, 18, 19, 20] .nil .nil))) Tryz.func66 _ h k (Eq.mp (by kernel_rfl : (bd66 v0 v1 h k = true) = _) hk)

noncomputable def bd67 (v0 v1 v2 v3 : CV) (h : CH) (k : CV → CH → Bool) : Bool :=
 xBox 37 v0 h fun x1 h1 =>
 xBox 3 v1 h1 fun x2 h2 =>
 xBox 78 v2 h2 fun x3 h3 =>
 xBox 146 v3 h3 fun x4 h4 =>
 k (.fn 111 [] [x3, x1, x2, x4]) h4
noncomputable abbrev ex67 : Ex := fun args h k => a4 args fun v0 v1 v2 v3 => bd67 v0 v1 v2 v3 h k
theorem sim67 : SimF Tryz.prog 67 ex67 := fun args h k hk => by
 obtain ⟨v0, v1, v2, v3, rfl, hk⟩ := a4_ok hk
 exact sim_of (qf := qz) (Z := zs) (C := []) (T := []) ⟨zerosB_ok zsOk, exNil⟩ .nil Tryz.func67 _ h k (Eq.mp (by kernel_rfl : (bd67 v0 v1 v2 v3 h k = true) = _) hk)

noncomputable def bd70 (v0 : CV) (h : CH) (k : CV → CH → Bool) : Bool :=
 bd45 v0 h fun x1 h1 =>
 xBin (some (.int .i64)) .eql x1 (.int .i64 (.ofNat 0)) fun x2 =>
 xIte x2
 (xNilCheck v0 fun x3 =>
 xAddr (some 14) x3 fun x4 =>
 xLoad (some none) x4 h1 fun x5 =>
 k x5 h1)
 (k (.bool false) h1)
noncomputable abbrev ex70 : Ex := fun args h k => a1 args fun v0 => bd70 v0 h k
theorem sim70 : SimF Tryz.prog 70 ex70 := fun args h k hk => by
 obtain ⟨v0, rfl, hk⟩ := a1_ok hk
 exact sim_of (qf := qz) (Z := zs) (C := [(45, ex45)]) (T := []) ⟨zerosB_ok zsOk, (exCons (by kernel_rfl) sim45 exNil)⟩ .nil Tryz.func70 _ h k (Eq.mp (by kernel_rfl : (bd70 v0 h k = true) = _) hk)

noncomputable abbrev c63_1 (v0 : CV) (v1 : CV) (x9 : CV) (h5 : CH) (k : CV → CH → Bool) : Bool :=
 xBuild (some (.inl [(0, 1), (1, 1), (2, 16)])) (some (.agg [.nilp, (.int .i64 (.ofNat 0)), (.int .u16 (.ofNat 0)), (.int .u16 (.ofNat 0)), (.int .u32 (.ofNat 0)), (.int .u32 (.ofNat 0)), (.int .u32 (.ofNat 0)), (.int .u32 (.ofNat 0)), (.int .u32 (.ofNat 0)), (.int .u32 (.ofNat 0)), (.int .u32 (.ofNat 0)), (.int .u32 (.ofNat 0)), (.int .u32 (.ofNat 0)), (.int .u32 (.ofNat 0)), (.int .u32 (.ofNat 0)), (.int .u32 (.ofNat 0)), (.int .u32 (.ofNat 0)), (.int .u32 (.ofNat 0))])) [(0, v0), (1, v1), (2, x9)] fun x10 =>
 xBox 200 x10 h5 fun x11 h6 =>
 k (.tup [x11, (.int .i64 (.ofNat 0))]) h6
noncomputable abbrev c63_2 (h3 : CH) (x5 : CV) (x6 : CV) (k : CV → CH → Bool) (v0 : CV) (v1 : CV) : Bool :=
 xBoxP 78 [(.int .u16 (.ofNat 0)), (.int .u16 (.ofNat 0)), (.int .u32 (.ofNat 0)), (.int .u32 (.ofNat 0)), (.int .u32 (.ofNat 0)), (.int .u32 (.ofNat 0)), (.int .u32 (.ofNat 0)), (.int .u32 (.ofNat 0)), (.int .u32 (.ofNat 0)), (.int .u32 (.ofNat 0)), (.int .u32 (.ofNat 0)), (.int .u32 (.ofNat 0)), (.int .u32 (.ofNat 0)), (.int .u32 (.ofNat 0)), (.int .u32 (.ofNat 0)), (.int .u32 (.ofNat 0))] h3 fun x7 h4 =>
 xStore (some 16) x7 x5 h4 fun h5 =>
 xBin (some (.int .i64)) .neq x6 (.int .i64 (.ofNat 0)) fun x8 =>
 xIte x8
 (k (.tup [.nilp, x6]) h5)
 (xLoad (some (some 16)) x7 h5 fun x9 =>
 c63_1 v0 v1 x9 h5 k)
noncomputable abbrev c63_3 (x2 : CV) (k : CV → CH → Bool) (x1 : CV) (h1 : CH) (v0 : CV) (v1 : CV) (v2 : CV) : Bool :=
 xIte x2
 (k (.tup [.nilp, x1]) h1)
 (xJoin (n := 1) (fun s2 h2 =>
 xIte s2.1
 (k (.tup [.nilp, (.int .i64 (.ofNat 180))]) h2)
 (bd19 v0 v1 h2 fun x4 h3 =>
 xExtract x4 0 fun x5 =>
 xExtract x4 1 fun x6 =>
 c63_2 h3 x5 x6 k v0 v1))
 (fun K11 => xIte v2
 (bd70 v0 h1 fun x13 h7 =>
 xUn .not x13 fun x14 =>
 K11 (x14, ()) h7)
 (K11 ((.bool false), ()) h1)))
noncomputable def bd63 (v0 v1 v2 : CV) (h : CH) (k : CV → CH → Bool) : Bool :=
 bd45 v0 h fun x1 h1 =>
 xBin (some (.int .i64)) .neq x1 (.int .i64 (.ofNat 0)) fun x2 =>
 c63_3 x2 k x1 h1 v0 v1 v2
noncomputable abbrev ex63 : Ex := fun args h k => a3 args fun v0 v1 v2 => bd63 v0 v1 v2 h k
theorem sim63 : SimF Tryz.prog 63 ex63 := fun args h k hk => by
 obtain ⟨v0, v1, v2, rfl, hk⟩ := a3_ok hk
 exact sim_of (qf := qz) (Z := zs) (C := [(45, ex45), (19, ex19), (70, ex70)]) (T := []) ⟨zerosB_ok zsOk, (exCons (by kernel_rfl) sim45 (exCons (by kernel_rfl) sim19 (exCons (by kernel_rfl) sim70 exNil)))⟩ (.seq .nil (.seq .nil (.seq (.join [21] [16, 17, 18, 19, 20] .nil .nil) .nil))) Tryz.func63 _ h k (Eq.mp (by kernel_rfl : (bd63 v0 v1 v2 h k = true) = _) hk)

noncomputable abbrev c151_1 (x13 : CV) (x1 : CV) (h2 : CH) (k : CV → CH → Bool) : Bool :=
 xBin (some (.int .i64)) .quo x13 (.int .i64 (.ofNat 256)) fun x14 =>
 xBin (some (.int .i64)) .rem x13 (.int .i64 (.ofNat 256)) fun x15 =>
 xBuild (some (.inl [(0, 1), (1, 1), (2, 1)])) (some (.agg [(.bytes 1 0), (.int .i64 (.ofNat 0)), (.int .i64 (.ofNat 0))])) [(0, (.int .u8 (.ofNat 3))), (1, x14), (2, x15)] fun x16 =>
 xStore (some 3) x1 x16 h2 fun h6 =>
 xLoad (some (some 3)) x1 h6 fun x17 =>
 k x17 h6
noncomputable abbrev c151_2 (x8 : CV) (v0 : CV) (x1 : CV) (h2 : CH) (k : CV → CH → Bool) : Bool :=
 xIte x8
 (xBin (some (.int .i64)) .sub v0 (.int .i64 (.ofNat 10)) fun x9 =>
 xBuild (some (.inl [(0, 1), (1, 1), (2, 1)])) (some (.agg [(.bytes 1 0), (.int .i64 (.ofNat 0)), (.int .i64 (.ofNat 0))])) [(0, (.int .u8 (.ofNat 2))), (1, x9)] fun x10 =>
 xStore (some 3) x1 x10 h2 fun h5 =>
 xLoad (some (some 3)) x1 h5 fun x11 =>
 k x11 h5)
 (xBin (some (.int .i64)) .sub v0 (.int .i64 (.ofNat 10)) fun x12 =>
 xBin (some (.int .i64)) .sub x12 (.int .i64 (.ofNat 256)) fun x13 =>
 c151_1 x13 x1 h2 k)
noncomputable abbrev c151_3 (x5 : CV) (v0 : CV) (x1 : CV) (h2 : CH) (k : CV → CH → Bool) : Bool :=
 xIte x5
 (xBuild (some (.inl [(0, 1), (1, 1), (2, 1)])) (some (.agg [(.bytes 1 0), (.int .i64 (.ofNat 0)), (.int .i64 (.ofNat 0))])) [(0, (.int .u8 (.ofNat 1))), (1, v0)] fun x6 =>
 xStore (some 3) x1 x6 h2 fun h4 =>
 xLoad (some (some 3)) x1 h4 fun x7 =>
 k x7 h4)
 (xBin (some (.int .i64)) .lss v0 (.int .i64 (.ofNat 266)) fun x8 =>
 c151_2 x8 v0 x1 h2 k)
noncomputable abbrev c151_4 (x1 : CV) (k : CV → CH → Bool) (v0 : CV) (h1 : CH) : Bool :=
 xJoin (n := 1) (fun s1 h2 =>
 xIte s1.1
 (xBuild (some (.inl [(0, 1), (1, 1), (2, 1)])) (some (.agg [(.bytes 1 0), (.int .i64 (.ofNat 0)), (.int .i64 (.ofNat 0))])) [] fun x3 =>
 xStore (some 3) x1 x3 h2 fun h3 =>
 xLoad (some (some 3)) x1 h3 fun x4 =>
 k x4 h3)
 (xBin (some (.int .i64)) .lss v0 (.int .i64 (.ofNat 10)) fun x5 =>
 c151_3 x5 v0 x1 h2 k))
 (fun K17 => xBin (some (.int .i64)) .lss v0 (.int .i64 (.ofNat 0)) fun x19 =>
 xIte x19
 (K17 ((.bool true), ()) h1)
 (xBin (some (.int .i64)) .geq v0 (.int .i64 (.ofNat 65802)) fun x20 =>
 K17 (x20, ()) h1))
noncomputable def bd151 (v0 : CV) (h : CH) (k : CV → CH → Bool) : Bool :=
 xBoxP 252 [(.bytes 1 0), (.int .i64 (.ofNat 0)), (.int .i64 (.ofNat 0))] h fun x1 h1 =>
 c151_4 x1 k v0 h1
noncomputable abbrev ex151 : Ex := fun args h k => a1 args fun v0 => bd151 v0 h k
theorem sim151 : SimF Tryz.prog 151 ex151 := fun args h k hk => by
 obtain ⟨v0, rfl, hk⟩ := a1_ok hk
 exact sim_of (qf := qz) (Z := zs) (C := []) (T := []) ⟨zerosB_ok zsOk, exNil⟩ (.seq .nil (.seq (.join [4] [5, 6, 7, 8, 9, 10] .nil .nil) .nil)) Tryz.func151 _ h k (Eq.mp (by kernel_rfl : (bd151 v0 h k = true) = _) hk)

noncomputable abbrev c108_1 (v0 : CV) (h3 : CH) (x2 : CV) (k : CV → CH → Bool) : Bool :=
 xNilCheck v0 fun x15 =>
 xAddr (some 2) x15 fun x16 =>
 xAddr (some 14) x16 fun x17 =>
 xLoad (some none) x17 h3 fun x18 =>
 xConv (some (.int .u32)) (some (.int .i64)) x18 fun x19 =>
 xAddr (some 1) x2 fun x20 =>
 xLoad (some none) x20 h3 fun x21 =>
 xNewS (some (3, 1, 8, false)) (some [(.int .i64 (.ofNat 0))]) 1 [(0, x21)] h3 fun x22 h4 =>
 k (.tup [x19, x22]) h4
noncomputable abbrev c108_2 (x24 : CV) (h3 : CH) (x2 : CV) (k : CV → CH → Bool) : Bool :=
 xAddr (some 15) x24 fun x25 =>
 xLoad (some none) x25 h3 fun x26 =>
 xConv (some (.int .u32)) (some (.int .i64)) x26 fun x27 =>
 xAddr (some 1) x2 fun x28 =>
 xLoad (some none) x28 h3 fun x29 =>
 xAddr (some 2) x2 fun x30 =>
 xLoad (some none) x30 h3 fun x31 =>
 xNewS (some (3, 1, 8, false)) (some [(.int .i64 (.ofNat 0))]) 2 [(0, x29), (1, x31)] h3 fun x32 h5 =>
 k (.tup [x27, x32]) h5
noncomputable abbrev c108_3 (x5 : CV) (x2 : CV) (h3 : CH) (v0 : CV) (k : CV → CH → Bool) (x4 : CV) : Bool :=
 xIte x5
 (xAddr (some 1) x2 fun x6 =>
 xLoad (some none) x6 h3 fun x7 =>
 xNilCheck v0 fun x8 =>
 xAddr (some 2) x8 fun x9 =>
 xAddr (some 4) x9 fun x10 =>
 xIdx (some (some 10, 1)) x10 x7 fun x11 =>
 xLoad (some none) x11 h3 fun x12 =>
 xConv (some (.int .u32)) (some (.int .i64)) x12 fun x13 =>
 k (.tup [x13, .nils]) h3)
 (xBin (some (.int .u8)) .eql x4 (.int .u8 (.ofNat 2)) fun x14 =>
 xIte x14
 (c108_1 v0 h3 x2 k)
 (xNilCheck v0 fun x23 =>
 xAddr (some 2) x23 fun x24 =>
 c108_2 x24 h3 x2 k))
noncomputable def bd108 (v0 v1 : CV) (h : CH) (k : CV → CH → Bool) : Bool :=
 bd151 v1 h fun x1 h1 =>
 xBoxP 252 [(.bytes 1 0), (.int .i64 (.ofNat 0)), (.int .i64 (.ofNat 0))] h1 fun x2 h2 =>
 xStore (some 3) x2 x1 h2 fun h3 =>
 xAddr (some 0) x2 fun x3 =>
 xLoad (some none) x3 h3 fun x4 =>
 xBin (some (.int .u8)) .eql x4 (.int .u8 (.ofNat 1)) fun x5 =>
 c108_3 x5 x2 h3 v0 k x4
noncomputable abbrev ex108 : Ex := fun args h k => a2 args fun v0 v1 => bd108 v0 v1 h k
theorem sim108 : SimF Tryz.prog 108 ex108 := fun args h k hk => by
 obtain ⟨v0, v1, rfl, hk⟩ := a2_ok hk
 exact sim_of (qf := qz) (Z := zs) (C := [(151, ex151)]) (T := []) ⟨zerosB_ok zsOk, (exCons (by kernel_rfl) sim151 exNil)⟩ .nil Tryz.func108 _ h k (Eq.mp (by kernel_rfl : (bd108 v0 v1 h k = true) = _) hk)

noncomputable abbrev c152_1 (x8 : CV) (x5 : CV) (h3 : CH) (v1 : CV) (K6 : TupC 1 → CH → Bool) : Bool :=
 xIte x8
 (xAddr (some 8) x5 fun x9 =>
 xLoad (some none) x9 h3 fun x10 =>
 xBin (some (.int .i64)) .lss v1 x10 fun x11 =>
 xIte x11
 (K6 ((.bool true), ()) h3)
 (xAddr (some 0) x5 fun x12 =>
 xAddr (some 0) x12 fun x13 =>
 xLoad (some none) x13 h3 fun x14 =>
 xBin (some (.int .i64)) .geq v1 x14 fun x15 =>
 K6 (x15, ()) h3))
 (K6 ((.bool false), ()) h3)
noncomputable abbrev c152_2 (h1 : CH) (x4 : CV) (k : CV → CH → Bool) (v1 : CV) : Bool :=
 xBoxP 49 [(.int .i64 (.ofNat 0)), (.int .i64 (.ofNat 0)), (.int .i64 (.ofNat 0)), (.int .i64 (.ofNat 0)), (.int .i64 (.ofNat 0)), (.int .i64 (.ofNat 0)), (.int .i64 (.ofNat 0)), (.int .i64 (.ofNat 0)), (.int .i64 (.ofNat 0))] h1 fun x5 h2 =>
 xStore (some 9) x5 x4 h2 fun h3 =>
 xJoin (n := 1) (fun s5 h4 =>
 xIte s5.1
 (k (.int .i64 (.ofNat 4)) h4)
 (k (.int .i64 (.ofNat 0)) h4))
 (fun K6 => xBin (some (.int .i64)) .neq v1 (.int .i64 (.ofNat 0)) fun x8 =>
 c152_1 x8 x5 h3 v1 K6)
noncomputable def bd152 (v0 v1 : CV) (h : CH) (k : CV → CH → Bool) : Bool :=
 xNilCheck v0 fun x1 =>
 xAddr (some 0) x1 fun x2 =>
 xLoad (some none) x2 h fun x3 =>
 bd97 x3 h fun x4 h1 =>
 c152_2 h1 x4 k v1
noncomputable abbrev ex152 : Ex := fun args h k => a2 args fun v0 v1 => bd152 v0 v1 h k
theorem sim152 : SimF Tryz.prog 152 ex152 := fun args h k hk => by
 obtain ⟨v0, v1, rfl, hk⟩ := a2_ok hk
 exact sim_of (qf := qz) (Z := zs) (C := [(97, ex97)]) (T := []) ⟨zerosB_ok zsOk, (exCons (by kernel_rfl) sim97 exNil)⟩ (.seq .nil (.seq .nil (.seq (.join [25] [11, 12, 13, 14, 15, 16, 17, 18, 19, 20, 21, 22, 23, 24] .nil .nil) .nil))) Tryz.func152 _ h k (Eq.mp (by kernel_rfl : (bd152 v0 v1 h k = true) = _) hk)

noncomputable abbrev c109_1 (x14 : CV) (x17 : CV) (h4 : CH) (v2 : CV) (r109 : Ex) (v0 : CV) (k : CV → CH → Bool) : Bool :=
 xQuiet (some ex103) [x14, x17] h4 fun x18 h5 =>
 xConv (some (.int .u32)) (some (.int .i64)) x18 fun x19 =>
 xSlice (some (none, 1)) v2 (some (.int .i64 (.ofNat 1))) none none fun x20 =>
 r109 [v0, x19, x20] h5 fun x21 h6 =>
 xExtract x21 0 fun x22 =>
 xExtract x21 1 fun x23 =>
 xExtract x21 2 fun x24 =>
 xBin (some (.int .i64)) .add x23 (.int .i64 (.ofNat 1)) fun x25 =>
 k (.tup [x22, x25, x24]) h6
noncomputable abbrev c109_2 (x11 : CV) (k : CV → CH → Bool) (h4 : CH) (x12 : CV) (v2 : CV) (r109 : Ex) (v0 : CV) : Bool :=
 xBin (some (.int .i64)) .neq x11 (.int .i64 (.ofNat 0)) fun x13 =>
 xIte x13
 (k (.tup [(.int .i64 (.ofNat 0)), (.int .i64 (.ofNat 0)), x11]) h4)
 (xLoad (some (some 1024)) x12 h4 fun x14 =>
 xIdx (some (none, 1)) v2 (.int .i64 (.ofNat 0)) fun x15 =>
 xLoad (some none) x15 h4 fun x16 =>
 xBin (some (.int .i64)) .mul (.int .i64 (.ofNat 4)) x16 fun x17 =>
 c109_1 x14 x17 h4 v2 r109 v0 k)
noncomputable abbrev c109_3 (x5 : CV) (k : CV → CH → Bool) (v1 : CV) (h1 : CH) (v0 : CV) (v2 : CV) (r109 : Ex) : Bool :=
 xIte x5
 (k (.tup [v1, (.int .i64 (.ofNat 1)), (.int .i64 (.ofNat 0))]) h1)
 (xNilCheck v0 fun x6 =>
 xAddr (some 0) x6 fun x7 =>
 xLoad (some none) x7 h1 fun x8 =>
 bd54 x8 v1 h1 fun x9 h2 =>
 xExtract x9 0 fun x10 =>
 xExtract x9 1 fun x11 =>
 xBoxP 70 [(.bytes 1024 0)] h2 fun x12 h3 =>
 xStore (some 1024) x12 x10 h3 fun h4 =>
 c109_2 x11 k h4 x12 v2 r109 v0)
noncomputable abbrev c109_4 (x2 : CV) (k : CV → CH → Bool) (x1 : CV) (h1 : CH) (v1 : CV) (v2 : CV) (v0 : CV) (r109 : Ex) : Bool :=
 xIte x2
 (k (.tup [(.int .i64 (.ofNat 0)), (.int .i64 (.ofNat 0)), x1]) h1)
 (xBin (some (.int .i64)) .eql v1 (.int .i64 (.ofNat 0)) fun x3 =>
 xIte x3
 (k (.tup [(.int .i64 (.ofNat 0)), (.int .i64 (.ofNat 0)), (.int .i64 (.ofNat 0))]) h1)
 (xLen (some (.inl false)) v2 fun x4 =>
 xBin (some (.int .i64)) .eql x4 (.int .i64 (.ofNat 0)) fun x5 =>
 c109_3 x5 k v1 h1 v0 v2 r109))
noncomputable def bd109 (r109 : Ex) (v0 v1 v2 : CV) (h : CH) (k : CV → CH → Bool) : Bool :=
 bd152 v0 v1 h fun x1 h1 =>
 xBin (some (.int .i64)) .neq x1 (.int .i64 (.ofNat 0)) fun x2 =>
 c109_4 x2 k x1 h1 v1 v2 v0 r109
noncomputable def rc109 : Nat → Nat → Ex := fun n => Nat.rec (motive := fun _ => Nat → Ex) (fun _ _ _ _ => false) (fun _ ih j => match j with
  | 0 => fun args h k => a3 args (fun v0 v1 v2 => bd109 (ih 0) v0 v1 v2 h k)
  | _ => fun _ _ _ => false) n
theorem sr109 : ∀ n, SimF Tryz.prog 109 (rc109 n 0)
  | 0 => fun args h k hk => by cases hk
  | n + 1 => by
    have ih := sr109 n
    have i109 := ih
    · intro args h k hk
      obtain ⟨v0, v1, v2, rfl, hk⟩ := a3_ok hk
      exact sim_of (qf := qz) (Z := zs) (C := [(109, rc109 n 0), (152, ex152), (54, ex54), (103, ex103)]) (T := []) ⟨zerosB_ok zsOk, (exCons (by kernel_rfl) i109 (exCons (by kernel_rfl) sim152 (exCons (by kernel_rfl) sim54 (exCons (by kernel_rfl) sim103 exNil))))⟩ .nil Tryz.func109 _ h k (Eq.mp (by kernel_rfl : (bd109 (rc109 n 0) v0 v1 v2 h k = true) = _) hk)
noncomputable abbrev ex109 : Ex := rc109 1000 0
theorem sim109 : SimF Tryz.prog 109 ex109 := sr109 1000

noncomputable abbrev c64_1 (x4 : CV) (k : CV → CH → Bool) (h2 : CH) (x3 : CV) (x6 : CV) (x5 : CV) : Bool :=
 xExtract x4 2 fun x7 =>
 xBin (some (.int .i64)) .neq x7 (.int .i64 (.ofNat 0)) fun x8 =>
 xIte x8
 (k (.tup [(.int .i64 (.ofNat 0)), (.int .i64 (.ofNat 0)), x7]) h2)
 (xLen (some (.inl false)) x3 fun x9 =>
 xBin (some (.int .i64)) .add x9 (.int .i64 (.ofNat 1)) fun x10 =>
 xBin (some (.int .i64)) .sub x10 x6 fun x11 =>
 k (.tup [x5, x11, (.int .i64 (.ofNat 0))]) h2)
noncomputable def bd64 (v0 v1 : CV) (h : CH) (k : CV → CH → Bool) : Bool :=
 bd108 v0 v1 h fun x1 h1 =>
 xExtract x1 0 fun x2 =>
 xExtract x1 1 fun x3 =>
 ex109 [v0, x2, x3] h1 fun x4 h2 =>
 xExtract x4 0 fun x5 =>
 xExtract x4 1 fun x6 =>
 c64_1 x4 k h2 x3 x6 x5
noncomputable abbrev ex64 : Ex := fun args h k => a2 args fun v0 v1 => bd64 v0 v1 h k
theorem sim64 : SimF Tryz.prog 64 ex64 := fun args h k hk => by
 obtain ⟨v0, v1, rfl, hk⟩ := a2_ok hk
 exact sim_of (qf := qz) (Z := zs) (C := [(108, ex108), (109, ex109)]) (T := []) ⟨zerosB_ok zsOk, (exCons (by kernel_rfl) sim108 (exCons (by kernel_rfl) sim109 exNil))⟩ .nil Tryz.func64 _ h k (Eq.mp (by kernel_rfl : (bd64 v0 v1 h k = true) = _) hk)

noncomputable abbrev c24_1 (k : CV → CH → Bool) (x2 : CV) (v2 : CV) (h1 : CH) : Bool :=
 xJoin (n := 1) (fun s4 h2 =>
 xIte s4.1
 (k (.tup [(.int .i64 (.ofNat 0)), (.int .i64 (.ofNat 2))]) h2)
 (bd64 x2 v2 h2 fun x6 h3 =>
 xExtract x6 0 fun x7 =>
 xExtract x6 1 fun x8 =>
 xExtract x6 2 fun x9 =>
 k (.tup [x7, x9]) h3))
 (fun K9 => xBin (some (.int .i64)) .lss v2 (.int .i64 (.ofNat 0)) fun x11 =>
 xIte x11
 (K9 ((.bool true), ()) h1)
 (xBin (some (.int .i64)) .geq v2 (.int .i64 (.ofNat 65802)) fun x12 =>
 K9 (x12, ()) h1))
noncomputable def bd24 (v0 v1 v2 : CV) (h : CH) (k : CV → CH → Bool) : Bool :=
 bd63 v0 v1 (.bool false) h fun x1 h1 =>
 xExtract x1 0 fun x2 =>
 xExtract x1 1 fun x3 =>
 xBin (some (.int .i64)) .neq x3 (.int .i64 (.ofNat 0)) fun x4 =>
 xIte x4
 (k (.tup [(.int .i64 (.ofNat 0)), x3]) h1)
 (c24_1 k x2 v2 h1)
noncomputable abbrev ex24 : Ex := fun args h k => a3 args fun v0 v1 v2 => bd24 v0 v1 v2 h k
theorem sim24 : SimF Tryz.prog 24 ex24 := fun args h k hk => by
 obtain ⟨v0, v1, v2, rfl, hk⟩ := a3_ok hk
 exact sim_of (qf := qz) (Z := zs) (C := [(63, ex63), (64, ex64)]) (T := []) ⟨zerosB_ok zsOk, (exCons (by kernel_rfl) sim63 (exCons (by kernel_rfl) sim64 exNil))⟩ (.seq .nil (.seq .nil (.seq .nil (.seq (.join [26] [21, 22, 23, 24, 25] .nil .nil) .nil)))) Tryz.func24 _ h k (Eq.mp (by kernel_rfl : (bd24 v0 v1 v2 h k = true) = _) hk)

noncomputable abbrev c49_1 (x27 : CV) (v2 : CV) (x20 : CV) (x39 : CV) (s20 : TupC 1) (x37 : CV) (h10 : CH) (K21 : TupC 1 → CH → Bool) : Bool :=
 xBin (some (.int .i64)) .sub x27 v2 fun x40 =>
 xBin (some (.int .i64)) .sub x27 v2 fun x41 =>
 xSlice (some (none, 1)) x20 (some x39) (some x40) (some x41) fun x42 =>
 xBin (some (.int .i64)) .rem s20.1 (.int .i64 (.ofNat 1024)) fun x43 =>
 xSlice (some (some 1024, 1)) x37 (some x43) none none fun x44 =>
 xCopy (some (5, 1, 1, true)) x42 x44 h10 fun x45 h11 =>
 K21 (x27, ()) h11
noncomputable abbrev c49_2 (v0 : CV) (x30 : CV) (h7 : CH) (k : CV → CH → Bool) (s20 : TupC 1) (v2 : CV) (x27 : CV) (x20 : CV) (K21 : TupC 1 → CH → Bool) : Bool :=
 bd54 v0 x30 h7 fun x34 h8 =>
 xExtract x34 0 fun x35 =>
 xExtract x34 1 fun x36 =>
 xBoxP 70 [(.bytes 1024 0)] h8 fun x37 h9 =>
 xStore (some 1024) x37 x35 h9 fun h10 =>
 xBin (some (.int .i64)) .neq x36 (.int .i64 (.ofNat 0)) fun x38 =>
 xIte x38
 (k (.tup [.nils, x36]) h10)
 (xBin (some (.int .i64)) .sub s20.1 v2 fun x39 =>
 c49_1 x27 v2 x20 x39 s20 x37 h10 K21)
noncomputable abbrev c49_3 (s20 : TupC 1) (v0 : CV) (v1 : CV) (h6 : CH) (k : CV → CH → Bool) (v2 : CV) (x27 : CV) (x20 : CV) (K21 : TupC 1 → CH → Bool) : Bool :=
 xBin (some (.int .i64)) .quo s20.1 (.int .i64 (.ofNat 1024)) fun x28 =>
 bd24 v0 v1 x28 h6 fun x29 h7 =>
 xExtract x29 0 fun x30 =>
 xExtract x29 1 fun x31 =>
 xBin (some (.int .i64)) .neq x31 (.int .i64 (.ofNat 0)) fun x32 =>
 xIte x32
 (k (.tup [.nils, x31]) h7)
 (xBin (some (.int .i64)) .neq x30 (.int .i64 (.ofNat 0)) fun x33 =>
 xIte x33
 (c49_2 v0 x30 h7 k s20 v2 x27 x20 K21)
 (K21 (x27, ()) h7))
noncomputable abbrev c49_4 (s20 : TupC 1) (x18 : CV) (v0 : CV) (v1 : CV) (h6 : CH) (k : CV → CH → Bool) (v2 : CV) (x20 : CV) (K21 : TupC 1 → CH → Bool) : Bool :=
 xBin (some (.int .i64)) .lss s20.1 x18 fun x23 =>
 xIte x23
 (xBin (some (.int .i64)) .quo s20.1 (.int .i64 (.ofNat 1024)) fun x24 =>
 xBin (some (.int .i64)) .add x24 (.int .i64 (.ofNat 1)) fun x25 =>
 xBin (some (.int .i64)) .mul x25 (.int .i64 (.ofNat 1024)) fun x26 =>
 xMin x18 x26 fun x27 =>
 c49_3 s20 v0 v1 h6 k v2 x27 x20 K21)
 (k (.tup [x20, (.int .i64 (.ofNat 0))]) h6)
noncomputable abbrev c49_5 (x4 : CV) (h4 : CH) (x14 : CV) (v2 : CV) (v0 : CV) (v1 : CV) (k : CV → CH → Bool) : Bool :=
 xAddr (some 2) x4 fun x15 =>
 xLoad (some none) x15 h4 fun x16 =>
 xConv (some (.int .u32)) (some (.int .i64)) x16 fun x17 =>
 xMin x14 x17 fun x18 =>
 xBin (some (.int .i64)) .sub x18 v2 fun x19 =>
 xMake (some (5, 1, 1, true)) (some [(.bytes 1 0)]) x19 x19 h4 fun x20 h5 =>
 xLoop (n := 1) (fun K21 s20 h6 =>
 c49_4 s20 x18 v0 v1 h6 k v2 x20 K21) 1000000 (v2, ()) h5
noncomputable abbrev c49_6 (x9 : CV) (k : CV → CH → Bool) (h4 : CH) (x4 : CV) (v2 : CV) (v3 : CV) (v0 : CV) (v1 : CV) : Bool :=
 xIte x9
 (k (.tup [.nils, (.int .i64 (.ofNat 4))]) h4)
 (xAddr (some 2) x4 fun x10 =>
 xLoad (some none) x10 h4 fun x11 =>
 xConv (some (.int .u32)) (some (.int .i64)) x11 fun x12 =>
 xBin (some (.int .i64)) .geq v2 x12 fun x13 =>
 xIte x13
 (k (.tup [.nils, (.int .i64 (.ofNat 0))]) h4)
 (xBin (some (.int .i64)) .add v2 v3 fun x14 =>
 c49_5 x4 h4 x14 v2 v0 v1 k))
noncomputable abbrev c49_7 (k : CV → CH → Bool) (x4 : CV) (v2 : CV) (v3 : CV) (v0 : CV) (v1 : CV) (h3 : CH) : Bool :=
 xJoin (n := 1) (fun s5 h4 =>
 xIte s5.1
 (k (.tup [.nils, (.int .i64 (.ofNat 2))]) h4)
 (xAddr (some 0) x4 fun x7 =>
 xLoad (some none) x7 h4 fun x8 =>
 xBin (some (.int .u16)) .eql x8 (.int .u16 (.ofNat 0)) fun x9 =>
 c49_6 x9 k h4 x4 v2 v3 v0 v1))
 (fun K45 => xBin (some (.int .i64)) .lss v2 (.int .i64 (.ofNat 0)) fun x47 =>
 xIte x47
 (K45 ((.bool true), ()) h3)
 (xBin (some (.int .i64)) .lss v3 (.int .i64 (.ofNat 0)) fun x48 =>
 xIte x48
 (K45 ((.bool true), ()) h3)
 (xBin (some (.int .i64)) .gtr v3 (.int .i64 (.ofNat 65536)) fun x49 =>
 K45 (x49, ()) h3)))
noncomputable abbrev c49_8 (h1 : CH) (x2 : CV) (x3 : CV) (k : CV → CH → Bool) (v2 : CV) (v3 : CV) (v0 : CV) (v1 : CV) : Bool :=
 xBoxP 78 [(.int .u16 (.ofNat 0)), (.int .u16 (.ofNat 0)), (.int .u32 (.ofNat 0)), (.int .u32 (.ofNat 0)), (.int .u32 (.ofNat 0)), (.int .u32 (.ofNat 0)), (.int .u32 (.ofNat 0)), (.int .u32 (.ofNat 0)), (.int .u32 (.ofNat 0)), (.int .u32 (.ofNat 0)), (.int .u32 (.ofNat 0)), (.int .u32 (.ofNat 0)), (.int .u32 (.ofNat 0)), (.int .u32 (.ofNat 0)), (.int .u32 (.ofNat 0)), (.int .u32 (.ofNat 0))] h1 fun x4 h2 =>
 xStore (some 16) x4 x2 h2 fun h3 =>
 xBin (some (.int .i64)) .neq x3 (.int .i64 (.ofNat 0)) fun x5 =>
 xIte x5
 (k (.tup [.nils, x3]) h3)
 (c49_7 k x4 v2 v3 v0 v1 h3)
noncomputable def bd49 (v0 v1 v2 v3 : CV) (h : CH) (k : CV → CH → Bool) : Bool :=
 bd19 v0 v1 h fun x1 h1 =>
 xExtract x1 0 fun x2 =>
 xExtract x1 1 fun x3 =>
 c49_8 h1 x2 x3 k v2 v3 v0 v1
noncomputable abbrev ex49 : Ex := fun args h k => a4 args fun v0 v1 v2 v3 => bd49 v0 v1 v2 v3 h k
theorem sim49 : SimF Tryz.prog 49 ex49 := fun args h k hk => by
 obtain ⟨v0, v1, v2, v3, rfl, hk⟩ := a4_ok hk
 exact sim_of (qf := qz) (Z := zs) (C := [(19, ex19), (24, ex24), (54, ex54)]) (T := []) ⟨zerosB_ok zsOk, (exCons (by kernel_rfl) sim19 (exCons (by kernel_rfl) sim24 (exCons (by kernel_rfl) sim54 exNil)))⟩ (.seq .nil (.seq .nil (.seq (.seq .nil (.cond .nil (.join [30] [31, 32, 33, 34, 35, 36, 37, 38, 39, 40] .nil .nil))) (.seq .nil (.seq .nil (.seq .nil (.seq (.seq .nil (.loop [14] [62, 63, 64, 65, 66, 67, 68, 69, 70, 15, 72, 73, 74, 75, 76, 71, 77, 78, 16, 17, 79, 80, 81, 8, 9, 82, 83, 85, 86, 87, 84, 88, 89, 18, 19, 90, 91, 92, 93, 94, 95, 96, 97, 98, 99, 100, 101, 102, 103, 104, 105, 106, 107, 108] .nil)) .nil))))))) Tryz.func49 _ h k (Eq.mp (by kernel_rfl : (bd49 v0 v1 v2 v3 h k = true) = _) hk)

noncomputable abbrev c69_1 (k : CV → CH → Bool) (s2 : TupC 1) (K3 : TupC 1 → CH → Bool) (v0 : CV) (h1 : CH) : Bool :=
 xJoin (n := 1) (fun s5 h2 =>
 xIte s5.1
 (k (.int .i64 (.ofNat 4)) h2)
 (xBin (some (.int .i64)) .add s2.1 (.int .i64 (.ofNat 1)) fun x7 =>
 K3 (x7, ()) h2))
 (fun K7 => xIndex (some none) v0 s2.1 fun x9 =>
 xBin (some (.int .u8)) .eql x9 (.int .u8 (.ofNat 0)) fun x10 =>
 xIte x10
 (K7 ((.bool true), ()) h1)
 (xIndex (some none) v0 s2.1 fun x11 =>
 xBin (some (.int .u8)) .eql x11 (.int .u8 (.ofNat 47)) fun x12 =>
 K7 (x12, ()) h1))
noncomputable abbrev c69_2 (v0 : CV) (k : CV → CH → Bool) (h : CH) : Bool :=
 xLen (some (.inl true)) v0 fun x2 =>
 xLoop (n := 1) (fun K3 s2 h1 =>
 xBin (some (.int .i64)) .lss s2.1 x2 fun x5 =>
 xIte x5
 (c69_1 k s2 K3 v0 h1)
 (xLen (some (.inl true)) v0 fun x13 =>
 xBin (some (.int .i64)) .gtr x13 (.int .i64 (.ofNat 14)) fun x14 =>
 xIte x14
 (k (.int .i64 (.ofNat 12)) h1)
 (k (.int .i64 (.ofNat 0)) h1))) 1000000 ((.int .i64 (.ofNat 0)), ()) h
noncomputable def bd69 (v0 : CV) (h : CH) (k : CV → CH → Bool) : Bool :=
 xBin (some .string) .eql v0 (.str ⟨#[]⟩) fun x1 =>
 xIte x1
 (k (.int .i64 (.ofNat 4)) h)
 (c69_2 v0 k h)
noncomputable abbrev ex69 : Ex := fun args h k => a1 args fun v0 => bd69 v0 h k
theorem sim69 : SimF Tryz.prog 69 ex69 := fun args h k hk => by
 obtain ⟨v0, rfl, hk⟩ := a1_ok hk
 exact sim_of (qf := qz) (Z := zs) (C := []) (T := []) ⟨zerosB_ok zsOk, exNil⟩ (.seq .nil (.seq .nil (.seq (.seq .nil (.loop [8] [9, 10, 3, 11, 12, 13, 14, 15, 16, 17, 18, 19, 20, 2, 21] (.seq .nil (.seq .nil (.seq (.seq .nil (.join [20] [11, 12, 13, 14, 15, 16, 17, 18, 19] .nil .nil)) .nil))))) .nil))) Tryz.func69 _ h k (Eq.mp (by kernel_rfl : (bd69 v0 h k = true) = _) hk)

noncomputable abbrev c115_1 (v2 : CV) (x1 : CV) (v1 : CV) (h5 : CH) (x8 : CV) (K5 : TupC 0 → CH → Bool) : Bool :=
 xConv (some (.int .u16)) (some (.int .u8)) v2 fun x9 =>
 xBin (some (.int .u16)) .shr v2 (.int .u64 (.ofNat 8)) fun x10 =>
 xConv (some (.int .u16)) (some (.int .u8)) x10 fun x11 =>
 xIdx (some (some 1024, 1)) x1 v1 fun x12 =>
 xStore (some 1) x12 x9 h5 fun h6 =>
 xIdx (some (some 1024, 1)) x1 x8 fun x13 =>
 xStore (some 1) x13 x11 h6 fun h7 =>
 K5 (()) h7
noncomputable abbrev c115_2 (h1 : CH) (x1 : CV) (k : CV → CH → Bool) (v1 : CV) (v2 : CV) : Bool :=
 xBoxP 70 [(.bytes 1024 0)] h1 fun x2 h2 =>
 xJoin (n := 0) (fun s2 h3 =>
 xLoad (some (some 1024)) x1 h3 fun x4 =>
 xStore (some 1024) x2 x4 h3 fun h4 =>
 xLoad (some (some 1024)) x2 h4 fun x5 =>
 k x5 h4)
 (fun K5 => bd150 v1 (.int .i64 (.ofNat 2)) h2 fun x7 h5 =>
 xIte x7
 (xBin (some (.int .i64)) .add v1 (.int .i64 (.ofNat 1)) fun x8 =>
 c115_1 v2 x1 v1 h5 x8 K5)
 (K5 (()) h5))
noncomputable def bd115 (v0 v1 v2 : CV) (h : CH) (k : CV → CH → Bool) : Bool :=
 xBox 70 v0 h fun x1 h1 =>
 c115_2 h1 x1 k v1 v2
noncomputable abbrev ex115 : Ex := fun args h k => a3 args fun v0 v1 v2 => bd115 v0 v1 v2 h k
theorem sim115 : SimF Tryz.prog 115 ex115 := fun args h k hk => by
 obtain ⟨v0, v1, v2, rfl, hk⟩ := a3_ok hk
 exact sim_of (qf := qz) (Z := zs) (C := [(150, ex150)]) (T := []) ⟨zerosB_ok zsOk, (exCons (by kernel_rfl) sim150 exNil)⟩ (.seq .nil (.join [] [7, 8, 9, 10, 11, 12, 13, 14, 15, 16, 17, 18] .nil .nil)) Tryz.func115 _ h k (Eq.mp (by kernel_rfl : (bd115 v0 v1 v2 h k = true) = _) hk)

noncomputable abbrev co71_1 (x8 : CV) (x2 : CV) (h2 : CH) (k : CV → CH → Bool) : Bool :=
 xIte x8
 (xBuild (some (.inr 1)) (some (.agg [(.bytes 16 0)])) [] fun x9 =>
 xStore (some 16) x2 x9 h2 fun h3 =>
 xLoad (some (some 16)) x2 h3 fun x10 =>
 k (.tup [x10, (.int .i64 (.ofNat 4))]) h3)
 (xBuild (some (.inr 1)) (some (.agg [(.bytes 16 0)])) [] fun x11 =>
 xStore (some 16) x2 x11 h2 fun h4 =>
 xLoad (some (some 16)) x2 h4 fun x12 =>
 k (.tup [x12, (.int .i64 (.ofNat 0))]) h4)
noncomputable abbrev co71_2 (h9 : CH) (x26 : CV) (x2 : CV) (k : CV → CH → Bool) : Bool :=
 xBoxP 70 [(.bytes 1024 0)] h9 fun x27 h10 =>
 xStore (some 1024) x27 x26 h10 fun h11 =>
 xSlice (some (some 1024, 1)) x27 none (some (.int .i64 (.ofNat 16))) none fun x28 =>
 xArr (some 16) x28 fun x29 =>
 xLoad (some (some 16)) x29 h11 fun x30 =>
 xStore (some 16) x2 x30 h11 fun h12 =>
 xLoad (some (some 16)) x2 h12 fun x31 =>
 k (.tup [x31, (.int .i64 (.ofNat 0))]) h12
noncomputable abbrev co71_3 (x1 : CV) (h5 : CH) (x19 : CV) (x2 : CV) (k : CV → CH → Bool) : Bool :=
 xAddr (some 0) x1 fun x20 =>
 xLoad (some none) x20 h5 fun x21 =>
 xQuiet (some ex115) [x19, (.int .i64 (.ofNat 0)), x21] h5 fun x22 h7 =>
 xAddr (some 1) x1 fun x23 =>
 xLoad (some none) x23 h7 fun x24 =>
 xBytesOf true (some (5, 1, 1, true)) x24 h7 fun x25 h8 =>
 xQuiet (some ex101) [x22, (.int .i64 (.ofNat 2)), x25] h8 fun x26 h9 =>
 co71_2 h9 x26 x2 k
noncomputable abbrev co71_4 (x14 : CV) (h2 : CH) (x2 : CV) (k : CV → CH → Bool) (x1 : CV) : Bool :=
 bd69 x14 h2 fun x15 h5 =>
 xBin (some (.int .i64)) .neq x15 (.int .i64 (.ofNat 0)) fun x16 =>
 xIte x16
 (xBuild (some (.inr 1)) (some (.agg [(.bytes 16 0)])) [] fun x17 =>
 xStore (some 16) x2 x17 h5 fun h6 =>
 xLoad (some (some 16)) x2 h6 fun x18 =>
 k (.tup [x18, x15]) h6)
 (xBuild (some (.inr 1)) (some (.agg [(.bytes 1024 0)])) [] fun x19 =>
 co71_3 x1 h5 x19 x2 k)
noncomputable abbrev co71_5 (x1 : CV) (h2 : CH) (x2 : CV) (k : CV → CH → Bool) : Bool :=
 xAddr (some 0) x1 fun x3 =>
 xLoad (some none) x3 h2 fun x4 =>
 xBin (some (.int .u16)) .eql x4 (.int .u16 (.ofNat 0)) fun x5 =>
 xIte x5
 (xAddr (some 1) x1 fun x6 =>
 xLoad (some none) x6 h2 fun x7 =>
 xBin (some .string) .neq x7 (.str ⟨#[]⟩) fun x8 =>
 co71_1 x8 x2 h2 k)
 (xAddr (some 1) x1 fun x13 =>
 xLoad (some none) x13 h2 fun x14 =>
 co71_4 x14 h2 x2 k x1)
noncomputable def bo71 (v0 : CV) (h : CH) (k : CV → CH → Bool) : Bool :=
 xBox 68 v0 h fun x1 h1 =>
 xBoxP 150 [(.bytes 16 0)] h1 fun x2 h2 =>
 co71_5 x1 h2 x2 k
noncomputable abbrev exo71 : Ex := fun args h k => a1 args fun v0 => bo71 v0 h k
theorem one71 : One exo71 := by
 intro args h k hk
 obtain ⟨v0, rfl, hk⟩ := a1_ok hk
 exact one_of (qf := qz) (Z := zs) (C := [(69, ex69), (115, ex115), (101, ex101)]) (T := [(8, .raw [0, 1, 2, 3, 4, 5, 6, 7, 8, 9])]) ⟨zerosB_ok zsOk, (exCons (by kernel_rfl) sim69 (exCons (by kernel_rfl) sim115 (exCons (by kernel_rfl) sim101 exNil)))⟩ (by kernel_rfl) .nil _ h k (Eq.mp (by kernel_rfl : (bo71 v0 h k = true) = (xFn1 Tryz.prog qz zs [(69, ex69), (115, ex115), (101, ex101)] [(8, .raw [0, 1, 2, 3, 4, 5, 6, 7, 8, 9])] Tryz.f71 .nil [v0] h k = true)) hk)
noncomputable abbrev cg71_1 (x8 : CV) (x2 : CV) (h2 : CH) (k : CV → CH → Bool) : Bool :=
 xIte x8
 (xBuild (some (.inr 1)) (some (.agg [(.bytes 16 0)])) [] fun x9 =>
 xStore (some 16) x2 x9 h2 fun h3 =>
 xLoad (some (some 16)) x2 h3 fun x10 =>
 k (.tup [x10, (.int .i64 (.ofNat 4))]) h3)
 (xBuild (some (.inr 1)) (some (.agg [(.bytes 16 0)])) [] fun x11 =>
 xStore (some 16) x2 x11 h2 fun h4 =>
 xLoad (some (some 16)) x2 h4 fun x12 =>
 k (.tup [x12, (.int .i64 (.ofNat 0))]) h4)
noncomputable abbrev cg71_2 (x26 : CV) (x24 : CV) (h9 : CH) (x23 : CV) (x2 : CV) (k : CV → CH → Bool) : Bool :=
 xQuiet (some ex101) [x26, (.int .i64 (.ofNat 2)), x24] h9 fun x27 h10 =>
 xStore (some 1024) x23 x27 h10 fun h11 =>
 xSlice (some (some 1024, 1)) x23 none (some (.int .i64 (.ofNat 16))) none fun x28 =>
 xArr (some 16) x28 fun x29 =>
 xLoad (some (some 16)) x29 h11 fun x30 =>
 xStore (some 16) x2 x30 h11 fun h12 =>
 xLoad (some (some 16)) x2 h12 fun x31 =>
 k (.tup [x31, (.int .i64 (.ofNat 0))]) h12
noncomputable abbrev cg71_3 (x34 : CV) (x33 : CV) (h14 : CH) (x23 : CV) (x2 : CV) (k : CV → CH → Bool) : Bool :=
 xQuiet (some ex101) [x34, (.int .i64 (.ofNat 2)), x33] h14 fun x35 h15 =>
 xStore (some 1024) x23 x35 h15 fun h16 =>
 xSlice (some (some 1024, 1)) x23 none (some (.int .i64 (.ofNat 16))) none fun x36 =>
 xArr (some 16) x36 fun x37 =>
 xLoad (some (some 16)) x37 h16 fun x38 =>
 xStore (some 16) x2 x38 h16 fun h17 =>
 xLoad (some (some 16)) x2 h17 fun x39 =>
 k (.tup [x39, (.int .i64 (.ofNat 0))]) h17
noncomputable abbrev cg71_4 (x40 : CV) (x41 : CV) (h19 : CH) (x23 : CV) (x2 : CV) (k : CV → CH → Bool) : Bool :=
 xQuiet (some ex101) [x40, (.int .i64 (.ofNat 2)), x41] h19 fun x42 h20 =>
 xStore (some 1024) x23 x42 h20 fun h21 =>
 xSlice (some (some 1024, 1)) x23 none (some (.int .i64 (.ofNat 16))) none fun x43 =>
 xArr (some 16) x43 fun x44 =>
 xLoad (some (some 16)) x44 h21 fun x45 =>
 xStore (some 16) x2 x45 h21 fun h22 =>
 xLoad (some (some 16)) x2 h22 fun x46 =>
 k (.tup [x46, (.int .i64 (.ofNat 0))]) h22
noncomputable abbrev cg71_5 (x19 : CV) (x32 : CV) (h7 : CH) (x22 : CV) (x23 : CV) (x2 : CV) (k : CV → CH → Bool) : Bool :=
 both
 (xQuiet (some ex115) [x19, (.int .i64 (.ofNat 0)), x32] h7 fun x40 h18 =>
 xBytesOf true (some (5, 1, 1, true)) x22 h18 fun x41 h19 =>
 cg71_4 x40 x41 h19 x23 x2 k)
 (both
 (xBytesOf true (some (5, 1, 1, true)) x22 h7 fun x33 h13 =>
 xQuiet (some ex115) [x19, (.int .i64 (.ofNat 0)), x32] h13 fun x34 h14 =>
 cg71_3 x34 x33 h14 x23 x2 k)
 (true))
noncomputable abbrev cg71_6 (h25 : CH) (x50 : CV) (x2 : CV) (k : CV → CH → Bool) : Bool :=
 xBoxP 70 [(.bytes 1024 0)] h25 fun x51 h26 =>
 xStore (some 1024) x51 x50 h26 fun h27 =>
 xSlice (some (some 1024, 1)) x51 none (some (.int .i64 (.ofNat 16))) none fun x52 =>
 xArr (some 16) x52 fun x53 =>
 xLoad (some (some 16)) x53 h27 fun x54 =>
 xStore (some 16) x2 x54 h27 fun h28 =>
 xLoad (some (some 16)) x2 h28 fun x55 =>
 k (.tup [x55, (.int .i64 (.ofNat 0))]) h28
noncomputable abbrev cg71_7 (x59 : CV) (x58 : CV) (h31 : CH) (x57 : CV) (x2 : CV) (k : CV → CH → Bool) : Bool :=
 xQuiet (some ex101) [x59, (.int .i64 (.ofNat 2)), x58] h31 fun x60 h32 =>
 xStore (some 1024) x57 x60 h32 fun h33 =>
 xSlice (some (some 1024, 1)) x57 none (some (.int .i64 (.ofNat 16))) none fun x61 =>
 xArr (some 16) x61 fun x62 =>
 xLoad (some (some 16)) x62 h33 fun x63 =>
 xStore (some 16) x2 x63 h33 fun h34 =>
 xLoad (some (some 16)) x2 h34 fun x64 =>
 k (.tup [x64, (.int .i64 (.ofNat 0))]) h34
noncomputable abbrev cg71_8 (x65 : CV) (x66 : CV) (h36 : CH) (x57 : CV) (x2 : CV) (k : CV → CH → Bool) : Bool :=
 xQuiet (some ex101) [x65, (.int .i64 (.ofNat 2)), x66] h36 fun x67 h37 =>
 xStore (some 1024) x57 x67 h37 fun h38 =>
 xSlice (some (some 1024, 1)) x57 none (some (.int .i64 (.ofNat 16))) none fun x68 =>
 xArr (some 16) x68 fun x69 =>
 xLoad (some (some 16)) x69 h38 fun x70 =>
 xStore (some 16) x2 x70 h38 fun h39 =>
 xLoad (some (some 16)) x2 h39 fun x71 =>
 k (.tup [x71, (.int .i64 (.ofNat 0))]) h39
noncomputable abbrev cg71_9 (x19 : CV) (x56 : CV) (h29 : CH) (x22 : CV) (x57 : CV) (x2 : CV) (k : CV → CH → Bool) : Bool :=
 both
 (xQuiet (some ex115) [x19, (.int .i64 (.ofNat 0)), x56] h29 fun x65 h35 =>
 xBytesOf true (some (5, 1, 1, true)) x22 h35 fun x66 h36 =>
 cg71_8 x65 x66 h36 x57 x2 k)
 (both
 (xBytesOf true (some (5, 1, 1, true)) x22 h29 fun x58 h30 =>
 xQuiet (some ex115) [x19, (.int .i64 (.ofNat 0)), x56] h30 fun x59 h31 =>
 cg71_7 x59 x58 h31 x57 x2 k)
 (true))
noncomputable abbrev cg71_10 (h42 : CH) (x74 : CV) (x2 : CV) (k : CV → CH → Bool) : Bool :=
 xBoxP 70 [(.bytes 1024 0)] h42 fun x75 h43 =>
 xStore (some 1024) x75 x74 h43 fun h44 =>
 xSlice (some (some 1024, 1)) x75 none (some (.int .i64 (.ofNat 16))) none fun x76 =>
 xArr (some 16) x76 fun x77 =>
 xLoad (some (some 16)) x77 h44 fun x78 =>
 xStore (some 16) x2 x78 h44 fun h45 =>
 xLoad (some (some 16)) x2 h45 fun x79 =>
 k (.tup [x79, (.int .i64 (.ofNat 0))]) h45
noncomputable abbrev cg71_11 (x80 : CV) (x82 : CV) (h48 : CH) (x81 : CV) (x2 : CV) (k : CV → CH → Bool) : Bool :=
 xQuiet (some ex101) [x80, (.int .i64 (.ofNat 2)), x82] h48 fun x83 h49 =>
 xStore (some 1024) x81 x83 h49 fun h50 =>
 xSlice (some (some 1024, 1)) x81 none (some (.int .i64 (.ofNat 16))) none fun x84 =>
 xArr (some 16) x84 fun x85 =>
 xLoad (some (some 16)) x85 h50 fun x86 =>
 xStore (some 16) x2 x86 h50 fun h51 =>
 xLoad (some (some 16)) x2 h51 fun x87 =>
 k (.tup [x87, (.int .i64 (.ofNat 0))]) h51
noncomputable abbrev cg71_12 (h53 : CH) (x89 : CV) (x2 : CV) (k : CV → CH → Bool) : Bool :=
 xBoxP 70 [(.bytes 1024 0)] h53 fun x90 h54 =>
 xStore (some 1024) x90 x89 h54 fun h55 =>
 xSlice (some (some 1024, 1)) x90 none (some (.int .i64 (.ofNat 16))) none fun x91 =>
 xArr (some 16) x91 fun x92 =>
 xLoad (some (some 16)) x92 h55 fun x93 =>
 xStore (some 16) x2 x93 h55 fun h56 =>
 xLoad (some (some 16)) x2 h56 fun x94 =>
 k (.tup [x94, (.int .i64 (.ofNat 0))]) h56
noncomputable abbrev cg71_13 (x19 : CV) (x56 : CV) (h5 : CH) (x22 : CV) (x2 : CV) (k : CV → CH → Bool) : Bool :=
 both
 (xQuiet (some ex115) [x19, (.int .i64 (.ofNat 0)), x56] h5 fun x80 h46 =>
 both
 (xBytesOf true (some (5, 1, 1, true)) x22 h46 fun x88 h52 =>
 xQuiet (some ex101) [x80, (.int .i64 (.ofNat 2)), x88] h52 fun x89 h53 =>
 cg71_12 h53 x89 x2 k)
 (both
 (xBoxP 70 [(.bytes 1024 0)] h46 fun x81 h47 =>
 xBytesOf true (some (5, 1, 1, true)) x22 h47 fun x82 h48 =>
 cg71_11 x80 x82 h48 x81 x2 k)
 (true)))
 (both
 (xBytesOf true (some (5, 1, 1, true)) x22 h5 fun x72 h40 =>
 xQuiet (some ex115) [x19, (.int .i64 (.ofNat 0)), x56] h40 fun x73 h41 =>
 xQuiet (some ex101) [x73, (.int .i64 (.ofNat 2)), x72] h41 fun x74 h42 =>
 cg71_10 h42 x74 x2 k)
 (both
 (xBoxP 70 [(.bytes 1024 0)] h5 fun x57 h29 =>
 cg71_9 x19 x56 h29 x22 x57 x2 k)
 (true)))
noncomputable abbrev cg71_14 (x20 : CV) (h5 : CH) (x19 : CV) (x22 : CV) (x2 : CV) (k : CV → CH → Bool) : Bool :=
 both
 (xLoad (some none) x20 h5 fun x56 =>
 cg71_13 x19 x56 h5 x22 x2 k)
 (both
 (xBytesOf true (some (5, 1, 1, true)) x22 h5 fun x47 h23 =>
 xLoad (some none) x20 h23 fun x48 =>
 xQuiet (some ex115) [x19, (.int .i64 (.ofNat 0)), x48] h23 fun x49 h24 =>
 xQuiet (some ex101) [x49, (.int .i64 (.ofNat 2)), x47] h24 fun x50 h25 =>
 cg71_6 h25 x50 x2 k)
 (both
 (xBoxP 70 [(.bytes 1024 0)] h5 fun x23 h7 =>
 both
 (xLoad (some none) x20 h7 fun x32 =>
 cg71_5 x19 x32 h7 x22 x23 x2 k)
 (both
 (xBytesOf true (some (5, 1, 1, true)) x22 h7 fun x24 h8 =>
 xLoad (some none) x20 h8 fun x25 =>
 xQuiet (some ex115) [x19, (.int .i64 (.ofNat 0)), x25] h8 fun x26 h9 =>
 cg71_2 x26 x24 h9 x23 x2 k)
 (true)))
 (true)))
noncomputable abbrev cg71_15 (x16 : CV) (x2 : CV) (h5 : CH) (k : CV → CH → Bool) (x15 : CV) (x1 : CV) : Bool :=
 xIte x16
 (xBuild (some (.inr 1)) (some (.agg [(.bytes 16 0)])) [] fun x17 =>
 xStore (some 16) x2 x17 h5 fun h6 =>
 xLoad (some (some 16)) x2 h6 fun x18 =>
 k (.tup [x18, x15]) h6)
 (xBuild (some (.inr 1)) (some (.agg [(.bytes 1024 0)])) [] fun x19 =>
 xAddr (some 0) x1 fun x20 =>
 xAddr (some 1) x1 fun x21 =>
 xLoad (some none) x21 h5 fun x22 =>
 cg71_14 x20 h5 x19 x22 x2 k)
noncomputable abbrev cg71_16 (x4 : CV) (x1 : CV) (h2 : CH) (x2 : CV) (k : CV → CH → Bool) : Bool :=
 xBin (some (.int .u16)) .eql x4 (.int .u16 (.ofNat 0)) fun x5 =>
 xIte x5
 (xAddr (some 1) x1 fun x6 =>
 xLoad (some none) x6 h2 fun x7 =>
 xBin (some .string) .neq x7 (.str ⟨#[]⟩) fun x8 =>
 cg71_1 x8 x2 h2 k)
 (xAddr (some 1) x1 fun x13 =>
 xLoad (some none) x13 h2 fun x14 =>
 bd69 x14 h2 fun x15 h5 =>
 xBin (some (.int .i64)) .neq x15 (.int .i64 (.ofNat 0)) fun x16 =>
 cg71_15 x16 x2 h5 k x15 x1)
noncomputable def bg71 (v0 : CV) (h : CH) (k : CV → CH → Bool) : Bool :=
 xBox 68 v0 h fun x1 h1 =>
 xBoxP 150 [(.bytes 16 0)] h1 fun x2 h2 =>
 xAddr (some 0) x1 fun x3 =>
 xLoad (some none) x3 h2 fun x4 =>
 cg71_16 x4 x1 h2 x2 k
noncomputable abbrev exg71 : Ex := fun args h k => a1 args fun v0 => bg71 v0 h k
theorem simg71 : SimG Tryz.prog 71 exg71 := by
 intro args h k hk
 obtain ⟨v0, rfl, hk⟩ := a1_ok hk
 exact simG_of (qf := qz) (Z := zs) (C := [(69, ex69), (115, ex115), (101, ex101)]) (T := [(8, .all (.fork [0, 1, 4, 5] (.cons 2 (.fork [] (.cons 3 (.fork [] (.cons 6 (.line [7, 8, 9]) (.cons 8 (.line [6, 7, 9]) .nil))) (.cons 6 (.line [3, 7, 8, 9]) (.cons 8 (.fork [] (.cons 3 (.line [6, 7, 9]) (.cons 6 (.line [3, 7, 9]) .nil))) .nil)))) (.cons 6 (.line [2, 3, 7, 8, 9]) (.cons 8 (.fork [] (.cons 2 (.fork [] (.cons 3 (.line [6, 7, 9]) (.cons 6 (.line [3, 7, 9]) .nil))) (.cons 6 (.line [2, 3, 7, 9]) .nil))) .nil)))))]) ⟨zerosB_ok zsOk, (exCons (by kernel_rfl) sim69 (exCons (by kernel_rfl) sim115 (exCons (by kernel_rfl) sim101 exNil)))⟩ .nil Tryz.func71 _ h k (Eq.mp (by kernel_rfl : (bg71 v0 h k = true) = (xFnG Tryz.prog qz zs [(69, ex69), (115, ex115), (101, ex101)] [(8, .all (.fork [0, 1, 4, 5] (.cons 2 (.fork [] (.cons 3 (.fork [] (.cons 6 (.line [7, 8, 9]) (.cons 8 (.line [6, 7, 9]) .nil))) (.cons 6 (.line [3, 7, 8, 9]) (.cons 8 (.fork [] (.cons 3 (.line [6, 7, 9]) (.cons 6 (.line [3, 7, 9]) .nil))) .nil)))) (.cons 6 (.line [2, 3, 7, 8, 9]) (.cons 8 (.fork [] (.cons 2 (.fork [] (.cons 3 (.line [6, 7, 9]) (.cons 6 (.line [3, 7, 9]) .nil))) (.cons 6 (.line [2, 3, 7, 9]) .nil))) .nil)))))] Tryz.f71 .nil [v0] h k = true)) hk)
noncomputable abbrev ex71 : Ex := fun args h k => xQG exo71 exg71 args h k
theorem sim71 : SimF Tryz.prog 71 ex71 := simQG one71 simg71

noncomputable abbrev c112_1 (s23 : TupC 1) (x2 : CV) (h10 : CH) (k : CV → CH → Bool) (x18 : CV) : Bool :=
 xIte s23.1
 (xBuild (some (.inl [(0, 1), (1, 1)])) (some (.agg [(.int .u16 (.ofNat 0)), (.str ⟨#[]⟩)])) [] fun x25 =>
 xStore (some 2) x2 x25 h10 fun h11 =>
 xLoad (some (some 2)) x2 h11 fun x26 =>
 k (.tup [x26, (.int .i64 (.ofNat 4))]) h11)
 (xLoad (some (some 2)) x18 h10 fun x27 =>
 xStore (some 2) x2 x27 h10 fun h12 =>
 xLoad (some (some 2)) x2 h12 fun x28 =>
 k (.tup [x28, (.int .i64 (.ofNat 0))]) h12)
noncomputable abbrev c112_2 (x23 : CV) (x21 : CV) (h8 : CH) (x2 : CV) (k : CV → CH → Bool) (x18 : CV) (x22 : CV) (x1 : CV) : Bool :=
 xStore (some 16) x23 x21 h8 fun h9 =>
 xJoin (n := 1) (fun s23 h10 =>
 c112_1 s23 x2 h10 k x18)
 (fun K28 => xBin (some (.int .i64)) .neq x22 (.int .i64 (.ofNat 0)) fun x30 =>
 xIte x30
 (K28 ((.bool true), ()) h9)
 (xLoad (some (some 16)) x23 h9 fun x31 =>
 xLoad (some (some 16)) x1 h9 fun x32 =>
 xEq (some (.agg (.bytes 16))) .neq x31 x32 h9 fun x33 =>
 K28 (x33, ()) h9))
noncomputable abbrev c112_3 (x14 : CV) (x16 : CV) (h4 : CH) (x2 : CV) (k : CV → CH → Bool) (x1 : CV) : Bool :=
 xBuild (some (.inl [(0, 1), (1, 1)])) (some (.agg [(.int .u16 (.ofNat 0)), (.str ⟨#[]⟩)])) [(0, x14), (1, x16)] fun x17 =>
 xBoxP 68 [(.int .u16 (.ofNat 0)), (.str ⟨#[]⟩)] h4 fun x18 h5 =>
 xStore (some 2) x18 x17 h5 fun h6 =>
 xLoad (some (some 2)) x18 h6 fun x19 =>
 ex71 [x19] h6 fun x20 h7 =>
 xExtract x20 0 fun x21 =>
 xExtract x20 1 fun x22 =>
 xBoxP 150 [(.bytes 16 0)] h7 fun x23 h8 =>
 c112_2 x23 x21 h8 x2 k x18 x22 x1
noncomputable abbrev c112_4 (x1 : CV) (h4 : CH) (x9 : CV) (s2 : TupC 1) (x2 : CV) (k : CV → CH → Bool) : Bool :=
 xIdx (some (some 16, 1)) x1 (.int .i64 (.ofNat 1)) fun x10 =>
 xLoad (some none) x10 h4 fun x11 =>
 xConv (some (.int .u8)) (some (.int .u16)) x11 fun x12 =>
 xBin (some (.int .u16)) .shl x12 (.int .u64 (.ofNat 8)) fun x13 =>
 xBin (some (.int .u16)) .or x9 x13 fun x14 =>
 xSlice (some (some 16, 1)) x1 (some (.int .i64 (.ofNat 2))) (some s2.1) none fun x15 =>
 xStrOf x15 h4 fun x16 =>
 c112_3 x14 x16 h4 x2 k x1
noncomputable abbrev c112_5 (s2 : TupC 1) (K3 : TupC 1 → CH → Bool) (x1 : CV) (x2 : CV) (k : CV → CH → Bool) (h3 : CH) : Bool :=
 xJoin (n := 1) (fun s4 h4 =>
 xIte s4.1
 (xBin (some (.int .i64)) .add s2.1 (.int .i64 (.ofNat 1)) fun x6 =>
 K3 (x6, ()) h4)
 (xIdx (some (some 16, 1)) x1 (.int .i64 (.ofNat 0)) fun x7 =>
 xLoad (some none) x7 h4 fun x8 =>
 xConv (some (.int .u8)) (some (.int .u16)) x8 fun x9 =>
 c112_4 x1 h4 x9 s2 x2 k))
 (fun K33 => xBin (some (.int .i64)) .lss s2.1 (.int .i64 (.ofNat 16)) fun x35 =>
 xIte x35
 (xIdx (some (some 16, 1)) x1 s2.1 fun x36 =>
 xLoad (some none) x36 h3 fun x37 =>
 xBin (some (.int .u8)) .neq x37 (.int .u8 (.ofNat 0)) fun x38 =>
 K33 (x38, ()) h3)
 (K33 ((.bool false), ()) h3))
noncomputable def bd112 (v0 : CV) (h : CH) (k : CV → CH → Bool) : Bool :=
 xBox 150 v0 h fun x1 h1 =>
 xBoxP 68 [(.int .u16 (.ofNat 0)), (.str ⟨#[]⟩)] h1 fun x2 h2 =>
 xLoop (n := 1) (fun K3 s2 h3 =>
 c112_5 s2 K3 x1 x2 k h3) 1000000 ((.int .i64 (.ofNat 2)), ()) h2
noncomputable abbrev ex112 : Ex := fun args h k => a1 args fun v0 => bd112 v0 h k
theorem sim112 : SimF Tryz.prog 112 ex112 := fun args h k hk => by
 obtain ⟨v0, rfl, hk⟩ := a1_ok hk
 exact sim_of (qf := qz) (Z := zs) (C := [(71, ex71)]) (T := []) ⟨zerosB_ok zsOk, (exCons (by kernel_rfl) sim71 exNil)⟩ (.seq .nil (.seq .nil (.seq (.loop [4] [8, 9, 10, 11, 12, 13, 14, 15, 16, 17] (.seq (.join [15] [8, 9, 10, 11, 12, 13, 14] .nil .nil) .nil)) (.seq .nil (.seq (.seq .nil (.join [41] [35, 36, 37, 38, 39, 40] .nil .nil)) .nil))))) Tryz.func112 _ h k (Eq.mp (by kernel_rfl : (bd112 v0 h k = true) = _) hk)

noncomputable def rd290 : Ex := xRdN Tryz.prog qz zs [] [(11, .tree [0, 1, 2, 3, 4, 5, 6] (.fork [0] (.cons 1 (.fork [] (.cons 2 (.fork [] (.cons 3 (.line [4, 5, 6]) (.cons 4 (.line [3, 5, 6]) .nil))) (.cons 4 (.line [2, 3, 5, 6]) .nil))) (.cons 4 (.line [1, 2, 3, 5, 6]) .nil))))] 290 .nil .nil
theorem simrd290 : SimRd Tryz.prog 290 rd290 := simRdN ⟨zerosB_ok zsOk, exNil⟩ (fun _ _ _ _ h => h)
noncomputable def rd300 : Ex := xRdN Tryz.prog qz zs [] [] 300 .nil .nil
theorem simrd300 : SimRd Tryz.prog 300 rd300 := simRdN ⟨zerosB_ok zsOk, exNil⟩ (fun _ _ _ _ h => h)
noncomputable def rd280 : Ex := xRdN Tryz.prog qz zs [] [] 280 .nil .nil
theorem simrd280 : SimRd Tryz.prog 280 rd280 := simRdN ⟨zerosB_ok zsOk, exNil⟩ (fun _ _ _ _ h => h)
noncomputable def rd360 : Ex := xRdN Tryz.prog qz zs [] [] 360 .nil .nil
theorem simrd360 : SimRd Tryz.prog 360 rd360 := simRdN ⟨zerosB_ok zsOk, exNil⟩ (fun _ _ _ _ h => h)
noncomputable abbrev c111_1 (x28 : CV) (v4 : CV) (h7 : CH) (x26 : CV) (k : CV → CH → Bool) (s0 : TupC 1) (s14 : TupC 1) (x27 : CV) (v0 : CV) (K15 : TupC 1 → CH → Bool) : Bool :=
 xIte x28
 (xLoad (some none) v4 h7 fun x29 =>
 xNilCheck x29 fun x30 =>
 xStore (some 1) x30 x26 h7 fun h8 =>
 k (.tup []) h8)
 (xBin (some (.int .i64)) .add s0.1 s14.1 fun x31 =>
 xBin (some (.int .i64)) .quo x31 (.int .i64 (.ofNat 16)) fun x32 =>
 xLoad (some (some 2)) x27 h7 fun x33 =>
 xCallV [(49, ex49), (112, ex112), (1000290, rd290), (1000300, rd300), (1000280, rd280), (1000360, rd360)] v0 [x32, x33] h7 fun x34 h9 =>
 xUn .not x34 fun x35 =>
 xIte x35
 (k (.tup []) h9)
 (xBin (some (.int .i64)) .add s14.1 (.int .i64 (.ofNat 16)) fun x36 =>
 K15 (x36, ()) h9))
noncomputable abbrev c111_2 (x21 : CV) (h4 : CH) (v4 : CV) (k : CV → CH → Bool) (s0 : TupC 1) (s14 : TupC 1) (v0 : CV) (K15 : TupC 1 → CH → Bool) : Bool :=
 xArr (some 16) x21 fun x22 =>
 xLoad (some (some 16)) x22 h4 fun x23 =>
 bd112 x23 h4 fun x24 h5 =>
 xExtract x24 0 fun x25 =>
 xExtract x24 1 fun x26 =>
 xBoxP 68 [(.int .u16 (.ofNat 0)), (.str ⟨#[]⟩)] h5 fun x27 h6 =>
 xStore (some 2) x27 x25 h6 fun h7 =>
 xBin (some (.int .i64)) .neq x26 (.int .i64 (.ofNat 0)) fun x28 =>
 c111_1 x28 v4 h7 x26 k s0 s14 x27 v0 K15
noncomputable abbrev c111_3 (x10 : CV) (x17 : CV) (s14 : TupC 1) (h4 : CH) (v4 : CV) (k : CV → CH → Bool) (s0 : TupC 1) (v0 : CV) (K15 : TupC 1 → CH → Bool) (K1 : TupC 1 → CH → Bool) : Bool :=
 xLen (some (.inl false)) x10 fun x18 =>
 xBin (some (.int .i64)) .leq x17 x18 fun x19 =>
 xIte x19
 (xBin (some (.int .i64)) .add s14.1 (.int .i64 (.ofNat 16)) fun x20 =>
 xSlice (some (none, 1)) x10 (some s14.1) (some x20) none fun x21 =>
 c111_2 x21 h4 v4 k s0 s14 v0 K15)
 (xBin (some (.int .i64)) .add s0.1 (.int .i64 (.ofNat 4096)) fun x37 =>
 K1 (x37, ()) h4)
noncomputable abbrev c111_4 (x11 : CV) (v4 : CV) (h2 : CH) (k : CV → CH → Bool) (x10 : CV) (s0 : TupC 1) (v0 : CV) (K1 : TupC 1 → CH → Bool) : Bool :=
 xBin (some (.int .i64)) .neq x11 (.int .i64 (.ofNat 0)) fun x12 =>
 xIte x12
 (xLoad (some none) v4 h2 fun x13 =>
 xNilCheck x13 fun x14 =>
 xStore (some 1) x14 x11 h2 fun h3 =>
 k (.tup []) h3)
 (xLoop (n := 1) (fun K15 s14 h4 =>
 xBin (some (.int .i64)) .add s14.1 (.int .i64 (.ofNat 16)) fun x17 =>
 c111_3 x10 x17 s14 h4 v4 k s0 v0 K15 K1) 1000000 ((.int .i64 (.ofNat 0)), ()) h2)
noncomputable abbrev c111_5 (x3 : CV) (h1 : CH) (s0 : TupC 1) (v2 : CV) (v3 : CV) (v4 : CV) (k : CV → CH → Bool) (v0 : CV) (K1 : TupC 1 → CH → Bool) : Bool :=
 xLoad (some none) x3 h1 fun x4 =>
 xConv (some (.int .u32)) (some (.int .i64)) x4 fun x5 =>
 xBin (some (.int .i64)) .lss s0.1 x5 fun x6 =>
 xIte x6
 (xLoad (some none) v2 h1 fun x7 =>
 xLoad (some none) v3 h1 fun x8 =>
 bd49 x7 x8 s0.1 (.int .i64 (.ofNat 4096)) h1 fun x9 h2 =>
 xExtract x9 0 fun x10 =>
 xExtract x9 1 fun x11 =>
 c111_4 x11 v4 h2 k x10 s0 v0 K1)
 (k (.tup []) h1)
noncomputable def bd111 (v0 v1 v2 v3 v4 : CV) (h : CH) (k : CV → CH → Bool) : Bool :=
 xLoop (n := 1) (fun K1 s0 h1 =>
 xAddr (some 2) v1 fun x3 =>
 c111_5 x3 h1 s0 v2 v3 v4 k v0 K1) 1000000 ((.int .i64 (.ofNat 0)), ()) h
noncomputable abbrev ex111 : Ex := fun args h k => a5 args fun v0 v1 v2 v3 v4 => bd111 v0 v1 v2 v3 v4 h k
theorem sim111 : SimF Tryz.prog 111 ex111 := fun args h k hk => by
 obtain ⟨v0, v1, v2, v3, v4, rfl, hk⟩ := a5_ok hk
 exact sim_of (qf := qz) (Z := zs) (C := [(49, ex49), (112, ex112), (1000290, rd290), (1000300, rd300), (1000280, rd280), (1000360, rd360)]) (T := []) ⟨zerosB_ok zsOk, (exCons (by kernel_rfl) sim49 (exCons (by kernel_rfl) sim112 (exRd simrd290 (exRd simrd300 (exRd simrd280 (exRd simrd360 exNil))))))⟩ (.seq .nil (.loop [6] [12, 13, 14, 15, 16, 20, 21, 22, 23, 19, 24, 25, 7, 8, 26, 27, 28, 29, 30, 9, 31, 32, 33, 34, 35, 39, 40, 41, 42, 43, 44, 45, 46, 38, 47, 48, 10, 11, 49, 50, 51, 52, 53, 54, 55, 56, 57, 58, 59, 60, 61, 36, 37, 17, 18] (.seq .nil (.seq (.seq .nil (.seq .nil (.seq .nil (.loop [9] [31, 32, 33, 34, 35, 39, 40, 41, 42, 43, 44, 45, 46, 38, 47, 48, 10, 11, 49, 50, 51, 52, 53, 54, 55, 56, 57, 58, 59, 60, 61, 36, 37] .nil)))) .nil)))) Tryz.func111 _ h k (Eq.mp (by kernel_rfl : (bd111 v0 v1 v2 v3 v4 h k = true) = _) hk)

noncomputable abbrev c30_1 (v0 : CV) (v1 : CV) (x4 : CV) (x5 : CV) (x9 : CV) (x1 : CV) (x2 : CV) (x3 : CV) (x6 : CV) (x7 : CV) (x10 : CV) (x11 : CV) (h7 : CH) (k : CV → CH → Bool) : Bool :=
 xRange [(66, ex66), (67, ex67), (111, ex111)] 300 [v0, v1, (.tup []), (.tup []), .nils, (.int .i64 (.ofNat 0)), x4, x5, x9, (.tup []), (.tup []), x1, v0, v1, x1, x2, x3, x6, x7, (.tup []), v0, v1, x10, x11, (.tup []), (.tup []), (.tup []), (.tup []), (.tup []), (.tup []), (.tup []), (.tup []), (.tup []), (.tup [])] x11 h7 fun j11 h8 =>
 xJmp j11
 (xLoad (some none) x5 h8 fun x14 =>
 xBin (some (.int .i64)) .neq x14 (.int .i64 (.ofNat 0)) fun x15 =>
 xIte x15
 (xLoad (some none) x5 h8 fun x16 =>
 k (.tup [.nils, x16]) h8)
 (xLoad (some none) x9 h8 fun x17 =>
 k (.tup [x17, (.int .i64 (.ofNat 0))]) h8))
 (k (.tup [.nils, (.int .i64 (.ofNat 0))]) h8)
 (fun i12 => isXX i12 0
 (xLoad (some none) x5 h8 fun x18 =>
 xBin (some (.int .i64)) .neq x18 (.int .i64 (.ofNat 0)) fun x19 =>
 xIte x19
 (xLoad (some none) x5 h8 fun x20 =>
 k (.tup [.nils, x20]) h8)
 (xLoad (some none) x9 h8 fun x21 =>
 k (.tup [x21, (.int .i64 (.ofNat 0))]) h8))
 (false))
noncomputable abbrev c30_2 (x5 : CV) (x3 : CV) (h4 : CH) (k : CV → CH → Bool) (x4 : CV) (v0 : CV) (v1 : CV) (x1 : CV) (x2 : CV) : Bool :=
 xStore (some 1) x5 x3 h4 fun h5 =>
 xLoad (some none) x5 h5 fun x6 =>
 xBin (some (.int .i64)) .neq x6 (.int .i64 (.ofNat 0)) fun x7 =>
 xIte x7
 (xLoad (some none) x5 h5 fun x8 =>
 k (.tup [.nils, x8]) h5)
 (xBoxP 64 [.nils] h5 fun x9 h6 =>
 xLoad (some (some 16)) x4 h6 fun x10 =>
 bd67 v0 v1 x10 x5 h6 fun x11 h7 =>
 c30_1 v0 v1 x4 x5 x9 x1 x2 x3 x6 x7 x10 x11 h7 k)
noncomputable abbrev c30_3 (h1 : CH) (x2 : CV) (x3 : CV) (k : CV → CH → Bool) (v0 : CV) (v1 : CV) (x1 : CV) : Bool :=
 xBoxP 78 [(.int .u16 (.ofNat 0)), (.int .u16 (.ofNat 0)), (.int .u32 (.ofNat 0)), (.int .u32 (.ofNat 0)), (.int .u32 (.ofNat 0)), (.int .u32 (.ofNat 0)), (.int .u32 (.ofNat 0)), (.int .u32 (.ofNat 0)), (.int .u32 (.ofNat 0)), (.int .u32 (.ofNat 0)), (.int .u32 (.ofNat 0)), (.int .u32 (.ofNat 0)), (.int .u32 (.ofNat 0)), (.int .u32 (.ofNat 0)), (.int .u32 (.ofNat 0)), (.int .u32 (.ofNat 0))] h1 fun x4 h2 =>
 xBoxP 35 [(.int .i64 (.ofNat 0))] h2 fun x5 h3 =>
 xStore (some 16) x4 x2 h3 fun h4 =>
 c30_2 x5 x3 h4 k x4 v0 v1 x1 x2
noncomputable def bd30 (v0 v1 : CV) (h : CH) (k : CV → CH → Bool) : Bool :=
 bd66 v0 v1 h fun x1 h1 =>
 xExtract x1 0 fun x2 =>
 xExtract x1 1 fun x3 =>
 c30_3 h1 x2 x3 k v0 v1 x1
noncomputable abbrev ex30 : Ex := fun args h k => a2 args fun v0 v1 => bd30 v0 v1 h k
theorem sim30 : SimF Tryz.prog 30 ex30 := fun args h k hk => by
 obtain ⟨v0, v1, rfl, hk⟩ := a2_ok hk
 exact simN_of (qf := qz) (Z := zs) (C := [(66, ex66), (67, ex67), (111, ex111)]) (T := []) ⟨zerosB_ok zsOk, (exCons (by kernel_rfl) sim66 (exCons (by kernel_rfl) sim67 (exCons (by kernel_rfl) sim111 exNil)))⟩ (fun _ _ _ _ h => h) (.seq .nil (.seq .nil (.seq .nil (.seq .nil (.seq (.seq .nil (.loop [300] [] .nil)) .nil))))) Tryz.func30 _ h k (Eq.mp (by kernel_rfl : (bd30 v0 v1 h k = true) = (xFnN Tryz.prog qz zs [(66, ex66), (67, ex67), (111, ex111)] [] 30 Tryz.f30 (.seq .nil (.seq .nil (.seq .nil (.seq .nil (.seq (.seq .nil (.loop [300] [] .nil)) .nil))))) [v0, v1] h k = true)) hk)

noncomputable abbrev c113_1 (x1 : CV) (v1 : CV) (v0 : CV) (k : CV → CH → Bool) (h : CH) : Bool :=
 xIte x1
 (xBin (some (.int .i64)) .geq v1 (.int .i64 (.ofNat 0)) fun x2 =>
 xIte x2
 (xBin (some (.int .i64)) .leq v0 (.int .i64 (.ofNat 65802)) fun x3 =>
 xIte x3
 (xBin (some (.int .i64)) .sub (.int .i64 (.ofNat 65802)) v0 fun x4 =>
 xBin (some (.int .i64)) .leq v1 x4 fun x5 =>
 k x5 h)
 (k (.bool false) h))
 (k (.bool false) h))
 (k (.bool false) h)
noncomputable def bd113 (v0 v1 : CV) (h : CH) (k : CV → CH → Bool) : Bool :=
 xBin (some (.int .i64)) .geq v0 (.int .i64 (.ofNat 0)) fun x1 =>
 c113_1 x1 v1 v0 k h
noncomputable abbrev ex113 : Ex := fun args h k => a2 args fun v0 v1 => bd113 v0 v1 h k
theorem sim113 : SimF Tryz.prog 113 ex113 := fun args h k hk => by
 obtain ⟨v0, v1, rfl, hk⟩ := a2_ok hk
 exact sim_of (qf := qz) (Z := zs) (C := []) (T := []) ⟨zerosB_ok zsOk, exNil⟩ .nil Tryz.func113 _ h k (Eq.mp (by kernel_rfl : (bd113 v0 v1 h k = true) = _) hk)

noncomputable abbrev c114_1 (x15 : CV) (x1 : CV) (h8 : CH) (s1 : TupC 2) (K2 : TupC 2 → CH → Bool) (s12 : TupC 1) : Bool :=
 xIte x15
 (xBuild (some (.inl [(0, 1), (1, 1), (2, 1)])) (some (.agg [(.bytes 1 0), (.int .i64 (.ofNat 0)), (.int .i64 (.ofNat 0))])) [] fun x16 =>
 xMapSetW Tryz.prog 252 x1 x16 (.int .i64 (.ofNat 1)) h8 fun h9 =>
 xBin (some (.int .i64)) .add s1.2.1 (.int .i64 (.ofNat 1)) fun x17 =>
 K2 (s12.1, x17, ()) h9)
 (xBin (some (.int .i64)) .add s1.2.1 (.int .i64 (.ofNat 1)) fun x18 =>
 K2 (s12.1, x18, ()) h8)
noncomputable abbrev c114_2 (x26 : CV) (x24 : CV) (x22 : CV) (x1 : CV) (h7 : CH) (K18 : TupC 0 → CH → Bool) : Bool :=
 xBin (some (.int .u8)) .quo x26 (.int .u8 (.ofNat 3)) fun x27 =>
 xConv (some (.int .u8)) (some (.int .i64)) x27 fun x28 =>
 xBin (some (.int .i64)) .mul x24 x28 fun x29 =>
 xBuild (some (.inl [(0, 1), (1, 1), (2, 1)])) (some (.agg [(.bytes 1 0), (.int .i64 (.ofNat 0)), (.int .i64 (.ofNat 0))])) [(0, x22), (1, x29)] fun x30 =>
 xMapSetW Tryz.prog 252 x1 x30 (.int .i64 (.ofNat 1)) h7 fun h10 =>
 K18 (()) h10
noncomputable abbrev c114_3 (x8 : CV) (x1 : CV) (s1 : TupC 2) (K2 : TupC 2 → CH → Bool) (s12 : TupC 1) (x12 : CV) (h7 : CH) : Bool :=
 xJoin (n := 0) (fun s13 h8 =>
 xBin (some (.int .i64)) .gtr x8 (.int .i64 (.ofNat 2)) fun x15 =>
 c114_1 x15 x1 h8 s1 K2 s12)
 (fun K18 => xBin (some (.int .i64)) .gtr x8 (.int .i64 (.ofNat 1)) fun x20 =>
 xIte x20
 (xAddr (some 0) x12 fun x21 =>
 xLoad (some none) x21 h7 fun x22 =>
 xAddr (some 1) x12 fun x23 =>
 xLoad (some none) x23 h7 fun x24 =>
 xAddr (some 0) x12 fun x25 =>
 xLoad (some none) x25 h7 fun x26 =>
 c114_2 x26 x24 x22 x1 h7 K18)
 (K18 (()) h7))
noncomputable abbrev c114_4 (h4 : CH) (x11 : CV) (x8 : CV) (x1 : CV) (s1 : TupC 2) (K2 : TupC 2 → CH → Bool) : Bool :=
 xBoxP 252 [(.bytes 1 0), (.int .i64 (.ofNat 0)), (.int .i64 (.ofNat 0))] h4 fun x12 h5 =>
 xStore (some 3) x12 x11 h5 fun h6 =>
 xJoin (n := 1) (fun s12 h7 =>
 c114_3 x8 x1 s1 K2 s12 x12 h7)
 (fun K30 => xBin (some (.int .i64)) .gtr x8 (.int .i64 (.ofNat 0)) fun x32 =>
 xIte x32
 (xBin (some (.int .i64)) .add s1.1 (.int .i64 (.ofNat 1)) fun x33 =>
 K30 (x33, ()) h6)
 (K30 (s1.1, ()) h6))
noncomputable abbrev c114_5 (x5 : CV) (v0 : CV) (s1 : TupC 2) (h2 : CH) (k : CV → CH → Bool) (x1 : CV) (K2 : TupC 2 → CH → Bool) : Bool :=
 xIte x5
 (bd64 v0 s1.2.1 h2 fun x6 h3 =>
 xExtract x6 0 fun x7 =>
 xExtract x6 1 fun x8 =>
 xExtract x6 2 fun x9 =>
 xBin (some (.int .i64)) .neq x9 (.int .i64 (.ofNat 0)) fun x10 =>
 xIte x10
 (k (.tup [(.int .i64 (.ofNat 0)), x9]) h3)
 (bd151 s1.2.1 h3 fun x11 h4 =>
 c114_4 h4 x11 x8 x1 s1 K2))
 (xMapLen x1 h2 fun x34 =>
 xBin (some (.int .i64)) .add s1.1 x34 fun x35 =>
 k (.tup [x35, (.int .i64 (.ofNat 0))]) h2)
noncomputable def bd114 (v0 v1 v2 : CV) (h : CH) (k : CV → CH → Bool) : Bool :=
 xNewMap h fun x1 h1 =>
 xLoop (n := 2) (fun K2 s1 h2 =>
 xBin (some (.int .i64)) .add v1 v2 fun x4 =>
 xBin (some (.int .i64)) .lss s1.2.1 x4 fun x5 =>
 c114_5 x5 v0 s1 h2 k x1 K2) 1000000 ((.int .i64 (.ofNat 0)), v1, ()) h1
noncomputable abbrev ex114 : Ex := fun args h k => a3 args fun v0 v1 v2 => bd114 v0 v1 v2 h k
theorem sim114 : SimF Tryz.prog 114 ex114 := fun args h k hk => by
 obtain ⟨v0, v1, v2, rfl, hk⟩ := a3_ok hk
 exact sim_of (qf := qz) (Z := zs) (C := [(64, ex64), (151, ex151)]) (T := []) ⟨zerosB_ok zsOk, (exCons (by kernel_rfl) sim64 (exCons (by kernel_rfl) sim151 exNil))⟩ (.seq .nil (.seq .nil (.seq .nil (.seq (.seq .nil (.loop [8, 10] [17, 18, 19, 20, 21, 25, 26, 27, 24, 28, 29, 30, 11, 12, 13, 31, 32, 33, 6, 7, 34, 35, 14, 36, 37, 38, 39, 40, 41, 42, 43, 44, 45, 46, 47, 48, 49, 50, 51, 52, 53, 54, 55, 56, 22, 23] (.seq .nil (.seq (.seq .nil (.seq .nil (.seq .nil (.join [8] [36, 37, 38, 39] .nil (.join [] [40, 41, 42, 43, 44, 45, 46, 47, 48, 49, 50, 51, 52] .nil .nil))))) .nil)))) .nil)))) Tryz.func114 _ h k (Eq.mp (by kernel_rfl : (bd114 v0 v1 v2 h k = true) = _) hk)

noncomputable abbrev c68_1 (x3 : CV) (k : CV → CH → Bool) (h1 : CH) (v2 : CV) (v3 : CV) (x2 : CV) : Bool :=
 xBin (some (.int .i64)) .neq x3 (.int .i64 (.ofNat 0)) fun x4 =>
 xIte x4
 (k (.tup [(.int .i64 (.ofNat 0)), x3]) h1)
 (bd113 v2 v3 h1 fun x5 h2 =>
 xUn .not x5 fun x6 =>
 xIte x6
 (k (.tup [(.int .i64 (.ofNat 0)), (.int .i64 (.ofNat 2))]) h2)
 (bd114 x2 v2 v3 h2 fun x7 h3 =>
 xExtract x7 0 fun x8 =>
 xExtract x7 1 fun x9 =>
 k (.tup [x8, x9]) h3))
noncomputable def bd68 (v0 v1 v2 v3 : CV) (h : CH) (k : CV → CH → Bool) : Bool :=
 bd63 v0 v1 (.bool false) h fun x1 h1 =>
 xExtract x1 0 fun x2 =>
 xExtract x1 1 fun x3 =>
 c68_1 x3 k h1 v2 v3 x2
noncomputable abbrev ex68 : Ex := fun args h k => a4 args fun v0 v1 v2 v3 => bd68 v0 v1 v2 v3 h k
theorem sim68 : SimF Tryz.prog 68 ex68 := fun args h k hk => by
 obtain ⟨v0, v1, v2, v3, rfl, hk⟩ := a4_ok hk
 exact sim_of (qf := qz) (Z := zs) (C := [(63, ex63), (113, ex113), (114, ex114)]) (T := []) ⟨zerosB_ok zsOk, (exCons (by kernel_rfl) sim63 (exCons (by kernel_rfl) sim113 (exCons (by kernel_rfl) sim114 exNil)))⟩ .nil Tryz.func68 _ h k (Eq.mp (by kernel_rfl : (bd68 v0 v1 v2 v3 h k = true) = _) hk)

noncomputable abbrev c28_1 (v0 : CV) (v1 : CV) (x1 : CV) (x2 : CV) (x3 : CV) (x7 : CV) (x8 : CV) (x4 : CV) (x5 : CV) (x6 : CV) (x9 : CV) (x10 : CV) (x11 : CV) (x12 : CV) (h11 : CH) (h14 : CH) : Bool :=
 (eqCs [v0, v1, (.tup []), (.tup []), x1, x2, x3, x7, x8, (.tup []), (.tup []), (.tup []), x4, v0, v1, x4, x5, x6, x9, x10, x11, (.tup []), (.tup []), (.tup []), (.tup []), (.tup []), (.tup []), (.tup []), (.tup []), (.tup []), (.tup []), (.tup []), (.tup []), (.tup []), (.tup []), (.tup []), (.tup []), (.tup []), (.tup []), (.tup []), (.tup []), (.tup []), (.tup []), (.tup []), (.tup []), (.tup []), (.tup []), (.tup []), (.tup []), (.tup []), (.tup []), (.tup []), (.tup []), (.tup []), (.tup [])] [v0, v1, (.tup []), (.tup []), x1, x2, x3, x7, x8, (.tup []), (.tup []), (.tup []), x4, v0, v1, x4, x5, x6, x9, x10, x12, (.tup []), (.tup []), (.tup []), (.tup []), (.tup []), (.tup []), (.tup []), (.tup []), (.tup []), (.tup []), (.tup []), (.tup []), (.tup []), (.tup []), (.tup []), (.tup []), (.tup []), (.tup []), (.tup []), (.tup []), (.tup []), (.tup []), (.tup []), (.tup []), (.tup []), (.tup []), (.tup []), (.tup []), (.tup []), (.tup []), (.tup []), (.tup []), (.tup []), (.tup [])] && eqH h11 h14)
noncomputable abbrev c28_2 (v0 : CV) (v1 : CV) (x1 : CV) (x2 : CV) (x3 : CV) (x7 : CV) (x8 : CV) (x4 : CV) (x5 : CV) (x6 : CV) (x9 : CV) (x10 : CV) (x11 : CV) (x13 : CV) (h11 : CH) (h16 : CH) : Bool :=
 (eqCs [v0, v1, (.tup []), (.tup []), x1, x2, x3, x7, x8, (.tup []), (.tup []), (.tup []), x4, v0, v1, x4, x5, x6, x9, x10, x11, (.tup []), (.tup []), (.tup []), (.tup []), (.tup []), (.tup []), (.tup []), (.tup []), (.tup []), (.tup []), (.tup []), (.tup []), (.tup []), (.tup []), (.tup []), (.tup []), (.tup []), (.tup []), (.tup []), (.tup []), (.tup []), (.tup []), (.tup []), (.tup []), (.tup []), (.tup []), (.tup []), (.tup []), (.tup []), (.tup []), (.tup []), (.tup []), (.tup []), (.tup [])] [v0, v1, (.tup []), (.tup []), x1, x2, x3, x7, x8, (.tup []), (.tup []), (.tup []), x4, v0, v1, x4, x5, x6, x9, x10, x13, (.tup []), (.tup []), (.tup []), (.tup []), (.tup []), (.tup []), (.tup []), (.tup []), (.tup []), (.tup []), (.tup []), (.tup []), (.tup []), (.tup []), (.tup []), (.tup []), (.tup []), (.tup []), (.tup []), (.tup []), (.tup []), (.tup []), (.tup []), (.tup []), (.tup []), (.tup []), (.tup []), (.tup []), (.tup []), (.tup []), (.tup []), (.tup []), (.tup []), (.tup [])] && eqH h11 h16)
noncomputable abbrev c28_3 (x8 : CV) (h12 : CH) (x2 : CV) (x3 : CV) (v0 : CV) (v1 : CV) (x1 : CV) (x7 : CV) (x4 : CV) (x5 : CV) (x6 : CV) (x9 : CV) (x10 : CV) (x11 : CV) (h11 : CH) : Bool :=
 both
 (xLoad (some none) x8 h12 fun x13 =>
 xStore (some 1) x2 (.int .i64 (.ofNat 0)) h12 fun h15 =>
 xStore (some 1) x3 x13 h15 fun h16 =>
 c28_2 v0 v1 x1 x2 x3 x7 x8 x4 x5 x6 x9 x10 x11 x13 h11 h16)
 (both
 (xStore (some 1) x2 (.int .i64 (.ofNat 0)) h12 fun h13 =>
 xLoad (some none) x8 h13 fun x12 =>
 xStore (some 1) x3 x12 h13 fun h14 =>
 c28_1 v0 v1 x1 x2 x3 x7 x8 x4 x5 x6 x9 x10 x11 x12 h11 h14)
 (true))
noncomputable abbrev c28_4 (v0 : CV) (v1 : CV) (x1 : CV) (x2 : CV) (x3 : CV) (x7 : CV) (x8 : CV) (x4 : CV) (x5 : CV) (x6 : CV) (x9 : CV) (x10 : CV) (x11 : CV) (x14 : CV) (h11 : CH) (h19 : CH) : Bool :=
 (eqCs [v0, v1, (.tup []), (.tup []), x1, x2, x3, x7, x8, (.tup []), (.tup []), (.tup []), x4, v0, v1, x4, x5, x6, x9, x10, x11, (.tup []), (.tup []), (.tup []), (.tup []), (.tup []), (.tup []), (.tup []), (.tup []), (.tup []), (.tup []), (.tup []), (.tup []), (.tup []), (.tup []), (.tup []), (.tup []), (.tup []), (.tup []), (.tup []), (.tup []), (.tup []), (.tup []), (.tup []), (.tup []), (.tup []), (.tup []), (.tup []), (.tup []), (.tup []), (.tup []), (.tup []), (.tup []), (.tup []), (.tup [])] [v0, v1, (.tup []), (.tup []), x1, x2, x3, x7, x8, (.tup []), (.tup []), (.tup []), x4, v0, v1, x4, x5, x6, x9, x10, x14, (.tup []), (.tup []), (.tup []), (.tup []), (.tup []), (.tup []), (.tup []), (.tup []), (.tup []), (.tup []), (.tup []), (.tup []), (.tup []), (.tup []), (.tup []), (.tup []), (.tup []), (.tup []), (.tup []), (.tup []), (.tup []), (.tup []), (.tup []), (.tup []), (.tup []), (.tup []), (.tup []), (.tup []), (.tup []), (.tup []), (.tup []), (.tup []), (.tup []), (.tup [])] && eqH h11 h19)
noncomputable abbrev c28_5 (x8 : CV) (h8 : CH) (x1 : CV) (x2 : CV) (x3 : CV) (v0 : CV) (v1 : CV) (x7 : CV) (x4 : CV) (x5 : CV) (x6 : CV) (x9 : CV) (x10 : CV) (x11 : CV) (h11 : CH) (k : CV → CH → Bool) : Bool :=
 both
 (both
 (xLoad (some none) x8 h8 fun x14 =>
 xStore (some 1) x1 (.int .i64 (.ofNat 0)) h8 fun h17 =>
 xStore (some 1) x2 (.int .i64 (.ofNat 0)) h17 fun h18 =>
 xStore (some 1) x3 x14 h18 fun h19 =>
 c28_4 v0 v1 x1 x2 x3 x7 x8 x4 x5 x6 x9 x10 x11 x14 h11 h19)
 (both
 (xStore (some 1) x1 (.int .i64 (.ofNat 0)) h8 fun h12 =>
 c28_3 x8 h12 x2 x3 v0 v1 x1 x7 x4 x5 x6 x9 x10 x11 h11)
 (true)))
 (xLoad (some none) x1 h11 fun x15 =>
 xLoad (some none) x2 h11 fun x16 =>
 xLoad (some none) x3 h11 fun x17 =>
 k (.tup [x15, x16, x17]) h11)
noncomputable abbrev c28_6 (v0 : CV) (v1 : CV) (x1 : CV) (x2 : CV) (x3 : CV) (x7 : CV) (x8 : CV) (x4 : CV) (x5 : CV) (x6 : CV) (x9 : CV) (x10 : CV) (x18 : CV) (x19 : CV) (x22 : CV) (x23 : CV) (x24 : CV) (x25 : CV) (h24 : CH) (h27 : CH) : Bool :=
 (eqCs [v0, v1, (.tup []), (.tup []), x1, x2, x3, x7, x8, (.tup []), (.tup []), (.tup []), x4, v0, v1, x4, x5, x6, x9, x10, (.tup []), v0, v1, x18, x19, (.tup []), (.tup []), (.tup []), (.tup []), (.tup []), (.tup []), x22, x23, x24, (.tup []), (.tup []), (.tup []), (.tup []), (.tup []), (.tup []), (.tup []), (.tup []), (.tup []), (.tup []), (.tup []), (.tup []), (.tup []), (.tup []), (.tup []), (.tup []), (.tup []), (.tup []), (.tup []), (.tup []), (.tup [])] [v0, v1, (.tup []), (.tup []), x1, x2, x3, x7, x8, (.tup []), (.tup []), (.tup []), x4, v0, v1, x4, x5, x6, x9, x10, (.tup []), v0, v1, x18, x19, (.tup []), (.tup []), (.tup []), (.tup []), (.tup []), (.tup []), x22, x23, x25, (.tup []), (.tup []), (.tup []), (.tup []), (.tup []), (.tup []), (.tup []), (.tup []), (.tup []), (.tup []), (.tup []), (.tup []), (.tup []), (.tup []), (.tup []), (.tup []), (.tup []), (.tup []), (.tup []), (.tup []), (.tup [])] && eqH h24 h27)
noncomputable abbrev c28_7 (v0 : CV) (v1 : CV) (x1 : CV) (x2 : CV) (x3 : CV) (x7 : CV) (x8 : CV) (x4 : CV) (x5 : CV) (x6 : CV) (x9 : CV) (x10 : CV) (x18 : CV) (x19 : CV) (x22 : CV) (x23 : CV) (x24 : CV) (x26 : CV) (h24 : CH) (h29 : CH) : Bool :=
 (eqCs [v0, v1, (.tup []), (.tup []), x1, x2, x3, x7, x8, (.tup []), (.tup []), (.tup []), x4, v0, v1, x4, x5, x6, x9, x10, (.tup []), v0, v1, x18, x19, (.tup []), (.tup []), (.tup []), (.tup []), (.tup []), (.tup []), x22, x23, x24, (.tup []), (.tup []), (.tup []), (.tup []), (.tup []), (.tup []), (.tup []), (.tup []), (.tup []), (.tup []), (.tup []), (.tup []), (.tup []), (.tup []), (.tup []), (.tup []), (.tup []), (.tup []), (.tup []), (.tup []), (.tup [])] [v0, v1, (.tup []), (.tup []), x1, x2, x3, x7, x8, (.tup []), (.tup []), (.tup []), x4, v0, v1, x4, x5, x6, x9, x10, (.tup []), v0, v1, x18, x19, (.tup []), (.tup []), (.tup []), (.tup []), (.tup []), (.tup []), x22, x23, x26, (.tup []), (.tup []), (.tup []), (.tup []), (.tup []), (.tup []), (.tup []), (.tup []), (.tup []), (.tup []), (.tup []), (.tup []), (.tup []), (.tup []), (.tup []), (.tup []), (.tup []), (.tup []), (.tup []), (.tup []), (.tup [])] && eqH h24 h29)
noncomputable abbrev c28_8 (x8 : CV) (h25 : CH) (x2 : CV) (x3 : CV) (v0 : CV) (v1 : CV) (x1 : CV) (x7 : CV) (x4 : CV) (x5 : CV) (x6 : CV) (x9 : CV) (x10 : CV) (x18 : CV) (x19 : CV) (x22 : CV) (x23 : CV) (x24 : CV) (h24 : CH) : Bool :=
 both
 (xLoad (some none) x8 h25 fun x26 =>
 xStore (some 1) x2 (.int .i64 (.ofNat 0)) h25 fun h28 =>
 xStore (some 1) x3 x26 h28 fun h29 =>
 c28_7 v0 v1 x1 x2 x3 x7 x8 x4 x5 x6 x9 x10 x18 x19 x22 x23 x24 x26 h24 h29)
 (both
 (xStore (some 1) x2 (.int .i64 (.ofNat 0)) h25 fun h26 =>
 xLoad (some none) x8 h26 fun x25 =>
 xStore (some 1) x3 x25 h26 fun h27 =>
 c28_6 v0 v1 x1 x2 x3 x7 x8 x4 x5 x6 x9 x10 x18 x19 x22 x23 x24 x25 h24 h27)
 (true))
noncomputable abbrev c28_9 (v0 : CV) (v1 : CV) (x1 : CV) (x2 : CV) (x3 : CV) (x7 : CV) (x8 : CV) (x4 : CV) (x5 : CV) (x6 : CV) (x9 : CV) (x10 : CV) (x18 : CV) (x19 : CV) (x22 : CV) (x23 : CV) (x24 : CV) (x27 : CV) (h24 : CH) (h32 : CH) : Bool :=
 (eqCs [v0, v1, (.tup []), (.tup []), x1, x2, x3, x7, x8, (.tup []), (.tup []), (.tup []), x4, v0, v1, x4, x5, x6, x9, x10, (.tup []), v0, v1, x18, x19, (.tup []), (.tup []), (.tup []), (.tup []), (.tup []), (.tup []), x22, x23, x24, (.tup []), (.tup []), (.tup []), (.tup []), (.tup []), (.tup []), (.tup []), (.tup []), (.tup []), (.tup []), (.tup []), (.tup []), (.tup []), (.tup []), (.tup []), (.tup []), (.tup []), (.tup []), (.tup []), (.tup []), (.tup [])] [v0, v1, (.tup []), (.tup []), x1, x2, x3, x7, x8, (.tup []), (.tup []), (.tup []), x4, v0, v1, x4, x5, x6, x9, x10, (.tup []), v0, v1, x18, x19, (.tup []), (.tup []), (.tup []), (.tup []), (.tup []), (.tup []), x22, x23, x27, (.tup []), (.tup []), (.tup []), (.tup []), (.tup []), (.tup []), (.tup []), (.tup []), (.tup []), (.tup []), (.tup []), (.tup []), (.tup []), (.tup []), (.tup []), (.tup []), (.tup []), (.tup []), (.tup []), (.tup []), (.tup [])] && eqH h24 h32)
noncomputable abbrev c28_10 (x8 : CV) (h21 : CH) (x1 : CV) (x2 : CV) (x3 : CV) (v0 : CV) (v1 : CV) (x7 : CV) (x4 : CV) (x5 : CV) (x6 : CV) (x9 : CV) (x10 : CV) (x18 : CV) (x19 : CV) (x22 : CV) (x23 : CV) (x24 : CV) (h24 : CH) (k : CV → CH → Bool) : Bool :=
 both
 (both
 (xLoad (some none) x8 h21 fun x27 =>
 xStore (some 1) x1 (.int .i64 (.ofNat 0)) h21 fun h30 =>
 xStore (some 1) x2 (.int .i64 (.ofNat 0)) h30 fun h31 =>
 xStore (some 1) x3 x27 h31 fun h32 =>
 c28_9 v0 v1 x1 x2 x3 x7 x8 x4 x5 x6 x9 x10 x18 x19 x22 x23 x24 x27 h24 h32)
 (both
 (xStore (some 1) x1 (.int .i64 (.ofNat 0)) h21 fun h25 =>
 c28_8 x8 h25 x2 x3 v0 v1 x1 x7 x4 x5 x6 x9 x10 x18 x19 x22 x23 x24 h24)
 (true)))
 (xLoad (some none) x1 h24 fun x28 =>
 xLoad (some none) x2 h24 fun x29 =>
 xLoad (some none) x3 h24 fun x30 =>
 k (.tup [x28, x29, x30]) h24)
noncomputable abbrev c28_11 (v0 : CV) (v1 : CV) (x1 : CV) (x2 : CV) (x3 : CV) (x7 : CV) (x8 : CV) (x42 : CV) (x4 : CV) (x5 : CV) (x6 : CV) (x9 : CV) (x10 : CV) (x18 : CV) (x19 : CV) (x22 : CV) (x23 : CV) (x31 : CV) (x32 : CV) (x33 : CV) (x41 : CV) (x37 : CV) (x38 : CV) (x39 : CV) (x40 : CV) (x43 : CV) (x44 : CV) (x45 : CV) (x46 : CV) (x47 : CV) (h40 : CH) (h43 : CH) : Bool :=
 (eqCs [v0, v1, (.tup []), (.tup []), x1, x2, x3, x7, x8, (.tup []), (.tup []), x42, x4, v0, v1, x4, x5, x6, x9, x10, (.tup []), v0, v1, x18, x19, (.tup []), (.tup []), (.tup []), (.tup []), (.tup []), (.tup []), x22, x23, (.tup []), x31, x32, x33, x41, v0, v1, x37, x38, x39, x40, x41, x42, x43, x44, x45, x46, (.tup []), (.tup []), (.tup []), (.tup []), (.tup [])] [v0, v1, (.tup []), (.tup []), x1, x2, x3, x7, x8, (.tup []), (.tup []), x42, x4, v0, v1, x4, x5, x6, x9, x10, (.tup []), v0, v1, x18, x19, (.tup []), (.tup []), (.tup []), (.tup []), (.tup []), (.tup []), x22, x23, (.tup []), x31, x32, x33, x41, v0, v1, x37, x38, x39, x40, x41, x42, x43, x44, x45, x47, (.tup []), (.tup []), (.tup []), (.tup []), (.tup [])] && eqH h40 h43)
noncomputable abbrev c28_12 (v0 : CV) (v1 : CV) (x1 : CV) (x2 : CV) (x3 : CV) (x7 : CV) (x8 : CV) (x42 : CV) (x4 : CV) (x5 : CV) (x6 : CV) (x9 : CV) (x10 : CV) (x18 : CV) (x19 : CV) (x22 : CV) (x23 : CV) (x31 : CV) (x32 : CV) (x33 : CV) (x41 : CV) (x37 : CV) (x38 : CV) (x39 : CV) (x40 : CV) (x43 : CV) (x44 : CV) (x45 : CV) (x46 : CV) (x48 : CV) (h40 : CH) (h45 : CH) : Bool :=
 (eqCs [v0, v1, (.tup []), (.tup []), x1, x2, x3, x7, x8, (.tup []), (.tup []), x42, x4, v0, v1, x4, x5, x6, x9, x10, (.tup []), v0, v1, x18, x19, (.tup []), (.tup []), (.tup []), (.tup []), (.tup []), (.tup []), x22, x23, (.tup []), x31, x32, x33, x41, v0, v1, x37, x38, x39, x40, x41, x42, x43, x44, x45, x46, (.tup []), (.tup []), (.tup []), (.tup []), (.tup [])] [v0, v1, (.tup []), (.tup []), x1, x2, x3, x7, x8, (.tup []), (.tup []), x42, x4, v0, v1, x4, x5, x6, x9, x10, (.tup []), v0, v1, x18, x19, (.tup []), (.tup []), (.tup []), (.tup []), (.tup []), (.tup []), x22, x23, (.tup []), x31, x32, x33, x41, v0, v1, x37, x38, x39, x40, x41, x42, x43, x44, x45, x48, (.tup []), (.tup []), (.tup []), (.tup []), (.tup [])] && eqH h40 h45)
noncomputable abbrev c28_13 (x8 : CV) (h41 : CH) (x2 : CV) (x3 : CV) (v0 : CV) (v1 : CV) (x1 : CV) (x7 : CV) (x42 : CV) (x4 : CV) (x5 : CV) (x6 : CV) (x9 : CV) (x10 : CV) (x18 : CV) (x19 : CV) (x22 : CV) (x23 : CV) (x31 : CV) (x32 : CV) (x33 : CV) (x41 : CV) (x37 : CV) (x38 : CV) (x39 : CV) (x40 : CV) (x43 : CV) (x44 : CV) (x45 : CV) (x46 : CV) (h40 : CH) : Bool :=
 both
 (xLoad (some none) x8 h41 fun x48 =>
 xStore (some 1) x2 (.int .i64 (.ofNat 0)) h41 fun h44 =>
 xStore (some 1) x3 x48 h44 fun h45 =>
 c28_12 v0 v1 x1 x2 x3 x7 x8 x42 x4 x5 x6 x9 x10 x18 x19 x22 x23 x31 x32 x33 x41 x37 x38 x39 x40 x43 x44 x45 x46 x48 h40 h45)
 (both
 (xStore (some 1) x2 (.int .i64 (.ofNat 0)) h41 fun h42 =>
 xLoad (some none) x8 h42 fun x47 =>
 xStore (some 1) x3 x47 h42 fun h43 =>
 c28_11 v0 v1 x1 x2 x3 x7 x8 x42 x4 x5 x6 x9 x10 x18 x19 x22 x23 x31 x32 x33 x41 x37 x38 x39 x40 x43 x44 x45 x46 x47 h40 h43)
 (true))
noncomputable abbrev c28_14 (v0 : CV) (v1 : CV) (x1 : CV) (x2 : CV) (x3 : CV) (x7 : CV) (x8 : CV) (x42 : CV) (x4 : CV) (x5 : CV) (x6 : CV) (x9 : CV) (x10 : CV) (x18 : CV) (x19 : CV) (x22 : CV) (x23 : CV) (x31 : CV) (x32 : CV) (x33 : CV) (x41 : CV) (x37 : CV) (x38 : CV) (x39 : CV) (x40 : CV) (x43 : CV) (x44 : CV) (x45 : CV) (x46 : CV) (x49 : CV) (h40 : CH) (h48 : CH) : Bool :=
 (eqCs [v0, v1, (.tup []), (.tup []), x1, x2, x3, x7, x8, (.tup []), (.tup []), x42, x4, v0, v1, x4, x5, x6, x9, x10, (.tup []), v0, v1, x18, x19, (.tup []), (.tup []), (.tup []), (.tup []), (.tup []), (.tup []), x22, x23, (.tup []), x31, x32, x33, x41, v0, v1, x37, x38, x39, x40, x41, x42, x43, x44, x45, x46, (.tup []), (.tup []), (.tup []), (.tup []), (.tup [])] [v0, v1, (.tup []), (.tup []), x1, x2, x3, x7, x8, (.tup []), (.tup []), x42, x4, v0, v1, x4, x5, x6, x9, x10, (.tup []), v0, v1, x18, x19, (.tup []), (.tup []), (.tup []), (.tup []), (.tup []), (.tup []), x22, x23, (.tup []), x31, x32, x33, x41, v0, v1, x37, x38, x39, x40, x41, x42, x43, x44, x45, x49, (.tup []), (.tup []), (.tup []), (.tup []), (.tup [])] && eqH h40 h48)
noncomputable abbrev c28_15 (x8 : CV) (h37 : CH) (x1 : CV) (x2 : CV) (x3 : CV) (v0 : CV) (v1 : CV) (x7 : CV) (x42 : CV) (x4 : CV) (x5 : CV) (x6 : CV) (x9 : CV) (x10 : CV) (x18 : CV) (x19 : CV) (x22 : CV) (x23 : CV) (x31 : CV) (x32 : CV) (x33 : CV) (x41 : CV) (x37 : CV) (x38 : CV) (x39 : CV) (x40 : CV) (x43 : CV) (x44 : CV) (x45 : CV) (x46 : CV) (h40 : CH) (k : CV → CH → Bool) : Bool :=
 both
 (both
 (xLoad (some none) x8 h37 fun x49 =>
 xStore (some 1) x1 (.int .i64 (.ofNat 0)) h37 fun h46 =>
 xStore (some 1) x2 (.int .i64 (.ofNat 0)) h46 fun h47 =>
 xStore (some 1) x3 x49 h47 fun h48 =>
 c28_14 v0 v1 x1 x2 x3 x7 x8 x42 x4 x5 x6 x9 x10 x18 x19 x22 x23 x31 x32 x33 x41 x37 x38 x39 x40 x43 x44 x45 x46 x49 h40 h48)
 (both
 (xStore (some 1) x1 (.int .i64 (.ofNat 0)) h37 fun h41 =>
 c28_13 x8 h41 x2 x3 v0 v1 x1 x7 x42 x4 x5 x6 x9 x10 x18 x19 x22 x23 x31 x32 x33 x41 x37 x38 x39 x40 x43 x44 x45 x46 h40)
 (true)))
 (xLoad (some none) x1 h40 fun x50 =>
 xLoad (some none) x2 h40 fun x51 =>
 xLoad (some none) x3 h40 fun x52 =>
 k (.tup [x50, x51, x52]) h40)
noncomputable abbrev c28_16 (x54 : CV) (x1 : CV) (h37 : CH) (x2 : CV) (x42 : CV) (x3 : CV) (k : CV → CH → Bool) : Bool :=
 xConv (some (.int .u32)) (some (.int .i64)) x54 fun x55 =>
 xBin (some (.int .i64)) .quo x55 (.int .i64 (.ofNat 16)) fun x56 =>
 xStore (some 1) x1 x56 h37 fun h49 =>
 xStore (some 1) x2 x42 h49 fun h50 =>
 xStore (some 1) x3 (.int .i64 (.ofNat 0)) h50 fun h51 =>
 xLoad (some none) x1 h51 fun x57 =>
 xLoad (some none) x2 h51 fun x58 =>
 xLoad (some none) x3 h51 fun x59 =>
 k (.tup [x57, x58, x59]) h51
noncomputable abbrev c28_17 (x45 : CV) (x8 : CV) (h37 : CH) (x1 : CV) (x2 : CV) (x3 : CV) (v0 : CV) (v1 : CV) (x7 : CV) (x42 : CV) (x4 : CV) (x5 : CV) (x6 : CV) (x9 : CV) (x10 : CV) (x18 : CV) (x19 : CV) (x22 : CV) (x23 : CV) (x31 : CV) (x32 : CV) (x33 : CV) (x41 : CV) (x37 : CV) (x38 : CV) (x39 : CV) (x40 : CV) (x43 : CV) (x44 : CV) (k : CV → CH → Bool) : Bool :=
 xIte x45
 (xLoad (some none) x8 h37 fun x46 =>
 xStore (some 1) x1 (.int .i64 (.ofNat 0)) h37 fun h38 =>
 xStore (some 1) x2 (.int .i64 (.ofNat 0)) h38 fun h39 =>
 xStore (some 1) x3 x46 h39 fun h40 =>
 c28_15 x8 h37 x1 x2 x3 v0 v1 x7 x42 x4 x5 x6 x9 x10 x18 x19 x22 x23 x31 x32 x33 x41 x37 x38 x39 x40 x43 x44 x45 x46 h40 k)
 (xAddr (some 2) x7 fun x53 =>
 xLoad (some none) x53 h37 fun x54 =>
 c28_16 x54 x1 h37 x2 x42 x3 k)
noncomputable abbrev c28_18 (v0 : CV) (v1 : CV) (x40 : CV) (h21 : CH) (x8 : CV) (x1 : CV) (x2 : CV) (x3 : CV) (x7 : CV) (x4 : CV) (x5 : CV) (x6 : CV) (x9 : CV) (x10 : CV) (x18 : CV) (x19 : CV) (x22 : CV) (x23 : CV) (x31 : CV) (x32 : CV) (x33 : CV) (x37 : CV) (x38 : CV) (x39 : CV) (k : CV → CH → Bool) : Bool :=
 bd68 v0 v1 x40 (.int .i64 (.ofNat 1)) h21 fun x41 h36 =>
 xExtract x41 0 fun x42 =>
 xExtract x41 1 fun x43 =>
 xStore (some 1) x8 x43 h36 fun h37 =>
 xLoad (some none) x8 h37 fun x44 =>
 xBin (some (.int .i64)) .neq x44 (.int .i64 (.ofNat 0)) fun x45 =>
 c28_17 x45 x8 h37 x1 x2 x3 v0 v1 x7 x42 x4 x5 x6 x9 x10 x18 x19 x22 x23 x31 x32 x33 x41 x37 x38 x39 x40 x43 x44 k
noncomputable abbrev c28_19 (x33 : CV) (x1 : CV) (h21 : CH) (x2 : CV) (x3 : CV) (k : CV → CH → Bool) (x7 : CV) (v0 : CV) (v1 : CV) (x8 : CV) (x4 : CV) (x5 : CV) (x6 : CV) (x9 : CV) (x10 : CV) (x18 : CV) (x19 : CV) (x22 : CV) (x23 : CV) (x31 : CV) (x32 : CV) : Bool :=
 xIte x33
 (xStore (some 1) x1 (.int .i64 (.ofNat 0)) h21 fun h33 =>
 xStore (some 1) x2 (.int .i64 (.ofNat 0)) h33 fun h34 =>
 xStore (some 1) x3 (.int .i64 (.ofNat 17)) h34 fun h35 =>
 xLoad (some none) x1 h35 fun x34 =>
 xLoad (some none) x2 h35 fun x35 =>
 xLoad (some none) x3 h35 fun x36 =>
 k (.tup [x34, x35, x36]) h35)
 (xAddr (some 2) x7 fun x37 =>
 xLoad (some none) x37 h21 fun x38 =>
 xConv (some (.int .u32)) (some (.int .i64)) x38 fun x39 =>
 xBin (some (.int .i64)) .quo x39 (.int .i64 (.ofNat 1024)) fun x40 =>
 c28_18 v0 v1 x40 h21 x8 x1 x2 x3 x7 x4 x5 x6 x9 x10 x18 x19 x22 x23 x31 x32 x33 x37 x38 x39 k)
noncomputable abbrev c28_20 (x23 : CV) (x8 : CV) (h21 : CH) (x1 : CV) (x2 : CV) (x3 : CV) (v0 : CV) (v1 : CV) (x7 : CV) (x4 : CV) (x5 : CV) (x6 : CV) (x9 : CV) (x10 : CV) (x18 : CV) (x19 : CV) (x22 : CV) (k : CV → CH → Bool) : Bool :=
 xIte x23
 (xLoad (some none) x8 h21 fun x24 =>
 xStore (some 1) x1 (.int .i64 (.ofNat 0)) h21 fun h22 =>
 xStore (some 1) x2 (.int .i64 (.ofNat 0)) h22 fun h23 =>
 xStore (some 1) x3 x24 h23 fun h24 =>
 c28_10 x8 h21 x1 x2 x3 v0 v1 x7 x4 x5 x6 x9 x10 x18 x19 x22 x23 x24 h24 k)
 (xAddr (some 2) x7 fun x31 =>
 xLoad (some none) x31 h21 fun x32 =>
 xBin (some (.int .u32)) .geq x32 (.int .u32 (.ofNat 67381248)) fun x33 =>
 c28_19 x33 x1 h21 x2 x3 k x7 v0 v1 x8 x4 x5 x6 x9 x10 x18 x19 x22 x23 x31 x32)
noncomputable abbrev c28_21 (v0 : CV) (v1 : CV) (x1 : CV) (x2 : CV) (x3 : CV) (x7 : CV) (x8 : CV) (x4 : CV) (x5 : CV) (x6 : CV) (x9 : CV) (x10 : CV) (x18 : CV) (x19 : CV) (x63 : CV) (x64 : CV) (x65 : CV) (x66 : CV) (h54 : CH) (h57 : CH) : Bool :=
 (eqCs [v0, v1, (.tup []), (.tup []), x1, x2, x3, x7, x8, (.tup []), (.tup []), (.tup []), x4, v0, v1, x4, x5, x6, x9, x10, (.tup []), v0, v1, x18, x19, (.tup []), (.tup []), (.tup []), (.tup []), (.tup []), (.tup []), x63, x64, x65, (.tup []), (.tup []), (.tup []), (.tup []), (.tup []), (.tup []), (.tup []), (.tup []), (.tup []), (.tup []), (.tup []), (.tup []), (.tup []), (.tup []), (.tup []), (.tup []), (.tup []), (.tup []), (.tup []), (.tup []), (.tup [])] [v0, v1, (.tup []), (.tup []), x1, x2, x3, x7, x8, (.tup []), (.tup []), (.tup []), x4, v0, v1, x4, x5, x6, x9, x10, (.tup []), v0, v1, x18, x19, (.tup []), (.tup []), (.tup []), (.tup []), (.tup []), (.tup []), x63, x64, x66, (.tup []), (.tup []), (.tup []), (.tup []), (.tup []), (.tup []), (.tup []), (.tup []), (.tup []), (.tup []), (.tup []), (.tup []), (.tup []), (.tup []), (.tup []), (.tup []), (.tup []), (.tup []), (.tup []), (.tup []), (.tup [])] && eqH h54 h57)
noncomputable abbrev c28_22 (v0 : CV) (v1 : CV) (x1 : CV) (x2 : CV) (x3 : CV) (x7 : CV) (x8 : CV) (x4 : CV) (x5 : CV) (x6 : CV) (x9 : CV) (x10 : CV) (x18 : CV) (x19 : CV) (x63 : CV) (x64 : CV) (x65 : CV) (x67 : CV) (h54 : CH) (h59 : CH) : Bool :=
 (eqCs [v0, v1, (.tup []), (.tup []), x1, x2, x3, x7, x8, (.tup []), (.tup []), (.tup []), x4, v0, v1, x4, x5, x6, x9, x10, (.tup []), v0, v1, x18, x19, (.tup []), (.tup []), (.tup []), (.tup []), (.tup []), (.tup []), x63, x64, x65, (.tup []), (.tup []), (.tup []), (.tup []), (.tup []), (.tup []), (.tup []), (.tup []), (.tup []), (.tup []), (.tup []), (.tup []), (.tup []), (.tup []), (.tup []), (.tup []), (.tup []), (.tup []), (.tup []), (.tup []), (.tup [])] [v0, v1, (.tup []), (.tup []), x1, x2, x3, x7, x8, (.tup []), (.tup []), (.tup []), x4, v0, v1, x4, x5, x6, x9, x10, (.tup []), v0, v1, x18, x19, (.tup []), (.tup []), (.tup []), (.tup []), (.tup []), (.tup []), x63, x64, x67, (.tup []), (.tup []), (.tup []), (.tup []), (.tup []), (.tup []), (.tup []), (.tup []), (.tup []), (.tup []), (.tup []), (.tup []), (.tup []), (.tup []), (.tup []), (.tup []), (.tup []), (.tup []), (.tup []), (.tup []), (.tup [])] && eqH h54 h59)
noncomputable abbrev c28_23 (x8 : CV) (h55 : CH) (x2 : CV) (x3 : CV) (v0 : CV) (v1 : CV) (x1 : CV) (x7 : CV) (x4 : CV) (x5 : CV) (x6 : CV) (x9 : CV) (x10 : CV) (x18 : CV) (x19 : CV) (x63 : CV) (x64 : CV) (x65 : CV) (h54 : CH) : Bool :=
 both
 (xLoad (some none) x8 h55 fun x67 =>
 xStore (some 1) x2 (.int .i64 (.ofNat 0)) h55 fun h58 =>
 xStore (some 1) x3 x67 h58 fun h59 =>
 c28_22 v0 v1 x1 x2 x3 x7 x8 x4 x5 x6 x9 x10 x18 x19 x63 x64 x65 x67 h54 h59)
 (both
 (xStore (some 1) x2 (.int .i64 (.ofNat 0)) h55 fun h56 =>
 xLoad (some none) x8 h56 fun x66 =>
 xStore (some 1) x3 x66 h56 fun h57 =>
 c28_21 v0 v1 x1 x2 x3 x7 x8 x4 x5 x6 x9 x10 x18 x19 x63 x64 x65 x66 h54 h57)
 (true))
noncomputable abbrev c28_24 (v0 : CV) (v1 : CV) (x1 : CV) (x2 : CV) (x3 : CV) (x7 : CV) (x8 : CV) (x4 : CV) (x5 : CV) (x6 : CV) (x9 : CV) (x10 : CV) (x18 : CV) (x19 : CV) (x63 : CV) (x64 : CV) (x65 : CV) (x68 : CV) (h54 : CH) (h62 : CH) : Bool :=
 (eqCs [v0, v1, (.tup []), (.tup []), x1, x2, x3, x7, x8, (.tup []), (.tup []), (.tup []), x4, v0, v1, x4, x5, x6, x9, x10, (.tup []), v0, v1, x18, x19, (.tup []), (.tup []), (.tup []), (.tup []), (.tup []), (.tup []), x63, x64, x65, (.tup []), (.tup []), (.tup []), (.tup []), (.tup []), (.tup []), (.tup []), (.tup []), (.tup []), (.tup []), (.tup []), (.tup []), (.tup []), (.tup []), (.tup []), (.tup []), (.tup []), (.tup []), (.tup []), (.tup []), (.tup [])] [v0, v1, (.tup []), (.tup []), x1, x2, x3, x7, x8, (.tup []), (.tup []), (.tup []), x4, v0, v1, x4, x5, x6, x9, x10, (.tup []), v0, v1, x18, x19, (.tup []), (.tup []), (.tup []), (.tup []), (.tup []), (.tup []), x63, x64, x68, (.tup []), (.tup []), (.tup []), (.tup []), (.tup []), (.tup []), (.tup []), (.tup []), (.tup []), (.tup []), (.tup []), (.tup []), (.tup []), (.tup []), (.tup []), (.tup []), (.tup []), (.tup []), (.tup []), (.tup []), (.tup [])] && eqH h54 h62)
noncomputable abbrev c28_25 (x8 : CV) (h21 : CH) (x1 : CV) (x2 : CV) (x3 : CV) (v0 : CV) (v1 : CV) (x7 : CV) (x4 : CV) (x5 : CV) (x6 : CV) (x9 : CV) (x10 : CV) (x18 : CV) (x19 : CV) (x63 : CV) (x64 : CV) (x65 : CV) (h54 : CH) (k : CV → CH → Bool) : Bool :=
 both
 (both
 (xLoad (some none) x8 h21 fun x68 =>
 xStore (some 1) x1 (.int .i64 (.ofNat 0)) h21 fun h60 =>
 xStore (some 1) x2 (.int .i64 (.ofNat 0)) h60 fun h61 =>
 xStore (some 1) x3 x68 h61 fun h62 =>
 c28_24 v0 v1 x1 x2 x3 x7 x8 x4 x5 x6 x9 x10 x18 x19 x63 x64 x65 x68 h54 h62)
 (both
 (xStore (some 1) x1 (.int .i64 (.ofNat 0)) h21 fun h55 =>
 c28_23 x8 h55 x2 x3 v0 v1 x1 x7 x4 x5 x6 x9 x10 x18 x19 x63 x64 x65 h54)
 (true)))
 (xLoad (some none) x1 h54 fun x69 =>
 xLoad (some none) x2 h54 fun x70 =>
 xLoad (some none) x3 h54 fun x71 =>
 k (.tup [x69, x70, x71]) h54)
noncomputable abbrev c28_26 (v0 : CV) (v1 : CV) (x1 : CV) (x2 : CV) (x3 : CV) (x7 : CV) (x8 : CV) (x83 : CV) (x4 : CV) (x5 : CV) (x6 : CV) (x9 : CV) (x10 : CV) (x18 : CV) (x19 : CV) (x63 : CV) (x64 : CV) (x72 : CV) (x73 : CV) (x74 : CV) (x82 : CV) (x78 : CV) (x79 : CV) (x80 : CV) (x81 : CV) (x84 : CV) (x85 : CV) (x86 : CV) (x87 : CV) (x88 : CV) (h70 : CH) (h73 : CH) : Bool :=
 (eqCs [v0, v1, (.tup []), (.tup []), x1, x2, x3, x7, x8, (.tup []), (.tup []), x83, x4, v0, v1, x4, x5, x6, x9, x10, (.tup []), v0, v1, x18, x19, (.tup []), (.tup []), (.tup []), (.tup []), (.tup []), (.tup []), x63, x64, (.tup []), x72, x73, x74, x82, v0, v1, x78, x79, x80, x81, x82, x83, x84, x85, x86, x87, (.tup []), (.tup []), (.tup []), (.tup []), (.tup [])] [v0, v1, (.tup []), (.tup []), x1, x2, x3, x7, x8, (.tup []), (.tup []), x83, x4, v0, v1, x4, x5, x6, x9, x10, (.tup []), v0, v1, x18, x19, (.tup []), (.tup []), (.tup []), (.tup []), (.tup []), (.tup []), x63, x64, (.tup []), x72, x73, x74, x82, v0, v1, x78, x79, x80, x81, x82, x83, x84, x85, x86, x88, (.tup []), (.tup []), (.tup []), (.tup []), (.tup [])] && eqH h70 h73)
noncomputable abbrev c28_27 (v0 : CV) (v1 : CV) (x1 : CV) (x2 : CV) (x3 : CV) (x7 : CV) (x8 : CV) (x83 : CV) (x4 : CV) (x5 : CV) (x6 : CV) (x9 : CV) (x10 : CV) (x18 : CV) (x19 : CV) (x63 : CV) (x64 : CV) (x72 : CV) (x73 : CV) (x74 : CV) (x82 : CV) (x78 : CV) (x79 : CV) (x80 : CV) (x81 : CV) (x84 : CV) (x85 : CV) (x86 : CV) (x87 : CV) (x89 : CV) (h70 : CH) (h75 : CH) : Bool :=
 (eqCs [v0, v1, (.tup []), (.tup []), x1, x2, x3, x7, x8, (.tup []), (.tup []), x83, x4, v0, v1, x4, x5, x6, x9, x10, (.tup []), v0, v1, x18, x19, (.tup []), (.tup []), (.tup []), (.tup []), (.tup []), (.tup []), x63, x64, (.tup []), x72, x73, x74, x82, v0, v1, x78, x79, x80, x81, x82, x83, x84, x85, x86, x87, (.tup []), (.tup []), (.tup []), (.tup []), (.tup [])] [v0, v1, (.tup []), (.tup []), x1, x2, x3, x7, x8, (.tup []), (.tup []), x83, x4, v0, v1, x4, x5, x6, x9, x10, (.tup []), v0, v1, x18, x19, (.tup []), (.tup []), (.tup []), (.tup []), (.tup []), (.tup []), x63, x64, (.tup []), x72, x73, x74, x82, v0, v1, x78, x79, x80, x81, x82, x83, x84, x85, x86, x89, (.tup []), (.tup []), (.tup []), (.tup []), (.tup [])] && eqH h70 h75)
noncomputable abbrev c28_28 (x8 : CV) (h71 : CH) (x2 : CV) (x3 : CV) (v0 : CV) (v1 : CV) (x1 : CV) (x7 : CV) (x83 : CV) (x4 : CV) (x5 : CV) (x6 : CV) (x9 : CV) (x10 : CV) (x18 : CV) (x19 : CV) (x63 : CV) (x64 : CV) (x72 : CV) (x73 : CV) (x74 : CV) (x82 : CV) (x78 : CV) (x79 : CV) (x80 : CV) (x81 : CV) (x84 : CV) (x85 : CV) (x86 : CV) (x87 : CV) (h70 : CH) : Bool :=
 both
 (xLoad (some none) x8 h71 fun x89 =>
 xStore (some 1) x2 (.int .i64 (.ofNat 0)) h71 fun h74 =>
 xStore (some 1) x3 x89 h74 fun h75 =>
 c28_27 v0 v1 x1 x2 x3 x7 x8 x83 x4 x5 x6 x9 x10 x18 x19 x63 x64 x72 x73 x74 x82 x78 x79 x80 x81 x84 x85 x86 x87 x89 h70 h75)
 (both
 (xStore (some 1) x2 (.int .i64 (.ofNat 0)) h71 fun h72 =>
 xLoad (some none) x8 h72 fun x88 =>
 xStore (some 1) x3 x88 h72 fun h73 =>
 c28_26 v0 v1 x1 x2 x3 x7 x8 x83 x4 x5 x6 x9 x10 x18 x19 x63 x64 x72 x73 x74 x82 x78 x79 x80 x81 x84 x85 x86 x87 x88 h70 h73)
 (true))
noncomputable abbrev c28_29 (v0 : CV) (v1 : CV) (x1 : CV) (x2 : CV) (x3 : CV) (x7 : CV) (x8 : CV) (x83 : CV) (x4 : CV) (x5 : CV) (x6 : CV) (x9 : CV) (x10 : CV) (x18 : CV) (x19 : CV) (x63 : CV) (x64 : CV) (x72 : CV) (x73 : CV) (x74 : CV) (x82 : CV) (x78 : CV) (x79 : CV) (x80 : CV) (x81 : CV) (x84 : CV) (x85 : CV) (x86 : CV) (x87 : CV) (x90 : CV) (h70 : CH) (h78 : CH) : Bool :=
 (eqCs [v0, v1, (.tup []), (.tup []), x1, x2, x3, x7, x8, (.tup []), (.tup []), x83, x4, v0, v1, x4, x5, x6, x9, x10, (.tup []), v0, v1, x18, x19, (.tup []), (.tup []), (.tup []), (.tup []), (.tup []), (.tup []), x63, x64, (.tup []), x72, x73, x74, x82, v0, v1, x78, x79, x80, x81, x82, x83, x84, x85, x86, x87, (.tup []), (.tup []), (.tup []), (.tup []), (.tup [])] [v0, v1, (.tup []), (.tup []), x1, x2, x3, x7, x8, (.tup []), (.tup []), x83, x4, v0, v1, x4, x5, x6, x9, x10, (.tup []), v0, v1, x18, x19, (.tup []), (.tup []), (.tup []), (.tup []), (.tup []), (.tup []), x63, x64, (.tup []), x72, x73, x74, x82, v0, v1, x78, x79, x80, x81, x82, x83, x84, x85, x86, x90, (.tup []), (.tup []), (.tup []), (.tup []), (.tup [])] && eqH h70 h78)
noncomputable abbrev c28_30 (x8 : CV) (h67 : CH) (x1 : CV) (x2 : CV) (x3 : CV) (v0 : CV) (v1 : CV) (x7 : CV) (x83 : CV) (x4 : CV) (x5 : CV) (x6 : CV) (x9 : CV) (x10 : CV) (x18 : CV) (x19 : CV) (x63 : CV) (x64 : CV) (x72 : CV) (x73 : CV) (x74 : CV) (x82 : CV) (x78 : CV) (x79 : CV) (x80 : CV) (x81 : CV) (x84 : CV) (x85 : CV) (x86 : CV) (x87 : CV) (h70 : CH) (k : CV → CH → Bool) : Bool :=
 both
 (both
 (xLoad (some none) x8 h67 fun x90 =>
 xStore (some 1) x1 (.int .i64 (.ofNat 0)) h67 fun h76 =>
 xStore (some 1) x2 (.int .i64 (.ofNat 0)) h76 fun h77 =>
 xStore (some 1) x3 x90 h77 fun h78 =>
 c28_29 v0 v1 x1 x2 x3 x7 x8 x83 x4 x5 x6 x9 x10 x18 x19 x63 x64 x72 x73 x74 x82 x78 x79 x80 x81 x84 x85 x86 x87 x90 h70 h78)
 (both
 (xStore (some 1) x1 (.int .i64 (.ofNat 0)) h67 fun h71 =>
 c28_28 x8 h71 x2 x3 v0 v1 x1 x7 x83 x4 x5 x6 x9 x10 x18 x19 x63 x64 x72 x73 x74 x82 x78 x79 x80 x81 x84 x85 x86 x87 h70)
 (true)))
 (xLoad (some none) x1 h70 fun x91 =>
 xLoad (some none) x2 h70 fun x92 =>
 xLoad (some none) x3 h70 fun x93 =>
 k (.tup [x91, x92, x93]) h70)
noncomputable abbrev c28_31 (x95 : CV) (x1 : CV) (h67 : CH) (x2 : CV) (x83 : CV) (x3 : CV) (k : CV → CH → Bool) : Bool :=
 xConv (some (.int .u32)) (some (.int .i64)) x95 fun x96 =>
 xBin (some (.int .i64)) .quo x96 (.int .i64 (.ofNat 16)) fun x97 =>
 xStore (some 1) x1 x97 h67 fun h79 =>
 xStore (some 1) x2 x83 h79 fun h80 =>
 xStore (some 1) x3 (.int .i64 (.ofNat 0)) h80 fun h81 =>
 xLoad (some none) x1 h81 fun x98 =>
 xLoad (some none) x2 h81 fun x99 =>
 xLoad (some none) x3 h81 fun x100 =>
 k (.tup [x98, x99, x100]) h81
noncomputable abbrev c28_32 (x86 : CV) (x8 : CV) (h67 : CH) (x1 : CV) (x2 : CV) (x3 : CV) (v0 : CV) (v1 : CV) (x7 : CV) (x83 : CV) (x4 : CV) (x5 : CV) (x6 : CV) (x9 : CV) (x10 : CV) (x18 : CV) (x19 : CV) (x63 : CV) (x64 : CV) (x72 : CV) (x73 : CV) (x74 : CV) (x82 : CV) (x78 : CV) (x79 : CV) (x80 : CV) (x81 : CV) (x84 : CV) (x85 : CV) (k : CV → CH → Bool) : Bool :=
 xIte x86
 (xLoad (some none) x8 h67 fun x87 =>
 xStore (some 1) x1 (.int .i64 (.ofNat 0)) h67 fun h68 =>
 xStore (some 1) x2 (.int .i64 (.ofNat 0)) h68 fun h69 =>
 xStore (some 1) x3 x87 h69 fun h70 =>
 c28_30 x8 h67 x1 x2 x3 v0 v1 x7 x83 x4 x5 x6 x9 x10 x18 x19 x63 x64 x72 x73 x74 x82 x78 x79 x80 x81 x84 x85 x86 x87 h70 k)
 (xAddr (some 2) x7 fun x94 =>
 xLoad (some none) x94 h67 fun x95 =>
 c28_31 x95 x1 h67 x2 x83 x3 k)
noncomputable abbrev c28_33 (v0 : CV) (v1 : CV) (x81 : CV) (h21 : CH) (x8 : CV) (x1 : CV) (x2 : CV) (x3 : CV) (x7 : CV) (x4 : CV) (x5 : CV) (x6 : CV) (x9 : CV) (x10 : CV) (x18 : CV) (x19 : CV) (x63 : CV) (x64 : CV) (x72 : CV) (x73 : CV) (x74 : CV) (x78 : CV) (x79 : CV) (x80 : CV) (k : CV → CH → Bool) : Bool :=
 bd68 v0 v1 x81 (.int .i64 (.ofNat 1)) h21 fun x82 h66 =>
 xExtract x82 0 fun x83 =>
 xExtract x82 1 fun x84 =>
 xStore (some 1) x8 x84 h66 fun h67 =>
 xLoad (some none) x8 h67 fun x85 =>
 xBin (some (.int .i64)) .neq x85 (.int .i64 (.ofNat 0)) fun x86 =>
 c28_32 x86 x8 h67 x1 x2 x3 v0 v1 x7 x83 x4 x5 x6 x9 x10 x18 x19 x63 x64 x72 x73 x74 x82 x78 x79 x80 x81 x84 x85 k
noncomputable abbrev c28_34 (x74 : CV) (x1 : CV) (h21 : CH) (x2 : CV) (x3 : CV) (k : CV → CH → Bool) (x7 : CV) (v0 : CV) (v1 : CV) (x8 : CV) (x4 : CV) (x5 : CV) (x6 : CV) (x9 : CV) (x10 : CV) (x18 : CV) (x19 : CV) (x63 : CV) (x64 : CV) (x72 : CV) (x73 : CV) : Bool :=
 xIte x74
 (xStore (some 1) x1 (.int .i64 (.ofNat 0)) h21 fun h63 =>
 xStore (some 1) x2 (.int .i64 (.ofNat 0)) h63 fun h64 =>
 xStore (some 1) x3 (.int .i64 (.ofNat 17)) h64 fun h65 =>
 xLoad (some none) x1 h65 fun x75 =>
 xLoad (some none) x2 h65 fun x76 =>
 xLoad (some none) x3 h65 fun x77 =>
 k (.tup [x75, x76, x77]) h65)
 (xAddr (some 2) x7 fun x78 =>
 xLoad (some none) x78 h21 fun x79 =>
 xConv (some (.int .u32)) (some (.int .i64)) x79 fun x80 =>
 xBin (some (.int .i64)) .quo x80 (.int .i64 (.ofNat 1024)) fun x81 =>
 c28_33 v0 v1 x81 h21 x8 x1 x2 x3 x7 x4 x5 x6 x9 x10 x18 x19 x63 x64 x72 x73 x74 x78 x79 x80 k)
noncomputable abbrev c28_35 (x64 : CV) (x8 : CV) (h21 : CH) (x1 : CV) (x2 : CV) (x3 : CV) (v0 : CV) (v1 : CV) (x7 : CV) (x4 : CV) (x5 : CV) (x6 : CV) (x9 : CV) (x10 : CV) (x18 : CV) (x19 : CV) (x63 : CV) (k : CV → CH → Bool) : Bool :=
 xIte x64
 (xLoad (some none) x8 h21 fun x65 =>
 xStore (some 1) x1 (.int .i64 (.ofNat 0)) h21 fun h52 =>
 xStore (some 1) x2 (.int .i64 (.ofNat 0)) h52 fun h53 =>
 xStore (some 1) x3 x65 h53 fun h54 =>
 c28_25 x8 h21 x1 x2 x3 v0 v1 x7 x4 x5 x6 x9 x10 x18 x19 x63 x64 x65 h54 k)
 (xAddr (some 2) x7 fun x72 =>
 xLoad (some none) x72 h21 fun x73 =>
 xBin (some (.int .u32)) .geq x73 (.int .u32 (.ofNat 67381248)) fun x74 =>
 c28_34 x74 x1 h21 x2 x3 k x7 v0 v1 x8 x4 x5 x6 x9 x10 x18 x19 x63 x64 x72 x73)
noncomputable abbrev c28_36 (v0 : CV) (v1 : CV) (x1 : CV) (x2 : CV) (x3 : CV) (x7 : CV) (x8 : CV) (x4 : CV) (x5 : CV) (x6 : CV) (x9 : CV) (x10 : CV) (x18 : CV) (x19 : CV) (h20 : CH) (k : CV → CH → Bool) : Bool :=
 xRange [(66, ex66), (67, ex67), (111, ex111), (68, ex68)] 280 [v0, v1, (.tup []), (.tup []), x1, x2, x3, x7, x8, (.tup []), (.tup []), (.tup []), x4, v0, v1, x4, x5, x6, x9, x10, (.tup []), v0, v1, x18, x19, (.tup []), (.tup []), (.tup []), (.tup []), (.tup []), (.tup []), (.tup []), (.tup []), (.tup []), (.tup []), (.tup []), (.tup []), (.tup []), (.tup []), (.tup []), (.tup []), (.tup []), (.tup []), (.tup []), (.tup []), (.tup []), (.tup []), (.tup []), (.tup []), (.tup []), (.tup []), (.tup []), (.tup []), (.tup []), (.tup [])] x19 h20 fun j19 h21 =>
 xJmp j19
 (xLoad (some none) x8 h21 fun x22 =>
 xBin (some (.int .i64)) .neq x22 (.int .i64 (.ofNat 0)) fun x23 =>
 c28_20 x23 x8 h21 x1 x2 x3 v0 v1 x7 x4 x5 x6 x9 x10 x18 x19 x22 k)
 (xLoad (some none) x1 h21 fun x60 =>
 xLoad (some none) x2 h21 fun x61 =>
 xLoad (some none) x3 h21 fun x62 =>
 k (.tup [x60, x61, x62]) h21)
 (fun i20 => isXX i20 0
 (xLoad (some none) x8 h21 fun x63 =>
 xBin (some (.int .i64)) .neq x63 (.int .i64 (.ofNat 0)) fun x64 =>
 c28_35 x64 x8 h21 x1 x2 x3 v0 v1 x7 x4 x5 x6 x9 x10 x18 x19 x63 k)
 (false))
noncomputable abbrev c28_37 (x10 : CV) (x8 : CV) (h8 : CH) (x1 : CV) (x2 : CV) (x3 : CV) (v0 : CV) (v1 : CV) (x7 : CV) (x4 : CV) (x5 : CV) (x6 : CV) (x9 : CV) (k : CV → CH → Bool) : Bool :=
 xIte x10
 (xLoad (some none) x8 h8 fun x11 =>
 xStore (some 1) x1 (.int .i64 (.ofNat 0)) h8 fun h9 =>
 xStore (some 1) x2 (.int .i64 (.ofNat 0)) h9 fun h10 =>
 xStore (some 1) x3 x11 h10 fun h11 =>
 c28_5 x8 h8 x1 x2 x3 v0 v1 x7 x4 x5 x6 x9 x10 x11 h11 k)
 (xLoad (some (some 16)) x7 h8 fun x18 =>
 bd67 v0 v1 x18 x8 h8 fun x19 h20 =>
 c28_36 v0 v1 x1 x2 x3 x7 x8 x4 x5 x6 x9 x10 x18 x19 h20 k)
noncomputable abbrev c28_38 (h4 : CH) (x5 : CV) (x6 : CV) (x1 : CV) (x2 : CV) (x3 : CV) (v0 : CV) (v1 : CV) (x4 : CV) (k : CV → CH → Bool) : Bool :=
 xBoxP 78 [(.int .u16 (.ofNat 0)), (.int .u16 (.ofNat 0)), (.int .u32 (.ofNat 0)), (.int .u32 (.ofNat 0)), (.int .u32 (.ofNat 0)), (.int .u32 (.ofNat 0)), (.int .u32 (.ofNat 0)), (.int .u32 (.ofNat 0)), (.int .u32 (.ofNat 0)), (.int .u32 (.ofNat 0)), (.int .u32 (.ofNat 0)), (.int .u32 (.ofNat 0)), (.int .u32 (.ofNat 0)), (.int .u32 (.ofNat 0)), (.int .u32 (.ofNat 0)), (.int .u32 (.ofNat 0))] h4 fun x7 h5 =>
 xBoxP 35 [(.int .i64 (.ofNat 0))] h5 fun x8 h6 =>
 xStore (some 16) x7 x5 h6 fun h7 =>
 xStore (some 1) x8 x6 h7 fun h8 =>
 xLoad (some none) x8 h8 fun x9 =>
 xBin (some (.int .i64)) .neq x9 (.int .i64 (.ofNat 0)) fun x10 =>
 c28_37 x10 x8 h8 x1 x2 x3 v0 v1 x7 x4 x5 x6 x9 k
noncomputable def bd28 (v0 v1 : CV) (h : CH) (k : CV → CH → Bool) : Bool :=
 xBoxP 3 [(.int .i64 (.ofNat 0))] h fun x1 h1 =>
 xBoxP 3 [(.int .i64 (.ofNat 0))] h1 fun x2 h2 =>
 xBoxP 35 [(.int .i64 (.ofNat 0))] h2 fun x3 h3 =>
 bd66 v0 v1 h3 fun x4 h4 =>
 xExtract x4 0 fun x5 =>
 xExtract x4 1 fun x6 =>
 c28_38 h4 x5 x6 x1 x2 x3 v0 v1 x4 k
noncomputable abbrev ex28 : Ex := fun args h k => a2 args fun v0 v1 => bd28 v0 v1 h k
theorem sim28 : SimF Tryz.prog 28 ex28 := fun args h k hk => by
 obtain ⟨v0, v1, rfl, hk⟩ := a2_ok hk
 exact simN_of (qf := qz) (Z := zs) (C := [(66, ex66), (67, ex67), (111, ex111), (68, ex68)]) (T := [(3, .tree [0, 1, 2, 3] (.fork [] (.cons 0 (.line [1, 2, 3]) (.cons 1 (.fork [] (.cons 0 (.line [2, 3]) (.cons 2 (.line [0, 3]) .nil))) .nil)))), (10, .tree [0, 1, 2, 3] (.fork [] (.cons 0 (.line [1, 2, 3]) (.cons 1 (.fork [] (.cons 0 (.line [2, 3]) (.cons 2 (.line [0, 3]) .nil))) .nil)))), (15, .tree [0, 1, 2, 3] (.fork [] (.cons 0 (.line [1, 2, 3]) (.cons 1 (.fork [] (.cons 0 (.line [2, 3]) (.cons 2 (.line [0, 3]) .nil))) .nil)))), (10, .tree [0, 1, 2, 3] (.fork [] (.cons 0 (.line [1, 2, 3]) (.cons 1 (.fork [] (.cons 0 (.line [2, 3]) (.cons 2 (.line [0, 3]) .nil))) .nil)))), (15, .tree [0, 1, 2, 3] (.fork [] (.cons 0 (.line [1, 2, 3]) (.cons 1 (.fork [] (.cons 0 (.line [2, 3]) (.cons 2 (.line [0, 3]) .nil))) .nil))))]) ⟨zerosB_ok zsOk, (exCons (by kernel_rfl) sim66 (exCons (by kernel_rfl) sim67 (exCons (by kernel_rfl) sim111 (exCons (by kernel_rfl) sim68 exNil))))⟩ (fun _ _ _ _ h => h) (.seq .nil (.seq .nil (.seq .nil (.seq (.seq .nil (.loop [280] [] .nil)) .nil)))) Tryz.func28 _ h k (Eq.mp (by kernel_rfl : (bd28 v0 v1 h k = true) = (xFnN Tryz.prog qz zs [(66, ex66), (67, ex67), (111, ex111), (68, ex68)] [(3, .tree [0, 1, 2, 3] (.fork [] (.cons 0 (.line [1, 2, 3]) (.cons 1 (.fork [] (.cons 0 (.line [2, 3]) (.cons 2 (.line [0, 3]) .nil))) .nil)))), (10, .tree [0, 1, 2, 3] (.fork [] (.cons 0 (.line [1, 2, 3]) (.cons 1 (.fork [] (.cons 0 (.line [2, 3]) (.cons 2 (.line [0, 3]) .nil))) .nil)))), (15, .tree [0, 1, 2, 3] (.fork [] (.cons 0 (.line [1, 2, 3]) (.cons 1 (.fork [] (.cons 0 (.line [2, 3]) (.cons 2 (.line [0, 3]) .nil))) .nil)))), (10, .tree [0, 1, 2, 3] (.fork [] (.cons 0 (.line [1, 2, 3]) (.cons 1 (.fork [] (.cons 0 (.line [2, 3]) (.cons 2 (.line [0, 3]) .nil))) .nil)))), (15, .tree [0, 1, 2, 3] (.fork [] (.cons 0 (.line [1, 2, 3]) (.cons 1 (.fork [] (.cons 0 (.line [2, 3]) (.cons 2 (.line [0, 3]) .nil))) .nil))))] 28 Tryz.f28 (.seq .nil (.seq .nil (.seq .nil (.seq (.seq .nil (.loop [280] [] .nil)) .nil)))) [v0, v1] h k = true)) hk)

noncomputable abbrev c155_1 (x17 : CV) (v0 : CV) (h : CH) (K13 : TupC 0 → CH → Bool) : Bool :=
 xBin (some (.int .i64)) .gtr x17 (.int .i64 (.ofNat 0)) fun x18 =>
 xIte x18
 (xNilCheck v0 fun x19 =>
 xAddr (some 5) x19 fun x20 =>
 xLoad (some none) x20 h fun x21 =>
 xBin (some (.int .i64)) .sub x21 (.int .i64 (.ofNat 1)) fun x22 =>
 xNilCheck v0 fun x23 =>
 xAddr (some 5) x23 fun x24 =>
 xStore (some 1) x24 x22 h fun h4 =>
 K13 (()) h4)
 (K13 (()) h)
noncomputable abbrev c155_2 (v0 : CV) (k : CV → CH → Bool) (h : CH) : Bool :=
 xJoin (n := 0) (fun s6 h2 =>
 xNilCheck v0 fun x8 =>
 xAddr (some 7) x8 fun x9 =>
 xLoad (some none) x9 h2 fun x10 =>
 xBin (some (.int .i64)) .add x10 (.int .i64 (.ofNat 1)) fun x11 =>
 xNilCheck v0 fun x12 =>
 xAddr (some 7) x12 fun x13 =>
 xStore (some 1) x13 x11 h2 fun h3 =>
 k (.bool true) h3)
 (fun K13 => xNilCheck v0 fun x15 =>
 xAddr (some 5) x15 fun x16 =>
 xLoad (some none) x16 h fun x17 =>
 c155_1 x17 v0 h K13)
noncomputable def bd155 (v0 : CV) (h : CH) (k : CV → CH → Bool) : Bool :=
 xNilCheck v0 fun x1 =>
 xAddr (some 5) x1 fun x2 =>
 xLoad (some none) x2 h fun x3 =>
 xBin (some (.int .i64)) .eql x3 (.int .i64 (.ofNat 0)) fun x4 =>
 xIte x4
 (xNilCheck v0 fun x5 =>
 xAddr (some 6) x5 fun x6 =>
 xStore (some 1) x6 (.bool true) h fun h1 =>
 k (.bool false) h1)
 (c155_2 v0 k h)
noncomputable abbrev ex155 : Ex := fun args h k => a1 args fun v0 => bd155 v0 h k
theorem sim155 : SimF Tryz.prog 155 ex155 := fun args h k hk => by
 obtain ⟨v0, rfl, hk⟩ := a1_ok hk
 exact sim_of (qf := qz) (Z := zs) (C := []) (T := []) ⟨zerosB_ok zsOk, exNil⟩ (.seq .nil (.seq .nil (.join [] [11, 12, 13, 14, 15, 16, 17, 18, 19, 20, 21, 22] .nil .nil))) Tryz.func155 _ h k (Eq.mp (by kernel_rfl : (bd155 v0 h k = true) = _) hk)

noncomputable abbrev c121_1 (v1 : CV) (x23 : CV) (h8 : CH) (x22 : CV) (v0 : CV) (k : CV → CH → Bool) : Bool :=
 xBuild (some (.inl [(0, 1), (1, 1), (2, 1024)])) (some (.agg [(.bytes 1 0), (.int .i64 (.ofNat 0)), (.bytes 1024 0)])) [(0, (.int .u8 (.ofNat 1))), (1, v1), (2, x23)] fun x24 =>
 xNewS (some (259, 1026, 1040, false)) (some [(.bytes 1 0), (.int .i64 (.ofNat 0)), (.bytes 1024 0)]) 1 [(0, x24)] h8 fun x25 h9 =>
 xApp (some (259, 1026, 1040, false)) x22 x25 h9 fun x26 h10 =>
 xNilCheck v0 fun x27 =>
 xAddr (some 4) x27 fun x28 =>
 xStore (some 1) x28 x26 h10 fun h11 =>
 k (.int .i64 (.ofNat 0)) h11
noncomputable abbrev c121_2 (x15 : CV) (x13 : CV) (h6 : CH) (v0 : CV) (x1 : CV) (v1 : CV) (k : CV → CH → Bool) : Bool :=
 xStore (some 1) x15 x13 h6 fun h7 =>
 xNilCheck v0 fun x16 =>
 xAddr (some 2) x16 fun x17 =>
 xLoad (some none) x17 h7 fun x18 =>
 xLoad (some (some 1024)) x1 h7 fun x19 =>
 xMapSet (some (3, .int .i64, 70)) x18 v1 x19 h7 fun h8 =>
 xNilCheck v0 fun x20 =>
 xAddr (some 4) x20 fun x21 =>
 xLoad (some none) x21 h8 fun x22 =>
 xLoad (some (some 1024)) x1 h8 fun x23 =>
 c121_1 v1 x23 h8 x22 v0 k
noncomputable abbrev c121_3 (v1 : CV) (x10 : CV) (h4 : CH) (x9 : CV) (v0 : CV) (x1 : CV) (k : CV → CH → Bool) : Bool :=
 xBuild (some (.inl [(0, 1), (1, 1024)])) (some (.agg [(.int .i64 (.ofNat 0)), (.bytes 1024 0)])) [(0, v1), (1, x10)] fun x11 =>
 xNewS (some (72, 1025, 1032, false)) (some [(.int .i64 (.ofNat 0)), (.bytes 1024 0)]) 1 [(0, x11)] h4 fun x12 h5 =>
 xApp (some (72, 1025, 1032, false)) x9 x12 h5 fun x13 h6 =>
 xNilCheck v0 fun x14 =>
 xAddr (some 3) x14 fun x15 =>
 c121_2 x15 x13 h6 v0 x1 v1 k
noncomputable abbrev c121_4 (k : CV → CH → Bool) (v0 : CV) (x1 : CV) (v1 : CV) (h2 : CH) : Bool :=
 xJoin (n := 1) (fun s3 h3 =>
 xIte s3.1
 (k (.int .i64 (.ofNat 2)) h3)
 (bd155 v0 h3 fun x5 h4 =>
 xUn .not x5 fun x6 =>
 xIte x6
 (k (.int .i64 (.ofNat 3)) h4)
 (xNilCheck v0 fun x7 =>
 xAddr (some 3) x7 fun x8 =>
 xLoad (some none) x8 h4 fun x9 =>
 xLoad (some (some 1024)) x1 h4 fun x10 =>
 c121_3 v1 x10 h4 x9 v0 x1 k)))
 (fun K28 => xBin (some (.int .i64)) .lss v1 (.int .i64 (.ofNat 0)) fun x30 =>
 xIte x30
 (K28 ((.bool true), ()) h2)
 (xNilCheck v0 fun x31 =>
 xAddr (some 0) x31 fun x32 =>
 xLoad (some none) x32 h2 fun x33 =>
 xBin (some (.int .i64)) .geq v1 x33 fun x34 =>
 K28 (x34, ()) h2))
noncomputable def bd121 (v0 v1 v2 : CV) (h : CH) (k : CV → CH → Bool) : Bool :=
 xBox 70 v2 h fun x1 h1 =>
 bd140 v0 h1 fun x2 h2 =>
 xBin (some (.int .i64)) .neq x2 (.int .i64 (.ofNat 0)) fun x3 =>
 xIte x3
 (k x2 h2)
 (c121_4 k v0 x1 v1 h2)
noncomputable abbrev ex121 : Ex := fun args h k => a3 args fun v0 v1 v2 => bd121 v0 v1 v2 h k
theorem sim121 : SimF Tryz.prog 121 ex121 := fun args h k hk => by
 obtain ⟨v0, v1, v2, rfl, hk⟩ := a3_ok hk
 exact sim_of (qf := qz) (Z := zs) (C := [(140, ex140), (155, ex155)]) (T := []) ⟨zerosB_ok zsOk, (exCons (by kernel_rfl) sim140 (exCons (by kernel_rfl) sim155 exNil))⟩ (.seq .nil (.seq .nil (.seq (.join [22] [13, 14, 15, 16, 17, 18, 19, 20, 21] .nil .nil) .nil))) Tryz.func121 _ h k (Eq.mp (by kernel_rfl : (bd121 v0 v1 v2 h k = true) = _) hk)

noncomputable abbrev c154_1 (v1 : CV) (s7 : TupC 1) (v2 : CV) (x1 : CV) (h6 : CH) (K8 : TupC 1 → CH → Bool) : Bool :=
 xBin (some (.int .i64)) .add v1 s7.1 fun x11 =>
 xBin (some (.int .i64)) .mul (.int .i64 (.ofNat 8)) s7.1 fun x12 =>
 xBin (some (.int .u32)) .shr v2 x12 fun x13 =>
 xConv (some (.int .u32)) (some (.int .u8)) x13 fun x14 =>
 xIdx (some (some 1024, 1)) x1 x11 fun x15 =>
 xStore (some 1) x15 x14 h6 fun h7 =>
 xBin (some (.int .i64)) .add s7.1 (.int .i64 (.ofNat 1)) fun x16 =>
 K8 (x16, ()) h7
noncomputable abbrev c154_2 (x1 : CV) (x2 : CV) (k : CV → CH → Bool) (v1 : CV) (h2 : CH) (v2 : CV) : Bool :=
 xJoin (n := 0) (fun s2 h3 =>
 xLoad (some (some 1024)) x1 h3 fun x4 =>
 xStore (some 1024) x2 x4 h3 fun h4 =>
 xLoad (some (some 1024)) x2 h4 fun x5 =>
 k x5 h4)
 (fun K5 => bd150 v1 (.int .i64 (.ofNat 4)) h2 fun x7 h5 =>
 xIte x7
 (xLoop (n := 1) (fun K8 s7 h6 =>
 xBin (some (.int .i64)) .lss s7.1 (.int .i64 (.ofNat 4)) fun x10 =>
 xIte x10
 (c154_1 v1 s7 v2 x1 h6 K8)
 (K5 (()) h6)) 1000000 ((.int .i64 (.ofNat 0)), ()) h5)
 (K5 (()) h5))
noncomputable def bd154 (v0 v1 v2 : CV) (h : CH) (k : CV → CH → Bool) : Bool :=
 xBox 70 v0 h fun x1 h1 =>
 xBoxP 70 [(.bytes 1024 0)] h1 fun x2 h2 =>
 c154_2 x1 x2 k v1 h2 v2
noncomputable abbrev ex154 : Ex := fun args h k => a3 args fun v0 v1 v2 => bd154 v0 v1 v2 h k
theorem sim154 : SimF Tryz.prog 154 ex154 := fun args h k hk => by
 obtain ⟨v0, v1, v2, rfl, hk⟩ := a3_ok hk
 exact sim_of (qf := qz) (Z := zs) (C := [(150, ex150)]) (T := []) ⟨zerosB_ok zsOk, (exCons (by kernel_rfl) sim150 exNil)⟩ (.seq .nil (.join [] [8, 9, 10, 11, 12, 7, 13, 14, 15, 16, 17, 18, 19, 20, 21, 22] (.seq .nil (.cond (.seq .nil (.loop [10] [11, 12, 7, 13, 14, 15, 16, 17, 18, 19, 20, 21, 22] .nil)) .nil)) .nil)) Tryz.func154 _ h k (Eq.mp (by kernel_rfl : (bd154 v0 v1 v2 h k = true) = _) hk)

noncomputable abbrev c122_1 (s25 : TupC 1) (x30 : CV) (x31 : CV) (h11 : CH) (x22 : CV) (K26 : TupC 1 → CH → Bool) : Bool :=
 xBin (some (.int .i64)) .add s25.1 (.int .i64 (.ofNat 1)) fun x32 =>
 xBin (some (.int .i64)) .mul (.int .i64 (.ofNat 4)) x32 fun x33 =>
 xConv (some (.int .i64)) (some (.int .u32)) x30 fun x34 =>
 bd154 x31 x33 x34 h11 fun x35 h12 =>
 xStore (some 1024) x22 x35 h12 fun h13 =>
 xBin (some (.int .i64)) .add s25.1 (.int .i64 (.ofNat 1)) fun x36 =>
 K26 (x36, ()) h13
noncomputable abbrev c122_2 (s25 : TupC 1) (x25 : CV) (x24 : CV) (h11 : CH) (x22 : CV) (K26 : TupC 1 → CH → Bool) (x3 : CV) (k : CV → CH → Bool) : Bool :=
 xBin (some (.int .i64)) .lss s25.1 x25 fun x28 =>
 xIte x28
 (xIdx (some (none, 1)) x24 s25.1 fun x29 =>
 xLoad (some none) x29 h11 fun x30 =>
 xLoad (some (some 1024)) x22 h11 fun x31 =>
 c122_1 s25 x30 x31 h11 x22 K26)
 (xLoad (some (some 1024)) x22 h11 fun x37 =>
 xStore (some 1024) x3 x37 h11 fun h14 =>
 xLoad (some (some 1024)) x3 h14 fun x38 =>
 k (.tup [x38, (.int .i64 (.ofNat 0))]) h14)
noncomputable abbrev c122_3 (x16 : CV) (x20 : CV) (h6 : CH) (x2 : CV) (x3 : CV) (k : CV → CH → Bool) : Bool :=
 bd154 x16 (.int .i64 (.ofNat 0)) x20 h6 fun x21 h8 =>
 xBoxP 70 [(.bytes 1024 0)] h8 fun x22 h9 =>
 xStore (some 1024) x22 x21 h9 fun h10 =>
 xAddr (some 0) x2 fun x23 =>
 xLoad (some none) x23 h10 fun x24 =>
 xLen (some (.inl false)) x24 fun x25 =>
 xLoop (n := 1) (fun K26 s25 h11 =>
 c122_2 s25 x25 x24 h11 x22 K26 x3 k) 1000000 ((.int .i64 (.ofNat 0)), ()) h10
noncomputable abbrev c122_4 (x13 : CV) (x3 : CV) (h6 : CH) (k : CV → CH → Bool) (x2 : CV) : Bool :=
 xIte x13
 (xBuild (some (.inr 1)) (some (.agg [(.bytes 1024 0)])) [] fun x14 =>
 xStore (some 1024) x3 x14 h6 fun h7 =>
 xLoad (some (some 1024)) x3 h7 fun x15 =>
 k (.tup [x15, (.int .i64 (.ofNat 4))]) h7)
 (xBuild (some (.inr 1)) (some (.agg [(.bytes 1024 0)])) [] fun x16 =>
 xAddr (some 0) x2 fun x17 =>
 xLoad (some none) x17 h6 fun x18 =>
 xLen (some (.inl false)) x18 fun x19 =>
 xConv (some (.int .i64)) (some (.int .u32)) x19 fun x20 =>
 c122_3 x16 x20 h6 x2 x3 k)
noncomputable abbrev c122_5 (x6 : CV) (x3 : CV) (h4 : CH) (k : CV → CH → Bool) (x1 : CV) (x2 : CV) : Bool :=
 xIte x6
 (xBuild (some (.inr 1)) (some (.agg [(.bytes 1024 0)])) [] fun x7 =>
 xStore (some 1024) x3 x7 h4 fun h5 =>
 xLoad (some (some 1024)) x3 h5 fun x8 =>
 k (.tup [x8, (.int .i64 (.ofNat 2))]) h5)
 (xLoad (some (some 9)) x1 h4 fun x9 =>
 xAddr (some 0) x2 fun x10 =>
 xLoad (some none) x10 h4 fun x11 =>
 bd157 x9 x11 h4 fun x12 h6 =>
 xUn .not x12 fun x13 =>
 c122_4 x13 x3 h6 k x2)
noncomputable def bd122 (v0 v1 : CV) (h : CH) (k : CV → CH → Bool) : Bool :=
 xBox 49 v0 h fun x1 h1 =>
 xBox 176 v1 h1 fun x2 h2 =>
 xBoxP 70 [(.bytes 1024 0)] h2 fun x3 h3 =>
 xLoad (some (some 9)) x1 h3 fun x4 =>
 bd156 x4 h3 fun x5 h4 =>
 xUn .not x5 fun x6 =>
 c122_5 x6 x3 h4 k x1 x2
noncomputable abbrev ex122 : Ex := fun args h k => a2 args fun v0 v1 => bd122 v0 v1 h k
theorem sim122 : SimF Tryz.prog 122 ex122 := fun args h k hk => by
 obtain ⟨v0, v1, rfl, hk⟩ := a2_ok hk
 exact sim_of (qf := qz) (Z := zs) (C := [(156, ex156), (157, ex157), (154, ex154)]) (T := []) ⟨zerosB_ok zsOk, (exCons (by kernel_rfl) sim156 (exCons (by kernel_rfl) sim157 (exCons (by kernel_rfl) sim154 exNil)))⟩ (.seq .nil (.seq .nil (.seq .nil (.seq .nil (.seq (.seq .nil (.loop [28] [29, 30, 31, 32, 7, 8, 33, 34, 35, 36, 37, 38, 39, 40] .nil)) .nil))))) Tryz.func122 _ h k (Eq.mp (by kernel_rfl : (bd122 v0 v1 h k = true) = _) hk)

noncomputable abbrev c158_1 (x5 : CV) (v0 : CV) (h1 : CH) (x1 : CV) (k : CV → CH → Bool) : Bool :=
 xIte x5
 (xNilCheck v0 fun x6 =>
 xAddr (some 1) x6 fun x7 =>
 xLoad (some none) x7 h1 fun x8 =>
 xAddr (some 0) x1 fun x9 =>
 xLoad (some none) x9 h1 fun x10 =>
 xMapDel (some (3, .int .i64, 70)) x8 x10 h1 fun h2 =>
 k (.tup []) h2)
 (xNilCheck v0 fun x11 =>
 xAddr (some 1) x11 fun x12 =>
 xLoad (some none) x12 h1 fun x13 =>
 xAddr (some 0) x1 fun x14 =>
 xLoad (some none) x14 h1 fun x15 =>
 xAddr (some 1) x1 fun x16 =>
 xLoad (some (some 1024)) x16 h1 fun x17 =>
 xMapSet (some (3, .int .i64, 70)) x13 x15 x17 h1 fun h3 =>
 k (.tup []) h3)
noncomputable def bd158 (v0 v1 : CV) (h : CH) (k : CV → CH → Bool) : Bool :=
 xBox 72 v1 h fun x1 h1 =>
 xAddr (some 1) x1 fun x2 =>
 xLoad (some (some 1024)) x2 h1 fun x3 =>
 xBuild (some (.inr 1)) (some (.agg [(.bytes 1024 0)])) [] fun x4 =>
 xEq (some (.agg (.bytes 1024))) .eql x3 x4 h1 fun x5 =>
 c158_1 x5 v0 h1 x1 k
noncomputable abbrev ex158 : Ex := fun args h k => a2 args fun v0 v1 => bd158 v0 v1 h k
theorem sim158 : SimF Tryz.prog 158 ex158 := fun args h k hk => by
 obtain ⟨v0, v1, rfl, hk⟩ := a2_ok hk
 exact sim_of (qf := qz) (Z := zs) (C := []) (T := []) ⟨zerosB_ok zsOk, exNil⟩ .nil Tryz.func158 _ h k (Eq.mp (by kernel_rfl : (bd158 v0 v1 h k = true) = _) hk)

noncomputable abbrev c123_1 (x7 : CV) (s8 : TupC 1) (h3 : CH) (v0 : CV) (K9 : TupC 1 → CH → Bool) : Bool :=
 xIdx (some (none, 1025)) x7 s8.1 fun x12 =>
 xLoad (some (some 1025)) x12 h3 fun x13 =>
 xBoxP 72 [(.int .i64 (.ofNat 0)), (.bytes 1024 0)] h3 fun x14 h4 =>
 xStore (some 1025) x14 x13 h4 fun h5 =>
 xLoad (some (some 1025)) x14 h5 fun x15 =>
 bd158 v0 x15 h5 fun x16 h6 =>
 xBin (some (.int .i64)) .add s8.1 (.int .i64 (.ofNat 1)) fun x17 =>
 K9 (x17, ()) h6
noncomputable abbrev c123_2 (h8 : CH) (x25 : CV) (v0 : CV) (k : CV → CH → Bool) : Bool :=
 xBuild (some (.inl [(0, 1), (1, 1), (2, 1024)])) (some (.agg [(.bytes 1 0), (.int .i64 (.ofNat 0)), (.bytes 1024 0)])) [(0, (.int .u8 (.ofNat 2)))] fun x26 =>
 xNewS (some (259, 1026, 1040, false)) (some [(.bytes 1 0), (.int .i64 (.ofNat 0)), (.bytes 1024 0)]) 1 [(0, x26)] h8 fun x27 h9 =>
 xApp (some (259, 1026, 1040, false)) x25 x27 h9 fun x28 h10 =>
 xNilCheck v0 fun x29 =>
 xAddr (some 4) x29 fun x30 =>
 xStore (some 1) x30 x28 h10 fun h11 =>
 k (.int .i64 (.ofNat 0)) h11
noncomputable abbrev c123_3 (x11 : CV) (x7 : CV) (s8 : TupC 1) (h3 : CH) (v0 : CV) (K9 : TupC 1 → CH → Bool) (k : CV → CH → Bool) : Bool :=
 xIte x11
 (c123_1 x7 s8 h3 v0 K9)
 (xNilCheck v0 fun x18 =>
 xAddr (some 3) x18 fun x19 =>
 xStore (some 1) x19 .nils h3 fun h7 =>
 xNilCheck v0 fun x20 =>
 xAddr (some 2) x20 fun x21 =>
 xLoad (some none) x21 h7 fun x22 =>
 xMapClr x22 h7 fun h8 =>
 xNilCheck v0 fun x23 =>
 xAddr (some 4) x23 fun x24 =>
 xLoad (some none) x24 h8 fun x25 =>
 c123_2 h8 x25 v0 k)
noncomputable abbrev c123_4 (v0 : CV) (h1 : CH) (k : CV → CH → Bool) : Bool :=
 bd155 v0 h1 fun x3 h2 =>
 xUn .not x3 fun x4 =>
 xIte x4
 (k (.int .i64 (.ofNat 3)) h2)
 (xNilCheck v0 fun x5 =>
 xAddr (some 3) x5 fun x6 =>
 xLoad (some none) x6 h2 fun x7 =>
 xLen (some (.inl false)) x7 fun x8 =>
 xLoop (n := 1) (fun K9 s8 h3 =>
 xBin (some (.int .i64)) .lss s8.1 x8 fun x11 =>
 c123_3 x11 x7 s8 h3 v0 K9 k) 1000000 ((.int .i64 (.ofNat 0)), ()) h2)
noncomputable def bd123 (v0 : CV) (h : CH) (k : CV → CH → Bool) : Bool :=
 bd140 v0 h fun x1 h1 =>
 xBin (some (.int .i64)) .neq x1 (.int .i64 (.ofNat 0)) fun x2 =>
 xIte x2
 (k x1 h1)
 (c123_4 v0 h1 k)
noncomputable abbrev ex123 : Ex := fun args h k => a1 args fun v0 => bd123 v0 h k
theorem sim123 : SimF Tryz.prog 123 ex123 := fun args h k hk => by
 obtain ⟨v0, rfl, hk⟩ := a1_ok hk
 exact sim_of (qf := qz) (Z := zs) (C := [(140, ex140), (155, ex155), (158, ex158)]) (T := []) ⟨zerosB_ok zsOk, (exCons (by kernel_rfl) sim140 (exCons (by kernel_rfl) sim155 (exCons (by kernel_rfl) sim158 exNil)))⟩ (.seq .nil (.seq .nil (.seq .nil (.seq (.seq .nil (.loop [19] [20, 21, 22, 5, 23, 24, 25, 26] .nil)) .nil)))) Tryz.func123 _ h k (Eq.mp (by kernel_rfl : (bd123 v0 h k = true) = _) hk)

noncomputable abbrev c124_1 (x18 : CV) (h3 : CH) (v0 : CV) (k : CV → CH → Bool) : Bool :=
 xAddr (some 1025) x18 fun x19 =>
 xStore (some 1) x19 (.bool false) h3 fun h4 =>
 xNilCheck v0 fun x20 =>
 xAddr (some 2) x20 fun x21 =>
 xLoad (some none) x21 h4 fun x22 =>
 xBin (some (.int .i64)) .sub x22 (.int .i64 (.ofNat 1)) fun x23 =>
 xNilCheck v0 fun x24 =>
 xAddr (some 2) x24 fun x25 =>
 xStore (some 1) x25 x23 h4 fun h5 =>
 k (.int .i64 (.ofNat 0)) h5
noncomputable abbrev c124_2 (v0 : CV) (h2 : CH) (x7 : CV) (v1 : CV) (k : CV → CH → Bool) : Bool :=
 xNilCheck v0 fun x10 =>
 xAddr (some 0) x10 fun x11 =>
 xLoad (some none) x11 h2 fun x12 =>
 xNilCheck x7 fun x13 =>
 xAddr (some 1) x13 fun x14 =>
 xLoad (some (some 1024)) x14 h2 fun x15 =>
 bd121 x12 v1 x15 h2 fun x16 h3 =>
 xBin (some (.int .i64)) .neq x16 (.int .i64 (.ofNat 0)) fun x17 =>
 xIte x17
 (k x16 h3)
 (xNilCheck x7 fun x18 =>
 c124_1 x18 h3 v0 k)
noncomputable abbrev c124_3 (x6 : CV) (k : CV → CH → Bool) (v0 : CV) (v1 : CV) (h1 : CH) : Bool :=
 xExtract x6 0 fun x7 =>
 xExtract x6 1 fun x8 =>
 xJoin (n := 1) (fun s8 h2 =>
 xIte s8.1
 (k (.int .i64 (.ofNat 0)) h2)
 (c124_2 v0 h2 x7 v1 k))
 (fun K25 => xUn .not x8 fun x27 =>
 xIte x27
 (K25 ((.bool true), ()) h1)
 (xNilCheck x7 fun x28 =>
 xAddr (some 1025) x28 fun x29 =>
 xLoad (some none) x29 h1 fun x30 =>
 xUn .not x30 fun x31 =>
 K25 (x31, ()) h1))
noncomputable def bd124 (v0 v1 : CV) (h : CH) (k : CV → CH → Bool) : Bool :=
 bd145 v0 v1 h fun x1 h1 =>
 xBin (some (.int .i64)) .neq x1 (.int .i64 (.ofNat 0)) fun x2 =>
 xIte x2
 (k x1 h1)
 (xNilCheck v0 fun x3 =>
 xAddr (some 1031) x3 fun x4 =>
 xLoad (some none) x4 h1 fun x5 =>
 xLookup (some (3, .int .i64, 239)) (some .nilp) true x5 v1 h1 fun x6 =>
 c124_3 x6 k v0 v1 h1)
noncomputable abbrev ex124 : Ex := fun args h k => a2 args fun v0 v1 => bd124 v0 v1 h k
theorem sim124 : SimF Tryz.prog 124 ex124 := fun args h k hk => by
 obtain ⟨v0, v1, rfl, hk⟩ := a2_ok hk
 exact sim_of (qf := qz) (Z := zs) (C := [(145, ex145), (121, ex121)]) (T := []) ⟨zerosB_ok zsOk, (exCons (by kernel_rfl) sim145 (exCons (by kernel_rfl) sim121 exNil))⟩ (.seq .nil (.seq .nil (.seq .nil (.seq (.join [32] [24, 25, 26, 27, 28, 29, 30, 31] .nil .nil) .nil)))) Tryz.func124 _ h k (Eq.mp (by kernel_rfl : (bd124 v0 v1 h k = true) = _) hk)

noncomputable abbrev c120_1 (x6 : CV) (x5 : CV) (h1 : CH) (v1 : CV) (k : CV → CH → Bool) : Bool :=
 xAddr (some 0) x6 fun x7 =>
 xStore (some 2) x7 x5 h1 fun h2 =>
 xLoad (some none) v1 h2 fun x8 =>
 xNilCheck x8 fun x9 =>
 xAddr (some 17) x9 fun x10 =>
 xLoad (some none) x10 h2 fun x11 =>
 xBin (some (.int .i64)) .add x11 (.int .i64 (.ofNat 1)) fun x12 =>
 xNilCheck x8 fun x13 =>
 xAddr (some 17) x13 fun x14 =>
 xStore (some 1) x14 x12 h2 fun h3 =>
 k (.tup []) h3
noncomputable def bd120 (v0 v1 : CV) (h : CH) (k : CV → CH → Bool) : Bool :=
 xLoad (some none) v0 h fun x1 =>
 xBin (some (.int .i64)) .eql x1 (.int .i64 (.ofNat 0)) fun x2 =>
 xIte x2
 (xLoad (some none) v1 h fun x3 =>
 xNewMap h fun x4 h1 =>
 xBuild (some (.inl [(0, 1), (1, 1)])) (some (.agg [.nils, .nilm])) [(1, x4)] fun x5 =>
 xNilCheck x3 fun x6 =>
 c120_1 x6 x5 h1 v1 k)
 (k (.tup []) h)
noncomputable abbrev ex120 : Ex := fun args h k => a2 args fun v0 v1 => bd120 v0 v1 h k
theorem sim120 : SimF Tryz.prog 120 ex120 := fun args h k hk => by
 obtain ⟨v0, v1, rfl, hk⟩ := a2_ok hk
 exact sim_of (qf := qz) (Z := zs) (C := []) (T := []) ⟨zerosB_ok zsOk, exNil⟩ .nil Tryz.func120 _ h k (Eq.mp (by kernel_rfl : (bd120 v0 v1 h k = true) = _) hk)
theorem simd120 : SimD Tryz.prog 120 ex120 := fun args h k hk => by
 obtain ⟨v0, v1, rfl, hk⟩ := a2_ok hk
 exact simD_of (qf := qz) (Z := zs) (C := []) (T := []) ⟨zerosB_ok zsOk, exNil⟩ .nil Tryz.func120 _ h k (Eq.mp (by kernel_rfl : (bd120 v0 v1 h k = true) = _) hk)

noncomputable abbrev c76_1 (x27 : CV) (x34 : CV) (x35 : CV) (h6 : CH) (x2 : CV) (x1 : CV) (k : CV → CH → Bool) (s8 : TupC 1) (K9 : TupC 1 → CH → Bool) : Bool :=
 bd121 x27 x34 x35 h6 fun x36 h9 =>
 xBin (some (.int .i64)) .neq x36 (.int .i64 (.ofNat 0)) fun x37 =>
 xIte x37
 (xStore (some 1) x2 (.int .i64 (.ofNat 3)) h9 fun h10 =>
 xRunDs [(120, ex120)] [(.fn 120 [] [x2, x1])] h10 fun h11 =>
 xLoad (some none) x2 h11 fun x38 =>
 k x38 h11)
 (xBin (some (.int .i64)) .add s8.1 (.int .i64 (.ofNat 1)) fun x39 =>
 K9 (x39, ()) h9)
noncomputable abbrev c76_2 (x26 : CV) (h6 : CH) (x1 : CV) (s8 : TupC 1) (x21 : CV) (x2 : CV) (k : CV → CH → Bool) (K9 : TupC 1 → CH → Bool) : Bool :=
 xLoad (some none) x26 h6 fun x27 =>
 xLoad (some none) x1 h6 fun x28 =>
 xNilCheck x28 fun x29 =>
 xAddr (some 4) x29 fun x30 =>
 xAddr (some 3) x30 fun x31 =>
 xLoad (some none) x31 h6 fun x32 =>
 xBin (some (.int .i64)) .add x32 (.int .i64 (.ofNat 1)) fun x33 =>
 xBin (some (.int .i64)) .add x33 s8.1 fun x34 =>
 xLoad (some (some 1024)) x21 h6 fun x35 =>
 c76_1 x27 x34 x35 h6 x2 x1 k s8 K9
noncomputable abbrev c76_3 (x20 : CV) (x2 : CV) (h6 : CH) (x1 : CV) (k : CV → CH → Bool) (s8 : TupC 1) (x21 : CV) (K9 : TupC 1 → CH → Bool) : Bool :=
 xBin (some (.int .i64)) .neq x20 (.int .i64 (.ofNat 0)) fun x22 =>
 xIte x22
 (xStore (some 1) x2 (.int .i64 (.ofNat 3)) h6 fun h7 =>
 xRunDs [(120, ex120)] [(.fn 120 [] [x2, x1])] h7 fun h8 =>
 xLoad (some none) x2 h8 fun x23 =>
 k x23 h8)
 (xLoad (some none) x1 h6 fun x24 =>
 xNilCheck x24 fun x25 =>
 xAddr (some 2) x25 fun x26 =>
 c76_2 x26 h6 x1 s8 x21 x2 k K9)
noncomputable abbrev c76_4 (x12 : CV) (h3 : CH) (x1 : CV) (x2 : CV) (k : CV → CH → Bool) (s8 : TupC 1) (K9 : TupC 1 → CH → Bool) : Bool :=
 xLoad (some none) x12 h3 fun x13 =>
 xLoad (some none) x1 h3 fun x14 =>
 xNilCheck x14 fun x15 =>
 xAddr (some 3) x15 fun x16 =>
 xLoad (some none) x16 h3 fun x17 =>
 bd100 x17 x13 h3 fun x18 h4 =>
 xExtract x18 0 fun x19 =>
 xExtract x18 1 fun x20 =>
 xBoxP 70 [(.bytes 1024 0)] h4 fun x21 h5 =>
 xStore (some 1024) x21 x19 h5 fun h6 =>
 c76_3 x20 x2 h6 x1 k s8 x21 K9
noncomputable abbrev c76_5 (x74 : CV) (x70 : CV) (h21 : CH) (x2 : CV) (x1 : CV) (k : CV → CH → Bool) (s65 : TupC 1) (K66 : TupC 1 → CH → Bool) : Bool :=
 bd124 x74 x70 h21 fun x75 h22 =>
 xBin (some (.int .i64)) .neq x75 (.int .i64 (.ofNat 0)) fun x76 =>
 xIte x76
 (xStore (some 1) x2 (.int .i64 (.ofNat 3)) h22 fun h23 =>
 xRunDs [(120, ex120)] [(.fn 120 [] [x2, x1])] h23 fun h24 =>
 xLoad (some none) x2 h24 fun x77 =>
 k x77 h24)
 (xBin (some (.int .i64)) .add s65.1 (.int .i64 (.ofNat 1)) fun x78 =>
 K66 (x78, ()) h22)
noncomputable abbrev c76_6 (x99 : CV) (K81 : TupC 1 → CH → Bool) (h31 : CH) (x1 : CV) : Bool :=
 xBin (some (.int .i64)) .neq x99 (.int .i64 (.ofNat 0)) fun x100 =>
 xIte x100
 (K81 ((.bool true), ()) h31)
 (xLoad (some none) x1 h31 fun x101 =>
 xNilCheck x101 fun x102 =>
 xAddr (some 2) x102 fun x103 =>
 xLoad (some none) x103 h31 fun x104 =>
 bd123 x104 h31 fun x105 h32 =>
 xBin (some (.int .i64)) .neq x105 (.int .i64 (.ofNat 0)) fun x106 =>
 K81 (x106, ()) h32)
noncomputable abbrev c76_7 (x90 : CV) (h30 : CH) (x1 : CV) (K81 : TupC 1 → CH → Bool) : Bool :=
 xAddr (some 2) x90 fun x91 =>
 xLoad (some none) x91 h30 fun x92 =>
 xLoad (some none) x1 h30 fun x93 =>
 xNilCheck x93 fun x94 =>
 xAddr (some 4) x94 fun x95 =>
 xAddr (some 3) x95 fun x96 =>
 xLoad (some none) x96 h30 fun x97 =>
 xBuild (some (.inr 1)) (some (.agg [(.bytes 1024 0)])) [] fun x98 =>
 bd121 x92 x97 x98 h30 fun x99 h31 =>
 c76_6 x99 K81 h31 x1
noncomputable abbrev c76_8 (x2 : CV) (x1 : CV) (k : CV → CH → Bool) (h21 : CH) : Bool :=
 xJoin (n := 1) (fun s78 h25 =>
 xIte s78.1
 (xStore (some 1) x2 (.int .i64 (.ofNat 3)) h25 fun h26 =>
 xRunDs [(120, ex120)] [(.fn 120 [] [x2, x1])] h26 fun h27 =>
 xLoad (some none) x2 h27 fun x80 =>
 k x80 h27)
 (xStore (some 1) x2 (.int .i64 (.ofNat 0)) h25 fun h28 =>
 xRunDs [(120, ex120)] [(.fn 120 [] [x2, x1])] h28 fun h29 =>
 xLoad (some none) x2 h29 fun x81 =>
 k x81 h29))
 (fun K81 => xLoad (some none) x1 h21 fun x83 =>
 xNilCheck x83 fun x84 =>
 xAddr (some 2) x84 fun x85 =>
 xLoad (some none) x85 h21 fun x86 =>
 bd123 x86 h21 fun x87 h30 =>
 xBin (some (.int .i64)) .neq x87 (.int .i64 (.ofNat 0)) fun x88 =>
 xIte x88
 (K81 ((.bool true), ()) h30)
 (xLoad (some none) x1 h30 fun x89 =>
 xNilCheck x89 fun x90 =>
 c76_7 x90 h30 x1 K81))
noncomputable abbrev c76_9 (x65 : CV) (x64 : CV) (x1 : CV) (x2 : CV) (k : CV → CH → Bool) (h18 : CH) : Bool :=
 xLoop (n := 1) (fun K66 s65 h21 =>
 xBin (some (.int .i64)) .lss s65.1 x65 fun x68 =>
 xIte x68
 (xIdx (some (none, 1)) x64 s65.1 fun x69 =>
 xLoad (some none) x69 h21 fun x70 =>
 xLoad (some none) x1 h21 fun x71 =>
 xNilCheck x71 fun x72 =>
 xAddr (some 3) x72 fun x73 =>
 xLoad (some none) x73 h21 fun x74 =>
 c76_5 x74 x70 h21 x2 x1 k s65 K66)
 (c76_8 x2 x1 k h21)) 1000000 ((.int .i64 (.ofNat 0)), ()) h18
noncomputable abbrev c76_10 (s57 : TupC 1) (x2 : CV) (h18 : CH) (x1 : CV) (k : CV → CH → Bool) : Bool :=
 xIte s57.1
 (xStore (some 1) x2 (.int .i64 (.ofNat 3)) h18 fun h19 =>
 xRunDs [(120, ex120)] [(.fn 120 [] [x2, x1])] h19 fun h20 =>
 xLoad (some none) x2 h20 fun x59 =>
 k x59 h20)
 (xLoad (some none) x1 h18 fun x60 =>
 xNilCheck x60 fun x61 =>
 xAddr (some 0) x61 fun x62 =>
 xAddr (some 0) x62 fun x63 =>
 xLoad (some none) x63 h18 fun x64 =>
 xLen (some (.inl false)) x64 fun x65 =>
 c76_9 x65 x64 x1 x2 k h18)
noncomputable abbrev c76_11 (x124 : CV) (K106 : TupC 1 → CH → Bool) (h34 : CH) (x1 : CV) : Bool :=
 xBin (some (.int .i64)) .neq x124 (.int .i64 (.ofNat 0)) fun x125 =>
 xIte x125
 (K106 ((.bool true), ()) h34)
 (xLoad (some none) x1 h34 fun x126 =>
 xNilCheck x126 fun x127 =>
 xAddr (some 2) x127 fun x128 =>
 xLoad (some none) x128 h34 fun x129 =>
 bd123 x129 h34 fun x130 h35 =>
 xBin (some (.int .i64)) .neq x130 (.int .i64 (.ofNat 0)) fun x131 =>
 K106 (x131, ()) h35)
noncomputable abbrev c76_12 (x114 : CV) (h33 : CH) (x1 : CV) (x53 : CV) (K106 : TupC 1 → CH → Bool) : Bool :=
 xNilCheck x114 fun x115 =>
 xAddr (some 2) x115 fun x116 =>
 xLoad (some none) x116 h33 fun x117 =>
 xLoad (some none) x1 h33 fun x118 =>
 xNilCheck x118 fun x119 =>
 xAddr (some 4) x119 fun x120 =>
 xAddr (some 3) x120 fun x121 =>
 xLoad (some none) x121 h33 fun x122 =>
 xLoad (some (some 1024)) x53 h33 fun x123 =>
 bd121 x117 x122 x123 h33 fun x124 h34 =>
 c76_11 x124 K106 h34 x1
noncomputable abbrev c76_13 (x2 : CV) (x1 : CV) (k : CV → CH → Bool) (h15 : CH) (x53 : CV) : Bool :=
 xJoin (n := 1) (fun s57 h18 =>
 c76_10 s57 x2 h18 x1 k)
 (fun K106 => xLoad (some none) x1 h15 fun x108 =>
 xNilCheck x108 fun x109 =>
 xAddr (some 2) x109 fun x110 =>
 xLoad (some none) x110 h15 fun x111 =>
 bd123 x111 h15 fun x112 h33 =>
 xBin (some (.int .i64)) .neq x112 (.int .i64 (.ofNat 0)) fun x113 =>
 xIte x113
 (K106 ((.bool true), ()) h33)
 (xLoad (some none) x1 h33 fun x114 =>
 c76_12 x114 h33 x1 x53 K106))
noncomputable abbrev c76_14 (x2 : CV) (x52 : CV) (h14 : CH) (x1 : CV) (k : CV → CH → Bool) (x53 : CV) : Bool :=
 xStore (some 1) x2 x52 h14 fun h15 =>
 xLoad (some none) x2 h15 fun x54 =>
 xBin (some (.int .i64)) .neq x54 (.int .i64 (.ofNat 0)) fun x55 =>
 xIte x55
 (xLoad (some none) x2 h15 fun x56 =>
 xStore (some 1) x2 x56 h15 fun h16 =>
 xRunDs [(120, ex120)] [(.fn 120 [] [x2, x1])] h16 fun h17 =>
 xLoad (some none) x2 h17 fun x57 =>
 k x57 h17)
 (c76_13 x2 x1 k h15 x53)
noncomputable abbrev c76_15 (x46 : CV) (h3 : CH) (x43 : CV) (x2 : CV) (x1 : CV) (k : CV → CH → Bool) : Bool :=
 xAddr (some 0) x46 fun x47 =>
 xLoad (some none) x47 h3 fun x48 =>
 xBuild (some (.inl [(0, 1)])) (some (.agg [.nils])) [(0, x48)] fun x49 =>
 xQuiet (some ex122) [x43, x49] h3 fun x50 h12 =>
 xExtract x50 0 fun x51 =>
 xExtract x50 1 fun x52 =>
 xBoxP 70 [(.bytes 1024 0)] h12 fun x53 h13 =>
 xStore (some 1024) x53 x51 h13 fun h14 =>
 c76_14 x2 x52 h14 x1 k x53
noncomputable abbrev c76_16 (s8 : TupC 1) (x8 : CV) (x7 : CV) (h3 : CH) (x1 : CV) (x2 : CV) (k : CV → CH → Bool) (K9 : TupC 1 → CH → Bool) : Bool :=
 xBin (some (.int .i64)) .lss s8.1 x8 fun x11 =>
 xIte x11
 (xIdx (some (none, 1)) x7 s8.1 fun x12 =>
 c76_4 x12 h3 x1 x2 k s8 K9)
 (xLoad (some none) x1 h3 fun x40 =>
 xNilCheck x40 fun x41 =>
 xAddr (some 4) x41 fun x42 =>
 xLoad (some (some 9)) x42 h3 fun x43 =>
 xLoad (some none) x1 h3 fun x44 =>
 xNilCheck x44 fun x45 =>
 xAddr (some 0) x45 fun x46 =>
 c76_15 x46 h3 x43 x2 x1 k)
noncomputable def bd76 (v0 : CV) (h : CH) (k : CV → CH → Bool) : Bool :=
 xBox 37 v0 h fun x1 h1 =>
 xBoxP 35 [(.int .i64 (.ofNat 0))] h1 fun x2 h2 =>
 xLoad (some none) x1 h2 fun x3 =>
 xNilCheck x3 fun x4 =>
 xAddr (some 0) x4 fun x5 =>
 xAddr (some 0) x5 fun x6 =>
 xLoad (some none) x6 h2 fun x7 =>
 xLen (some (.inl false)) x7 fun x8 =>
 xLoop (n := 1) (fun K9 s8 h3 =>
 c76_16 s8 x8 x7 h3 x1 x2 k K9) 1000000 ((.int .i64 (.ofNat 0)), ()) h2
noncomputable abbrev ex76 : Ex := fun args h k => a1 args fun v0 => bd76 v0 h k
theorem sim76 : SimF Tryz.prog 76 ex76 := fun args h k hk => by
 obtain ⟨v0, rfl, hk⟩ := a1_ok hk
 exact simDf_of (D := [(120, ex120)]) (qf := qz) (Z := zs) (C := [(100, ex100), (121, ex121), (122, ex122), (124, ex124), (123, ex123)]) (T := []) ⟨zerosB_ok zsOk, (exCons (by kernel_rfl) sim100 (exCons (by kernel_rfl) sim121 (exCons (by kernel_rfl) sim122 (exCons (by kernel_rfl) sim124 (exCons (by kernel_rfl) sim123 exNil)))))⟩ (dxCons (by kernel_rfl) simd120 dxNil) (.seq .nil (.seq .nil (.seq (.seq .nil (.loop [17] [18, 19, 20, 21, 3, 4, 23, 24, 25, 26, 27, 28, 22, 29, 30, 5, 6, 31, 32, 33, 34, 35, 36, 37, 38, 39, 40, 41, 42, 43, 44, 45, 46, 47, 48] .nil)) (.seq .nil (.seq .nil (.seq (.join [93] [66, 67, 68, 69, 70, 71, 72, 73, 74, 75, 76, 77, 78, 79, 80, 81, 82, 83, 84, 85, 86, 87, 88, 89, 90, 91, 92] .nil .nil) (.seq (.seq .nil (.loop [100] [101, 102, 103, 9, 104, 105, 106, 107, 108, 109, 110, 111] .nil)) (.seq (.join [139] [112, 113, 114, 115, 116, 117, 118, 119, 120, 121, 122, 123, 124, 125, 126, 127, 128, 129, 130, 131, 132, 133, 134, 135, 136, 137, 138] .nil .nil) .nil)))))))) Tryz.func76 _ h k (Eq.mp (by kernel_rfl : (bd76 v0 h k = true) = (xFnD Tryz.prog qz zs [(100, ex100), (121, ex121), (122, ex122), (124, ex124), (123, ex123)] [(120, ex120)] [] Tryz.f76 (.seq .nil (.seq .nil (.seq (.seq .nil (.loop [17] [18, 19, 20, 21, 3, 4, 23, 24, 25, 26, 27, 28, 22, 29, 30, 5, 6, 31, 32, 33, 34, 35, 36, 37, 38, 39, 40, 41, 42, 43, 44, 45, 46, 47, 48] .nil)) (.seq .nil (.seq .nil (.seq (.join [93] [66, 67, 68, 69, 70, 71, 72, 73, 74, 75, 76, 77, 78, 79, 80, 81, 82, 83, 84, 85, 86, 87, 88, 89, 90, 91, 92] .nil .nil) (.seq (.seq .nil (.loop [100] [101, 102, 103, 9, 104, 105, 106, 107, 108, 109, 110, 111] .nil)) (.seq (.join [139] [112, 113, 114, 115, 116, 117, 118, 119, 120, 121, 122, 123, 124, 125, 126, 127, 128, 129, 130, 131, 132, 133, 134, 135, 136, 137, 138] .nil .nil) .nil)))))))) [v0] h k = true)) hk)

noncomputable abbrev c32_1 (x23 : CV) (h2 : CH) (x21 : CV) (v0 : CV) (k : CV → CH → Bool) (K14 : TupC 0 → CH → Bool) : Bool :=
 xAddr (some 0) x23 fun x24 =>
 xAddr (some 1) x24 fun x25 =>
 xLoad (some none) x25 h2 fun x26 =>
 xBin (some (.int .i64)) .sub x26 (.int .i64 (.ofNat 1)) fun x27 =>
 xBin (some (.int .i64)) .gtr x21 x27 fun x28 =>
 xIte x28
 (bd76 v0 h2 fun x29 h8 =>
 xBin (some (.int .i64)) .neq x29 (.int .i64 (.ofNat 0)) fun x30 =>
 xIte x30
 (k x29 h8)
 (K14 (()) h8))
 (K14 (()) h2)
noncomputable abbrev c32_2 (v0 : CV) (v1 : CV) (k : CV → CH → Bool) (h2 : CH) : Bool :=
 xJoin (n := 0) (fun s6 h3 =>
 xNewMap h3 fun x8 h4 =>
 xNilCheck v0 fun x9 =>
 xAddr (some 14) x9 fun x10 =>
 xStore (some 1) x10 (.bool true) h4 fun h5 =>
 xNilCheck v0 fun x11 =>
 xAddr (some 15) x11 fun x12 =>
 xStore (some 1) x12 v1 h5 fun h6 =>
 xNilCheck v0 fun x13 =>
 xAddr (some 16) x13 fun x14 =>
 xStore (some 1) x14 x8 h6 fun h7 =>
 k (.int .i64 (.ofNat 0)) h7)
 (fun K14 => xNilCheck v0 fun x16 =>
 xAddr (some 0) x16 fun x17 =>
 xAddr (some 0) x17 fun x18 =>
 xLoad (some none) x18 h2 fun x19 =>
 xLen (some (.inl false)) x19 fun x20 =>
 xBin (some (.int .i64)) .add x20 v1 fun x21 =>
 xNilCheck v0 fun x22 =>
 xAddr (some 4) x22 fun x23 =>
 c32_1 x23 h2 x21 v0 k K14)
noncomputable abbrev c32_3 (v1 : CV) (K30 : TupC 1 → CH → Bool) (h1 : CH) (v0 : CV) : Bool :=
 xBin (some (.int .i64)) .lss v1 (.int .i64 (.ofNat 1)) fun x32 =>
 xIte x32
 (K30 ((.bool true), ()) h1)
 (xNilCheck v0 fun x33 =>
 xAddr (some 4) x33 fun x34 =>
 xAddr (some 0) x34 fun x35 =>
 xAddr (some 1) x35 fun x36 =>
 xLoad (some none) x36 h1 fun x37 =>
 xBin (some (.int .i64)) .sub x37 (.int .i64 (.ofNat 1)) fun x38 =>
 xBin (some (.int .i64)) .gtr v1 x38 fun x39 =>
 K30 (x39, ()) h1)
noncomputable abbrev c32_4 (x1 : CV) (k : CV → CH → Bool) (h1 : CH) (v0 : CV) (v1 : CV) : Bool :=
 xBin (some (.int .i64)) .neq x1 (.int .i64 (.ofNat 0)) fun x2 =>
 xIte x2
 (k x1 h1)
 (xNilCheck v0 fun x3 =>
 xAddr (some 14) x3 fun x4 =>
 xLoad (some none) x4 h1 fun x5 =>
 xIte x5
 (k (.int .i64 (.ofNat 180)) h1)
 (xJoin (n := 1) (fun s5 h2 =>
 xIte s5.1
 (k (.int .i64 (.ofNat 2)) h2)
 (c32_2 v0 v1 k h2))
 (fun K30 => c32_3 v1 K30 h1 v0)))
noncomputable def bd32 (v0 v1 : CV) (h : CH) (k : CV → CH → Bool) : Bool :=
 bd45 v0 h fun x1 h1 =>
 c32_4 x1 k h1 v0 v1
noncomputable abbrev ex32 : Ex := fun args h k => a2 args fun v0 v1 => bd32 v0 v1 h k
theorem sim32 : SimF Tryz.prog 32 ex32 := fun args h k hk => by
 obtain ⟨v0, v1, rfl, hk⟩ := a2_ok hk
 exact sim_of (qf := qz) (Z := zs) (C := [(45, ex45), (76, ex76)]) (T := []) ⟨zerosB_ok zsOk, (exCons (by kernel_rfl) sim45 (exCons (by kernel_rfl) sim76 exNil))⟩ (.seq .nil (.seq (.seq .nil (.seq .nil (.cond .nil (.seq .nil (.cond .nil (.join [18] [19, 20, 21, 22, 23, 24, 25, 26, 27, 28, 29, 30, 31] .nil .nil)))))) (.join [] [32, 33, 34, 35, 36, 37, 38, 39, 40, 41, 42, 43, 44, 45, 46, 47, 48, 49, 6, 50, 51, 52, 4] .nil .nil))) Tryz.func32 _ h k (Eq.mp (by kernel_rfl : (bd32 v0 v1 h k = true) = _) hk)

noncomputable def bd56 (v0 v1 : CV) (h : CH) (k : CV → CH → Bool) : Bool :=
 bd45 v0 h fun x1 h1 =>
 xBin (some (.int .i64)) .neq x1 (.int .i64 (.ofNat 0)) fun x2 =>
 xIte x2
 (k x1 h1)
 (xJoin (n := 1) (fun s2 h2 =>
 xIte s2.1
 (k (.int .i64 (.ofNat 180)) h2)
 (k (.int .i64 (.ofNat 0)) h2))
 (fun K3 => xIte v1
 (bd70 v0 h1 fun x5 h3 =>
 xUn .not x5 fun x6 =>
 K3 (x6, ()) h3)
 (K3 ((.bool false), ()) h1)))
noncomputable abbrev ex56 : Ex := fun args h k => a2 args fun v0 v1 => bd56 v0 v1 h k
theorem sim56 : SimF Tryz.prog 56 ex56 := fun args h k hk => by
 obtain ⟨v0, v1, rfl, hk⟩ := a2_ok hk
 exact sim_of (qf := qz) (Z := zs) (C := [(45, ex45), (70, ex70)]) (T := []) ⟨zerosB_ok zsOk, (exCons (by kernel_rfl) sim45 (exCons (by kernel_rfl) sim70 exNil))⟩ (.seq .nil (.seq .nil (.seq (.join [16] [11, 12, 13, 14, 15] .nil .nil) .nil))) Tryz.func56 _ h k (Eq.mp (by kernel_rfl : (bd56 v0 v1 h k = true) = _) hk)

noncomputable def bd104 (v0 v1 : CV) (h : CH) (k : CV → CH → Bool) : Bool :=
 xMax v0 (.int .i64 (.ofNat 0)) fun x1 =>
 xMin v1 (.int .i64 (.ofNat 8192)) fun x2 =>
 k (.tup [x1, x2]) h
noncomputable abbrev ex104 : Ex := fun args h k => a2 args fun v0 v1 => bd104 v0 v1 h k
theorem sim104 : SimF Tryz.prog 104 ex104 := fun args h k hk => by
 obtain ⟨v0, v1, rfl, hk⟩ := a2_ok hk
 exact sim_of (qf := qz) (Z := zs) (C := []) (T := []) ⟨zerosB_ok zsOk, exNil⟩ .nil Tryz.func104 _ h k (Eq.mp (by kernel_rfl : (bd104 v0 v1 h k = true) = _) hk)

noncomputable abbrev c106_1 (v1 : CV) (x1 : CV) (h1 : CH) (k : CV → CH → Bool) : Bool :=
 xBin (some (.int .i64)) .quo v1 (.int .i64 (.ofNat 8)) fun x4 =>
 xIdx (some (some 1024, 1)) x1 x4 fun x5 =>
 xLoad (some none) x5 h1 fun x6 =>
 xBin (some (.int .i64)) .rem v1 (.int .i64 (.ofNat 8)) fun x7 =>
 xBin (some (.int .u8)) .shl (.int .u8 (.ofNat 1)) x7 fun x8 =>
 xBin (some (.int .u8)) .and x6 x8 fun x9 =>
 xBin (some (.int .u8)) .neq x9 (.int .u8 (.ofNat 0)) fun x10 =>
 k x10 h1
noncomputable def bd106 (v0 v1 : CV) (h : CH) (k : CV → CH → Bool) : Bool :=
 xBox 70 v0 h fun x1 h1 =>
 xBin (some (.int .i64)) .geq v1 (.int .i64 (.ofNat 0)) fun x2 =>
 xIte x2
 (xBin (some (.int .i64)) .lss v1 (.int .i64 (.ofNat 8192)) fun x3 =>
 xIte x3
 (c106_1 v1 x1 h1 k)
 (k (.bool false) h1))
 (k (.bool false) h1)
noncomputable abbrev ex106 : Ex := fun args h k => a2 args fun v0 v1 => bd106 v0 v1 h k
theorem sim106 : SimF Tryz.prog 106 ex106 := fun args h k hk => by
 obtain ⟨v0, v1, rfl, hk⟩ := a2_ok hk
 exact sim_of (qf := qz) (Z := zs) (C := []) (T := []) ⟨zerosB_ok zsOk, exNil⟩ .nil Tryz.func106 _ h k (Eq.mp (by kernel_rfl : (bd106 v0 v1 h k = true) = _) hk)

noncomputable abbrev c209_1 (s7 : TupC 1) (s4 : TupC 1) (K5 : TupC 1 → CH → Bool) (h4 : CH) (x1 : CV) (k : CV → CH → Bool) : Bool :=
 xIte s7.1
 (xBin (some (.int .i64)) .add s4.1 (.int .i64 (.ofNat 7)) fun x9 =>
 xBin (some (.int .i64)) .add x9 (.int .i64 (.ofNat 1)) fun x10 =>
 K5 (x10, ()) h4)
 (xLoad (some (some 1024)) x1 h4 fun x11 =>
 bd106 x11 s4.1 h4 fun x12 h5 =>
 xUn .not x12 fun x13 =>
 xIte x13
 (k s4.1 h5)
 (xBin (some (.int .i64)) .add s4.1 (.int .i64 (.ofNat 1)) fun x14 =>
 K5 (x14, ()) h5))
noncomputable abbrev c209_2 (s4 : TupC 1) (x4 : CV) (x1 : CV) (h3 : CH) (K14 : TupC 1 → CH → Bool) : Bool :=
 xBin (some (.int .i64)) .add s4.1 (.int .i64 (.ofNat 8)) fun x18 =>
 xBin (some (.int .i64)) .leq x18 x4 fun x19 =>
 xIte x19
 (xBin (some (.int .i64)) .quo s4.1 (.int .i64 (.ofNat 8)) fun x20 =>
 xIdx (some (some 1024, 1)) x1 x20 fun x21 =>
 xLoad (some none) x21 h3 fun x22 =>
 xBin (some (.int .u8)) .eql x22 (.int .u8 (.ofNat 255)) fun x23 =>
 K14 (x23, ()) h3)
 (K14 ((.bool false), ()) h3)
noncomputable abbrev c209_3 (s4 : TupC 1) (x4 : CV) (K5 : TupC 1 → CH → Bool) (x1 : CV) (k : CV → CH → Bool) (h3 : CH) : Bool :=
 xBin (some (.int .i64)) .lss s4.1 x4 fun x7 =>
 xIte x7
 (xJoin (n := 1) (fun s7 h4 =>
 c209_1 s7 s4 K5 h4 x1 k)
 (fun K14 => xBin (some (.int .i64)) .rem s4.1 (.int .i64 (.ofNat 8)) fun x16 =>
 xBin (some (.int .i64)) .eql x16 (.int .i64 (.ofNat 0)) fun x17 =>
 xIte x17
 (c209_2 s4 x4 x1 h3 K14)
 (K14 ((.bool false), ()) h3)))
 (k (.int .i64 (.negSucc 0)) h3)
noncomputable def bd209 (v0 v1 v2 : CV) (h : CH) (k : CV → CH → Bool) : Bool :=
 xBox 70 v0 h fun x1 h1 =>
 bd104 v1 v2 h1 fun x2 h2 =>
 xExtract x2 0 fun x3 =>
 xExtract x2 1 fun x4 =>
 xLoop (n := 1) (fun K5 s4 h3 =>
 c209_3 s4 x4 K5 x1 k h3) 1000000 (x3, ()) h2
noncomputable abbrev ex209 : Ex := fun args h k => a3 args fun v0 v1 v2 => bd209 v0 v1 v2 h k
theorem sim209 : SimF Tryz.prog 209 ex209 := fun args h k hk => by
 obtain ⟨v0, v1, v2, rfl, hk⟩ := a3_ok hk
 exact sim_of (qf := qz) (Z := zs) (C := [(104, ex104), (106, ex106)]) (T := []) ⟨zerosB_ok zsOk, (exCons (by kernel_rfl) sim104 (exCons (by kernel_rfl) sim106 exNil))⟩ (.seq .nil (.seq .nil (.seq (.seq .nil (.loop [7] [15, 16, 17, 20, 21, 22, 23, 24, 25, 26, 27, 28, 29, 30, 31, 32, 33, 34, 35, 36, 37, 38, 39, 40, 41, 42, 6, 18, 19] (.seq .nil (.seq (.seq (.join [35] [20, 21, 22, 23, 24, 25, 26, 27, 28, 29, 30, 31, 32, 33, 34] .nil .nil) .nil) .nil)))) .nil))) Tryz.func209 _ h k (Eq.mp (by kernel_rfl : (bd209 v0 v1 v2 h k = true) = _) hk)

noncomputable abbrev c208_1 (x4 : CV) (v0 : CV) (x3 : CV) (v4 : CV) (h2 : CH) (x1 : CV) (v5 : CV) (k : CV → CH → Bool) : Bool :=
 xIte x4
 (xBin (some (.int .i64)) .mul v0 (.int .i64 (.ofNat 8192)) fun x5 =>
 xBin (some (.int .i64)) .add x5 x3 fun x6 =>
 xStore (some 1) v4 x6 h2 fun h3 =>
 xLoad (some (some 1024)) x1 h3 fun x7 =>
 xStore (some 1024) v5 x7 h3 fun h4 =>
 xBin (some (.int .i64)) .lss x3 (.int .i64 (.ofNat 0)) fun x8 =>
 k x8 h4)
 (xBin (some (.int .i64)) .lss x3 (.int .i64 (.ofNat 0)) fun x9 =>
 k x9 h2)
noncomputable def bd208 (v0 v1 v2 v3 v4 v5 : CV) (h : CH) (k : CV → CH → Bool) : Bool :=
 xBox 70 v1 h fun x1 h1 =>
 xLoad (some (some 1024)) x1 h1 fun x2 =>
 bd209 x2 v2 v3 h1 fun x3 h2 =>
 xBin (some (.int .i64)) .geq x3 (.int .i64 (.ofNat 0)) fun x4 =>
 c208_1 x4 v0 x3 v4 h2 x1 v5 k
noncomputable abbrev ex208 : Ex := fun args h k => a6 args fun v0 v1 v2 v3 v4 v5 => bd208 v0 v1 v2 v3 v4 v5 h k
theorem sim208 : SimF Tryz.prog 208 ex208 := fun args h k hk => by
 obtain ⟨v0, v1, v2, v3, v4, v5, rfl, hk⟩ := a6_ok hk
 exact sim_of (qf := qz) (Z := zs) (C := [(209, ex209)]) (T := []) ⟨zerosB_ok zsOk, (exCons (by kernel_rfl) sim209 exNil)⟩ .nil Tryz.func208 _ h k (Eq.mp (by kernel_rfl : (bd208 v0 v1 v2 v3 v4 v5 h k = true) = _) hk)

noncomputable def bd105 (v0 : CV) (h : CH) (k : CV → CH → Bool) : Bool :=
 xIndex (some none) (.str ⟨#[0, 1, 1, 2, 1, 2, 2, 3, 1, 2, 2, 3, 2, 3, 3, 4, 1, 2, 2, 3, 2, 3, 3, 4, 2, 3, 3, 4, 3, 4, 4, 5, 1, 2, 2, 3, 2, 3, 3, 4, 2, 3, 3, 4, 3, 4, 4, 5, 2, 3, 3, 4, 3, 4, 4, 5, 3, 4, 4, 5, 4, 5, 5, 6, 1, 2, 2, 3, 2, 3, 3, 4, 2, 3, 3, 4, 3, 4, 4, 5, 2, 3, 3, 4, 3, 4, 4, 5, 3, 4, 4, 5, 4, 5, 5, 6, 2, 3, 3, 4, 3, 4, 4, 5, 3, 4, 4, 5, 4, 5, 5, 6, 3, 4, 4, 5, 4, 5, 5, 6, 4, 5, 5, 6, 5, 6, 6, 7, 1, 2, 2, 3, 2, 3, 3, 4, 2, 3, 3, 4, 3, 4, 4, 5, 2, 3, 3, 4, 3, 4, 4, 5, 3, 4, 4, 5, 4, 5, 5, 6, 2, 3, 3, 4, 3, 4, 4, 5, 3, 4, 4, 5, 4, 5, 5, 6, 3, 4, 4, 5, 4, 5, 5, 6, 4, 5, 5, 6, 5, 6, 6, 7, 2, 3, 3, 4, 3, 4, 4, 5, 3, 4, 4, 5, 4, 5, 5, 6, 3, 4, 4, 5, 4, 5, 5, 6, 4, 5, 5, 6, 5, 6, 6, 7, 3, 4, 4, 5, 4, 5, 5, 6, 4, 5, 5, 6, 5, 6, 6, 7, 4, 5, 5, 6, 5, 6, 6, 7, 5, 6, 6, 7, 6, 7, 7, 8]⟩) v0 fun x1 =>
 xConv (some (.int .u8)) (some (.int .i64)) x1 fun x2 =>
 k x2 h
noncomputable abbrev ex105 : Ex := fun args h k => a1 args fun v0 => bd105 v0 h k
theorem sim105 : SimF Tryz.prog 105 ex105 := fun args h k hk => by
 obtain ⟨v0, rfl, hk⟩ := a1_ok hk
 exact sim_of (qf := qz) (Z := zs) (C := []) (T := []) ⟨zerosB_ok zsOk, exNil⟩ .nil Tryz.func105 _ h k (Eq.mp (by kernel_rfl : (bd105 v0 h k = true) = _) hk)

noncomputable abbrev c59_1 (s4 : TupC 2) (x1 : CV) (h4 : CH) (K5 : TupC 2 → CH → Bool) : Bool :=
 xBin (some (.int .i64)) .quo s4.2.1 (.int .i64 (.ofNat 8)) fun x9 =>
 xIdx (some (some 1024, 1)) x1 x9 fun x10 =>
 xLoad (some none) x10 h4 fun x11 =>
 bd105 x11 h4 fun x12 h5 =>
 xBin (some (.int .i64)) .add s4.1 x12 fun x13 =>
 xBin (some (.int .i64)) .add s4.2.1 (.int .i64 (.ofNat 7)) fun x14 =>
 xBin (some (.int .i64)) .add x14 (.int .i64 (.ofNat 1)) fun x15 =>
 K5 (x13, x15, ()) h5
noncomputable abbrev c59_2 (s7 : TupC 1) (s4 : TupC 2) (x1 : CV) (h4 : CH) (K5 : TupC 2 → CH → Bool) : Bool :=
 xIte s7.1
 (c59_1 s4 x1 h4 K5)
 (xLoad (some (some 1024)) x1 h4 fun x16 =>
 bd106 x16 s4.2.1 h4 fun x17 h6 =>
 xIte x17
 (xBin (some (.int .i64)) .add s4.1 (.int .i64 (.ofNat 1)) fun x18 =>
 xBin (some (.int .i64)) .add s4.2.1 (.int .i64 (.ofNat 1)) fun x19 =>
 K5 (x18, x19, ()) h6)
 (xBin (some (.int .i64)) .add s4.2.1 (.int .i64 (.ofNat 1)) fun x20 =>
 K5 (s4.1, x20, ()) h6))
noncomputable abbrev c59_3 (s4 : TupC 2) (x1 : CV) (K5 : TupC 2 → CH → Bool) (x4 : CV) (h3 : CH) : Bool :=
 xJoin (n := 1) (fun s7 h4 =>
 c59_2 s7 s4 x1 h4 K5)
 (fun K20 => xBin (some (.int .i64)) .rem s4.2.1 (.int .i64 (.ofNat 8)) fun x22 =>
 xBin (some (.int .i64)) .eql x22 (.int .i64 (.ofNat 0)) fun x23 =>
 xIte x23
 (xBin (some (.int .i64)) .add s4.2.1 (.int .i64 (.ofNat 8)) fun x24 =>
 xBin (some (.int .i64)) .leq x24 x4 fun x25 =>
 K20 (x25, ()) h3)
 (K20 ((.bool false), ()) h3))
noncomputable def bd59 (v0 v1 v2 : CV) (h : CH) (k : CV → CH → Bool) : Bool :=
 xBox 70 v0 h fun x1 h1 =>
 bd104 v1 v2 h1 fun x2 h2 =>
 xExtract x2 0 fun x3 =>
 xExtract x2 1 fun x4 =>
 xLoop (n := 2) (fun K5 s4 h3 =>
 xBin (some (.int .i64)) .lss s4.2.1 x4 fun x7 =>
 xIte x7
 (c59_3 s4 x1 K5 x4 h3)
 (k s4.1 h3)) 1000000 ((.int .i64 (.ofNat 0)), x3, ()) h2
noncomputable abbrev ex59 : Ex := fun args h k => a3 args fun v0 v1 v2 => bd59 v0 v1 v2 h k
theorem sim59 : SimF Tryz.prog 59 ex59 := fun args h k hk => by
 obtain ⟨v0, v1, v2, rfl, hk⟩ := a3_ok hk
 exact sim_of (qf := qz) (Z := zs) (C := [(104, ex104), (105, ex105), (106, ex106)]) (T := []) ⟨zerosB_ok zsOk, (exCons (by kernel_rfl) sim104 (exCons (by kernel_rfl) sim105 (exCons (by kernel_rfl) sim106 exNil)))⟩ (.seq .nil (.seq .nil (.seq .nil (.seq (.seq .nil (.loop [7, 8] [16, 17, 18, 21, 22, 23, 24, 25, 26, 27, 28, 29, 30, 31, 32, 33, 34, 35, 36, 37, 38, 39, 40, 41, 42, 43, 19, 20] (.seq .nil (.seq (.join [29] [21, 22, 23, 24, 25, 26, 27, 28] .nil .nil) .nil)))) .nil)))) Tryz.func59 _ h k (Eq.mp (by kernel_rfl : (bd59 v0 v1 v2 h k = true) = _) hk)

noncomputable abbrev c58_1 (v3 : CV) (v2 : CV) (x1 : CV) (h1 : CH) (v4 : CV) (k : CV → CH → Bool) : Bool :=
 xBin (some (.int .i64)) .sub v3 v2 fun x2 =>
 xLoad (some (some 1024)) x1 h1 fun x3 =>
 xLoad (some none) v4 h1 fun x4 =>
 bd59 x3 v2 v3 h1 fun x5 h2 =>
 xLoad (some none) v4 h2 fun x6 => ifX (sameX x4 x6) (
 xBin (some (.int .i64)) .sub x2 x5 fun x7 =>
 xBin (some (.int .i64)) .add x4 x7 fun x8 =>
 xStore (some 1) v4 x8 h2 fun h3 =>
 k (.bool true) h3) false
noncomputable def bd58 (v0 v1 v2 v3 v4 : CV) (h : CH) (k : CV → CH → Bool) : Bool :=
 xBox 70 v1 h fun x1 h1 =>
 c58_1 v3 v2 x1 h1 v4 k
noncomputable abbrev ex58 : Ex := fun args h k => a5 args fun v0 v1 v2 v3 v4 => bd58 v0 v1 v2 v3 v4 h k
theorem sim58 : SimF Tryz.prog 58 ex58 := fun args h k hk => by
 obtain ⟨v0, v1, v2, v3, v4, rfl, hk⟩ := a5_ok hk
 exact sim_of (qf := qz) (Z := zs) (C := [(59, ex59)]) (T := [(1, .ld ⟨[1, 2, 3, 4, 5, 6], 0, 7, [8, 9, 10]⟩)]) ⟨zerosB_ok zsOk, (exCons (by kernel_rfl) sim59 exNil)⟩ .nil Tryz.func58 _ h k (Eq.mp (by kernel_rfl : (bd58 v0 v1 v2 v3 v4 h k = true) = _) hk)

noncomputable abbrev c57_1 (k : CV → CH → Bool) (s4 : TupC 1) (K5 : TupC 1 → CH → Bool) (x20 : CV) (x26 : CV) (x14 : CV) (h7 : CH) (v1 : CV) : Bool :=
 xJoin (n := 1) (fun s26 h8 =>
 xIte s26.1
 (k (.int .i64 (.ofNat 0)) h8)
 (xBin (some (.int .i64)) .add s4.1 (.int .i64 (.ofNat 1)) fun x28 =>
 K5 (x28, ()) h8))
 (fun K28 => xBin (some (.int .i64)) .lss x20 x26 fun x30 =>
 xIte x30
 (xLoad (some (some 1024)) x14 h7 fun x31 =>
 xCallV [(97, ex97), (54, ex54), (208, ex208), (58, ex58)] v1 [s4.1, x31, x20, x26] h7 fun x32 h9 =>
 xUn .not x32 fun x33 =>
 K28 (x33, ()) h9)
 (K28 ((.bool false), ()) h7))
noncomputable abbrev c57_2 (x17 : CV) (x18 : CV) (x2 : CV) (h7 : CH) (s4 : TupC 1) (k : CV → CH → Bool) (K5 : TupC 1 → CH → Bool) (x14 : CV) (v1 : CV) : Bool :=
 xBin (some (.int .i64)) .sub x17 x18 fun x19 =>
 xMax x19 (.int .i64 (.ofNat 0)) fun x20 =>
 xAddr (some 0) x2 fun x21 =>
 xAddr (some 0) x21 fun x22 =>
 xLoad (some none) x22 h7 fun x23 =>
 xBin (some (.int .i64)) .mul s4.1 (.int .i64 (.ofNat 8192)) fun x24 =>
 xBin (some (.int .i64)) .sub x23 x24 fun x25 =>
 xMin x25 (.int .i64 (.ofNat 8192)) fun x26 =>
 c57_1 k s4 K5 x20 x26 x14 h7 v1
noncomputable abbrev c57_3 (x11 : CV) (h5 : CH) (x12 : CV) (k : CV → CH → Bool) (x2 : CV) (s4 : TupC 1) (K5 : TupC 1 → CH → Bool) (v1 : CV) : Bool :=
 xExtract x11 1 fun x13 =>
 xBoxP 70 [(.bytes 1024 0)] h5 fun x14 h6 =>
 xStore (some 1024) x14 x12 h6 fun h7 =>
 xBin (some (.int .i64)) .neq x13 (.int .i64 (.ofNat 0)) fun x15 =>
 xIte x15
 (k x13 h7)
 (xAddr (some 8) x2 fun x16 =>
 xLoad (some none) x16 h7 fun x17 =>
 xBin (some (.int .i64)) .mul s4.1 (.int .i64 (.ofNat 8192)) fun x18 =>
 c57_2 x17 x18 x2 h7 s4 k K5 x14 v1)
noncomputable abbrev c57_4 (x4 : CV) (x2 : CV) (v0 : CV) (k : CV → CH → Bool) (v1 : CV) (h3 : CH) : Bool :=
 xLoop (n := 1) (fun K5 s4 h4 =>
 xBin (some (.int .i64)) .lss s4.1 x4 fun x7 =>
 xIte x7
 (xAddr (some 6) x2 fun x8 =>
 xLoad (some none) x8 h4 fun x9 =>
 xBin (some (.int .i64)) .add x9 s4.1 fun x10 =>
 bd54 v0 x10 h4 fun x11 h5 =>
 xExtract x11 0 fun x12 =>
 c57_3 x11 h5 x12 k x2 s4 K5 v1)
 (k (.int .i64 (.ofNat 0)) h4)) 1000000 ((.int .i64 (.ofNat 0)), ()) h3
noncomputable abbrev c57_5 (h1 : CH) (x1 : CV) (v0 : CV) (k : CV → CH → Bool) (v1 : CV) : Bool :=
 xBoxP 49 [(.int .i64 (.ofNat 0)), (.int .i64 (.ofNat 0)), (.int .i64 (.ofNat 0)), (.int .i64 (.ofNat 0)), (.int .i64 (.ofNat 0)), (.int .i64 (.ofNat 0)), (.int .i64 (.ofNat 0)), (.int .i64 (.ofNat 0)), (.int .i64 (.ofNat 0))] h1 fun x2 h2 =>
 xStore (some 9) x2 x1 h2 fun h3 =>
 xAddr (some 7) x2 fun x3 =>
 xLoad (some none) x3 h3 fun x4 =>
 c57_4 x4 x2 v0 k v1 h3
noncomputable def bd57 (v0 v1 : CV) (h : CH) (k : CV → CH → Bool) : Bool :=
 bd97 v0 h fun x1 h1 =>
 c57_5 h1 x1 v0 k v1
noncomputable abbrev ex57 : Ex := fun args h k => a2 args fun v0 v1 => bd57 v0 v1 h k
theorem sim57 : SimF Tryz.prog 57 ex57 := fun args h k hk => by
 obtain ⟨v0, v1, rfl, hk⟩ := a2_ok hk
 exact sim_of (qf := qz) (Z := zs) (C := [(97, ex97), (54, ex54), (208, ex208), (58, ex58)]) (T := []) ⟨zerosB_ok zsOk, (exCons (by kernel_rfl) sim97 (exCons (by kernel_rfl) sim54 (exCons (by kernel_rfl) sim208 (exCons (by kernel_rfl) sim58 exNil))))⟩ (.seq .nil (.seq .nil (.seq .nil (.seq (.seq .nil (.loop [15] [16, 17, 6, 19, 20, 21, 22, 23, 24, 18, 25, 26, 7, 8, 27, 28, 29, 4, 30, 31, 32, 33, 34, 35, 9, 36, 37, 38, 39, 40, 41, 42, 10, 43, 44, 45, 46, 47, 48, 49, 50, 51, 52, 53, 54, 55] (.seq .nil (.seq .nil (.seq (.seq .nil (.seq .nil (.seq .nil (.seq .nil (.seq .nil (.join [54] [43, 44, 45, 46, 47, 48, 49, 50, 51, 52, 53] .nil .nil)))))) .nil))))) .nil)))) Tryz.func57 _ h k (Eq.mp (by kernel_rfl : (bd57 v0 v1 h k = true) = _) hk)

noncomputable abbrev c20_1 (x2 : CV) (k : CV → CH → Bool) (x1 : CV) (h1 : CH) (v0 : CV) : Bool :=
 xIte x2
 (k (.tup [(.int .i64 (.ofNat 0)), x1]) h1)
 (xBoxP 3 [(.int .i64 (.ofNat 0))] h1 fun x3 h2 =>
 xStore (some 1) x3 (.int .i64 (.ofNat 0)) h2 fun h3 =>
 bd57 v0 (.fn 58 [] [x3]) h3 fun x4 h4 =>
 xBin (some (.int .i64)) .neq x4 (.int .i64 (.ofNat 0)) fun x5 =>
 xIte x5
 (k (.tup [(.int .i64 (.ofNat 0)), x4]) h4)
 (xLoad (some none) x3 h4 fun x6 =>
 k (.tup [x6, (.int .i64 (.ofNat 0))]) h4))
noncomputable def bd20 (v0 : CV) (h : CH) (k : CV → CH → Bool) : Bool :=
 bd56 v0 (.bool false) h fun x1 h1 =>
 xBin (some (.int .i64)) .neq x1 (.int .i64 (.ofNat 0)) fun x2 =>
 c20_1 x2 k x1 h1 v0
noncomputable abbrev ex20 : Ex := fun args h k => a1 args fun v0 => bd20 v0 h k
theorem sim20 : SimF Tryz.prog 20 ex20 := fun args h k hk => by
 obtain ⟨v0, rfl, hk⟩ := a1_ok hk
 exact sim_of (qf := qz) (Z := zs) (C := [(56, ex56), (57, ex57)]) (T := []) ⟨zerosB_ok zsOk, (exCons (by kernel_rfl) sim56 (exCons (by kernel_rfl) sim57 exNil))⟩ .nil Tryz.func20 _ h k (Eq.mp (by kernel_rfl : (bd20 v0 h k = true) = _) hk)

noncomputable abbrev c72_1 (v0 : CV) (h2 : CH) (k : CV → CH → Bool) (x10 : CV) : Bool :=
 bd20 v0 h2 fun x13 h3 =>
 xExtract x13 0 fun x14 =>
 xExtract x13 1 fun x15 =>
 xJoin (n := 1) (fun s15 h4 =>
 xIte s15.1
 (k (.int .i64 (.ofNat 16)) h4)
 (k x15 h4))
 (fun K16 => xBin (some (.int .i64)) .eql x15 (.int .i64 (.ofNat 0)) fun x18 =>
 xIte x18
 (xBin (some (.int .i64)) .gtr x10 x14 fun x19 =>
 K16 (x19, ()) h3)
 (K16 ((.bool false), ()) h3))
noncomputable abbrev c72_2 (x5 : CV) (h1 : CH) (v0 : CV) (v1 : CV) (k : CV → CH → Bool) : Bool :=
 xLoad (some none) x5 h1 fun x6 =>
 xConv (some (.int .u32)) (some (.int .i64)) x6 fun x7 =>
 xBin (some (.int .i64)) .quo x7 (.int .i64 (.ofNat 1024)) fun x8 =>
 bd68 v0 v1 x8 (.int .i64 (.ofNat 1)) h1 fun x9 h2 =>
 xExtract x9 0 fun x10 =>
 xExtract x9 1 fun x11 =>
 xBin (some (.int .i64)) .neq x11 (.int .i64 (.ofNat 0)) fun x12 =>
 xIte x12
 (k x11 h2)
 (c72_1 v0 h2 k x10)
noncomputable def bd72 (v0 v1 v2 : CV) (h : CH) (k : CV → CH → Bool) : Bool :=
 xBox 78 v2 h fun x1 h1 =>
 xAddr (some 2) x1 fun x2 =>
 xLoad (some none) x2 h1 fun x3 =>
 xBin (some (.int .u32)) .geq x3 (.int .u32 (.ofNat 67381248)) fun x4 =>
 xIte x4
 (k (.int .i64 (.ofNat 17)) h1)
 (xAddr (some 2) x1 fun x5 =>
 c72_2 x5 h1 v0 v1 k)
noncomputable abbrev ex72 : Ex := fun args h k => a3 args fun v0 v1 v2 => bd72 v0 v1 v2 h k
theorem sim72 : SimF Tryz.prog 72 ex72 := fun args h k hk => by
 obtain ⟨v0, v1, v2, rfl, hk⟩ := a3_ok hk
 exact sim_of (qf := qz) (Z := zs) (C := [(68, ex68), (20, ex20)]) (T := []) ⟨zerosB_ok zsOk, (exCons (by kernel_rfl) sim68 (exCons (by kernel_rfl) sim20 exNil))⟩ (.seq .nil (.seq .nil (.seq .nil (.seq .nil (.seq .nil (.seq (.join [37] [31, 32, 33, 34, 35, 36] .nil .nil) .nil)))))) Tryz.func72 _ h k (Eq.mp (by kernel_rfl : (bd72 v0 v1 v2 h k = true) = _) hk)

noncomputable abbrev c210_1 (v1 : CV) (x1 : CV) (h5 : CH) (K5 : TupC 0 → CH → Bool) : Bool :=
 xBin (some (.int .i64)) .quo v1 (.int .i64 (.ofNat 8)) fun x8 =>
 xIdx (some (some 1024, 1)) x1 x8 fun x9 =>
 xLoad (some none) x9 h5 fun x10 =>
 xBin (some (.int .i64)) .rem v1 (.int .i64 (.ofNat 8)) fun x11 =>
 xBin (some (.int .u8)) .shl (.int .u8 (.ofNat 1)) x11 fun x12 =>
 xBin (some (.int .u8)) .or x10 x12 fun x13 =>
 xIdx (some (some 1024, 1)) x1 x8 fun x14 =>
 xStore (some 1) x14 x13 h5 fun h6 =>
 K5 (()) h6
noncomputable abbrev c210_2 (x1 : CV) (x15 : CV) (h5 : CH) (v1 : CV) (K5 : TupC 0 → CH → Bool) : Bool :=
 xIdx (some (some 1024, 1)) x1 x15 fun x16 =>
 xLoad (some none) x16 h5 fun x17 =>
 xBin (some (.int .i64)) .rem v1 (.int .i64 (.ofNat 8)) fun x18 =>
 xBin (some (.int .u8)) .shl (.int .u8 (.ofNat 1)) x18 fun x19 =>
 xBin (some (.int .u8)) .andNot x17 x19 fun x20 =>
 xIdx (some (some 1024, 1)) x1 x15 fun x21 =>
 xStore (some 1) x21 x20 h5 fun h7 =>
 K5 (()) h7
noncomputable abbrev c210_3 (K5 : TupC 0 → CH → Bool) (v2 : CV) (v1 : CV) (x1 : CV) (h2 : CH) : Bool :=
 xJoin (n := 1) (fun s6 h5 =>
 xIte s6.1
 (K5 (()) h5)
 (xIte v2
 (c210_1 v1 x1 h5 K5)
 (xBin (some (.int .i64)) .quo v1 (.int .i64 (.ofNat 8)) fun x15 =>
 c210_2 x1 x15 h5 v1 K5)))
 (fun K21 => xBin (some (.int .i64)) .lss v1 (.int .i64 (.ofNat 0)) fun x23 =>
 xIte x23
 (K21 ((.bool true), ()) h2)
 (xBin (some (.int .i64)) .geq v1 (.int .i64 (.ofNat 8192)) fun x24 =>
 K21 (x24, ()) h2))
noncomputable def bd210 (v0 v1 v2 : CV) (h : CH) (k : CV → CH → Bool) : Bool :=
 xBox 70 v0 h fun x1 h1 =>
 xBoxP 70 [(.bytes 1024 0)] h1 fun x2 h2 =>
 xJoin (n := 0) (fun s2 h3 =>
 xLoad (some (some 1024)) x1 h3 fun x4 =>
 xStore (some 1024) x2 x4 h3 fun h4 =>
 xLoad (some (some 1024)) x2 h4 fun x5 =>
 k x5 h4)
 (fun K5 => c210_3 K5 v2 v1 x1 h2)
noncomputable abbrev ex210 : Ex := fun args h k => a3 args fun v0 v1 v2 => bd210 v0 v1 v2 h k
theorem sim210 : SimF Tryz.prog 210 ex210 := fun args h k hk => by
 obtain ⟨v0, v1, v2, rfl, hk⟩ := a3_ok hk
 exact sim_of (qf := qz) (Z := zs) (C := []) (T := []) ⟨zerosB_ok zsOk, exNil⟩ (.seq .nil (.join [] [17, 18, 19, 20, 21, 22, 16, 24, 23, 25, 26, 27, 28, 29, 30, 31, 32, 33, 7, 8, 9, 10, 11, 12, 13, 14, 15] (.join [16] [17, 18, 19, 20, 21, 22] .nil .nil) .nil)) Tryz.func210 _ h k (Eq.mp (by kernel_rfl : (bd210 v0 v1 v2 h k = true) = _) hk)

noncomputable abbrev c117_1 (s9 : TupC 1) (h3 : CH) (v0 : CV) (K15 : TupC 0 → CH → Bool) : Bool :=
 xNilCheck s9.1 fun x21 =>
 xAddr (some 1025) x21 fun x22 =>
 xStore (some 1) x22 (.bool true) h3 fun h7 =>
 xNilCheck v0 fun x23 =>
 xAddr (some 2) x23 fun x24 =>
 xLoad (some none) x24 h7 fun x25 =>
 xBin (some (.int .i64)) .add x25 (.int .i64 (.ofNat 1)) fun x26 =>
 xNilCheck v0 fun x27 =>
 xAddr (some 2) x27 fun x28 =>
 xStore (some 1) x28 x26 h7 fun h8 =>
 K15 (()) h8
noncomputable abbrev c117_2 (x1 : CV) (s9 : TupC 1) (v0 : CV) (k : CV → CH → Bool) (h3 : CH) : Bool :=
 xJoin (n := 0) (fun s10 h4 =>
 xLoad (some (some 1024)) x1 h4 fun x12 =>
 xNilCheck s9.1 fun x13 =>
 xAddr (some 1) x13 fun x14 =>
 xStore (some 1024) x14 x12 h4 fun h5 =>
 bd147 v0 s9.1 h5 fun x15 h6 =>
 k (.int .i64 (.ofNat 0)) h6)
 (fun K15 => xNilCheck s9.1 fun x17 =>
 xAddr (some 1025) x17 fun x18 =>
 xLoad (some none) x18 h3 fun x19 =>
 xUn .not x19 fun x20 =>
 xIte x20
 (c117_1 s9 h3 v0 K15)
 (K15 (()) h3))
noncomputable abbrev c117_3 (v1 : CV) (h10 : CH) (v0 : CV) (K28 : TupC 1 → CH → Bool) : Bool :=
 xBuild (some (.inl [(0, 1), (1, 1024), (1025, 1), (1026, 1), (1027, 1)])) (some (.agg [(.int .i64 (.ofNat 0)), (.bytes 1024 0), (.bool false), .nilp, .nilp])) [(0, v1)] fun x33 =>
 xBox 241 x33 h10 fun x34 h11 =>
 xNilCheck v0 fun x35 =>
 xAddr (some 1031) x35 fun x36 =>
 xLoad (some none) x36 h11 fun x37 =>
 xMapSet (some (3, .int .i64, 239)) x37 v1 x34 h11 fun h12 =>
 K28 (x34, ()) h12
noncomputable abbrev c117_4 (x6 : CV) (v1 : CV) (h2 : CH) (x1 : CV) (v0 : CV) (k : CV → CH → Bool) : Bool :=
 xLookup (some (3, .int .i64, 239)) (some .nilp) true x6 v1 h2 fun x7 =>
 xExtract x7 0 fun x8 =>
 xExtract x7 1 fun x9 =>
 xJoin (n := 1) (fun s9 h3 =>
 c117_2 x1 s9 v0 k h3)
 (fun K28 => xIte x9
 (bd146 x8 h2 fun x30 h9 =>
 K28 (x8, ()) h9)
 (bd148 v0 h2 fun x31 h10 =>
 xUn .not x31 fun x32 =>
 xIte x32
 (k (.int .i64 (.ofNat 160)) h10)
 (c117_3 v1 h10 v0 K28)))
noncomputable def bd117 (v0 v1 v2 : CV) (h : CH) (k : CV → CH → Bool) : Bool :=
 xBox 70 v2 h fun x1 h1 =>
 bd145 v0 v1 h1 fun x2 h2 =>
 xBin (some (.int .i64)) .neq x2 (.int .i64 (.ofNat 0)) fun x3 =>
 xIte x3
 (k x2 h2)
 (xNilCheck v0 fun x4 =>
 xAddr (some 1031) x4 fun x5 =>
 xLoad (some none) x5 h2 fun x6 =>
 c117_4 x6 v1 h2 x1 v0 k)
noncomputable abbrev ex117 : Ex := fun args h k => a3 args fun v0 v1 v2 => bd117 v0 v1 v2 h k
theorem sim117 : SimF Tryz.prog 117 ex117 := fun args h k hk => by
 obtain ⟨v0, v1, v2, rfl, hk⟩ := a3_ok hk
 exact sim_of (qf := qz) (Z := zs) (C := [(145, ex145), (147, ex147), (146, ex146), (148, ex148)]) (T := []) ⟨zerosB_ok zsOk, (exCons (by kernel_rfl) sim145 (exCons (by kernel_rfl) sim147 (exCons (by kernel_rfl) sim146 (exCons (by kernel_rfl) sim148 exNil))))⟩ (.seq .nil (.seq .nil (.seq .nil (.join [8] [25, 26, 27, 28, 29, 30, 6, 31, 32, 33, 34, 35, 36, 37, 38, 39] .nil (.join [] [40, 41, 42, 43, 44, 45, 46, 47, 48, 49, 50, 51, 52, 53, 54] .nil .nil))))) Tryz.func117 _ h k (Eq.mp (by kernel_rfl : (bd117 v0 v1 v2 h k = true) = _) hk)

noncomputable abbrev c118_1 (x11 : CV) (x12 : CV) (h3 : CH) (v0 : CV) (v1 : CV) (k : CV → CH → Bool) : Bool :=
 xApp (some (3, 1, 8, false)) x11 x12 h3 fun x13 h4 =>
 xNilCheck v0 fun x14 =>
 xAddr (some 0) x14 fun x15 =>
 xStore (some 1) x15 x13 h4 fun h5 =>
 xNilCheck v0 fun x16 =>
 xAddr (some 1) x16 fun x17 =>
 xLoad (some none) x17 h5 fun x18 =>
 xBuild (some (.inl [])) (some (.agg [])) [] fun x19 =>
 xMapSet (some (3, .int .i64, 212)) x18 v1 x19 h5 fun h6 =>
 k (.tup []) h6
noncomputable abbrev c118_2 (x4 : CV) (h : CH) (v0 : CV) (v1 : CV) (k : CV → CH → Bool) : Bool :=
 xExtract x4 0 fun x5 =>
 xExtract x4 1 fun x6 =>
 xBoxP 212 [] h fun x7 h1 =>
 xStore (some 0) x7 x5 h1 fun h2 =>
 xUn .not x6 fun x8 =>
 xIte x8
 (xNilCheck v0 fun x9 =>
 xAddr (some 0) x9 fun x10 =>
 xLoad (some none) x10 h2 fun x11 =>
 xNewS (some (3, 1, 8, false)) (some [(.int .i64 (.ofNat 0))]) 1 [(0, v1)] h2 fun x12 h3 =>
 c118_1 x11 x12 h3 v0 v1 k)
 (k (.tup []) h2)
noncomputable def bd118 (v0 v1 : CV) (h : CH) (k : CV → CH → Bool) : Bool :=
 xNilCheck v0 fun x1 =>
 xAddr (some 1) x1 fun x2 =>
 xLoad (some none) x2 h fun x3 =>
 xLookup (some (3, .int .i64, 212)) (some (.agg [])) true x3 v1 h fun x4 =>
 c118_2 x4 h v0 v1 k
noncomputable abbrev ex118 : Ex := fun args h k => a2 args fun v0 v1 => bd118 v0 v1 h k
theorem sim118 : SimF Tryz.prog 118 ex118 := fun args h k hk => by
 obtain ⟨v0, v1, rfl, hk⟩ := a2_ok hk
 exact sim_of (qf := qz) (Z := zs) (C := []) (T := []) ⟨zerosB_ok zsOk, exNil⟩ .nil Tryz.func118 _ h k (Eq.mp (by kernel_rfl : (bd118 v0 v1 h k = true) = _) hk)

noncomputable abbrev c74_1 (x21 : CV) (k : CV → CH → Bool) (h7 : CH) (v0 : CV) (v1 : CV) : Bool :=
 xBin (some (.int .i64)) .neq x21 (.int .i64 (.ofNat 0)) fun x22 =>
 xIte x22
 (k x21 h7)
 (xNilCheck v0 fun x23 =>
 xAddr (some 16) x23 fun x24 =>
 xLoad (some none) x24 h7 fun x25 =>
 xBuild (some (.inl [])) (some (.agg [])) [] fun x26 =>
 xMapSet (some (3, .int .i64, 212)) x25 v1 x26 h7 fun h8 =>
 xNilCheck v0 fun x27 =>
 xAddr (some 0) x27 fun x28 =>
 bd118 x28 v1 h8 fun x29 h9 =>
 k (.int .i64 (.ofNat 0)) h9)
noncomputable abbrev c74_2 (k : CV → CH → Bool) (v0 : CV) (x1 : CV) (v1 : CV) (x14 : CV) (h5 : CH) : Bool :=
 xJoin (n := 1) (fun s15 h6 =>
 xIte s15.1
 (k (.int .i64 (.ofNat 181)) h6)
 (xNilCheck v0 fun x17 =>
 xAddr (some 3) x17 fun x18 =>
 xLoad (some none) x18 h6 fun x19 =>
 xLoad (some (some 1024)) x1 h6 fun x20 =>
 bd117 x19 v1 x20 h6 fun x21 h7 =>
 c74_1 x21 k h7 v0 v1))
 (fun K29 => xUn .not x14 fun x31 =>
 xIte x31
 (xNilCheck v0 fun x32 =>
 xAddr (some 16) x32 fun x33 =>
 xLoad (some none) x33 h5 fun x34 =>
 xMapLen x34 h5 fun x35 =>
 xNilCheck v0 fun x36 =>
 xAddr (some 15) x36 fun x37 =>
 xLoad (some none) x37 h5 fun x38 =>
 xBin (some (.int .i64)) .geq x35 x38 fun x39 =>
 K29 (x39, ()) h5)
 (K29 ((.bool false), ()) h5))
noncomputable abbrev c74_3 (s7 : TupC 1) (k : CV → CH → Bool) (h3 : CH) (v0 : CV) (v1 : CV) (x1 : CV) : Bool :=
 xIte s7.1
 (k (.int .i64 (.ofNat 2)) h3)
 (xNilCheck v0 fun x9 =>
 xAddr (some 16) x9 fun x10 =>
 xLoad (some none) x10 h3 fun x11 =>
 xLookup (some (3, .int .i64, 212)) (some (.agg [])) true x11 v1 h3 fun x12 =>
 xExtract x12 0 fun x13 =>
 xExtract x12 1 fun x14 =>
 xBoxP 212 [] h3 fun x15 h4 =>
 xStore (some 0) x15 x13 h4 fun h5 =>
 c74_2 k v0 x1 v1 x14 h5)
noncomputable abbrev c74_4 (v1 : CV) (K39 : TupC 1 → CH → Bool) (h2 : CH) (v0 : CV) : Bool :=
 xBin (some (.int .i64)) .lss v1 (.int .i64 (.ofNat 1)) fun x41 =>
 xIte x41
 (K39 ((.bool true), ()) h2)
 (xNilCheck v0 fun x42 =>
 xAddr (some 4) x42 fun x43 =>
 xAddr (some 0) x43 fun x44 =>
 xAddr (some 0) x44 fun x45 =>
 xLoad (some none) x45 h2 fun x46 =>
 xBin (some (.int .i64)) .geq v1 x46 fun x47 =>
 xIte x47
 (K39 ((.bool true), ()) h2)
 (bd98 v0 v1 h2 fun x48 h10 =>
 K39 (x48, ()) h10))
noncomputable abbrev c74_5 (v0 : CV) (h1 : CH) (k : CV → CH → Bool) (v1 : CV) (x1 : CV) : Bool :=
 bd45 v0 h1 fun x2 h2 =>
 xBin (some (.int .i64)) .neq x2 (.int .i64 (.ofNat 0)) fun x3 =>
 xIte x3
 (k x2 h2)
 (xNilCheck v0 fun x4 =>
 xAddr (some 14) x4 fun x5 =>
 xLoad (some none) x5 h2 fun x6 =>
 xUn .not x6 fun x7 =>
 xIte x7
 (k (.int .i64 (.ofNat 180)) h2)
 (xJoin (n := 1) (fun s7 h3 =>
 c74_3 s7 k h3 v0 v1 x1)
 (fun K39 => c74_4 v1 K39 h2 v0)))
noncomputable def bd74 (v0 v1 v2 : CV) (h : CH) (k : CV → CH → Bool) : Bool :=
 xBox 70 v2 h fun x1 h1 =>
 c74_5 v0 h1 k v1 x1
noncomputable abbrev ex74 : Ex := fun args h k => a3 args fun v0 v1 v2 => bd74 v0 v1 v2 h k
theorem sim74 : SimF Tryz.prog 74 ex74 := fun args h k hk => by
 obtain ⟨v0, v1, v2, rfl, hk⟩ := a3_ok hk
 exact sim_of (qf := qz) (Z := zs) (C := [(45, ex45), (117, ex117), (118, ex118), (98, ex98)]) (T := []) ⟨zerosB_ok zsOk, (exCons (by kernel_rfl) sim45 (exCons (by kernel_rfl) sim117 (exCons (by kernel_rfl) sim118 (exCons (by kernel_rfl) sim98 exNil))))⟩ (.seq .nil (.seq (.seq .nil (.seq .nil (.cond .nil (.seq .nil (.cond .nil (.join [23] [24, 25, 26, 27, 28, 29, 30, 31, 32, 33, 34, 35, 36, 37, 38, 39, 40] .nil .nil)))))) (.seq (.seq .nil (.join [63] [50, 51, 52, 53, 54, 55, 56, 57, 58, 59, 60, 61, 62] .nil .nil)) .nil))) Tryz.func74 _ h k (Eq.mp (by kernel_rfl : (bd74 v0 v1 v2 h k = true) = _) hk)

noncomputable abbrev c190_1 (v0 : CV) (x20 : CV) (h8 : CH) (x4 : CV) (x13 : CV) (k : CV → CH → Bool) (x3 : CV) : Bool :=
 xBuild (some (.inr 1)) (some (.agg [(.bytes 1024 0)])) [] fun x21 =>
 bd74 v0 x20 x21 h8 fun x22 h9 =>
 xBin (some (.int .i64)) .neq x22 (.int .i64 (.ofNat 0)) fun x23 =>
 xIte x23
 (xLoad (some (some 1024)) x4 h9 fun x24 =>
 bd74 v0 x13 x24 h9 fun x25 h10 =>
 k (.tup [(.int .i64 (.ofNat 0)), x22]) h10)
 (xLoad (some none) x3 h9 fun x26 =>
 k (.tup [x26, (.int .i64 (.ofNat 0))]) h9)
noncomputable abbrev c190_2 (x3 : CV) (h6 : CH) (x14 : CV) (v0 : CV) (x13 : CV) (k : CV → CH → Bool) (x4 : CV) : Bool :=
 xLoad (some none) x3 h6 fun x15 =>
 xBin (some (.int .i64)) .rem x15 (.int .i64 (.ofNat 8192)) fun x16 =>
 bd210 x14 x16 (.bool true) h6 fun x17 h7 =>
 bd74 v0 x13 x17 h7 fun x18 h8 =>
 xBin (some (.int .i64)) .neq x18 (.int .i64 (.ofNat 0)) fun x19 =>
 xIte x19
 (k (.tup [(.int .i64 (.ofNat 0)), x18]) h8)
 (xLoad (some none) x3 h8 fun x20 =>
 c190_1 v0 x20 h8 x4 x13 k x3)
noncomputable abbrev c190_3 (x8 : CV) (k : CV → CH → Bool) (h5 : CH) (v0 : CV) (x3 : CV) (x4 : CV) : Bool :=
 xIte x8
 (k (.tup [(.int .i64 (.ofNat 0)), (.int .i64 (.ofNat 16))]) h5)
 (xQuiet (some ex97) [v0] h5 fun x9 h6 =>
 xField (some ((some none), 6)) x9 fun x10 =>
 xLoad (some none) x3 h6 fun x11 =>
 xBin (some (.int .i64)) .quo x11 (.int .i64 (.ofNat 8192)) fun x12 =>
 xBin (some (.int .i64)) .add x10 x12 fun x13 =>
 xLoad (some (some 1024)) x4 h6 fun x14 =>
 c190_2 x3 h6 x14 v0 x13 k x4)
noncomputable abbrev c190_4 (x3 : CV) (h2 : CH) (v0 : CV) (k : CV → CH → Bool) : Bool :=
 xStore (some 1) x3 (.int .i64 (.negSucc 0)) h2 fun h3 =>
 xBoxP 70 [(.bytes 1024 0)] h3 fun x4 h4 =>
 bd57 v0 (.fn 208 [] [x3, x4]) h4 fun x5 h5 =>
 xBin (some (.int .i64)) .neq x5 (.int .i64 (.ofNat 0)) fun x6 =>
 xIte x6
 (k (.tup [(.int .i64 (.ofNat 0)), x5]) h5)
 (xLoad (some none) x3 h5 fun x7 =>
 xBin (some (.int .i64)) .lss x7 (.int .i64 (.ofNat 0)) fun x8 =>
 c190_3 x8 k h5 v0 x3 x4)
noncomputable def bd190 (v0 : CV) (h : CH) (k : CV → CH → Bool) : Bool :=
 bd56 v0 (.bool true) h fun x1 h1 =>
 xBin (some (.int .i64)) .neq x1 (.int .i64 (.ofNat 0)) fun x2 =>
 xIte x2
 (k (.tup [(.int .i64 (.ofNat 0)), x1]) h1)
 (xBoxP 3 [(.int .i64 (.ofNat 0))] h1 fun x3 h2 =>
 c190_4 x3 h2 v0 k)
noncomputable abbrev ex190 : Ex := fun args h k => a1 args fun v0 => bd190 v0 h k
theorem sim190 : SimF Tryz.prog 190 ex190 := fun args h k hk => by
 obtain ⟨v0, rfl, hk⟩ := a1_ok hk
 exact sim_of (qf := qz) (Z := zs) (C := [(56, ex56), (57, ex57), (97, ex97), (210, ex210), (74, ex74)]) (T := []) ⟨zerosB_ok zsOk, (exCons (by kernel_rfl) sim56 (exCons (by kernel_rfl) sim57 (exCons (by kernel_rfl) sim97 (exCons (by kernel_rfl) sim210 (exCons (by kernel_rfl) sim74 exNil)))))⟩ .nil Tryz.func190 _ h k (Eq.mp (by kernel_rfl : (bd190 v0 h k = true) = _) hk)

noncomputable abbrev c153_1 (v0 : CV) (h5 : CH) (x14 : CV) (v2 : CV) (x5 : CV) (v1 : CV) (k : CV → CH → Bool) : Bool :=
 xNilCheck v0 fun x16 =>
 xAddr (some 0) x16 fun x17 =>
 xLoad (some none) x17 h5 fun x18 =>
 xLoad (some (some 1024)) x14 h5 fun x19 =>
 xBin (some (.int .i64)) .mul (.int .i64 (.ofNat 4)) v2 fun x20 =>
 xConv (some (.int .i64)) (some (.int .u32)) x5 fun x21 =>
 xQuiet (some ex154) [x19, x20, x21] h5 fun x22 h6 =>
 bd74 x18 v1 x22 h6 fun x23 h7 =>
 k (.tup [x5, x23]) h7
noncomputable abbrev c153_2 (x9 : CV) (h2 : CH) (v1 : CV) (k : CV → CH → Bool) (v0 : CV) (v2 : CV) (x5 : CV) : Bool :=
 xLoad (some none) x9 h2 fun x10 =>
 bd54 x10 v1 h2 fun x11 h3 =>
 xExtract x11 0 fun x12 =>
 xExtract x11 1 fun x13 =>
 xBoxP 70 [(.bytes 1024 0)] h3 fun x14 h4 =>
 xStore (some 1024) x14 x12 h4 fun h5 =>
 xBin (some (.int .i64)) .neq x13 (.int .i64 (.ofNat 0)) fun x15 =>
 xIte x15
 (k (.tup [(.int .i64 (.ofNat 0)), x13]) h5)
 (c153_1 v0 h5 x14 v2 x5 v1 k)
noncomputable abbrev c153_3 (k : CV → CH → Bool) (x5 : CV) (x6 : CV) (v0 : CV) (v1 : CV) (v2 : CV) (h1 : CH) : Bool :=
 xJoin (n := 1) (fun s6 h2 =>
 xIte s6.1
 (k (.tup [x5, x6]) h2)
 (xNilCheck v0 fun x8 =>
 xAddr (some 0) x8 fun x9 =>
 c153_2 x9 h2 v1 k v0 v2 x5))
 (fun K23 => xBin (some (.int .i64)) .neq x6 (.int .i64 (.ofNat 0)) fun x25 =>
 xIte x25
 (K23 ((.bool true), ()) h1)
 (xBin (some (.int .i64)) .eql v1 (.int .i64 (.ofNat 0)) fun x26 =>
 K23 (x26, ()) h1))
noncomputable def bd153 (v0 v1 v2 : CV) (h : CH) (k : CV → CH → Bool) : Bool :=
 xNilCheck v0 fun x1 =>
 xAddr (some 0) x1 fun x2 =>
 xLoad (some none) x2 h fun x3 =>
 bd190 x3 h fun x4 h1 =>
 xExtract x4 0 fun x5 =>
 xExtract x4 1 fun x6 =>
 c153_3 k x5 x6 v0 v1 v2 h1
noncomputable abbrev ex153 : Ex := fun args h k => a3 args fun v0 v1 v2 => bd153 v0 v1 v2 h k
theorem sim153 : SimF Tryz.prog 153 ex153 := fun args h k hk => by
 obtain ⟨v0, v1, v2, rfl, hk⟩ := a3_ok hk
 exact sim_of (qf := qz) (Z := zs) (C := [(190, ex190), (54, ex54), (154, ex154), (74, ex74)]) (T := []) ⟨zerosB_ok zsOk, (exCons (by kernel_rfl) sim190 (exCons (by kernel_rfl) sim54 (exCons (by kernel_rfl) sim154 (exCons (by kernel_rfl) sim74 exNil))))⟩ (.seq .nil (.seq .nil (.seq (.join [24] [19, 20, 21, 22, 23] .nil .nil) .nil))) Tryz.func153 _ h k (Eq.mp (by kernel_rfl : (bd153 v0 v1 v2 h k = true) = _) hk)

noncomputable abbrev c116_1 (x16 : CV) (v4 : CV) (h5 : CH) (r116 : Ex) (v0 : CV) (s0 : TupC 1) (k : CV → CH → Bool) : Bool :=
 xConv (some (.int .u32)) (some (.int .i64)) x16 fun x17 =>
 xIdx (some (none, 1)) v4 (.int .i64 (.ofNat 0)) fun x18 =>
 xLoad (some none) x18 h5 fun x19 =>
 xSlice (some (none, 1)) v4 (some (.int .i64 (.ofNat 1))) none none fun x20 =>
 r116 [v0, x17, s0.1, x19, x20] h5 fun x21 h6 =>
 xExtract x21 0 fun x22 =>
 xExtract x21 1 fun x23 =>
 xExtract x21 2 fun x24 =>
 k (.tup [s0.1, x23, x24]) h6
noncomputable abbrev c116_2 (x11 : CV) (k : CV → CH → Bool) (x9 : CV) (h4 : CH) (x10 : CV) (v4 : CV) (r116 : Ex) (v0 : CV) (s0 : TupC 1) : Bool :=
 xIte x11
 (k (.tup [(.int .i64 (.ofNat 0)), (.int .i64 (.ofNat 0)), x9]) h4)
 (xLoad (some (some 1024)) x10 h4 fun x12 =>
 xIdx (some (none, 1)) v4 (.int .i64 (.ofNat 0)) fun x13 =>
 xLoad (some none) x13 h4 fun x14 =>
 xBin (some (.int .i64)) .mul (.int .i64 (.ofNat 4)) x14 fun x15 =>
 xQuiet (some ex103) [x12, x15] h4 fun x16 h5 =>
 c116_1 x16 v4 h5 r116 v0 s0 k)
noncomputable abbrev c116_3 (x3 : CV) (k : CV → CH → Bool) (s0 : TupC 1) (h1 : CH) (v0 : CV) (v4 : CV) (r116 : Ex) : Bool :=
 xIte x3
 (k (.tup [s0.1, s0.1, (.int .i64 (.ofNat 0))]) h1)
 (xNilCheck v0 fun x4 =>
 xAddr (some 0) x4 fun x5 =>
 xLoad (some none) x5 h1 fun x6 =>
 bd54 x6 s0.1 h1 fun x7 h2 =>
 xExtract x7 0 fun x8 =>
 xExtract x7 1 fun x9 =>
 xBoxP 70 [(.bytes 1024 0)] h2 fun x10 h3 =>
 xStore (some 1024) x10 x8 h3 fun h4 =>
 xBin (some (.int .i64)) .neq x9 (.int .i64 (.ofNat 0)) fun x11 =>
 c116_2 x11 k x9 h4 x10 v4 r116 v0 s0)
noncomputable def bd116 (r116 : Ex) (v0 v1 v2 v3 v4 : CV) (h : CH) (k : CV → CH → Bool) : Bool :=
 xJoin (n := 1) (fun s0 h1 =>
 xLen (some (.inl false)) v4 fun x2 =>
 xBin (some (.int .i64)) .eql x2 (.int .i64 (.ofNat 0)) fun x3 =>
 c116_3 x3 k s0 h1 v0 v4 r116)
 (fun K24 => xBin (some (.int .i64)) .eql v1 (.int .i64 (.ofNat 0)) fun x26 =>
 xIte x26
 (bd153 v0 v2 v3 h fun x27 h7 =>
 xExtract x27 0 fun x28 =>
 xExtract x27 1 fun x29 =>
 xBin (some (.int .i64)) .neq x29 (.int .i64 (.ofNat 0)) fun x30 =>
 xIte x30
 (k (.tup [(.int .i64 (.ofNat 0)), (.int .i64 (.ofNat 0)), x29]) h7)
 (K24 (x28, ()) h7))
 (K24 (v1, ()) h))
noncomputable def rc116 : Nat → Nat → Ex := fun n => Nat.rec (motive := fun _ => Nat → Ex) (fun _ _ _ _ => false) (fun _ ih j => match j with
  | 0 => fun args h k => a5 args (fun v0 v1 v2 v3 v4 => bd116 (ih 0) v0 v1 v2 v3 v4 h k)
  | _ => fun _ _ _ => false) n
theorem sr116 : ∀ n, SimF Tryz.prog 116 (rc116 n 0)
  | 0 => fun args h k hk => by cases hk
  | n + 1 => by
    have ih := sr116 n
    have i116 := ih
    · intro args h k hk
      obtain ⟨v0, v1, v2, v3, v4, rfl, hk⟩ := a5_ok hk
      exact sim_of (qf := qz) (Z := zs) (C := [(116, rc116 n 0), (54, ex54), (103, ex103), (153, ex153)]) (T := []) ⟨zerosB_ok zsOk, (exCons (by kernel_rfl) i116 (exCons (by kernel_rfl) sim54 (exCons (by kernel_rfl) sim103 (exCons (by kernel_rfl) sim153 exNil))))⟩ (.seq .nil (.join [1] [19, 20, 22, 23, 24, 25, 21, 26, 27, 13, 14, 28, 29, 30, 10, 11, 12, 31] .nil .nil)) Tryz.func116 _ h k (Eq.mp (by kernel_rfl : (bd116 (rc116 n 0) v0 v1 v2 v3 v4 h k = true) = _) hk)
noncomputable abbrev ex116 : Ex := rc116 1000 0
theorem sim116 : SimF Tryz.prog 116 ex116 := sr116 1000

noncomputable abbrev c119_1 (x21 : CV) (s21 : TupC 1) (x7 : CV) (h12 : CH) (K22 : TupC 1 → CH → Bool) : Bool :=
 xIndex (some (some (10, (some none), 1))) x21 s21.1 fun x25 =>
 xLoad (some (some 1024)) x7 h12 fun x26 =>
 xBin (some (.int .i64)) .mul (.int .i64 (.ofNat 4)) s21.1 fun x27 =>
 xBin (some (.int .i64)) .add (.int .i64 (.ofNat 12)) x27 fun x28 =>
 bd154 x26 x28 x25 h12 fun x29 h13 =>
 xStore (some 1024) x7 x29 h13 fun h14 =>
 xBin (some (.int .i64)) .add s21.1 (.int .i64 (.ofNat 1)) fun x30 =>
 K22 (x30, ()) h14
noncomputable abbrev c119_2 (x36 : CV) (h16 : CH) (x35 : CV) (x7 : CV) (x2 : CV) (k : CV → CH → Bool) : Bool :=
 xLoad (some none) x36 h16 fun x37 =>
 bd154 x35 (.int .i64 (.ofNat 56)) x37 h16 fun x38 h17 =>
 xStore (some 1024) x7 x38 h17 fun h18 =>
 xSlice (some (some 1024, 1)) x7 none (some (.int .i64 (.ofNat 64))) none fun x39 =>
 xArr (some 64) x39 fun x40 =>
 xLoad (some (some 64)) x40 h18 fun x41 =>
 xStore (some 64) x2 x41 h18 fun h19 =>
 xLoad (some (some 64)) x2 h19 fun x42 =>
 k x42 h19
noncomputable abbrev c119_3 (x24 : CV) (x21 : CV) (s21 : TupC 1) (x7 : CV) (h12 : CH) (K22 : TupC 1 → CH → Bool) (x1 : CV) (x2 : CV) (k : CV → CH → Bool) : Bool :=
 xIte x24
 (c119_1 x21 s21 x7 h12 K22)
 (xLoad (some (some 1024)) x7 h12 fun x31 =>
 xAddr (some 14) x1 fun x32 =>
 xLoad (some none) x32 h12 fun x33 =>
 bd154 x31 (.int .i64 (.ofNat 52)) x33 h12 fun x34 h15 =>
 xStore (some 1024) x7 x34 h15 fun h16 =>
 xLoad (some (some 1024)) x7 h16 fun x35 =>
 xAddr (some 15) x1 fun x36 =>
 c119_2 x36 h16 x35 x7 x2 k)
noncomputable abbrev c119_4 (x16 : CV) (x18 : CV) (h9 : CH) (x7 : CV) (x1 : CV) (x2 : CV) (k : CV → CH → Bool) : Bool :=
 bd154 x16 (.int .i64 (.ofNat 8)) x18 h9 fun x19 h10 =>
 xStore (some 1024) x7 x19 h10 fun h11 =>
 xAddr (some 4) x1 fun x20 =>
 xLoad (some (some 10)) x20 h11 fun x21 =>
 xLoop (n := 1) (fun K22 s21 h12 =>
 xBin (some (.int .i64)) .lss s21.1 (.int .i64 (.ofNat 10)) fun x24 =>
 c119_3 x24 x21 s21 x7 h12 K22 x1 x2 k) 1000000 ((.int .i64 (.ofNat 0)), ()) h11
noncomputable abbrev c119_5 (x7 : CV) (x11 : CV) (h6 : CH) (x1 : CV) (x2 : CV) (k : CV → CH → Bool) : Bool :=
 xStore (some 1024) x7 x11 h6 fun h7 =>
 xLoad (some (some 1024)) x7 h7 fun x12 =>
 xAddr (some 2) x1 fun x13 =>
 xLoad (some none) x13 h7 fun x14 =>
 bd154 x12 (.int .i64 (.ofNat 4)) x14 h7 fun x15 h8 =>
 xStore (some 1024) x7 x15 h8 fun h9 =>
 xLoad (some (some 1024)) x7 h9 fun x16 =>
 xAddr (some 3) x1 fun x17 =>
 xLoad (some none) x17 h9 fun x18 =>
 c119_4 x16 x18 h9 x7 x1 x2 k
noncomputable abbrev c119_6 (x1 : CV) (h2 : CH) (x3 : CV) (x2 : CV) (k : CV → CH → Bool) : Bool :=
 xAddr (some 0) x1 fun x4 =>
 xLoad (some none) x4 h2 fun x5 =>
 bd115 x3 (.int .i64 (.ofNat 0)) x5 h2 fun x6 h3 =>
 xBoxP 70 [(.bytes 1024 0)] h3 fun x7 h4 =>
 xStore (some 1024) x7 x6 h4 fun h5 =>
 xLoad (some (some 1024)) x7 h5 fun x8 =>
 xAddr (some 1) x1 fun x9 =>
 xLoad (some none) x9 h5 fun x10 =>
 bd115 x8 (.int .i64 (.ofNat 2)) x10 h5 fun x11 h6 =>
 c119_5 x7 x11 h6 x1 x2 k
noncomputable def bd119 (v0 : CV) (h : CH) (k : CV → CH → Bool) : Bool :=
 xBox 78 v0 h fun x1 h1 =>
 xBoxP 127 [(.bytes 64 0)] h1 fun x2 h2 =>
 xBuild (some (.inr 1)) (some (.agg [(.bytes 1024 0)])) [] fun x3 =>
 c119_6 x1 h2 x3 x2 k
noncomputable abbrev ex119 : Ex := fun args h k => a1 args fun v0 => bd119 v0 h k
theorem sim119 : SimF Tryz.prog 119 ex119 := fun args h k hk => by
 obtain ⟨v0, rfl, hk⟩ := a1_ok hk
 exact sim_of (qf := qz) (Z := zs) (C := [(115, ex115), (154, ex154)]) (T := []) ⟨zerosB_ok zsOk, (exCons (by kernel_rfl) sim115 (exCons (by kernel_rfl) sim154 exNil))⟩ (.seq .nil (.seq .nil (.seq .nil (.seq .nil (.seq .nil (.seq (.seq .nil (.loop [24] [25, 26, 27, 4, 5, 28, 29, 30, 31, 32, 33, 34] .nil)) .nil)))))) Tryz.func119 _ h k (Eq.mp (by kernel_rfl : (bd119 v0 h k = true) = _) hk)

noncomputable abbrev c75_1 (x16 : CV) (h7 : CH) (x14 : CV) (x8 : CV) (v0 : CV) (x7 : CV) (k : CV → CH → Bool) : Bool :=
 bd119 x16 h7 fun x17 h8 =>
 xBoxP 127 [(.bytes 64 0)] h8 fun x18 h9 =>
 xStore (some 64) x18 x17 h9 fun h10 =>
 xSlice (some (some 1024, 1)) x14 (some x8) none none fun x19 =>
 xSlice (some (some 64, 1)) x18 none none none fun x20 =>
 xCopy (some (5, 1, 1, true)) x19 x20 h10 fun x21 h11 =>
 xLoad (some (some 1024)) x14 h11 fun x22 =>
 bd74 v0 x7 x22 h11 fun x23 h12 =>
 k x23 h12
noncomputable abbrev c75_2 (x10 : CV) (k : CV → CH → Bool) (h4 : CH) (v0 : CV) (x7 : CV) (x1 : CV) (x8 : CV) : Bool :=
 xIte x10
 (k (.int .i64 (.ofNat 2)) h4)
 (bd54 v0 x7 h4 fun x11 h5 =>
 xExtract x11 0 fun x12 =>
 xExtract x11 1 fun x13 =>
 xBoxP 70 [(.bytes 1024 0)] h5 fun x14 h6 =>
 xStore (some 1024) x14 x12 h6 fun h7 =>
 xBin (some (.int .i64)) .neq x13 (.int .i64 (.ofNat 0)) fun x15 =>
 xIte x15
 (k x13 h7)
 (xLoad (some (some 16)) x1 h7 fun x16 =>
 c75_1 x16 h7 x14 x8 v0 x7 k))
noncomputable abbrev c75_3 (v0 : CV) (h1 : CH) (k : CV → CH → Bool) (v1 : CV) (x1 : CV) : Bool :=
 bd45 v0 h1 fun x2 h2 =>
 xBin (some (.int .i64)) .neq x2 (.int .i64 (.ofNat 0)) fun x3 =>
 xIte x3
 (k x2 h2)
 (bd70 v0 h2 fun x4 h3 =>
 xUn .not x4 fun x5 =>
 xIte x5
 (k (.int .i64 (.ofNat 180)) h3)
 (bd53 v0 v1 h3 fun x6 h4 =>
 xExtract x6 0 fun x7 =>
 xExtract x6 1 fun x8 =>
 xExtract x6 2 fun x9 =>
 xUn .not x9 fun x10 =>
 c75_2 x10 k h4 v0 x7 x1 x8))
noncomputable def bd75 (v0 v1 v2 : CV) (h : CH) (k : CV → CH → Bool) : Bool :=
 xBox 78 v2 h fun x1 h1 =>
 c75_3 v0 h1 k v1 x1
noncomputable abbrev ex75 : Ex := fun args h k => a3 args fun v0 v1 v2 => bd75 v0 v1 v2 h k
theorem sim75 : SimF Tryz.prog 75 ex75 := fun args h k hk => by
 obtain ⟨v0, v1, v2, rfl, hk⟩ := a3_ok hk
 exact sim_of (qf := qz) (Z := zs) (C := [(45, ex45), (70, ex70), (53, ex53), (54, ex54), (119, ex119), (74, ex74)]) (T := []) ⟨zerosB_ok zsOk, (exCons (by kernel_rfl) sim45 (exCons (by kernel_rfl) sim70 (exCons (by kernel_rfl) sim53 (exCons (by kernel_rfl) sim54 (exCons (by kernel_rfl) sim119 (exCons (by kernel_rfl) sim74 exNil))))))⟩ .nil Tryz.func75 _ h k (Eq.mp (by kernel_rfl : (bd75 v0 v1 v2 h k = true) = _) hk)

noncomputable abbrev c73_1 (x32 : CV) (x30 : CV) (h8 : CH) (x2 : CV) (v0 : CV) (v1 : CV) (k : CV → CH → Bool) (x21 : CV) : Bool :=
 xAddr (some 3) x32 fun x33 =>
 xStore (some 1) x33 x30 h8 fun h9 =>
 xNilCheck x2 fun x34 =>
 xAddr (some 2) x34 fun x35 =>
 xLoad (some (some 16)) x35 h9 fun x36 =>
 bd75 v0 v1 x36 h9 fun x37 h10 =>
 xBin (some (.int .i64)) .neq x37 (.int .i64 (.ofNat 0)) fun x38 =>
 xIte x38
 (k (.tup [(.int .i64 (.ofNat 0)), x37]) h10)
 (k (.tup [x21, (.int .i64 (.ofNat 0))]) h10)
noncomputable abbrev c73_2 (x47 : CV) (x20 : CV) (x2 : CV) (h7 : CH) (K38 : TupC 0 → CH → Bool) : Bool :=
 xIte x47
 (xConv (some (.int .i64)) (some (.int .u32)) x20 fun x48 =>
 xNilCheck x2 fun x49 =>
 xAddr (some 2) x49 fun x50 =>
 xAddr (some 14) x50 fun x51 =>
 xStore (some 1) x51 x48 h7 fun h12 =>
 K38 (()) h12)
 (xConv (some (.int .i64)) (some (.int .u32)) x20 fun x52 =>
 xNilCheck x2 fun x53 =>
 xAddr (some 2) x53 fun x54 =>
 xAddr (some 15) x54 fun x55 =>
 xStore (some 1) x55 x52 h7 fun h13 =>
 K38 (()) h13)
noncomputable abbrev c73_3 (x40 : CV) (x20 : CV) (x2 : CV) (v2 : CV) (h7 : CH) (K38 : TupC 0 → CH → Bool) : Bool :=
 xBin (some (.int .i64)) .eql x40 (.int .i64 (.ofNat 0)) fun x41 =>
 xIte x41
 (xConv (some (.int .i64)) (some (.int .u32)) x20 fun x42 =>
 xNilCheck x2 fun x43 =>
 xAddr (some 2) x43 fun x44 =>
 xAddr (some 4) x44 fun x45 =>
 xIdx (some (some 10, 1)) x45 v2 fun x46 =>
 xStore (some 1) x46 x42 h7 fun h11 =>
 K38 (()) h11)
 (xBin (some (.int .i64)) .eql x40 (.int .i64 (.ofNat 1)) fun x47 =>
 c73_2 x47 x20 x2 h7 K38)
noncomputable abbrev c73_4 (x2 : CV) (x8 : CV) (v0 : CV) (v1 : CV) (k : CV → CH → Bool) (x21 : CV) (x18 : CV) (x20 : CV) (v2 : CV) (h7 : CH) : Bool :=
 xJoin (n := 0) (fun s23 h8 =>
 xNilCheck x2 fun x25 =>
 xAddr (some 2) x25 fun x26 =>
 xAddr (some 3) x26 fun x27 =>
 xLoad (some none) x27 h8 fun x28 =>
 xConv (some (.int .i64)) (some (.int .u32)) x8 fun x29 =>
 xBin (some (.int .u32)) .add x28 x29 fun x30 =>
 xNilCheck x2 fun x31 =>
 xAddr (some 2) x31 fun x32 =>
 c73_1 x32 x30 h8 x2 v0 v1 k x21)
 (fun K38 => xLen (some (.inl false)) x18 fun x40 =>
 c73_3 x40 x20 x2 v2 h7 K38)
noncomputable abbrev c73_5 (x16 : CV) (x2 : CV) (x17 : CV) (h6 : CH) (k : CV → CH → Bool) (x8 : CV) (v0 : CV) (v1 : CV) (v2 : CV) : Bool :=
 xExtract x16 1 fun x18 =>
 ex116 [x2, x17, (.int .i64 (.ofNat 0)), (.int .i64 (.ofNat 0)), x18] h6 fun x19 h7 =>
 xExtract x19 0 fun x20 =>
 xExtract x19 1 fun x21 =>
 xExtract x19 2 fun x22 =>
 xBin (some (.int .i64)) .neq x22 (.int .i64 (.ofNat 0)) fun x23 =>
 xIte x23
 (k (.tup [(.int .i64 (.ofNat 0)), x22]) h7)
 (c73_4 x2 x8 v0 v1 k x21 x18 x20 v2 h7)
noncomputable abbrev c73_6 (x11 : CV) (k : CV → CH → Bool) (h5 : CH) (x12 : CV) (x8 : CV) (x2 : CV) (v2 : CV) (v0 : CV) (v1 : CV) : Bool :=
 xExtract x11 1 fun x13 =>
 xBin (some (.int .i64)) .neq x13 (.int .i64 (.ofNat 0)) fun x14 =>
 xIte x14
 (k (.tup [(.int .i64 (.ofNat 0)), x13]) h5)
 (xBin (some (.int .i64)) .lss x12 x8 fun x15 =>
 xIte x15
 (k (.tup [(.int .i64 (.ofNat 0)), (.int .i64 (.ofNat 16))]) h5)
 (bd108 x2 v2 h5 fun x16 h6 =>
 xExtract x16 0 fun x17 =>
 c73_5 x16 x2 x17 h6 k x8 v0 v1 v2))
noncomputable abbrev c73_7 (k : CV → CH → Bool) (x7 : CV) (x9 : CV) (v0 : CV) (x8 : CV) (x2 : CV) (v2 : CV) (v1 : CV) (h3 : CH) : Bool :=
 xJoin (n := 1) (fun s9 h4 =>
 xIte s9.1
 (k (.tup [x7, x9]) h4)
 (bd20 v0 h4 fun x11 h5 =>
 xExtract x11 0 fun x12 =>
 c73_6 x11 k h5 x12 x8 x2 v2 v0 v1))
 (fun K55 => xBin (some (.int .i64)) .neq x9 (.int .i64 (.ofNat 0)) fun x57 =>
 xIte x57
 (K55 ((.bool true), ()) h3)
 (xBin (some (.int .i64)) .neq x7 (.int .i64 (.ofNat 0)) fun x58 =>
 K55 (x58, ()) h3))
noncomputable abbrev c73_8 (k : CV → CH → Bool) (x2 : CV) (v2 : CV) (v0 : CV) (v1 : CV) (h1 : CH) : Bool :=
 xJoin (n := 1) (fun s4 h2 =>
 xIte s4.1
 (k (.tup [(.int .i64 (.ofNat 0)), (.int .i64 (.ofNat 2))]) h2)
 (bd64 x2 v2 h2 fun x6 h3 =>
 xExtract x6 0 fun x7 =>
 xExtract x6 1 fun x8 =>
 xExtract x6 2 fun x9 =>
 c73_7 k x7 x9 v0 x8 x2 v2 v1 h3))
 (fun K58 => xBin (some (.int .i64)) .lss v2 (.int .i64 (.ofNat 0)) fun x60 =>
 xIte x60
 (K58 ((.bool true), ()) h1)
 (xBin (some (.int .i64)) .geq v2 (.int .i64 (.ofNat 65802)) fun x61 =>
 K58 (x61, ()) h1))
noncomputable def bd73 (v0 v1 v2 : CV) (h : CH) (k : CV → CH → Bool) : Bool :=
 bd63 v0 v1 (.bool true) h fun x1 h1 =>
 xExtract x1 0 fun x2 =>
 xExtract x1 1 fun x3 =>
 xBin (some (.int .i64)) .neq x3 (.int .i64 (.ofNat 0)) fun x4 =>
 xIte x4
 (k (.tup [(.int .i64 (.ofNat 0)), x3]) h1)
 (c73_8 k x2 v2 v0 v1 h1)
noncomputable abbrev ex73 : Ex := fun args h k => a3 args fun v0 v1 v2 => bd73 v0 v1 v2 h k
theorem sim73 : SimF Tryz.prog 73 ex73 := fun args h k hk => by
 obtain ⟨v0, v1, v2, rfl, hk⟩ := a3_ok hk
 exact sim_of (qf := qz) (Z := zs) (C := [(63, ex63), (64, ex64), (20, ex20), (108, ex108), (116, ex116), (75, ex75)]) (T := []) ⟨zerosB_ok zsOk, (exCons (by kernel_rfl) sim63 (exCons (by kernel_rfl) sim64 (exCons (by kernel_rfl) sim20 (exCons (by kernel_rfl) sim108 (exCons (by kernel_rfl) sim116 (exCons (by kernel_rfl) sim75 exNil))))))⟩ (.seq .nil (.seq .nil (.seq .nil (.seq (.join [32] [27, 28, 29, 30, 31] .nil .nil) (.seq .nil (.seq (.join [45] [40, 41, 42, 43, 44] .nil .nil) (.seq .nil (.seq .nil (.seq .nil (.seq .nil (.seq .nil (.seq .nil (.join [] [76, 77, 85, 84, 86, 87, 88, 89, 90, 91, 92, 93, 95, 94, 96, 97, 98, 99, 100, 101, 78, 79, 80, 81, 82, 83] .nil .nil))))))))))))) Tryz.func73 _ h k (Eq.mp (by kernel_rfl : (bd73 v0 v1 v2 h k = true) = _) hk)

noncomputable abbrev c31_1 (x43 : CV) (k : CV → CH → Bool) (h20 : CH) (x9 : CV) (v0 : CV) (v1 : CV) : Bool :=
 xBin (some (.int .i64)) .neq x43 (.int .i64 (.ofNat 0)) fun x44 =>
 xIte x44
 (k x43 h20)
 (xAddr (some 2) x9 fun x45 =>
 xLoad (some none) x45 h20 fun x46 =>
 xBin (some (.int .u32)) .add x46 (.int .u32 (.ofNat 16)) fun x47 =>
 xAddr (some 2) x9 fun x48 =>
 xStore (some 1) x48 x47 h20 fun h21 =>
 xLoad (some (some 16)) x9 h21 fun x49 =>
 bd75 v0 v1 x49 h21 fun x50 h22 =>
 k x50 h22)
noncomputable abbrev c31_2 (k : CV → CH → Bool) (x39 : CV) (v0 : CV) (v1 : CV) (x9 : CV) (h17 : CH) (v2 : CV) (x14 : CV) : Bool :=
 xJoin (n := 1) (fun s39 h18 =>
 xIte s39.1
 (k x39 h18)
 (bd19 v0 v1 h18 fun x41 h19 =>
 xExtract x41 0 fun x42 =>
 xExtract x41 1 fun x43 =>
 xStore (some 16) x9 x42 h19 fun h20 =>
 c31_1 x43 k h20 x9 v0 v1))
 (fun K50 => xBin (some (.int .i64)) .neq x39 (.int .i64 (.ofNat 0)) fun x52 =>
 xIte x52
 (K50 ((.bool true), ()) h17)
 (xBin (some (.int .i64)) .lss v2 x14 fun x53 =>
 K50 (x53, ()) h17))
noncomputable abbrev c31_3 (x23 : CV) (x32 : CV) (x20 : CV) (h15 : CH) (v0 : CV) (x26 : CV) (k : CV → CH → Bool) (v1 : CV) (x9 : CV) (v2 : CV) (x14 : CV) : Bool :=
 xBin (some (.int .i64)) .rem x23 (.int .i64 (.ofNat 1024)) fun x34 =>
 xSlice (some (some 1024, 1)) x32 (some x34) none none fun x35 =>
 xSlice (some (some 16, 1)) x20 none none none fun x36 =>
 xCopy (some (5, 1, 1, true)) x35 x36 h15 fun x37 h16 =>
 xLoad (some (some 1024)) x32 h16 fun x38 =>
 bd74 v0 x26 x38 h16 fun x39 h17 =>
 c31_2 k x39 v0 v1 x9 h17 v2 x14
noncomputable abbrev c31_4 (x27 : CV) (k : CV → CH → Bool) (h12 : CH) (v0 : CV) (x26 : CV) (x23 : CV) (x20 : CV) (v1 : CV) (x9 : CV) (v2 : CV) (x14 : CV) : Bool :=
 xBin (some (.int .i64)) .neq x27 (.int .i64 (.ofNat 0)) fun x28 =>
 xIte x28
 (k x27 h12)
 (bd54 v0 x26 h12 fun x29 h13 =>
 xExtract x29 0 fun x30 =>
 xExtract x29 1 fun x31 =>
 xBoxP 70 [(.bytes 1024 0)] h13 fun x32 h14 =>
 xStore (some 1024) x32 x30 h14 fun h15 =>
 xBin (some (.int .i64)) .neq x31 (.int .i64 (.ofNat 0)) fun x33 =>
 xIte x33
 (k x31 h15)
 (c31_3 x23 x32 x20 h15 v0 x26 k v1 x9 v2 x14))
noncomputable abbrev c31_5 (v2 : CV) (v0 : CV) (v1 : CV) (k : CV → CH → Bool) (x20 : CV) (x9 : CV) (x14 : CV) (h10 : CH) : Bool :=
 xJoin (n := 0) (fun s21 h11 =>
 xBin (some (.int .i64)) .mul v2 (.int .i64 (.ofNat 16)) fun x23 =>
 xBin (some (.int .i64)) .quo x23 (.int .i64 (.ofNat 1024)) fun x24 =>
 bd73 v0 v1 x24 h11 fun x25 h12 =>
 xExtract x25 0 fun x26 =>
 xExtract x25 1 fun x27 =>
 c31_4 x27 k h12 v0 x26 x23 x20 v1 x9 v2 x14)
 (fun K53 => xBin (some (.int .i64)) .eql v2 x14 fun x55 =>
 xIte x55
 (xLoad (some (some 16)) x9 h10 fun x56 =>
 bd72 v0 v1 x56 h10 fun x57 h23 =>
 xBin (some (.int .i64)) .neq x57 (.int .i64 (.ofNat 0)) fun x58 =>
 xIte x58
 (k x57 h23)
 (K53 (()) h23))
 (K53 (()) h10))
noncomputable abbrev c31_6 (s14 : TupC 1) (k : CV → CH → Bool) (h7 : CH) (x1 : CV) (v2 : CV) (v0 : CV) (v1 : CV) (x9 : CV) (x14 : CV) : Bool :=
 xIte s14.1
 (k (.int .i64 (.ofNat 2)) h7)
 (xLoad (some (some 2)) x1 h7 fun x16 =>
 ex71 [x16] h7 fun x17 h8 =>
 xExtract x17 0 fun x18 =>
 xExtract x17 1 fun x19 =>
 xBoxP 150 [(.bytes 16 0)] h8 fun x20 h9 =>
 xStore (some 16) x20 x18 h9 fun h10 =>
 xBin (some (.int .i64)) .neq x19 (.int .i64 (.ofNat 0)) fun x21 =>
 xIte x21
 (k x19 h10)
 (c31_5 v2 v0 v1 k x20 x9 x14 h10))
noncomputable abbrev c31_7 (x12 : CV) (k : CV → CH → Bool) (x1 : CV) (v2 : CV) (v0 : CV) (v1 : CV) (x9 : CV) (h6 : CH) : Bool :=
 xConv (some (.int .u32)) (some (.int .i64)) x12 fun x13 =>
 xBin (some (.int .i64)) .quo x13 (.int .i64 (.ofNat 16)) fun x14 =>
 xJoin (n := 1) (fun s14 h7 =>
 c31_6 s14 k h7 x1 v2 v0 v1 x9 x14)
 (fun K58 => xBin (some (.int .i64)) .lss v2 (.int .i64 (.ofNat 0)) fun x60 =>
 xIte x60
 (K58 ((.bool true), ()) h6)
 (xBin (some (.int .i64)) .gtr v2 x14 fun x61 =>
 K58 (x61, ()) h6))
noncomputable abbrev c31_8 (h4 : CH) (x7 : CV) (x8 : CV) (k : CV → CH → Bool) (x1 : CV) (v2 : CV) (v0 : CV) (v1 : CV) : Bool :=
 xBoxP 78 [(.int .u16 (.ofNat 0)), (.int .u16 (.ofNat 0)), (.int .u32 (.ofNat 0)), (.int .u32 (.ofNat 0)), (.int .u32 (.ofNat 0)), (.int .u32 (.ofNat 0)), (.int .u32 (.ofNat 0)), (.int .u32 (.ofNat 0)), (.int .u32 (.ofNat 0)), (.int .u32 (.ofNat 0)), (.int .u32 (.ofNat 0)), (.int .u32 (.ofNat 0)), (.int .u32 (.ofNat 0)), (.int .u32 (.ofNat 0)), (.int .u32 (.ofNat 0)), (.int .u32 (.ofNat 0))] h4 fun x9 h5 =>
 xStore (some 16) x9 x7 h5 fun h6 =>
 xBin (some (.int .i64)) .neq x8 (.int .i64 (.ofNat 0)) fun x10 =>
 xIte x10
 (k x8 h6)
 (xAddr (some 2) x9 fun x11 =>
 xLoad (some none) x11 h6 fun x12 =>
 c31_7 x12 k x1 v2 v0 v1 x9 h6)
noncomputable def bd31 (v0 v1 v2 v3 : CV) (h : CH) (k : CV → CH → Bool) : Bool :=
 xBox 68 v3 h fun x1 h1 =>
 bd45 v0 h1 fun x2 h2 =>
 xBin (some (.int .i64)) .neq x2 (.int .i64 (.ofNat 0)) fun x3 =>
 xIte x3
 (k x2 h2)
 (bd70 v0 h2 fun x4 h3 =>
 xUn .not x4 fun x5 =>
 xIte x5
 (k (.int .i64 (.ofNat 180)) h3)
 (bd66 v0 v1 h3 fun x6 h4 =>
 xExtract x6 0 fun x7 =>
 xExtract x6 1 fun x8 =>
 c31_8 h4 x7 x8 k x1 v2 v0 v1))
noncomputable abbrev ex31 : Ex := fun args h k => a4 args fun v0 v1 v2 v3 => bd31 v0 v1 v2 v3 h k
theorem sim31 : SimF Tryz.prog 31 ex31 := fun args h k hk => by
 obtain ⟨v0, v1, v2, v3, rfl, hk⟩ := a4_ok hk
 exact sim_of (qf := qz) (Z := zs) (C := [(45, ex45), (70, ex70), (66, ex66), (71, ex71), (73, ex73), (54, ex54), (74, ex74), (19, ex19), (75, ex75), (72, ex72)]) (T := []) ⟨zerosB_ok zsOk, (exCons (by kernel_rfl) sim45 (exCons (by kernel_rfl) sim70 (exCons (by kernel_rfl) sim66 (exCons (by kernel_rfl) sim71 (exCons (by kernel_rfl) sim73 (exCons (by kernel_rfl) sim54 (exCons (by kernel_rfl) sim74 (exCons (by kernel_rfl) sim19 (exCons (by kernel_rfl) sim75 (exCons (by kernel_rfl) sim72 exNil))))))))))⟩ (.seq .nil (.seq .nil (.seq .nil (.seq .nil (.seq .nil (.seq .nil (.seq (.join [44] [38, 39, 40, 41, 42, 43] .nil .nil) (.seq .nil (.seq .nil (.join [] [53, 54, 55, 56, 57, 58, 59, 11, 60, 61, 62, 8] .nil (.seq .nil (.seq .nil (.seq .nil (.seq .nil (.seq .nil (.seq .nil (.seq (.seq .nil (.join [100] [94, 95, 96, 97, 98, 99] .nil .nil)) .nil))))))))))))))))) Tryz.func31 _ h k (Eq.mp (by kernel_rfl : (bd31 v0 v1 v2 v3 h k = true) = _) hk)

noncomputable abbrev c33_1 (x7 : CV) (h1 : CH) (v0 : CV) (k : CV → CH → Bool) : Bool :=
 xAddr (some 14) x7 fun x8 =>
 xStore (some 1) x8 (.bool false) h1 fun h2 =>
 xNilCheck v0 fun x9 =>
 xAddr (some 18) x9 fun x10 =>
 xLoad (some none) x10 h2 fun x11 =>
 xBin (some (.int .i64)) .add x11 (.int .i64 (.ofNat 1)) fun x12 =>
 xNilCheck v0 fun x13 =>
 xAddr (some 18) x13 fun x14 =>
 xStore (some 1) x14 x12 h2 fun h3 =>
 k (.int .i64 (.ofNat 0)) h3
noncomputable def bd33 (v0 : CV) (h : CH) (k : CV → CH → Bool) : Bool :=
 bd45 v0 h fun x1 h1 =>
 xBin (some (.int .i64)) .neq x1 (.int .i64 (.ofNat 0)) fun x2 =>
 xIte x2
 (k x1 h1)
 (xNilCheck v0 fun x3 =>
 xAddr (some 14) x3 fun x4 =>
 xLoad (some none) x4 h1 fun x5 =>
 xUn .not x5 fun x6 =>
 xIte x6
 (k (.int .i64 (.ofNat 180)) h1)
 (xNilCheck v0 fun x7 =>
 c33_1 x7 h1 v0 k))
noncomputable abbrev ex33 : Ex := fun args h k => a1 args fun v0 => bd33 v0 h k
theorem sim33 : SimF Tryz.prog 33 ex33 := fun args h k hk => by
 obtain ⟨v0, rfl, hk⟩ := a1_ok hk
 exact sim_of (qf := qz) (Z := zs) (C := [(45, ex45)]) (T := []) ⟨zerosB_ok zsOk, (exCons (by kernel_rfl) sim45 exNil)⟩ .nil Tryz.func33 _ h k (Eq.mp (by kernel_rfl : (bd33 v0 h k = true) = _) hk)
end Go.Proofs
