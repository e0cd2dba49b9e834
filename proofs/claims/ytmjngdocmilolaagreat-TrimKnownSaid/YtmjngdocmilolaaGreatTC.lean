/- Functions, run; each tied to the program. -/
import Derived.Test.YtmjngdocmilolaaGreatTB
set_option linter.unusedVariables false
set_option linter.unusedSimpArgs false
namespace Go.Proofs
open Go.Vc Go.Xc

/- undercroft/node.Decode -/
noncomputable abbrev c83_1 (s20 : TupC 1) (x24 : CV) (h14 : CH) (x20 : CV) (K21 : TupC 1 → CH → Bool) : Bool :=
 xBin (some (.int .i64)) .mul (.int .i64 (.ofNat 4)) s20.1 fun x25 =>
 xBin (some (.int .i64)) .add (.int .i64 (.ofNat 12)) x25 fun x26 =>
 bd146 x24 x26 h14 fun x27 h15 =>
 xAddr (some 4) x20 fun x28 =>
 xIdx (some (some 10, 1)) x28 s20.1 fun x29 =>
 xStore (some 1) x29 x27 h15 fun h16 =>
 xBin (some (.int .i64)) .add s20.1 (.int .i64 (.ofNat 1)) fun x30 =>
 K21 (x30, ()) h16
noncomputable abbrev c83_2 (x6 : CV) (x20 : CV) (x2 : CV) (k : CV → CH → Bool) (h13 : CH) : Bool :=
 xLoop (n := 1) (fun K21 s20 h14 =>
  xBin (some (.int .i64)) .lss s20.1 (.int .i64 (.ofNat 10)) fun x23 =>
  xIte x23
   (xLoad (some (some 1024)) x6 h14 fun x24 =>
   c83_1 s20 x24 h14 x20 K21)
   (xLoad (some (some 16)) x20 h14 fun x31 =>
   xStore (some 16) x2 x31 h14 fun h17 =>
   xLoad (some (some 16)) x2 h17 fun x32 =>
   k x32 h17)) 1000000 ((.int .i64 (.ofNat 0)), ()) h13
noncomputable abbrev c83_3 (h11 : CH) (x19 : CV) (x6 : CV) (x2 : CV) (k : CV → CH → Bool) : Bool :=
 xBoxP 68 [(.int .u16 (.ofNat 0)), (.int .u16 (.ofNat 0)), (.int .u32 (.ofNat 0)), (.int .u32 (.ofNat 0)), (.int .u32 (.ofNat 0)), (.int .u32 (.ofNat 0)), (.int .u32 (.ofNat 0)), (.int .u32 (.ofNat 0)), (.int .u32 (.ofNat 0)), (.int .u32 (.ofNat 0)), (.int .u32 (.ofNat 0)), (.int .u32 (.ofNat 0)), (.int .u32 (.ofNat 0)), (.int .u32 (.ofNat 0)), (.int .u32 (.ofNat 0)), (.int .u32 (.ofNat 0))] h11 fun x20 h12 =>
 xStore (some 16) x20 x19 h12 fun h13 =>
 c83_2 x6 x20 x2 k h13
noncomputable abbrev c83_4 (x8 : CV) (x10 : CV) (x12 : CV) (x14 : CV) (x16 : CV) (x18 : CV) (h11 : CH) (x6 : CV) (x2 : CV) (k : CV → CH → Bool) : Bool :=
 xBuild (some (.inl [(0, 1), (1, 1), (2, 1), (3, 1), (4, 10), (14, 1), (15, 1)])) (some (.agg [(.int .u16 (.ofNat 0)), (.int .u16 (.ofNat 0)), (.int .u32 (.ofNat 0)), (.int .u32 (.ofNat 0)), (.int .u32 (.ofNat 0)), (.int .u32 (.ofNat 0)), (.int .u32 (.ofNat 0)), (.int .u32 (.ofNat 0)), (.int .u32 (.ofNat 0)), (.int .u32 (.ofNat 0)), (.int .u32 (.ofNat 0)), (.int .u32 (.ofNat 0)), (.int .u32 (.ofNat 0)), (.int .u32 (.ofNat 0)), (.int .u32 (.ofNat 0)), (.int .u32 (.ofNat 0))])) [(0, x8), (1, x10), (2, x12), (3, x14), (5, x16), (6, x18)] fun x19 =>
 c83_3 h11 x19 x6 x2 k
noncomputable abbrev c83_5 (x6 : CV) (h8 : CH) (x8 : CV) (x10 : CV) (x12 : CV) (x2 : CV) (k : CV → CH → Bool) : Bool :=
 xLoad (some (some 1024)) x6 h8 fun x13 =>
 xQuiet (some ex146) [x13, (.int .i64 (.ofNat 8))] h8 fun x14 h9 =>
 xLoad (some (some 1024)) x6 h9 fun x15 =>
 xQuiet (some ex146) [x15, (.int .i64 (.ofNat 52))] h9 fun x16 h10 =>
 xLoad (some (some 1024)) x6 h10 fun x17 =>
 xQuiet (some ex146) [x17, (.int .i64 (.ofNat 56))] h10 fun x18 h11 =>
 c83_4 x8 x10 x12 x14 x16 x18 h11 x6 x2 k
noncomputable abbrev c83_6 (x6 : CV) (x5 : CV) (h4 : CH) (x2 : CV) (k : CV → CH → Bool) : Bool :=
 xStore (some 1024) x6 x5 h4 fun h5 =>
 xLoad (some (some 1024)) x6 h5 fun x7 =>
 xQuiet (some ex145) [x7, (.int .i64 (.ofNat 0))] h5 fun x8 h6 =>
 xLoad (some (some 1024)) x6 h6 fun x9 =>
 xQuiet (some ex145) [x9, (.int .i64 (.ofNat 2))] h6 fun x10 h7 =>
 xLoad (some (some 1024)) x6 h7 fun x11 =>
 xQuiet (some ex146) [x11, (.int .i64 (.ofNat 4))] h7 fun x12 h8 =>
 c83_5 x6 h8 x8 x10 x12 x2 k
noncomputable abbrev c83_7 (h1 : CH) (x1 : CV) (k : CV → CH → Bool) : Bool :=
 xBoxP 68 [(.int .u16 (.ofNat 0)), (.int .u16 (.ofNat 0)), (.int .u32 (.ofNat 0)), (.int .u32 (.ofNat 0)), (.int .u32 (.ofNat 0)), (.int .u32 (.ofNat 0)), (.int .u32 (.ofNat 0)), (.int .u32 (.ofNat 0)), (.int .u32 (.ofNat 0)), (.int .u32 (.ofNat 0)), (.int .u32 (.ofNat 0)), (.int .u32 (.ofNat 0)), (.int .u32 (.ofNat 0)), (.int .u32 (.ofNat 0)), (.int .u32 (.ofNat 0)), (.int .u32 (.ofNat 0))] h1 fun x2 h2 =>
 xBuild (some (.inr 1)) (some (.agg [(.bytes 1024 0)])) [] fun x3 =>
 xSlice (some (some 64, 1)) x1 none none none fun x4 =>
 bd144 x3 (.int .i64 (.ofNat 0)) x4 h2 fun x5 h3 =>
 xBoxP 39 [(.bytes 1024 0)] h3 fun x6 h4 =>
 c83_6 x6 x5 h4 x2 k
noncomputable def bd83 (v0 : CV) (h : CH) (k : CV → CH → Bool) : Bool :=
 xBox 140 v0 h fun x1 h1 =>
 c83_7 h1 x1 k
noncomputable abbrev ex83 : Ex := fun args h k => a1 args fun v0 => bd83 v0 h k
set_option maxRecDepth 100000 in
theorem sim83 : SimF Tryz.prog 83 ex83 := fun args h k hk => by
  obtain ⟨v0, rfl, hk⟩ := a1_ok hk
  exact sim_of (qf := (fun f => [75, 120, 121, 145, 146, 175, 181, 196, 197, 210, 220, 246].contains f)) (Z := zs) (C := [(144, ex144), (145, ex145), (146, ex146)]) (T := []) ⟨zerosB_ok zsOk, (exCons (by kernel_rfl) sim144 (exCons (by kernel_rfl) sim145 (exCons (by kernel_rfl) sim146 exNil)))⟩ (.seq .nil (.seq .nil (.seq .nil (.seq (.seq .nil (.loop [22] [23, 24, 5, 25, 26, 27, 28, 29, 30, 31, 32, 33] .nil)) .nil)))) Tryz.func83 _ h k (Eq.mp (by kernel_rfl : (bd83 v0 h k = true) = (xFn Tryz.prog (fun f => [75, 120, 121, 145, 146, 175, 181, 196, 197, 210, 220, 246].contains f) zs [(144, ex144), (145, ex145), (146, ex146)] [] Tryz.f83 (.seq .nil (.seq .nil (.seq .nil (.seq (.seq .nil (.loop [22] [23, 24, 5, 25, 26, 27, 28, 29, 30, 31, 32, 33] .nil)) .nil)))) [v0] h k = true)) hk)

/- undercroft/rack.Read -/
noncomputable abbrev c28_1 (x1 : CV) (h2 : CH) (k : CV → CH → Bool) (x2 : CV) : Bool :=
 xBuild (some (.inl [(0, 1), (1, 1), (2, 1), (3, 1), (4, 10), (14, 1), (15, 1)])) (some (.agg [(.int .u16 (.ofNat 0)), (.int .u16 (.ofNat 0)), (.int .u32 (.ofNat 0)), (.int .u32 (.ofNat 0)), (.int .u32 (.ofNat 0)), (.int .u32 (.ofNat 0)), (.int .u32 (.ofNat 0)), (.int .u32 (.ofNat 0)), (.int .u32 (.ofNat 0)), (.int .u32 (.ofNat 0)), (.int .u32 (.ofNat 0)), (.int .u32 (.ofNat 0)), (.int .u32 (.ofNat 0)), (.int .u32 (.ofNat 0)), (.int .u32 (.ofNat 0)), (.int .u32 (.ofNat 0))])) [] fun x4 =>
 xStore (some 16) x1 x4 h2 fun h3 =>
 xLoad (some (some 16)) x1 h3 fun x5 =>
 k (.tup [x5, x2]) h3
noncomputable abbrev c28_2 (x1 : CV) (h4 : CH) (k : CV → CH → Bool) : Bool :=
 xBuild (some (.inl [(0, 1), (1, 1), (2, 1), (3, 1), (4, 10), (14, 1), (15, 1)])) (some (.agg [(.int .u16 (.ofNat 0)), (.int .u16 (.ofNat 0)), (.int .u32 (.ofNat 0)), (.int .u32 (.ofNat 0)), (.int .u32 (.ofNat 0)), (.int .u32 (.ofNat 0)), (.int .u32 (.ofNat 0)), (.int .u32 (.ofNat 0)), (.int .u32 (.ofNat 0)), (.int .u32 (.ofNat 0)), (.int .u32 (.ofNat 0)), (.int .u32 (.ofNat 0)), (.int .u32 (.ofNat 0)), (.int .u32 (.ofNat 0)), (.int .u32 (.ofNat 0)), (.int .u32 (.ofNat 0))])) [] fun x11 =>
 xStore (some 16) x1 x11 h4 fun h5 =>
 xLoad (some (some 16)) x1 h5 fun x12 =>
 k (.tup [x12, (.int .i64 (.ofNat 2))]) h5
noncomputable abbrev c28_3 (x1 : CV) (h8 : CH) (k : CV → CH → Bool) (x15 : CV) : Bool :=
 xBuild (some (.inl [(0, 1), (1, 1), (2, 1), (3, 1), (4, 10), (14, 1), (15, 1)])) (some (.agg [(.int .u16 (.ofNat 0)), (.int .u16 (.ofNat 0)), (.int .u32 (.ofNat 0)), (.int .u32 (.ofNat 0)), (.int .u32 (.ofNat 0)), (.int .u32 (.ofNat 0)), (.int .u32 (.ofNat 0)), (.int .u32 (.ofNat 0)), (.int .u32 (.ofNat 0)), (.int .u32 (.ofNat 0)), (.int .u32 (.ofNat 0)), (.int .u32 (.ofNat 0)), (.int .u32 (.ofNat 0)), (.int .u32 (.ofNat 0)), (.int .u32 (.ofNat 0)), (.int .u32 (.ofNat 0))])) [] fun x18 =>
 xStore (some 16) x1 x18 h8 fun h9 =>
 xLoad (some (some 16)) x1 h9 fun x19 =>
 k (.tup [x19, x15]) h9
noncomputable abbrev c28_4 (x8 : CV) (x16 : CV) (h8 : CH) (x1 : CV) (k : CV → CH → Bool) : Bool :=
 xBin (some (.int .i64)) .add x8 (.int .i64 (.ofNat 64)) fun x20 =>
 xSlice (some (some 1024, 1)) x16 (some x8) (some x20) none fun x21 =>
 xArr (some 64) x21 fun x22 =>
 xLoad (some (some 64)) x22 h8 fun x23 =>
 bd83 x23 h8 fun x24 h10 =>
 xStore (some 16) x1 x24 h10 fun h11 =>
 xLoad (some (some 16)) x1 h11 fun x25 =>
 k (.tup [x25, (.int .i64 (.ofNat 0))]) h11
noncomputable abbrev c28_5 (x6 : CV) (x1 : CV) (h4 : CH) (k : CV → CH → Bool) (v0 : CV) (x7 : CV) (x8 : CV) : Bool :=
 xExtract x6 2 fun x9 =>
 xUn .not x9 fun x10 =>
 xIte x10
  (c28_2 x1 h4 k)
  (bd68 v0 x7 h4 fun x13 h6 =>
  xExtract x13 0 fun x14 =>
  xExtract x13 1 fun x15 =>
  xBoxP 39 [(.bytes 1024 0)] h6 fun x16 h7 =>
  xStore (some 1024) x16 x14 h7 fun h8 =>
  xBin (some (.int .i64)) .neq x15 (.int .i64 (.ofNat 0)) fun x17 =>
  xIte x17
   (c28_3 x1 h8 k x15)
   (c28_4 x8 x16 h8 x1 k))
noncomputable def bd28 (v0 v1 : CV) (h : CH) (k : CV → CH → Bool) : Bool :=
 xBoxP 68 [(.int .u16 (.ofNat 0)), (.int .u16 (.ofNat 0)), (.int .u32 (.ofNat 0)), (.int .u32 (.ofNat 0)), (.int .u32 (.ofNat 0)), (.int .u32 (.ofNat 0)), (.int .u32 (.ofNat 0)), (.int .u32 (.ofNat 0)), (.int .u32 (.ofNat 0)), (.int .u32 (.ofNat 0)), (.int .u32 (.ofNat 0)), (.int .u32 (.ofNat 0)), (.int .u32 (.ofNat 0)), (.int .u32 (.ofNat 0)), (.int .u32 (.ofNat 0)), (.int .u32 (.ofNat 0))] h fun x1 h1 =>
 bd78 v0 h1 fun x2 h2 =>
 xBin (some (.int .i64)) .neq x2 (.int .i64 (.ofNat 0)) fun x3 =>
 xIte x3
  (c28_1 x1 h2 k x2)
  (bd82 v0 v1 h2 fun x6 h4 =>
  xExtract x6 0 fun x7 =>
  xExtract x6 1 fun x8 =>
  c28_5 x6 x1 h4 k v0 x7 x8)
noncomputable abbrev ex28 : Ex := fun args h k => a2 args fun v0 v1 => bd28 v0 v1 h k
set_option maxRecDepth 100000 in
theorem sim28 : SimF Tryz.prog 28 ex28 := fun args h k hk => by
  obtain ⟨v0, v1, rfl, hk⟩ := a2_ok hk
  exact sim_of (qf := (fun f => [75, 120, 121, 145, 146, 175, 181, 196, 197, 210, 220, 246].contains f)) (Z := zs) (C := [(78, ex78), (82, ex82), (68, ex68), (83, ex83)]) (T := []) ⟨zerosB_ok zsOk, (exCons (by kernel_rfl) sim78 (exCons (by kernel_rfl) sim82 (exCons (by kernel_rfl) sim68 (exCons (by kernel_rfl) sim83 exNil))))⟩ .nil Tryz.func28 _ h k (Eq.mp (by kernel_rfl : (bd28 v0 v1 h k = true) = (xFn Tryz.prog (fun f => [75, 120, 121, 145, 146, 175, 181, 196, 197, 210, 220, 246].contains f) zs [(78, ex78), (82, ex82), (68, ex68), (83, ex83)] [] Tryz.f28 .nil [v0, v1] h k = true)) hk)

/- undercroft/trim.begin -/
noncomputable abbrev c95_1 (x1 : CV) (h2 : CH) (k : CV → CH → Bool) (x2 : CV) : Bool :=
 xBuild (some (.inl [(0, 1), (1, 1), (2, 1), (3, 1), (4, 10), (14, 1), (15, 1)])) (some (.agg [(.int .u16 (.ofNat 0)), (.int .u16 (.ofNat 0)), (.int .u32 (.ofNat 0)), (.int .u32 (.ofNat 0)), (.int .u32 (.ofNat 0)), (.int .u32 (.ofNat 0)), (.int .u32 (.ofNat 0)), (.int .u32 (.ofNat 0)), (.int .u32 (.ofNat 0)), (.int .u32 (.ofNat 0)), (.int .u32 (.ofNat 0)), (.int .u32 (.ofNat 0)), (.int .u32 (.ofNat 0)), (.int .u32 (.ofNat 0)), (.int .u32 (.ofNat 0)), (.int .u32 (.ofNat 0))])) [] fun x4 =>
 xStore (some 16) x1 x4 h2 fun h3 =>
 xLoad (some (some 16)) x1 h3 fun x5 =>
 k (.tup [x5, x2]) h3
noncomputable abbrev c95_2 (x1 : CV) (h4 : CH) (k : CV → CH → Bool) : Bool :=
 xBuild (some (.inl [(0, 1), (1, 1), (2, 1), (3, 1), (4, 10), (14, 1), (15, 1)])) (some (.agg [(.int .u16 (.ofNat 0)), (.int .u16 (.ofNat 0)), (.int .u32 (.ofNat 0)), (.int .u32 (.ofNat 0)), (.int .u32 (.ofNat 0)), (.int .u32 (.ofNat 0)), (.int .u32 (.ofNat 0)), (.int .u32 (.ofNat 0)), (.int .u32 (.ofNat 0)), (.int .u32 (.ofNat 0)), (.int .u32 (.ofNat 0)), (.int .u32 (.ofNat 0)), (.int .u32 (.ofNat 0)), (.int .u32 (.ofNat 0)), (.int .u32 (.ofNat 0)), (.int .u32 (.ofNat 0))])) [] fun x7 =>
 xStore (some 16) x1 x7 h4 fun h5 =>
 xLoad (some (some 16)) x1 h5 fun x8 =>
 k (.tup [x8, (.int .i64 (.ofNat 180))]) h5
noncomputable abbrev c95_3 (x1 : CV) (h8 : CH) (k : CV → CH → Bool) (x11 : CV) : Bool :=
 xBuild (some (.inl [(0, 1), (1, 1), (2, 1), (3, 1), (4, 10), (14, 1), (15, 1)])) (some (.agg [(.int .u16 (.ofNat 0)), (.int .u16 (.ofNat 0)), (.int .u32 (.ofNat 0)), (.int .u32 (.ofNat 0)), (.int .u32 (.ofNat 0)), (.int .u32 (.ofNat 0)), (.int .u32 (.ofNat 0)), (.int .u32 (.ofNat 0)), (.int .u32 (.ofNat 0)), (.int .u32 (.ofNat 0)), (.int .u32 (.ofNat 0)), (.int .u32 (.ofNat 0)), (.int .u32 (.ofNat 0)), (.int .u32 (.ofNat 0)), (.int .u32 (.ofNat 0)), (.int .u32 (.ofNat 0))])) [] fun x14 =>
 xStore (some 16) x1 x14 h8 fun h9 =>
 xLoad (some (some 16)) x1 h9 fun x15 =>
 k (.tup [x15, x11]) h9
noncomputable abbrev c95_4 (x1 : CV) (h8 : CH) (k : CV → CH → Bool) : Bool :=
 xBuild (some (.inl [(0, 1), (1, 1), (2, 1), (3, 1), (4, 10), (14, 1), (15, 1)])) (some (.agg [(.int .u16 (.ofNat 0)), (.int .u16 (.ofNat 0)), (.int .u32 (.ofNat 0)), (.int .u32 (.ofNat 0)), (.int .u32 (.ofNat 0)), (.int .u32 (.ofNat 0)), (.int .u32 (.ofNat 0)), (.int .u32 (.ofNat 0)), (.int .u32 (.ofNat 0)), (.int .u32 (.ofNat 0)), (.int .u32 (.ofNat 0)), (.int .u32 (.ofNat 0)), (.int .u32 (.ofNat 0)), (.int .u32 (.ofNat 0)), (.int .u32 (.ofNat 0)), (.int .u32 (.ofNat 0))])) [] fun x17 =>
 xStore (some 16) x1 x17 h8 fun h10 =>
 xLoad (some (some 16)) x1 h10 fun x18 =>
 k (.tup [x18, (.int .i64 (.ofNat 4))]) h10
noncomputable abbrev c95_5 (x1 : CV) (h8 : CH) (k : CV → CH → Bool) : Bool :=
 xBuild (some (.inl [(0, 1), (1, 1), (2, 1), (3, 1), (4, 10), (14, 1), (15, 1)])) (some (.agg [(.int .u16 (.ofNat 0)), (.int .u16 (.ofNat 0)), (.int .u32 (.ofNat 0)), (.int .u32 (.ofNat 0)), (.int .u32 (.ofNat 0)), (.int .u32 (.ofNat 0)), (.int .u32 (.ofNat 0)), (.int .u32 (.ofNat 0)), (.int .u32 (.ofNat 0)), (.int .u32 (.ofNat 0)), (.int .u32 (.ofNat 0)), (.int .u32 (.ofNat 0)), (.int .u32 (.ofNat 0)), (.int .u32 (.ofNat 0)), (.int .u32 (.ofNat 0)), (.int .u32 (.ofNat 0))])) [] fun x22 =>
 xStore (some 16) x1 x22 h8 fun h11 =>
 xLoad (some (some 16)) x1 h11 fun x23 =>
 k (.tup [x23, (.int .i64 (.ofNat 5))]) h11
noncomputable abbrev c95_6 (x16 : CV) (x1 : CV) (h8 : CH) (k : CV → CH → Bool) (x12 : CV) : Bool :=
 xIte x16
  (c95_4 x1 h8 k)
  (xAddr (some 0) x12 fun x19 =>
  xLoad (some none) x19 h8 fun x20 =>
  xBin (some (.int .u16)) .eql x20 (.int .u16 (.ofNat 0)) fun x21 =>
  xIte x21
   (c95_5 x1 h8 k)
   (xLoad (some (some 16)) x12 h8 fun x24 =>
   xStore (some 16) x1 x24 h8 fun h12 =>
   xLoad (some (some 16)) x1 h12 fun x25 =>
   k (.tup [x25, (.int .i64 (.ofNat 0))]) h12))
noncomputable abbrev c95_7 (h6 : CH) (x10 : CV) (x11 : CV) (x1 : CV) (k : CV → CH → Bool) (v2 : CV) : Bool :=
 xBoxP 68 [(.int .u16 (.ofNat 0)), (.int .u16 (.ofNat 0)), (.int .u32 (.ofNat 0)), (.int .u32 (.ofNat 0)), (.int .u32 (.ofNat 0)), (.int .u32 (.ofNat 0)), (.int .u32 (.ofNat 0)), (.int .u32 (.ofNat 0)), (.int .u32 (.ofNat 0)), (.int .u32 (.ofNat 0)), (.int .u32 (.ofNat 0)), (.int .u32 (.ofNat 0)), (.int .u32 (.ofNat 0)), (.int .u32 (.ofNat 0)), (.int .u32 (.ofNat 0)), (.int .u32 (.ofNat 0))] h6 fun x12 h7 =>
 xStore (some 16) x12 x10 h7 fun h8 =>
 xBin (some (.int .i64)) .neq x11 (.int .i64 (.ofNat 0)) fun x13 =>
 xIte x13
  (c95_3 x1 h8 k x11)
  (xBin (some (.int .i64)) .lss v2 (.int .i64 (.ofNat 0)) fun x16 =>
  c95_6 x16 x1 h8 k x12)
noncomputable def bd95 (v0 v1 v2 : CV) (h : CH) (k : CV → CH → Bool) : Bool :=
 xBoxP 68 [(.int .u16 (.ofNat 0)), (.int .u16 (.ofNat 0)), (.int .u32 (.ofNat 0)), (.int .u32 (.ofNat 0)), (.int .u32 (.ofNat 0)), (.int .u32 (.ofNat 0)), (.int .u32 (.ofNat 0)), (.int .u32 (.ofNat 0)), (.int .u32 (.ofNat 0)), (.int .u32 (.ofNat 0)), (.int .u32 (.ofNat 0)), (.int .u32 (.ofNat 0)), (.int .u32 (.ofNat 0)), (.int .u32 (.ofNat 0)), (.int .u32 (.ofNat 0)), (.int .u32 (.ofNat 0))] h fun x1 h1 =>
 bd78 v0 h1 fun x2 h2 =>
 xBin (some (.int .i64)) .neq x2 (.int .i64 (.ofNat 0)) fun x3 =>
 xIte x3
  (c95_1 x1 h2 k x2)
  (bd86 v0 h2 fun x6 h4 =>
  xIte x6
   (c95_2 x1 h4 k)
   (bd28 v0 v1 h4 fun x9 h6 =>
   xExtract x9 0 fun x10 =>
   xExtract x9 1 fun x11 =>
   c95_7 h6 x10 x11 x1 k v2))
noncomputable abbrev ex95 : Ex := fun args h k => a3 args fun v0 v1 v2 => bd95 v0 v1 v2 h k
set_option maxRecDepth 100000 in
theorem sim95 : SimF Tryz.prog 95 ex95 := fun args h k hk => by
  obtain ⟨v0, v1, v2, rfl, hk⟩ := a3_ok hk
  exact sim_of (qf := (fun f => [75, 120, 121, 145, 146, 175, 181, 196, 197, 210, 220, 246].contains f)) (Z := zs) (C := [(78, ex78), (86, ex86), (28, ex28)]) (T := []) ⟨zerosB_ok zsOk, (exCons (by kernel_rfl) sim78 (exCons (by kernel_rfl) sim86 (exCons (by kernel_rfl) sim28 exNil)))⟩ .nil Tryz.func95 _ h k (Eq.mp (by kernel_rfl : (bd95 v0 v1 v2 h k = true) = (xFn Tryz.prog (fun f => [75, 120, 121, 145, 146, 175, 181, 196, 197, 210, 220, 246].contains f) zs [(78, ex78), (86, ex86), (28, ex28)] [] Tryz.f95 .nil [v0, v1, v2] h k = true)) hk)

/- undercroft/plan.Blocks -/
noncomputable def bd96 (v0 : CV) (h : CH) (k : CV → CH → Bool) : Bool :=
 xBin (some (.int .i64)) .lss v0 (.int .i64 (.ofNat 1)) fun x1 =>
 xIte x1
  (k (.int .i64 (.ofNat 0)) h)
  (xBin (some (.int .i64)) .sub v0 (.int .i64 (.ofNat 1)) fun x2 =>
  xBin (some (.int .i64)) .quo x2 (.int .i64 (.ofNat 1024)) fun x3 =>
  xBin (some (.int .i64)) .add x3 (.int .i64 (.ofNat 1)) fun x4 =>
  k x4 h)
noncomputable abbrev ex96 : Ex := fun args h k => a1 args fun v0 => bd96 v0 h k
set_option maxRecDepth 100000 in
theorem sim96 : SimF Tryz.prog 96 ex96 := fun args h k hk => by
  obtain ⟨v0, rfl, hk⟩ := a1_ok hk
  exact sim_of (qf := (fun f => [75, 120, 121, 145, 146, 175, 181, 196, 197, 210, 220, 246].contains f)) (Z := zs) (C := []) (T := []) ⟨zerosB_ok zsOk, exNil⟩ .nil Tryz.func96 _ h k (Eq.mp (by kernel_rfl : (bd96 v0 h k = true) = (xFn Tryz.prog (fun f => [75, 120, 121, 145, 146, 175, 181, 196, 197, 210, 220, 246].contains f) zs [] [] Tryz.f96 .nil [v0] h k = true)) hk)

/- undercroft/chart.open -/
noncomputable abbrev c102_1 (v0 : CV) (v1 : CV) (x9 : CV) (h5 : CH) (k : CV → CH → Bool) : Bool :=
 xBuild (some (.inl [(0, 1), (1, 1), (2, 16)])) (some (.agg [.nilp, (.int .i64 (.ofNat 0)), (.int .u16 (.ofNat 0)), (.int .u16 (.ofNat 0)), (.int .u32 (.ofNat 0)), (.int .u32 (.ofNat 0)), (.int .u32 (.ofNat 0)), (.int .u32 (.ofNat 0)), (.int .u32 (.ofNat 0)), (.int .u32 (.ofNat 0)), (.int .u32 (.ofNat 0)), (.int .u32 (.ofNat 0)), (.int .u32 (.ofNat 0)), (.int .u32 (.ofNat 0)), (.int .u32 (.ofNat 0)), (.int .u32 (.ofNat 0)), (.int .u32 (.ofNat 0)), (.int .u32 (.ofNat 0))])) [(0, v0), (1, v1), (2, x9)] fun x10 =>
 xBox 165 x10 h5 fun x11 h6 =>
 k (.tup [x11, (.int .i64 (.ofNat 0))]) h6
noncomputable abbrev c102_2 (h3 : CH) (x5 : CV) (x6 : CV) (k : CV → CH → Bool) (v0 : CV) (v1 : CV) : Bool :=
 xBoxP 68 [(.int .u16 (.ofNat 0)), (.int .u16 (.ofNat 0)), (.int .u32 (.ofNat 0)), (.int .u32 (.ofNat 0)), (.int .u32 (.ofNat 0)), (.int .u32 (.ofNat 0)), (.int .u32 (.ofNat 0)), (.int .u32 (.ofNat 0)), (.int .u32 (.ofNat 0)), (.int .u32 (.ofNat 0)), (.int .u32 (.ofNat 0)), (.int .u32 (.ofNat 0)), (.int .u32 (.ofNat 0)), (.int .u32 (.ofNat 0)), (.int .u32 (.ofNat 0)), (.int .u32 (.ofNat 0))] h3 fun x7 h4 =>
 xStore (some 16) x7 x5 h4 fun h5 =>
 xBin (some (.int .i64)) .neq x6 (.int .i64 (.ofNat 0)) fun x8 =>
 xIte x8
  (k (.tup [.nilp, x6]) h5)
  (xLoad (some (some 16)) x7 h5 fun x9 =>
  c102_1 v0 v1 x9 h5 k)
noncomputable abbrev c102_3 (x2 : CV) (k : CV → CH → Bool) (x1 : CV) (h1 : CH) (v0 : CV) (v1 : CV) (v2 : CV) : Bool :=
 xIte x2
  (k (.tup [.nilp, x1]) h1)
  (xJoin (n := 1) (fun s2 h2 =>
   xIte s2.1
    (k (.tup [.nilp, (.int .i64 (.ofNat 180))]) h2)
    (bd28 v0 v1 h2 fun x4 h3 =>
    xExtract x4 0 fun x5 =>
    xExtract x4 1 fun x6 =>
    c102_2 h3 x5 x6 k v0 v1))
  (fun K11 => xIte v2
   (bd86 v0 h1 fun x13 h7 =>
   xUn .not x13 fun x14 =>
   K11 (x14, ()) h7)
   (K11 ((.bool false), ()) h1)))
noncomputable def bd102 (v0 v1 v2 : CV) (h : CH) (k : CV → CH → Bool) : Bool :=
 bd78 v0 h fun x1 h1 =>
 xBin (some (.int .i64)) .neq x1 (.int .i64 (.ofNat 0)) fun x2 =>
 c102_3 x2 k x1 h1 v0 v1 v2
noncomputable abbrev ex102 : Ex := fun args h k => a3 args fun v0 v1 v2 => bd102 v0 v1 v2 h k
set_option maxRecDepth 100000 in
theorem sim102 : SimF Tryz.prog 102 ex102 := fun args h k hk => by
  obtain ⟨v0, v1, v2, rfl, hk⟩ := a3_ok hk
  exact sim_of (qf := (fun f => [75, 120, 121, 145, 146, 175, 181, 196, 197, 210, 220, 246].contains f)) (Z := zs) (C := [(78, ex78), (28, ex28), (86, ex86)]) (T := []) ⟨zerosB_ok zsOk, (exCons (by kernel_rfl) sim78 (exCons (by kernel_rfl) sim28 (exCons (by kernel_rfl) sim86 exNil)))⟩ (.seq .nil (.seq .nil (.seq (.join [21] [16, 17, 18, 19, 20] .nil .nil) .nil))) Tryz.func102 _ h k (Eq.mp (by kernel_rfl : (bd102 v0 v1 v2 h k = true) = (xFn Tryz.prog (fun f => [75, 120, 121, 145, 146, 175, 181, 196, 197, 210, 220, 246].contains f) zs [(78, ex78), (28, ex28), (86, ex86)] [] Tryz.f102 (.seq .nil (.seq .nil (.seq (.join [21] [16, 17, 18, 19, 20] .nil .nil) .nil))) [v0, v1, v2] h k = true)) hk)

/- (*undercroft/chart.file).good -/
noncomputable abbrev c158_1 (x8 : CV) (x5 : CV) (h3 : CH) (v1 : CV) (K6 : TupC 1 → CH → Bool) : Bool :=
 xIte x8
  (xAddr (some 8) x5 fun x9 =>
  xLoad (some none) x9 h3 fun x10 =>
  xBin (some (.int .i64)) .lss v1 x10 fun x11 =>
  xIte x11
   (K6 ((.bool true), ()) h3)
   (xAddr (some 0) x5 fun x12 =>
   xAddr (some 0) x12 fun x13 =>
   xLoad (some none) x13 h3 fun x14 =>
   xBin (some (.int .i64)) .geq v1 x14 fun x15 =>
   K6 (x15, ()) h3))
  (K6 ((.bool false), ()) h3)
noncomputable abbrev c158_2 (h1 : CH) (x4 : CV) (k : CV → CH → Bool) (v1 : CV) : Bool :=
 xBoxP 89 [(.int .i64 (.ofNat 0)), (.int .i64 (.ofNat 0)), (.int .i64 (.ofNat 0)), (.int .i64 (.ofNat 0)), (.int .i64 (.ofNat 0)), (.int .i64 (.ofNat 0)), (.int .i64 (.ofNat 0)), (.int .i64 (.ofNat 0)), (.int .i64 (.ofNat 0))] h1 fun x5 h2 =>
 xStore (some 9) x5 x4 h2 fun h3 =>
 xJoin (n := 1) (fun s5 h4 =>
  xIte s5.1
   (k (.int .i64 (.ofNat 4)) h4)
   (k (.int .i64 (.ofNat 0)) h4))
 (fun K6 => xBin (some (.int .i64)) .neq v1 (.int .i64 (.ofNat 0)) fun x8 =>
 c158_1 x8 x5 h3 v1 K6)
noncomputable def bd158 (v0 v1 : CV) (h : CH) (k : CV → CH → Bool) : Bool :=
 xNilCheck v0 fun x1 =>
 xAddr (some 0) x1 fun x2 =>
 xLoad (some none) x2 h fun x3 =>
 bd75 x3 h fun x4 h1 =>
 c158_2 h1 x4 k v1
noncomputable abbrev ex158 : Ex := fun args h k => a2 args fun v0 v1 => bd158 v0 v1 h k
set_option maxRecDepth 100000 in
theorem sim158 : SimF Tryz.prog 158 ex158 := fun args h k hk => by
  obtain ⟨v0, v1, rfl, hk⟩ := a2_ok hk
  exact sim_of (qf := (fun f => [75, 120, 121, 145, 146, 175, 181, 196, 197, 210, 220, 246].contains f)) (Z := zs) (C := [(75, ex75)]) (T := []) ⟨zerosB_ok zsOk, (exCons (by kernel_rfl) sim75 exNil)⟩ (.seq .nil (.seq .nil (.seq (.join [25] [11, 12, 13, 14, 15, 16, 17, 18, 19, 20, 21, 22, 23, 24] .nil .nil) .nil))) Tryz.func158 _ h k (Eq.mp (by kernel_rfl : (bd158 v0 v1 h k = true) = (xFn Tryz.prog (fun f => [75, 120, 121, 145, 146, 175, 181, 196, 197, 210, 220, 246].contains f) zs [(75, ex75)] [] Tryz.f158 (.seq .nil (.seq .nil (.seq (.join [25] [11, 12, 13, 14, 15, 16, 17, 18, 19, 20, 21, 22, 23, 24] .nil .nil) .nil))) [v0, v1] h k = true)) hk)

/- (*undercroft/chart.file).collect -/
noncomputable abbrev c157_1 (v4 : CV) (x25 : CV) (r157 : Ex) (v0 : CV) (s16 : TupC 2) (x23 : CV) (x24 : CV) (h9 : CH) (k : CV → CH → Bool) (K17 : TupC 2 → CH → Bool) : Bool :=
 xBin (some (.int .i64)) .add v4 x25 fun x26 =>
 r157 [v0, s16.1, x23, x24, x26] h9 fun x27 h10 =>
 xExtract x27 0 fun x28 =>
 xExtract x27 1 fun x29 =>
 xBin (some (.int .i64)) .neq x29 (.int .i64 (.ofNat 0)) fun x30 =>
 xIte x30
  (k (.tup [.nils, x29]) h10)
  (xBin (some (.int .i64)) .add s16.2.1 (.int .i64 (.ofNat 1)) fun x31 =>
  K17 (x28, x31, ()) h10)
noncomputable abbrev c157_2 (x14 : CV) (h8 : CH) (s16 : TupC 2) (v3 : CV) (s15 : TupC 1) (v4 : CV) (r157 : Ex) (v0 : CV) (k : CV → CH → Bool) (K17 : TupC 2 → CH → Bool) : Bool :=
 xLoad (some (some 1024)) x14 h8 fun x20 =>
 xBin (some (.int .i64)) .mul (.int .i64 (.ofNat 4)) s16.2.1 fun x21 =>
 bd146 x20 x21 h8 fun x22 h9 =>
 xConv (some (.int .u32)) (some (.int .i64)) x22 fun x23 =>
 xBin (some (.int .i64)) .sub v3 (.int .i64 (.ofNat 1)) fun x24 =>
 xBin (some (.int .i64)) .mul s16.2.1 s15.1 fun x25 =>
 c157_1 v4 x25 r157 v0 s16 x23 x24 h9 k K17
noncomputable abbrev c157_3 (x14 : CV) (v3 : CV) (v4 : CV) (r157 : Ex) (v0 : CV) (k : CV → CH → Bool) (v1 : CV) (h6 : CH) : Bool :=
 xJoin (n := 1) (fun s15 h7 =>
  xLoop (n := 2) (fun K17 s16 h8 =>
   xBin (some (.int .i64)) .lss s16.2.1 (.int .i64 (.ofNat 256)) fun x19 =>
   xIte x19
    (c157_2 x14 h8 s16 v3 s15 v4 r157 v0 k K17)
    (k (.tup [s16.1, (.int .i64 (.ofNat 0))]) h8)) 1000000 (v1, (.int .i64 (.ofNat 0)), ()) h7)
 (fun K31 => xBin (some (.int .i64)) .eql v3 (.int .i64 (.ofNat 2)) fun x33 =>
 xIte x33
  (K31 ((.int .i64 (.ofNat 256)), ()) h6)
  (K31 ((.int .i64 (.ofNat 1)), ()) h6))
noncomputable abbrev c157_4 (x8 : CV) (h1 : CH) (v2 : CV) (k : CV → CH → Bool) (v3 : CV) (v4 : CV) (r157 : Ex) (v0 : CV) (v1 : CV) : Bool :=
 xAddr (some 0) x8 fun x9 =>
 xLoad (some none) x9 h1 fun x10 =>
 bd68 x10 v2 h1 fun x11 h4 =>
 xExtract x11 0 fun x12 =>
 xExtract x11 1 fun x13 =>
 xBoxP 39 [(.bytes 1024 0)] h4 fun x14 h5 =>
 xStore (some 1024) x14 x12 h5 fun h6 =>
 xBin (some (.int .i64)) .neq x13 (.int .i64 (.ofNat 0)) fun x15 =>
 xIte x15
  (k (.tup [.nils, x13]) h6)
  (c157_3 x14 v3 v4 r157 v0 k v1 h6)
noncomputable abbrev c157_5 (x4 : CV) (v4 : CV) (v2 : CV) (h1 : CH) (v1 : CV) (k : CV → CH → Bool) (v0 : CV) (v3 : CV) (r157 : Ex) : Bool :=
 xIte x4
  (xBuild (some (.inl [(0, 1), (1, 1)])) (some (.agg [(.int .i64 (.ofNat 0)), (.int .i64 (.ofNat 0))])) [(0, v4), (1, v2)] fun x5 =>
  xNewS (some (170, 2, 16, false)) (some [(.int .i64 (.ofNat 0)), (.int .i64 (.ofNat 0))]) 1 [(0, x5)] h1 fun x6 h2 =>
  xApp (some (170, 2, 16, false)) v1 x6 h2 fun x7 h3 =>
  k (.tup [x7, (.int .i64 (.ofNat 0))]) h3)
  (xNilCheck v0 fun x8 =>
  c157_4 x8 h1 v2 k v3 v4 r157 v0 v1)
noncomputable def bd157 (r157 : Ex) (v0 v1 v2 v3 v4 : CV) (h : CH) (k : CV → CH → Bool) : Bool :=
 bd158 v0 v2 h fun x1 h1 =>
 xBin (some (.int .i64)) .neq x1 (.int .i64 (.ofNat 0)) fun x2 =>
 xIte x2
  (k (.tup [.nils, x1]) h1)
  (xBin (some (.int .i64)) .eql v2 (.int .i64 (.ofNat 0)) fun x3 =>
  xIte x3
   (k (.tup [v1, (.int .i64 (.ofNat 0))]) h1)
   (xBin (some (.int .i64)) .eql v3 (.int .i64 (.ofNat 0)) fun x4 =>
   c157_5 x4 v4 v2 h1 v1 k v0 v3 r157))
noncomputable def rc157 : Nat → Nat → Ex := fun n => Nat.rec (motive := fun _ => Nat → Ex) (fun _ _ _ _ => false) (fun _ ih j => match j with
  | 0 => fun args h k => a5 args (fun v0 v1 v2 v3 v4 => bd157 (ih 0) v0 v1 v2 v3 v4 h k)
  | _ => fun _ _ _ => false) n
set_option maxRecDepth 100000 in
theorem sr157 : ∀ n, SimF Tryz.prog 157 (rc157 n 0)
  | 0 => fun args h k hk => by cases hk
  | n + 1 => by
    have ih := sr157 n
    have i157 := ih
    · intro args h k hk
      obtain ⟨v0, v1, v2, v3, v4, rfl, hk⟩ := a5_ok hk
      exact sim_of (qf := (fun f => [75, 120, 121, 145, 146, 175, 181, 196, 197, 210, 220, 246].contains f)) (Z := zs) (C := [(157, rc157 n 0), (158, ex158), (68, ex68), (146, ex146)]) (T := []) ⟨zerosB_ok zsOk, (exCons (by kernel_rfl) i157 (exCons (by kernel_rfl) sim158 (exCons (by kernel_rfl) sim68 (exCons (by kernel_rfl) sim146 exNil))))⟩ (.seq .nil (.seq .nil (.seq .nil (.seq .nil (.seq .nil (.seq .nil (.seq .nil (.join [15] [46, 47] .nil (.seq (.seq .nil (.loop [1, 48] [49, 50, 16, 52, 53, 54, 55, 56, 57, 58, 59, 60, 61, 62, 63, 64, 65, 66, 51, 67, 68, 14, 69, 70, 71, 10, 11, 72] .nil)) .nil))))))))) Tryz.func157 _ h k (Eq.mp (by kernel_rfl : (bd157 (rc157 n 0) v0 v1 v2 v3 v4 h k = true) = (xFn Tryz.prog (fun f => [75, 120, 121, 145, 146, 175, 181, 196, 197, 210, 220, 246].contains f) zs [(157, rc157 n 0), (158, ex158), (68, ex68), (146, ex146)] [] Tryz.f157 (.seq .nil (.seq .nil (.seq .nil (.seq .nil (.seq .nil (.seq .nil (.seq .nil (.join [15] [46, 47] .nil (.seq (.seq .nil (.loop [1, 48] [49, 50, 16, 52, 53, 54, 55, 56, 57, 58, 59, 60, 61, 62, 63, 64, 65, 66, 51, 67, 68, 14, 69, 70, 71, 10, 11, 72] .nil)) .nil))))))))) [v0, v1, v2, v3, v4] h k = true)) hk)
noncomputable abbrev ex157 : Ex := rc157 1000 0
theorem sim157 : SimF Tryz.prog 157 ex157 := sr157 1000

/- (*undercroft/chart.file).all -/
noncomputable abbrev c108_1 (x8 : CV) (v0 : CV) (s4 : TupC 2) (h1 : CH) (k : CV → CH → Bool) (K5 : TupC 2 → CH → Bool) : Bool :=
 xConv (some (.int .u32)) (some (.int .i64)) x8 fun x9 =>
 ex157 [v0, s4.1, x9, (.int .i64 (.ofNat 0)), s4.2.1] h1 fun x10 h2 =>
 xExtract x10 0 fun x11 =>
 xExtract x10 1 fun x12 =>
 xBin (some (.int .i64)) .neq x12 (.int .i64 (.ofNat 0)) fun x13 =>
 xIte x13
  (k (.tup [.nils, x12]) h2)
  (xBin (some (.int .i64)) .add s4.2.1 (.int .i64 (.ofNat 1)) fun x14 =>
  K5 (x11, x14, ()) h2)
noncomputable abbrev c108_2 (x23 : CV) (k : CV → CH → Bool) (x22 : CV) (h3 : CH) (v0 : CV) (x21 : CV) : Bool :=
 xIte x23
  (k (.tup [.nils, x22]) h3)
  (xNilCheck v0 fun x24 =>
  xAddr (some 2) x24 fun x25 =>
  xAddr (some 15) x25 fun x26 =>
  xLoad (some none) x26 h3 fun x27 =>
  xConv (some (.int .u32)) (some (.int .i64)) x27 fun x28 =>
  ex157 [v0, x21, x28, (.int .i64 (.ofNat 2)), (.int .i64 (.ofNat 266))] h3 fun x29 h4 =>
  xExtract x29 0 fun x30 =>
  xExtract x29 1 fun x31 =>
  k (.tup [x30, x31]) h4)
noncomputable abbrev c108_3 (x16 : CV) (h1 : CH) (v0 : CV) (s4 : TupC 2) (k : CV → CH → Bool) : Bool :=
 xAddr (some 14) x16 fun x17 =>
 xLoad (some none) x17 h1 fun x18 =>
 xConv (some (.int .u32)) (some (.int .i64)) x18 fun x19 =>
 ex157 [v0, s4.1, x19, (.int .i64 (.ofNat 1)), (.int .i64 (.ofNat 10))] h1 fun x20 h3 =>
 xExtract x20 0 fun x21 =>
 xExtract x20 1 fun x22 =>
 xBin (some (.int .i64)) .neq x22 (.int .i64 (.ofNat 0)) fun x23 =>
 c108_2 x23 k x22 h3 v0 x21
noncomputable abbrev c108_4 (x3 : CV) (h : CH) (v0 : CV) (k : CV → CH → Bool) : Bool :=
 xLoad (some (some 10)) x3 h fun x4 =>
 xLoop (n := 2) (fun K5 s4 h1 =>
  xBin (some (.int .i64)) .lss s4.2.1 (.int .i64 (.ofNat 10)) fun x7 =>
  xIte x7
   (xIndex (some (some (10, (some none), 1))) x4 s4.2.1 fun x8 =>
   c108_1 x8 v0 s4 h1 k K5)
   (xNilCheck v0 fun x15 =>
   xAddr (some 2) x15 fun x16 =>
   c108_3 x16 h1 v0 s4 k)) 1000000 (.nils, (.int .i64 (.ofNat 0)), ()) h
noncomputable def bd108 (v0 : CV) (h : CH) (k : CV → CH → Bool) : Bool :=
 xNilCheck v0 fun x1 =>
 xAddr (some 2) x1 fun x2 =>
 xAddr (some 4) x2 fun x3 =>
 c108_4 x3 h v0 k
noncomputable abbrev ex108 : Ex := fun args h k => a1 args fun v0 => bd108 v0 h k
set_option maxRecDepth 100000 in
theorem sim108 : SimF Tryz.prog 108 ex108 := fun args h k hk => by
  obtain ⟨v0, rfl, hk⟩ := a1_ok hk
  exact sim_of (qf := (fun f => [75, 120, 121, 145, 146, 175, 181, 196, 197, 210, 220, 246].contains f)) (Z := zs) (C := [(157, ex157)]) (T := []) ⟨zerosB_ok zsOk, (exCons (by kernel_rfl) sim157 exNil)⟩ (.seq .nil (.seq .nil (.seq .nil (.seq (.seq .nil (.loop [4, 13] [14, 15, 16, 6, 7, 18, 19, 20, 21, 22, 23, 17, 24, 25, 5, 26, 27, 28, 2, 3, 29] .nil)) .nil)))) Tryz.func108 _ h k (Eq.mp (by kernel_rfl : (bd108 v0 h k = true) = (xFn Tryz.prog (fun f => [75, 120, 121, 145, 146, 175, 181, 196, 197, 210, 220, 246].contains f) zs [(157, ex157)] [] Tryz.f108 (.seq .nil (.seq .nil (.seq .nil (.seq (.seq .nil (.loop [4, 13] [14, 15, 16, 6, 7, 18, 19, 20, 21, 22, 23, 17, 24, 25, 5, 26, 27, 28, 2, 3, 29] .nil)) .nil)))) [v0] h k = true)) hk)

/- undercroft/chart.Last -/
noncomputable abbrev c54_1 (x10 : CV) (x7 : CV) (h2 : CH) (v2 : CV) (K15 : TupC 1 → CH → Bool) : Bool :=
 xBin (some (.int .i64)) .gtr x10 (.int .i64 (.ofNat 0)) fun x17 =>
 xIte x17
  (xBin (some (.int .i64)) .sub x10 (.int .i64 (.ofNat 1)) fun x18 =>
  xIdx (some (none, 2)) x7 x18 fun x19 =>
  xAddr (some 0) x19 fun x20 =>
  xLoad (some none) x20 h2 fun x21 =>
  xBin (some (.int .i64)) .geq x21 v2 fun x22 =>
  K15 (x22, ()) h2)
  (K15 ((.bool false), ()) h2)
noncomputable abbrev c54_2 (x10 : CV) (x7 : CV) (k : CV → CH → Bool) (h2 : CH) (v2 : CV) : Bool :=
 xJoin (n := 1) (fun s10 h3 =>
  xIte s10.1
   (xBin (some (.int .i64)) .sub x10 (.int .i64 (.ofNat 1)) fun x12 =>
   xIdx (some (none, 2)) x7 x12 fun x13 =>
   xAddr (some 0) x13 fun x14 =>
   xLoad (some none) x14 h3 fun x15 =>
   k (.tup [x15, (.int .i64 (.ofNat 0))]) h3)
   (k (.tup [(.int .i64 (.negSucc 0)), (.int .i64 (.ofNat 0))]) h3))
 (fun K15 => c54_1 x10 x7 h2 v2 K15)
noncomputable abbrev c54_3 (v2 : CV) (k : CV → CH → Bool) (h1 : CH) (x2 : CV) : Bool :=
 xBin (some (.int .i64)) .lss v2 (.int .i64 (.ofNat 0)) fun x5 =>
 xIte x5
  (k (.tup [(.int .i64 (.ofNat 0)), (.int .i64 (.ofNat 2))]) h1)
  (bd108 x2 h1 fun x6 h2 =>
  xExtract x6 0 fun x7 =>
  xExtract x6 1 fun x8 =>
  xBin (some (.int .i64)) .neq x8 (.int .i64 (.ofNat 0)) fun x9 =>
  xIte x9
   (k (.tup [(.int .i64 (.ofNat 0)), x8]) h2)
   (xLen (some (.inl false)) x7 fun x10 =>
   c54_2 x10 x7 k h2 v2))
noncomputable def bd54 (v0 v1 v2 : CV) (h : CH) (k : CV → CH → Bool) : Bool :=
 bd102 v0 v1 (.bool false) h fun x1 h1 =>
 xExtract x1 0 fun x2 =>
 xExtract x1 1 fun x3 =>
 xBin (some (.int .i64)) .neq x3 (.int .i64 (.ofNat 0)) fun x4 =>
 xIte x4
  (k (.tup [(.int .i64 (.ofNat 0)), x3]) h1)
  (c54_3 v2 k h1 x2)
noncomputable abbrev ex54 : Ex := fun args h k => a3 args fun v0 v1 v2 => bd54 v0 v1 v2 h k
set_option maxRecDepth 100000 in
theorem sim54 : SimF Tryz.prog 54 ex54 := fun args h k hk => by
  obtain ⟨v0, v1, v2, rfl, hk⟩ := a3_ok hk
  exact sim_of (qf := (fun f => [75, 120, 121, 145, 146, 175, 181, 196, 197, 210, 220, 246].contains f)) (Z := zs) (C := [(102, ex102), (108, ex108)]) (T := []) ⟨zerosB_ok zsOk, (exCons (by kernel_rfl) sim102 (exCons (by kernel_rfl) sim108 exNil))⟩ (.seq .nil (.seq .nil (.seq .nil (.seq .nil (.seq .nil (.seq .nil (.seq (.seq .nil (.join [44] [33, 34, 35, 36, 37, 38, 39, 40, 41, 42, 43] .nil .nil)) .nil))))))) Tryz.func54 _ h k (Eq.mp (by kernel_rfl : (bd54 v0 v1 v2 h k = true) = (xFn Tryz.prog (fun f => [75, 120, 121, 145, 146, 175, 181, 196, 197, 210, 220, 246].contains f) zs [(102, ex102), (108, ex108)] [] Tryz.f54 (.seq .nil (.seq .nil (.seq .nil (.seq .nil (.seq .nil (.seq .nil (.seq (.seq .nil (.join [44] [33, 34, 35, 36, 37, 38, 39, 40, 41, 42, 43] .nil .nil)) .nil))))))) [v0, v1, v2] h k = true)) hk)

/- undercroft/trim.last -/
noncomputable def bd97 (v0 v1 v2 : CV) (h : CH) (k : CV → CH → Bool) : Bool :=
 xBin (some (.int .i64)) .geq v2 (.int .i64 (.ofNat 65802)) fun x1 =>
 xIte x1
  (k (.tup [(.int .i64 (.negSucc 0)), (.int .i64 (.ofNat 0))]) h)
  (bd54 v0 v1 v2 h fun x2 h1 =>
  xExtract x2 0 fun x3 =>
  xExtract x2 1 fun x4 =>
  k (.tup [x3, x4]) h1)
noncomputable abbrev ex97 : Ex := fun args h k => a3 args fun v0 v1 v2 => bd97 v0 v1 v2 h k
set_option maxRecDepth 100000 in
theorem sim97 : SimF Tryz.prog 97 ex97 := fun args h k hk => by
  obtain ⟨v0, v1, v2, rfl, hk⟩ := a3_ok hk
  exact sim_of (qf := (fun f => [75, 120, 121, 145, 146, 175, 181, 196, 197, 210, 220, 246].contains f)) (Z := zs) (C := [(54, ex54)]) (T := []) ⟨zerosB_ok zsOk, (exCons (by kernel_rfl) sim54 exNil)⟩ .nil Tryz.func97 _ h k (Eq.mp (by kernel_rfl : (bd97 v0 v1 v2 h k = true) = (xFn Tryz.prog (fun f => [75, 120, 121, 145, 146, 175, 181, 196, 197, 210, 220, 246].contains f) zs [(54, ex54)] [] Tryz.f97 .nil [v0, v1, v2] h k = true)) hk)

/- undercroft/plan.Group -/
noncomputable def bd113 (v0 : CV) (h : CH) (k : CV → CH → Bool) : Bool :=
 xBin (some (.int .i64)) .lss v0 (.int .i64 (.ofNat 0)) fun x1 =>
 xIte x1
  (k (.int .i64 (.negSucc 0)) h)
  (xBin (some (.int .i64)) .quo v0 (.int .i64 (.ofNat 8)) fun x2 =>
  k x2 h)
noncomputable abbrev ex113 : Ex := fun args h k => a1 args fun v0 => bd113 v0 h k
set_option maxRecDepth 100000 in
theorem sim113 : SimF Tryz.prog 113 ex113 := fun args h k hk => by
  obtain ⟨v0, rfl, hk⟩ := a1_ok hk
  exact sim_of (qf := (fun f => [75, 120, 121, 145, 146, 175, 181, 196, 197, 210, 220, 246].contains f)) (Z := zs) (C := []) (T := []) ⟨zerosB_ok zsOk, exNil⟩ .nil Tryz.func113 _ h k (Eq.mp (by kernel_rfl : (bd113 v0 h k = true) = (xFn Tryz.prog (fun f => [75, 120, 121, 145, 146, 175, 181, 196, 197, 210, 220, 246].contains f) zs [] [] Tryz.f113 .nil [v0] h k = true)) hk)

/- (*undercroft/disk.Disk).burn -/
noncomputable abbrev c186_1 (x17 : CV) (v0 : CV) (h : CH) (K13 : TupC 0 → CH → Bool) : Bool :=
 xBin (some (.int .i64)) .gtr x17 (.int .i64 (.ofNat 0)) fun x18 =>
 xIte x18
  (xNilCheck v0 fun x19 =>
  xAddr (some 5) x19 fun x20 =>
  xLoad (some none) x20 h fun x21 =>
  xBin (some (.int .i64)) .sub x21 (.int .i64 (.ofNat 1)) fun x22 =>
  xNilCheck v0 fun x23 =>
  xAddr (some 5) x23 fun x24 =>
  xStore (some 1) x24 x22 h fun h4 =>
  K13 (()) h4)
  (K13 (()) h)
noncomputable abbrev c186_2 (v0 : CV) (k : CV → CH → Bool) (h : CH) : Bool :=
 xJoin (n := 0) (fun s6 h2 =>
  xNilCheck v0 fun x8 =>
  xAddr (some 7) x8 fun x9 =>
  xLoad (some none) x9 h2 fun x10 =>
  xBin (some (.int .i64)) .add x10 (.int .i64 (.ofNat 1)) fun x11 =>
  xNilCheck v0 fun x12 =>
  xAddr (some 7) x12 fun x13 =>
  xStore (some 1) x13 x11 h2 fun h3 =>
  k (.bool true) h3)
 (fun K13 => xNilCheck v0 fun x15 =>
 xAddr (some 5) x15 fun x16 =>
 xLoad (some none) x16 h fun x17 =>
 c186_1 x17 v0 h K13)
noncomputable def bd186 (v0 : CV) (h : CH) (k : CV → CH → Bool) : Bool :=
 xNilCheck v0 fun x1 =>
 xAddr (some 5) x1 fun x2 =>
 xLoad (some none) x2 h fun x3 =>
 xBin (some (.int .i64)) .eql x3 (.int .i64 (.ofNat 0)) fun x4 =>
 xIte x4
  (xNilCheck v0 fun x5 =>
  xAddr (some 6) x5 fun x6 =>
  xStore (some 1) x6 (.bool true) h fun h1 =>
  k (.bool false) h1)
  (c186_2 v0 k h)
noncomputable abbrev ex186 : Ex := fun args h k => a1 args fun v0 => bd186 v0 h k
set_option maxRecDepth 100000 in
theorem sim186 : SimF Tryz.prog 186 ex186 := fun args h k hk => by
  obtain ⟨v0, rfl, hk⟩ := a1_ok hk
  exact sim_of (qf := (fun f => [75, 120, 121, 145, 146, 175, 181, 196, 197, 210, 220, 246].contains f)) (Z := zs) (C := []) (T := []) ⟨zerosB_ok zsOk, exNil⟩ (.seq .nil (.seq .nil (.join [] [11, 12, 13, 14, 15, 16, 17, 18, 19, 20, 21, 22] .nil .nil))) Tryz.func186 _ h k (Eq.mp (by kernel_rfl : (bd186 v0 h k = true) = (xFn Tryz.prog (fun f => [75, 120, 121, 145, 146, 175, 181, 196, 197, 210, 220, 246].contains f) zs [] [] Tryz.f186 (.seq .nil (.seq .nil (.join [] [11, 12, 13, 14, 15, 16, 17, 18, 19, 20, 21, 22] .nil .nil))) [v0] h k = true)) hk)

/- (*undercroft/disk.Disk).Write -/
noncomputable abbrev c139_1 (v1 : CV) (x23 : CV) (h8 : CH) (x22 : CV) (v0 : CV) (k : CV → CH → Bool) : Bool :=
 xBuild (some (.inl [(0, 1), (1, 1), (2, 1024)])) (some (.agg [(.bytes 1 0), (.int .i64 (.ofNat 0)), (.bytes 1024 0)])) [(0, (.int .u8 (.ofNat 1))), (1, v1), (2, x23)] fun x24 =>
 xNewS (some (268, 1026, 1040, false)) (some [(.bytes 1 0), (.int .i64 (.ofNat 0)), (.bytes 1024 0)]) 1 [(0, x24)] h8 fun x25 h9 =>
 xApp (some (268, 1026, 1040, false)) x22 x25 h9 fun x26 h10 =>
 xNilCheck v0 fun x27 =>
 xAddr (some 4) x27 fun x28 =>
 xStore (some 1) x28 x26 h10 fun h11 =>
 k (.int .i64 (.ofNat 0)) h11
noncomputable abbrev c139_2 (x15 : CV) (x13 : CV) (h6 : CH) (v0 : CV) (x1 : CV) (v1 : CV) (k : CV → CH → Bool) : Bool :=
 xStore (some 1) x15 x13 h6 fun h7 =>
 xNilCheck v0 fun x16 =>
 xAddr (some 2) x16 fun x17 =>
 xLoad (some none) x17 h7 fun x18 =>
 xLoad (some (some 1024)) x1 h7 fun x19 =>
 xMapSet (some (3, .int .i64, 39)) x18 v1 x19 h7 fun h8 =>
 xNilCheck v0 fun x20 =>
 xAddr (some 4) x20 fun x21 =>
 xLoad (some none) x21 h8 fun x22 =>
 xLoad (some (some 1024)) x1 h8 fun x23 =>
 c139_1 v1 x23 h8 x22 v0 k
noncomputable abbrev c139_3 (v1 : CV) (x10 : CV) (h4 : CH) (x9 : CV) (v0 : CV) (x1 : CV) (k : CV → CH → Bool) : Bool :=
 xBuild (some (.inl [(0, 1), (1, 1024)])) (some (.agg [(.int .i64 (.ofNat 0)), (.bytes 1024 0)])) [(0, v1), (1, x10)] fun x11 =>
 xNewS (some (41, 1025, 1032, false)) (some [(.int .i64 (.ofNat 0)), (.bytes 1024 0)]) 1 [(0, x11)] h4 fun x12 h5 =>
 xApp (some (41, 1025, 1032, false)) x9 x12 h5 fun x13 h6 =>
 xNilCheck v0 fun x14 =>
 xAddr (some 3) x14 fun x15 =>
 c139_2 x15 x13 h6 v0 x1 v1 k
noncomputable abbrev c139_4 (k : CV → CH → Bool) (v0 : CV) (x1 : CV) (v1 : CV) (h2 : CH) : Bool :=
 xJoin (n := 1) (fun s3 h3 =>
  xIte s3.1
   (k (.int .i64 (.ofNat 2)) h3)
   (bd186 v0 h3 fun x5 h4 =>
   xUn .not x5 fun x6 =>
   xIte x6
    (k (.int .i64 (.ofNat 3)) h4)
    (xNilCheck v0 fun x7 =>
    xAddr (some 3) x7 fun x8 =>
    xLoad (some none) x8 h4 fun x9 =>
    xLoad (some (some 1024)) x1 h4 fun x10 =>
    c139_3 v1 x10 h4 x9 v0 x1 k)))
 (fun K28 => xBin (some (.int .i64)) .lss v1 (.int .i64 (.ofNat 0)) fun x30 =>
 xIte x30
  (K28 ((.bool true), ()) h2)
  (xNilCheck v0 fun x31 =>
  xAddr (some 0) x31 fun x32 =>
  xLoad (some none) x32 h2 fun x33 =>
  xBin (some (.int .i64)) .geq v1 x33 fun x34 =>
  K28 (x34, ()) h2))
noncomputable def bd139 (v0 v1 v2 : CV) (h : CH) (k : CV → CH → Bool) : Bool :=
 xBox 39 v2 h fun x1 h1 =>
 bd177 v0 h1 fun x2 h2 =>
 xBin (some (.int .i64)) .neq x2 (.int .i64 (.ofNat 0)) fun x3 =>
 xIte x3
  (k x2 h2)
  (c139_4 k v0 x1 v1 h2)
noncomputable abbrev ex139 : Ex := fun args h k => a3 args fun v0 v1 v2 => bd139 v0 v1 v2 h k
set_option maxRecDepth 100000 in
theorem sim139 : SimF Tryz.prog 139 ex139 := fun args h k hk => by
  obtain ⟨v0, v1, v2, rfl, hk⟩ := a3_ok hk
  exact sim_of (qf := (fun f => [75, 120, 121, 145, 146, 175, 181, 196, 197, 210, 220, 246].contains f)) (Z := zs) (C := [(177, ex177), (186, ex186)]) (T := []) ⟨zerosB_ok zsOk, (exCons (by kernel_rfl) sim177 (exCons (by kernel_rfl) sim186 exNil))⟩ (.seq .nil (.seq .nil (.seq (.join [22] [13, 14, 15, 16, 17, 18, 19, 20, 21] .nil .nil) .nil))) Tryz.func139 _ h k (Eq.mp (by kernel_rfl : (bd139 v0 v1 v2 h k = true) = (xFn Tryz.prog (fun f => [75, 120, 121, 145, 146, 175, 181, 196, 197, 210, 220, 246].contains f) zs [(177, ex177), (186, ex186)] [] Tryz.f139 (.seq .nil (.seq .nil (.seq (.join [22] [13, 14, 15, 16, 17, 18, 19, 20, 21] .nil .nil) .nil))) [v0, v1, v2] h k = true)) hk)

/- undercroft/slab.SetU32 -/
noncomputable abbrev c148_1 (v1 : CV) (s7 : TupC 1) (v2 : CV) (x1 : CV) (h6 : CH) (K8 : TupC 1 → CH → Bool) : Bool :=
 xBin (some (.int .i64)) .add v1 s7.1 fun x11 =>
 xBin (some (.int .i64)) .mul (.int .i64 (.ofNat 8)) s7.1 fun x12 =>
 xBin (some (.int .u32)) .shr v2 x12 fun x13 =>
 xConv (some (.int .u32)) (some (.int .u8)) x13 fun x14 =>
 xIdx (some (some 1024, 1)) x1 x11 fun x15 =>
 xStore (some 1) x15 x14 h6 fun h7 =>
 xBin (some (.int .i64)) .add s7.1 (.int .i64 (.ofNat 1)) fun x16 =>
 K8 (x16, ()) h7
noncomputable abbrev c148_2 (x1 : CV) (x2 : CV) (k : CV → CH → Bool) (v1 : CV) (h2 : CH) (v2 : CV) : Bool :=
 xJoin (n := 0) (fun s2 h3 =>
  xLoad (some (some 1024)) x1 h3 fun x4 =>
  xStore (some 1024) x2 x4 h3 fun h4 =>
  xLoad (some (some 1024)) x2 h4 fun x5 =>
  k x5 h4)
 (fun K5 => bd191 v1 (.int .i64 (.ofNat 4)) h2 fun x7 h5 =>
 xIte x7
  (xLoop (n := 1) (fun K8 s7 h6 =>
   xBin (some (.int .i64)) .lss s7.1 (.int .i64 (.ofNat 4)) fun x10 =>
   xIte x10
    (c148_1 v1 s7 v2 x1 h6 K8)
    (K5 (()) h6)) 1000000 ((.int .i64 (.ofNat 0)), ()) h5)
  (K5 (()) h5))
noncomputable def bd148 (v0 v1 v2 : CV) (h : CH) (k : CV → CH → Bool) : Bool :=
 xBox 39 v0 h fun x1 h1 =>
 xBoxP 39 [(.bytes 1024 0)] h1 fun x2 h2 =>
 c148_2 x1 x2 k v1 h2 v2
noncomputable abbrev ex148 : Ex := fun args h k => a3 args fun v0 v1 v2 => bd148 v0 v1 v2 h k
set_option maxRecDepth 100000 in
theorem sim148 : SimF Tryz.prog 148 ex148 := fun args h k hk => by
  obtain ⟨v0, v1, v2, rfl, hk⟩ := a3_ok hk
  exact sim_of (qf := (fun f => [75, 120, 121, 145, 146, 175, 181, 196, 197, 210, 220, 246].contains f)) (Z := zs) (C := [(191, ex191)]) (T := []) ⟨zerosB_ok zsOk, (exCons (by kernel_rfl) sim191 exNil)⟩ (.seq .nil (.join [] [8, 9, 10, 11, 12, 7, 13, 14, 15, 16, 17, 18, 19, 20, 21, 22] (.seq .nil (.cond (.seq .nil (.loop [10] [11, 12, 7, 13, 14, 15, 16, 17, 18, 19, 20, 21, 22] .nil)) .nil)) .nil)) Tryz.func148 _ h k (Eq.mp (by kernel_rfl : (bd148 v0 v1 v2 h k = true) = (xFn Tryz.prog (fun f => [75, 120, 121, 145, 146, 175, 181, 196, 197, 210, 220, 246].contains f) zs [(191, ex191)] [] Tryz.f148 (.seq .nil (.join [] [8, 9, 10, 11, 12, 7, 13, 14, 15, 16, 17, 18, 19, 20, 21, 22] (.seq .nil (.cond (.seq .nil (.loop [10] [11, 12, 7, 13, 14, 15, 16, 17, 18, 19, 20, 21, 22] .nil)) .nil)) .nil)) [v0, v1, v2] h k = true)) hk)

/- undercroft/head.Encode -/
noncomputable abbrev c140_1 (s25 : TupC 1) (x30 : CV) (x31 : CV) (h11 : CH) (x22 : CV) (K26 : TupC 1 → CH → Bool) : Bool :=
 xBin (some (.int .i64)) .add s25.1 (.int .i64 (.ofNat 1)) fun x32 =>
 xBin (some (.int .i64)) .mul (.int .i64 (.ofNat 4)) x32 fun x33 =>
 xConv (some (.int .i64)) (some (.int .u32)) x30 fun x34 =>
 bd148 x31 x33 x34 h11 fun x35 h12 =>
 xStore (some 1024) x22 x35 h12 fun h13 =>
 xBin (some (.int .i64)) .add s25.1 (.int .i64 (.ofNat 1)) fun x36 =>
 K26 (x36, ()) h13
noncomputable abbrev c140_2 (s25 : TupC 1) (x25 : CV) (x24 : CV) (h11 : CH) (x22 : CV) (K26 : TupC 1 → CH → Bool) (x3 : CV) (k : CV → CH → Bool) : Bool :=
 xBin (some (.int .i64)) .lss s25.1 x25 fun x28 =>
 xIte x28
  (xIdx (some (none, 1)) x24 s25.1 fun x29 =>
  xLoad (some none) x29 h11 fun x30 =>
  xLoad (some (some 1024)) x22 h11 fun x31 =>
  c140_1 s25 x30 x31 h11 x22 K26)
  (xLoad (some (some 1024)) x22 h11 fun x37 =>
  xStore (some 1024) x3 x37 h11 fun h14 =>
  xLoad (some (some 1024)) x3 h14 fun x38 =>
  k (.tup [x38, (.int .i64 (.ofNat 0))]) h14)
noncomputable abbrev c140_3 (x16 : CV) (x20 : CV) (h6 : CH) (x2 : CV) (x3 : CV) (k : CV → CH → Bool) : Bool :=
 bd148 x16 (.int .i64 (.ofNat 0)) x20 h6 fun x21 h8 =>
 xBoxP 39 [(.bytes 1024 0)] h8 fun x22 h9 =>
 xStore (some 1024) x22 x21 h9 fun h10 =>
 xAddr (some 0) x2 fun x23 =>
 xLoad (some none) x23 h10 fun x24 =>
 xLen (some (.inl false)) x24 fun x25 =>
 xLoop (n := 1) (fun K26 s25 h11 =>
  c140_2 s25 x25 x24 h11 x22 K26 x3 k) 1000000 ((.int .i64 (.ofNat 0)), ()) h10
noncomputable abbrev c140_4 (x13 : CV) (x3 : CV) (h6 : CH) (k : CV → CH → Bool) (x2 : CV) : Bool :=
 xIte x13
  (xBuild (some (.inr 1)) (some (.agg [(.bytes 1024 0)])) [] fun x14 =>
  xStore (some 1024) x3 x14 h6 fun h7 =>
  xLoad (some (some 1024)) x3 h7 fun x15 =>
  k (.tup [x15, (.int .i64 (.ofNat 4))]) h7)
  (xBuild (some (.inr 1)) (some (.agg [(.bytes 1024 0)])) [] fun x16 =>
  xAddr (some 0) x2 fun x17 =>
  xLoad (some none) x17 h6 fun x18 =>
  xLen (some (.inl false)) x18 fun x19 =>
  xConv (some (.int .i64)) (some (.int .u32)) x19 fun x20 =>
  c140_3 x16 x20 h6 x2 x3 k)
noncomputable abbrev c140_5 (x6 : CV) (x3 : CV) (h4 : CH) (k : CV → CH → Bool) (x1 : CV) (x2 : CV) : Bool :=
 xIte x6
  (xBuild (some (.inr 1)) (some (.agg [(.bytes 1024 0)])) [] fun x7 =>
  xStore (some 1024) x3 x7 h4 fun h5 =>
  xLoad (some (some 1024)) x3 h5 fun x8 =>
  k (.tup [x8, (.int .i64 (.ofNat 2))]) h5)
  (xLoad (some (some 9)) x1 h4 fun x9 =>
  xAddr (some 0) x2 fun x10 =>
  xLoad (some none) x10 h4 fun x11 =>
  bd188 x9 x11 h4 fun x12 h6 =>
  xUn .not x12 fun x13 =>
  c140_4 x13 x3 h6 k x2)
noncomputable def bd140 (v0 v1 : CV) (h : CH) (k : CV → CH → Bool) : Bool :=
 xBox 89 v0 h fun x1 h1 =>
 xBox 195 v1 h1 fun x2 h2 =>
 xBoxP 39 [(.bytes 1024 0)] h2 fun x3 h3 =>
 xLoad (some (some 9)) x1 h3 fun x4 =>
 bd187 x4 h3 fun x5 h4 =>
 xUn .not x5 fun x6 =>
 c140_5 x6 x3 h4 k x1 x2
noncomputable abbrev ex140 : Ex := fun args h k => a2 args fun v0 v1 => bd140 v0 v1 h k
set_option maxRecDepth 100000 in
theorem sim140 : SimF Tryz.prog 140 ex140 := fun args h k hk => by
  obtain ⟨v0, v1, rfl, hk⟩ := a2_ok hk
  exact sim_of (qf := (fun f => [75, 120, 121, 145, 146, 175, 181, 196, 197, 210, 220, 246].contains f)) (Z := zs) (C := [(187, ex187), (188, ex188), (148, ex148)]) (T := []) ⟨zerosB_ok zsOk, (exCons (by kernel_rfl) sim187 (exCons (by kernel_rfl) sim188 (exCons (by kernel_rfl) sim148 exNil)))⟩ (.seq .nil (.seq .nil (.seq .nil (.seq .nil (.seq (.seq .nil (.loop [28] [29, 30, 31, 32, 7, 8, 33, 34, 35, 36, 37, 38, 39, 40] .nil)) .nil))))) Tryz.func140 _ h k (Eq.mp (by kernel_rfl : (bd140 v0 v1 h k = true) = (xFn Tryz.prog (fun f => [75, 120, 121, 145, 146, 175, 181, 196, 197, 210, 220, 246].contains f) zs [(187, ex187), (188, ex188), (148, ex148)] [] Tryz.f140 (.seq .nil (.seq .nil (.seq .nil (.seq .nil (.seq (.seq .nil (.loop [28] [29, 30, 31, 32, 7, 8, 33, 34, 35, 36, 37, 38, 39, 40] .nil)) .nil))))) [v0, v1] h k = true)) hk)

/- (*undercroft/disk.Disk).keep -/
noncomputable abbrev c189_1 (x5 : CV) (v0 : CV) (h1 : CH) (x1 : CV) (k : CV → CH → Bool) : Bool :=
 xIte x5
  (xNilCheck v0 fun x6 =>
  xAddr (some 1) x6 fun x7 =>
  xLoad (some none) x7 h1 fun x8 =>
  xAddr (some 0) x1 fun x9 =>
  xLoad (some none) x9 h1 fun x10 =>
  xMapDel (some (3, .int .i64, 39)) x8 x10 h1 fun h2 =>
  k (.tup []) h2)
  (xNilCheck v0 fun x11 =>
  xAddr (some 1) x11 fun x12 =>
  xLoad (some none) x12 h1 fun x13 =>
  xAddr (some 0) x1 fun x14 =>
  xLoad (some none) x14 h1 fun x15 =>
  xAddr (some 1) x1 fun x16 =>
  xLoad (some (some 1024)) x16 h1 fun x17 =>
  xMapSet (some (3, .int .i64, 39)) x13 x15 x17 h1 fun h3 =>
  k (.tup []) h3)
noncomputable def bd189 (v0 v1 : CV) (h : CH) (k : CV → CH → Bool) : Bool :=
 xBox 41 v1 h fun x1 h1 =>
 xAddr (some 1) x1 fun x2 =>
 xLoad (some (some 1024)) x2 h1 fun x3 =>
 xBuild (some (.inr 1)) (some (.agg [(.bytes 1024 0)])) [] fun x4 =>
 xEq (some (.agg (.bytes 1024))) .eql x3 x4 h1 fun x5 =>
 c189_1 x5 v0 h1 x1 k
noncomputable abbrev ex189 : Ex := fun args h k => a2 args fun v0 v1 => bd189 v0 v1 h k
set_option maxRecDepth 100000 in
theorem sim189 : SimF Tryz.prog 189 ex189 := fun args h k hk => by
  obtain ⟨v0, v1, rfl, hk⟩ := a2_ok hk
  exact sim_of (qf := (fun f => [75, 120, 121, 145, 146, 175, 181, 196, 197, 210, 220, 246].contains f)) (Z := zs) (C := []) (T := []) ⟨zerosB_ok zsOk, exNil⟩ .nil Tryz.func189 _ h k (Eq.mp (by kernel_rfl : (bd189 v0 v1 h k = true) = (xFn Tryz.prog (fun f => [75, 120, 121, 145, 146, 175, 181, 196, 197, 210, 220, 246].contains f) zs [] [] Tryz.f189 .nil [v0, v1] h k = true)) hk)

/- (*undercroft/disk.Disk).Barrier -/
noncomputable abbrev c141_1 (x7 : CV) (s8 : TupC 1) (h3 : CH) (v0 : CV) (K9 : TupC 1 → CH → Bool) : Bool :=
 xIdx (some (none, 1025)) x7 s8.1 fun x12 =>
 xLoad (some (some 1025)) x12 h3 fun x13 =>
 xBoxP 41 [(.int .i64 (.ofNat 0)), (.bytes 1024 0)] h3 fun x14 h4 =>
 xStore (some 1025) x14 x13 h4 fun h5 =>
 xLoad (some (some 1025)) x14 h5 fun x15 =>
 bd189 v0 x15 h5 fun x16 h6 =>
 xBin (some (.int .i64)) .add s8.1 (.int .i64 (.ofNat 1)) fun x17 =>
 K9 (x17, ()) h6
noncomputable abbrev c141_2 (h8 : CH) (x25 : CV) (v0 : CV) (k : CV → CH → Bool) : Bool :=
 xBuild (some (.inl [(0, 1), (1, 1), (2, 1024)])) (some (.agg [(.bytes 1 0), (.int .i64 (.ofNat 0)), (.bytes 1024 0)])) [(0, (.int .u8 (.ofNat 2)))] fun x26 =>
 xNewS (some (268, 1026, 1040, false)) (some [(.bytes 1 0), (.int .i64 (.ofNat 0)), (.bytes 1024 0)]) 1 [(0, x26)] h8 fun x27 h9 =>
 xApp (some (268, 1026, 1040, false)) x25 x27 h9 fun x28 h10 =>
 xNilCheck v0 fun x29 =>
 xAddr (some 4) x29 fun x30 =>
 xStore (some 1) x30 x28 h10 fun h11 =>
 k (.int .i64 (.ofNat 0)) h11
noncomputable abbrev c141_3 (x11 : CV) (x7 : CV) (s8 : TupC 1) (h3 : CH) (v0 : CV) (K9 : TupC 1 → CH → Bool) (k : CV → CH → Bool) : Bool :=
 xIte x11
  (c141_1 x7 s8 h3 v0 K9)
  (xNilCheck v0 fun x18 =>
  xAddr (some 3) x18 fun x19 =>
  xStore (some 1) x19 .nils h3 fun h7 =>
  xNilCheck v0 fun x20 =>
  xAddr (some 2) x20 fun x21 =>
  xLoad (some none) x21 h7 fun x22 =>
  xMapClr x22 h7 fun h8 =>
  xNilCheck v0 fun x23 =>
  xAddr (some 4) x23 fun x24 =>
  xLoad (some none) x24 h8 fun x25 =>
  c141_2 h8 x25 v0 k)
noncomputable abbrev c141_4 (v0 : CV) (h1 : CH) (k : CV → CH → Bool) : Bool :=
 bd186 v0 h1 fun x3 h2 =>
 xUn .not x3 fun x4 =>
 xIte x4
  (k (.int .i64 (.ofNat 3)) h2)
  (xNilCheck v0 fun x5 =>
  xAddr (some 3) x5 fun x6 =>
  xLoad (some none) x6 h2 fun x7 =>
  xLen (some (.inl false)) x7 fun x8 =>
  xLoop (n := 1) (fun K9 s8 h3 =>
   xBin (some (.int .i64)) .lss s8.1 x8 fun x11 =>
   c141_3 x11 x7 s8 h3 v0 K9 k) 1000000 ((.int .i64 (.ofNat 0)), ()) h2)
noncomputable def bd141 (v0 : CV) (h : CH) (k : CV → CH → Bool) : Bool :=
 bd177 v0 h fun x1 h1 =>
 xBin (some (.int .i64)) .neq x1 (.int .i64 (.ofNat 0)) fun x2 =>
 xIte x2
  (k x1 h1)
  (c141_4 v0 h1 k)
noncomputable abbrev ex141 : Ex := fun args h k => a1 args fun v0 => bd141 v0 h k
set_option maxRecDepth 100000 in
theorem sim141 : SimF Tryz.prog 141 ex141 := fun args h k hk => by
  obtain ⟨v0, rfl, hk⟩ := a1_ok hk
  exact sim_of (qf := (fun f => [75, 120, 121, 145, 146, 175, 181, 196, 197, 210, 220, 246].contains f)) (Z := zs) (C := [(177, ex177), (186, ex186), (189, ex189)]) (T := []) ⟨zerosB_ok zsOk, (exCons (by kernel_rfl) sim177 (exCons (by kernel_rfl) sim186 (exCons (by kernel_rfl) sim189 exNil)))⟩ (.seq .nil (.seq .nil (.seq .nil (.seq (.seq .nil (.loop [19] [20, 21, 22, 5, 23, 24, 25, 26] .nil)) .nil)))) Tryz.func141 _ h k (Eq.mp (by kernel_rfl : (bd141 v0 h k = true) = (xFn Tryz.prog (fun f => [75, 120, 121, 145, 146, 175, 181, 196, 197, 210, 220, 246].contains f) zs [(177, ex177), (186, ex186), (189, ex189)] [] Tryz.f141 (.seq .nil (.seq .nil (.seq .nil (.seq (.seq .nil (.loop [19] [20, 21, 22, 5, 23, 24, 25, 26] .nil)) .nil)))) [v0] h k = true)) hk)

/- (*undercroft/cache.Cache).Flush -/
noncomputable abbrev c142_1 (x18 : CV) (h3 : CH) (v0 : CV) (k : CV → CH → Bool) : Bool :=
 xAddr (some 1025) x18 fun x19 =>
 xStore (some 1) x19 (.bool false) h3 fun h4 =>
 xNilCheck v0 fun x20 =>
 xAddr (some 2) x20 fun x21 =>
 xLoad (some none) x21 h4 fun x22 =>
 xBin (some (.int .i64)) .sub x22 (.int .i64 (.ofNat 1)) fun x23 =>
 xNilCheck v0 fun x24 =>
 xAddr (some 2) x24 fun x25 =>
 xStore (some 1) x25 x23 h4 fun h5 =>
 k (.int .i64 (.ofNat 0)) h5
noncomputable abbrev c142_2 (v0 : CV) (h2 : CH) (x7 : CV) (v1 : CV) (k : CV → CH → Bool) : Bool :=
 xNilCheck v0 fun x10 =>
 xAddr (some 0) x10 fun x11 =>
 xLoad (some none) x11 h2 fun x12 =>
 xNilCheck x7 fun x13 =>
 xAddr (some 1) x13 fun x14 =>
 xLoad (some (some 1024)) x14 h2 fun x15 =>
 bd139 x12 v1 x15 h2 fun x16 h3 =>
 xBin (some (.int .i64)) .neq x16 (.int .i64 (.ofNat 0)) fun x17 =>
 xIte x17
  (k x16 h3)
  (xNilCheck x7 fun x18 =>
  c142_1 x18 h3 v0 k)
noncomputable abbrev c142_3 (x6 : CV) (k : CV → CH → Bool) (v0 : CV) (v1 : CV) (h1 : CH) : Bool :=
 xExtract x6 0 fun x7 =>
 xExtract x6 1 fun x8 =>
 xJoin (n := 1) (fun s8 h2 =>
  xIte s8.1
   (k (.int .i64 (.ofNat 0)) h2)
   (c142_2 v0 h2 x7 v1 k))
 (fun K25 => xUn .not x8 fun x27 =>
 xIte x27
  (K25 ((.bool true), ()) h1)
  (xNilCheck x7 fun x28 =>
  xAddr (some 1025) x28 fun x29 =>
  xLoad (some none) x29 h1 fun x30 =>
  xUn .not x30 fun x31 =>
  K25 (x31, ()) h1))
noncomputable def bd142 (v0 v1 : CV) (h : CH) (k : CV → CH → Bool) : Bool :=
 bd182 v0 v1 h fun x1 h1 =>
 xBin (some (.int .i64)) .neq x1 (.int .i64 (.ofNat 0)) fun x2 =>
 xIte x2
  (k x1 h1)
  (xNilCheck v0 fun x3 =>
  xAddr (some 1031) x3 fun x4 =>
  xLoad (some none) x4 h1 fun x5 =>
  xLookup (some (3, .int .i64, 256)) (some .nilp) true x5 v1 h1 fun x6 =>
  c142_3 x6 k v0 v1 h1)
noncomputable abbrev ex142 : Ex := fun args h k => a2 args fun v0 v1 => bd142 v0 v1 h k
set_option maxRecDepth 100000 in
theorem sim142 : SimF Tryz.prog 142 ex142 := fun args h k hk => by
  obtain ⟨v0, v1, rfl, hk⟩ := a2_ok hk
  exact sim_of (qf := (fun f => [75, 120, 121, 145, 146, 175, 181, 196, 197, 210, 220, 246].contains f)) (Z := zs) (C := [(182, ex182), (139, ex139)]) (T := []) ⟨zerosB_ok zsOk, (exCons (by kernel_rfl) sim182 (exCons (by kernel_rfl) sim139 exNil))⟩ (.seq .nil (.seq .nil (.seq .nil (.seq (.join [32] [24, 25, 26, 27, 28, 29, 30, 31] .nil .nil) .nil)))) Tryz.func142 _ h k (Eq.mp (by kernel_rfl : (bd142 v0 v1 h k = true) = (xFn Tryz.prog (fun f => [75, 120, 121, 145, 146, 175, 181, 196, 197, 210, 220, 246].contains f) zs [(182, ex182), (139, ex139)] [] Tryz.f142 (.seq .nil (.seq .nil (.seq .nil (.seq (.join [32] [24, 25, 26, 27, 28, 29, 30, 31] .nil .nil) .nil)))) [v0, v1] h k = true)) hk)

/- (*undercroft/wal.Log).commit -/
noncomputable def bd79 (v0 : CV) (h : CH) (k : CV → CH → Bool) : Bool :=
 xBox 51 v0 h fun x1 h1 =>
 xBoxP 47 [(.int .i64 (.ofNat 0))] h1 fun x2 h2 =>
 false
noncomputable abbrev ex79 : Ex := fun args h k => a1 args fun v0 => bd79 v0 h k
set_option maxRecDepth 100000 in
theorem sim79 : SimF Tryz.prog 79 ex79 := fun args h k hk => by
  obtain ⟨v0, rfl, hk⟩ := a1_ok hk
  exact sim_of (qf := (fun f => [75, 120, 121, 145, 146, 175, 181, 196, 197, 210, 220, 246].contains f)) (Z := zs) (C := []) (T := []) ⟨zerosB_ok zsOk, exNil⟩ (.seq .nil (.seq .nil (.seq (.seq .nil (.loop [17] [18, 19, 20, 21, 3, 4, 23, 24, 25, 26, 27, 28, 22, 29, 30, 5, 6, 31, 32, 33, 34, 35, 36, 37, 38, 39, 40, 41, 42, 43, 44, 45, 46, 47, 48] .nil)) (.seq .nil (.seq .nil (.seq (.join [93] [66, 67, 68, 69, 70, 71, 72, 73, 74, 75, 76, 77, 78, 79, 80, 81, 82, 83, 84, 85, 86, 87, 88, 89, 90, 91, 92] .nil .nil) (.seq (.seq .nil (.loop [100] [101, 102, 103, 9, 104, 105, 106, 107, 108, 109, 110, 111] .nil)) (.seq (.join [139] [112, 113, 114, 115, 116, 117, 118, 119, 120, 121, 122, 123, 124, 125, 126, 127, 128, 129, 130, 131, 132, 133, 134, 135, 136, 137, 138] .nil .nil) .nil)))))))) Tryz.func79 _ h k (Eq.mp (by kernel_rfl : (bd79 v0 h k = true) = (xFn Tryz.prog (fun f => [75, 120, 121, 145, 146, 175, 181, 196, 197, 210, 220, 246].contains f) zs [] [] Tryz.f79 (.seq .nil (.seq .nil (.seq (.seq .nil (.loop [17] [18, 19, 20, 21, 3, 4, 23, 24, 25, 26, 27, 28, 22, 29, 30, 5, 6, 31, 32, 33, 34, 35, 36, 37, 38, 39, 40, 41, 42, 43, 44, 45, 46, 47, 48] .nil)) (.seq .nil (.seq .nil (.seq (.join [93] [66, 67, 68, 69, 70, 71, 72, 73, 74, 75, 76, 77, 78, 79, 80, 81, 82, 83, 84, 85, 86, 87, 88, 89, 90, 91, 92] .nil .nil) (.seq (.seq .nil (.loop [100] [101, 102, 103, 9, 104, 105, 106, 107, 108, 109, 110, 111] .nil)) (.seq (.join [139] [112, 113, 114, 115, 116, 117, 118, 119, 120, 121, 122, 123, 124, 125, 126, 127, 128, 129, 130, 131, 132, 133, 134, 135, 136, 137, 138] .nil .nil) .nil)))))))) [v0] h k = true)) hk)

/- (*undercroft/wal.Log).Begin -/
noncomputable abbrev c23_1 (x23 : CV) (h2 : CH) (x21 : CV) (v0 : CV) (k : CV → CH → Bool) (K14 : TupC 0 → CH → Bool) : Bool :=
 xAddr (some 0) x23 fun x24 =>
 xAddr (some 1) x24 fun x25 =>
 xLoad (some none) x25 h2 fun x26 =>
 xBin (some (.int .i64)) .sub x26 (.int .i64 (.ofNat 1)) fun x27 =>
 xBin (some (.int .i64)) .gtr x21 x27 fun x28 =>
 xIte x28
  (bd79 v0 h2 fun x29 h8 =>
  xBin (some (.int .i64)) .neq x29 (.int .i64 (.ofNat 0)) fun x30 =>
  xIte x30
   (k x29 h8)
   (K14 (()) h8))
  (K14 (()) h2)
noncomputable abbrev c23_2 (v0 : CV) (v1 : CV) (k : CV → CH → Bool) (h2 : CH) : Bool :=
 xJoin (n := 0) (fun s6 h3 =>
  xNewMap h3 fun x8 h4 =>
  xNilCheck v0 fun x9 =>
  xAddr (some 14) x9 fun x10 =>
  xStore (some 1) x10 (.bool true) h4 fun h5 =>
  xNilCheck v0 fun x11 =>
  xAddr (some 15) x11 fun x12 =>
  xStore (some 1) x12 v1 h5 fun h6 =>
  xNilCheck v0 fun x13 =>
  xAddr (some 16) x13 fun x14 =>
  xStore (some 1) x14 x8 h6 fun h7 =>
  k (.int .i64 (.ofNat 0)) h7)
 (fun K14 => xNilCheck v0 fun x16 =>
 xAddr (some 0) x16 fun x17 =>
 xAddr (some 0) x17 fun x18 =>
 xLoad (some none) x18 h2 fun x19 =>
 xLen (some (.inl false)) x19 fun x20 =>
 xBin (some (.int .i64)) .add x20 v1 fun x21 =>
 xNilCheck v0 fun x22 =>
 xAddr (some 4) x22 fun x23 =>
 c23_1 x23 h2 x21 v0 k K14)
noncomputable abbrev c23_3 (v1 : CV) (K30 : TupC 1 → CH → Bool) (h1 : CH) (v0 : CV) : Bool :=
 xBin (some (.int .i64)) .lss v1 (.int .i64 (.ofNat 1)) fun x32 =>
 xIte x32
  (K30 ((.bool true), ()) h1)
  (xNilCheck v0 fun x33 =>
  xAddr (some 4) x33 fun x34 =>
  xAddr (some 0) x34 fun x35 =>
  xAddr (some 1) x35 fun x36 =>
  xLoad (some none) x36 h1 fun x37 =>
  xBin (some (.int .i64)) .sub x37 (.int .i64 (.ofNat 1)) fun x38 =>
  xBin (some (.int .i64)) .gtr v1 x38 fun x39 =>
  K30 (x39, ()) h1)
noncomputable abbrev c23_4 (x1 : CV) (k : CV → CH → Bool) (h1 : CH) (v0 : CV) (v1 : CV) : Bool :=
 xBin (some (.int .i64)) .neq x1 (.int .i64 (.ofNat 0)) fun x2 =>
 xIte x2
  (k x1 h1)
  (xNilCheck v0 fun x3 =>
  xAddr (some 14) x3 fun x4 =>
  xLoad (some none) x4 h1 fun x5 =>
  xIte x5
   (k (.int .i64 (.ofNat 180)) h1)
   (xJoin (n := 1) (fun s5 h2 =>
    xIte s5.1
     (k (.int .i64 (.ofNat 2)) h2)
     (c23_2 v0 v1 k h2))
   (fun K30 => c23_3 v1 K30 h1 v0)))
noncomputable def bd23 (v0 v1 : CV) (h : CH) (k : CV → CH → Bool) : Bool :=
 bd78 v0 h fun x1 h1 =>
 c23_4 x1 k h1 v0 v1
noncomputable abbrev ex23 : Ex := fun args h k => a2 args fun v0 v1 => bd23 v0 v1 h k
set_option maxRecDepth 100000 in
theorem sim23 : SimF Tryz.prog 23 ex23 := fun args h k hk => by
  obtain ⟨v0, v1, rfl, hk⟩ := a2_ok hk
  exact sim_of (qf := (fun f => [75, 120, 121, 145, 146, 175, 181, 196, 197, 210, 220, 246].contains f)) (Z := zs) (C := [(78, ex78), (79, ex79)]) (T := []) ⟨zerosB_ok zsOk, (exCons (by kernel_rfl) sim78 (exCons (by kernel_rfl) sim79 exNil))⟩ (.seq .nil (.seq (.seq .nil (.seq .nil (.cond .nil (.seq .nil (.cond .nil (.join [18] [19, 20, 21, 22, 23, 24, 25, 26, 27, 28, 29, 30, 31] .nil .nil)))))) (.join [] [32, 33, 34, 35, 36, 37, 38, 39, 40, 41, 42, 43, 44, 45, 46, 47, 48, 49, 6, 50, 51, 52, 4] .nil .nil))) Tryz.func23 _ h k (Eq.mp (by kernel_rfl : (bd23 v0 v1 h k = true) = (xFn Tryz.prog (fun f => [75, 120, 121, 145, 146, 175, 181, 196, 197, 210, 220, 246].contains f) zs [(78, ex78), (79, ex79)] [] Tryz.f23 (.seq .nil (.seq (.seq .nil (.seq .nil (.cond .nil (.seq .nil (.cond .nil (.join [18] [19, 20, 21, 22, 23, 24, 25, 26, 27, 28, 29, 30, 31] .nil .nil)))))) (.join [] [32, 33, 34, 35, 36, 37, 38, 39, 40, 41, 42, 43, 44, 45, 46, 47, 48, 49, 6, 50, 51, 52, 4] .nil .nil))) [v0, v1] h k = true)) hk)

/- undercroft/chart.span -/
noncomputable abbrev c104_1 (x1 : CV) (v1 : CV) (v0 : CV) (k : CV → CH → Bool) (h : CH) : Bool :=
 xIte x1
  (xBin (some (.int .i64)) .geq v1 (.int .i64 (.ofNat 0)) fun x2 =>
  xIte x2
   (xBin (some (.int .i64)) .leq v0 (.int .i64 (.ofNat 65802)) fun x3 =>
   xIte x3
    (xBin (some (.int .i64)) .sub (.int .i64 (.ofNat 65802)) v0 fun x4 =>
    xBin (some (.int .i64)) .leq v1 x4 fun x5 =>
    k x5 h)
    (k (.bool false) h))
   (k (.bool false) h))
  (k (.bool false) h)
noncomputable def bd104 (v0 v1 : CV) (h : CH) (k : CV → CH → Bool) : Bool :=
 xBin (some (.int .i64)) .geq v0 (.int .i64 (.ofNat 0)) fun x1 =>
 c104_1 x1 v1 v0 k h
noncomputable abbrev ex104 : Ex := fun args h k => a2 args fun v0 v1 => bd104 v0 v1 h k
set_option maxRecDepth 100000 in
theorem sim104 : SimF Tryz.prog 104 ex104 := fun args h k hk => by
  obtain ⟨v0, v1, rfl, hk⟩ := a2_ok hk
  exact sim_of (qf := (fun f => [75, 120, 121, 145, 146, 175, 181, 196, 197, 210, 220, 246].contains f)) (Z := zs) (C := []) (T := []) ⟨zerosB_ok zsOk, exNil⟩ .nil Tryz.func104 _ h k (Eq.mp (by kernel_rfl : (bd104 v0 v1 h k = true) = (xFn Tryz.prog (fun f => [75, 120, 121, 145, 146, 175, 181, 196, 197, 210, 220, 246].contains f) zs [] [] Tryz.f104 .nil [v0, v1] h k = true)) hk)

/- undercroft/room.check -/
noncomputable def bd69 (v0 v1 : CV) (h : CH) (k : CV → CH → Bool) : Bool :=
 bd78 v0 h fun x1 h1 =>
 xBin (some (.int .i64)) .neq x1 (.int .i64 (.ofNat 0)) fun x2 =>
 xIte x2
  (k x1 h1)
  (xJoin (n := 1) (fun s2 h2 =>
   xIte s2.1
    (k (.int .i64 (.ofNat 180)) h2)
    (k (.int .i64 (.ofNat 0)) h2))
  (fun K3 => xIte v1
   (bd86 v0 h1 fun x5 h3 =>
   xUn .not x5 fun x6 =>
   K3 (x6, ()) h3)
   (K3 ((.bool false), ()) h1)))
noncomputable abbrev ex69 : Ex := fun args h k => a2 args fun v0 v1 => bd69 v0 v1 h k
set_option maxRecDepth 100000 in
theorem sim69 : SimF Tryz.prog 69 ex69 := fun args h k hk => by
  obtain ⟨v0, v1, rfl, hk⟩ := a2_ok hk
  exact sim_of (qf := (fun f => [75, 120, 121, 145, 146, 175, 181, 196, 197, 210, 220, 246].contains f)) (Z := zs) (C := [(78, ex78), (86, ex86)]) (T := []) ⟨zerosB_ok zsOk, (exCons (by kernel_rfl) sim78 (exCons (by kernel_rfl) sim86 exNil))⟩ (.seq .nil (.seq .nil (.seq (.join [16] [11, 12, 13, 14, 15] .nil .nil) .nil))) Tryz.func69 _ h k (Eq.mp (by kernel_rfl : (bd69 v0 v1 h k = true) = (xFn Tryz.prog (fun f => [75, 120, 121, 145, 146, 175, 181, 196, 197, 210, 220, 246].contains f) zs [(78, ex78), (86, ex86)] [] Tryz.f69 (.seq .nil (.seq .nil (.seq (.join [16] [11, 12, 13, 14, 15] .nil .nil) .nil))) [v0, v1] h k = true)) hk)

/- undercroft/room.find -/
noncomputable abbrev c70_1 (x8 : CV) (x9 : CV) (v0 : CV) (h5 : CH) (x1 : CV) (k : CV → CH → Bool) : Bool :=
 xBin (some (.int .i64)) .add x8 x9 fun x10 =>
 bd68 v0 x10 h5 fun x11 h7 =>
 xExtract x11 0 fun x12 =>
 xExtract x11 1 fun x13 =>
 xBoxP 39 [(.bytes 1024 0)] h7 fun x14 h8 =>
 xStore (some 1024) x14 x12 h8 fun h9 =>
 xLoad (some (some 1024)) x14 h9 fun x15 =>
 xStore (some 1024) x1 x15 h9 fun h10 =>
 xLoad (some (some 1024)) x1 h10 fun x16 =>
 k (.tup [x10, x16, x13]) h10
noncomputable abbrev c70_2 (s3 : TupC 1) (x1 : CV) (h5 : CH) (k : CV → CH → Bool) (x3 : CV) (v1 : CV) (v0 : CV) : Bool :=
 xIte s3.1
  (xBuild (some (.inr 1)) (some (.agg [(.bytes 1024 0)])) [] fun x5 =>
  xStore (some 1024) x1 x5 h5 fun h6 =>
  xLoad (some (some 1024)) x1 h6 fun x6 =>
  k (.tup [(.int .i64 (.ofNat 0)), x6, (.int .i64 (.ofNat 4))]) h6)
  (xAddr (some 6) x3 fun x7 =>
  xLoad (some none) x7 h5 fun x8 =>
  xBin (some (.int .i64)) .quo v1 (.int .i64 (.ofNat 8192)) fun x9 =>
  c70_1 x8 x9 v0 h5 x1 k)
noncomputable abbrev c70_3 (x1 : CV) (k : CV → CH → Bool) (x3 : CV) (v1 : CV) (v0 : CV) (h4 : CH) : Bool :=
 xJoin (n := 1) (fun s3 h5 =>
  c70_2 s3 x1 h5 k x3 v1 v0)
 (fun K16 => xAddr (some 8) x3 fun x18 =>
 xLoad (some none) x18 h4 fun x19 =>
 xBin (some (.int .i64)) .lss v1 x19 fun x20 =>
 xIte x20
  (K16 ((.bool true), ()) h4)
  (xAddr (some 0) x3 fun x21 =>
  xAddr (some 0) x21 fun x22 =>
  xLoad (some none) x22 h4 fun x23 =>
  xBin (some (.int .i64)) .geq v1 x23 fun x24 =>
  K16 (x24, ()) h4))
noncomputable def bd70 (v0 v1 : CV) (h : CH) (k : CV → CH → Bool) : Bool :=
 xBoxP 39 [(.bytes 1024 0)] h fun x1 h1 =>
 bd75 v0 h1 fun x2 h2 =>
 xBoxP 89 [(.int .i64 (.ofNat 0)), (.int .i64 (.ofNat 0)), (.int .i64 (.ofNat 0)), (.int .i64 (.ofNat 0)), (.int .i64 (.ofNat 0)), (.int .i64 (.ofNat 0)), (.int .i64 (.ofNat 0)), (.int .i64 (.ofNat 0)), (.int .i64 (.ofNat 0))] h2 fun x3 h3 =>
 xStore (some 9) x3 x2 h3 fun h4 =>
 c70_3 x1 k x3 v1 v0 h4
noncomputable abbrev ex70 : Ex := fun args h k => a2 args fun v0 v1 => bd70 v0 v1 h k
set_option maxRecDepth 100000 in
theorem sim70 : SimF Tryz.prog 70 ex70 := fun args h k hk => by
  obtain ⟨v0, v1, rfl, hk⟩ := a2_ok hk
  exact sim_of (qf := (fun f => [75, 120, 121, 145, 146, 175, 181, 196, 197, 210, 220, 246].contains f)) (Z := zs) (C := [(75, ex75), (68, ex68)]) (T := []) ⟨zerosB_ok zsOk, (exCons (by kernel_rfl) sim75 (exCons (by kernel_rfl) sim68 exNil))⟩ (.seq .nil (.seq .nil (.seq (.join [23] [13, 14, 15, 16, 17, 18, 19, 20, 21, 22] .nil .nil) .nil))) Tryz.func70 _ h k (Eq.mp (by kernel_rfl : (bd70 v0 v1 h k = true) = (xFn Tryz.prog (fun f => [75, 120, 121, 145, 146, 175, 181, 196, 197, 210, 220, 246].contains f) zs [(75, ex75), (68, ex68)] [] Tryz.f70 (.seq .nil (.seq .nil (.seq (.join [23] [13, 14, 15, 16, 17, 18, 19, 20, 21, 22] .nil .nil) .nil))) [v0, v1] h k = true)) hk)

/- undercroft/bits.Has -/
noncomputable abbrev c71_1 (v1 : CV) (x1 : CV) (h1 : CH) (k : CV → CH → Bool) : Bool :=
 xBin (some (.int .i64)) .quo v1 (.int .i64 (.ofNat 8)) fun x4 =>
 xIdx (some (some 1024, 1)) x1 x4 fun x5 =>
 xLoad (some none) x5 h1 fun x6 =>
 xBin (some (.int .i64)) .rem v1 (.int .i64 (.ofNat 8)) fun x7 =>
 xBin (some (.int .u8)) .shl (.int .u8 (.ofNat 1)) x7 fun x8 =>
 xBin (some (.int .u8)) .and x6 x8 fun x9 =>
 xBin (some (.int .u8)) .neq x9 (.int .u8 (.ofNat 0)) fun x10 =>
 k x10 h1
noncomputable def bd71 (v0 v1 : CV) (h : CH) (k : CV → CH → Bool) : Bool :=
 xBox 39 v0 h fun x1 h1 =>
 xBin (some (.int .i64)) .geq v1 (.int .i64 (.ofNat 0)) fun x2 =>
 xIte x2
  (xBin (some (.int .i64)) .lss v1 (.int .i64 (.ofNat 8192)) fun x3 =>
  xIte x3
   (c71_1 v1 x1 h1 k)
   (k (.bool false) h1))
  (k (.bool false) h1)
noncomputable abbrev ex71 : Ex := fun args h k => a2 args fun v0 v1 => bd71 v0 v1 h k
set_option maxRecDepth 100000 in
theorem sim71 : SimF Tryz.prog 71 ex71 := fun args h k hk => by
  obtain ⟨v0, v1, rfl, hk⟩ := a2_ok hk
  exact sim_of (qf := (fun f => [75, 120, 121, 145, 146, 175, 181, 196, 197, 210, 220, 246].contains f)) (Z := zs) (C := []) (T := []) ⟨zerosB_ok zsOk, exNil⟩ .nil Tryz.func71 _ h k (Eq.mp (by kernel_rfl : (bd71 v0 v1 h k = true) = (xFn Tryz.prog (fun f => [75, 120, 121, 145, 146, 175, 181, 196, 197, 210, 220, 246].contains f) zs [] [] Tryz.f71 .nil [v0, v1] h k = true)) hk)

/- undercroft/bits.Set -/
noncomputable abbrev c77_1 (v1 : CV) (x1 : CV) (h5 : CH) (K5 : TupC 0 → CH → Bool) : Bool :=
 xBin (some (.int .i64)) .quo v1 (.int .i64 (.ofNat 8)) fun x8 =>
 xIdx (some (some 1024, 1)) x1 x8 fun x9 =>
 xLoad (some none) x9 h5 fun x10 =>
 xBin (some (.int .i64)) .rem v1 (.int .i64 (.ofNat 8)) fun x11 =>
 xBin (some (.int .u8)) .shl (.int .u8 (.ofNat 1)) x11 fun x12 =>
 xBin (some (.int .u8)) .or x10 x12 fun x13 =>
 xIdx (some (some 1024, 1)) x1 x8 fun x14 =>
 xStore (some 1) x14 x13 h5 fun h6 =>
 K5 (()) h6
noncomputable abbrev c77_2 (x1 : CV) (x15 : CV) (h5 : CH) (v1 : CV) (K5 : TupC 0 → CH → Bool) : Bool :=
 xIdx (some (some 1024, 1)) x1 x15 fun x16 =>
 xLoad (some none) x16 h5 fun x17 =>
 xBin (some (.int .i64)) .rem v1 (.int .i64 (.ofNat 8)) fun x18 =>
 xBin (some (.int .u8)) .shl (.int .u8 (.ofNat 1)) x18 fun x19 =>
 xBin (some (.int .u8)) .andNot x17 x19 fun x20 =>
 xIdx (some (some 1024, 1)) x1 x15 fun x21 =>
 xStore (some 1) x21 x20 h5 fun h7 =>
 K5 (()) h7
noncomputable abbrev c77_3 (K5 : TupC 0 → CH → Bool) (v2 : CV) (v1 : CV) (x1 : CV) (h2 : CH) : Bool :=
 xJoin (n := 1) (fun s6 h5 =>
  xIte s6.1
   (K5 (()) h5)
   (xIte v2
    (c77_1 v1 x1 h5 K5)
    (xBin (some (.int .i64)) .quo v1 (.int .i64 (.ofNat 8)) fun x15 =>
    c77_2 x1 x15 h5 v1 K5)))
 (fun K21 => xBin (some (.int .i64)) .lss v1 (.int .i64 (.ofNat 0)) fun x23 =>
 xIte x23
  (K21 ((.bool true), ()) h2)
  (xBin (some (.int .i64)) .geq v1 (.int .i64 (.ofNat 8192)) fun x24 =>
  K21 (x24, ()) h2))
noncomputable def bd77 (v0 v1 v2 : CV) (h : CH) (k : CV → CH → Bool) : Bool :=
 xBox 39 v0 h fun x1 h1 =>
 xBoxP 39 [(.bytes 1024 0)] h1 fun x2 h2 =>
 xJoin (n := 0) (fun s2 h3 =>
  xLoad (some (some 1024)) x1 h3 fun x4 =>
  xStore (some 1024) x2 x4 h3 fun h4 =>
  xLoad (some (some 1024)) x2 h4 fun x5 =>
  k x5 h4)
 (fun K5 => c77_3 K5 v2 v1 x1 h2)
noncomputable abbrev ex77 : Ex := fun args h k => a3 args fun v0 v1 v2 => bd77 v0 v1 v2 h k
set_option maxRecDepth 100000 in
theorem sim77 : SimF Tryz.prog 77 ex77 := fun args h k hk => by
  obtain ⟨v0, v1, v2, rfl, hk⟩ := a3_ok hk
  exact sim_of (qf := (fun f => [75, 120, 121, 145, 146, 175, 181, 196, 197, 210, 220, 246].contains f)) (Z := zs) (C := []) (T := []) ⟨zerosB_ok zsOk, exNil⟩ (.seq .nil (.join [] [17, 18, 19, 20, 21, 22, 16, 24, 23, 25, 26, 27, 28, 29, 30, 31, 32, 33, 7, 8, 9, 10, 11, 12, 13, 14, 15] (.join [16] [17, 18, 19, 20, 21, 22] .nil .nil) .nil)) Tryz.func77 _ h k (Eq.mp (by kernel_rfl : (bd77 v0 v1 v2 h k = true) = (xFn Tryz.prog (fun f => [75, 120, 121, 145, 146, 175, 181, 196, 197, 210, 220, 246].contains f) zs [] [] Tryz.f77 (.seq .nil (.join [] [17, 18, 19, 20, 21, 22, 16, 24, 23, 25, 26, 27, 28, 29, 30, 31, 32, 33, 7, 8, 9, 10, 11, 12, 13, 14, 15] (.join [16] [17, 18, 19, 20, 21, 22] .nil .nil) .nil)) [v0, v1, v2] h k = true)) hk)

/- (*undercroft/cache.Cache).Put -/
noncomputable abbrev c135_1 (s9 : TupC 1) (h3 : CH) (v0 : CV) (K15 : TupC 0 → CH → Bool) : Bool :=
 xNilCheck s9.1 fun x21 =>
 xAddr (some 1025) x21 fun x22 =>
 xStore (some 1) x22 (.bool true) h3 fun h7 =>
 xNilCheck v0 fun x23 =>
 xAddr (some 2) x23 fun x24 =>
 xLoad (some none) x24 h7 fun x25 =>
 xBin (some (.int .i64)) .add x25 (.int .i64 (.ofNat 1)) fun x26 =>
 xNilCheck v0 fun x27 =>
 xAddr (some 2) x27 fun x28 =>
 xStore (some 1) x28 x26 h7 fun h8 =>
 K15 (()) h8
noncomputable abbrev c135_2 (x1 : CV) (s9 : TupC 1) (v0 : CV) (k : CV → CH → Bool) (h3 : CH) : Bool :=
 xJoin (n := 0) (fun s10 h4 =>
  xLoad (some (some 1024)) x1 h4 fun x12 =>
  xNilCheck s9.1 fun x13 =>
  xAddr (some 1) x13 fun x14 =>
  xStore (some 1024) x14 x12 h4 fun h5 =>
  bd184 v0 s9.1 h5 fun x15 h6 =>
  k (.int .i64 (.ofNat 0)) h6)
 (fun K15 => xNilCheck s9.1 fun x17 =>
 xAddr (some 1025) x17 fun x18 =>
 xLoad (some none) x18 h3 fun x19 =>
 xUn .not x19 fun x20 =>
 xIte x20
  (c135_1 s9 h3 v0 K15)
  (K15 (()) h3))
noncomputable abbrev c135_3 (v1 : CV) (h10 : CH) (v0 : CV) (K28 : TupC 1 → CH → Bool) : Bool :=
 xBuild (some (.inl [(0, 1), (1, 1024), (1025, 1), (1026, 1), (1027, 1)])) (some (.agg [(.int .i64 (.ofNat 0)), (.bytes 1024 0), (.bool false), .nilp, .nilp])) [(0, v1)] fun x33 =>
 xBox 258 x33 h10 fun x34 h11 =>
 xNilCheck v0 fun x35 =>
 xAddr (some 1031) x35 fun x36 =>
 xLoad (some none) x36 h11 fun x37 =>
 xMapSet (some (3, .int .i64, 256)) x37 v1 x34 h11 fun h12 =>
 K28 (x34, ()) h12
noncomputable abbrev c135_4 (x6 : CV) (v1 : CV) (h2 : CH) (x1 : CV) (v0 : CV) (k : CV → CH → Bool) : Bool :=
 xLookup (some (3, .int .i64, 256)) (some .nilp) true x6 v1 h2 fun x7 =>
 xExtract x7 0 fun x8 =>
 xExtract x7 1 fun x9 =>
 xJoin (n := 1) (fun s9 h3 =>
  c135_2 x1 s9 v0 k h3)
 (fun K28 => xIte x9
  (bd183 x8 h2 fun x30 h9 =>
  K28 (x8, ()) h9)
  (bd185 v0 h2 fun x31 h10 =>
  xUn .not x31 fun x32 =>
  xIte x32
   (k (.int .i64 (.ofNat 160)) h10)
   (c135_3 v1 h10 v0 K28)))
noncomputable def bd135 (v0 v1 v2 : CV) (h : CH) (k : CV → CH → Bool) : Bool :=
 xBox 39 v2 h fun x1 h1 =>
 bd182 v0 v1 h1 fun x2 h2 =>
 xBin (some (.int .i64)) .neq x2 (.int .i64 (.ofNat 0)) fun x3 =>
 xIte x3
  (k x2 h2)
  (xNilCheck v0 fun x4 =>
  xAddr (some 1031) x4 fun x5 =>
  xLoad (some none) x5 h2 fun x6 =>
  c135_4 x6 v1 h2 x1 v0 k)
noncomputable abbrev ex135 : Ex := fun args h k => a3 args fun v0 v1 v2 => bd135 v0 v1 v2 h k
set_option maxRecDepth 100000 in
theorem sim135 : SimF Tryz.prog 135 ex135 := fun args h k hk => by
  obtain ⟨v0, v1, v2, rfl, hk⟩ := a3_ok hk
  exact sim_of (qf := (fun f => [75, 120, 121, 145, 146, 175, 181, 196, 197, 210, 220, 246].contains f)) (Z := zs) (C := [(182, ex182), (184, ex184), (183, ex183), (185, ex185)]) (T := []) ⟨zerosB_ok zsOk, (exCons (by kernel_rfl) sim182 (exCons (by kernel_rfl) sim184 (exCons (by kernel_rfl) sim183 (exCons (by kernel_rfl) sim185 exNil))))⟩ (.seq .nil (.seq .nil (.seq .nil (.join [8] [25, 26, 27, 28, 29, 30, 6, 31, 32, 33, 34, 35, 36, 37, 38, 39] .nil (.join [] [40, 41, 42, 43, 44, 45, 46, 47, 48, 49, 50, 51, 52, 53, 54] .nil .nil))))) Tryz.func135 _ h k (Eq.mp (by kernel_rfl : (bd135 v0 v1 v2 h k = true) = (xFn Tryz.prog (fun f => [75, 120, 121, 145, 146, 175, 181, 196, 197, 210, 220, 246].contains f) zs [(182, ex182), (184, ex184), (183, ex183), (185, ex185)] [] Tryz.f135 (.seq .nil (.seq .nil (.seq .nil (.join [8] [25, 26, 27, 28, 29, 30, 6, 31, 32, 33, 34, 35, 36, 37, 38, 39] .nil (.join [] [40, 41, 42, 43, 44, 45, 46, 47, 48, 49, 50, 51, 52, 53, 54] .nil .nil))))) [v0, v1, v2] h k = true)) hk)

/- (*undercroft/wal.group).add -/
noncomputable abbrev c136_1 (x11 : CV) (x12 : CV) (h3 : CH) (v0 : CV) (v1 : CV) (k : CV → CH → Bool) : Bool :=
 xApp (some (3, 1, 8, false)) x11 x12 h3 fun x13 h4 =>
 xNilCheck v0 fun x14 =>
 xAddr (some 0) x14 fun x15 =>
 xStore (some 1) x15 x13 h4 fun h5 =>
 xNilCheck v0 fun x16 =>
 xAddr (some 1) x16 fun x17 =>
 xLoad (some none) x17 h5 fun x18 =>
 xBuild (some (.inl [])) (some (.agg [])) [] fun x19 =>
 xMapSet (some (3, .int .i64, 210)) x18 v1 x19 h5 fun h6 =>
 k (.tup []) h6
noncomputable abbrev c136_2 (x4 : CV) (h : CH) (v0 : CV) (v1 : CV) (k : CV → CH → Bool) : Bool :=
 xExtract x4 0 fun x5 =>
 xExtract x4 1 fun x6 =>
 xBoxP 210 [] h fun x7 h1 =>
 xStore (some 0) x7 x5 h1 fun h2 =>
 xUn .not x6 fun x8 =>
 xIte x8
  (xNilCheck v0 fun x9 =>
  xAddr (some 0) x9 fun x10 =>
  xLoad (some none) x10 h2 fun x11 =>
  xNewS (some (3, 1, 8, false)) (some [(.int .i64 (.ofNat 0))]) 1 [(0, v1)] h2 fun x12 h3 =>
  c136_1 x11 x12 h3 v0 v1 k)
  (k (.tup []) h2)
noncomputable def bd136 (v0 v1 : CV) (h : CH) (k : CV → CH → Bool) : Bool :=
 xNilCheck v0 fun x1 =>
 xAddr (some 1) x1 fun x2 =>
 xLoad (some none) x2 h fun x3 =>
 xLookup (some (3, .int .i64, 210)) (some (.agg [])) true x3 v1 h fun x4 =>
 c136_2 x4 h v0 v1 k
noncomputable abbrev ex136 : Ex := fun args h k => a2 args fun v0 v1 => bd136 v0 v1 h k
set_option maxRecDepth 100000 in
theorem sim136 : SimF Tryz.prog 136 ex136 := fun args h k hk => by
  obtain ⟨v0, v1, rfl, hk⟩ := a2_ok hk
  exact sim_of (qf := (fun f => [75, 120, 121, 145, 146, 175, 181, 196, 197, 210, 220, 246].contains f)) (Z := zs) (C := []) (T := []) ⟨zerosB_ok zsOk, exNil⟩ .nil Tryz.func136 _ h k (Eq.mp (by kernel_rfl : (bd136 v0 v1 h k = true) = (xFn Tryz.prog (fun f => [75, 120, 121, 145, 146, 175, 181, 196, 197, 210, 220, 246].contains f) zs [] [] Tryz.f136 .nil [v0, v1] h k = true)) hk)

/- (*undercroft/wal.Log).Write -/
noncomputable abbrev c76_1 (x21 : CV) (k : CV → CH → Bool) (h7 : CH) (v0 : CV) (v1 : CV) : Bool :=
 xBin (some (.int .i64)) .neq x21 (.int .i64 (.ofNat 0)) fun x22 =>
 xIte x22
  (k x21 h7)
  (xNilCheck v0 fun x23 =>
  xAddr (some 16) x23 fun x24 =>
  xLoad (some none) x24 h7 fun x25 =>
  xBuild (some (.inl [])) (some (.agg [])) [] fun x26 =>
  xMapSet (some (3, .int .i64, 210)) x25 v1 x26 h7 fun h8 =>
  xNilCheck v0 fun x27 =>
  xAddr (some 0) x27 fun x28 =>
  bd136 x28 v1 h8 fun x29 h9 =>
  k (.int .i64 (.ofNat 0)) h9)
noncomputable abbrev c76_2 (k : CV → CH → Bool) (v0 : CV) (x1 : CV) (v1 : CV) (x14 : CV) (h5 : CH) : Bool :=
 xJoin (n := 1) (fun s15 h6 =>
  xIte s15.1
   (k (.int .i64 (.ofNat 181)) h6)
   (xNilCheck v0 fun x17 =>
   xAddr (some 3) x17 fun x18 =>
   xLoad (some none) x18 h6 fun x19 =>
   xLoad (some (some 1024)) x1 h6 fun x20 =>
   bd135 x19 v1 x20 h6 fun x21 h7 =>
   c76_1 x21 k h7 v0 v1))
 (fun K29 => xUn .not x14 fun x31 =>
 xIte x31
  (xNilCheck v0 fun x32 =>
  xAddr (some 16) x32 fun x33 =>
  xLoad (some none) x33 h5 fun x34 =>
  xMapLen x34 h5 fun x35 =>
  xNilCheck v0 fun x36 =>
  xAddr (some 15) x36 fun x37 =>
  xLoad (some none) x37 h5 fun x38 =>
  xBin (some (.int .i64)) .geq x35 x38 fun x39 =>
  K29 (x39, ()) h5)
  (K29 ((.bool false), ()) h5))
noncomputable abbrev c76_3 (s7 : TupC 1) (k : CV → CH → Bool) (h3 : CH) (v0 : CV) (v1 : CV) (x1 : CV) : Bool :=
 xIte s7.1
  (k (.int .i64 (.ofNat 2)) h3)
  (xNilCheck v0 fun x9 =>
  xAddr (some 16) x9 fun x10 =>
  xLoad (some none) x10 h3 fun x11 =>
  xLookup (some (3, .int .i64, 210)) (some (.agg [])) true x11 v1 h3 fun x12 =>
  xExtract x12 0 fun x13 =>
  xExtract x12 1 fun x14 =>
  xBoxP 210 [] h3 fun x15 h4 =>
  xStore (some 0) x15 x13 h4 fun h5 =>
  c76_2 k v0 x1 v1 x14 h5)
noncomputable abbrev c76_4 (v1 : CV) (K39 : TupC 1 → CH → Bool) (h2 : CH) (v0 : CV) : Bool :=
 xBin (some (.int .i64)) .lss v1 (.int .i64 (.ofNat 1)) fun x41 =>
 xIte x41
  (K39 ((.bool true), ()) h2)
  (xNilCheck v0 fun x42 =>
  xAddr (some 4) x42 fun x43 =>
  xAddr (some 0) x43 fun x44 =>
  xAddr (some 0) x44 fun x45 =>
  xLoad (some none) x45 h2 fun x46 =>
  xBin (some (.int .i64)) .geq v1 x46 fun x47 =>
  xIte x47
   (K39 ((.bool true), ()) h2)
   (bd131 v0 v1 h2 fun x48 h10 =>
   K39 (x48, ()) h10))
noncomputable abbrev c76_5 (v0 : CV) (h1 : CH) (k : CV → CH → Bool) (v1 : CV) (x1 : CV) : Bool :=
 bd78 v0 h1 fun x2 h2 =>
 xBin (some (.int .i64)) .neq x2 (.int .i64 (.ofNat 0)) fun x3 =>
 xIte x3
  (k x2 h2)
  (xNilCheck v0 fun x4 =>
  xAddr (some 14) x4 fun x5 =>
  xLoad (some none) x5 h2 fun x6 =>
  xUn .not x6 fun x7 =>
  xIte x7
   (k (.int .i64 (.ofNat 180)) h2)
   (xJoin (n := 1) (fun s7 h3 =>
    c76_3 s7 k h3 v0 v1 x1)
   (fun K39 => c76_4 v1 K39 h2 v0)))
noncomputable def bd76 (v0 v1 v2 : CV) (h : CH) (k : CV → CH → Bool) : Bool :=
 xBox 39 v2 h fun x1 h1 =>
 c76_5 v0 h1 k v1 x1
noncomputable abbrev ex76 : Ex := fun args h k => a3 args fun v0 v1 v2 => bd76 v0 v1 v2 h k
set_option maxRecDepth 100000 in
theorem sim76 : SimF Tryz.prog 76 ex76 := fun args h k hk => by
  obtain ⟨v0, v1, v2, rfl, hk⟩ := a3_ok hk
  exact sim_of (qf := (fun f => [75, 120, 121, 145, 146, 175, 181, 196, 197, 210, 220, 246].contains f)) (Z := zs) (C := [(78, ex78), (135, ex135), (136, ex136), (131, ex131)]) (T := []) ⟨zerosB_ok zsOk, (exCons (by kernel_rfl) sim78 (exCons (by kernel_rfl) sim135 (exCons (by kernel_rfl) sim136 (exCons (by kernel_rfl) sim131 exNil))))⟩ (.seq .nil (.seq (.seq .nil (.seq .nil (.cond .nil (.seq .nil (.cond .nil (.join [23] [24, 25, 26, 27, 28, 29, 30, 31, 32, 33, 34, 35, 36, 37, 38, 39, 40] .nil .nil)))))) (.seq (.seq .nil (.join [63] [50, 51, 52, 53, 54, 55, 56, 57, 58, 59, 60, 61, 62] .nil .nil)) .nil))) Tryz.func76 _ h k (Eq.mp (by kernel_rfl : (bd76 v0 v1 v2 h k = true) = (xFn Tryz.prog (fun f => [75, 120, 121, 145, 146, 175, 181, 196, 197, 210, 220, 246].contains f) zs [(78, ex78), (135, ex135), (136, ex136), (131, ex131)] [] Tryz.f76 (.seq .nil (.seq (.seq .nil (.seq .nil (.cond .nil (.seq .nil (.cond .nil (.join [23] [24, 25, 26, 27, 28, 29, 30, 31, 32, 33, 34, 35, 36, 37, 38, 39, 40] .nil .nil)))))) (.seq (.seq .nil (.join [63] [50, 51, 52, 53, 54, 55, 56, 57, 58, 59, 60, 61, 62] .nil .nil)) .nil))) [v0, v1, v2] h k = true)) hk)

/- undercroft/room.Give -/
noncomputable abbrev c24_1 (v1 : CV) (x9 : CV) (h4 : CH) (k : CV → CH → Bool) (x7 : CV) (v0 : CV) (x4 : CV) : Bool :=
 xBin (some (.int .i64)) .rem v1 (.int .i64 (.ofNat 8192)) fun x10 =>
 bd71 x9 x10 h4 fun x11 h5 =>
 xUn .not x11 fun x12 =>
 xIte x12
  (k (.int .i64 (.ofNat 4)) h5)
  (xLoad (some (some 1024)) x7 h5 fun x13 =>
  xBin (some (.int .i64)) .rem v1 (.int .i64 (.ofNat 8192)) fun x14 =>
  bd77 x13 x14 (.bool false) h5 fun x15 h6 =>
  bd76 v0 x4 x15 h6 fun x16 h7 =>
  k x16 h7)
noncomputable abbrev c24_2 (x2 : CV) (k : CV → CH → Bool) (x1 : CV) (h1 : CH) (v0 : CV) (v1 : CV) : Bool :=
 xIte x2
  (k x1 h1)
  (bd70 v0 v1 h1 fun x3 h2 =>
  xExtract x3 0 fun x4 =>
  xExtract x3 1 fun x5 =>
  xExtract x3 2 fun x6 =>
  xBoxP 39 [(.bytes 1024 0)] h2 fun x7 h3 =>
  xStore (some 1024) x7 x5 h3 fun h4 =>
  xBin (some (.int .i64)) .neq x6 (.int .i64 (.ofNat 0)) fun x8 =>
  xIte x8
   (k x6 h4)
   (xLoad (some (some 1024)) x7 h4 fun x9 =>
   c24_1 v1 x9 h4 k x7 v0 x4))
noncomputable def bd24 (v0 v1 : CV) (h : CH) (k : CV → CH → Bool) : Bool :=
 bd69 v0 (.bool true) h fun x1 h1 =>
 xBin (some (.int .i64)) .neq x1 (.int .i64 (.ofNat 0)) fun x2 =>
 c24_2 x2 k x1 h1 v0 v1
noncomputable abbrev ex24 : Ex := fun args h k => a2 args fun v0 v1 => bd24 v0 v1 h k
set_option maxRecDepth 100000 in
theorem sim24 : SimF Tryz.prog 24 ex24 := fun args h k hk => by
  obtain ⟨v0, v1, rfl, hk⟩ := a2_ok hk
  exact sim_of (qf := (fun f => [75, 120, 121, 145, 146, 175, 181, 196, 197, 210, 220, 246].contains f)) (Z := zs) (C := [(69, ex69), (70, ex70), (71, ex71), (77, ex77), (76, ex76)]) (T := []) ⟨zerosB_ok zsOk, (exCons (by kernel_rfl) sim69 (exCons (by kernel_rfl) sim70 (exCons (by kernel_rfl) sim71 (exCons (by kernel_rfl) sim77 (exCons (by kernel_rfl) sim76 exNil)))))⟩ .nil Tryz.func24 _ h k (Eq.mp (by kernel_rfl : (bd24 v0 v1 h k = true) = (xFn Tryz.prog (fun f => [75, 120, 121, 145, 146, 175, 181, 196, 197, 210, 220, 246].contains f) zs [(69, ex69), (70, ex70), (71, ex71), (77, ex77), (76, ex76)] [] Tryz.f24 .nil [v0, v1] h k = true)) hk)

/- (*undercroft/chart.cut).give -/
noncomputable abbrev c159_1 (x7 : CV) (k : CV → CH → Bool) (v1 : CV) (h1 : CH) (v0 : CV) : Bool :=
 xBin (some (.int .i64)) .neq x7 (.int .i64 (.ofNat 0)) fun x8 =>
 xIte x8
  (k (.tup [v1, x7]) h1)
  (xNilCheck v0 fun x9 =>
  xAddr (some 3) x9 fun x10 =>
  xLoad (some none) x10 h1 fun x11 =>
  xBin (some (.int .i64)) .add x11 (.int .i64 (.ofNat 1)) fun x12 =>
  xNilCheck v0 fun x13 =>
  xAddr (some 3) x13 fun x14 =>
  xStore (some 1) x14 x12 h1 fun h2 =>
  k (.tup [(.int .i64 (.ofNat 0)), (.int .i64 (.ofNat 0))]) h2)
noncomputable def bd159 (v0 v1 : CV) (h : CH) (k : CV → CH → Bool) : Bool :=
 xNilCheck v0 fun x1 =>
 xAddr (some 0) x1 fun x2 =>
 xLoad (some none) x2 h fun x3 =>
 xNilCheck x3 fun x4 =>
 xAddr (some 0) x4 fun x5 =>
 xLoad (some none) x5 h fun x6 =>
 bd24 x6 v1 h fun x7 h1 =>
 c159_1 x7 k v1 h1 v0
noncomputable abbrev ex159 : Ex := fun args h k => a2 args fun v0 v1 => bd159 v0 v1 h k
set_option maxRecDepth 100000 in
theorem sim159 : SimF Tryz.prog 159 ex159 := fun args h k hk => by
  obtain ⟨v0, v1, rfl, hk⟩ := a2_ok hk
  exact sim_of (qf := (fun f => [75, 120, 121, 145, 146, 175, 181, 196, 197, 210, 220, 246].contains f)) (Z := zs) (C := [(24, ex24)]) (T := []) ⟨zerosB_ok zsOk, (exCons (by kernel_rfl) sim24 exNil)⟩ .nil Tryz.func159 _ h k (Eq.mp (by kernel_rfl : (bd159 v0 v1 h k = true) = (xFn Tryz.prog (fun f => [75, 120, 121, 145, 146, 175, 181, 196, 197, 210, 220, 246].contains f) zs [(24, ex24)] [] Tryz.f159 .nil [v0, v1] h k = true)) hk)

/- undercroft/slab.Blank -/
noncomputable def bd160 (v0 : CV) (h : CH) (k : CV → CH → Bool) : Bool :=
 xBox 39 v0 h fun x1 h1 =>
 xLoad (some (some 1024)) x1 h1 fun x2 =>
 xBuild (some (.inr 1)) (some (.agg [(.bytes 1024 0)])) [] fun x3 =>
 xEq (some (.agg (.bytes 1024))) .eql x2 x3 h1 fun x4 =>
 k x4 h1
noncomputable abbrev ex160 : Ex := fun args h k => a1 args fun v0 => bd160 v0 h k
set_option maxRecDepth 100000 in
theorem sim160 : SimF Tryz.prog 160 ex160 := fun args h k hk => by
  obtain ⟨v0, rfl, hk⟩ := a1_ok hk
  exact sim_of (qf := (fun f => [75, 120, 121, 145, 146, 175, 181, 196, 197, 210, 220, 246].contains f)) (Z := zs) (C := []) (T := []) ⟨zerosB_ok zsOk, exNil⟩ .nil Tryz.func160 _ h k (Eq.mp (by kernel_rfl : (bd160 v0 h k = true) = (xFn Tryz.prog (fun f => [75, 120, 121, 145, 146, 175, 181, 196, 197, 210, 220, 246].contains f) zs [] [] Tryz.f160 .nil [v0] h k = true)) hk)

/- (*undercroft/chart.cut).prune -/
noncomputable abbrev c110_1 (x39 : CV) (k : CV → CH → Bool) (v1 : CV) (x38 : CV) (h13 : CH) (x19 : CV) (s23 : TupC 1) (x37 : CV) (K24 : TupC 1 → CH → Bool) : Bool :=
 xIte x39
  (k (.tup [v1, x38]) h13)
  (xLoad (some (some 1024)) x19 h13 fun x40 =>
  xBin (some (.int .i64)) .mul (.int .i64 (.ofNat 4)) s23.1 fun x41 =>
  xConv (some (.int .i64)) (some (.int .u32)) x37 fun x42 =>
  bd148 x40 x41 x42 h13 fun x43 h14 =>
  xStore (some 1024) x19 x43 h14 fun h15 =>
  xBin (some (.int .i64)) .add s23.1 (.int .i64 (.ofNat 1)) fun x44 =>
  K24 (x44, ()) h15)
noncomputable abbrev c110_2 (x31 : CV) (x32 : CV) (h11 : CH) (v2 : CV) (r110 : Ex) (v0 : CV) (x28 : CV) (k : CV → CH → Bool) (v1 : CV) (x19 : CV) (s23 : TupC 1) (K24 : TupC 1 → CH → Bool) : Bool :=
 bd146 x31 x32 h11 fun x33 h12 =>
 xConv (some (.int .u32)) (some (.int .i64)) x33 fun x34 =>
 xBin (some (.int .i64)) .sub v2 (.int .i64 (.ofNat 1)) fun x35 =>
 r110 [v0, x34, x35, x28] h12 fun x36 h13 =>
 xExtract x36 0 fun x37 =>
 xExtract x36 1 fun x38 =>
 xBin (some (.int .i64)) .neq x38 (.int .i64 (.ofNat 0)) fun x39 =>
 c110_1 x39 k v1 x38 h13 x19 s23 x37 K24
noncomputable abbrev c110_3 (x46 : CV) (h10 : CH) (x28 : CV) (K44 : TupC 1 → CH → Bool) (s20 : TupC 1) (v0 : CV) : Bool :=
 xAddr (some 2) x46 fun x47 =>
 xLoad (some none) x47 h10 fun x48 =>
 xBin (some (.int .i64)) .geq x28 x48 fun x49 =>
 xIte x49
  (K44 ((.bool true), ()) h10)
  (xBin (some (.int .i64)) .add x28 s20.1 fun x50 =>
  xNilCheck v0 fun x51 =>
  xAddr (some 1) x51 fun x52 =>
  xLoad (some none) x52 h10 fun x53 =>
  xBin (some (.int .i64)) .leq x50 x53 fun x54 =>
  K44 (x54, ()) h10)
noncomputable abbrev c110_4 (s23 : TupC 1) (K24 : TupC 1 → CH → Bool) (x19 : CV) (v2 : CV) (r110 : Ex) (v0 : CV) (x28 : CV) (k : CV → CH → Bool) (v1 : CV) (h10 : CH) (s20 : TupC 1) : Bool :=
 xJoin (n := 1) (fun s28 h11 =>
  xIte s28.1
   (xBin (some (.int .i64)) .add s23.1 (.int .i64 (.ofNat 1)) fun x30 =>
   K24 (x30, ()) h11)
   (xLoad (some (some 1024)) x19 h11 fun x31 =>
   xBin (some (.int .i64)) .mul (.int .i64 (.ofNat 4)) s23.1 fun x32 =>
   c110_2 x31 x32 h11 v2 r110 v0 x28 k v1 x19 s23 K24))
 (fun K44 => xNilCheck v0 fun x46 =>
 c110_3 x46 h10 x28 K44 s20 v0)
noncomputable abbrev c110_5 (x59 : CV) (v0 : CV) (v1 : CV) (h16 : CH) (k : CV → CH → Bool) (x19 : CV) : Bool :=
 xIte x59
  (bd159 v0 v1 h16 fun x60 h17 =>
  xExtract x60 0 fun x61 =>
  xExtract x60 1 fun x62 =>
  k (.tup [x61, x62]) h17)
  (xNilCheck v0 fun x63 =>
  xAddr (some 0) x63 fun x64 =>
  xLoad (some none) x64 h16 fun x65 =>
  xNilCheck x65 fun x66 =>
  xAddr (some 0) x66 fun x67 =>
  xLoad (some none) x67 h16 fun x68 =>
  xLoad (some (some 1024)) x19 h16 fun x69 =>
  bd76 x68 v1 x69 h16 fun x70 h18 =>
  k (.tup [v1, x70]) h18)
noncomputable abbrev c110_6 (x26 : CV) (s23 : TupC 1) (s20 : TupC 1) (v3 : CV) (K24 : TupC 1 → CH → Bool) (x19 : CV) (v2 : CV) (r110 : Ex) (v0 : CV) (k : CV → CH → Bool) (v1 : CV) (h10 : CH) (x23 : CV) : Bool :=
 xIte x26
  (xBin (some (.int .i64)) .mul s23.1 s20.1 fun x27 =>
  xBin (some (.int .i64)) .add v3 x27 fun x28 =>
  c110_4 s23 K24 x19 v2 r110 v0 x28 k v1 h10 s20)
  (xLoad (some (some 1024)) x19 h10 fun x55 =>
  xLoad (some (some 1024)) x23 h10 fun x56 =>
  xEq (some (.agg (.bytes 1024))) .eql x55 x56 h10 fun x57 =>
  xIte x57
   (k (.tup [v1, (.int .i64 (.ofNat 0))]) h10)
   (xLoad (some (some 1024)) x19 h10 fun x58 =>
   bd160 x58 h10 fun x59 h16 =>
   c110_5 x59 v0 v1 h16 k x19))
noncomputable abbrev c110_7 (x19 : CV) (v3 : CV) (v2 : CV) (r110 : Ex) (v0 : CV) (k : CV → CH → Bool) (v1 : CV) (h6 : CH) : Bool :=
 xJoin (n := 1) (fun s20 h7 =>
  xLoad (some (some 1024)) x19 h7 fun x22 =>
  xBoxP 39 [(.bytes 1024 0)] h7 fun x23 h8 =>
  xStore (some 1024) x23 x22 h8 fun h9 =>
  xLoop (n := 1) (fun K24 s23 h10 =>
   xBin (some (.int .i64)) .lss s23.1 (.int .i64 (.ofNat 256)) fun x26 =>
   c110_6 x26 s23 s20 v3 K24 x19 v2 r110 v0 k v1 h10 x23) 1000000 ((.int .i64 (.ofNat 0)), ()) h9)
 (fun K70 => xBin (some (.int .i64)) .eql v2 (.int .i64 (.ofNat 2)) fun x72 =>
 xIte x72
  (K70 ((.int .i64 (.ofNat 256)), ()) h6)
  (K70 ((.int .i64 (.ofNat 1)), ()) h6))
noncomputable abbrev c110_8 (x13 : CV) (h2 : CH) (v1 : CV) (k : CV → CH → Bool) (v3 : CV) (v2 : CV) (r110 : Ex) (v0 : CV) : Bool :=
 xAddr (some 0) x13 fun x14 =>
 xLoad (some none) x14 h2 fun x15 =>
 bd68 x15 v1 h2 fun x16 h4 =>
 xExtract x16 0 fun x17 =>
 xExtract x16 1 fun x18 =>
 xBoxP 39 [(.bytes 1024 0)] h4 fun x19 h5 =>
 xStore (some 1024) x19 x17 h5 fun h6 =>
 xBin (some (.int .i64)) .neq x18 (.int .i64 (.ofNat 0)) fun x20 =>
 xIte x20
  (k (.tup [v1, x18]) h6)
  (c110_7 x19 v3 v2 r110 v0 k v1 h6)
noncomputable abbrev c110_9 (s4 : TupC 1) (k : CV → CH → Bool) (v1 : CV) (x4 : CV) (h2 : CH) (v2 : CV) (v0 : CV) (v3 : CV) (r110 : Ex) : Bool :=
 xIte s4.1
  (k (.tup [v1, x4]) h2)
  (xBin (some (.int .i64)) .eql v2 (.int .i64 (.ofNat 0)) fun x6 =>
  xIte x6
   (bd159 v0 v1 h2 fun x7 h3 =>
   xExtract x7 0 fun x8 =>
   xExtract x7 1 fun x9 =>
   k (.tup [x8, x9]) h3)
   (xNilCheck v0 fun x10 =>
   xAddr (some 0) x10 fun x11 =>
   xLoad (some none) x11 h2 fun x12 =>
   xNilCheck x12 fun x13 =>
   c110_8 x13 h2 v1 k v3 v2 r110 v0))
noncomputable abbrev c110_10 (x1 : CV) (h : CH) (v1 : CV) (k : CV → CH → Bool) (v2 : CV) (v0 : CV) (v3 : CV) (r110 : Ex) : Bool :=
 xAddr (some 0) x1 fun x2 =>
 xLoad (some none) x2 h fun x3 =>
 bd158 x3 v1 h fun x4 h1 =>
 xJoin (n := 1) (fun s4 h2 =>
  c110_9 s4 k v1 x4 h2 v2 v0 v3 r110)
 (fun K72 => xBin (some (.int .i64)) .neq x4 (.int .i64 (.ofNat 0)) fun x74 =>
 xIte x74
  (K72 ((.bool true), ()) h1)
  (xBin (some (.int .i64)) .eql v1 (.int .i64 (.ofNat 0)) fun x75 =>
  K72 (x75, ()) h1))
noncomputable def bd110 (r110 : Ex) (v0 v1 v2 v3 : CV) (h : CH) (k : CV → CH → Bool) : Bool :=
 xNilCheck v0 fun x1 =>
 c110_10 x1 h v1 k v2 v0 v3 r110
noncomputable def rc110 : Nat → Nat → Ex := fun n => Nat.rec (motive := fun _ => Nat → Ex) (fun _ _ _ _ => false) (fun _ ih j => match j with
  | 0 => fun args h k => a4 args (fun v0 v1 v2 v3 => bd110 (ih 0) v0 v1 v2 v3 h k)
  | _ => fun _ _ _ => false) n
set_option maxRecDepth 100000 in
theorem sr110 : ∀ n, SimF Tryz.prog 110 (rc110 n 0)
  | 0 => fun args h k hk => by cases hk
  | n + 1 => by
    have ih := sr110 n
    have i110 := ih
    · intro args h k hk
      obtain ⟨v0, v1, v2, v3, rfl, hk⟩ := a4_ok hk
      exact sim_of (qf := (fun f => [75, 120, 121, 145, 146, 175, 181, 196, 197, 210, 220, 246].contains f)) (Z := zs) (C := [(110, rc110 n 0), (158, ex158), (159, ex159), (68, ex68), (146, ex146), (148, ex148), (160, ex160), (76, ex76)]) (T := []) ⟨zerosB_ok zsOk, (exCons (by kernel_rfl) i110 (exCons (by kernel_rfl) sim158 (exCons (by kernel_rfl) sim159 (exCons (by kernel_rfl) sim68 (exCons (by kernel_rfl) sim146 (exCons (by kernel_rfl) sim148 (exCons (by kernel_rfl) sim160 (exCons (by kernel_rfl) sim76 exNil))))))))⟩ (.seq .nil (.seq (.seq .nil (.join [31] [26, 27, 28, 29, 30] .nil .nil)) (.seq .nil (.seq .nil (.seq .nil (.seq .nil (.join [13] [57, 58] .nil (.seq .nil (.seq (.seq .nil (.loop [60] [61, 62, 15, 63, 64, 65, 66, 67, 16, 68, 69, 70, 71, 72, 73, 74, 75, 76, 77, 78, 79, 80, 81, 82, 83, 84, 85, 86, 87, 88, 17, 90, 91, 92, 93, 94, 95, 89, 96, 97, 18, 19, 98, 99, 100, 101, 8, 9, 102, 103, 104, 105, 106, 107, 108] (.seq .nil (.seq .nil (.seq (.seq .nil (.seq .nil (.seq (.join [83] [68, 69, 70, 71, 72, 73, 74, 75, 76, 77, 78, 79, 80, 81, 82] .nil .nil) .nil))) .nil))))) .nil))))))))) Tryz.func110 _ h k (Eq.mp (by kernel_rfl : (bd110 (rc110 n 0) v0 v1 v2 v3 h k = true) = (xFn Tryz.prog (fun f => [75, 120, 121, 145, 146, 175, 181, 196, 197, 210, 220, 246].contains f) zs [(110, rc110 n 0), (158, ex158), (159, ex159), (68, ex68), (146, ex146), (148, ex148), (160, ex160), (76, ex76)] [] Tryz.f110 (.seq .nil (.seq (.seq .nil (.join [31] [26, 27, 28, 29, 30] .nil .nil)) (.seq .nil (.seq .nil (.seq .nil (.seq .nil (.join [13] [57, 58] .nil (.seq .nil (.seq (.seq .nil (.loop [60] [61, 62, 15, 63, 64, 65, 66, 67, 16, 68, 69, 70, 71, 72, 73, 74, 75, 76, 77, 78, 79, 80, 81, 82, 83, 84, 85, 86, 87, 88, 17, 90, 91, 92, 93, 94, 95, 89, 96, 97, 18, 19, 98, 99, 100, 101, 8, 9, 102, 103, 104, 105, 106, 107, 108] (.seq .nil (.seq .nil (.seq (.seq .nil (.seq .nil (.seq (.join [83] [68, 69, 70, 71, 72, 73, 74, 75, 76, 77, 78, 79, 80, 81, 82] .nil .nil) .nil))) .nil))))) .nil))))))))) [v0, v1, v2, v3] h k = true)) hk)
noncomputable abbrev ex110 : Ex := rc110 1000 0
theorem sim110 : SimF Tryz.prog 110 ex110 := sr110 1000

/- undercroft/slab.SetU16 -/
noncomputable abbrev c147_1 (v2 : CV) (x1 : CV) (v1 : CV) (h5 : CH) (x8 : CV) (K5 : TupC 0 → CH → Bool) : Bool :=
 xConv (some (.int .u16)) (some (.int .u8)) v2 fun x9 =>
 xBin (some (.int .u16)) .shr v2 (.int .u64 (.ofNat 8)) fun x10 =>
 xConv (some (.int .u16)) (some (.int .u8)) x10 fun x11 =>
 xIdx (some (some 1024, 1)) x1 v1 fun x12 =>
 xStore (some 1) x12 x9 h5 fun h6 =>
 xIdx (some (some 1024, 1)) x1 x8 fun x13 =>
 xStore (some 1) x13 x11 h6 fun h7 =>
 K5 (()) h7
noncomputable abbrev c147_2 (h1 : CH) (x1 : CV) (k : CV → CH → Bool) (v1 : CV) (v2 : CV) : Bool :=
 xBoxP 39 [(.bytes 1024 0)] h1 fun x2 h2 =>
 xJoin (n := 0) (fun s2 h3 =>
  xLoad (some (some 1024)) x1 h3 fun x4 =>
  xStore (some 1024) x2 x4 h3 fun h4 =>
  xLoad (some (some 1024)) x2 h4 fun x5 =>
  k x5 h4)
 (fun K5 => bd191 v1 (.int .i64 (.ofNat 2)) h2 fun x7 h5 =>
 xIte x7
  (xBin (some (.int .i64)) .add v1 (.int .i64 (.ofNat 1)) fun x8 =>
  c147_1 v2 x1 v1 h5 x8 K5)
  (K5 (()) h5))
noncomputable def bd147 (v0 v1 v2 : CV) (h : CH) (k : CV → CH → Bool) : Bool :=
 xBox 39 v0 h fun x1 h1 =>
 c147_2 h1 x1 k v1 v2
noncomputable abbrev ex147 : Ex := fun args h k => a3 args fun v0 v1 v2 => bd147 v0 v1 v2 h k
set_option maxRecDepth 100000 in
theorem sim147 : SimF Tryz.prog 147 ex147 := fun args h k hk => by
  obtain ⟨v0, v1, v2, rfl, hk⟩ := a3_ok hk
  exact sim_of (qf := (fun f => [75, 120, 121, 145, 146, 175, 181, 196, 197, 210, 220, 246].contains f)) (Z := zs) (C := [(191, ex191)]) (T := []) ⟨zerosB_ok zsOk, (exCons (by kernel_rfl) sim191 exNil)⟩ (.seq .nil (.join [] [7, 8, 9, 10, 11, 12, 13, 14, 15, 16, 17, 18] .nil .nil)) Tryz.func147 _ h k (Eq.mp (by kernel_rfl : (bd147 v0 v1 v2 h k = true) = (xFn Tryz.prog (fun f => [75, 120, 121, 145, 146, 175, 181, 196, 197, 210, 220, 246].contains f) zs [(191, ex191)] [] Tryz.f147 (.seq .nil (.join [] [7, 8, 9, 10, 11, 12, 13, 14, 15, 16, 17, 18] .nil .nil)) [v0, v1, v2] h k = true)) hk)

/- undercroft/node.Encode -/
noncomputable abbrev c87_1 (x21 : CV) (s21 : TupC 1) (x7 : CV) (h12 : CH) (K22 : TupC 1 → CH → Bool) : Bool :=
 xIndex (some (some (10, (some none), 1))) x21 s21.1 fun x25 =>
 xLoad (some (some 1024)) x7 h12 fun x26 =>
 xBin (some (.int .i64)) .mul (.int .i64 (.ofNat 4)) s21.1 fun x27 =>
 xBin (some (.int .i64)) .add (.int .i64 (.ofNat 12)) x27 fun x28 =>
 bd148 x26 x28 x25 h12 fun x29 h13 =>
 xStore (some 1024) x7 x29 h13 fun h14 =>
 xBin (some (.int .i64)) .add s21.1 (.int .i64 (.ofNat 1)) fun x30 =>
 K22 (x30, ()) h14
noncomputable abbrev c87_2 (x36 : CV) (h16 : CH) (x35 : CV) (x7 : CV) (x2 : CV) (k : CV → CH → Bool) : Bool :=
 xLoad (some none) x36 h16 fun x37 =>
 bd148 x35 (.int .i64 (.ofNat 56)) x37 h16 fun x38 h17 =>
 xStore (some 1024) x7 x38 h17 fun h18 =>
 xSlice (some (some 1024, 1)) x7 none (some (.int .i64 (.ofNat 64))) none fun x39 =>
 xArr (some 64) x39 fun x40 =>
 xLoad (some (some 64)) x40 h18 fun x41 =>
 xStore (some 64) x2 x41 h18 fun h19 =>
 xLoad (some (some 64)) x2 h19 fun x42 =>
 k x42 h19
noncomputable abbrev c87_3 (x24 : CV) (x21 : CV) (s21 : TupC 1) (x7 : CV) (h12 : CH) (K22 : TupC 1 → CH → Bool) (x1 : CV) (x2 : CV) (k : CV → CH → Bool) : Bool :=
 xIte x24
  (c87_1 x21 s21 x7 h12 K22)
  (xLoad (some (some 1024)) x7 h12 fun x31 =>
  xAddr (some 14) x1 fun x32 =>
  xLoad (some none) x32 h12 fun x33 =>
  bd148 x31 (.int .i64 (.ofNat 52)) x33 h12 fun x34 h15 =>
  xStore (some 1024) x7 x34 h15 fun h16 =>
  xLoad (some (some 1024)) x7 h16 fun x35 =>
  xAddr (some 15) x1 fun x36 =>
  c87_2 x36 h16 x35 x7 x2 k)
noncomputable abbrev c87_4 (x16 : CV) (x18 : CV) (h9 : CH) (x7 : CV) (x1 : CV) (x2 : CV) (k : CV → CH → Bool) : Bool :=
 bd148 x16 (.int .i64 (.ofNat 8)) x18 h9 fun x19 h10 =>
 xStore (some 1024) x7 x19 h10 fun h11 =>
 xAddr (some 4) x1 fun x20 =>
 xLoad (some (some 10)) x20 h11 fun x21 =>
 xLoop (n := 1) (fun K22 s21 h12 =>
  xBin (some (.int .i64)) .lss s21.1 (.int .i64 (.ofNat 10)) fun x24 =>
  c87_3 x24 x21 s21 x7 h12 K22 x1 x2 k) 1000000 ((.int .i64 (.ofNat 0)), ()) h11
noncomputable abbrev c87_5 (x7 : CV) (x11 : CV) (h6 : CH) (x1 : CV) (x2 : CV) (k : CV → CH → Bool) : Bool :=
 xStore (some 1024) x7 x11 h6 fun h7 =>
 xLoad (some (some 1024)) x7 h7 fun x12 =>
 xAddr (some 2) x1 fun x13 =>
 xLoad (some none) x13 h7 fun x14 =>
 bd148 x12 (.int .i64 (.ofNat 4)) x14 h7 fun x15 h8 =>
 xStore (some 1024) x7 x15 h8 fun h9 =>
 xLoad (some (some 1024)) x7 h9 fun x16 =>
 xAddr (some 3) x1 fun x17 =>
 xLoad (some none) x17 h9 fun x18 =>
 c87_4 x16 x18 h9 x7 x1 x2 k
noncomputable abbrev c87_6 (x1 : CV) (h2 : CH) (x3 : CV) (x2 : CV) (k : CV → CH → Bool) : Bool :=
 xAddr (some 0) x1 fun x4 =>
 xLoad (some none) x4 h2 fun x5 =>
 bd147 x3 (.int .i64 (.ofNat 0)) x5 h2 fun x6 h3 =>
 xBoxP 39 [(.bytes 1024 0)] h3 fun x7 h4 =>
 xStore (some 1024) x7 x6 h4 fun h5 =>
 xLoad (some (some 1024)) x7 h5 fun x8 =>
 xAddr (some 1) x1 fun x9 =>
 xLoad (some none) x9 h5 fun x10 =>
 bd147 x8 (.int .i64 (.ofNat 2)) x10 h5 fun x11 h6 =>
 c87_5 x7 x11 h6 x1 x2 k
noncomputable def bd87 (v0 : CV) (h : CH) (k : CV → CH → Bool) : Bool :=
 xBox 68 v0 h fun x1 h1 =>
 xBoxP 140 [(.bytes 64 0)] h1 fun x2 h2 =>
 xBuild (some (.inr 1)) (some (.agg [(.bytes 1024 0)])) [] fun x3 =>
 c87_6 x1 h2 x3 x2 k
noncomputable abbrev ex87 : Ex := fun args h k => a1 args fun v0 => bd87 v0 h k
set_option maxRecDepth 100000 in
theorem sim87 : SimF Tryz.prog 87 ex87 := fun args h k hk => by
  obtain ⟨v0, rfl, hk⟩ := a1_ok hk
  exact sim_of (qf := (fun f => [75, 120, 121, 145, 146, 175, 181, 196, 197, 210, 220, 246].contains f)) (Z := zs) (C := [(147, ex147), (148, ex148)]) (T := []) ⟨zerosB_ok zsOk, (exCons (by kernel_rfl) sim147 (exCons (by kernel_rfl) sim148 exNil))⟩ (.seq .nil (.seq .nil (.seq .nil (.seq .nil (.seq .nil (.seq (.seq .nil (.loop [24] [25, 26, 27, 4, 5, 28, 29, 30, 31, 32, 33, 34] .nil)) .nil)))))) Tryz.func87 _ h k (Eq.mp (by kernel_rfl : (bd87 v0 h k = true) = (xFn Tryz.prog (fun f => [75, 120, 121, 145, 146, 175, 181, 196, 197, 210, 220, 246].contains f) zs [(147, ex147), (148, ex148)] [] Tryz.f87 (.seq .nil (.seq .nil (.seq .nil (.seq .nil (.seq .nil (.seq (.seq .nil (.loop [24] [25, 26, 27, 4, 5, 28, 29, 30, 31, 32, 33, 34] .nil)) .nil)))))) [v0] h k = true)) hk)

/- undercroft/rack.Write -/
noncomputable abbrev c30_1 (x16 : CV) (h7 : CH) (x14 : CV) (x8 : CV) (v0 : CV) (x7 : CV) (k : CV → CH → Bool) : Bool :=
 bd87 x16 h7 fun x17 h8 =>
 xBoxP 140 [(.bytes 64 0)] h8 fun x18 h9 =>
 xStore (some 64) x18 x17 h9 fun h10 =>
 xSlice (some (some 1024, 1)) x14 (some x8) none none fun x19 =>
 xSlice (some (some 64, 1)) x18 none none none fun x20 =>
 xCopy (some (5, 1, 1, true)) x19 x20 h10 fun x21 h11 =>
 xLoad (some (some 1024)) x14 h11 fun x22 =>
 bd76 v0 x7 x22 h11 fun x23 h12 =>
 k x23 h12
noncomputable abbrev c30_2 (x10 : CV) (k : CV → CH → Bool) (h4 : CH) (v0 : CV) (x7 : CV) (x1 : CV) (x8 : CV) : Bool :=
 xIte x10
  (k (.int .i64 (.ofNat 2)) h4)
  (bd68 v0 x7 h4 fun x11 h5 =>
  xExtract x11 0 fun x12 =>
  xExtract x11 1 fun x13 =>
  xBoxP 39 [(.bytes 1024 0)] h5 fun x14 h6 =>
  xStore (some 1024) x14 x12 h6 fun h7 =>
  xBin (some (.int .i64)) .neq x13 (.int .i64 (.ofNat 0)) fun x15 =>
  xIte x15
   (k x13 h7)
   (xLoad (some (some 16)) x1 h7 fun x16 =>
   c30_1 x16 h7 x14 x8 v0 x7 k))
noncomputable abbrev c30_3 (v0 : CV) (h1 : CH) (k : CV → CH → Bool) (v1 : CV) (x1 : CV) : Bool :=
 bd78 v0 h1 fun x2 h2 =>
 xBin (some (.int .i64)) .neq x2 (.int .i64 (.ofNat 0)) fun x3 =>
 xIte x3
  (k x2 h2)
  (bd86 v0 h2 fun x4 h3 =>
  xUn .not x4 fun x5 =>
  xIte x5
   (k (.int .i64 (.ofNat 180)) h3)
   (bd82 v0 v1 h3 fun x6 h4 =>
   xExtract x6 0 fun x7 =>
   xExtract x6 1 fun x8 =>
   xExtract x6 2 fun x9 =>
   xUn .not x9 fun x10 =>
   c30_2 x10 k h4 v0 x7 x1 x8))
noncomputable def bd30 (v0 v1 v2 : CV) (h : CH) (k : CV → CH → Bool) : Bool :=
 xBox 68 v2 h fun x1 h1 =>
 c30_3 v0 h1 k v1 x1
noncomputable abbrev ex30 : Ex := fun args h k => a3 args fun v0 v1 v2 => bd30 v0 v1 v2 h k
set_option maxRecDepth 100000 in
theorem sim30 : SimF Tryz.prog 30 ex30 := fun args h k hk => by
  obtain ⟨v0, v1, v2, rfl, hk⟩ := a3_ok hk
  exact sim_of (qf := (fun f => [75, 120, 121, 145, 146, 175, 181, 196, 197, 210, 220, 246].contains f)) (Z := zs) (C := [(78, ex78), (86, ex86), (82, ex82), (68, ex68), (87, ex87), (76, ex76)]) (T := []) ⟨zerosB_ok zsOk, (exCons (by kernel_rfl) sim78 (exCons (by kernel_rfl) sim86 (exCons (by kernel_rfl) sim82 (exCons (by kernel_rfl) sim68 (exCons (by kernel_rfl) sim87 (exCons (by kernel_rfl) sim76 exNil))))))⟩ .nil Tryz.func30 _ h k (Eq.mp (by kernel_rfl : (bd30 v0 v1 v2 h k = true) = (xFn Tryz.prog (fun f => [75, 120, 121, 145, 146, 175, 181, 196, 197, 210, 220, 246].contains f) zs [(78, ex78), (86, ex86), (82, ex82), (68, ex68), (87, ex87), (76, ex76)] [] Tryz.f30 .nil [v0, v1, v2] h k = true)) hk)

/- undercroft/chart.Drop -/
noncomputable abbrev c57_1 (x26 : CV) (k : CV → CH → Bool) (x25 : CV) (h5 : CH) (x24 : CV) (x2 : CV) (s9 : TupC 1) (K10 : TupC 1 → CH → Bool) : Bool :=
 xIte x26
  (k (.tup [(.int .i64 (.ofNat 0)), x25]) h5)
  (xConv (some (.int .i64)) (some (.int .u32)) x24 fun x27 =>
  xNilCheck x2 fun x28 =>
  xAddr (some 2) x28 fun x29 =>
  xAddr (some 4) x29 fun x30 =>
  xIdx (some (some 10, 1)) x30 s9.1 fun x31 =>
  xStore (some 1) x31 x27 h5 fun h6 =>
  xBin (some (.int .i64)) .add s9.1 (.int .i64 (.ofNat 1)) fun x32 =>
  K10 (x32, ()) h6)
noncomputable abbrev c57_2 (x19 : CV) (s9 : TupC 1) (h4 : CH) (x9 : CV) (k : CV → CH → Bool) (x2 : CV) (K10 : TupC 1 → CH → Bool) : Bool :=
 xIdx (some (some 10, 1)) x19 s9.1 fun x20 =>
 xLoad (some none) x20 h4 fun x21 =>
 xConv (some (.int .u32)) (some (.int .i64)) x21 fun x22 =>
 ex110 [x9, x22, (.int .i64 (.ofNat 0)), s9.1] h4 fun x23 h5 =>
 xExtract x23 0 fun x24 =>
 xExtract x23 1 fun x25 =>
 xBin (some (.int .i64)) .neq x25 (.int .i64 (.ofNat 0)) fun x26 =>
 c57_1 x26 k x25 h5 x24 x2 s9 K10
noncomputable abbrev c57_3 (x75 : CV) (h11 : CH) (v0 : CV) (v1 : CV) (k : CV → CH → Bool) (x9 : CV) : Bool :=
 xAddr (some 2) x75 fun x76 =>
 xLoad (some (some 16)) x76 h11 fun x77 =>
 bd30 v0 v1 x77 h11 fun x78 h12 =>
 xBin (some (.int .i64)) .neq x78 (.int .i64 (.ofNat 0)) fun x79 =>
 xIte x79
  (k (.tup [(.int .i64 (.ofNat 0)), x78]) h12)
  (xNilCheck x9 fun x80 =>
  xAddr (some 3) x80 fun x81 =>
  xLoad (some none) x81 h12 fun x82 =>
  k (.tup [x82, (.int .i64 (.ofNat 0))]) h12)
noncomputable abbrev c57_4 (x9 : CV) (h10 : CH) (x66 : CV) (x2 : CV) (v0 : CV) (v1 : CV) (k : CV → CH → Bool) : Bool :=
 xNilCheck x9 fun x67 =>
 xAddr (some 3) x67 fun x68 =>
 xLoad (some none) x68 h10 fun x69 =>
 xConv (some (.int .i64)) (some (.int .u32)) x69 fun x70 =>
 xBin (some (.int .u32)) .sub x66 x70 fun x71 =>
 xNilCheck x2 fun x72 =>
 xAddr (some 2) x72 fun x73 =>
 xAddr (some 3) x73 fun x74 =>
 xStore (some 1) x74 x71 h10 fun h11 =>
 xNilCheck x2 fun x75 =>
 c57_3 x75 h11 v0 v1 k x9
noncomputable abbrev c57_5 (x59 : CV) (h10 : CH) (k : CV → CH → Bool) (x2 : CV) (x9 : CV) (v0 : CV) (v1 : CV) : Bool :=
 xAddr (some 3) x59 fun x60 =>
 xLoad (some none) x60 h10 fun x61 =>
 xBin (some (.int .i64)) .eql x61 (.int .i64 (.ofNat 0)) fun x62 =>
 xIte x62
  (k (.tup [(.int .i64 (.ofNat 0)), (.int .i64 (.ofNat 0))]) h10)
  (xNilCheck x2 fun x63 =>
  xAddr (some 2) x63 fun x64 =>
  xAddr (some 3) x64 fun x65 =>
  xLoad (some none) x65 h10 fun x66 =>
  c57_4 x9 h10 x66 x2 v0 v1 k)
noncomputable abbrev c57_6 (x53 : CV) (k : CV → CH → Bool) (h9 : CH) (x52 : CV) (x2 : CV) (x9 : CV) (v0 : CV) (v1 : CV) : Bool :=
 xBin (some (.int .i64)) .neq x53 (.int .i64 (.ofNat 0)) fun x54 =>
 xIte x54
  (k (.tup [(.int .i64 (.ofNat 0)), x53]) h9)
  (xConv (some (.int .i64)) (some (.int .u32)) x52 fun x55 =>
  xNilCheck x2 fun x56 =>
  xAddr (some 2) x56 fun x57 =>
  xAddr (some 15) x57 fun x58 =>
  xStore (some 1) x58 x55 h9 fun h10 =>
  xNilCheck x9 fun x59 =>
  c57_5 x59 h10 k x2 x9 v0 v1)
noncomputable abbrev c57_7 (x45 : CV) (x42 : CV) (h7 : CH) (x2 : CV) (x9 : CV) (k : CV → CH → Bool) (v0 : CV) (v1 : CV) : Bool :=
 xStore (some 1) x45 x42 h7 fun h8 =>
 xNilCheck x2 fun x46 =>
 xAddr (some 2) x46 fun x47 =>
 xAddr (some 15) x47 fun x48 =>
 xLoad (some none) x48 h8 fun x49 =>
 xConv (some (.int .u32)) (some (.int .i64)) x49 fun x50 =>
 ex110 [x9, x50, (.int .i64 (.ofNat 2)), (.int .i64 (.ofNat 266))] h8 fun x51 h9 =>
 xExtract x51 0 fun x52 =>
 xExtract x51 1 fun x53 =>
 c57_6 x53 k h9 x52 x2 x9 v0 v1
noncomputable abbrev c57_8 (x38 : CV) (k : CV → CH → Bool) (h7 : CH) (x2 : CV) (x9 : CV) (v0 : CV) (v1 : CV) : Bool :=
 xExtract x38 0 fun x39 =>
 xExtract x38 1 fun x40 =>
 xBin (some (.int .i64)) .neq x40 (.int .i64 (.ofNat 0)) fun x41 =>
 xIte x41
  (k (.tup [(.int .i64 (.ofNat 0)), x40]) h7)
  (xConv (some (.int .i64)) (some (.int .u32)) x39 fun x42 =>
  xNilCheck x2 fun x43 =>
  xAddr (some 2) x43 fun x44 =>
  xAddr (some 14) x44 fun x45 =>
  c57_7 x45 x42 h7 x2 x9 k v0 v1)
noncomputable abbrev c57_9 (x16 : CV) (x2 : CV) (s9 : TupC 1) (h4 : CH) (x9 : CV) (k : CV → CH → Bool) (K10 : TupC 1 → CH → Bool) (v0 : CV) (v1 : CV) : Bool :=
 xIte x16
  (xNilCheck x2 fun x17 =>
  xAddr (some 2) x17 fun x18 =>
  xAddr (some 4) x18 fun x19 =>
  c57_2 x19 s9 h4 x9 k x2 K10)
  (xNilCheck x2 fun x33 =>
  xAddr (some 2) x33 fun x34 =>
  xAddr (some 14) x34 fun x35 =>
  xLoad (some none) x35 h4 fun x36 =>
  xConv (some (.int .u32)) (some (.int .i64)) x36 fun x37 =>
  ex110 [x9, x37, (.int .i64 (.ofNat 1)), (.int .i64 (.ofNat 10))] h4 fun x38 h7 =>
  c57_8 x38 k h7 x2 x9 v0 v1)
noncomputable abbrev c57_10 (x2 : CV) (v2 : CV) (x7 : CV) (h2 : CH) (k : CV → CH → Bool) (v0 : CV) (v1 : CV) : Bool :=
 xBuild (some (.inl [(0, 1), (1, 1), (2, 1), (3, 1)])) (some (.agg [.nilp, (.int .i64 (.ofNat 0)), (.int .i64 (.ofNat 0)), (.int .i64 (.ofNat 0))])) [(0, x2), (1, v2), (2, x7)] fun x8 =>
 xBox 173 x8 h2 fun x9 h3 =>
 xLoop (n := 1) (fun K10 s9 h4 =>
  xNilCheck x9 fun x12 =>
  xAddr (some 2) x12 fun x13 =>
  xLoad (some none) x13 h4 fun x14 =>
  xMin x14 (.int .i64 (.ofNat 10)) fun x15 =>
  xBin (some (.int .i64)) .lss s9.1 x15 fun x16 =>
  c57_9 x16 x2 s9 h4 x9 k K10 v0 v1) 1000000 (v2, ()) h3
noncomputable abbrev c57_11 (x1 : CV) (k : CV → CH → Bool) (h1 : CH) (v2 : CV) (v3 : CV) (v0 : CV) (v1 : CV) : Bool :=
 xExtract x1 0 fun x2 =>
 xExtract x1 1 fun x3 =>
 xBin (some (.int .i64)) .neq x3 (.int .i64 (.ofNat 0)) fun x4 =>
 xIte x4
  (k (.tup [(.int .i64 (.ofNat 0)), x3]) h1)
  (bd104 v2 v3 h1 fun x5 h2 =>
  xUn .not x5 fun x6 =>
  xIte x6
   (k (.tup [(.int .i64 (.ofNat 0)), (.int .i64 (.ofNat 2))]) h2)
   (xBin (some (.int .i64)) .add v2 v3 fun x7 =>
   c57_10 x2 v2 x7 h2 k v0 v1))
noncomputable def bd57 (v0 v1 v2 v3 : CV) (h : CH) (k : CV → CH → Bool) : Bool :=
 bd102 v0 v1 (.bool true) h fun x1 h1 =>
 c57_11 x1 k h1 v2 v3 v0 v1
noncomputable abbrev ex57 : Ex := fun args h k => a4 args fun v0 v1 v2 v3 => bd57 v0 v1 v2 v3 h k
set_option maxRecDepth 100000 in
theorem sim57 : SimF Tryz.prog 57 ex57 := fun args h k hk => by
  obtain ⟨v0, v1, v2, v3, rfl, hk⟩ := a4_ok hk
  exact sim_of (qf := (fun f => [75, 120, 121, 145, 146, 175, 181, 196, 197, 210, 220, 246].contains f)) (Z := zs) (C := [(102, ex102), (104, ex104), (110, ex110), (30, ex30)]) (T := []) ⟨zerosB_ok zsOk, (exCons (by kernel_rfl) sim102 (exCons (by kernel_rfl) sim104 (exCons (by kernel_rfl) sim110 (exCons (by kernel_rfl) sim30 exNil))))⟩ (.seq .nil (.seq .nil (.seq .nil (.seq .nil (.seq .nil (.seq (.seq .nil (.loop [13] [39, 40, 41, 42, 43, 44, 45, 49, 50, 51, 52, 53, 54, 55, 56, 57, 58, 59, 48, 60, 61, 14, 15, 62, 63, 64, 8, 9, 65, 66, 67, 68, 69, 70, 71, 72, 46, 47] .nil)) .nil)))))) Tryz.func57 _ h k (Eq.mp (by kernel_rfl : (bd57 v0 v1 v2 v3 h k = true) = (xFn Tryz.prog (fun f => [75, 120, 121, 145, 146, 175, 181, 196, 197, 210, 220, 246].contains f) zs [(102, ex102), (104, ex104), (110, ex110), (30, ex30)] [] Tryz.f57 (.seq .nil (.seq .nil (.seq .nil (.seq .nil (.seq .nil (.seq (.seq .nil (.loop [13] [39, 40, 41, 42, 43, 44, 45, 49, 50, 51, 52, 53, 54, 55, 56, 57, 58, 59, 48, 60, 61, 14, 15, 62, 63, 64, 8, 9, 65, 66, 67, 68, 69, 70, 71, 72, 46, 47] .nil)) .nil)))))) [v0, v1, v2, v3] h k = true)) hk)

/- (*undercroft/wal.Log).End -/
noncomputable abbrev c26_1 (x7 : CV) (h1 : CH) (v0 : CV) (k : CV → CH → Bool) : Bool :=
 xAddr (some 14) x7 fun x8 =>
 xStore (some 1) x8 (.bool false) h1 fun h2 =>
 xNilCheck v0 fun x9 =>
 xAddr (some 18) x9 fun x10 =>
 xLoad (some none) x10 h2 fun x11 =>
 xBin (some (.int .i64)) .add x11 (.int .i64 (.ofNat 1)) fun x12 =>
 xNilCheck v0 fun x13 =>
 xAddr (some 18) x13 fun x14 =>
 xStore (some 1) x14 x12 h2 fun h3 =>
 k (.int .i64 (.ofNat 0)) h3
noncomputable def bd26 (v0 : CV) (h : CH) (k : CV → CH → Bool) : Bool :=
 bd78 v0 h fun x1 h1 =>
 xBin (some (.int .i64)) .neq x1 (.int .i64 (.ofNat 0)) fun x2 =>
 xIte x2
  (k x1 h1)
  (xNilCheck v0 fun x3 =>
  xAddr (some 14) x3 fun x4 =>
  xLoad (some none) x4 h1 fun x5 =>
  xUn .not x5 fun x6 =>
  xIte x6
   (k (.int .i64 (.ofNat 180)) h1)
   (xNilCheck v0 fun x7 =>
   c26_1 x7 h1 v0 k))
noncomputable abbrev ex26 : Ex := fun args h k => a1 args fun v0 => bd26 v0 h k
set_option maxRecDepth 100000 in
theorem sim26 : SimF Tryz.prog 26 ex26 := fun args h k hk => by
  obtain ⟨v0, rfl, hk⟩ := a1_ok hk
  exact sim_of (qf := (fun f => [75, 120, 121, 145, 146, 175, 181, 196, 197, 210, 220, 246].contains f)) (Z := zs) (C := [(78, ex78)]) (T := []) ⟨zerosB_ok zsOk, (exCons (by kernel_rfl) sim78 exNil)⟩ .nil Tryz.func26 _ h k (Eq.mp (by kernel_rfl : (bd26 v0 h k = true) = (xFn Tryz.prog (fun f => [75, 120, 121, 145, 146, 175, 181, 196, 197, 210, 220, 246].contains f) zs [(78, ex78)] [] Tryz.f26 .nil [v0] h k = true)) hk)

/- undercroft/trim.step -/
noncomputable abbrev c98_1 (x21 : CV) (x17 : CV) (v0 : CV) (v1 : CV) (K14 : TupC 1 → CH → Bool) (x20 : CV) (h8 : CH) : Bool :=
 xJoin (n := 1) (fun s21 h9 =>
  xIte s21.1
   (xConv (some (.int .i64)) (some (.int .u32)) x21 fun x23 =>
   xAddr (some 2) x17 fun x24 =>
   xStore (some 1) x24 x23 h9 fun h10 =>
   xLoad (some (some 16)) x17 h10 fun x25 =>
   bd30 v0 v1 x25 h10 fun x26 h11 =>
   K14 (x26, ()) h11)
   (K14 (x20, ()) h9))
 (fun K26 => xBin (some (.int .i64)) .eql x20 (.int .i64 (.ofNat 0)) fun x28 =>
 xIte x28
  (xAddr (some 2) x17 fun x29 =>
  xLoad (some none) x29 h8 fun x30 =>
  xConv (some (.int .u32)) (some (.int .i64)) x30 fun x31 =>
  xBin (some (.int .i64)) .gtr x31 x21 fun x32 =>
  K26 (x32, ()) h8)
  (K26 ((.bool false), ()) h8))
noncomputable abbrev c98_2 (h3 : CH) (v0 : CV) (v1 : CV) (x5 : CV) (K14 : TupC 1 → CH → Bool) : Bool :=
 xBoxP 68 [(.int .u16 (.ofNat 0)), (.int .u16 (.ofNat 0)), (.int .u32 (.ofNat 0)), (.int .u32 (.ofNat 0)), (.int .u32 (.ofNat 0)), (.int .u32 (.ofNat 0)), (.int .u32 (.ofNat 0)), (.int .u32 (.ofNat 0)), (.int .u32 (.ofNat 0)), (.int .u32 (.ofNat 0)), (.int .u32 (.ofNat 0)), (.int .u32 (.ofNat 0)), (.int .u32 (.ofNat 0)), (.int .u32 (.ofNat 0)), (.int .u32 (.ofNat 0)), (.int .u32 (.ofNat 0))] h3 fun x17 h6 =>
 bd28 v0 v1 h6 fun x18 h7 =>
 xExtract x18 0 fun x19 =>
 xExtract x18 1 fun x20 =>
 xStore (some 16) x17 x19 h7 fun h8 =>
 xBin (some (.int .i64)) .mul x5 (.int .i64 (.ofNat 1024)) fun x21 =>
 c98_1 x21 x17 v0 v1 K14 x20 h8
noncomputable abbrev c98_3 (v0 : CV) (v1 : CV) (x5 : CV) (x8 : CV) (h2 : CH) (k : CV → CH → Bool) : Bool :=
 bd57 v0 v1 x5 x8 h2 fun x9 h3 =>
 xExtract x9 0 fun x10 =>
 xExtract x9 1 fun x11 =>
 xJoin (n := 1) (fun s11 h4 =>
  bd26 v0 h4 fun x13 h5 =>
  xBin (some (.int .i64)) .eql s11.1 (.int .i64 (.ofNat 0)) fun x14 =>
  xIte x14
   (k x13 h5)
   (k s11.1 h5))
 (fun K14 => xBin (some (.int .i64)) .eql x11 (.int .i64 (.ofNat 0)) fun x16 =>
 xIte x16
  (c98_2 h3 v0 v1 x5 K14)
  (K14 (x11, ()) h3))
noncomputable abbrev c98_4 (x1 : CV) (v0 : CV) (h1 : CH) (k : CV → CH → Bool) (v2 : CV) (v1 : CV) : Bool :=
 xBin (some (.int .i64)) .mul x1 (.int .i64 (.ofNat 8)) fun x2 =>
 bd23 v0 (.int .i64 (.ofNat 15)) h1 fun x3 h2 =>
 xBin (some (.int .i64)) .neq x3 (.int .i64 (.ofNat 0)) fun x4 =>
 xIte x4
  (k x3 h2)
  (xMax v2 x2 fun x5 =>
  xBin (some (.int .i64)) .add x2 (.int .i64 (.ofNat 8)) fun x6 =>
  xMin x6 (.int .i64 (.ofNat 65802)) fun x7 =>
  xBin (some (.int .i64)) .sub x7 x5 fun x8 =>
  c98_3 v0 v1 x5 x8 h2 k)
noncomputable def bd98 (v0 v1 v2 v3 : CV) (h : CH) (k : CV → CH → Bool) : Bool :=
 bd113 v3 h fun x1 h1 =>
 c98_4 x1 v0 h1 k v2 v1
noncomputable abbrev ex98 : Ex := fun args h k => a4 args fun v0 v1 v2 v3 => bd98 v0 v1 v2 v3 h k
set_option maxRecDepth 100000 in
theorem sim98 : SimF Tryz.prog 98 ex98 := fun args h k hk => by
  obtain ⟨v0, v1, v2, v3, rfl, hk⟩ := a4_ok hk
  exact sim_of (qf := (fun f => [75, 120, 121, 145, 146, 175, 181, 196, 197, 210, 220, 246].contains f)) (Z := zs) (C := [(113, ex113), (23, ex23), (57, ex57), (26, ex26), (28, ex28), (30, ex30)]) (T := []) ⟨zerosB_ok zsOk, (exCons (by kernel_rfl) sim113 (exCons (by kernel_rfl) sim23 (exCons (by kernel_rfl) sim57 (exCons (by kernel_rfl) sim26 (exCons (by kernel_rfl) sim28 (exCons (by kernel_rfl) sim30 exNil))))))⟩ (.seq .nil (.seq .nil (.seq .nil (.seq .nil (.seq .nil (.join [13] [40, 41, 14, 43, 44, 45, 42, 46, 47, 48, 49, 15, 50, 51, 52, 53, 54, 55, 56, 57, 58, 59, 60, 61, 62, 63, 64, 65] (.seq .nil (.cond (.seq .nil (.seq .nil (.seq .nil (.join [58] [50, 51, 52, 53, 54, 55, 56, 57] .nil .nil)))) .nil)) .nil)))))) Tryz.func98 _ h k (Eq.mp (by kernel_rfl : (bd98 v0 v1 v2 v3 h k = true) = (xFn Tryz.prog (fun f => [75, 120, 121, 145, 146, 175, 181, 196, 197, 210, 220, 246].contains f) zs [(113, ex113), (23, ex23), (57, ex57), (26, ex26), (28, ex28), (30, ex30)] [] Tryz.f98 (.seq .nil (.seq .nil (.seq .nil (.seq .nil (.seq .nil (.join [13] [40, 41, 14, 43, 44, 45, 42, 46, 47, 48, 49, 15, 50, 51, 52, 53, 54, 55, 56, 57, 58, 59, 60, 61, 62, 63, 64, 65] (.seq .nil (.cond (.seq .nil (.seq .nil (.seq .nil (.join [58] [50, 51, 52, 53, 54, 55, 56, 57] .nil .nil)))) .nil)) .nil)))))) [v0, v1, v2, v3] h k = true)) hk)

/- undercroft/trim.Step -/
noncomputable abbrev c41_1 (x12 : CV) (k : CV → CH → Bool) (h8 : CH) (v0 : CV) (v1 : CV) (x7 : CV) : Bool :=
 xBin (some (.int .i64)) .neq x12 (.int .i64 (.ofNat 0)) fun x13 =>
 xIte x13
  (k (.tup [(.bool false), x12]) h8)
  (bd97 v0 v1 x7 h8 fun x14 h9 =>
  xExtract x14 0 fun x15 =>
  xExtract x14 1 fun x16 =>
  xBin (some (.int .i64)) .eql x16 (.int .i64 (.ofNat 0)) fun x17 =>
  xIte x17
   (xBin (some (.int .i64)) .geq x15 (.int .i64 (.ofNat 0)) fun x18 =>
   k (.tup [x18, x16]) h9)
   (k (.tup [(.bool false), x16]) h9))
noncomputable abbrev c41_2 (x8 : CV) (k : CV → CH → Bool) (v0 : CV) (v1 : CV) (x7 : CV) (x9 : CV) (h6 : CH) : Bool :=
 xExtract x8 1 fun x10 =>
 xJoin (n := 1) (fun s10 h7 =>
  xIte s10.1
   (k (.tup [(.bool false), x10]) h7)
   (bd98 v0 v1 x7 x9 h7 fun x12 h8 =>
   c41_1 x12 k h8 v0 v1 x7))
 (fun K18 => xBin (some (.int .i64)) .neq x10 (.int .i64 (.ofNat 0)) fun x20 =>
 xIte x20
  (K18 ((.bool true), ()) h6)
  (xBin (some (.int .i64)) .lss x9 (.int .i64 (.ofNat 0)) fun x21 =>
  K18 (x21, ()) h6))
noncomputable abbrev c41_3 (k : CV → CH → Bool) (v2 : CV) (v0 : CV) (v1 : CV) (x4 : CV) (h3 : CH) : Bool :=
 xJoin (n := 1) (fun s5 h4 =>
  xIte s5.1
   (k (.tup [(.bool false), (.int .i64 (.ofNat 8))]) h4)
   (bd96 v2 h4 fun x7 h5 =>
   bd97 v0 v1 x7 h5 fun x8 h6 =>
   xExtract x8 0 fun x9 =>
   c41_2 x8 k v0 v1 x7 x9 h6))
 (fun K21 => xAddr (some 0) x4 fun x23 =>
 xLoad (some none) x23 h3 fun x24 =>
 xBin (some (.int .u16)) .eql x24 (.int .u16 (.ofNat 2)) fun x25 =>
 xIte x25
  (xAddr (some 1) x4 fun x26 =>
  xLoad (some none) x26 h3 fun x27 =>
  xBin (some (.int .u16)) .neq x27 (.int .u16 (.ofNat 0)) fun x28 =>
  K21 (x28, ()) h3)
  (K21 ((.bool false), ()) h3))
noncomputable abbrev c41_4 (h1 : CH) (x2 : CV) (x3 : CV) (k : CV → CH → Bool) (v2 : CV) (v0 : CV) (v1 : CV) : Bool :=
 xBoxP 68 [(.int .u16 (.ofNat 0)), (.int .u16 (.ofNat 0)), (.int .u32 (.ofNat 0)), (.int .u32 (.ofNat 0)), (.int .u32 (.ofNat 0)), (.int .u32 (.ofNat 0)), (.int .u32 (.ofNat 0)), (.int .u32 (.ofNat 0)), (.int .u32 (.ofNat 0)), (.int .u32 (.ofNat 0)), (.int .u32 (.ofNat 0)), (.int .u32 (.ofNat 0)), (.int .u32 (.ofNat 0)), (.int .u32 (.ofNat 0)), (.int .u32 (.ofNat 0)), (.int .u32 (.ofNat 0))] h1 fun x4 h2 =>
 xStore (some 16) x4 x2 h2 fun h3 =>
 xBin (some (.int .i64)) .neq x3 (.int .i64 (.ofNat 0)) fun x5 =>
 xIte x5
  (k (.tup [(.bool false), x3]) h3)
  (c41_3 k v2 v0 v1 x4 h3)
noncomputable def bd41 (v0 v1 v2 : CV) (h : CH) (k : CV → CH → Bool) : Bool :=
 bd95 v0 v1 v2 h fun x1 h1 =>
 xExtract x1 0 fun x2 =>
 xExtract x1 1 fun x3 =>
 c41_4 h1 x2 x3 k v2 v0 v1
noncomputable abbrev ex41 : Ex := fun args h k => a3 args fun v0 v1 v2 => bd41 v0 v1 v2 h k
set_option maxRecDepth 100000 in
theorem sim41 : SimF Tryz.prog 41 ex41 := fun args h k hk => by
  obtain ⟨v0, v1, v2, rfl, hk⟩ := a3_ok hk
  exact sim_of (qf := (fun f => [75, 120, 121, 145, 146, 175, 181, 196, 197, 210, 220, 246].contains f)) (Z := zs) (C := [(95, ex95), (96, ex96), (97, ex97), (98, ex98)]) (T := []) ⟨zerosB_ok zsOk, (exCons (by kernel_rfl) sim95 (exCons (by kernel_rfl) sim96 (exCons (by kernel_rfl) sim97 (exCons (by kernel_rfl) sim98 exNil))))⟩ (.seq .nil (.seq .nil (.seq .nil (.seq (.join [29] [22, 23, 24, 25, 26, 27, 28] .nil .nil) (.seq .nil (.seq .nil (.seq (.join [44] [39, 40, 41, 42, 43] .nil .nil) .nil))))))) Tryz.func41 _ h k (Eq.mp (by kernel_rfl : (bd41 v0 v1 v2 h k = true) = (xFn Tryz.prog (fun f => [75, 120, 121, 145, 146, 175, 181, 196, 197, 210, 220, 246].contains f) zs [(95, ex95), (96, ex96), (97, ex97), (98, ex98)] [] Tryz.f41 (.seq .nil (.seq .nil (.seq .nil (.seq (.join [29] [22, 23, 24, 25, 26, 27, 28] .nil .nil) (.seq .nil (.seq .nil (.seq (.join [44] [39, 40, 41, 42, 43] .nil .nil) .nil))))))) [v0, v1, v2] h k = true)) hk)

/- undercroft/plan.Way -/
noncomputable abbrev c155_1 (x13 : CV) (x1 : CV) (h2 : CH) (k : CV → CH → Bool) : Bool :=
 xBin (some (.int .i64)) .quo x13 (.int .i64 (.ofNat 256)) fun x14 =>
 xBin (some (.int .i64)) .rem x13 (.int .i64 (.ofNat 256)) fun x15 =>
 xBuild (some (.inl [(0, 1), (1, 1), (2, 1)])) (some (.agg [(.bytes 1 0), (.int .i64 (.ofNat 0)), (.int .i64 (.ofNat 0))])) [(0, (.int .u8 (.ofNat 3))), (1, x14), (2, x15)] fun x16 =>
 xStore (some 3) x1 x16 h2 fun h6 =>
 xLoad (some (some 3)) x1 h6 fun x17 =>
 k x17 h6
noncomputable abbrev c155_2 (x8 : CV) (v0 : CV) (x1 : CV) (h2 : CH) (k : CV → CH → Bool) : Bool :=
 xIte x8
  (xBin (some (.int .i64)) .sub v0 (.int .i64 (.ofNat 10)) fun x9 =>
  xBuild (some (.inl [(0, 1), (1, 1), (2, 1)])) (some (.agg [(.bytes 1 0), (.int .i64 (.ofNat 0)), (.int .i64 (.ofNat 0))])) [(0, (.int .u8 (.ofNat 2))), (1, x9)] fun x10 =>
  xStore (some 3) x1 x10 h2 fun h5 =>
  xLoad (some (some 3)) x1 h5 fun x11 =>
  k x11 h5)
  (xBin (some (.int .i64)) .sub v0 (.int .i64 (.ofNat 10)) fun x12 =>
  xBin (some (.int .i64)) .sub x12 (.int .i64 (.ofNat 256)) fun x13 =>
  c155_1 x13 x1 h2 k)
noncomputable abbrev c155_3 (x5 : CV) (v0 : CV) (x1 : CV) (h2 : CH) (k : CV → CH → Bool) : Bool :=
 xIte x5
  (xBuild (some (.inl [(0, 1), (1, 1), (2, 1)])) (some (.agg [(.bytes 1 0), (.int .i64 (.ofNat 0)), (.int .i64 (.ofNat 0))])) [(0, (.int .u8 (.ofNat 1))), (1, v0)] fun x6 =>
  xStore (some 3) x1 x6 h2 fun h4 =>
  xLoad (some (some 3)) x1 h4 fun x7 =>
  k x7 h4)
  (xBin (some (.int .i64)) .lss v0 (.int .i64 (.ofNat 266)) fun x8 =>
  c155_2 x8 v0 x1 h2 k)
noncomputable abbrev c155_4 (x1 : CV) (k : CV → CH → Bool) (v0 : CV) (h1 : CH) : Bool :=
 xJoin (n := 1) (fun s1 h2 =>
  xIte s1.1
   (xBuild (some (.inl [(0, 1), (1, 1), (2, 1)])) (some (.agg [(.bytes 1 0), (.int .i64 (.ofNat 0)), (.int .i64 (.ofNat 0))])) [] fun x3 =>
   xStore (some 3) x1 x3 h2 fun h3 =>
   xLoad (some (some 3)) x1 h3 fun x4 =>
   k x4 h3)
   (xBin (some (.int .i64)) .lss v0 (.int .i64 (.ofNat 10)) fun x5 =>
   c155_3 x5 v0 x1 h2 k))
 (fun K17 => xBin (some (.int .i64)) .lss v0 (.int .i64 (.ofNat 0)) fun x19 =>
 xIte x19
  (K17 ((.bool true), ()) h1)
  (xBin (some (.int .i64)) .geq v0 (.int .i64 (.ofNat 65802)) fun x20 =>
  K17 (x20, ()) h1))
noncomputable def bd155 (v0 : CV) (h : CH) (k : CV → CH → Bool) : Bool :=
 xBoxP 229 [(.bytes 1 0), (.int .i64 (.ofNat 0)), (.int .i64 (.ofNat 0))] h fun x1 h1 =>
 c155_4 x1 k v0 h1
noncomputable abbrev ex155 : Ex := fun args h k => a1 args fun v0 => bd155 v0 h k
set_option maxRecDepth 100000 in
theorem sim155 : SimF Tryz.prog 155 ex155 := fun args h k hk => by
  obtain ⟨v0, rfl, hk⟩ := a1_ok hk
  exact sim_of (qf := (fun f => [75, 120, 121, 145, 146, 175, 181, 196, 197, 210, 220, 246].contains f)) (Z := zs) (C := []) (T := []) ⟨zerosB_ok zsOk, exNil⟩ (.seq .nil (.seq (.join [4] [5, 6, 7, 8, 9, 10] .nil .nil) .nil)) Tryz.func155 _ h k (Eq.mp (by kernel_rfl : (bd155 v0 h k = true) = (xFn Tryz.prog (fun f => [75, 120, 121, 145, 146, 175, 181, 196, 197, 210, 220, 246].contains f) zs [] [] Tryz.f155 (.seq .nil (.seq (.join [4] [5, 6, 7, 8, 9, 10] .nil .nil) .nil)) [v0] h k = true)) hk)

/- (*undercroft/chart.file).top -/
noncomputable abbrev c106_1 (v0 : CV) (h3 : CH) (x2 : CV) (k : CV → CH → Bool) : Bool :=
 xNilCheck v0 fun x15 =>
 xAddr (some 2) x15 fun x16 =>
 xAddr (some 14) x16 fun x17 =>
 xLoad (some none) x17 h3 fun x18 =>
 xConv (some (.int .u32)) (some (.int .i64)) x18 fun x19 =>
 xAddr (some 1) x2 fun x20 =>
 xLoad (some none) x20 h3 fun x21 =>
 xNewS (some (3, 1, 8, false)) (some [(.int .i64 (.ofNat 0))]) 1 [(0, x21)] h3 fun x22 h4 =>
 k (.tup [x19, x22]) h4
noncomputable abbrev c106_2 (x24 : CV) (h3 : CH) (x2 : CV) (k : CV → CH → Bool) : Bool :=
 xAddr (some 15) x24 fun x25 =>
 xLoad (some none) x25 h3 fun x26 =>
 xConv (some (.int .u32)) (some (.int .i64)) x26 fun x27 =>
 xAddr (some 1) x2 fun x28 =>
 xLoad (some none) x28 h3 fun x29 =>
 xAddr (some 2) x2 fun x30 =>
 xLoad (some none) x30 h3 fun x31 =>
 xNewS (some (3, 1, 8, false)) (some [(.int .i64 (.ofNat 0))]) 2 [(0, x29), (1, x31)] h3 fun x32 h5 =>
 k (.tup [x27, x32]) h5
noncomputable abbrev c106_3 (x5 : CV) (x2 : CV) (h3 : CH) (v0 : CV) (k : CV → CH → Bool) (x4 : CV) : Bool :=
 xIte x5
  (xAddr (some 1) x2 fun x6 =>
  xLoad (some none) x6 h3 fun x7 =>
  xNilCheck v0 fun x8 =>
  xAddr (some 2) x8 fun x9 =>
  xAddr (some 4) x9 fun x10 =>
  xIdx (some (some 10, 1)) x10 x7 fun x11 =>
  xLoad (some none) x11 h3 fun x12 =>
  xConv (some (.int .u32)) (some (.int .i64)) x12 fun x13 =>
  k (.tup [x13, .nils]) h3)
  (xBin (some (.int .u8)) .eql x4 (.int .u8 (.ofNat 2)) fun x14 =>
  xIte x14
   (c106_1 v0 h3 x2 k)
   (xNilCheck v0 fun x23 =>
   xAddr (some 2) x23 fun x24 =>
   c106_2 x24 h3 x2 k))
noncomputable def bd106 (v0 v1 : CV) (h : CH) (k : CV → CH → Bool) : Bool :=
 bd155 v1 h fun x1 h1 =>
 xBoxP 229 [(.bytes 1 0), (.int .i64 (.ofNat 0)), (.int .i64 (.ofNat 0))] h1 fun x2 h2 =>
 xStore (some 3) x2 x1 h2 fun h3 =>
 xAddr (some 0) x2 fun x3 =>
 xLoad (some none) x3 h3 fun x4 =>
 xBin (some (.int .u8)) .eql x4 (.int .u8 (.ofNat 1)) fun x5 =>
 c106_3 x5 x2 h3 v0 k x4
noncomputable abbrev ex106 : Ex := fun args h k => a2 args fun v0 v1 => bd106 v0 v1 h k
set_option maxRecDepth 100000 in
theorem sim106 : SimF Tryz.prog 106 ex106 := fun args h k hk => by
  obtain ⟨v0, v1, rfl, hk⟩ := a2_ok hk
  exact sim_of (qf := (fun f => [75, 120, 121, 145, 146, 175, 181, 196, 197, 210, 220, 246].contains f)) (Z := zs) (C := [(155, ex155)]) (T := []) ⟨zerosB_ok zsOk, (exCons (by kernel_rfl) sim155 exNil)⟩ .nil Tryz.func106 _ h k (Eq.mp (by kernel_rfl : (bd106 v0 v1 h k = true) = (xFn Tryz.prog (fun f => [75, 120, 121, 145, 146, 175, 181, 196, 197, 210, 220, 246].contains f) zs [(155, ex155)] [] Tryz.f106 .nil [v0, v1] h k = true)) hk)

/- (*undercroft/chart.file).down -/
noncomputable abbrev c154_1 (x14 : CV) (x17 : CV) (h4 : CH) (v2 : CV) (r154 : Ex) (v0 : CV) (k : CV → CH → Bool) : Bool :=
 xQuiet (some ex146) [x14, x17] h4 fun x18 h5 =>
 xConv (some (.int .u32)) (some (.int .i64)) x18 fun x19 =>
 xSlice (some (none, 1)) v2 (some (.int .i64 (.ofNat 1))) none none fun x20 =>
 r154 [v0, x19, x20] h5 fun x21 h6 =>
 xExtract x21 0 fun x22 =>
 xExtract x21 1 fun x23 =>
 xExtract x21 2 fun x24 =>
 xBin (some (.int .i64)) .add x23 (.int .i64 (.ofNat 1)) fun x25 =>
 k (.tup [x22, x25, x24]) h6
noncomputable abbrev c154_2 (x11 : CV) (k : CV → CH → Bool) (h4 : CH) (x12 : CV) (v2 : CV) (r154 : Ex) (v0 : CV) : Bool :=
 xBin (some (.int .i64)) .neq x11 (.int .i64 (.ofNat 0)) fun x13 =>
 xIte x13
  (k (.tup [(.int .i64 (.ofNat 0)), (.int .i64 (.ofNat 0)), x11]) h4)
  (xLoad (some (some 1024)) x12 h4 fun x14 =>
  xIdx (some (none, 1)) v2 (.int .i64 (.ofNat 0)) fun x15 =>
  xLoad (some none) x15 h4 fun x16 =>
  xBin (some (.int .i64)) .mul (.int .i64 (.ofNat 4)) x16 fun x17 =>
  c154_1 x14 x17 h4 v2 r154 v0 k)
noncomputable abbrev c154_3 (x5 : CV) (k : CV → CH → Bool) (v1 : CV) (h1 : CH) (v0 : CV) (v2 : CV) (r154 : Ex) : Bool :=
 xIte x5
  (k (.tup [v1, (.int .i64 (.ofNat 1)), (.int .i64 (.ofNat 0))]) h1)
  (xNilCheck v0 fun x6 =>
  xAddr (some 0) x6 fun x7 =>
  xLoad (some none) x7 h1 fun x8 =>
  bd68 x8 v1 h1 fun x9 h2 =>
  xExtract x9 0 fun x10 =>
  xExtract x9 1 fun x11 =>
  xBoxP 39 [(.bytes 1024 0)] h2 fun x12 h3 =>
  xStore (some 1024) x12 x10 h3 fun h4 =>
  c154_2 x11 k h4 x12 v2 r154 v0)
noncomputable abbrev c154_4 (x2 : CV) (k : CV → CH → Bool) (x1 : CV) (h1 : CH) (v1 : CV) (v2 : CV) (v0 : CV) (r154 : Ex) : Bool :=
 xIte x2
  (k (.tup [(.int .i64 (.ofNat 0)), (.int .i64 (.ofNat 0)), x1]) h1)
  (xBin (some (.int .i64)) .eql v1 (.int .i64 (.ofNat 0)) fun x3 =>
  xIte x3
   (k (.tup [(.int .i64 (.ofNat 0)), (.int .i64 (.ofNat 0)), (.int .i64 (.ofNat 0))]) h1)
   (xLen (some (.inl false)) v2 fun x4 =>
   xBin (some (.int .i64)) .eql x4 (.int .i64 (.ofNat 0)) fun x5 =>
   c154_3 x5 k v1 h1 v0 v2 r154))
noncomputable def bd154 (r154 : Ex) (v0 v1 v2 : CV) (h : CH) (k : CV → CH → Bool) : Bool :=
 bd158 v0 v1 h fun x1 h1 =>
 xBin (some (.int .i64)) .neq x1 (.int .i64 (.ofNat 0)) fun x2 =>
 c154_4 x2 k x1 h1 v1 v2 v0 r154
noncomputable def rc154 : Nat → Nat → Ex := fun n => Nat.rec (motive := fun _ => Nat → Ex) (fun _ _ _ _ => false) (fun _ ih j => match j with
  | 0 => fun args h k => a3 args (fun v0 v1 v2 => bd154 (ih 0) v0 v1 v2 h k)
  | _ => fun _ _ _ => false) n
set_option maxRecDepth 100000 in
theorem sr154 : ∀ n, SimF Tryz.prog 154 (rc154 n 0)
  | 0 => fun args h k hk => by cases hk
  | n + 1 => by
    have ih := sr154 n
    have i154 := ih
    · intro args h k hk
      obtain ⟨v0, v1, v2, rfl, hk⟩ := a3_ok hk
      exact sim_of (qf := (fun f => [75, 120, 121, 145, 146, 175, 181, 196, 197, 210, 220, 246].contains f)) (Z := zs) (C := [(154, rc154 n 0), (158, ex158), (68, ex68), (146, ex146)]) (T := []) ⟨zerosB_ok zsOk, (exCons (by kernel_rfl) i154 (exCons (by kernel_rfl) sim158 (exCons (by kernel_rfl) sim68 (exCons (by kernel_rfl) sim146 exNil))))⟩ .nil Tryz.func154 _ h k (Eq.mp (by kernel_rfl : (bd154 (rc154 n 0) v0 v1 v2 h k = true) = (xFn Tryz.prog (fun f => [75, 120, 121, 145, 146, 175, 181, 196, 197, 210, 220, 246].contains f) zs [(154, rc154 n 0), (158, ex158), (68, ex68), (146, ex146)] [] Tryz.f154 .nil [v0, v1, v2] h k = true)) hk)
noncomputable abbrev ex154 : Ex := rc154 1000 0
theorem sim154 : SimF Tryz.prog 154 ex154 := sr154 1000

/- (*undercroft/chart.file).at -/
noncomputable abbrev c103_1 (x4 : CV) (k : CV → CH → Bool) (h2 : CH) (x3 : CV) (x6 : CV) (x5 : CV) : Bool :=
 xExtract x4 2 fun x7 =>
 xBin (some (.int .i64)) .neq x7 (.int .i64 (.ofNat 0)) fun x8 =>
 xIte x8
  (k (.tup [(.int .i64 (.ofNat 0)), (.int .i64 (.ofNat 0)), x7]) h2)
  (xLen (some (.inl false)) x3 fun x9 =>
  xBin (some (.int .i64)) .add x9 (.int .i64 (.ofNat 1)) fun x10 =>
  xBin (some (.int .i64)) .sub x10 x6 fun x11 =>
  k (.tup [x5, x11, (.int .i64 (.ofNat 0))]) h2)
noncomputable def bd103 (v0 v1 : CV) (h : CH) (k : CV → CH → Bool) : Bool :=
 bd106 v0 v1 h fun x1 h1 =>
 xExtract x1 0 fun x2 =>
 xExtract x1 1 fun x3 =>
 ex154 [v0, x2, x3] h1 fun x4 h2 =>
 xExtract x4 0 fun x5 =>
 xExtract x4 1 fun x6 =>
 c103_1 x4 k h2 x3 x6 x5
noncomputable abbrev ex103 : Ex := fun args h k => a2 args fun v0 v1 => bd103 v0 v1 h k
set_option maxRecDepth 100000 in
theorem sim103 : SimF Tryz.prog 103 ex103 := fun args h k hk => by
  obtain ⟨v0, v1, rfl, hk⟩ := a2_ok hk
  exact sim_of (qf := (fun f => [75, 120, 121, 145, 146, 175, 181, 196, 197, 210, 220, 246].contains f)) (Z := zs) (C := [(106, ex106), (154, ex154)]) (T := []) ⟨zerosB_ok zsOk, (exCons (by kernel_rfl) sim106 (exCons (by kernel_rfl) sim154 exNil))⟩ .nil Tryz.func103 _ h k (Eq.mp (by kernel_rfl : (bd103 v0 v1 h k = true) = (xFn Tryz.prog (fun f => [75, 120, 121, 145, 146, 175, 181, 196, 197, 210, 220, 246].contains f) zs [(106, ex106), (154, ex154)] [] Tryz.f103 .nil [v0, v1] h k = true)) hk)

/- undercroft/chart.At -/
noncomputable abbrev c51_1 (k : CV → CH → Bool) (x2 : CV) (v2 : CV) (h1 : CH) : Bool :=
 xJoin (n := 1) (fun s4 h2 =>
  xIte s4.1
   (k (.tup [(.int .i64 (.ofNat 0)), (.int .i64 (.ofNat 2))]) h2)
   (bd103 x2 v2 h2 fun x6 h3 =>
   xExtract x6 0 fun x7 =>
   xExtract x6 1 fun x8 =>
   xExtract x6 2 fun x9 =>
   k (.tup [x7, x9]) h3))
 (fun K9 => xBin (some (.int .i64)) .lss v2 (.int .i64 (.ofNat 0)) fun x11 =>
 xIte x11
  (K9 ((.bool true), ()) h1)
  (xBin (some (.int .i64)) .geq v2 (.int .i64 (.ofNat 65802)) fun x12 =>
  K9 (x12, ()) h1))
noncomputable def bd51 (v0 v1 v2 : CV) (h : CH) (k : CV → CH → Bool) : Bool :=
 bd102 v0 v1 (.bool false) h fun x1 h1 =>
 xExtract x1 0 fun x2 =>
 xExtract x1 1 fun x3 =>
 xBin (some (.int .i64)) .neq x3 (.int .i64 (.ofNat 0)) fun x4 =>
 xIte x4
  (k (.tup [(.int .i64 (.ofNat 0)), x3]) h1)
  (c51_1 k x2 v2 h1)
noncomputable abbrev ex51 : Ex := fun args h k => a3 args fun v0 v1 v2 => bd51 v0 v1 v2 h k
set_option maxRecDepth 100000 in
theorem sim51 : SimF Tryz.prog 51 ex51 := fun args h k hk => by
  obtain ⟨v0, v1, v2, rfl, hk⟩ := a3_ok hk
  exact sim_of (qf := (fun f => [75, 120, 121, 145, 146, 175, 181, 196, 197, 210, 220, 246].contains f)) (Z := zs) (C := [(102, ex102), (103, ex103)]) (T := []) ⟨zerosB_ok zsOk, (exCons (by kernel_rfl) sim102 (exCons (by kernel_rfl) sim103 exNil))⟩ (.seq .nil (.seq .nil (.seq .nil (.seq (.join [26] [21, 22, 23, 24, 25] .nil .nil) .nil)))) Tryz.func51 _ h k (Eq.mp (by kernel_rfl : (bd51 v0 v1 v2 h k = true) = (xFn Tryz.prog (fun f => [75, 120, 121, 145, 146, 175, 181, 196, 197, 210, 220, 246].contains f) zs [(102, ex102), (103, ex103)] [] Tryz.f51 (.seq .nil (.seq .nil (.seq .nil (.seq (.join [26] [21, 22, 23, 24, 25] .nil .nil) .nil)))) [v0, v1, v2] h k = true)) hk)

/- undercroft/trim.Size -/
noncomputable abbrev c43_1 (v0 : CV) (k : CV → CH → Bool) (s18 : TupC 1) (v2 : CV) (x4 : CV) (h8 : CH) (v1 : CV) : Bool :=
 xJoin (n := 1) (fun s19 h9 =>
  bd26 v0 h9 fun x21 h10 =>
  xBin (some (.int .i64)) .eql s19.1 (.int .i64 (.ofNat 0)) fun x22 =>
  xIte x22
   (k x21 h10)
   (k s19.1 h10))
 (fun K22 => xBin (some (.int .i64)) .eql s18.1 (.int .i64 (.ofNat 0)) fun x24 =>
 xIte x24
  (xConv (some (.int .i64)) (some (.int .u32)) v2 fun x25 =>
  xAddr (some 2) x4 fun x26 =>
  xStore (some 1) x26 x25 h8 fun h11 =>
  xLoad (some (some 16)) x4 h11 fun x27 =>
  bd30 v0 v1 x27 h11 fun x28 h12 =>
  K22 (x28, ()) h12)
  (K22 (s18.1, ()) h8))
noncomputable abbrev c43_2 (x33 : CV) (v2 : CV) (x34 : CV) (h15 : CH) (v0 : CV) (s15 : TupC 1) (K28 : TupC 1 → CH → Bool) : Bool :=
 xBin (some (.int .i64)) .eql x33 (.int .i64 (.ofNat 0)) fun x35 =>
 xIte x35
  (xBin (some (.int .i64)) .rem v2 (.int .i64 (.ofNat 1024)) fun x36 =>
  xSlice (some (some 1024, 1)) x34 (some x36) none none fun x37 =>
  xClr (some (5, 1, 1, true)) (some [(.bytes 1 0)]) x37 h15 fun h16 =>
  xLoad (some (some 1024)) x34 h16 fun x38 =>
  bd76 v0 s15.1 x38 h16 fun x39 h17 =>
  K28 (x39, ()) h17)
  (K28 (x33, ()) h15)
noncomputable abbrev c43_3 (v0 : CV) (k : CV → CH → Bool) (v2 : CV) (x4 : CV) (v1 : CV) (s15 : TupC 1) (h7 : CH) (x17 : CV) : Bool :=
 xJoin (n := 1) (fun s18 h8 =>
  c43_1 v0 k s18 v2 x4 h8 v1)
 (fun K28 => xBin (some (.int .i64)) .neq s15.1 (.int .i64 (.ofNat 0)) fun x30 =>
 xIte x30
  (bd68 v0 s15.1 h7 fun x31 h13 =>
  xExtract x31 0 fun x32 =>
  xExtract x31 1 fun x33 =>
  xBoxP 39 [(.bytes 1024 0)] h13 fun x34 h14 =>
  xStore (some 1024) x34 x32 h14 fun h15 =>
  c43_2 x33 v2 x34 h15 v0 s15 K28)
  (K28 (x17, ()) h7))
noncomputable abbrev c43_4 (x4 : CV) (h5 : CH) (v2 : CV) (K46 : TupC 1 → CH → Bool) : Bool :=
 xAddr (some 2) x4 fun x48 =>
 xLoad (some none) x48 h5 fun x49 =>
 xConv (some (.int .u32)) (some (.int .i64)) x49 fun x50 =>
 xBin (some (.int .i64)) .gtr x50 v2 fun x51 =>
 xIte x51
  (xBin (some (.int .i64)) .rem v2 (.int .i64 (.ofNat 1024)) fun x52 =>
  xBin (some (.int .i64)) .neq x52 (.int .i64 (.ofNat 0)) fun x53 =>
  K46 (x53, ()) h5)
  (K46 ((.bool false), ()) h5)
noncomputable abbrev c43_5 (v2 : CV) (v0 : CV) (v1 : CV) (k : CV → CH → Bool) (K39 : TupC 1 → CH → Bool) (x4 : CV) (h5 : CH) : Bool :=
 xJoin (n := 1) (fun s40 h18 =>
  xIte s40.1
   (xBin (some (.int .i64)) .quo v2 (.int .i64 (.ofNat 1024)) fun x42 =>
   bd51 v0 v1 x42 h18 fun x43 h19 =>
   xExtract x43 0 fun x44 =>
   xExtract x43 1 fun x45 =>
   xBin (some (.int .i64)) .neq x45 (.int .i64 (.ofNat 0)) fun x46 =>
   xIte x46
    (k x45 h19)
    (K39 (x44, ()) h19))
   (K39 ((.int .i64 (.ofNat 0)), ()) h18))
 (fun K46 => c43_4 x4 h5 v2 K46)
noncomputable abbrev c43_6 (x12 : CV) (k : CV → CH → Bool) (h5 : CH) (v0 : CV) (v2 : CV) (x4 : CV) (v1 : CV) : Bool :=
 xBin (some (.int .i64)) .geq x12 (.int .i64 (.ofNat 0)) fun x15 =>
 xIte x15
  (k (.int .i64 (.ofNat 4)) h5)
  (xJoin (n := 1) (fun s15 h6 =>
   bd23 v0 (.int .i64 (.ofNat 2)) h6 fun x17 h7 =>
   xBin (some (.int .i64)) .neq x17 (.int .i64 (.ofNat 0)) fun x18 =>
   xIte x18
    (k x17 h7)
    (c43_3 v0 k v2 x4 v1 s15 h7 x17))
  (fun K39 => c43_5 v2 v0 v1 k K39 x4 h5))
noncomputable abbrev c43_7 (x8 : CV) (k : CV → CH → Bool) (h3 : CH) (v2 : CV) (v0 : CV) (v1 : CV) (x4 : CV) : Bool :=
 xIte x8
  (k (.int .i64 (.ofNat 8)) h3)
  (xBin (some (.int .i64)) .gtr v2 (.int .i64 (.ofNat 67381248)) fun x9 =>
  xIte x9
   (k (.int .i64 (.ofNat 17)) h3)
   (bd96 v2 h3 fun x10 h4 =>
   bd97 v0 v1 x10 h4 fun x11 h5 =>
   xExtract x11 0 fun x12 =>
   xExtract x11 1 fun x13 =>
   xBin (some (.int .i64)) .neq x13 (.int .i64 (.ofNat 0)) fun x14 =>
   xIte x14
    (k x13 h5)
    (c43_6 x12 k h5 v0 v2 x4 v1)))
noncomputable abbrev c43_8 (h1 : CH) (x2 : CV) (x3 : CV) (k : CV → CH → Bool) (v2 : CV) (v0 : CV) (v1 : CV) : Bool :=
 xBoxP 68 [(.int .u16 (.ofNat 0)), (.int .u16 (.ofNat 0)), (.int .u32 (.ofNat 0)), (.int .u32 (.ofNat 0)), (.int .u32 (.ofNat 0)), (.int .u32 (.ofNat 0)), (.int .u32 (.ofNat 0)), (.int .u32 (.ofNat 0)), (.int .u32 (.ofNat 0)), (.int .u32 (.ofNat 0)), (.int .u32 (.ofNat 0)), (.int .u32 (.ofNat 0)), (.int .u32 (.ofNat 0)), (.int .u32 (.ofNat 0)), (.int .u32 (.ofNat 0)), (.int .u32 (.ofNat 0))] h1 fun x4 h2 =>
 xStore (some 16) x4 x2 h2 fun h3 =>
 xBin (some (.int .i64)) .neq x3 (.int .i64 (.ofNat 0)) fun x5 =>
 xIte x5
  (k x3 h3)
  (xAddr (some 0) x4 fun x6 =>
  xLoad (some none) x6 h3 fun x7 =>
  xBin (some (.int .u16)) .eql x7 (.int .u16 (.ofNat 2)) fun x8 =>
  c43_7 x8 k h3 v2 v0 v1 x4)
noncomputable def bd43 (v0 v1 v2 : CV) (h : CH) (k : CV → CH → Bool) : Bool :=
 bd95 v0 v1 v2 h fun x1 h1 =>
 xExtract x1 0 fun x2 =>
 xExtract x1 1 fun x3 =>
 c43_8 h1 x2 x3 k v2 v0 v1
noncomputable abbrev ex43 : Ex := fun args h k => a3 args fun v0 v1 v2 => bd43 v0 v1 v2 h k
set_option maxRecDepth 100000 in
theorem sim43 : SimF Tryz.prog 43 ex43 := fun args h k hk => by
  obtain ⟨v0, v1, v2, rfl, hk⟩ := a3_ok hk
  exact sim_of (qf := (fun f => [75, 120, 121, 145, 146, 175, 181, 196, 197, 210, 220, 246].contains f)) (Z := zs) (C := [(95, ex95), (96, ex96), (97, ex97), (23, ex23), (26, ex26), (30, ex30), (68, ex68), (76, ex76), (51, ex51)]) (T := []) ⟨zerosB_ok zsOk, (exCons (by kernel_rfl) sim95 (exCons (by kernel_rfl) sim96 (exCons (by kernel_rfl) sim97 (exCons (by kernel_rfl) sim23 (exCons (by kernel_rfl) sim26 (exCons (by kernel_rfl) sim30 (exCons (by kernel_rfl) sim68 (exCons (by kernel_rfl) sim76 (exCons (by kernel_rfl) sim51 exNil)))))))))⟩ (.seq .nil (.seq .nil (.seq .nil (.seq .nil (.seq .nil (.seq .nil (.seq .nil (.join [10] [45, 46, 47, 48, 49, 50, 51, 52, 53, 54, 56, 57, 58, 59, 60, 55, 61, 62, 8, 63, 64, 65, 6] (.join [54] [45, 46, 47, 48, 49, 50, 51, 52, 53] .nil .nil) (.seq .nil (.join [8] [71, 72, 74, 75, 76, 73, 77, 78, 11, 12, 79, 80, 81, 82, 83, 84, 85, 86, 87, 88] .nil (.join [8] [89, 90, 91, 92, 93, 94, 95, 96, 97] .nil .nil))))))))))) Tryz.func43 _ h k (Eq.mp (by kernel_rfl : (bd43 v0 v1 v2 h k = true) = (xFn Tryz.prog (fun f => [75, 120, 121, 145, 146, 175, 181, 196, 197, 210, 220, 246].contains f) zs [(95, ex95), (96, ex96), (97, ex97), (23, ex23), (26, ex26), (30, ex30), (68, ex68), (76, ex76), (51, ex51)] [] Tryz.f43 (.seq .nil (.seq .nil (.seq .nil (.seq .nil (.seq .nil (.seq .nil (.seq .nil (.join [10] [45, 46, 47, 48, 49, 50, 51, 52, 53, 54, 56, 57, 58, 59, 60, 55, 61, 62, 8, 63, 64, 65, 6] (.join [54] [45, 46, 47, 48, 49, 50, 51, 52, 53] .nil .nil) (.seq .nil (.join [8] [71, 72, 74, 75, 76, 73, 77, 78, 11, 12, 79, 80, 81, 82, 83, 84, 85, 86, 87, 88] .nil (.join [8] [89, 90, 91, 92, 93, 94, 95, 96, 97] .nil .nil))))))))))) [v0, v1, v2] h k = true)) hk)

/- (*undercroft/wal.Log).Steps -/
noncomputable def bd45 (v0 : CV) (h : CH) (k : CV → CH → Bool) : Bool :=
 bd78 v0 h fun x1 h1 =>
 xBin (some (.int .i64)) .neq x1 (.int .i64 (.ofNat 0)) fun x2 =>
 xIte x2
  (k (.int .i64 (.ofNat 0)) h1)
  (xNilCheck v0 fun x3 =>
  xAddr (some 18) x3 fun x4 =>
  xLoad (some none) x4 h1 fun x5 =>
  k x5 h1)
noncomputable abbrev ex45 : Ex := fun args h k => a1 args fun v0 => bd45 v0 h k
set_option maxRecDepth 100000 in
theorem sim45 : SimF Tryz.prog 45 ex45 := fun args h k hk => by
  obtain ⟨v0, rfl, hk⟩ := a1_ok hk
  exact sim_of (qf := (fun f => [75, 120, 121, 145, 146, 175, 181, 196, 197, 210, 220, 246].contains f)) (Z := zs) (C := [(78, ex78)]) (T := []) ⟨zerosB_ok zsOk, (exCons (by kernel_rfl) sim78 exNil)⟩ .nil Tryz.func45 _ h k (Eq.mp (by kernel_rfl : (bd45 v0 h k = true) = (xFn Tryz.prog (fun f => [75, 120, 121, 145, 146, 175, 181, 196, 197, 210, 220, 246].contains f) zs [(78, ex78)] [] Tryz.f45 .nil [v0] h k = true)) hk)

/- undercroft/trim.Cut -/
noncomputable abbrev c42_1 (k : CV → CH → Bool) (x22 : CV) (v0 : CV) (v1 : CV) (v2 : CV) (h7 : CH) (x4 : CV) : Bool :=
 xJoin (n := 1) (fun s22 h8 =>
  xIte s22.1
   (k x22 h8)
   (bd43 v0 v1 v2 h8 fun x24 h9 =>
   k x24 h9))
 (fun K24 => xBin (some (.int .i64)) .neq x22 (.int .i64 (.ofNat 0)) fun x26 =>
 xIte x26
  (K24 ((.bool true), ()) h7)
  (xAddr (some 2) x4 fun x27 =>
  xLoad (some none) x27 h7 fun x28 =>
  xConv (some (.int .u32)) (some (.int .i64)) x28 fun x29 =>
  xBin (some (.int .i64)) .leq x29 v2 fun x30 =>
  K24 (x30, ()) h7))
noncomputable abbrev c42_2 (v0 : CV) (v1 : CV) (v2 : CV) (h4 : CH) (k : CV → CH → Bool) (x4 : CV) (K13 : TupC 0 → CH → Bool) : Bool :=
 bd41 v0 v1 v2 h4 fun x15 h5 =>
 xExtract x15 0 fun x16 =>
 xExtract x15 1 fun x17 =>
 xBin (some (.int .i64)) .neq x17 (.int .i64 (.ofNat 0)) fun x18 =>
 xIte x18
  (k x17 h5)
  (xUn .not x16 fun x19 =>
  xIte x19
   (bd28 v0 v1 h5 fun x20 h6 =>
   xExtract x20 0 fun x21 =>
   xExtract x20 1 fun x22 =>
   xStore (some 16) x4 x21 h6 fun h7 =>
   c42_1 k x22 v0 v1 v2 h7 x4)
   (K13 (()) h5))
noncomputable abbrev c42_3 (x7 : CV) (k : CV → CH → Bool) (h3 : CH) (x4 : CV) (v2 : CV) (v0 : CV) (v1 : CV) : Bool :=
 xBin (some (.int .u16)) .eql x7 (.int .u16 (.ofNat 2)) fun x8 =>
 xIte x8
  (k (.int .i64 (.ofNat 8)) h3)
  (xAddr (some 2) x4 fun x9 =>
  xLoad (some none) x9 h3 fun x10 =>
  xConv (some (.int .u32)) (some (.int .i64)) x10 fun x11 =>
  xBin (some (.int .i64)) .leq x11 v2 fun x12 =>
  xIte x12
   (k (.int .i64 (.ofNat 0)) h3)
   (xLoop (n := 0) (fun K13 s12 h4 =>
    c42_2 v0 v1 v2 h4 k x4 K13) 1000000 () h3))
noncomputable abbrev c42_4 (h1 : CH) (x2 : CV) (x3 : CV) (k : CV → CH → Bool) (v2 : CV) (v0 : CV) (v1 : CV) : Bool :=
 xBoxP 68 [(.int .u16 (.ofNat 0)), (.int .u16 (.ofNat 0)), (.int .u32 (.ofNat 0)), (.int .u32 (.ofNat 0)), (.int .u32 (.ofNat 0)), (.int .u32 (.ofNat 0)), (.int .u32 (.ofNat 0)), (.int .u32 (.ofNat 0)), (.int .u32 (.ofNat 0)), (.int .u32 (.ofNat 0)), (.int .u32 (.ofNat 0)), (.int .u32 (.ofNat 0)), (.int .u32 (.ofNat 0)), (.int .u32 (.ofNat 0)), (.int .u32 (.ofNat 0)), (.int .u32 (.ofNat 0))] h1 fun x4 h2 =>
 xStore (some 16) x4 x2 h2 fun h3 =>
 xBin (some (.int .i64)) .neq x3 (.int .i64 (.ofNat 0)) fun x5 =>
 xIte x5
  (k x3 h3)
  (xAddr (some 0) x4 fun x6 =>
  xLoad (some none) x6 h3 fun x7 =>
  c42_3 x7 k h3 x4 v2 v0 v1)
noncomputable def bd42 (v0 v1 v2 : CV) (h : CH) (k : CV → CH → Bool) : Bool :=
 bd95 v0 v1 v2 h fun x1 h1 =>
 xExtract x1 0 fun x2 =>
 xExtract x1 1 fun x3 =>
 c42_4 h1 x2 x3 k v2 v0 v1
noncomputable abbrev ex42 : Ex := fun args h k => a3 args fun v0 v1 v2 => bd42 v0 v1 v2 h k
set_option maxRecDepth 100000 in
theorem sim42 : SimF Tryz.prog 42 ex42 := fun args h k hk => by
  obtain ⟨v0, v1, v2, rfl, hk⟩ := a3_ok hk
  exact sim_of (qf := (fun f => [75, 120, 121, 145, 146, 175, 181, 196, 197, 210, 220, 246].contains f)) (Z := zs) (C := [(95, ex95), (41, ex41), (28, ex28), (43, ex43)]) (T := []) ⟨zerosB_ok zsOk, (exCons (by kernel_rfl) sim95 (exCons (by kernel_rfl) sim41 (exCons (by kernel_rfl) sim28 (exCons (by kernel_rfl) sim43 exNil))))⟩ (.seq .nil (.seq .nil (.seq .nil (.seq .nil (.seq .nil (.seq .nil (.seq (.loop [] [30, 31, 32, 33, 29, 34, 35, 9, 10, 37, 38, 36, 39, 6, 41, 42, 40] .nil) (.seq .nil (.seq (.join [57] [49, 50, 51, 52, 53, 54, 55, 56] .nil .nil) .nil))))))))) Tryz.func42 _ h k (Eq.mp (by kernel_rfl : (bd42 v0 v1 v2 h k = true) = (xFn Tryz.prog (fun f => [75, 120, 121, 145, 146, 175, 181, 196, 197, 210, 220, 246].contains f) zs [(95, ex95), (41, ex41), (28, ex28), (43, ex43)] [] Tryz.f42 (.seq .nil (.seq .nil (.seq .nil (.seq .nil (.seq .nil (.seq .nil (.seq (.loop [] [30, 31, 32, 33, 29, 34, 35, 9, 10, 37, 38, 36, 39, 6, 41, 42, 40] .nil) (.seq .nil (.seq (.join [57] [49, 50, 51, 52, 53, 54, 55, 56] .nil .nil) .nil))))))))) [v0, v1, v2] h k = true)) hk)

/- undercroft/fetch.Read -/
noncomputable abbrev c18_1 (x27 : CV) (v2 : CV) (x20 : CV) (x39 : CV) (s20 : TupC 1) (x37 : CV) (h10 : CH) (K21 : TupC 1 → CH → Bool) : Bool :=
 xBin (some (.int .i64)) .sub x27 v2 fun x40 =>
 xBin (some (.int .i64)) .sub x27 v2 fun x41 =>
 xSlice (some (none, 1)) x20 (some x39) (some x40) (some x41) fun x42 =>
 xBin (some (.int .i64)) .rem s20.1 (.int .i64 (.ofNat 1024)) fun x43 =>
 xSlice (some (some 1024, 1)) x37 (some x43) none none fun x44 =>
 xCopy (some (5, 1, 1, true)) x42 x44 h10 fun x45 h11 =>
 K21 (x27, ()) h11
noncomputable abbrev c18_2 (v0 : CV) (x30 : CV) (h7 : CH) (k : CV → CH → Bool) (s20 : TupC 1) (v2 : CV) (x27 : CV) (x20 : CV) (K21 : TupC 1 → CH → Bool) : Bool :=
 bd68 v0 x30 h7 fun x34 h8 =>
 xExtract x34 0 fun x35 =>
 xExtract x34 1 fun x36 =>
 xBoxP 39 [(.bytes 1024 0)] h8 fun x37 h9 =>
 xStore (some 1024) x37 x35 h9 fun h10 =>
 xBin (some (.int .i64)) .neq x36 (.int .i64 (.ofNat 0)) fun x38 =>
 xIte x38
  (k (.tup [.nils, x36]) h10)
  (xBin (some (.int .i64)) .sub s20.1 v2 fun x39 =>
  c18_1 x27 v2 x20 x39 s20 x37 h10 K21)
noncomputable abbrev c18_3 (s20 : TupC 1) (v0 : CV) (v1 : CV) (h6 : CH) (k : CV → CH → Bool) (v2 : CV) (x27 : CV) (x20 : CV) (K21 : TupC 1 → CH → Bool) : Bool :=
 xBin (some (.int .i64)) .quo s20.1 (.int .i64 (.ofNat 1024)) fun x28 =>
 bd51 v0 v1 x28 h6 fun x29 h7 =>
 xExtract x29 0 fun x30 =>
 xExtract x29 1 fun x31 =>
 xBin (some (.int .i64)) .neq x31 (.int .i64 (.ofNat 0)) fun x32 =>
 xIte x32
  (k (.tup [.nils, x31]) h7)
  (xBin (some (.int .i64)) .neq x30 (.int .i64 (.ofNat 0)) fun x33 =>
  xIte x33
   (c18_2 v0 x30 h7 k s20 v2 x27 x20 K21)
   (K21 (x27, ()) h7))
noncomputable abbrev c18_4 (s20 : TupC 1) (x18 : CV) (v0 : CV) (v1 : CV) (h6 : CH) (k : CV → CH → Bool) (v2 : CV) (x20 : CV) (K21 : TupC 1 → CH → Bool) : Bool :=
 xBin (some (.int .i64)) .lss s20.1 x18 fun x23 =>
 xIte x23
  (xBin (some (.int .i64)) .quo s20.1 (.int .i64 (.ofNat 1024)) fun x24 =>
  xBin (some (.int .i64)) .add x24 (.int .i64 (.ofNat 1)) fun x25 =>
  xBin (some (.int .i64)) .mul x25 (.int .i64 (.ofNat 1024)) fun x26 =>
  xMin x18 x26 fun x27 =>
  c18_3 s20 v0 v1 h6 k v2 x27 x20 K21)
  (k (.tup [x20, (.int .i64 (.ofNat 0))]) h6)
noncomputable abbrev c18_5 (x4 : CV) (h4 : CH) (x14 : CV) (v2 : CV) (v0 : CV) (v1 : CV) (k : CV → CH → Bool) : Bool :=
 xAddr (some 2) x4 fun x15 =>
 xLoad (some none) x15 h4 fun x16 =>
 xConv (some (.int .u32)) (some (.int .i64)) x16 fun x17 =>
 xMin x14 x17 fun x18 =>
 xBin (some (.int .i64)) .sub x18 v2 fun x19 =>
 xMake (some (5, 1, 1, true)) (some [(.bytes 1 0)]) x19 x19 h4 fun x20 h5 =>
 xLoop (n := 1) (fun K21 s20 h6 =>
  c18_4 s20 x18 v0 v1 h6 k v2 x20 K21) 1000000 (v2, ()) h5
noncomputable abbrev c18_6 (x9 : CV) (k : CV → CH → Bool) (h4 : CH) (x4 : CV) (v2 : CV) (v3 : CV) (v0 : CV) (v1 : CV) : Bool :=
 xIte x9
  (k (.tup [.nils, (.int .i64 (.ofNat 4))]) h4)
  (xAddr (some 2) x4 fun x10 =>
  xLoad (some none) x10 h4 fun x11 =>
  xConv (some (.int .u32)) (some (.int .i64)) x11 fun x12 =>
  xBin (some (.int .i64)) .geq v2 x12 fun x13 =>
  xIte x13
   (k (.tup [.nils, (.int .i64 (.ofNat 0))]) h4)
   (xBin (some (.int .i64)) .add v2 v3 fun x14 =>
   c18_5 x4 h4 x14 v2 v0 v1 k))
noncomputable abbrev c18_7 (k : CV → CH → Bool) (x4 : CV) (v2 : CV) (v3 : CV) (v0 : CV) (v1 : CV) (h3 : CH) : Bool :=
 xJoin (n := 1) (fun s5 h4 =>
  xIte s5.1
   (k (.tup [.nils, (.int .i64 (.ofNat 2))]) h4)
   (xAddr (some 0) x4 fun x7 =>
   xLoad (some none) x7 h4 fun x8 =>
   xBin (some (.int .u16)) .eql x8 (.int .u16 (.ofNat 0)) fun x9 =>
   c18_6 x9 k h4 x4 v2 v3 v0 v1))
 (fun K45 => xBin (some (.int .i64)) .lss v2 (.int .i64 (.ofNat 0)) fun x47 =>
 xIte x47
  (K45 ((.bool true), ()) h3)
  (xBin (some (.int .i64)) .lss v3 (.int .i64 (.ofNat 0)) fun x48 =>
  xIte x48
   (K45 ((.bool true), ()) h3)
   (xBin (some (.int .i64)) .gtr v3 (.int .i64 (.ofNat 65536)) fun x49 =>
   K45 (x49, ()) h3)))
noncomputable abbrev c18_8 (h1 : CH) (x2 : CV) (x3 : CV) (k : CV → CH → Bool) (v2 : CV) (v3 : CV) (v0 : CV) (v1 : CV) : Bool :=
 xBoxP 68 [(.int .u16 (.ofNat 0)), (.int .u16 (.ofNat 0)), (.int .u32 (.ofNat 0)), (.int .u32 (.ofNat 0)), (.int .u32 (.ofNat 0)), (.int .u32 (.ofNat 0)), (.int .u32 (.ofNat 0)), (.int .u32 (.ofNat 0)), (.int .u32 (.ofNat 0)), (.int .u32 (.ofNat 0)), (.int .u32 (.ofNat 0)), (.int .u32 (.ofNat 0)), (.int .u32 (.ofNat 0)), (.int .u32 (.ofNat 0)), (.int .u32 (.ofNat 0)), (.int .u32 (.ofNat 0))] h1 fun x4 h2 =>
 xStore (some 16) x4 x2 h2 fun h3 =>
 xBin (some (.int .i64)) .neq x3 (.int .i64 (.ofNat 0)) fun x5 =>
 xIte x5
  (k (.tup [.nils, x3]) h3)
  (c18_7 k x4 v2 v3 v0 v1 h3)
noncomputable def bd18 (v0 v1 v2 v3 : CV) (h : CH) (k : CV → CH → Bool) : Bool :=
 bd28 v0 v1 h fun x1 h1 =>
 xExtract x1 0 fun x2 =>
 xExtract x1 1 fun x3 =>
 c18_8 h1 x2 x3 k v2 v3 v0 v1
noncomputable abbrev ex18 : Ex := fun args h k => a4 args fun v0 v1 v2 v3 => bd18 v0 v1 v2 v3 h k
set_option maxRecDepth 100000 in
theorem sim18 : SimF Tryz.prog 18 ex18 := fun args h k hk => by
  obtain ⟨v0, v1, v2, v3, rfl, hk⟩ := a4_ok hk
  exact sim_of (qf := (fun f => [75, 120, 121, 145, 146, 175, 181, 196, 197, 210, 220, 246].contains f)) (Z := zs) (C := [(28, ex28), (51, ex51), (68, ex68)]) (T := []) ⟨zerosB_ok zsOk, (exCons (by kernel_rfl) sim28 (exCons (by kernel_rfl) sim51 (exCons (by kernel_rfl) sim68 exNil)))⟩ (.seq .nil (.seq .nil (.seq (.seq .nil (.cond .nil (.join [30] [31, 32, 33, 34, 35, 36, 37, 38, 39, 40] .nil .nil))) (.seq .nil (.seq .nil (.seq .nil (.seq (.seq .nil (.loop [14] [62, 63, 64, 65, 66, 67, 68, 69, 70, 15, 72, 73, 74, 75, 76, 71, 77, 78, 16, 17, 79, 80, 81, 8, 9, 82, 83, 85, 86, 87, 84, 88, 89, 18, 19, 90, 91, 92, 93, 94, 95, 96, 97, 98, 99, 100, 101, 102, 103, 104, 105, 106, 107, 108] .nil)) .nil))))))) Tryz.func18 _ h k (Eq.mp (by kernel_rfl : (bd18 v0 v1 v2 v3 h k = true) = (xFn Tryz.prog (fun f => [75, 120, 121, 145, 146, 175, 181, 196, 197, 210, 220, 246].contains f) zs [(28, ex28), (51, ex51), (68, ex68)] [] Tryz.f18 (.seq .nil (.seq .nil (.seq (.seq .nil (.cond .nil (.join [30] [31, 32, 33, 34, 35, 36, 37, 38, 39, 40] .nil .nil))) (.seq .nil (.seq .nil (.seq .nil (.seq (.seq .nil (.loop [14] [62, 63, 64, 65, 66, 67, 68, 69, 70, 15, 72, 73, 74, 75, 76, 71, 77, 78, 16, 17, 79, 80, 81, 8, 9, 82, 83, 85, 86, 87, 84, 88, 89, 18, 19, 90, 91, 92, 93, 94, 95, 96, 97, 98, 99, 100, 101, 102, 103, 104, 105, 106, 107, 108] .nil)) .nil))))))) [v0, v1, v2, v3] h k = true)) hk)

/- undercroft/undercroftkit.SameBytes -/
noncomputable abbrev c19_1 (x7 : CV) (v0 : CV) (s3 : TupC 1) (h1 : CH) (v1 : CV) (k : CV → CH → Bool) (K4 : TupC 1 → CH → Bool) : Bool :=
 xIte x7
  (xIdx (some (none, 1)) v0 s3.1 fun x8 =>
  xLoad (some none) x8 h1 fun x9 =>
  xIdx (some (none, 1)) v1 s3.1 fun x10 =>
  xLoad (some none) x10 h1 fun x11 =>
  xBin (some (.int .u8)) .neq x9 x11 fun x12 =>
  xIte x12
   (k (.bool false) h1)
   (xBin (some (.int .i64)) .add s3.1 (.int .i64 (.ofNat 1)) fun x13 =>
   K4 (x13, ()) h1))
  (k (.bool true) h1)
noncomputable def bd19 (v0 v1 : CV) (h : CH) (k : CV → CH → Bool) : Bool :=
 xLen (some (.inl false)) v0 fun x1 =>
 xLen (some (.inl false)) v1 fun x2 =>
 xBin (some (.int .i64)) .neq x1 x2 fun x3 =>
 xIte x3
  (k (.bool false) h)
  (xLoop (n := 1) (fun K4 s3 h1 =>
   xLen (some (.inl false)) v0 fun x6 =>
   xBin (some (.int .i64)) .lss s3.1 x6 fun x7 =>
   c19_1 x7 v0 s3 h1 v1 k K4) 1000000 ((.int .i64 (.ofNat 0)), ()) h)
noncomputable abbrev ex19 : Ex := fun args h k => a2 args fun v0 v1 => bd19 v0 v1 h k
set_option maxRecDepth 100000 in
theorem sim19 : SimF Tryz.prog 19 ex19 := fun args h k hk => by
  obtain ⟨v0, v1, rfl, hk⟩ := a2_ok hk
  exact sim_of (qf := (fun f => [75, 120, 121, 145, 146, 175, 181, 196, 197, 210, 220, 246].contains f)) (Z := zs) (C := []) (T := []) ⟨zerosB_ok zsOk, exNil⟩ (.seq .nil (.seq .nil (.seq (.seq .nil (.loop [5] [11, 12, 13, 14, 17, 18, 19, 20, 21, 22, 23, 24, 25, 4, 15, 16] .nil)) .nil))) Tryz.func19 _ h k (Eq.mp (by kernel_rfl : (bd19 v0 v1 h k = true) = (xFn Tryz.prog (fun f => [75, 120, 121, 145, 146, 175, 181, 196, 197, 210, 220, 246].contains f) zs [] [] Tryz.f19 (.seq .nil (.seq .nil (.seq (.seq .nil (.loop [5] [11, 12, 13, 14, 17, 18, 19, 20, 21, 22, 23, 24, 25, 4, 15, 16] .nil)) .nil))) [v0, v1] h k = true)) hk)
end Go.Proofs
