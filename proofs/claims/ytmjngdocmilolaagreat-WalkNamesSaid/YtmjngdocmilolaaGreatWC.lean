/- Functions, run; each tied to the program. -/
import Derived.Test.YtmjngdocmilolaaGreatWB
set_option linter.unusedVariables false
set_option linter.unusedSimpArgs false
namespace Go.Proofs
open Go.Vc Go.Xc

/- undercroft/slab.span -/
noncomputable abbrev c190_1 (x3 : CV) (v0 : CV) (v1 : CV) (x2 : CV) (k : CV → CH → Bool) (h1 : CH) : Bool :=
 xIte x3
  (xBin (some (.int .i64)) .add v0 v1 fun x4 =>
  xMin (.int .i64 (.ofNat 1024)) x4 fun x5 =>
  xMax x2 x5 fun x6 =>
  k (.tup [x2, x6]) h1)
  (xBin (some (.int .i64)) .sub (.int .i64 (.ofNat 1024)) v0 fun x7 =>
  xBin (some (.int .i64)) .lss v1 x7 fun x8 =>
  xIte x8
   (xBin (some (.int .i64)) .add v0 v1 fun x9 =>
   xMax x2 x9 fun x10 =>
   k (.tup [x2, x10]) h1)
   (xMax x2 (.int .i64 (.ofNat 1024)) fun x11 =>
   k (.tup [x2, x11]) h1))
noncomputable abbrev c190_2 (v0 : CV) (K11 : TupC 1 → CH → Bool) (h : CH) (v1 : CV) : Bool :=
 xBin (some (.int .i64)) .geq v0 (.int .i64 (.ofNat 1024)) fun x14 =>
 xIte x14
  (K11 ((.bool true), ()) h)
  (xBin (some (.int .i64)) .lss v0 (.int .i64 (.ofNat 0)) fun x15 =>
  xIte x15
   (xBin (some (.int .i64)) .add v0 (.int .i64 (.ofNat 1)) fun x16 =>
   xUn .neg x16 fun x17 =>
   xBin (some (.int .i64)) .leq v1 x17 fun x18 =>
   K11 (x18, ()) h)
   (K11 ((.bool false), ()) h))
noncomputable def bd190 (v0 v1 : CV) (h : CH) (k : CV → CH → Bool) : Bool :=
 xJoin (n := 1) (fun s0 h1 =>
  xIte s0.1
   (k (.tup [(.int .i64 (.ofNat 0)), (.int .i64 (.ofNat 0))]) h1)
   (xMax v0 (.int .i64 (.ofNat 0)) fun x2 =>
   xBin (some (.int .i64)) .lss v0 (.int .i64 (.ofNat 0)) fun x3 =>
   c190_1 x3 v0 v1 x2 k h1))
 (fun K11 => xBin (some (.int .i64)) .lss v1 (.int .i64 (.ofNat 1)) fun x13 =>
 xIte x13
  (K11 ((.bool true), ()) h)
  (c190_2 v0 K11 h v1))
noncomputable abbrev ex190 : Ex := fun args h k => a2 args fun v0 v1 => bd190 v0 v1 h k
set_option maxRecDepth 100000 in
theorem sim190 : SimF Tryz.prog 190 ex190 := fun args h k hk => by
  obtain ⟨v0, v1, rfl, hk⟩ := a2_ok hk
  exact sim_of (qf := (fun f => [75, 120, 121, 140, 144, 145, 146, 147, 148, 175, 181, 196, 197, 210, 220, 246].contains f)) (Z := zs) (C := []) (T := []) ⟨zerosB_ok zsOk, exNil⟩ (.seq .nil (.seq (.join [24] [8, 9, 10, 11, 12, 13, 14, 15, 16, 17, 18, 19, 20, 21, 22, 23] .nil .nil) .nil)) Tryz.func190 _ h k (Eq.mp (by kernel_rfl : (bd190 v0 v1 h k = true) = (xFn Tryz.prog (fun f => [75, 120, 121, 140, 144, 145, 146, 147, 148, 175, 181, 196, 197, 210, 220, 246].contains f) zs [] [] Tryz.f190 (.seq .nil (.seq (.join [24] [8, 9, 10, 11, 12, 13, 14, 15, 16, 17, 18, 19, 20, 21, 22, 23] .nil .nil) .nil)) [v0, v1] h k = true)) hk)

/- undercroft/slab.Lay -/
noncomputable abbrev c144_1 (x9 : CV) (s6 : TupC 1) (v1 : CV) (v2 : CV) (h4 : CH) (x1 : CV) (K7 : TupC 1 → CH → Bool) (x2 : CV) (k : CV → CH → Bool) : Bool :=
 xIte x9
  (xBin (some (.int .i64)) .sub s6.1 v1 fun x10 =>
  xIdx (some (none, 1)) v2 x10 fun x11 =>
  xLoad (some none) x11 h4 fun x12 =>
  xIdx (some (some 1024, 1)) x1 s6.1 fun x13 =>
  xStore (some 1) x13 x12 h4 fun h5 =>
  xBin (some (.int .i64)) .add s6.1 (.int .i64 (.ofNat 1)) fun x14 =>
  K7 (x14, ()) h5)
  (xLoad (some (some 1024)) x1 h4 fun x15 =>
  xStore (some 1024) x2 x15 h4 fun h6 =>
  xLoad (some (some 1024)) x2 h6 fun x16 =>
  k x16 h6)
noncomputable def bd144 (v0 v1 v2 : CV) (h : CH) (k : CV → CH → Bool) : Bool :=
 xBox 39 v0 h fun x1 h1 =>
 xBoxP 39 [(.bytes 1024 0)] h1 fun x2 h2 =>
 xLen (some (.inl false)) v2 fun x3 =>
 bd190 v1 x3 h2 fun x4 h3 =>
 xExtract x4 0 fun x5 =>
 xExtract x4 1 fun x6 =>
 xLoop (n := 1) (fun K7 s6 h4 =>
  xBin (some (.int .i64)) .lss s6.1 x6 fun x9 =>
  c144_1 x9 s6 v1 v2 h4 x1 K7 x2 k) 1000000 (x5, ()) h3
noncomputable abbrev ex144 : Ex := fun args h k => a3 args fun v0 v1 v2 => bd144 v0 v1 v2 h k
set_option maxRecDepth 100000 in
theorem sim144 : SimF Tryz.prog 144 ex144 := fun args h k hk => by
  obtain ⟨v0, v1, v2, rfl, hk⟩ := a3_ok hk
  exact sim_of (qf := (fun f => [75, 120, 121, 140, 144, 145, 146, 147, 148, 175, 181, 196, 197, 210, 220, 246].contains f)) (Z := zs) (C := [(190, ex190)]) (T := []) ⟨zerosB_ok zsOk, (exCons (by kernel_rfl) sim190 exNil)⟩ (.seq .nil (.seq .nil (.seq (.seq .nil (.loop [9] [18, 19, 20, 23, 24, 25, 26, 27, 28, 29, 30, 21, 22] .nil)) .nil))) Tryz.func144 _ h k (Eq.mp (by kernel_rfl : (bd144 v0 v1 v2 h k = true) = (xFn Tryz.prog (fun f => [75, 120, 121, 140, 144, 145, 146, 147, 148, 175, 181, 196, 197, 210, 220, 246].contains f) zs [(190, ex190)] [] Tryz.f144 (.seq .nil (.seq .nil (.seq (.seq .nil (.loop [9] [18, 19, 20, 23, 24, 25, 26, 27, 28, 29, 30, 21, 22] .nil)) .nil))) [v0, v1, v2] h k = true)) hk)

/- undercroft/slab.U16 -/
noncomputable abbrev c145_1 (x5 : CV) (v1 : CV) (x1 : CV) (h2 : CH) (k : CV → CH → Bool) : Bool :=
 xConv (some (.int .u8)) (some (.int .u16)) x5 fun x6 =>
 xBin (some (.int .i64)) .add v1 (.int .i64 (.ofNat 1)) fun x7 =>
 xIdx (some (some 1024, 1)) x1 x7 fun x8 =>
 xLoad (some none) x8 h2 fun x9 =>
 xConv (some (.int .u8)) (some (.int .u16)) x9 fun x10 =>
 xBin (some (.int .u16)) .shl x10 (.int .u64 (.ofNat 8)) fun x11 =>
 xBin (some (.int .u16)) .or x6 x11 fun x12 =>
 k x12 h2
noncomputable def bd145 (v0 v1 : CV) (h : CH) (k : CV → CH → Bool) : Bool :=
 xBox 39 v0 h fun x1 h1 =>
 bd191 v1 (.int .i64 (.ofNat 2)) h1 fun x2 h2 =>
 xUn .not x2 fun x3 =>
 xIte x3
  (k (.int .u16 (.ofNat 0)) h2)
  (xIdx (some (some 1024, 1)) x1 v1 fun x4 =>
  xLoad (some none) x4 h2 fun x5 =>
  c145_1 x5 v1 x1 h2 k)
noncomputable abbrev ex145 : Ex := fun args h k => a2 args fun v0 v1 => bd145 v0 v1 h k
set_option maxRecDepth 100000 in
theorem sim145 : SimF Tryz.prog 145 ex145 := fun args h k hk => by
  obtain ⟨v0, v1, rfl, hk⟩ := a2_ok hk
  exact sim_of (qf := (fun f => [75, 120, 121, 140, 144, 145, 146, 147, 148, 175, 181, 196, 197, 210, 220, 246].contains f)) (Z := zs) (C := [(191, ex191)]) (T := []) ⟨zerosB_ok zsOk, (exCons (by kernel_rfl) sim191 exNil)⟩ .nil Tryz.func145 _ h k (Eq.mp (by kernel_rfl : (bd145 v0 v1 h k = true) = (xFn Tryz.prog (fun f => [75, 120, 121, 140, 144, 145, 146, 147, 148, 175, 181, 196, 197, 210, 220, 246].contains f) zs [(191, ex191)] [] Tryz.f145 .nil [v0, v1] h k = true)) hk)

/- undercroft/node.Decode -/
noncomputable abbrev c83_1 (s20 : TupC 1) (x24 : CV) (h14 : CH) (x20 : CV) (K21 : TupC 1 → CH → Bool) : Bool :=
 xBin (some (.int .i64)) .mul (.int .i64 (.ofNat 4)) s20.1 fun x25 =>
 xBin (some (.int .i64)) .add (.int .i64 (.ofNat 12)) x25 fun x26 =>
 bd146 x24 x26 h14 fun x27 h15 =>
 xAddr (some 4) x20 fun x28 =>
 xIdx (some (some 10, 1)) x28 s20.1 fun x29 =>
 xStore (some 1) x29 x27 h15 fun h16 =>
 xBin (some (.int .i64)) .add s20.1 (.int .i64 (.ofNat 1)) fun x30 =>
 K21 (x30, ()) h16
noncomputable abbrev c83_2 (x6 : CV) (x20 : CV) (x2 : CV) (k : CV → CH → Bool) (h13 : CH) : Bool :=
 xLoop (n := 1) (fun K21 s20 h14 =>
  xBin (some (.int .i64)) .lss s20.1 (.int .i64 (.ofNat 10)) fun x23 =>
  xIte x23
   (xLoad (some (some 1024)) x6 h14 fun x24 =>
   c83_1 s20 x24 h14 x20 K21)
   (xLoad (some (some 16)) x20 h14 fun x31 =>
   xStore (some 16) x2 x31 h14 fun h17 =>
   xLoad (some (some 16)) x2 h17 fun x32 =>
   k x32 h17)) 1000000 ((.int .i64 (.ofNat 0)), ()) h13
noncomputable abbrev c83_3 (h11 : CH) (x19 : CV) (x6 : CV) (x2 : CV) (k : CV → CH → Bool) : Bool :=
 xBoxP 68 [(.int .u16 (.ofNat 0)), (.int .u16 (.ofNat 0)), (.int .u32 (.ofNat 0)), (.int .u32 (.ofNat 0)), (.int .u32 (.ofNat 0)), (.int .u32 (.ofNat 0)), (.int .u32 (.ofNat 0)), (.int .u32 (.ofNat 0)), (.int .u32 (.ofNat 0)), (.int .u32 (.ofNat 0)), (.int .u32 (.ofNat 0)), (.int .u32 (.ofNat 0)), (.int .u32 (.ofNat 0)), (.int .u32 (.ofNat 0)), (.int .u32 (.ofNat 0)), (.int .u32 (.ofNat 0))] h11 fun x20 h12 =>
 xStore (some 16) x20 x19 h12 fun h13 =>
 c83_2 x6 x20 x2 k h13
noncomputable abbrev c83_4 (x8 : CV) (x10 : CV) (x12 : CV) (x14 : CV) (x16 : CV) (x18 : CV) (h11 : CH) (x6 : CV) (x2 : CV) (k : CV → CH → Bool) : Bool :=
 xBuild (some (.inl [(0, 1), (1, 1), (2, 1), (3, 1), (4, 10), (14, 1), (15, 1)])) (some (.agg [(.int .u16 (.ofNat 0)), (.int .u16 (.ofNat 0)), (.int .u32 (.ofNat 0)), (.int .u32 (.ofNat 0)), (.int .u32 (.ofNat 0)), (.int .u32 (.ofNat 0)), (.int .u32 (.ofNat 0)), (.int .u32 (.ofNat 0)), (.int .u32 (.ofNat 0)), (.int .u32 (.ofNat 0)), (.int .u32 (.ofNat 0)), (.int .u32 (.ofNat 0)), (.int .u32 (.ofNat 0)), (.int .u32 (.ofNat 0)), (.int .u32 (.ofNat 0)), (.int .u32 (.ofNat 0))])) [(0, x8), (1, x10), (2, x12), (3, x14), (5, x16), (6, x18)] fun x19 =>
 c83_3 h11 x19 x6 x2 k
noncomputable abbrev c83_5 (x6 : CV) (h8 : CH) (x8 : CV) (x10 : CV) (x12 : CV) (x2 : CV) (k : CV → CH → Bool) : Bool :=
 xLoad (some (some 1024)) x6 h8 fun x13 =>
 xQuiet (some ex146) [x13, (.int .i64 (.ofNat 8))] h8 fun x14 h9 =>
 xLoad (some (some 1024)) x6 h9 fun x15 =>
 xQuiet (some ex146) [x15, (.int .i64 (.ofNat 52))] h9 fun x16 h10 =>
 xLoad (some (some 1024)) x6 h10 fun x17 =>
 xQuiet (some ex146) [x17, (.int .i64 (.ofNat 56))] h10 fun x18 h11 =>
 c83_4 x8 x10 x12 x14 x16 x18 h11 x6 x2 k
noncomputable abbrev c83_6 (x6 : CV) (x5 : CV) (h4 : CH) (x2 : CV) (k : CV → CH → Bool) : Bool :=
 xStore (some 1024) x6 x5 h4 fun h5 =>
 xLoad (some (some 1024)) x6 h5 fun x7 =>
 xQuiet (some ex145) [x7, (.int .i64 (.ofNat 0))] h5 fun x8 h6 =>
 xLoad (some (some 1024)) x6 h6 fun x9 =>
 xQuiet (some ex145) [x9, (.int .i64 (.ofNat 2))] h6 fun x10 h7 =>
 xLoad (some (some 1024)) x6 h7 fun x11 =>
 xQuiet (some ex146) [x11, (.int .i64 (.ofNat 4))] h7 fun x12 h8 =>
 c83_5 x6 h8 x8 x10 x12 x2 k
noncomputable abbrev c83_7 (h1 : CH) (x1 : CV) (k : CV → CH → Bool) : Bool :=
 xBoxP 68 [(.int .u16 (.ofNat 0)), (.int .u16 (.ofNat 0)), (.int .u32 (.ofNat 0)), (.int .u32 (.ofNat 0)), (.int .u32 (.ofNat 0)), (.int .u32 (.ofNat 0)), (.int .u32 (.ofNat 0)), (.int .u32 (.ofNat 0)), (.int .u32 (.ofNat 0)), (.int .u32 (.ofNat 0)), (.int .u32 (.ofNat 0)), (.int .u32 (.ofNat 0)), (.int .u32 (.ofNat 0)), (.int .u32 (.ofNat 0)), (.int .u32 (.ofNat 0)), (.int .u32 (.ofNat 0))] h1 fun x2 h2 =>
 xBuild (some (.inr 1)) (some (.agg [(.bytes 1024 0)])) [] fun x3 =>
 xSlice (some (some 64, 1)) x1 none none none fun x4 =>
 bd144 x3 (.int .i64 (.ofNat 0)) x4 h2 fun x5 h3 =>
 xBoxP 39 [(.bytes 1024 0)] h3 fun x6 h4 =>
 c83_6 x6 x5 h4 x2 k
noncomputable def bd83 (v0 : CV) (h : CH) (k : CV → CH → Bool) : Bool :=
 xBox 140 v0 h fun x1 h1 =>
 c83_7 h1 x1 k
noncomputable abbrev ex83 : Ex := fun args h k => a1 args fun v0 => bd83 v0 h k
set_option maxRecDepth 100000 in
theorem sim83 : SimF Tryz.prog 83 ex83 := fun args h k hk => by
  obtain ⟨v0, rfl, hk⟩ := a1_ok hk
  exact sim_of (qf := (fun f => [75, 120, 121, 140, 144, 145, 146, 147, 148, 175, 181, 196, 197, 210, 220, 246].contains f)) (Z := zs) (C := [(144, ex144), (145, ex145), (146, ex146)]) (T := []) ⟨zerosB_ok zsOk, (exCons (by kernel_rfl) sim144 (exCons (by kernel_rfl) sim145 (exCons (by kernel_rfl) sim146 exNil)))⟩ (.seq .nil (.seq .nil (.seq .nil (.seq (.seq .nil (.loop [22] [23, 24, 5, 25, 26, 27, 28, 29, 30, 31, 32, 33] .nil)) .nil)))) Tryz.func83 _ h k (Eq.mp (by kernel_rfl : (bd83 v0 h k = true) = (xFn Tryz.prog (fun f => [75, 120, 121, 140, 144, 145, 146, 147, 148, 175, 181, 196, 197, 210, 220, 246].contains f) zs [(144, ex144), (145, ex145), (146, ex146)] [] Tryz.f83 (.seq .nil (.seq .nil (.seq .nil (.seq (.seq .nil (.loop [22] [23, 24, 5, 25, 26, 27, 28, 29, 30, 31, 32, 33] .nil)) .nil)))) [v0] h k = true)) hk)

/- undercroft/rack.Read -/
noncomputable abbrev c28_1 (x1 : CV) (h2 : CH) (k : CV → CH → Bool) (x2 : CV) : Bool :=
 xBuild (some (.inl [(0, 1), (1, 1), (2, 1), (3, 1), (4, 10), (14, 1), (15, 1)])) (some (.agg [(.int .u16 (.ofNat 0)), (.int .u16 (.ofNat 0)), (.int .u32 (.ofNat 0)), (.int .u32 (.ofNat 0)), (.int .u32 (.ofNat 0)), (.int .u32 (.ofNat 0)), (.int .u32 (.ofNat 0)), (.int .u32 (.ofNat 0)), (.int .u32 (.ofNat 0)), (.int .u32 (.ofNat 0)), (.int .u32 (.ofNat 0)), (.int .u32 (.ofNat 0)), (.int .u32 (.ofNat 0)), (.int .u32 (.ofNat 0)), (.int .u32 (.ofNat 0)), (.int .u32 (.ofNat 0))])) [] fun x4 =>
 xStore (some 16) x1 x4 h2 fun h3 =>
 xLoad (some (some 16)) x1 h3 fun x5 =>
 k (.tup [x5, x2]) h3
noncomputable abbrev c28_2 (x1 : CV) (h4 : CH) (k : CV → CH → Bool) : Bool :=
 xBuild (some (.inl [(0, 1), (1, 1), (2, 1), (3, 1), (4, 10), (14, 1), (15, 1)])) (some (.agg [(.int .u16 (.ofNat 0)), (.int .u16 (.ofNat 0)), (.int .u32 (.ofNat 0)), (.int .u32 (.ofNat 0)), (.int .u32 (.ofNat 0)), (.int .u32 (.ofNat 0)), (.int .u32 (.ofNat 0)), (.int .u32 (.ofNat 0)), (.int .u32 (.ofNat 0)), (.int .u32 (.ofNat 0)), (.int .u32 (.ofNat 0)), (.int .u32 (.ofNat 0)), (.int .u32 (.ofNat 0)), (.int .u32 (.ofNat 0)), (.int .u32 (.ofNat 0)), (.int .u32 (.ofNat 0))])) [] fun x11 =>
 xStore (some 16) x1 x11 h4 fun h5 =>
 xLoad (some (some 16)) x1 h5 fun x12 =>
 k (.tup [x12, (.int .i64 (.ofNat 2))]) h5
noncomputable abbrev c28_3 (x1 : CV) (h8 : CH) (k : CV → CH → Bool) (x15 : CV) : Bool :=
 xBuild (some (.inl [(0, 1), (1, 1), (2, 1), (3, 1), (4, 10), (14, 1), (15, 1)])) (some (.agg [(.int .u16 (.ofNat 0)), (.int .u16 (.ofNat 0)), (.int .u32 (.ofNat 0)), (.int .u32 (.ofNat 0)), (.int .u32 (.ofNat 0)), (.int .u32 (.ofNat 0)), (.int .u32 (.ofNat 0)), (.int .u32 (.ofNat 0)), (.int .u32 (.ofNat 0)), (.int .u32 (.ofNat 0)), (.int .u32 (.ofNat 0)), (.int .u32 (.ofNat 0)), (.int .u32 (.ofNat 0)), (.int .u32 (.ofNat 0)), (.int .u32 (.ofNat 0)), (.int .u32 (.ofNat 0))])) [] fun x18 =>
 xStore (some 16) x1 x18 h8 fun h9 =>
 xLoad (some (some 16)) x1 h9 fun x19 =>
 k (.tup [x19, x15]) h9
noncomputable abbrev c28_4 (x8 : CV) (x16 : CV) (h8 : CH) (x1 : CV) (k : CV → CH → Bool) : Bool :=
 xBin (some (.int .i64)) .add x8 (.int .i64 (.ofNat 64)) fun x20 =>
 xSlice (some (some 1024, 1)) x16 (some x8) (some x20) none fun x21 =>
 xArr (some 64) x21 fun x22 =>
 xLoad (some (some 64)) x22 h8 fun x23 =>
 bd83 x23 h8 fun x24 h10 =>
 xStore (some 16) x1 x24 h10 fun h11 =>
 xLoad (some (some 16)) x1 h11 fun x25 =>
 k (.tup [x25, (.int .i64 (.ofNat 0))]) h11
noncomputable abbrev c28_5 (x6 : CV) (x1 : CV) (h4 : CH) (k : CV → CH → Bool) (v0 : CV) (x7 : CV) (x8 : CV) : Bool :=
 xExtract x6 2 fun x9 =>
 xUn .not x9 fun x10 =>
 xIte x10
  (c28_2 x1 h4 k)
  (bd68 v0 x7 h4 fun x13 h6 =>
  xExtract x13 0 fun x14 =>
  xExtract x13 1 fun x15 =>
  xBoxP 39 [(.bytes 1024 0)] h6 fun x16 h7 =>
  xStore (some 1024) x16 x14 h7 fun h8 =>
  xBin (some (.int .i64)) .neq x15 (.int .i64 (.ofNat 0)) fun x17 =>
  xIte x17
   (c28_3 x1 h8 k x15)
   (c28_4 x8 x16 h8 x1 k))
noncomputable def bd28 (v0 v1 : CV) (h : CH) (k : CV → CH → Bool) : Bool :=
 xBoxP 68 [(.int .u16 (.ofNat 0)), (.int .u16 (.ofNat 0)), (.int .u32 (.ofNat 0)), (.int .u32 (.ofNat 0)), (.int .u32 (.ofNat 0)), (.int .u32 (.ofNat 0)), (.int .u32 (.ofNat 0)), (.int .u32 (.ofNat 0)), (.int .u32 (.ofNat 0)), (.int .u32 (.ofNat 0)), (.int .u32 (.ofNat 0)), (.int .u32 (.ofNat 0)), (.int .u32 (.ofNat 0)), (.int .u32 (.ofNat 0)), (.int .u32 (.ofNat 0)), (.int .u32 (.ofNat 0))] h fun x1 h1 =>
 bd78 v0 h1 fun x2 h2 =>
 xBin (some (.int .i64)) .neq x2 (.int .i64 (.ofNat 0)) fun x3 =>
 xIte x3
  (c28_1 x1 h2 k x2)
  (bd82 v0 v1 h2 fun x6 h4 =>
  xExtract x6 0 fun x7 =>
  xExtract x6 1 fun x8 =>
  c28_5 x6 x1 h4 k v0 x7 x8)
noncomputable abbrev ex28 : Ex := fun args h k => a2 args fun v0 v1 => bd28 v0 v1 h k
set_option maxRecDepth 100000 in
theorem sim28 : SimF Tryz.prog 28 ex28 := fun args h k hk => by
  obtain ⟨v0, v1, rfl, hk⟩ := a2_ok hk
  exact sim_of (qf := (fun f => [75, 120, 121, 140, 144, 145, 146, 147, 148, 175, 181, 196, 197, 210, 220, 246].contains f)) (Z := zs) (C := [(78, ex78), (82, ex82), (68, ex68), (83, ex83)]) (T := []) ⟨zerosB_ok zsOk, (exCons (by kernel_rfl) sim78 (exCons (by kernel_rfl) sim82 (exCons (by kernel_rfl) sim68 (exCons (by kernel_rfl) sim83 exNil))))⟩ .nil Tryz.func28 _ h k (Eq.mp (by kernel_rfl : (bd28 v0 v1 h k = true) = (xFn Tryz.prog (fun f => [75, 120, 121, 140, 144, 145, 146, 147, 148, 175, 181, 196, 197, 210, 220, 246].contains f) zs [(78, ex78), (82, ex82), (68, ex68), (83, ex83)] [] Tryz.f28 .nil [v0, v1] h k = true)) hk)

/- undercroft/dir.begin -/
noncomputable abbrev c151_1 (x1 : CV) (h5 : CH) (k : CV → CH → Bool) (s5 : TupC 1) : Bool :=
 xBuild (some (.inl [(0, 1), (1, 1), (2, 1), (3, 1), (4, 10), (14, 1), (15, 1)])) (some (.agg [(.int .u16 (.ofNat 0)), (.int .u16 (.ofNat 0)), (.int .u32 (.ofNat 0)), (.int .u32 (.ofNat 0)), (.int .u32 (.ofNat 0)), (.int .u32 (.ofNat 0)), (.int .u32 (.ofNat 0)), (.int .u32 (.ofNat 0)), (.int .u32 (.ofNat 0)), (.int .u32 (.ofNat 0)), (.int .u32 (.ofNat 0)), (.int .u32 (.ofNat 0)), (.int .u32 (.ofNat 0)), (.int .u32 (.ofNat 0)), (.int .u32 (.ofNat 0)), (.int .u32 (.ofNat 0))])) [] fun x8 =>
 xStore (some 16) x1 x8 h5 fun h6 =>
 xLoad (some (some 16)) x1 h6 fun x9 =>
 k (.tup [x9, s5.1]) h6
noncomputable abbrev c151_2 (x1 : CV) (k : CV → CH → Bool) (x5 : CV) (x4 : CV) (h4 : CH) : Bool :=
 xJoin (n := 1) (fun s5 h5 =>
  xBin (some (.int .i64)) .neq s5.1 (.int .i64 (.ofNat 0)) fun x7 =>
  xIte x7
   (c151_1 x1 h5 k s5)
   (xLoad (some (some 16)) x5 h5 fun x10 =>
   xStore (some 16) x1 x10 h5 fun h7 =>
   xLoad (some (some 16)) x1 h7 fun x11 =>
   k (.tup [x11, (.int .i64 (.ofNat 0))]) h7))
 (fun K11 => xBin (some (.int .i64)) .eql x4 (.int .i64 (.ofNat 0)) fun x13 =>
 xIte x13
  (xAddr (some 0) x5 fun x14 =>
  xLoad (some none) x14 h4 fun x15 =>
  xBin (some (.int .u16)) .neq x15 (.int .u16 (.ofNat 2)) fun x16 =>
  xIte x16
   (K11 ((.int .i64 (.ofNat 7)), ()) h4)
   (K11 (x4, ()) h4))
  (K11 (x4, ()) h4))
noncomputable abbrev c151_3 (h2 : CH) (x3 : CV) (x1 : CV) (k : CV → CH → Bool) (x4 : CV) : Bool :=
 xBoxP 68 [(.int .u16 (.ofNat 0)), (.int .u16 (.ofNat 0)), (.int .u32 (.ofNat 0)), (.int .u32 (.ofNat 0)), (.int .u32 (.ofNat 0)), (.int .u32 (.ofNat 0)), (.int .u32 (.ofNat 0)), (.int .u32 (.ofNat 0)), (.int .u32 (.ofNat 0)), (.int .u32 (.ofNat 0)), (.int .u32 (.ofNat 0)), (.int .u32 (.ofNat 0)), (.int .u32 (.ofNat 0)), (.int .u32 (.ofNat 0)), (.int .u32 (.ofNat 0)), (.int .u32 (.ofNat 0))] h2 fun x5 h3 =>
 xStore (some 16) x5 x3 h3 fun h4 =>
 c151_2 x1 k x5 x4 h4
noncomputable def bd151 (v0 v1 : CV) (h : CH) (k : CV → CH → Bool) : Bool :=
 xBoxP 68 [(.int .u16 (.ofNat 0)), (.int .u16 (.ofNat 0)), (.int .u32 (.ofNat 0)), (.int .u32 (.ofNat 0)), (.int .u32 (.ofNat 0)), (.int .u32 (.ofNat 0)), (.int .u32 (.ofNat 0)), (.int .u32 (.ofNat 0)), (.int .u32 (.ofNat 0)), (.int .u32 (.ofNat 0)), (.int .u32 (.ofNat 0)), (.int .u32 (.ofNat 0)), (.int .u32 (.ofNat 0)), (.int .u32 (.ofNat 0)), (.int .u32 (.ofNat 0)), (.int .u32 (.ofNat 0))] h fun x1 h1 =>
 bd28 v0 v1 h1 fun x2 h2 =>
 xExtract x2 0 fun x3 =>
 xExtract x2 1 fun x4 =>
 c151_3 h2 x3 x1 k x4
noncomputable abbrev ex151 : Ex := fun args h k => a2 args fun v0 v1 => bd151 v0 v1 h k
set_option maxRecDepth 100000 in
theorem sim151 : SimF Tryz.prog 151 ex151 := fun args h k hk => by
  obtain ⟨v0, v1, rfl, hk⟩ := a2_ok hk
  exact sim_of (qf := (fun f => [75, 120, 121, 140, 144, 145, 146, 147, 148, 175, 181, 196, 197, 210, 220, 246].contains f)) (Z := zs) (C := [(28, ex28)]) (T := []) ⟨zerosB_ok zsOk, (exCons (by kernel_rfl) sim28 exNil)⟩ (.seq .nil (.seq .nil (.join [7] [14, 15, 16, 17, 18, 19, 20] .nil .nil))) Tryz.func151 _ h k (Eq.mp (by kernel_rfl : (bd151 v0 v1 h k = true) = (xFn Tryz.prog (fun f => [75, 120, 121, 140, 144, 145, 146, 147, 148, 175, 181, 196, 197, 210, 220, 246].contains f) zs [(28, ex28)] [] Tryz.f151 (.seq .nil (.seq .nil (.join [7] [14, 15, 16, 17, 18, 19, 20] .nil .nil))) [v0, v1] h k = true)) hk)

/- undercroft/dir.each -/
noncomputable def bd152 (v0 v1 v2 v3 : CV) (h : CH) (k : CV → CH → Bool) : Bool :=
 xBox 51 v0 h fun x1 h1 =>
 xBox 3 v1 h1 fun x2 h2 =>
 xBox 68 v2 h2 fun x3 h3 =>
 xBox 224 v3 h3 fun x4 h4 =>
 k (.fn 192 [] [x3, x1, x2, x4]) h4
noncomputable abbrev ex152 : Ex := fun args h k => a4 args fun v0 v1 v2 v3 => bd152 v0 v1 v2 v3 h k
set_option maxRecDepth 100000 in
theorem sim152 : SimF Tryz.prog 152 ex152 := fun args h k hk => by
  obtain ⟨v0, v1, v2, v3, rfl, hk⟩ := a4_ok hk
  exact sim_of (qf := (fun f => [75, 120, 121, 140, 144, 145, 146, 147, 148, 175, 181, 196, 197, 210, 220, 246].contains f)) (Z := zs) (C := []) (T := []) ⟨zerosB_ok zsOk, exNil⟩ .nil Tryz.func152 _ h k (Eq.mp (by kernel_rfl : (bd152 v0 v1 v2 v3 h k = true) = (xFn Tryz.prog (fun f => [75, 120, 121, 140, 144, 145, 146, 147, 148, 175, 181, 196, 197, 210, 220, 246].contains f) zs [] [] Tryz.f152 .nil [v0, v1, v2, v3] h k = true)) hk)

/- (*undercroft/wal.Log).Open -/
noncomputable def bd86 (v0 : CV) (h : CH) (k : CV → CH → Bool) : Bool :=
 bd78 v0 h fun x1 h1 =>
 xBin (some (.int .i64)) .eql x1 (.int .i64 (.ofNat 0)) fun x2 =>
 xIte x2
  (xNilCheck v0 fun x3 =>
  xAddr (some 14) x3 fun x4 =>
  xLoad (some none) x4 h1 fun x5 =>
  k x5 h1)
  (k (.bool false) h1)
noncomputable abbrev ex86 : Ex := fun args h k => a1 args fun v0 => bd86 v0 h k
set_option maxRecDepth 100000 in
theorem sim86 : SimF Tryz.prog 86 ex86 := fun args h k hk => by
  obtain ⟨v0, rfl, hk⟩ := a1_ok hk
  exact sim_of (qf := (fun f => [75, 120, 121, 140, 144, 145, 146, 147, 148, 175, 181, 196, 197, 210, 220, 246].contains f)) (Z := zs) (C := [(78, ex78)]) (T := []) ⟨zerosB_ok zsOk, (exCons (by kernel_rfl) sim78 exNil)⟩ .nil Tryz.func86 _ h k (Eq.mp (by kernel_rfl : (bd86 v0 h k = true) = (xFn Tryz.prog (fun f => [75, 120, 121, 140, 144, 145, 146, 147, 148, 175, 181, 196, 197, 210, 220, 246].contains f) zs [(78, ex78)] [] Tryz.f86 .nil [v0] h k = true)) hk)

/- undercroft/chart.open -/
noncomputable abbrev c102_1 (v0 : CV) (v1 : CV) (x9 : CV) (h5 : CH) (k : CV → CH → Bool) : Bool :=
 xBuild (some (.inl [(0, 1), (1, 1), (2, 16)])) (some (.agg [.nilp, (.int .i64 (.ofNat 0)), (.int .u16 (.ofNat 0)), (.int .u16 (.ofNat 0)), (.int .u32 (.ofNat 0)), (.int .u32 (.ofNat 0)), (.int .u32 (.ofNat 0)), (.int .u32 (.ofNat 0)), (.int .u32 (.ofNat 0)), (.int .u32 (.ofNat 0)), (.int .u32 (.ofNat 0)), (.int .u32 (.ofNat 0)), (.int .u32 (.ofNat 0)), (.int .u32 (.ofNat 0)), (.int .u32 (.ofNat 0)), (.int .u32 (.ofNat 0)), (.int .u32 (.ofNat 0)), (.int .u32 (.ofNat 0))])) [(0, v0), (1, v1), (2, x9)] fun x10 =>
 xBox 165 x10 h5 fun x11 h6 =>
 k (.tup [x11, (.int .i64 (.ofNat 0))]) h6
noncomputable abbrev c102_2 (h3 : CH) (x5 : CV) (x6 : CV) (k : CV → CH → Bool) (v0 : CV) (v1 : CV) : Bool :=
 xBoxP 68 [(.int .u16 (.ofNat 0)), (.int .u16 (.ofNat 0)), (.int .u32 (.ofNat 0)), (.int .u32 (.ofNat 0)), (.int .u32 (.ofNat 0)), (.int .u32 (.ofNat 0)), (.int .u32 (.ofNat 0)), (.int .u32 (.ofNat 0)), (.int .u32 (.ofNat 0)), (.int .u32 (.ofNat 0)), (.int .u32 (.ofNat 0)), (.int .u32 (.ofNat 0)), (.int .u32 (.ofNat 0)), (.int .u32 (.ofNat 0)), (.int .u32 (.ofNat 0)), (.int .u32 (.ofNat 0))] h3 fun x7 h4 =>
 xStore (some 16) x7 x5 h4 fun h5 =>
 xBin (some (.int .i64)) .neq x6 (.int .i64 (.ofNat 0)) fun x8 =>
 xIte x8
  (k (.tup [.nilp, x6]) h5)
  (xLoad (some (some 16)) x7 h5 fun x9 =>
  c102_1 v0 v1 x9 h5 k)
noncomputable abbrev c102_3 (x2 : CV) (k : CV → CH → Bool) (x1 : CV) (h1 : CH) (v0 : CV) (v1 : CV) (v2 : CV) : Bool :=
 xIte x2
  (k (.tup [.nilp, x1]) h1)
  (xJoin (n := 1) (fun s2 h2 =>
   xIte s2.1
    (k (.tup [.nilp, (.int .i64 (.ofNat 180))]) h2)
    (bd28 v0 v1 h2 fun x4 h3 =>
    xExtract x4 0 fun x5 =>
    xExtract x4 1 fun x6 =>
    c102_2 h3 x5 x6 k v0 v1))
  (fun K11 => xIte v2
   (bd86 v0 h1 fun x13 h7 =>
   xUn .not x13 fun x14 =>
   K11 (x14, ()) h7)
   (K11 ((.bool false), ()) h1)))
noncomputable def bd102 (v0 v1 v2 : CV) (h : CH) (k : CV → CH → Bool) : Bool :=
 bd78 v0 h fun x1 h1 =>
 xBin (some (.int .i64)) .neq x1 (.int .i64 (.ofNat 0)) fun x2 =>
 c102_3 x2 k x1 h1 v0 v1 v2
noncomputable abbrev ex102 : Ex := fun args h k => a3 args fun v0 v1 v2 => bd102 v0 v1 v2 h k
set_option maxRecDepth 100000 in
theorem sim102 : SimF Tryz.prog 102 ex102 := fun args h k hk => by
  obtain ⟨v0, v1, v2, rfl, hk⟩ := a3_ok hk
  exact sim_of (qf := (fun f => [75, 120, 121, 140, 144, 145, 146, 147, 148, 175, 181, 196, 197, 210, 220, 246].contains f)) (Z := zs) (C := [(78, ex78), (28, ex28), (86, ex86)]) (T := []) ⟨zerosB_ok zsOk, (exCons (by kernel_rfl) sim78 (exCons (by kernel_rfl) sim28 (exCons (by kernel_rfl) sim86 exNil)))⟩ (.seq .nil (.seq .nil (.seq (.join [21] [16, 17, 18, 19, 20] .nil .nil) .nil))) Tryz.func102 _ h k (Eq.mp (by kernel_rfl : (bd102 v0 v1 v2 h k = true) = (xFn Tryz.prog (fun f => [75, 120, 121, 140, 144, 145, 146, 147, 148, 175, 181, 196, 197, 210, 220, 246].contains f) zs [(78, ex78), (28, ex28), (86, ex86)] [] Tryz.f102 (.seq .nil (.seq .nil (.seq (.join [21] [16, 17, 18, 19, 20] .nil .nil) .nil))) [v0, v1, v2] h k = true)) hk)

/- undercroft/plan.Way -/
noncomputable abbrev c155_1 (x13 : CV) (x1 : CV) (h2 : CH) (k : CV → CH → Bool) : Bool :=
 xBin (some (.int .i64)) .quo x13 (.int .i64 (.ofNat 256)) fun x14 =>
 xBin (some (.int .i64)) .rem x13 (.int .i64 (.ofNat 256)) fun x15 =>
 xBuild (some (.inl [(0, 1), (1, 1), (2, 1)])) (some (.agg [(.bytes 1 0), (.int .i64 (.ofNat 0)), (.int .i64 (.ofNat 0))])) [(0, (.int .u8 (.ofNat 3))), (1, x14), (2, x15)] fun x16 =>
 xStore (some 3) x1 x16 h2 fun h6 =>
 xLoad (some (some 3)) x1 h6 fun x17 =>
 k x17 h6
noncomputable abbrev c155_2 (x8 : CV) (v0 : CV) (x1 : CV) (h2 : CH) (k : CV → CH → Bool) : Bool :=
 xIte x8
  (xBin (some (.int .i64)) .sub v0 (.int .i64 (.ofNat 10)) fun x9 =>
  xBuild (some (.inl [(0, 1), (1, 1), (2, 1)])) (some (.agg [(.bytes 1 0), (.int .i64 (.ofNat 0)), (.int .i64 (.ofNat 0))])) [(0, (.int .u8 (.ofNat 2))), (1, x9)] fun x10 =>
  xStore (some 3) x1 x10 h2 fun h5 =>
  xLoad (some (some 3)) x1 h5 fun x11 =>
  k x11 h5)
  (xBin (some (.int .i64)) .sub v0 (.int .i64 (.ofNat 10)) fun x12 =>
  xBin (some (.int .i64)) .sub x12 (.int .i64 (.ofNat 256)) fun x13 =>
  c155_1 x13 x1 h2 k)
noncomputable abbrev c155_3 (x5 : CV) (v0 : CV) (x1 : CV) (h2 : CH) (k : CV → CH → Bool) : Bool :=
 xIte x5
  (xBuild (some (.inl [(0, 1), (1, 1), (2, 1)])) (some (.agg [(.bytes 1 0), (.int .i64 (.ofNat 0)), (.int .i64 (.ofNat 0))])) [(0, (.int .u8 (.ofNat 1))), (1, v0)] fun x6 =>
  xStore (some 3) x1 x6 h2 fun h4 =>
  xLoad (some (some 3)) x1 h4 fun x7 =>
  k x7 h4)
  (xBin (some (.int .i64)) .lss v0 (.int .i64 (.ofNat 266)) fun x8 =>
  c155_2 x8 v0 x1 h2 k)
noncomputable abbrev c155_4 (x1 : CV) (k : CV → CH → Bool) (v0 : CV) (h1 : CH) : Bool :=
 xJoin (n := 1) (fun s1 h2 =>
  xIte s1.1
   (xBuild (some (.inl [(0, 1), (1, 1), (2, 1)])) (some (.agg [(.bytes 1 0), (.int .i64 (.ofNat 0)), (.int .i64 (.ofNat 0))])) [] fun x3 =>
   xStore (some 3) x1 x3 h2 fun h3 =>
   xLoad (some (some 3)) x1 h3 fun x4 =>
   k x4 h3)
   (xBin (some (.int .i64)) .lss v0 (.int .i64 (.ofNat 10)) fun x5 =>
   c155_3 x5 v0 x1 h2 k))
 (fun K17 => xBin (some (.int .i64)) .lss v0 (.int .i64 (.ofNat 0)) fun x19 =>
 xIte x19
  (K17 ((.bool true), ()) h1)
  (xBin (some (.int .i64)) .geq v0 (.int .i64 (.ofNat 65802)) fun x20 =>
  K17 (x20, ()) h1))
noncomputable def bd155 (v0 : CV) (h : CH) (k : CV → CH → Bool) : Bool :=
 xBoxP 229 [(.bytes 1 0), (.int .i64 (.ofNat 0)), (.int .i64 (.ofNat 0))] h fun x1 h1 =>
 c155_4 x1 k v0 h1
noncomputable abbrev ex155 : Ex := fun args h k => a1 args fun v0 => bd155 v0 h k
set_option maxRecDepth 100000 in
theorem sim155 : SimF Tryz.prog 155 ex155 := fun args h k hk => by
  obtain ⟨v0, rfl, hk⟩ := a1_ok hk
  exact sim_of (qf := (fun f => [75, 120, 121, 140, 144, 145, 146, 147, 148, 175, 181, 196, 197, 210, 220, 246].contains f)) (Z := zs) (C := []) (T := []) ⟨zerosB_ok zsOk, exNil⟩ (.seq .nil (.seq (.join [4] [5, 6, 7, 8, 9, 10] .nil .nil) .nil)) Tryz.func155 _ h k (Eq.mp (by kernel_rfl : (bd155 v0 h k = true) = (xFn Tryz.prog (fun f => [75, 120, 121, 140, 144, 145, 146, 147, 148, 175, 181, 196, 197, 210, 220, 246].contains f) zs [] [] Tryz.f155 (.seq .nil (.seq (.join [4] [5, 6, 7, 8, 9, 10] .nil .nil) .nil)) [v0] h k = true)) hk)

/- (*undercroft/chart.file).top -/
noncomputable abbrev c106_1 (v0 : CV) (h3 : CH) (x2 : CV) (k : CV → CH → Bool) : Bool :=
 xNilCheck v0 fun x15 =>
 xAddr (some 2) x15 fun x16 =>
 xAddr (some 14) x16 fun x17 =>
 xLoad (some none) x17 h3 fun x18 =>
 xConv (some (.int .u32)) (some (.int .i64)) x18 fun x19 =>
 xAddr (some 1) x2 fun x20 =>
 xLoad (some none) x20 h3 fun x21 =>
 xNewS (some (3, 1, 8, false)) (some [(.int .i64 (.ofNat 0))]) 1 [(0, x21)] h3 fun x22 h4 =>
 k (.tup [x19, x22]) h4
noncomputable abbrev c106_2 (x24 : CV) (h3 : CH) (x2 : CV) (k : CV → CH → Bool) : Bool :=
 xAddr (some 15) x24 fun x25 =>
 xLoad (some none) x25 h3 fun x26 =>
 xConv (some (.int .u32)) (some (.int .i64)) x26 fun x27 =>
 xAddr (some 1) x2 fun x28 =>
 xLoad (some none) x28 h3 fun x29 =>
 xAddr (some 2) x2 fun x30 =>
 xLoad (some none) x30 h3 fun x31 =>
 xNewS (some (3, 1, 8, false)) (some [(.int .i64 (.ofNat 0))]) 2 [(0, x29), (1, x31)] h3 fun x32 h5 =>
 k (.tup [x27, x32]) h5
noncomputable abbrev c106_3 (x5 : CV) (x2 : CV) (h3 : CH) (v0 : CV) (k : CV → CH → Bool) (x4 : CV) : Bool :=
 xIte x5
  (xAddr (some 1) x2 fun x6 =>
  xLoad (some none) x6 h3 fun x7 =>
  xNilCheck v0 fun x8 =>
  xAddr (some 2) x8 fun x9 =>
  xAddr (some 4) x9 fun x10 =>
  xIdx (some (some 10, 1)) x10 x7 fun x11 =>
  xLoad (some none) x11 h3 fun x12 =>
  xConv (some (.int .u32)) (some (.int .i64)) x12 fun x13 =>
  k (.tup [x13, .nils]) h3)
  (xBin (some (.int .u8)) .eql x4 (.int .u8 (.ofNat 2)) fun x14 =>
  xIte x14
   (c106_1 v0 h3 x2 k)
   (xNilCheck v0 fun x23 =>
   xAddr (some 2) x23 fun x24 =>
   c106_2 x24 h3 x2 k))
noncomputable def bd106 (v0 v1 : CV) (h : CH) (k : CV → CH → Bool) : Bool :=
 bd155 v1 h fun x1 h1 =>
 xBoxP 229 [(.bytes 1 0), (.int .i64 (.ofNat 0)), (.int .i64 (.ofNat 0))] h1 fun x2 h2 =>
 xStore (some 3) x2 x1 h2 fun h3 =>
 xAddr (some 0) x2 fun x3 =>
 xLoad (some none) x3 h3 fun x4 =>
 xBin (some (.int .u8)) .eql x4 (.int .u8 (.ofNat 1)) fun x5 =>
 c106_3 x5 x2 h3 v0 k x4
noncomputable abbrev ex106 : Ex := fun args h k => a2 args fun v0 v1 => bd106 v0 v1 h k
set_option maxRecDepth 100000 in
theorem sim106 : SimF Tryz.prog 106 ex106 := fun args h k hk => by
  obtain ⟨v0, v1, rfl, hk⟩ := a2_ok hk
  exact sim_of (qf := (fun f => [75, 120, 121, 140, 144, 145, 146, 147, 148, 175, 181, 196, 197, 210, 220, 246].contains f)) (Z := zs) (C := [(155, ex155)]) (T := []) ⟨zerosB_ok zsOk, (exCons (by kernel_rfl) sim155 exNil)⟩ .nil Tryz.func106 _ h k (Eq.mp (by kernel_rfl : (bd106 v0 v1 h k = true) = (xFn Tryz.prog (fun f => [75, 120, 121, 140, 144, 145, 146, 147, 148, 175, 181, 196, 197, 210, 220, 246].contains f) zs [(155, ex155)] [] Tryz.f106 .nil [v0, v1] h k = true)) hk)

/- (*undercroft/chart.file).good -/
noncomputable abbrev c158_1 (x8 : CV) (x5 : CV) (h3 : CH) (v1 : CV) (K6 : TupC 1 → CH → Bool) : Bool :=
 xIte x8
  (xAddr (some 8) x5 fun x9 =>
  xLoad (some none) x9 h3 fun x10 =>
  xBin (some (.int .i64)) .lss v1 x10 fun x11 =>
  xIte x11
   (K6 ((.bool true), ()) h3)
   (xAddr (some 0) x5 fun x12 =>
   xAddr (some 0) x12 fun x13 =>
   xLoad (some none) x13 h3 fun x14 =>
   xBin (some (.int .i64)) .geq v1 x14 fun x15 =>
   K6 (x15, ()) h3))
  (K6 ((.bool false), ()) h3)
noncomputable abbrev c158_2 (h1 : CH) (x4 : CV) (k : CV → CH → Bool) (v1 : CV) : Bool :=
 xBoxP 89 [(.int .i64 (.ofNat 0)), (.int .i64 (.ofNat 0)), (.int .i64 (.ofNat 0)), (.int .i64 (.ofNat 0)), (.int .i64 (.ofNat 0)), (.int .i64 (.ofNat 0)), (.int .i64 (.ofNat 0)), (.int .i64 (.ofNat 0)), (.int .i64 (.ofNat 0))] h1 fun x5 h2 =>
 xStore (some 9) x5 x4 h2 fun h3 =>
 xJoin (n := 1) (fun s5 h4 =>
  xIte s5.1
   (k (.int .i64 (.ofNat 4)) h4)
   (k (.int .i64 (.ofNat 0)) h4))
 (fun K6 => xBin (some (.int .i64)) .neq v1 (.int .i64 (.ofNat 0)) fun x8 =>
 c158_1 x8 x5 h3 v1 K6)
noncomputable def bd158 (v0 v1 : CV) (h : CH) (k : CV → CH → Bool) : Bool :=
 xNilCheck v0 fun x1 =>
 xAddr (some 0) x1 fun x2 =>
 xLoad (some none) x2 h fun x3 =>
 bd75 x3 h fun x4 h1 =>
 c158_2 h1 x4 k v1
noncomputable abbrev ex158 : Ex := fun args h k => a2 args fun v0 v1 => bd158 v0 v1 h k
set_option maxRecDepth 100000 in
theorem sim158 : SimF Tryz.prog 158 ex158 := fun args h k hk => by
  obtain ⟨v0, v1, rfl, hk⟩ := a2_ok hk
  exact sim_of (qf := (fun f => [75, 120, 121, 140, 144, 145, 146, 147, 148, 175, 181, 196, 197, 210, 220, 246].contains f)) (Z := zs) (C := [(75, ex75)]) (T := []) ⟨zerosB_ok zsOk, (exCons (by kernel_rfl) sim75 exNil)⟩ (.seq .nil (.seq .nil (.seq (.join [25] [11, 12, 13, 14, 15, 16, 17, 18, 19, 20, 21, 22, 23, 24] .nil .nil) .nil))) Tryz.func158 _ h k (Eq.mp (by kernel_rfl : (bd158 v0 v1 h k = true) = (xFn Tryz.prog (fun f => [75, 120, 121, 140, 144, 145, 146, 147, 148, 175, 181, 196, 197, 210, 220, 246].contains f) zs [(75, ex75)] [] Tryz.f158 (.seq .nil (.seq .nil (.seq (.join [25] [11, 12, 13, 14, 15, 16, 17, 18, 19, 20, 21, 22, 23, 24] .nil .nil) .nil))) [v0, v1] h k = true)) hk)

/- (*undercroft/chart.file).down -/
noncomputable abbrev c154_1 (x14 : CV) (x17 : CV) (h4 : CH) (v2 : CV) (r154 : Ex) (v0 : CV) (k : CV → CH → Bool) : Bool :=
 xQuiet (some ex146) [x14, x17] h4 fun x18 h5 =>
 xConv (some (.int .u32)) (some (.int .i64)) x18 fun x19 =>
 xSlice (some (none, 1)) v2 (some (.int .i64 (.ofNat 1))) none none fun x20 =>
 r154 [v0, x19, x20] h5 fun x21 h6 =>
 xExtract x21 0 fun x22 =>
 xExtract x21 1 fun x23 =>
 xExtract x21 2 fun x24 =>
 xBin (some (.int .i64)) .add x23 (.int .i64 (.ofNat 1)) fun x25 =>
 k (.tup [x22, x25, x24]) h6
noncomputable abbrev c154_2 (x11 : CV) (k : CV → CH → Bool) (h4 : CH) (x12 : CV) (v2 : CV) (r154 : Ex) (v0 : CV) : Bool :=
 xBin (some (.int .i64)) .neq x11 (.int .i64 (.ofNat 0)) fun x13 =>
 xIte x13
  (k (.tup [(.int .i64 (.ofNat 0)), (.int .i64 (.ofNat 0)), x11]) h4)
  (xLoad (some (some 1024)) x12 h4 fun x14 =>
  xIdx (some (none, 1)) v2 (.int .i64 (.ofNat 0)) fun x15 =>
  xLoad (some none) x15 h4 fun x16 =>
  xBin (some (.int .i64)) .mul (.int .i64 (.ofNat 4)) x16 fun x17 =>
  c154_1 x14 x17 h4 v2 r154 v0 k)
noncomputable abbrev c154_3 (x5 : CV) (k : CV → CH → Bool) (v1 : CV) (h1 : CH) (v0 : CV) (v2 : CV) (r154 : Ex) : Bool :=
 xIte x5
  (k (.tup [v1, (.int .i64 (.ofNat 1)), (.int .i64 (.ofNat 0))]) h1)
  (xNilCheck v0 fun x6 =>
  xAddr (some 0) x6 fun x7 =>
  xLoad (some none) x7 h1 fun x8 =>
  bd68 x8 v1 h1 fun x9 h2 =>
  xExtract x9 0 fun x10 =>
  xExtract x9 1 fun x11 =>
  xBoxP 39 [(.bytes 1024 0)] h2 fun x12 h3 =>
  xStore (some 1024) x12 x10 h3 fun h4 =>
  c154_2 x11 k h4 x12 v2 r154 v0)
noncomputable abbrev c154_4 (x2 : CV) (k : CV → CH → Bool) (x1 : CV) (h1 : CH) (v1 : CV) (v2 : CV) (v0 : CV) (r154 : Ex) : Bool :=
 xIte x2
  (k (.tup [(.int .i64 (.ofNat 0)), (.int .i64 (.ofNat 0)), x1]) h1)
  (xBin (some (.int .i64)) .eql v1 (.int .i64 (.ofNat 0)) fun x3 =>
  xIte x3
   (k (.tup [(.int .i64 (.ofNat 0)), (.int .i64 (.ofNat 0)), (.int .i64 (.ofNat 0))]) h1)
   (xLen (some (.inl false)) v2 fun x4 =>
   xBin (some (.int .i64)) .eql x4 (.int .i64 (.ofNat 0)) fun x5 =>
   c154_3 x5 k v1 h1 v0 v2 r154))
noncomputable def bd154 (r154 : Ex) (v0 v1 v2 : CV) (h : CH) (k : CV → CH → Bool) : Bool :=
 bd158 v0 v1 h fun x1 h1 =>
 xBin (some (.int .i64)) .neq x1 (.int .i64 (.ofNat 0)) fun x2 =>
 c154_4 x2 k x1 h1 v1 v2 v0 r154
noncomputable def rc154 : Nat → Nat → Ex := fun n => Nat.rec (motive := fun _ => Nat → Ex) (fun _ _ _ _ => false) (fun _ ih j => match j with
  | 0 => fun args h k => a3 args (fun v0 v1 v2 => bd154 (ih 0) v0 v1 v2 h k)
  | _ => fun _ _ _ => false) n
set_option maxRecDepth 100000 in
theorem sr154 : ∀ n, SimF Tryz.prog 154 (rc154 n 0)
  | 0 => fun args h k hk => by cases hk
  | n + 1 => by
    have ih := sr154 n
    have i154 := ih
    · intro args h k hk
      obtain ⟨v0, v1, v2, rfl, hk⟩ := a3_ok hk
      exact sim_of (qf := (fun f => [75, 120, 121, 140, 144, 145, 146, 147, 148, 175, 181, 196, 197, 210, 220, 246].contains f)) (Z := zs) (C := [(154, rc154 n 0), (158, ex158), (68, ex68), (146, ex146)]) (T := []) ⟨zerosB_ok zsOk, (exCons (by kernel_rfl) i154 (exCons (by kernel_rfl) sim158 (exCons (by kernel_rfl) sim68 (exCons (by kernel_rfl) sim146 exNil))))⟩ .nil Tryz.func154 _ h k (Eq.mp (by kernel_rfl : (bd154 (rc154 n 0) v0 v1 v2 h k = true) = (xFn Tryz.prog (fun f => [75, 120, 121, 140, 144, 145, 146, 147, 148, 175, 181, 196, 197, 210, 220, 246].contains f) zs [(154, rc154 n 0), (158, ex158), (68, ex68), (146, ex146)] [] Tryz.f154 .nil [v0, v1, v2] h k = true)) hk)
noncomputable abbrev ex154 : Ex := rc154 1000 0
theorem sim154 : SimF Tryz.prog 154 ex154 := sr154 1000

/- (*undercroft/chart.file).at -/
noncomputable abbrev c103_1 (x4 : CV) (k : CV → CH → Bool) (h2 : CH) (x3 : CV) (x6 : CV) (x5 : CV) : Bool :=
 xExtract x4 2 fun x7 =>
 xBin (some (.int .i64)) .neq x7 (.int .i64 (.ofNat 0)) fun x8 =>
 xIte x8
  (k (.tup [(.int .i64 (.ofNat 0)), (.int .i64 (.ofNat 0)), x7]) h2)
  (xLen (some (.inl false)) x3 fun x9 =>
  xBin (some (.int .i64)) .add x9 (.int .i64 (.ofNat 1)) fun x10 =>
  xBin (some (.int .i64)) .sub x10 x6 fun x11 =>
  k (.tup [x5, x11, (.int .i64 (.ofNat 0))]) h2)
noncomputable def bd103 (v0 v1 : CV) (h : CH) (k : CV → CH → Bool) : Bool :=
 bd106 v0 v1 h fun x1 h1 =>
 xExtract x1 0 fun x2 =>
 xExtract x1 1 fun x3 =>
 ex154 [v0, x2, x3] h1 fun x4 h2 =>
 xExtract x4 0 fun x5 =>
 xExtract x4 1 fun x6 =>
 c103_1 x4 k h2 x3 x6 x5
noncomputable abbrev ex103 : Ex := fun args h k => a2 args fun v0 v1 => bd103 v0 v1 h k
set_option maxRecDepth 100000 in
theorem sim103 : SimF Tryz.prog 103 ex103 := fun args h k hk => by
  obtain ⟨v0, v1, rfl, hk⟩ := a2_ok hk
  exact sim_of (qf := (fun f => [75, 120, 121, 140, 144, 145, 146, 147, 148, 175, 181, 196, 197, 210, 220, 246].contains f)) (Z := zs) (C := [(106, ex106), (154, ex154)]) (T := []) ⟨zerosB_ok zsOk, (exCons (by kernel_rfl) sim106 (exCons (by kernel_rfl) sim154 exNil))⟩ .nil Tryz.func103 _ h k (Eq.mp (by kernel_rfl : (bd103 v0 v1 h k = true) = (xFn Tryz.prog (fun f => [75, 120, 121, 140, 144, 145, 146, 147, 148, 175, 181, 196, 197, 210, 220, 246].contains f) zs [(106, ex106), (154, ex154)] [] Tryz.f103 .nil [v0, v1] h k = true)) hk)

/- undercroft/chart.At -/
noncomputable abbrev c51_1 (k : CV → CH → Bool) (x2 : CV) (v2 : CV) (h1 : CH) : Bool :=
 xJoin (n := 1) (fun s4 h2 =>
  xIte s4.1
   (k (.tup [(.int .i64 (.ofNat 0)), (.int .i64 (.ofNat 2))]) h2)
   (bd103 x2 v2 h2 fun x6 h3 =>
   xExtract x6 0 fun x7 =>
   xExtract x6 1 fun x8 =>
   xExtract x6 2 fun x9 =>
   k (.tup [x7, x9]) h3))
 (fun K9 => xBin (some (.int .i64)) .lss v2 (.int .i64 (.ofNat 0)) fun x11 =>
 xIte x11
  (K9 ((.bool true), ()) h1)
  (xBin (some (.int .i64)) .geq v2 (.int .i64 (.ofNat 65802)) fun x12 =>
  K9 (x12, ()) h1))
noncomputable def bd51 (v0 v1 v2 : CV) (h : CH) (k : CV → CH → Bool) : Bool :=
 bd102 v0 v1 (.bool false) h fun x1 h1 =>
 xExtract x1 0 fun x2 =>
 xExtract x1 1 fun x3 =>
 xBin (some (.int .i64)) .neq x3 (.int .i64 (.ofNat 0)) fun x4 =>
 xIte x4
  (k (.tup [(.int .i64 (.ofNat 0)), x3]) h1)
  (c51_1 k x2 v2 h1)
noncomputable abbrev ex51 : Ex := fun args h k => a3 args fun v0 v1 v2 => bd51 v0 v1 v2 h k
set_option maxRecDepth 100000 in
theorem sim51 : SimF Tryz.prog 51 ex51 := fun args h k hk => by
  obtain ⟨v0, v1, v2, rfl, hk⟩ := a3_ok hk
  exact sim_of (qf := (fun f => [75, 120, 121, 140, 144, 145, 146, 147, 148, 175, 181, 196, 197, 210, 220, 246].contains f)) (Z := zs) (C := [(102, ex102), (103, ex103)]) (T := []) ⟨zerosB_ok zsOk, (exCons (by kernel_rfl) sim102 (exCons (by kernel_rfl) sim103 exNil))⟩ (.seq .nil (.seq .nil (.seq .nil (.seq (.join [26] [21, 22, 23, 24, 25] .nil .nil) .nil)))) Tryz.func51 _ h k (Eq.mp (by kernel_rfl : (bd51 v0 v1 v2 h k = true) = (xFn Tryz.prog (fun f => [75, 120, 121, 140, 144, 145, 146, 147, 148, 175, 181, 196, 197, 210, 220, 246].contains f) zs [(102, ex102), (103, ex103)] [] Tryz.f51 (.seq .nil (.seq .nil (.seq .nil (.seq (.join [26] [21, 22, 23, 24, 25] .nil .nil) .nil)))) [v0, v1, v2] h k = true)) hk)

/- undercroft/fetch.Read -/
noncomputable abbrev c18_1 (x27 : CV) (v2 : CV) (x20 : CV) (x39 : CV) (s20 : TupC 1) (x37 : CV) (h10 : CH) (K21 : TupC 1 → CH → Bool) : Bool :=
 xBin (some (.int .i64)) .sub x27 v2 fun x40 =>
 xBin (some (.int .i64)) .sub x27 v2 fun x41 =>
 xSlice (some (none, 1)) x20 (some x39) (some x40) (some x41) fun x42 =>
 xBin (some (.int .i64)) .rem s20.1 (.int .i64 (.ofNat 1024)) fun x43 =>
 xSlice (some (some 1024, 1)) x37 (some x43) none none fun x44 =>
 xCopy (some (5, 1, 1, true)) x42 x44 h10 fun x45 h11 =>
 K21 (x27, ()) h11
noncomputable abbrev c18_2 (v0 : CV) (x30 : CV) (h7 : CH) (k : CV → CH → Bool) (s20 : TupC 1) (v2 : CV) (x27 : CV) (x20 : CV) (K21 : TupC 1 → CH → Bool) : Bool :=
 bd68 v0 x30 h7 fun x34 h8 =>
 xExtract x34 0 fun x35 =>
 xExtract x34 1 fun x36 =>
 xBoxP 39 [(.bytes 1024 0)] h8 fun x37 h9 =>
 xStore (some 1024) x37 x35 h9 fun h10 =>
 xBin (some (.int .i64)) .neq x36 (.int .i64 (.ofNat 0)) fun x38 =>
 xIte x38
  (k (.tup [.nils, x36]) h10)
  (xBin (some (.int .i64)) .sub s20.1 v2 fun x39 =>
  c18_1 x27 v2 x20 x39 s20 x37 h10 K21)
noncomputable abbrev c18_3 (s20 : TupC 1) (v0 : CV) (v1 : CV) (h6 : CH) (k : CV → CH → Bool) (v2 : CV) (x27 : CV) (x20 : CV) (K21 : TupC 1 → CH → Bool) : Bool :=
 xBin (some (.int .i64)) .quo s20.1 (.int .i64 (.ofNat 1024)) fun x28 =>
 bd51 v0 v1 x28 h6 fun x29 h7 =>
 xExtract x29 0 fun x30 =>
 xExtract x29 1 fun x31 =>
 xBin (some (.int .i64)) .neq x31 (.int .i64 (.ofNat 0)) fun x32 =>
 xIte x32
  (k (.tup [.nils, x31]) h7)
  (xBin (some (.int .i64)) .neq x30 (.int .i64 (.ofNat 0)) fun x33 =>
  xIte x33
   (c18_2 v0 x30 h7 k s20 v2 x27 x20 K21)
   (K21 (x27, ()) h7))
noncomputable abbrev c18_4 (s20 : TupC 1) (x18 : CV) (v0 : CV) (v1 : CV) (h6 : CH) (k : CV → CH → Bool) (v2 : CV) (x20 : CV) (K21 : TupC 1 → CH → Bool) : Bool :=
 xBin (some (.int .i64)) .lss s20.1 x18 fun x23 =>
 xIte x23
  (xBin (some (.int .i64)) .quo s20.1 (.int .i64 (.ofNat 1024)) fun x24 =>
  xBin (some (.int .i64)) .add x24 (.int .i64 (.ofNat 1)) fun x25 =>
  xBin (some (.int .i64)) .mul x25 (.int .i64 (.ofNat 1024)) fun x26 =>
  xMin x18 x26 fun x27 =>
  c18_3 s20 v0 v1 h6 k v2 x27 x20 K21)
  (k (.tup [x20, (.int .i64 (.ofNat 0))]) h6)
noncomputable abbrev c18_5 (x4 : CV) (h4 : CH) (x14 : CV) (v2 : CV) (v0 : CV) (v1 : CV) (k : CV → CH → Bool) : Bool :=
 xAddr (some 2) x4 fun x15 =>
 xLoad (some none) x15 h4 fun x16 =>
 xConv (some (.int .u32)) (some (.int .i64)) x16 fun x17 =>
 xMin x14 x17 fun x18 =>
 xBin (some (.int .i64)) .sub x18 v2 fun x19 =>
 xMake (some (5, 1, 1, true)) (some [(.bytes 1 0)]) x19 x19 h4 fun x20 h5 =>
 xLoop (n := 1) (fun K21 s20 h6 =>
  c18_4 s20 x18 v0 v1 h6 k v2 x20 K21) 1000000 (v2, ()) h5
noncomputable abbrev c18_6 (x9 : CV) (k : CV → CH → Bool) (h4 : CH) (x4 : CV) (v2 : CV) (v3 : CV) (v0 : CV) (v1 : CV) : Bool :=
 xIte x9
  (k (.tup [.nils, (.int .i64 (.ofNat 4))]) h4)
  (xAddr (some 2) x4 fun x10 =>
  xLoad (some none) x10 h4 fun x11 =>
  xConv (some (.int .u32)) (some (.int .i64)) x11 fun x12 =>
  xBin (some (.int .i64)) .geq v2 x12 fun x13 =>
  xIte x13
   (k (.tup [.nils, (.int .i64 (.ofNat 0))]) h4)
   (xBin (some (.int .i64)) .add v2 v3 fun x14 =>
   c18_5 x4 h4 x14 v2 v0 v1 k))
noncomputable abbrev c18_7 (k : CV → CH → Bool) (x4 : CV) (v2 : CV) (v3 : CV) (v0 : CV) (v1 : CV) (h3 : CH) : Bool :=
 xJoin (n := 1) (fun s5 h4 =>
  xIte s5.1
   (k (.tup [.nils, (.int .i64 (.ofNat 2))]) h4)
   (xAddr (some 0) x4 fun x7 =>
   xLoad (some none) x7 h4 fun x8 =>
   xBin (some (.int .u16)) .eql x8 (.int .u16 (.ofNat 0)) fun x9 =>
   c18_6 x9 k h4 x4 v2 v3 v0 v1))
 (fun K45 => xBin (some (.int .i64)) .lss v2 (.int .i64 (.ofNat 0)) fun x47 =>
 xIte x47
  (K45 ((.bool true), ()) h3)
  (xBin (some (.int .i64)) .lss v3 (.int .i64 (.ofNat 0)) fun x48 =>
  xIte x48
   (K45 ((.bool true), ()) h3)
   (xBin (some (.int .i64)) .gtr v3 (.int .i64 (.ofNat 65536)) fun x49 =>
   K45 (x49, ()) h3)))
noncomputable abbrev c18_8 (h1 : CH) (x2 : CV) (x3 : CV) (k : CV → CH → Bool) (v2 : CV) (v3 : CV) (v0 : CV) (v1 : CV) : Bool :=
 xBoxP 68 [(.int .u16 (.ofNat 0)), (.int .u16 (.ofNat 0)), (.int .u32 (.ofNat 0)), (.int .u32 (.ofNat 0)), (.int .u32 (.ofNat 0)), (.int .u32 (.ofNat 0)), (.int .u32 (.ofNat 0)), (.int .u32 (.ofNat 0)), (.int .u32 (.ofNat 0)), (.int .u32 (.ofNat 0)), (.int .u32 (.ofNat 0)), (.int .u32 (.ofNat 0)), (.int .u32 (.ofNat 0)), (.int .u32 (.ofNat 0)), (.int .u32 (.ofNat 0)), (.int .u32 (.ofNat 0))] h1 fun x4 h2 =>
 xStore (some 16) x4 x2 h2 fun h3 =>
 xBin (some (.int .i64)) .neq x3 (.int .i64 (.ofNat 0)) fun x5 =>
 xIte x5
  (k (.tup [.nils, x3]) h3)
  (c18_7 k x4 v2 v3 v0 v1 h3)
noncomputable def bd18 (v0 v1 v2 v3 : CV) (h : CH) (k : CV → CH → Bool) : Bool :=
 bd28 v0 v1 h fun x1 h1 =>
 xExtract x1 0 fun x2 =>
 xExtract x1 1 fun x3 =>
 c18_8 h1 x2 x3 k v2 v3 v0 v1
noncomputable abbrev ex18 : Ex := fun args h k => a4 args fun v0 v1 v2 v3 => bd18 v0 v1 v2 v3 h k
set_option maxRecDepth 100000 in
theorem sim18 : SimF Tryz.prog 18 ex18 := fun args h k hk => by
  obtain ⟨v0, v1, v2, v3, rfl, hk⟩ := a4_ok hk
  exact sim_of (qf := (fun f => [75, 120, 121, 140, 144, 145, 146, 147, 148, 175, 181, 196, 197, 210, 220, 246].contains f)) (Z := zs) (C := [(28, ex28), (51, ex51), (68, ex68)]) (T := []) ⟨zerosB_ok zsOk, (exCons (by kernel_rfl) sim28 (exCons (by kernel_rfl) sim51 (exCons (by kernel_rfl) sim68 exNil)))⟩ (.seq .nil (.seq .nil (.seq (.seq .nil (.cond .nil (.join [30] [31, 32, 33, 34, 35, 36, 37, 38, 39, 40] .nil .nil))) (.seq .nil (.seq .nil (.seq .nil (.seq (.seq .nil (.loop [14] [62, 63, 64, 65, 66, 67, 68, 69, 70, 15, 72, 73, 74, 75, 76, 71, 77, 78, 16, 17, 79, 80, 81, 8, 9, 82, 83, 85, 86, 87, 84, 88, 89, 18, 19, 90, 91, 92, 93, 94, 95, 96, 97, 98, 99, 100, 101, 102, 103, 104, 105, 106, 107, 108] .nil)) .nil))))))) Tryz.func18 _ h k (Eq.mp (by kernel_rfl : (bd18 v0 v1 v2 v3 h k = true) = (xFn Tryz.prog (fun f => [75, 120, 121, 140, 144, 145, 146, 147, 148, 175, 181, 196, 197, 210, 220, 246].contains f) zs [(28, ex28), (51, ex51), (68, ex68)] [] Tryz.f18 (.seq .nil (.seq .nil (.seq (.seq .nil (.cond .nil (.join [30] [31, 32, 33, 34, 35, 36, 37, 38, 39, 40] .nil .nil))) (.seq .nil (.seq .nil (.seq .nil (.seq (.seq .nil (.loop [14] [62, 63, 64, 65, 66, 67, 68, 69, 70, 15, 72, 73, 74, 75, 76, 71, 77, 78, 16, 17, 79, 80, 81, 8, 9, 82, 83, 85, 86, 87, 84, 88, 89, 18, 19, 90, 91, 92, 93, 94, 95, 96, 97, 98, 99, 100, 101, 102, 103, 104, 105, 106, 107, 108] .nil)) .nil))))))) [v0, v1, v2, v3] h k = true)) hk)

/- undercroft/slab.SetU16 -/
noncomputable abbrev c147_1 (v2 : CV) (x1 : CV) (v1 : CV) (h5 : CH) (x8 : CV) (K5 : TupC 0 → CH → Bool) : Bool :=
 xConv (some (.int .u16)) (some (.int .u8)) v2 fun x9 =>
 xBin (some (.int .u16)) .shr v2 (.int .u64 (.ofNat 8)) fun x10 =>
 xConv (some (.int .u16)) (some (.int .u8)) x10 fun x11 =>
 xIdx (some (some 1024, 1)) x1 v1 fun x12 =>
 xStore (some 1) x12 x9 h5 fun h6 =>
 xIdx (some (some 1024, 1)) x1 x8 fun x13 =>
 xStore (some 1) x13 x11 h6 fun h7 =>
 K5 (()) h7
noncomputable abbrev c147_2 (h1 : CH) (x1 : CV) (k : CV → CH → Bool) (v1 : CV) (v2 : CV) : Bool :=
 xBoxP 39 [(.bytes 1024 0)] h1 fun x2 h2 =>
 xJoin (n := 0) (fun s2 h3 =>
  xLoad (some (some 1024)) x1 h3 fun x4 =>
  xStore (some 1024) x2 x4 h3 fun h4 =>
  xLoad (some (some 1024)) x2 h4 fun x5 =>
  k x5 h4)
 (fun K5 => bd191 v1 (.int .i64 (.ofNat 2)) h2 fun x7 h5 =>
 xIte x7
  (xBin (some (.int .i64)) .add v1 (.int .i64 (.ofNat 1)) fun x8 =>
  c147_1 v2 x1 v1 h5 x8 K5)
  (K5 (()) h5))
noncomputable def bd147 (v0 v1 v2 : CV) (h : CH) (k : CV → CH → Bool) : Bool :=
 xBox 39 v0 h fun x1 h1 =>
 c147_2 h1 x1 k v1 v2
noncomputable abbrev ex147 : Ex := fun args h k => a3 args fun v0 v1 v2 => bd147 v0 v1 v2 h k
set_option maxRecDepth 100000 in
theorem sim147 : SimF Tryz.prog 147 ex147 := fun args h k hk => by
  obtain ⟨v0, v1, v2, rfl, hk⟩ := a3_ok hk
  exact sim_of (qf := (fun f => [75, 120, 121, 140, 144, 145, 146, 147, 148, 175, 181, 196, 197, 210, 220, 246].contains f)) (Z := zs) (C := [(191, ex191)]) (T := []) ⟨zerosB_ok zsOk, (exCons (by kernel_rfl) sim191 exNil)⟩ (.seq .nil (.join [] [7, 8, 9, 10, 11, 12, 13, 14, 15, 16, 17, 18] .nil .nil)) Tryz.func147 _ h k (Eq.mp (by kernel_rfl : (bd147 v0 v1 v2 h k = true) = (xFn Tryz.prog (fun f => [75, 120, 121, 140, 144, 145, 146, 147, 148, 175, 181, 196, 197, 210, 220, 246].contains f) zs [(191, ex191)] [] Tryz.f147 (.seq .nil (.join [] [7, 8, 9, 10, 11, 12, 13, 14, 15, 16, 17, 18] .nil .nil)) [v0, v1, v2] h k = true)) hk)

/- undercroft/entry.Encode -/
noncomputable abbrev co225_1 (x8 : CV) (x2 : CV) (h2 : CH) (k : CV → CH → Bool) : Bool :=
 xIte x8
  (xBuild (some (.inr 1)) (some (.agg [(.bytes 16 0)])) [] fun x9 =>
  xStore (some 16) x2 x9 h2 fun h3 =>
  xLoad (some (some 16)) x2 h3 fun x10 =>
  k (.tup [x10, (.int .i64 (.ofNat 4))]) h3)
  (xBuild (some (.inr 1)) (some (.agg [(.bytes 16 0)])) [] fun x11 =>
  xStore (some 16) x2 x11 h2 fun h4 =>
  xLoad (some (some 16)) x2 h4 fun x12 =>
  k (.tup [x12, (.int .i64 (.ofNat 0))]) h4)
noncomputable abbrev co225_2 (h9 : CH) (x26 : CV) (x2 : CV) (k : CV → CH → Bool) : Bool :=
 xBoxP 39 [(.bytes 1024 0)] h9 fun x27 h10 =>
 xStore (some 1024) x27 x26 h10 fun h11 =>
 xSlice (some (some 1024, 1)) x27 none (some (.int .i64 (.ofNat 16))) none fun x28 =>
 xArr (some 16) x28 fun x29 =>
 xLoad (some (some 16)) x29 h11 fun x30 =>
 xStore (some 16) x2 x30 h11 fun h12 =>
 xLoad (some (some 16)) x2 h12 fun x31 =>
 k (.tup [x31, (.int .i64 (.ofNat 0))]) h12
noncomputable abbrev co225_3 (x1 : CV) (h5 : CH) (x2 : CV) (k : CV → CH → Bool) : Bool :=
 xBuild (some (.inr 1)) (some (.agg [(.bytes 1024 0)])) [] fun x19 =>
 xAddr (some 0) x1 fun x20 =>
 xLoad (some none) x20 h5 fun x21 =>
 xQuiet (some ex147) [x19, (.int .i64 (.ofNat 0)), x21] h5 fun x22 h7 =>
 xAddr (some 1) x1 fun x23 =>
 xLoad (some none) x23 h7 fun x24 =>
 xBytesOf (some (5, 1, 1, true)) x24 h7 fun x25 h8 =>
 xQuiet (some ex144) [x22, (.int .i64 (.ofNat 2)), x25] h8 fun x26 h9 =>
 co225_2 h9 x26 x2 k
noncomputable abbrev co225_4 (x1 : CV) (h2 : CH) (x2 : CV) (k : CV → CH → Bool) : Bool :=
 xAddr (some 1) x1 fun x13 =>
 xLoad (some none) x13 h2 fun x14 =>
 bd149 x14 h2 fun x15 h5 =>
 xBin (some (.int .i64)) .neq x15 (.int .i64 (.ofNat 0)) fun x16 =>
 xIte x16
  (xBuild (some (.inr 1)) (some (.agg [(.bytes 16 0)])) [] fun x17 =>
  xStore (some 16) x2 x17 h5 fun h6 =>
  xLoad (some (some 16)) x2 h6 fun x18 =>
  k (.tup [x18, x15]) h6)
  (co225_3 x1 h5 x2 k)
noncomputable def bo225 (v0 : CV) (h : CH) (k : CV → CH → Bool) : Bool :=
 xBox 37 v0 h fun x1 h1 =>
 xBoxP 276 [(.bytes 16 0)] h1 fun x2 h2 =>
 xAddr (some 0) x1 fun x3 =>
 xLoad (some none) x3 h2 fun x4 =>
 xBin (some (.int .u16)) .eql x4 (.int .u16 (.ofNat 0)) fun x5 =>
 xIte x5
  (xAddr (some 1) x1 fun x6 =>
  xLoad (some none) x6 h2 fun x7 =>
  xBin (some .string) .neq x7 (.str ⟨#[]⟩) fun x8 =>
  co225_1 x8 x2 h2 k)
  (co225_4 x1 h2 x2 k)
noncomputable abbrev exo225 : Ex := fun args h k => a1 args fun v0 => bo225 v0 h k
set_option maxRecDepth 100000 in
theorem one225 : One exo225 := by
  intro args h k hk
  obtain ⟨v0, rfl, hk⟩ := a1_ok hk
  exact one_of (qf := (fun f => [75, 120, 121, 140, 144, 145, 146, 147, 148, 175, 181, 196, 197, 210, 220, 246].contains f)) (Z := zs) (C := [(149, ex149), (147, ex147), (144, ex144)]) (T := [(8, .raw [0, 1, 2, 3, 4, 5, 6, 7, 8, 9])]) ⟨zerosB_ok zsOk, (exCons (by kernel_rfl) sim149 (exCons (by kernel_rfl) sim147 (exCons (by kernel_rfl) sim144 exNil)))⟩ (by kernel_rfl) .nil _ h k (Eq.mp (by kernel_rfl : (bo225 v0 h k = true) = (xFn1 Tryz.prog (fun f => [75, 120, 121, 140, 144, 145, 146, 147, 148, 175, 181, 196, 197, 210, 220, 246].contains f) zs [(149, ex149), (147, ex147), (144, ex144)] [(8, .raw [0, 1, 2, 3, 4, 5, 6, 7, 8, 9])] Tryz.f225 .nil [v0] h k = true)) hk)
noncomputable abbrev cg225_1 (x8 : CV) (x2 : CV) (h2 : CH) (k : CV → CH → Bool) : Bool :=
 xIte x8
  (xBuild (some (.inr 1)) (some (.agg [(.bytes 16 0)])) [] fun x9 =>
  xStore (some 16) x2 x9 h2 fun h3 =>
  xLoad (some (some 16)) x2 h3 fun x10 =>
  k (.tup [x10, (.int .i64 (.ofNat 4))]) h3)
  (xBuild (some (.inr 1)) (some (.agg [(.bytes 16 0)])) [] fun x11 =>
  xStore (some 16) x2 x11 h2 fun h4 =>
  xLoad (some (some 16)) x2 h4 fun x12 =>
  k (.tup [x12, (.int .i64 (.ofNat 0))]) h4)
noncomputable abbrev cg225_2 (x26 : CV) (x24 : CV) (h9 : CH) (x23 : CV) (x2 : CV) (k : CV → CH → Bool) : Bool :=
 xQuiet (some ex144) [x26, (.int .i64 (.ofNat 2)), x24] h9 fun x27 h10 =>
 xStore (some 1024) x23 x27 h10 fun h11 =>
 xSlice (some (some 1024, 1)) x23 none (some (.int .i64 (.ofNat 16))) none fun x28 =>
 xArr (some 16) x28 fun x29 =>
 xLoad (some (some 16)) x29 h11 fun x30 =>
 xStore (some 16) x2 x30 h11 fun h12 =>
 xLoad (some (some 16)) x2 h12 fun x31 =>
 k (.tup [x31, (.int .i64 (.ofNat 0))]) h12
noncomputable abbrev cg225_3 (x34 : CV) (x33 : CV) (h14 : CH) (x23 : CV) (x2 : CV) (k : CV → CH → Bool) : Bool :=
 xQuiet (some ex144) [x34, (.int .i64 (.ofNat 2)), x33] h14 fun x35 h15 =>
 xStore (some 1024) x23 x35 h15 fun h16 =>
 xSlice (some (some 1024, 1)) x23 none (some (.int .i64 (.ofNat 16))) none fun x36 =>
 xArr (some 16) x36 fun x37 =>
 xLoad (some (some 16)) x37 h16 fun x38 =>
 xStore (some 16) x2 x38 h16 fun h17 =>
 xLoad (some (some 16)) x2 h17 fun x39 =>
 k (.tup [x39, (.int .i64 (.ofNat 0))]) h17
noncomputable abbrev cg225_4 (x40 : CV) (x41 : CV) (h19 : CH) (x23 : CV) (x2 : CV) (k : CV → CH → Bool) : Bool :=
 xQuiet (some ex144) [x40, (.int .i64 (.ofNat 2)), x41] h19 fun x42 h20 =>
 xStore (some 1024) x23 x42 h20 fun h21 =>
 xSlice (some (some 1024, 1)) x23 none (some (.int .i64 (.ofNat 16))) none fun x43 =>
 xArr (some 16) x43 fun x44 =>
 xLoad (some (some 16)) x44 h21 fun x45 =>
 xStore (some 16) x2 x45 h21 fun h22 =>
 xLoad (some (some 16)) x2 h22 fun x46 =>
 k (.tup [x46, (.int .i64 (.ofNat 0))]) h22
noncomputable abbrev cg225_5 (x20 : CV) (h7 : CH) (x19 : CV) (x22 : CV) (x23 : CV) (x2 : CV) (k : CV → CH → Bool) : Bool :=
 both
  (xLoad (some none) x20 h7 fun x32 =>
  both
   (xQuiet (some ex147) [x19, (.int .i64 (.ofNat 0)), x32] h7 fun x40 h18 =>
   xBytesOf (some (5, 1, 1, true)) x22 h18 fun x41 h19 =>
   cg225_4 x40 x41 h19 x23 x2 k)
   (both
    (xBytesOf (some (5, 1, 1, true)) x22 h7 fun x33 h13 =>
    xQuiet (some ex147) [x19, (.int .i64 (.ofNat 0)), x32] h13 fun x34 h14 =>
    cg225_3 x34 x33 h14 x23 x2 k)
    (true)))
  (both
   (xBytesOf (some (5, 1, 1, true)) x22 h7 fun x24 h8 =>
   xLoad (some none) x20 h8 fun x25 =>
   xQuiet (some ex147) [x19, (.int .i64 (.ofNat 0)), x25] h8 fun x26 h9 =>
   cg225_2 x26 x24 h9 x23 x2 k)
   (true))
noncomputable abbrev cg225_6 (h25 : CH) (x50 : CV) (x2 : CV) (k : CV → CH → Bool) : Bool :=
 xBoxP 39 [(.bytes 1024 0)] h25 fun x51 h26 =>
 xStore (some 1024) x51 x50 h26 fun h27 =>
 xSlice (some (some 1024, 1)) x51 none (some (.int .i64 (.ofNat 16))) none fun x52 =>
 xArr (some 16) x52 fun x53 =>
 xLoad (some (some 16)) x53 h27 fun x54 =>
 xStore (some 16) x2 x54 h27 fun h28 =>
 xLoad (some (some 16)) x2 h28 fun x55 =>
 k (.tup [x55, (.int .i64 (.ofNat 0))]) h28
noncomputable abbrev cg225_7 (x59 : CV) (x58 : CV) (h31 : CH) (x57 : CV) (x2 : CV) (k : CV → CH → Bool) : Bool :=
 xQuiet (some ex144) [x59, (.int .i64 (.ofNat 2)), x58] h31 fun x60 h32 =>
 xStore (some 1024) x57 x60 h32 fun h33 =>
 xSlice (some (some 1024, 1)) x57 none (some (.int .i64 (.ofNat 16))) none fun x61 =>
 xArr (some 16) x61 fun x62 =>
 xLoad (some (some 16)) x62 h33 fun x63 =>
 xStore (some 16) x2 x63 h33 fun h34 =>
 xLoad (some (some 16)) x2 h34 fun x64 =>
 k (.tup [x64, (.int .i64 (.ofNat 0))]) h34
noncomputable abbrev cg225_8 (x65 : CV) (x66 : CV) (h36 : CH) (x57 : CV) (x2 : CV) (k : CV → CH → Bool) : Bool :=
 xQuiet (some ex144) [x65, (.int .i64 (.ofNat 2)), x66] h36 fun x67 h37 =>
 xStore (some 1024) x57 x67 h37 fun h38 =>
 xSlice (some (some 1024, 1)) x57 none (some (.int .i64 (.ofNat 16))) none fun x68 =>
 xArr (some 16) x68 fun x69 =>
 xLoad (some (some 16)) x69 h38 fun x70 =>
 xStore (some 16) x2 x70 h38 fun h39 =>
 xLoad (some (some 16)) x2 h39 fun x71 =>
 k (.tup [x71, (.int .i64 (.ofNat 0))]) h39
noncomputable abbrev cg225_9 (x19 : CV) (x56 : CV) (h29 : CH) (x22 : CV) (x57 : CV) (x2 : CV) (k : CV → CH → Bool) : Bool :=
 both
  (xQuiet (some ex147) [x19, (.int .i64 (.ofNat 0)), x56] h29 fun x65 h35 =>
  xBytesOf (some (5, 1, 1, true)) x22 h35 fun x66 h36 =>
  cg225_8 x65 x66 h36 x57 x2 k)
  (both
   (xBytesOf (some (5, 1, 1, true)) x22 h29 fun x58 h30 =>
   xQuiet (some ex147) [x19, (.int .i64 (.ofNat 0)), x56] h30 fun x59 h31 =>
   cg225_7 x59 x58 h31 x57 x2 k)
   (true))
noncomputable abbrev cg225_10 (h42 : CH) (x74 : CV) (x2 : CV) (k : CV → CH → Bool) : Bool :=
 xBoxP 39 [(.bytes 1024 0)] h42 fun x75 h43 =>
 xStore (some 1024) x75 x74 h43 fun h44 =>
 xSlice (some (some 1024, 1)) x75 none (some (.int .i64 (.ofNat 16))) none fun x76 =>
 xArr (some 16) x76 fun x77 =>
 xLoad (some (some 16)) x77 h44 fun x78 =>
 xStore (some 16) x2 x78 h44 fun h45 =>
 xLoad (some (some 16)) x2 h45 fun x79 =>
 k (.tup [x79, (.int .i64 (.ofNat 0))]) h45
noncomputable abbrev cg225_11 (x80 : CV) (x82 : CV) (h48 : CH) (x81 : CV) (x2 : CV) (k : CV → CH → Bool) : Bool :=
 xQuiet (some ex144) [x80, (.int .i64 (.ofNat 2)), x82] h48 fun x83 h49 =>
 xStore (some 1024) x81 x83 h49 fun h50 =>
 xSlice (some (some 1024, 1)) x81 none (some (.int .i64 (.ofNat 16))) none fun x84 =>
 xArr (some 16) x84 fun x85 =>
 xLoad (some (some 16)) x85 h50 fun x86 =>
 xStore (some 16) x2 x86 h50 fun h51 =>
 xLoad (some (some 16)) x2 h51 fun x87 =>
 k (.tup [x87, (.int .i64 (.ofNat 0))]) h51
noncomputable abbrev cg225_12 (h53 : CH) (x89 : CV) (x2 : CV) (k : CV → CH → Bool) : Bool :=
 xBoxP 39 [(.bytes 1024 0)] h53 fun x90 h54 =>
 xStore (some 1024) x90 x89 h54 fun h55 =>
 xSlice (some (some 1024, 1)) x90 none (some (.int .i64 (.ofNat 16))) none fun x91 =>
 xArr (some 16) x91 fun x92 =>
 xLoad (some (some 16)) x92 h55 fun x93 =>
 xStore (some 16) x2 x93 h55 fun h56 =>
 xLoad (some (some 16)) x2 h56 fun x94 =>
 k (.tup [x94, (.int .i64 (.ofNat 0))]) h56
noncomputable abbrev cg225_13 (x19 : CV) (x56 : CV) (h5 : CH) (x22 : CV) (x2 : CV) (k : CV → CH → Bool) : Bool :=
 both
  (xQuiet (some ex147) [x19, (.int .i64 (.ofNat 0)), x56] h5 fun x80 h46 =>
  both
   (xBytesOf (some (5, 1, 1, true)) x22 h46 fun x88 h52 =>
   xQuiet (some ex144) [x80, (.int .i64 (.ofNat 2)), x88] h52 fun x89 h53 =>
   cg225_12 h53 x89 x2 k)
   (both
    (xBoxP 39 [(.bytes 1024 0)] h46 fun x81 h47 =>
    xBytesOf (some (5, 1, 1, true)) x22 h47 fun x82 h48 =>
    cg225_11 x80 x82 h48 x81 x2 k)
    (true)))
  (both
   (xBytesOf (some (5, 1, 1, true)) x22 h5 fun x72 h40 =>
   xQuiet (some ex147) [x19, (.int .i64 (.ofNat 0)), x56] h40 fun x73 h41 =>
   xQuiet (some ex144) [x73, (.int .i64 (.ofNat 2)), x72] h41 fun x74 h42 =>
   cg225_10 h42 x74 x2 k)
   (both
    (xBoxP 39 [(.bytes 1024 0)] h5 fun x57 h29 =>
    cg225_9 x19 x56 h29 x22 x57 x2 k)
    (true)))
noncomputable abbrev cg225_14 (x20 : CV) (h5 : CH) (x19 : CV) (x22 : CV) (x2 : CV) (k : CV → CH → Bool) : Bool :=
 both
  (xLoad (some none) x20 h5 fun x56 =>
  cg225_13 x19 x56 h5 x22 x2 k)
  (both
   (xBytesOf (some (5, 1, 1, true)) x22 h5 fun x47 h23 =>
   xLoad (some none) x20 h23 fun x48 =>
   xQuiet (some ex147) [x19, (.int .i64 (.ofNat 0)), x48] h23 fun x49 h24 =>
   xQuiet (some ex144) [x49, (.int .i64 (.ofNat 2)), x47] h24 fun x50 h25 =>
   cg225_6 h25 x50 x2 k)
   (both
    (xBoxP 39 [(.bytes 1024 0)] h5 fun x23 h7 =>
    cg225_5 x20 h7 x19 x22 x23 x2 k)
    (true)))
noncomputable abbrev cg225_15 (x16 : CV) (x2 : CV) (h5 : CH) (k : CV → CH → Bool) (x15 : CV) (x1 : CV) : Bool :=
 xIte x16
  (xBuild (some (.inr 1)) (some (.agg [(.bytes 16 0)])) [] fun x17 =>
  xStore (some 16) x2 x17 h5 fun h6 =>
  xLoad (some (some 16)) x2 h6 fun x18 =>
  k (.tup [x18, x15]) h6)
  (xBuild (some (.inr 1)) (some (.agg [(.bytes 1024 0)])) [] fun x19 =>
  xAddr (some 0) x1 fun x20 =>
  xAddr (some 1) x1 fun x21 =>
  xLoad (some none) x21 h5 fun x22 =>
  cg225_14 x20 h5 x19 x22 x2 k)
noncomputable abbrev cg225_16 (x4 : CV) (x1 : CV) (h2 : CH) (x2 : CV) (k : CV → CH → Bool) : Bool :=
 xBin (some (.int .u16)) .eql x4 (.int .u16 (.ofNat 0)) fun x5 =>
 xIte x5
  (xAddr (some 1) x1 fun x6 =>
  xLoad (some none) x6 h2 fun x7 =>
  xBin (some .string) .neq x7 (.str ⟨#[]⟩) fun x8 =>
  cg225_1 x8 x2 h2 k)
  (xAddr (some 1) x1 fun x13 =>
  xLoad (some none) x13 h2 fun x14 =>
  bd149 x14 h2 fun x15 h5 =>
  xBin (some (.int .i64)) .neq x15 (.int .i64 (.ofNat 0)) fun x16 =>
  cg225_15 x16 x2 h5 k x15 x1)
noncomputable def bg225 (v0 : CV) (h : CH) (k : CV → CH → Bool) : Bool :=
 xBox 37 v0 h fun x1 h1 =>
 xBoxP 276 [(.bytes 16 0)] h1 fun x2 h2 =>
 xAddr (some 0) x1 fun x3 =>
 xLoad (some none) x3 h2 fun x4 =>
 cg225_16 x4 x1 h2 x2 k
noncomputable abbrev exg225 : Ex := fun args h k => a1 args fun v0 => bg225 v0 h k
set_option maxRecDepth 100000 in
theorem simg225 : SimG Tryz.prog 225 exg225 := by
  intro args h k hk
  obtain ⟨v0, rfl, hk⟩ := a1_ok hk
  exact simG_of (qf := (fun f => [75, 120, 121, 140, 144, 145, 146, 147, 148, 175, 181, 196, 197, 210, 220, 246].contains f)) (Z := zs) (C := [(149, ex149), (147, ex147), (144, ex144)]) (T := [(8, .all (.fork [0, 1, 4, 5] (.cons 2 (.fork [] (.cons 3 (.fork [] (.cons 6 (.line [7, 8, 9]) (.cons 8 (.line [6, 7, 9]) .nil))) (.cons 6 (.line [3, 7, 8, 9]) (.cons 8 (.fork [] (.cons 3 (.line [6, 7, 9]) (.cons 6 (.line [3, 7, 9]) .nil))) .nil)))) (.cons 6 (.line [2, 3, 7, 8, 9]) (.cons 8 (.fork [] (.cons 2 (.fork [] (.cons 3 (.line [6, 7, 9]) (.cons 6 (.line [3, 7, 9]) .nil))) (.cons 6 (.line [2, 3, 7, 9]) .nil))) .nil)))))]) ⟨zerosB_ok zsOk, (exCons (by kernel_rfl) sim149 (exCons (by kernel_rfl) sim147 (exCons (by kernel_rfl) sim144 exNil)))⟩ .nil Tryz.func225 _ h k (Eq.mp (by kernel_rfl : (bg225 v0 h k = true) = (xFnG Tryz.prog (fun f => [75, 120, 121, 140, 144, 145, 146, 147, 148, 175, 181, 196, 197, 210, 220, 246].contains f) zs [(149, ex149), (147, ex147), (144, ex144)] [(8, .all (.fork [0, 1, 4, 5] (.cons 2 (.fork [] (.cons 3 (.fork [] (.cons 6 (.line [7, 8, 9]) (.cons 8 (.line [6, 7, 9]) .nil))) (.cons 6 (.line [3, 7, 8, 9]) (.cons 8 (.fork [] (.cons 3 (.line [6, 7, 9]) (.cons 6 (.line [3, 7, 9]) .nil))) .nil)))) (.cons 6 (.line [2, 3, 7, 8, 9]) (.cons 8 (.fork [] (.cons 2 (.fork [] (.cons 3 (.line [6, 7, 9]) (.cons 6 (.line [3, 7, 9]) .nil))) (.cons 6 (.line [2, 3, 7, 9]) .nil))) .nil)))))] Tryz.f225 .nil [v0] h k = true)) hk)
noncomputable abbrev ex225 : Ex := fun args h k => xQG exo225 exg225 args h k
theorem sim225 : SimF Tryz.prog 225 ex225 := simQG one225 simg225

/- undercroft/entry.Decode -/
noncomputable abbrev c193_1 (s23 : TupC 1) (x2 : CV) (h10 : CH) (k : CV → CH → Bool) (x18 : CV) : Bool :=
 xIte s23.1
  (xBuild (some (.inl [(0, 1), (1, 1)])) (some (.agg [(.int .u16 (.ofNat 0)), (.str ⟨#[]⟩)])) [] fun x25 =>
  xStore (some 2) x2 x25 h10 fun h11 =>
  xLoad (some (some 2)) x2 h11 fun x26 =>
  k (.tup [x26, (.int .i64 (.ofNat 4))]) h11)
  (xLoad (some (some 2)) x18 h10 fun x27 =>
  xStore (some 2) x2 x27 h10 fun h12 =>
  xLoad (some (some 2)) x2 h12 fun x28 =>
  k (.tup [x28, (.int .i64 (.ofNat 0))]) h12)
noncomputable abbrev c193_2 (x23 : CV) (x21 : CV) (h8 : CH) (x2 : CV) (k : CV → CH → Bool) (x18 : CV) (x22 : CV) (x1 : CV) : Bool :=
 xStore (some 16) x23 x21 h8 fun h9 =>
 xJoin (n := 1) (fun s23 h10 =>
  c193_1 s23 x2 h10 k x18)
 (fun K28 => xBin (some (.int .i64)) .neq x22 (.int .i64 (.ofNat 0)) fun x30 =>
 xIte x30
  (K28 ((.bool true), ()) h9)
  (xLoad (some (some 16)) x23 h9 fun x31 =>
  xLoad (some (some 16)) x1 h9 fun x32 =>
  xEq (some (.agg (.bytes 16))) .neq x31 x32 h9 fun x33 =>
  K28 (x33, ()) h9))
noncomputable abbrev c193_3 (x14 : CV) (x16 : CV) (h4 : CH) (x2 : CV) (k : CV → CH → Bool) (x1 : CV) : Bool :=
 xBuild (some (.inl [(0, 1), (1, 1)])) (some (.agg [(.int .u16 (.ofNat 0)), (.str ⟨#[]⟩)])) [(0, x14), (1, x16)] fun x17 =>
 xBoxP 37 [(.int .u16 (.ofNat 0)), (.str ⟨#[]⟩)] h4 fun x18 h5 =>
 xStore (some 2) x18 x17 h5 fun h6 =>
 xLoad (some (some 2)) x18 h6 fun x19 =>
 ex225 [x19] h6 fun x20 h7 =>
 xExtract x20 0 fun x21 =>
 xExtract x20 1 fun x22 =>
 xBoxP 276 [(.bytes 16 0)] h7 fun x23 h8 =>
 c193_2 x23 x21 h8 x2 k x18 x22 x1
noncomputable abbrev c193_4 (x1 : CV) (h4 : CH) (x9 : CV) (s2 : TupC 1) (x2 : CV) (k : CV → CH → Bool) : Bool :=
 xIdx (some (some 16, 1)) x1 (.int .i64 (.ofNat 1)) fun x10 =>
 xLoad (some none) x10 h4 fun x11 =>
 xConv (some (.int .u8)) (some (.int .u16)) x11 fun x12 =>
 xBin (some (.int .u16)) .shl x12 (.int .u64 (.ofNat 8)) fun x13 =>
 xBin (some (.int .u16)) .or x9 x13 fun x14 =>
 xSlice (some (some 16, 1)) x1 (some (.int .i64 (.ofNat 2))) (some s2.1) none fun x15 =>
 xStrOf x15 h4 fun x16 =>
 c193_3 x14 x16 h4 x2 k x1
noncomputable abbrev c193_5 (s2 : TupC 1) (K3 : TupC 1 → CH → Bool) (x1 : CV) (x2 : CV) (k : CV → CH → Bool) (h3 : CH) : Bool :=
 xJoin (n := 1) (fun s4 h4 =>
  xIte s4.1
   (xBin (some (.int .i64)) .add s2.1 (.int .i64 (.ofNat 1)) fun x6 =>
   K3 (x6, ()) h4)
   (xIdx (some (some 16, 1)) x1 (.int .i64 (.ofNat 0)) fun x7 =>
   xLoad (some none) x7 h4 fun x8 =>
   xConv (some (.int .u8)) (some (.int .u16)) x8 fun x9 =>
   c193_4 x1 h4 x9 s2 x2 k))
 (fun K33 => xBin (some (.int .i64)) .lss s2.1 (.int .i64 (.ofNat 16)) fun x35 =>
 xIte x35
  (xIdx (some (some 16, 1)) x1 s2.1 fun x36 =>
  xLoad (some none) x36 h3 fun x37 =>
  xBin (some (.int .u8)) .neq x37 (.int .u8 (.ofNat 0)) fun x38 =>
  K33 (x38, ()) h3)
  (K33 ((.bool false), ()) h3))
noncomputable def bd193 (v0 : CV) (h : CH) (k : CV → CH → Bool) : Bool :=
 xBox 276 v0 h fun x1 h1 =>
 xBoxP 37 [(.int .u16 (.ofNat 0)), (.str ⟨#[]⟩)] h1 fun x2 h2 =>
 xLoop (n := 1) (fun K3 s2 h3 =>
  c193_5 s2 K3 x1 x2 k h3) 1000000 ((.int .i64 (.ofNat 2)), ()) h2
noncomputable abbrev ex193 : Ex := fun args h k => a1 args fun v0 => bd193 v0 h k
set_option maxRecDepth 100000 in
theorem sim193 : SimF Tryz.prog 193 ex193 := fun args h k hk => by
  obtain ⟨v0, rfl, hk⟩ := a1_ok hk
  exact sim_of (qf := (fun f => [75, 120, 121, 140, 144, 145, 146, 147, 148, 175, 181, 196, 197, 210, 220, 246].contains f)) (Z := zs) (C := [(225, ex225)]) (T := []) ⟨zerosB_ok zsOk, (exCons (by kernel_rfl) sim225 exNil)⟩ (.seq .nil (.seq .nil (.seq (.loop [4] [8, 9, 10, 11, 12, 13, 14, 15, 16, 17] (.seq (.join [15] [8, 9, 10, 11, 12, 13, 14] .nil .nil) .nil)) (.seq .nil (.seq (.seq .nil (.join [41] [35, 36, 37, 38, 39, 40] .nil .nil)) .nil))))) Tryz.func193 _ h k (Eq.mp (by kernel_rfl : (bd193 v0 h k = true) = (xFn Tryz.prog (fun f => [75, 120, 121, 140, 144, 145, 146, 147, 148, 175, 181, 196, 197, 210, 220, 246].contains f) zs [(225, ex225)] [] Tryz.f193 (.seq .nil (.seq .nil (.seq (.loop [4] [8, 9, 10, 11, 12, 13, 14, 15, 16, 17] (.seq (.join [15] [8, 9, 10, 11, 12, 13, 14] .nil .nil) .nil)) (.seq .nil (.seq (.seq .nil (.join [41] [35, 36, 37, 38, 39, 40] .nil .nil)) .nil))))) [v0] h k = true)) hk)

/- round 0 of undercroft/dir.Find -/
noncomputable def rd930 : Ex := xRdN Tryz.prog (fun f => [75, 120, 121, 140, 144, 145, 146, 147, 148, 175, 181, 196, 197, 210, 220, 246].contains f) zs [] [(11, .tree [0, 1, 2, 3, 4, 5, 6] (.fork [0] (.cons 1 (.fork [] (.cons 2 (.fork [] (.cons 3 (.line [4, 5, 6]) (.cons 4 (.line [3, 5, 6]) .nil))) (.cons 4 (.line [2, 3, 5, 6]) .nil))) (.cons 4 (.line [1, 2, 3, 5, 6]) .nil))))] 930 .nil .nil
theorem simrd930 : SimRd Tryz.prog 930 rd930 := simRdN ⟨zerosB_ok zsOk, exNil⟩ (fun _ _ _ _ h => h)
/- undercroft/dir.each$1 -/
noncomputable abbrev c192_1 (x28 : CV) (v4 : CV) (h7 : CH) (x26 : CV) (k : CV → CH → Bool) (s0 : TupC 1) (s14 : TupC 1) (x27 : CV) (v0 : CV) (K15 : TupC 1 → CH → Bool) : Bool :=
 xIte x28
  (xLoad (some none) v4 h7 fun x29 =>
  xNilCheck x29 fun x30 =>
  xStore (some 1) x30 x26 h7 fun h8 =>
  k (.tup []) h8)
  (xBin (some (.int .i64)) .add s0.1 s14.1 fun x31 =>
  xBin (some (.int .i64)) .quo x31 (.int .i64 (.ofNat 16)) fun x32 =>
  xLoad (some (some 2)) x27 h7 fun x33 =>
  xCallV [(18, ex18), (193, ex193), (1000930, rd930)] v0 [x32, x33] h7 fun x34 h9 =>
  xUn .not x34 fun x35 =>
  xIte x35
   (k (.tup []) h9)
   (xBin (some (.int .i64)) .add s14.1 (.int .i64 (.ofNat 16)) fun x36 =>
   K15 (x36, ()) h9))
noncomputable abbrev c192_2 (x21 : CV) (h4 : CH) (v4 : CV) (k : CV → CH → Bool) (s0 : TupC 1) (s14 : TupC 1) (v0 : CV) (K15 : TupC 1 → CH → Bool) : Bool :=
 xArr (some 16) x21 fun x22 =>
 xLoad (some (some 16)) x22 h4 fun x23 =>
 bd193 x23 h4 fun x24 h5 =>
 xExtract x24 0 fun x25 =>
 xExtract x24 1 fun x26 =>
 xBoxP 37 [(.int .u16 (.ofNat 0)), (.str ⟨#[]⟩)] h5 fun x27 h6 =>
 xStore (some 2) x27 x25 h6 fun h7 =>
 xBin (some (.int .i64)) .neq x26 (.int .i64 (.ofNat 0)) fun x28 =>
 c192_1 x28 v4 h7 x26 k s0 s14 x27 v0 K15
noncomputable abbrev c192_3 (x10 : CV) (x17 : CV) (s14 : TupC 1) (h4 : CH) (v4 : CV) (k : CV → CH → Bool) (s0 : TupC 1) (v0 : CV) (K15 : TupC 1 → CH → Bool) (K1 : TupC 1 → CH → Bool) : Bool :=
 xLen (some (.inl false)) x10 fun x18 =>
 xBin (some (.int .i64)) .leq x17 x18 fun x19 =>
 xIte x19
  (xBin (some (.int .i64)) .add s14.1 (.int .i64 (.ofNat 16)) fun x20 =>
  xSlice (some (none, 1)) x10 (some s14.1) (some x20) none fun x21 =>
  c192_2 x21 h4 v4 k s0 s14 v0 K15)
  (xBin (some (.int .i64)) .add s0.1 (.int .i64 (.ofNat 4096)) fun x37 =>
  K1 (x37, ()) h4)
noncomputable abbrev c192_4 (x11 : CV) (v4 : CV) (h2 : CH) (k : CV → CH → Bool) (x10 : CV) (s0 : TupC 1) (v0 : CV) (K1 : TupC 1 → CH → Bool) : Bool :=
 xBin (some (.int .i64)) .neq x11 (.int .i64 (.ofNat 0)) fun x12 =>
 xIte x12
  (xLoad (some none) v4 h2 fun x13 =>
  xNilCheck x13 fun x14 =>
  xStore (some 1) x14 x11 h2 fun h3 =>
  k (.tup []) h3)
  (xLoop (n := 1) (fun K15 s14 h4 =>
   xBin (some (.int .i64)) .add s14.1 (.int .i64 (.ofNat 16)) fun x17 =>
   c192_3 x10 x17 s14 h4 v4 k s0 v0 K15 K1) 1000000 ((.int .i64 (.ofNat 0)), ()) h2)
noncomputable abbrev c192_5 (x3 : CV) (h1 : CH) (s0 : TupC 1) (v2 : CV) (v3 : CV) (v4 : CV) (k : CV → CH → Bool) (v0 : CV) (K1 : TupC 1 → CH → Bool) : Bool :=
 xLoad (some none) x3 h1 fun x4 =>
 xConv (some (.int .u32)) (some (.int .i64)) x4 fun x5 =>
 xBin (some (.int .i64)) .lss s0.1 x5 fun x6 =>
 xIte x6
  (xLoad (some none) v2 h1 fun x7 =>
  xLoad (some none) v3 h1 fun x8 =>
  bd18 x7 x8 s0.1 (.int .i64 (.ofNat 4096)) h1 fun x9 h2 =>
  xExtract x9 0 fun x10 =>
  xExtract x9 1 fun x11 =>
  c192_4 x11 v4 h2 k x10 s0 v0 K1)
  (k (.tup []) h1)
noncomputable def bd192 (v0 v1 v2 v3 v4 : CV) (h : CH) (k : CV → CH → Bool) : Bool :=
 xLoop (n := 1) (fun K1 s0 h1 =>
  xAddr (some 2) v1 fun x3 =>
  c192_5 x3 h1 s0 v2 v3 v4 k v0 K1) 1000000 ((.int .i64 (.ofNat 0)), ()) h
noncomputable abbrev ex192 : Ex := fun args h k => a5 args fun v0 v1 v2 v3 v4 => bd192 v0 v1 v2 v3 v4 h k
set_option maxRecDepth 100000 in
theorem sim192 : SimF Tryz.prog 192 ex192 := fun args h k hk => by
  obtain ⟨v0, v1, v2, v3, v4, rfl, hk⟩ := a5_ok hk
  exact sim_of (qf := (fun f => [75, 120, 121, 140, 144, 145, 146, 147, 148, 175, 181, 196, 197, 210, 220, 246].contains f)) (Z := zs) (C := [(18, ex18), (193, ex193), (1000930, rd930)]) (T := []) ⟨zerosB_ok zsOk, (exCons (by kernel_rfl) sim18 (exCons (by kernel_rfl) sim193 (exRd simrd930 exNil)))⟩ (.seq .nil (.loop [6] [12, 13, 14, 15, 16, 20, 21, 22, 23, 19, 24, 25, 7, 8, 26, 27, 28, 29, 30, 9, 31, 32, 33, 34, 35, 39, 40, 41, 42, 43, 44, 45, 46, 38, 47, 48, 10, 11, 49, 50, 51, 52, 53, 54, 55, 56, 57, 58, 59, 60, 61, 36, 37, 17, 18] (.seq .nil (.seq (.seq .nil (.seq .nil (.seq .nil (.loop [9] [31, 32, 33, 34, 35, 39, 40, 41, 42, 43, 44, 45, 46, 38, 47, 48, 10, 11, 49, 50, 51, 52, 53, 54, 55, 56, 57, 58, 59, 60, 61, 36, 37] .nil)))) .nil)))) Tryz.func192 _ h k (Eq.mp (by kernel_rfl : (bd192 v0 v1 v2 v3 v4 h k = true) = (xFn Tryz.prog (fun f => [75, 120, 121, 140, 144, 145, 146, 147, 148, 175, 181, 196, 197, 210, 220, 246].contains f) zs [(18, ex18), (193, ex193), (1000930, rd930)] [] Tryz.f192 (.seq .nil (.loop [6] [12, 13, 14, 15, 16, 20, 21, 22, 23, 19, 24, 25, 7, 8, 26, 27, 28, 29, 30, 9, 31, 32, 33, 34, 35, 39, 40, 41, 42, 43, 44, 45, 46, 38, 47, 48, 10, 11, 49, 50, 51, 52, 53, 54, 55, 56, 57, 58, 59, 60, 61, 36, 37, 17, 18] (.seq .nil (.seq (.seq .nil (.seq .nil (.seq .nil (.loop [9] [31, 32, 33, 34, 35, 39, 40, 41, 42, 43, 44, 45, 46, 38, 47, 48, 10, 11, 49, 50, 51, 52, 53, 54, 55, 56, 57, 58, 59, 60, 61, 36, 37] .nil)))) .nil)))) [v0, v1, v2, v3, v4] h k = true)) hk)

/- undercroft/dir.Find -/
noncomputable abbrev c93_1 (v0 : CV) (v1 : CV) (v2 : CV) (x1 : CV) (x2 : CV) (x3 : CV) (x4 : CV) (x8 : CV) (x9 : CV) (x5 : CV) (x6 : CV) (x7 : CV) (x10 : CV) (x11 : CV) (x12 : CV) (x13 : CV) (h12 : CH) (h15 : CH) : Bool :=
 (eqCs [v0, v1, v2, (.tup []), (.tup []), x1, x2, x3, x4, x8, x9, (.tup []), (.tup []), x5, v0, v1, x5, x6, x7, x10, x11, x12, (.tup []), (.tup []), (.tup []), (.tup []), (.tup []), (.tup []), (.tup []), (.tup []), (.tup []), (.tup []), (.tup []), (.tup []), (.tup []), (.tup []), (.tup []), (.tup []), (.tup []), (.tup []), (.tup []), (.tup []), (.tup []), (.tup []), (.tup []), (.tup []), (.tup []), (.tup []), (.tup [])] [v0, v1, v2, (.tup []), (.tup []), x1, x2, x3, x4, x8, x9, (.tup []), (.tup []), x5, v0, v1, x5, x6, x7, x10, x11, x13, (.tup []), (.tup []), (.tup []), (.tup []), (.tup []), (.tup []), (.tup []), (.tup []), (.tup []), (.tup []), (.tup []), (.tup []), (.tup []), (.tup []), (.tup []), (.tup []), (.tup []), (.tup []), (.tup []), (.tup []), (.tup []), (.tup []), (.tup []), (.tup []), (.tup []), (.tup []), (.tup [])] && eqH h12 h15)
noncomputable abbrev c93_2 (v0 : CV) (v1 : CV) (v2 : CV) (x1 : CV) (x2 : CV) (x3 : CV) (x4 : CV) (x8 : CV) (x9 : CV) (x5 : CV) (x6 : CV) (x7 : CV) (x10 : CV) (x11 : CV) (x12 : CV) (x14 : CV) (h12 : CH) (h17 : CH) : Bool :=
 (eqCs [v0, v1, v2, (.tup []), (.tup []), x1, x2, x3, x4, x8, x9, (.tup []), (.tup []), x5, v0, v1, x5, x6, x7, x10, x11, x12, (.tup []), (.tup []), (.tup []), (.tup []), (.tup []), (.tup []), (.tup []), (.tup []), (.tup []), (.tup []), (.tup []), (.tup []), (.tup []), (.tup []), (.tup []), (.tup []), (.tup []), (.tup []), (.tup []), (.tup []), (.tup []), (.tup []), (.tup []), (.tup []), (.tup []), (.tup []), (.tup [])] [v0, v1, v2, (.tup []), (.tup []), x1, x2, x3, x4, x8, x9, (.tup []), (.tup []), x5, v0, v1, x5, x6, x7, x10, x11, x14, (.tup []), (.tup []), (.tup []), (.tup []), (.tup []), (.tup []), (.tup []), (.tup []), (.tup []), (.tup []), (.tup []), (.tup []), (.tup []), (.tup []), (.tup []), (.tup []), (.tup []), (.tup []), (.tup []), (.tup []), (.tup []), (.tup []), (.tup []), (.tup []), (.tup []), (.tup []), (.tup [])] && eqH h12 h17)
noncomputable abbrev c93_3 (x9 : CV) (h13 : CH) (x3 : CV) (x4 : CV) (v0 : CV) (v1 : CV) (v2 : CV) (x1 : CV) (x2 : CV) (x8 : CV) (x5 : CV) (x6 : CV) (x7 : CV) (x10 : CV) (x11 : CV) (x12 : CV) (h12 : CH) : Bool :=
 both
  (xLoad (some none) x9 h13 fun x14 =>
  xStore (some 1) x3 (.int .i64 (.ofNat 0)) h13 fun h16 =>
  xStore (some 1) x4 x14 h16 fun h17 =>
  c93_2 v0 v1 v2 x1 x2 x3 x4 x8 x9 x5 x6 x7 x10 x11 x12 x14 h12 h17)
  (both
   (xStore (some 1) x3 (.int .i64 (.ofNat 0)) h13 fun h14 =>
   xLoad (some none) x9 h14 fun x13 =>
   xStore (some 1) x4 x13 h14 fun h15 =>
   c93_1 v0 v1 v2 x1 x2 x3 x4 x8 x9 x5 x6 x7 x10 x11 x12 x13 h12 h15)
   (true))
noncomputable abbrev c93_4 (v0 : CV) (v1 : CV) (v2 : CV) (x1 : CV) (x2 : CV) (x3 : CV) (x4 : CV) (x8 : CV) (x9 : CV) (x5 : CV) (x6 : CV) (x7 : CV) (x10 : CV) (x11 : CV) (x12 : CV) (x15 : CV) (h12 : CH) (h20 : CH) : Bool :=
 (eqCs [v0, v1, v2, (.tup []), (.tup []), x1, x2, x3, x4, x8, x9, (.tup []), (.tup []), x5, v0, v1, x5, x6, x7, x10, x11, x12, (.tup []), (.tup []), (.tup []), (.tup []), (.tup []), (.tup []), (.tup []), (.tup []), (.tup []), (.tup []), (.tup []), (.tup []), (.tup []), (.tup []), (.tup []), (.tup []), (.tup []), (.tup []), (.tup []), (.tup []), (.tup []), (.tup []), (.tup []), (.tup []), (.tup []), (.tup []), (.tup [])] [v0, v1, v2, (.tup []), (.tup []), x1, x2, x3, x4, x8, x9, (.tup []), (.tup []), x5, v0, v1, x5, x6, x7, x10, x11, x15, (.tup []), (.tup []), (.tup []), (.tup []), (.tup []), (.tup []), (.tup []), (.tup []), (.tup []), (.tup []), (.tup []), (.tup []), (.tup []), (.tup []), (.tup []), (.tup []), (.tup []), (.tup []), (.tup []), (.tup []), (.tup []), (.tup []), (.tup []), (.tup []), (.tup []), (.tup []), (.tup [])] && eqH h12 h20)
noncomputable abbrev c93_5 (x9 : CV) (h9 : CH) (x2 : CV) (x3 : CV) (x4 : CV) (v0 : CV) (v1 : CV) (v2 : CV) (x1 : CV) (x8 : CV) (x5 : CV) (x6 : CV) (x7 : CV) (x10 : CV) (x11 : CV) (x12 : CV) (h12 : CH) (k : CV → CH → Bool) : Bool :=
 both
  (both
   (xLoad (some none) x9 h9 fun x15 =>
   xStore (some 1) x2 (.int .i64 (.ofNat 0)) h9 fun h18 =>
   xStore (some 1) x3 (.int .i64 (.ofNat 0)) h18 fun h19 =>
   xStore (some 1) x4 x15 h19 fun h20 =>
   c93_4 v0 v1 v2 x1 x2 x3 x4 x8 x9 x5 x6 x7 x10 x11 x12 x15 h12 h20)
   (both
    (xStore (some 1) x2 (.int .i64 (.ofNat 0)) h9 fun h13 =>
    c93_3 x9 h13 x3 x4 v0 v1 v2 x1 x2 x8 x5 x6 x7 x10 x11 x12 h12)
    (true)))
  (xLoad (some none) x2 h12 fun x16 =>
  xLoad (some none) x3 h12 fun x17 =>
  xLoad (some none) x4 h12 fun x18 =>
  k (.tup [x16, x17, x18]) h12)
noncomputable abbrev c93_6 (v0 : CV) (v1 : CV) (v2 : CV) (x1 : CV) (x2 : CV) (x3 : CV) (x4 : CV) (x8 : CV) (x9 : CV) (x5 : CV) (x6 : CV) (x7 : CV) (x10 : CV) (x11 : CV) (x19 : CV) (x20 : CV) (x21 : CV) (x22 : CV) (x23 : CV) (x24 : CV) (h25 : CH) (h28 : CH) : Bool :=
 (eqCs [v0, v1, v2, (.tup []), (.tup []), x1, x2, x3, x4, x8, x9, (.tup []), (.tup []), x5, v0, v1, x5, x6, x7, x10, x11, (.tup []), x19, x20, x21, x22, x23, (.tup []), (.tup []), (.tup []), (.tup []), (.tup []), (.tup []), (.tup []), (.tup []), (.tup []), (.tup []), (.tup []), (.tup []), (.tup []), (.tup []), (.tup []), (.tup []), (.tup []), (.tup []), (.tup []), (.tup []), (.tup []), (.tup [])] [v0, v1, v2, (.tup []), (.tup []), x1, x2, x3, x4, x8, x9, (.tup []), (.tup []), x5, v0, v1, x5, x6, x7, x10, x11, (.tup []), x19, x20, x21, x22, x24, (.tup []), (.tup []), (.tup []), (.tup []), (.tup []), (.tup []), (.tup []), (.tup []), (.tup []), (.tup []), (.tup []), (.tup []), (.tup []), (.tup []), (.tup []), (.tup []), (.tup []), (.tup []), (.tup []), (.tup []), (.tup []), (.tup [])] && eqH h25 h28)
noncomputable abbrev c93_7 (v0 : CV) (v1 : CV) (v2 : CV) (x1 : CV) (x2 : CV) (x3 : CV) (x4 : CV) (x8 : CV) (x9 : CV) (x5 : CV) (x6 : CV) (x7 : CV) (x10 : CV) (x11 : CV) (x19 : CV) (x20 : CV) (x21 : CV) (x22 : CV) (x23 : CV) (x25 : CV) (h25 : CH) (h30 : CH) : Bool :=
 (eqCs [v0, v1, v2, (.tup []), (.tup []), x1, x2, x3, x4, x8, x9, (.tup []), (.tup []), x5, v0, v1, x5, x6, x7, x10, x11, (.tup []), x19, x20, x21, x22, x23, (.tup []), (.tup []), (.tup []), (.tup []), (.tup []), (.tup []), (.tup []), (.tup []), (.tup []), (.tup []), (.tup []), (.tup []), (.tup []), (.tup []), (.tup []), (.tup []), (.tup []), (.tup []), (.tup []), (.tup []), (.tup []), (.tup [])] [v0, v1, v2, (.tup []), (.tup []), x1, x2, x3, x4, x8, x9, (.tup []), (.tup []), x5, v0, v1, x5, x6, x7, x10, x11, (.tup []), x19, x20, x21, x22, x25, (.tup []), (.tup []), (.tup []), (.tup []), (.tup []), (.tup []), (.tup []), (.tup []), (.tup []), (.tup []), (.tup []), (.tup []), (.tup []), (.tup []), (.tup []), (.tup []), (.tup []), (.tup []), (.tup []), (.tup []), (.tup []), (.tup [])] && eqH h25 h30)
noncomputable abbrev c93_8 (x9 : CV) (h26 : CH) (x3 : CV) (x4 : CV) (v0 : CV) (v1 : CV) (v2 : CV) (x1 : CV) (x2 : CV) (x8 : CV) (x5 : CV) (x6 : CV) (x7 : CV) (x10 : CV) (x11 : CV) (x19 : CV) (x20 : CV) (x21 : CV) (x22 : CV) (x23 : CV) (h25 : CH) : Bool :=
 both
  (xLoad (some none) x9 h26 fun x25 =>
  xStore (some 1) x3 (.int .i64 (.ofNat 0)) h26 fun h29 =>
  xStore (some 1) x4 x25 h29 fun h30 =>
  c93_7 v0 v1 v2 x1 x2 x3 x4 x8 x9 x5 x6 x7 x10 x11 x19 x20 x21 x22 x23 x25 h25 h30)
  (both
   (xStore (some 1) x3 (.int .i64 (.ofNat 0)) h26 fun h27 =>
   xLoad (some none) x9 h27 fun x24 =>
   xStore (some 1) x4 x24 h27 fun h28 =>
   c93_6 v0 v1 v2 x1 x2 x3 x4 x8 x9 x5 x6 x7 x10 x11 x19 x20 x21 x22 x23 x24 h25 h28)
   (true))
noncomputable abbrev c93_9 (v0 : CV) (v1 : CV) (v2 : CV) (x1 : CV) (x2 : CV) (x3 : CV) (x4 : CV) (x8 : CV) (x9 : CV) (x5 : CV) (x6 : CV) (x7 : CV) (x10 : CV) (x11 : CV) (x19 : CV) (x20 : CV) (x21 : CV) (x22 : CV) (x23 : CV) (x26 : CV) (h25 : CH) (h33 : CH) : Bool :=
 (eqCs [v0, v1, v2, (.tup []), (.tup []), x1, x2, x3, x4, x8, x9, (.tup []), (.tup []), x5, v0, v1, x5, x6, x7, x10, x11, (.tup []), x19, x20, x21, x22, x23, (.tup []), (.tup []), (.tup []), (.tup []), (.tup []), (.tup []), (.tup []), (.tup []), (.tup []), (.tup []), (.tup []), (.tup []), (.tup []), (.tup []), (.tup []), (.tup []), (.tup []), (.tup []), (.tup []), (.tup []), (.tup []), (.tup [])] [v0, v1, v2, (.tup []), (.tup []), x1, x2, x3, x4, x8, x9, (.tup []), (.tup []), x5, v0, v1, x5, x6, x7, x10, x11, (.tup []), x19, x20, x21, x22, x26, (.tup []), (.tup []), (.tup []), (.tup []), (.tup []), (.tup []), (.tup []), (.tup []), (.tup []), (.tup []), (.tup []), (.tup []), (.tup []), (.tup []), (.tup []), (.tup []), (.tup []), (.tup []), (.tup []), (.tup []), (.tup []), (.tup [])] && eqH h25 h33)
noncomputable abbrev c93_10 (x9 : CV) (h22 : CH) (x2 : CV) (x3 : CV) (x4 : CV) (v0 : CV) (v1 : CV) (v2 : CV) (x1 : CV) (x8 : CV) (x5 : CV) (x6 : CV) (x7 : CV) (x10 : CV) (x11 : CV) (x19 : CV) (x20 : CV) (x21 : CV) (x22 : CV) (x23 : CV) (h25 : CH) (k : CV → CH → Bool) : Bool :=
 both
  (both
   (xLoad (some none) x9 h22 fun x26 =>
   xStore (some 1) x2 (.int .i64 (.ofNat 0)) h22 fun h31 =>
   xStore (some 1) x3 (.int .i64 (.ofNat 0)) h31 fun h32 =>
   xStore (some 1) x4 x26 h32 fun h33 =>
   c93_9 v0 v1 v2 x1 x2 x3 x4 x8 x9 x5 x6 x7 x10 x11 x19 x20 x21 x22 x23 x26 h25 h33)
   (both
    (xStore (some 1) x2 (.int .i64 (.ofNat 0)) h22 fun h26 =>
    c93_8 x9 h26 x3 x4 v0 v1 v2 x1 x2 x8 x5 x6 x7 x10 x11 x19 x20 x21 x22 x23 h25)
    (true)))
  (xLoad (some none) x2 h25 fun x27 =>
  xLoad (some none) x3 h25 fun x28 =>
  xLoad (some none) x4 h25 fun x29 =>
  k (.tup [x27, x28, x29]) h25)
noncomputable abbrev c93_11 (v0 : CV) (v1 : CV) (v2 : CV) (x1 : CV) (x2 : CV) (x3 : CV) (x4 : CV) (x8 : CV) (x9 : CV) (x5 : CV) (x6 : CV) (x7 : CV) (x10 : CV) (x11 : CV) (x19 : CV) (x20 : CV) (x21 : CV) (x22 : CV) (x30 : CV) (x31 : CV) (x34 : CV) (x35 : CV) (x36 : CV) (x37 : CV) (h38 : CH) (h41 : CH) : Bool :=
 (eqCs [v0, v1, v2, (.tup []), (.tup []), x1, x2, x3, x4, x8, x9, (.tup []), (.tup []), x5, v0, v1, x5, x6, x7, x10, x11, (.tup []), x19, x20, x21, x22, (.tup []), v0, v1, x30, x31, (.tup []), (.tup []), (.tup []), (.tup []), (.tup []), (.tup []), (.tup []), (.tup []), (.tup []), (.tup []), (.tup []), (.tup []), (.tup []), (.tup []), (.tup []), x34, x35, x36] [v0, v1, v2, (.tup []), (.tup []), x1, x2, x3, x4, x8, x9, (.tup []), (.tup []), x5, v0, v1, x5, x6, x7, x10, x11, (.tup []), x19, x20, x21, x22, (.tup []), v0, v1, x30, x31, (.tup []), (.tup []), (.tup []), (.tup []), (.tup []), (.tup []), (.tup []), (.tup []), (.tup []), (.tup []), (.tup []), (.tup []), (.tup []), (.tup []), (.tup []), x34, x35, x37] && eqH h38 h41)
noncomputable abbrev c93_12 (v0 : CV) (v1 : CV) (v2 : CV) (x1 : CV) (x2 : CV) (x3 : CV) (x4 : CV) (x8 : CV) (x9 : CV) (x5 : CV) (x6 : CV) (x7 : CV) (x10 : CV) (x11 : CV) (x19 : CV) (x20 : CV) (x21 : CV) (x22 : CV) (x30 : CV) (x31 : CV) (x34 : CV) (x35 : CV) (x36 : CV) (x38 : CV) (h38 : CH) (h43 : CH) : Bool :=
 (eqCs [v0, v1, v2, (.tup []), (.tup []), x1, x2, x3, x4, x8, x9, (.tup []), (.tup []), x5, v0, v1, x5, x6, x7, x10, x11, (.tup []), x19, x20, x21, x22, (.tup []), v0, v1, x30, x31, (.tup []), (.tup []), (.tup []), (.tup []), (.tup []), (.tup []), (.tup []), (.tup []), (.tup []), (.tup []), (.tup []), (.tup []), (.tup []), (.tup []), (.tup []), x34, x35, x36] [v0, v1, v2, (.tup []), (.tup []), x1, x2, x3, x4, x8, x9, (.tup []), (.tup []), x5, v0, v1, x5, x6, x7, x10, x11, (.tup []), x19, x20, x21, x22, (.tup []), v0, v1, x30, x31, (.tup []), (.tup []), (.tup []), (.tup []), (.tup []), (.tup []), (.tup []), (.tup []), (.tup []), (.tup []), (.tup []), (.tup []), (.tup []), (.tup []), (.tup []), x34, x35, x38] && eqH h38 h43)
noncomputable abbrev c93_13 (x9 : CV) (h39 : CH) (x3 : CV) (x4 : CV) (v0 : CV) (v1 : CV) (v2 : CV) (x1 : CV) (x2 : CV) (x8 : CV) (x5 : CV) (x6 : CV) (x7 : CV) (x10 : CV) (x11 : CV) (x19 : CV) (x20 : CV) (x21 : CV) (x22 : CV) (x30 : CV) (x31 : CV) (x34 : CV) (x35 : CV) (x36 : CV) (h38 : CH) : Bool :=
 both
  (xLoad (some none) x9 h39 fun x38 =>
  xStore (some 1) x3 (.int .i64 (.ofNat 0)) h39 fun h42 =>
  xStore (some 1) x4 x38 h42 fun h43 =>
  c93_12 v0 v1 v2 x1 x2 x3 x4 x8 x9 x5 x6 x7 x10 x11 x19 x20 x21 x22 x30 x31 x34 x35 x36 x38 h38 h43)
  (both
   (xStore (some 1) x3 (.int .i64 (.ofNat 0)) h39 fun h40 =>
   xLoad (some none) x9 h40 fun x37 =>
   xStore (some 1) x4 x37 h40 fun h41 =>
   c93_11 v0 v1 v2 x1 x2 x3 x4 x8 x9 x5 x6 x7 x10 x11 x19 x20 x21 x22 x30 x31 x34 x35 x36 x37 h38 h41)
   (true))
noncomputable abbrev c93_14 (v0 : CV) (v1 : CV) (v2 : CV) (x1 : CV) (x2 : CV) (x3 : CV) (x4 : CV) (x8 : CV) (x9 : CV) (x5 : CV) (x6 : CV) (x7 : CV) (x10 : CV) (x11 : CV) (x19 : CV) (x20 : CV) (x21 : CV) (x22 : CV) (x30 : CV) (x31 : CV) (x34 : CV) (x35 : CV) (x36 : CV) (x39 : CV) (h38 : CH) (h46 : CH) : Bool :=
 (eqCs [v0, v1, v2, (.tup []), (.tup []), x1, x2, x3, x4, x8, x9, (.tup []), (.tup []), x5, v0, v1, x5, x6, x7, x10, x11, (.tup []), x19, x20, x21, x22, (.tup []), v0, v1, x30, x31, (.tup []), (.tup []), (.tup []), (.tup []), (.tup []), (.tup []), (.tup []), (.tup []), (.tup []), (.tup []), (.tup []), (.tup []), (.tup []), (.tup []), (.tup []), x34, x35, x36] [v0, v1, v2, (.tup []), (.tup []), x1, x2, x3, x4, x8, x9, (.tup []), (.tup []), x5, v0, v1, x5, x6, x7, x10, x11, (.tup []), x19, x20, x21, x22, (.tup []), v0, v1, x30, x31, (.tup []), (.tup []), (.tup []), (.tup []), (.tup []), (.tup []), (.tup []), (.tup []), (.tup []), (.tup []), (.tup []), (.tup []), (.tup []), (.tup []), (.tup []), x34, x35, x39] && eqH h38 h46)
noncomputable abbrev c93_15 (x9 : CV) (h35 : CH) (x2 : CV) (x3 : CV) (x4 : CV) (v0 : CV) (v1 : CV) (v2 : CV) (x1 : CV) (x8 : CV) (x5 : CV) (x6 : CV) (x7 : CV) (x10 : CV) (x11 : CV) (x19 : CV) (x20 : CV) (x21 : CV) (x22 : CV) (x30 : CV) (x31 : CV) (x34 : CV) (x35 : CV) (x36 : CV) (h38 : CH) (k : CV → CH → Bool) : Bool :=
 both
  (both
   (xLoad (some none) x9 h35 fun x39 =>
   xStore (some 1) x2 (.int .i64 (.ofNat 0)) h35 fun h44 =>
   xStore (some 1) x3 (.int .i64 (.ofNat 0)) h44 fun h45 =>
   xStore (some 1) x4 x39 h45 fun h46 =>
   c93_14 v0 v1 v2 x1 x2 x3 x4 x8 x9 x5 x6 x7 x10 x11 x19 x20 x21 x22 x30 x31 x34 x35 x36 x39 h38 h46)
   (both
    (xStore (some 1) x2 (.int .i64 (.ofNat 0)) h35 fun h39 =>
    c93_13 x9 h39 x3 x4 v0 v1 v2 x1 x2 x8 x5 x6 x7 x10 x11 x19 x20 x21 x22 x30 x31 x34 x35 x36 h38)
    (true)))
  (xLoad (some none) x2 h38 fun x40 =>
  xLoad (some none) x3 h38 fun x41 =>
  xLoad (some none) x4 h38 fun x42 =>
  k (.tup [x40, x41, x42]) h38)
noncomputable abbrev c93_16 (x35 : CV) (x9 : CV) (h35 : CH) (x2 : CV) (x3 : CV) (x4 : CV) (v0 : CV) (v1 : CV) (v2 : CV) (x1 : CV) (x8 : CV) (x5 : CV) (x6 : CV) (x7 : CV) (x10 : CV) (x11 : CV) (x19 : CV) (x20 : CV) (x21 : CV) (x22 : CV) (x30 : CV) (x31 : CV) (x34 : CV) (k : CV → CH → Bool) : Bool :=
 xIte x35
  (xLoad (some none) x9 h35 fun x36 =>
  xStore (some 1) x2 (.int .i64 (.ofNat 0)) h35 fun h36 =>
  xStore (some 1) x3 (.int .i64 (.ofNat 0)) h36 fun h37 =>
  xStore (some 1) x4 x36 h37 fun h38 =>
  c93_15 x9 h35 x2 x3 x4 v0 v1 v2 x1 x8 x5 x6 x7 x10 x11 x19 x20 x21 x22 x30 x31 x34 x35 x36 h38 k)
  (xStore (some 1) x2 (.int .i64 (.ofNat 0)) h35 fun h47 =>
  xStore (some 1) x3 (.int .i64 (.ofNat 0)) h47 fun h48 =>
  xStore (some 1) x4 (.int .i64 (.ofNat 5)) h48 fun h49 =>
  xLoad (some none) x2 h49 fun x43 =>
  xLoad (some none) x3 h49 fun x44 =>
  xLoad (some none) x4 h49 fun x45 =>
  k (.tup [x43, x44, x45]) h49)
noncomputable abbrev c93_17 (v0 : CV) (v1 : CV) (v2 : CV) (x1 : CV) (x2 : CV) (x3 : CV) (x4 : CV) (x8 : CV) (x9 : CV) (x5 : CV) (x6 : CV) (x7 : CV) (x10 : CV) (x11 : CV) (x19 : CV) (x20 : CV) (x21 : CV) (x22 : CV) (x30 : CV) (x31 : CV) (x49 : CV) (x50 : CV) (x51 : CV) (x52 : CV) (h52 : CH) (h55 : CH) : Bool :=
 (eqCs [v0, v1, v2, (.tup []), (.tup []), x1, x2, x3, x4, x8, x9, (.tup []), (.tup []), x5, v0, v1, x5, x6, x7, x10, x11, (.tup []), x19, x20, x21, x22, (.tup []), v0, v1, x30, x31, (.tup []), (.tup []), (.tup []), (.tup []), (.tup []), (.tup []), (.tup []), (.tup []), (.tup []), (.tup []), (.tup []), (.tup []), (.tup []), (.tup []), (.tup []), x49, x50, x51] [v0, v1, v2, (.tup []), (.tup []), x1, x2, x3, x4, x8, x9, (.tup []), (.tup []), x5, v0, v1, x5, x6, x7, x10, x11, (.tup []), x19, x20, x21, x22, (.tup []), v0, v1, x30, x31, (.tup []), (.tup []), (.tup []), (.tup []), (.tup []), (.tup []), (.tup []), (.tup []), (.tup []), (.tup []), (.tup []), (.tup []), (.tup []), (.tup []), (.tup []), x49, x50, x52] && eqH h52 h55)
noncomputable abbrev c93_18 (v0 : CV) (v1 : CV) (v2 : CV) (x1 : CV) (x2 : CV) (x3 : CV) (x4 : CV) (x8 : CV) (x9 : CV) (x5 : CV) (x6 : CV) (x7 : CV) (x10 : CV) (x11 : CV) (x19 : CV) (x20 : CV) (x21 : CV) (x22 : CV) (x30 : CV) (x31 : CV) (x49 : CV) (x50 : CV) (x51 : CV) (x53 : CV) (h52 : CH) (h57 : CH) : Bool :=
 (eqCs [v0, v1, v2, (.tup []), (.tup []), x1, x2, x3, x4, x8, x9, (.tup []), (.tup []), x5, v0, v1, x5, x6, x7, x10, x11, (.tup []), x19, x20, x21, x22, (.tup []), v0, v1, x30, x31, (.tup []), (.tup []), (.tup []), (.tup []), (.tup []), (.tup []), (.tup []), (.tup []), (.tup []), (.tup []), (.tup []), (.tup []), (.tup []), (.tup []), (.tup []), x49, x50, x51] [v0, v1, v2, (.tup []), (.tup []), x1, x2, x3, x4, x8, x9, (.tup []), (.tup []), x5, v0, v1, x5, x6, x7, x10, x11, (.tup []), x19, x20, x21, x22, (.tup []), v0, v1, x30, x31, (.tup []), (.tup []), (.tup []), (.tup []), (.tup []), (.tup []), (.tup []), (.tup []), (.tup []), (.tup []), (.tup []), (.tup []), (.tup []), (.tup []), (.tup []), x49, x50, x53] && eqH h52 h57)
noncomputable abbrev c93_19 (x9 : CV) (h53 : CH) (x3 : CV) (x4 : CV) (v0 : CV) (v1 : CV) (v2 : CV) (x1 : CV) (x2 : CV) (x8 : CV) (x5 : CV) (x6 : CV) (x7 : CV) (x10 : CV) (x11 : CV) (x19 : CV) (x20 : CV) (x21 : CV) (x22 : CV) (x30 : CV) (x31 : CV) (x49 : CV) (x50 : CV) (x51 : CV) (h52 : CH) : Bool :=
 both
  (xLoad (some none) x9 h53 fun x53 =>
  xStore (some 1) x3 (.int .i64 (.ofNat 0)) h53 fun h56 =>
  xStore (some 1) x4 x53 h56 fun h57 =>
  c93_18 v0 v1 v2 x1 x2 x3 x4 x8 x9 x5 x6 x7 x10 x11 x19 x20 x21 x22 x30 x31 x49 x50 x51 x53 h52 h57)
  (both
   (xStore (some 1) x3 (.int .i64 (.ofNat 0)) h53 fun h54 =>
   xLoad (some none) x9 h54 fun x52 =>
   xStore (some 1) x4 x52 h54 fun h55 =>
   c93_17 v0 v1 v2 x1 x2 x3 x4 x8 x9 x5 x6 x7 x10 x11 x19 x20 x21 x22 x30 x31 x49 x50 x51 x52 h52 h55)
   (true))
noncomputable abbrev c93_20 (v0 : CV) (v1 : CV) (v2 : CV) (x1 : CV) (x2 : CV) (x3 : CV) (x4 : CV) (x8 : CV) (x9 : CV) (x5 : CV) (x6 : CV) (x7 : CV) (x10 : CV) (x11 : CV) (x19 : CV) (x20 : CV) (x21 : CV) (x22 : CV) (x30 : CV) (x31 : CV) (x49 : CV) (x50 : CV) (x51 : CV) (x54 : CV) (h52 : CH) (h60 : CH) : Bool :=
 (eqCs [v0, v1, v2, (.tup []), (.tup []), x1, x2, x3, x4, x8, x9, (.tup []), (.tup []), x5, v0, v1, x5, x6, x7, x10, x11, (.tup []), x19, x20, x21, x22, (.tup []), v0, v1, x30, x31, (.tup []), (.tup []), (.tup []), (.tup []), (.tup []), (.tup []), (.tup []), (.tup []), (.tup []), (.tup []), (.tup []), (.tup []), (.tup []), (.tup []), (.tup []), x49, x50, x51] [v0, v1, v2, (.tup []), (.tup []), x1, x2, x3, x4, x8, x9, (.tup []), (.tup []), x5, v0, v1, x5, x6, x7, x10, x11, (.tup []), x19, x20, x21, x22, (.tup []), v0, v1, x30, x31, (.tup []), (.tup []), (.tup []), (.tup []), (.tup []), (.tup []), (.tup []), (.tup []), (.tup []), (.tup []), (.tup []), (.tup []), (.tup []), (.tup []), (.tup []), x49, x50, x54] && eqH h52 h60)
noncomputable abbrev c93_21 (x9 : CV) (h35 : CH) (x2 : CV) (x3 : CV) (x4 : CV) (v0 : CV) (v1 : CV) (v2 : CV) (x1 : CV) (x8 : CV) (x5 : CV) (x6 : CV) (x7 : CV) (x10 : CV) (x11 : CV) (x19 : CV) (x20 : CV) (x21 : CV) (x22 : CV) (x30 : CV) (x31 : CV) (x49 : CV) (x50 : CV) (x51 : CV) (h52 : CH) (k : CV → CH → Bool) : Bool :=
 both
  (both
   (xLoad (some none) x9 h35 fun x54 =>
   xStore (some 1) x2 (.int .i64 (.ofNat 0)) h35 fun h58 =>
   xStore (some 1) x3 (.int .i64 (.ofNat 0)) h58 fun h59 =>
   xStore (some 1) x4 x54 h59 fun h60 =>
   c93_20 v0 v1 v2 x1 x2 x3 x4 x8 x9 x5 x6 x7 x10 x11 x19 x20 x21 x22 x30 x31 x49 x50 x51 x54 h52 h60)
   (both
    (xStore (some 1) x2 (.int .i64 (.ofNat 0)) h35 fun h53 =>
    c93_19 x9 h53 x3 x4 v0 v1 v2 x1 x2 x8 x5 x6 x7 x10 x11 x19 x20 x21 x22 x30 x31 x49 x50 x51 h52)
    (true)))
  (xLoad (some none) x2 h52 fun x55 =>
  xLoad (some none) x3 h52 fun x56 =>
  xLoad (some none) x4 h52 fun x57 =>
  k (.tup [x55, x56, x57]) h52)
noncomputable abbrev c93_22 (x50 : CV) (x9 : CV) (h35 : CH) (x2 : CV) (x3 : CV) (x4 : CV) (v0 : CV) (v1 : CV) (v2 : CV) (x1 : CV) (x8 : CV) (x5 : CV) (x6 : CV) (x7 : CV) (x10 : CV) (x11 : CV) (x19 : CV) (x20 : CV) (x21 : CV) (x22 : CV) (x30 : CV) (x31 : CV) (x49 : CV) (k : CV → CH → Bool) : Bool :=
 xIte x50
  (xLoad (some none) x9 h35 fun x51 =>
  xStore (some 1) x2 (.int .i64 (.ofNat 0)) h35 fun h50 =>
  xStore (some 1) x3 (.int .i64 (.ofNat 0)) h50 fun h51 =>
  xStore (some 1) x4 x51 h51 fun h52 =>
  c93_21 x9 h35 x2 x3 x4 v0 v1 v2 x1 x8 x5 x6 x7 x10 x11 x19 x20 x21 x22 x30 x31 x49 x50 x51 h52 k)
  (xStore (some 1) x2 (.int .i64 (.ofNat 0)) h35 fun h61 =>
  xStore (some 1) x3 (.int .i64 (.ofNat 0)) h61 fun h62 =>
  xStore (some 1) x4 (.int .i64 (.ofNat 5)) h62 fun h63 =>
  xLoad (some none) x2 h63 fun x58 =>
  xLoad (some none) x3 h63 fun x59 =>
  xLoad (some none) x4 h63 fun x60 =>
  k (.tup [x58, x59, x60]) h63)
noncomputable abbrev c93_23 (v0 : CV) (v1 : CV) (v2 : CV) (x1 : CV) (x2 : CV) (x3 : CV) (x4 : CV) (x8 : CV) (x9 : CV) (x5 : CV) (x6 : CV) (x7 : CV) (x10 : CV) (x11 : CV) (x19 : CV) (x20 : CV) (x21 : CV) (x22 : CV) (x30 : CV) (x31 : CV) (h34 : CH) (k : CV → CH → Bool) : Bool :=
 xRange [(151, ex151), (149, ex149), (152, ex152), (192, ex192)] 930 [v0, v1, v2, (.tup []), (.tup []), x1, x2, x3, x4, x8, x9, (.tup []), (.tup []), x5, v0, v1, x5, x6, x7, x10, x11, (.tup []), x19, x20, x21, x22, (.tup []), v0, v1, x30, x31, (.tup []), (.tup []), (.tup []), (.tup []), (.tup []), (.tup []), (.tup []), (.tup []), (.tup []), (.tup []), (.tup []), (.tup []), (.tup []), (.tup []), (.tup []), (.tup []), (.tup []), (.tup [])] x31 h34 fun j31 h35 =>
 xJmp j31
  (xLoad (some none) x9 h35 fun x34 =>
  xBin (some (.int .i64)) .neq x34 (.int .i64 (.ofNat 0)) fun x35 =>
  c93_16 x35 x9 h35 x2 x3 x4 v0 v1 v2 x1 x8 x5 x6 x7 x10 x11 x19 x20 x21 x22 x30 x31 x34 k)
  (xLoad (some none) x2 h35 fun x46 =>
  xLoad (some none) x3 h35 fun x47 =>
  xLoad (some none) x4 h35 fun x48 =>
  k (.tup [x46, x47, x48]) h35)
  (fun i32 => isXX i32 0
   (xLoad (some none) x9 h35 fun x49 =>
   xBin (some (.int .i64)) .neq x49 (.int .i64 (.ofNat 0)) fun x50 =>
   c93_22 x50 x9 h35 x2 x3 x4 v0 v1 v2 x1 x8 x5 x6 x7 x10 x11 x19 x20 x21 x22 x30 x31 x49 k)
   (false))
noncomputable abbrev c93_24 (x22 : CV) (x9 : CV) (h22 : CH) (x2 : CV) (x3 : CV) (x4 : CV) (v0 : CV) (v1 : CV) (v2 : CV) (x1 : CV) (x8 : CV) (x5 : CV) (x6 : CV) (x7 : CV) (x10 : CV) (x11 : CV) (x19 : CV) (x20 : CV) (x21 : CV) (k : CV → CH → Bool) : Bool :=
 xIte x22
  (xLoad (some none) x9 h22 fun x23 =>
  xStore (some 1) x2 (.int .i64 (.ofNat 0)) h22 fun h23 =>
  xStore (some 1) x3 (.int .i64 (.ofNat 0)) h23 fun h24 =>
  xStore (some 1) x4 x23 h24 fun h25 =>
  c93_10 x9 h22 x2 x3 x4 v0 v1 v2 x1 x8 x5 x6 x7 x10 x11 x19 x20 x21 x22 x23 h25 k)
  (xLoad (some (some 16)) x8 h22 fun x30 =>
  bd152 v0 v1 x30 x9 h22 fun x31 h34 =>
  c93_23 v0 v1 v2 x1 x2 x3 x4 x8 x9 x5 x6 x7 x10 x11 x19 x20 x21 x22 x30 x31 h34 k)
noncomputable abbrev c93_25 (x11 : CV) (x9 : CV) (h9 : CH) (x2 : CV) (x3 : CV) (x4 : CV) (v0 : CV) (v1 : CV) (v2 : CV) (x1 : CV) (x8 : CV) (x5 : CV) (x6 : CV) (x7 : CV) (x10 : CV) (k : CV → CH → Bool) : Bool :=
 xIte x11
  (xLoad (some none) x9 h9 fun x12 =>
  xStore (some 1) x2 (.int .i64 (.ofNat 0)) h9 fun h10 =>
  xStore (some 1) x3 (.int .i64 (.ofNat 0)) h10 fun h11 =>
  xStore (some 1) x4 x12 h11 fun h12 =>
  c93_5 x9 h9 x2 x3 x4 v0 v1 v2 x1 x8 x5 x6 x7 x10 x11 x12 h12 k)
  (xLoad (some none) x1 h9 fun x19 =>
  bd149 x19 h9 fun x20 h21 =>
  xStore (some 1) x9 x20 h21 fun h22 =>
  xLoad (some none) x9 h22 fun x21 =>
  xBin (some (.int .i64)) .neq x21 (.int .i64 (.ofNat 0)) fun x22 =>
  c93_24 x22 x9 h22 x2 x3 x4 v0 v1 v2 x1 x8 x5 x6 x7 x10 x11 x19 x20 x21 k)
noncomputable abbrev c93_26 (h5 : CH) (x6 : CV) (x7 : CV) (x2 : CV) (x3 : CV) (x4 : CV) (v0 : CV) (v1 : CV) (v2 : CV) (x1 : CV) (x5 : CV) (k : CV → CH → Bool) : Bool :=
 xBoxP 68 [(.int .u16 (.ofNat 0)), (.int .u16 (.ofNat 0)), (.int .u32 (.ofNat 0)), (.int .u32 (.ofNat 0)), (.int .u32 (.ofNat 0)), (.int .u32 (.ofNat 0)), (.int .u32 (.ofNat 0)), (.int .u32 (.ofNat 0)), (.int .u32 (.ofNat 0)), (.int .u32 (.ofNat 0)), (.int .u32 (.ofNat 0)), (.int .u32 (.ofNat 0)), (.int .u32 (.ofNat 0)), (.int .u32 (.ofNat 0)), (.int .u32 (.ofNat 0)), (.int .u32 (.ofNat 0))] h5 fun x8 h6 =>
 xBoxP 47 [(.int .i64 (.ofNat 0))] h6 fun x9 h7 =>
 xStore (some 16) x8 x6 h7 fun h8 =>
 xStore (some 1) x9 x7 h8 fun h9 =>
 xLoad (some none) x9 h9 fun x10 =>
 xBin (some (.int .i64)) .neq x10 (.int .i64 (.ofNat 0)) fun x11 =>
 c93_25 x11 x9 h9 x2 x3 x4 v0 v1 v2 x1 x8 x5 x6 x7 x10 k
noncomputable def bd93 (v0 v1 v2 : CV) (h : CH) (k : CV → CH → Bool) : Bool :=
 xBox 9 v2 h fun x1 h1 =>
 xBoxP 3 [(.int .i64 (.ofNat 0))] h1 fun x2 h2 =>
 xBoxP 3 [(.int .i64 (.ofNat 0))] h2 fun x3 h3 =>
 xBoxP 47 [(.int .i64 (.ofNat 0))] h3 fun x4 h4 =>
 bd151 v0 v1 h4 fun x5 h5 =>
 xExtract x5 0 fun x6 =>
 xExtract x5 1 fun x7 =>
 c93_26 h5 x6 x7 x2 x3 x4 v0 v1 v2 x1 x5 k
noncomputable abbrev ex93 : Ex := fun args h k => a3 args fun v0 v1 v2 => bd93 v0 v1 v2 h k
set_option maxRecDepth 100000 in
theorem sim93 : SimF Tryz.prog 93 ex93 := fun args h k hk => by
  obtain ⟨v0, v1, v2, rfl, hk⟩ := a3_ok hk
  exact simN_of (qf := (fun f => [75, 120, 121, 140, 144, 145, 146, 147, 148, 175, 181, 196, 197, 210, 220, 246].contains f)) (Z := zs) (C := [(151, ex151), (149, ex149), (152, ex152), (192, ex192)]) (T := [(3, .tree [0, 1, 2, 3] (.fork [] (.cons 0 (.line [1, 2, 3]) (.cons 1 (.fork [] (.cons 0 (.line [2, 3]) (.cons 2 (.line [0, 3]) .nil))) .nil)))), (6, .tree [0, 1, 2, 3] (.fork [] (.cons 0 (.line [1, 2, 3]) (.cons 1 (.fork [] (.cons 0 (.line [2, 3]) (.cons 2 (.line [0, 3]) .nil))) .nil)))), (13, .tree [0, 1, 2, 3] (.fork [] (.cons 0 (.line [1, 2, 3]) (.cons 1 (.fork [] (.cons 0 (.line [2, 3]) (.cons 2 (.line [0, 3]) .nil))) .nil)))), (13, .tree [0, 1, 2, 3] (.fork [] (.cons 0 (.line [1, 2, 3]) (.cons 1 (.fork [] (.cons 0 (.line [2, 3]) (.cons 2 (.line [0, 3]) .nil))) .nil))))]) ⟨zerosB_ok zsOk, (exCons (by kernel_rfl) sim151 (exCons (by kernel_rfl) sim149 (exCons (by kernel_rfl) sim152 (exCons (by kernel_rfl) sim192 exNil))))⟩ (fun _ _ _ _ h => h) (.seq .nil (.seq .nil (.seq .nil (.seq .nil (.seq (.seq .nil (.loop [930] [] .nil)) .nil))))) Tryz.func93 _ h k (Eq.mp (by kernel_rfl : (bd93 v0 v1 v2 h k = true) = (xFnN Tryz.prog (fun f => [75, 120, 121, 140, 144, 145, 146, 147, 148, 175, 181, 196, 197, 210, 220, 246].contains f) zs [(151, ex151), (149, ex149), (152, ex152), (192, ex192)] [(3, .tree [0, 1, 2, 3] (.fork [] (.cons 0 (.line [1, 2, 3]) (.cons 1 (.fork [] (.cons 0 (.line [2, 3]) (.cons 2 (.line [0, 3]) .nil))) .nil)))), (6, .tree [0, 1, 2, 3] (.fork [] (.cons 0 (.line [1, 2, 3]) (.cons 1 (.fork [] (.cons 0 (.line [2, 3]) (.cons 2 (.line [0, 3]) .nil))) .nil)))), (13, .tree [0, 1, 2, 3] (.fork [] (.cons 0 (.line [1, 2, 3]) (.cons 1 (.fork [] (.cons 0 (.line [2, 3]) (.cons 2 (.line [0, 3]) .nil))) .nil)))), (13, .tree [0, 1, 2, 3] (.fork [] (.cons 0 (.line [1, 2, 3]) (.cons 1 (.fork [] (.cons 0 (.line [2, 3]) (.cons 2 (.line [0, 3]) .nil))) .nil))))] 93 Tryz.f93 (.seq .nil (.seq .nil (.seq .nil (.seq .nil (.seq (.seq .nil (.loop [930] [] .nil)) .nil))))) [v0, v1, v2] h k = true)) hk)

/- undercroft/walk.down$1 -/
noncomputable def bd150 (v0 v1 v2 : CV) (h : CH) (k : CV → CH → Bool) : Bool :=
 xLoad (some none) v1 h fun x1 =>
 xLoad (some none) v2 h fun x2 =>
 bd93 x1 x2 v0 h fun x3 h1 =>
 xExtract x3 0 fun x4 =>
 xExtract x3 1 fun x5 =>
 xExtract x3 2 fun x6 =>
 xBin (some (.int .i64)) .eql x6 (.int .i64 (.ofNat 0)) fun x7 =>
 xIte x7
  (xStore (some 1) v2 x5 h1 fun h2 =>
  k x6 h2)
  (k x6 h1)
noncomputable abbrev ex150 : Ex := fun args h k => a3 args fun v0 v1 v2 => bd150 v0 v1 v2 h k
set_option maxRecDepth 100000 in
theorem sim150 : SimF Tryz.prog 150 ex150 := fun args h k hk => by
  obtain ⟨v0, v1, v2, rfl, hk⟩ := a3_ok hk
  exact sim_of (qf := (fun f => [75, 120, 121, 140, 144, 145, 146, 147, 148, 175, 181, 196, 197, 210, 220, 246].contains f)) (Z := zs) (C := [(93, ex93)]) (T := []) ⟨zerosB_ok zsOk, (exCons (by kernel_rfl) sim93 exNil)⟩ .nil Tryz.func150 _ h k (Eq.mp (by kernel_rfl : (bd150 v0 v1 v2 h k = true) = (xFn Tryz.prog (fun f => [75, 120, 121, 140, 144, 145, 146, 147, 148, 175, 181, 196, 197, 210, 220, 246].contains f) zs [(93, ex93)] [] Tryz.f150 .nil [v0, v1, v2] h k = true)) hk)

/- undercroft/walk.down -/
noncomputable abbrev c91_1 (x6 : CV) (v1 : CV) (s3 : TupC 1) (h4 : CH) (x1 : CV) (x2 : CV) (k : CV → CH → Bool) (K4 : TupC 1 → CH → Bool) : Bool :=
 xIte x6
  (xIdx (some (none, 1)) v1 s3.1 fun x7 =>
  xLoad (some none) x7 h4 fun x8 =>
  xCallV [(150, ex150)] (.fn 150 [] [x1, x2]) [x8] h4 fun x9 h5 =>
  xBin (some (.int .i64)) .neq x9 (.int .i64 (.ofNat 0)) fun x10 =>
  xIte x10
   (k (.tup [(.int .i64 (.ofNat 0)), x9]) h5)
   (xBin (some (.int .i64)) .add s3.1 (.int .i64 (.ofNat 1)) fun x11 =>
   K4 (x11, ()) h5))
  (xLoad (some none) x2 h4 fun x12 =>
  k (.tup [x12, (.int .i64 (.ofNat 0))]) h4)
noncomputable def bd91 (v0 v1 : CV) (h : CH) (k : CV → CH → Bool) : Bool :=
 xBox 51 v0 h fun x1 h1 =>
 xBoxP 3 [(.int .i64 (.ofNat 0))] h1 fun x2 h2 =>
 xStore (some 1) x2 (.int .i64 (.ofNat 1)) h2 fun h3 =>
 xLen (some (.inl false)) v1 fun x3 =>
 xLoop (n := 1) (fun K4 s3 h4 =>
  xBin (some (.int .i64)) .lss s3.1 x3 fun x6 =>
  c91_1 x6 v1 s3 h4 x1 x2 k K4) 1000000 ((.int .i64 (.ofNat 0)), ()) h3
noncomputable abbrev ex91 : Ex := fun args h k => a2 args fun v0 v1 => bd91 v0 v1 h k
set_option maxRecDepth 100000 in
theorem sim91 : SimF Tryz.prog 91 ex91 := fun args h k hk => by
  obtain ⟨v0, v1, rfl, hk⟩ := a2_ok hk
  exact sim_of (qf := (fun f => [75, 120, 121, 140, 144, 145, 146, 147, 148, 175, 181, 196, 197, 210, 220, 246].contains f)) (Z := zs) (C := [(150, ex150)]) (T := []) ⟨zerosB_ok zsOk, (exCons (by kernel_rfl) sim150 exNil)⟩ (.seq .nil (.seq .nil (.seq .nil (.seq (.seq .nil (.loop [14] [15, 16, 17, 9, 18, 19, 20, 10, 21, 22, 23, 4, 5, 24] .nil)) .nil)))) Tryz.func91 _ h k (Eq.mp (by kernel_rfl : (bd91 v0 v1 h k = true) = (xFn Tryz.prog (fun f => [75, 120, 121, 140, 144, 145, 146, 147, 148, 175, 181, 196, 197, 210, 220, 246].contains f) zs [(150, ex150)] [] Tryz.f91 (.seq .nil (.seq .nil (.seq .nil (.seq (.seq .nil (.loop [14] [15, 16, 17, 9, 18, 19, 20, 10, 21, 22, 23, 4, 5, 24] .nil)) .nil)))) [v0, v1] h k = true)) hk)

/- undercroft/walk.Find -/
noncomputable abbrev c36_1 (x1 : CV) (k : CV → CH → Bool) (h1 : CH) (v1 : CV) (v0 : CV) : Bool :=
 xBin (some (.int .i64)) .neq x1 (.int .i64 (.ofNat 0)) fun x2 =>
 xIte x2
  (k (.tup [(.int .i64 (.ofNat 0)), x1]) h1)
  (bd90 v1 h1 fun x3 h2 =>
  xBin (some (.int .i64)) .neq x3 (.int .i64 (.ofNat 0)) fun x4 =>
  xIte x4
   (k (.tup [(.int .i64 (.ofNat 0)), x3]) h2)
   (bd91 v0 v1 h2 fun x5 h3 =>
   xExtract x5 0 fun x6 =>
   xExtract x5 1 fun x7 =>
   k (.tup [x6, x7]) h3))
noncomputable def bd36 (v0 v1 : CV) (h : CH) (k : CV → CH → Bool) : Bool :=
 bd78 v0 h fun x1 h1 =>
 c36_1 x1 k h1 v1 v0
noncomputable abbrev ex36 : Ex := fun args h k => a2 args fun v0 v1 => bd36 v0 v1 h k
set_option maxRecDepth 100000 in
theorem sim36 : SimF Tryz.prog 36 ex36 := fun args h k hk => by
  obtain ⟨v0, v1, rfl, hk⟩ := a2_ok hk
  exact sim_of (qf := (fun f => [75, 120, 121, 140, 144, 145, 146, 147, 148, 175, 181, 196, 197, 210, 220, 246].contains f)) (Z := zs) (C := [(78, ex78), (90, ex90), (91, ex91)]) (T := []) ⟨zerosB_ok zsOk, (exCons (by kernel_rfl) sim78 (exCons (by kernel_rfl) sim90 (exCons (by kernel_rfl) sim91 exNil)))⟩ .nil Tryz.func36 _ h k (Eq.mp (by kernel_rfl : (bd36 v0 v1 h k = true) = (xFn Tryz.prog (fun f => [75, 120, 121, 140, 144, 145, 146, 147, 148, 175, 181, 196, 197, 210, 220, 246].contains f) zs [(78, ex78), (90, ex90), (91, ex91)] [] Tryz.f36 .nil [v0, v1] h k = true)) hk)

/- undercroft/walk.Parent -/
noncomputable abbrev c37_1 (x18 : CV) (k : CV → CH → Bool) (x16 : CV) (h6 : CH) (x17 : CV) (v1 : CV) (x8 : CV) (x11 : CV) : Bool :=
 xIte x18
  (k (.tup [(.int .i64 (.ofNat 0)), (.str ⟨#[]⟩), x16]) h6)
  (xAddr (some 0) x17 fun x19 =>
  xLoad (some none) x19 h6 fun x20 =>
  xBin (some (.int .u16)) .neq x20 (.int .u16 (.ofNat 2)) fun x21 =>
  xIte x21
   (k (.tup [(.int .i64 (.ofNat 0)), (.str ⟨#[]⟩), (.int .i64 (.ofNat 7))]) h6)
   (xIdx (some (none, 1)) v1 x8 fun x22 =>
   xLoad (some none) x22 h6 fun x23 =>
   k (.tup [x11, x23, (.int .i64 (.ofNat 0))]) h6))
noncomputable abbrev c37_2 (h4 : CH) (x15 : CV) (x16 : CV) (k : CV → CH → Bool) (v1 : CV) (x8 : CV) (x11 : CV) : Bool :=
 xBoxP 68 [(.int .u16 (.ofNat 0)), (.int .u16 (.ofNat 0)), (.int .u32 (.ofNat 0)), (.int .u32 (.ofNat 0)), (.int .u32 (.ofNat 0)), (.int .u32 (.ofNat 0)), (.int .u32 (.ofNat 0)), (.int .u32 (.ofNat 0)), (.int .u32 (.ofNat 0)), (.int .u32 (.ofNat 0)), (.int .u32 (.ofNat 0)), (.int .u32 (.ofNat 0)), (.int .u32 (.ofNat 0)), (.int .u32 (.ofNat 0)), (.int .u32 (.ofNat 0)), (.int .u32 (.ofNat 0))] h4 fun x17 h5 =>
 xStore (some 16) x17 x15 h5 fun h6 =>
 xBin (some (.int .i64)) .neq x16 (.int .i64 (.ofNat 0)) fun x18 =>
 c37_1 x18 k x16 h6 x17 v1 x8 x11
noncomputable abbrev c37_3 (v1 : CV) (x8 : CV) (v0 : CV) (h2 : CH) (k : CV → CH → Bool) : Bool :=
 xSlice (some (none, 1)) v1 none (some x8) none fun x9 =>
 bd91 v0 x9 h2 fun x10 h3 =>
 xExtract x10 0 fun x11 =>
 xExtract x10 1 fun x12 =>
 xBin (some (.int .i64)) .neq x12 (.int .i64 (.ofNat 0)) fun x13 =>
 xIte x13
  (k (.tup [(.int .i64 (.ofNat 0)), (.str ⟨#[]⟩), x12]) h3)
  (bd28 v0 x11 h3 fun x14 h4 =>
  xExtract x14 0 fun x15 =>
  xExtract x14 1 fun x16 =>
  c37_2 h4 x15 x16 k v1 x8 x11)
noncomputable abbrev c37_4 (x4 : CV) (k : CV → CH → Bool) (h1 : CH) (v1 : CV) (v0 : CV) : Bool :=
 xIte x4
  (k (.tup [(.int .i64 (.ofNat 0)), (.str ⟨#[]⟩), (.int .i64 (.ofNat 4))]) h1)
  (bd90 v1 h1 fun x5 h2 =>
  xBin (some (.int .i64)) .neq x5 (.int .i64 (.ofNat 0)) fun x6 =>
  xIte x6
   (k (.tup [(.int .i64 (.ofNat 0)), (.str ⟨#[]⟩), x5]) h2)
   (xLen (some (.inl false)) v1 fun x7 =>
   xBin (some (.int .i64)) .sub x7 (.int .i64 (.ofNat 1)) fun x8 =>
   c37_3 v1 x8 v0 h2 k))
noncomputable def bd37 (v0 v1 : CV) (h : CH) (k : CV → CH → Bool) : Bool :=
 bd78 v0 h fun x1 h1 =>
 xBin (some (.int .i64)) .neq x1 (.int .i64 (.ofNat 0)) fun x2 =>
 xIte x2
  (k (.tup [(.int .i64 (.ofNat 0)), (.str ⟨#[]⟩), x1]) h1)
  (xLen (some (.inl false)) v1 fun x3 =>
  xBin (some (.int .i64)) .eql x3 (.int .i64 (.ofNat 0)) fun x4 =>
  c37_4 x4 k h1 v1 v0)
noncomputable abbrev ex37 : Ex := fun args h k => a2 args fun v0 v1 => bd37 v0 v1 h k
set_option maxRecDepth 100000 in
theorem sim37 : SimF Tryz.prog 37 ex37 := fun args h k hk => by
  obtain ⟨v0, v1, rfl, hk⟩ := a2_ok hk
  exact sim_of (qf := (fun f => [75, 120, 121, 140, 144, 145, 146, 147, 148, 175, 181, 196, 197, 210, 220, 246].contains f)) (Z := zs) (C := [(78, ex78), (90, ex90), (91, ex91), (28, ex28)]) (T := []) ⟨zerosB_ok zsOk, (exCons (by kernel_rfl) sim78 (exCons (by kernel_rfl) sim90 (exCons (by kernel_rfl) sim91 (exCons (by kernel_rfl) sim28 exNil))))⟩ .nil Tryz.func37 _ h k (Eq.mp (by kernel_rfl : (bd37 v0 v1 h k = true) = (xFn Tryz.prog (fun f => [75, 120, 121, 140, 144, 145, 146, 147, 148, 175, 181, 196, 197, 210, 220, 246].contains f) zs [(78, ex78), (90, ex90), (91, ex91), (28, ex28)] [] Tryz.f37 .nil [v0, v1] h k = true)) hk)

/- undercroft/walk.tree -/
noncomputable abbrev c92_1 (x4 : CV) (x2 : CV) (h2 : CH) (k : CV → CH → Bool) (x3 : CV) : Bool :=
 xStore (some 16) x4 x2 h2 fun h3 =>
 xAddr (some 0) x4 fun x5 =>
 xLoad (some none) x5 h3 fun x6 =>
 xBin (some (.int .u16)) .eql x6 (.int .u16 (.ofNat 2)) fun x7 =>
 xIte x7
  (xAddr (some 1) x4 fun x8 =>
  xLoad (some none) x8 h3 fun x9 =>
  xBin (some (.int .u16)) .neq x9 (.int .u16 (.ofNat 0)) fun x10 =>
  k (.tup [x10, x3]) h3)
  (k (.tup [(.bool false), x3]) h3)
noncomputable abbrev c92_2 (h1 : CH) (x2 : CV) (k : CV → CH → Bool) (x3 : CV) : Bool :=
 xBoxP 68 [(.int .u16 (.ofNat 0)), (.int .u16 (.ofNat 0)), (.int .u32 (.ofNat 0)), (.int .u32 (.ofNat 0)), (.int .u32 (.ofNat 0)), (.int .u32 (.ofNat 0)), (.int .u32 (.ofNat 0)), (.int .u32 (.ofNat 0)), (.int .u32 (.ofNat 0)), (.int .u32 (.ofNat 0)), (.int .u32 (.ofNat 0)), (.int .u32 (.ofNat 0)), (.int .u32 (.ofNat 0)), (.int .u32 (.ofNat 0)), (.int .u32 (.ofNat 0)), (.int .u32 (.ofNat 0))] h1 fun x4 h2 =>
 c92_1 x4 x2 h2 k x3
noncomputable def bd92 (v0 v1 : CV) (h : CH) (k : CV → CH → Bool) : Bool :=
 bd28 v0 v1 h fun x1 h1 =>
 xExtract x1 0 fun x2 =>
 xExtract x1 1 fun x3 =>
 c92_2 h1 x2 k x3
noncomputable abbrev ex92 : Ex := fun args h k => a2 args fun v0 v1 => bd92 v0 v1 h k
set_option maxRecDepth 100000 in
theorem sim92 : SimF Tryz.prog 92 ex92 := fun args h k hk => by
  obtain ⟨v0, v1, rfl, hk⟩ := a2_ok hk
  exact sim_of (qf := (fun f => [75, 120, 121, 140, 144, 145, 146, 147, 148, 175, 181, 196, 197, 210, 220, 246].contains f)) (Z := zs) (C := [(28, ex28)]) (T := []) ⟨zerosB_ok zsOk, (exCons (by kernel_rfl) sim28 exNil)⟩ .nil Tryz.func92 _ h k (Eq.mp (by kernel_rfl : (bd92 v0 v1 h k = true) = (xFn Tryz.prog (fun f => [75, 120, 121, 140, 144, 145, 146, 147, 148, 175, 181, 196, 197, 210, 220, 246].contains f) zs [(28, ex28)] [] Tryz.f92 .nil [v0, v1] h k = true)) hk)

/- undercroft/walk.Beneath -/
noncomputable abbrev c38_1 (v0 : CV) (s12 : TupC 1) (h8 : CH) (k : CV → CH → Bool) (K13 : TupC 1 → CH → Bool) : Bool :=
 bd93 v0 s12.1 (.str ⟨#[46, 46]⟩) h8 fun x18 h9 =>
 xExtract x18 0 fun x19 =>
 xExtract x18 1 fun x20 =>
 xExtract x18 2 fun x21 =>
 xBin (some (.int .i64)) .eql x21 (.int .i64 (.ofNat 3)) fun x22 =>
 xIte x22
  (k (.tup [(.bool false), x21]) h9)
  (xBin (some (.int .i64)) .neq x21 (.int .i64 (.ofNat 0)) fun x23 =>
  xIte x23
   (k (.tup [(.bool false), (.int .i64 (.ofNat 4))]) h9)
   (K13 (x20, ()) h9))
noncomputable abbrev c38_2 (s14 : TupC 1) (x12 : CV) (s12 : TupC 1) (h7 : CH) (k : CV → CH → Bool) (v0 : CV) (K13 : TupC 1 → CH → Bool) (v1 : CV) : Bool :=
 xIte s14.1
  (xLookup (some (3, .int .i64, 3)) (some (.int .i64 (.ofNat 0))) false x12 s12.1 h7 fun x16 =>
  xBin (some (.int .i64)) .gtr x16 (.int .i64 (.ofNat 0)) fun x17 =>
  xIte x17
   (k (.tup [(.bool false), (.int .i64 (.ofNat 4))]) h7)
   (xMapSet (some (3, .int .i64, 3)) x12 s12.1 (.int .i64 (.ofNat 1)) h7 fun h8 =>
   c38_1 v0 s12 h8 k K13))
  (xBin (some (.int .i64)) .eql s12.1 v1 fun x24 =>
  k (.tup [x24, (.int .i64 (.ofNat 0))]) h7)
noncomputable abbrev c38_3 (s10 : TupC 1) (k : CV → CH → Bool) (h4 : CH) (v0 : CV) (v1 : CV) (v2 : CV) : Bool :=
 xIte s10.1
  (k (.tup [(.bool false), (.int .i64 (.ofNat 7))]) h4)
  (xNewMap h4 fun x12 h5 =>
  xLoop (n := 1) (fun K13 s12 h6 =>
   xJoin (n := 1) (fun s14 h7 =>
    c38_2 s14 x12 s12 h7 k v0 K13 v1)
   (fun K24 => xBin (some (.int .i64)) .neq s12.1 v1 fun x26 =>
   xIte x26
    (xBin (some (.int .i64)) .neq s12.1 (.int .i64 (.ofNat 1)) fun x27 =>
    K24 (x27, ()) h6)
    (K24 ((.bool false), ()) h6))) 1000000 (v2, ()) h5)
noncomputable abbrev c38_4 (v0 : CV) (v2 : CV) (h2 : CH) (k : CV → CH → Bool) (v1 : CV) (x4 : CV) : Bool :=
 bd92 v0 v2 h2 fun x7 h3 =>
 xExtract x7 0 fun x8 =>
 xExtract x7 1 fun x9 =>
 xBin (some (.int .i64)) .neq x9 (.int .i64 (.ofNat 0)) fun x10 =>
 xIte x10
  (k (.tup [(.bool false), x9]) h3)
  (xJoin (n := 1) (fun s10 h4 =>
   c38_3 s10 k h4 v0 v1 v2)
  (fun K27 => xUn .not x4 fun x29 =>
  xIte x29
   (K27 ((.bool true), ()) h3)
   (xUn .not x8 fun x30 =>
   K27 (x30, ()) h3)))
noncomputable def bd38 (v0 v1 v2 : CV) (h : CH) (k : CV → CH → Bool) : Bool :=
 bd78 v0 h fun x1 h1 =>
 xBin (some (.int .i64)) .neq x1 (.int .i64 (.ofNat 0)) fun x2 =>
 xIte x2
  (k (.tup [(.bool false), x1]) h1)
  (bd92 v0 v1 h1 fun x3 h2 =>
  xExtract x3 0 fun x4 =>
  xExtract x3 1 fun x5 =>
  xBin (some (.int .i64)) .neq x5 (.int .i64 (.ofNat 0)) fun x6 =>
  xIte x6
   (k (.tup [(.bool false), x5]) h2)
   (c38_4 v0 v2 h2 k v1 x4))
noncomputable abbrev ex38 : Ex := fun args h k => a3 args fun v0 v1 v2 => bd38 v0 v1 v2 h k
set_option maxRecDepth 100000 in
theorem sim38 : SimF Tryz.prog 38 ex38 := fun args h k hk => by
  obtain ⟨v0, v1, v2, rfl, hk⟩ := a3_ok hk
  exact sim_of (qf := (fun f => [75, 120, 121, 140, 144, 145, 146, 147, 148, 175, 181, 196, 197, 210, 220, 246].contains f)) (Z := zs) (C := [(78, ex78), (92, ex92), (93, ex93)]) (T := []) ⟨zerosB_ok zsOk, (exCons (by kernel_rfl) sim78 (exCons (by kernel_rfl) sim92 (exCons (by kernel_rfl) sim93 exNil)))⟩ (.seq .nil (.seq .nil (.seq .nil (.seq .nil (.seq .nil (.seq .nil (.seq (.join [44] [39, 40, 41, 42, 43] .nil .nil) (.seq .nil (.seq (.loop [2] [46, 47, 48, 49, 50, 51, 52, 53, 54, 55, 56, 6, 7, 57, 58, 60, 61, 62, 59, 63, 64, 65, 13, 14, 15, 66, 67, 68, 69, 70, 71] (.seq (.join [52] [46, 47, 48, 49, 50, 51] .nil .nil) .nil)) .nil))))))))) Tryz.func38 _ h k (Eq.mp (by kernel_rfl : (bd38 v0 v1 v2 h k = true) = (xFn Tryz.prog (fun f => [75, 120, 121, 140, 144, 145, 146, 147, 148, 175, 181, 196, 197, 210, 220, 246].contains f) zs [(78, ex78), (92, ex92), (93, ex93)] [] Tryz.f38 (.seq .nil (.seq .nil (.seq .nil (.seq .nil (.seq .nil (.seq .nil (.seq (.join [44] [39, 40, 41, 42, 43] .nil .nil) (.seq .nil (.seq (.loop [2] [46, 47, 48, 49, 50, 51, 52, 53, 54, 55, 56, 6, 7, 57, 58, 60, 61, 62, 59, 63, 64, 65, 13, 14, 15, 66, 67, 68, 69, 70, 71] (.seq (.join [52] [46, 47, 48, 49, 50, 51] .nil .nil) .nil)) .nil))))))))) [v0, v1, v2] h k = true)) hk)
end Go.Proofs
