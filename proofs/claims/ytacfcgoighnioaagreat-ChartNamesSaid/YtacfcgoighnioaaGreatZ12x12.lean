/- Functions, run; each tied to the program. -/
import Derived.Test.YtacfcgoighnioaaGreatZ12C
set_option linter.unusedVariables false
set_option linter.unusedSimpArgs false
namespace Go.Proofs
open Go.Vc Go.Xc

/- undercroft/undercroftlaw12.file -/
noncomputable abbrev c6_1 (x22 : CV) (h12 : CH) (x3 : CV) (x1 : CV) (k : CV → CH → Bool) : Bool :=
 xAddr (some 2) x22 fun x23 =>
 xLoad (some none) x23 h12 fun x24 =>
 xBin (some (.int .i64)) .sub x24 (.int .i64 (.ofNat 1)) fun x25 =>
 xAddr (some 3) x3 fun x26 =>
 xAddr (some 2) x26 fun x27 =>
 xStore (some 1) x27 x25 h12 fun h13 =>
 xLoad (some (some 7)) x3 h13 fun x28 =>
 xStore (some 7) x1 x28 h13 fun h14 =>
 xLoad (some (some 7)) x1 h14 fun x29 =>
 k x29 h14
noncomputable abbrev c6_2 (x17 : CV) (x18 : CV) (h10 : CH) (x3 : CV) (x1 : CV) (k : CV → CH → Bool) : Bool :=
 xNewS (some (82, 7, 88, false)) (some [(.int .i64 (.ofNat 0)), (.int .u16 (.ofNat 0)), (.int .i64 (.ofNat 0)), (.int .i64 (.ofNat 0)), (.int .i64 (.ofNat 0)), .nils, .nils]) 2 [(0, x17), (1, x18)] h10 fun x19 h11 =>
 xAddr (some 3) x3 fun x20 =>
 xAddr (some 0) x20 fun x21 =>
 xStore (some 1) x21 x19 h11 fun h12 =>
 xAddr (some 3) x3 fun x22 =>
 c6_1 x22 h12 x3 x1 k
noncomputable abbrev c6_3 (x17 : CV) (h10 : CH) (x3 : CV) (x1 : CV) (k : CV → CH → Bool) : Bool :=
 xBuild (some (.inl [(0, 1), (1, 1), (2, 1), (3, 1), (4, 1), (5, 1), (6, 1)])) (some (.agg [(.int .i64 (.ofNat 0)), (.int .u16 (.ofNat 0)), (.int .i64 (.ofNat 0)), (.int .i64 (.ofNat 0)), (.int .i64 (.ofNat 0)), .nils, .nils])) [(0, (.int .i64 (.ofNat 2))), (1, (.int .u16 (.ofNat 1))), (2, (.int .i64 (.ofNat 1)))] fun x18 =>
 c6_2 x17 x18 h10 x3 x1 k
noncomputable abbrev c6_4 (h7 : CH) (x12 : CV) (x9 : CV) (x3 : CV) (x1 : CV) (k : CV → CH → Bool) : Bool :=
 xBuild (some (.inl [(0, 1), (1, 1)])) (some (.agg [(.int .u16 (.ofNat 0)), (.str ⟨#[]⟩)])) [(0, (.int .u16 (.ofNat 2))), (1, (.str ⟨#[97]⟩))] fun x13 =>
 xNewS (some (84, 2, 24, false)) (some [(.int .u16 (.ofNat 0)), (.str ⟨#[]⟩)]) 1 [(0, x13)] h7 fun x14 h8 =>
 xApp (some (84, 2, 24, false)) x12 x14 h8 fun x15 h9 =>
 xAddr (some 6) x9 fun x16 =>
 xStore (some 1) x16 x15 h9 fun h10 =>
 xLoad (some (some 7)) x9 h10 fun x17 =>
 c6_3 x17 h10 x3 x1 k
noncomputable abbrev c6_5 (h4 : CH) (x8 : CV) (x3 : CV) (x1 : CV) (k : CV → CH → Bool) : Bool :=
 xBoxP 82 [(.int .i64 (.ofNat 0)), (.int .u16 (.ofNat 0)), (.int .i64 (.ofNat 0)), (.int .i64 (.ofNat 0)), (.int .i64 (.ofNat 0)), .nils, .nils] h4 fun x9 h5 =>
 xStore (some 7) x9 x8 h5 fun h6 =>
 xAddr (some 3) x9 fun x10 =>
 xStore (some 1) x10 (.int .i64 (.ofNat 48)) h6 fun h7 =>
 xAddr (some 6) x9 fun x11 =>
 xLoad (some none) x11 h7 fun x12 =>
 c6_4 h7 x12 x9 x3 x1 k
noncomputable abbrev c6_6 (h2 : CH) (x2 : CV) (x1 : CV) (k : CV → CH → Bool) : Bool :=
 xBoxP 31 [(.int .i64 (.ofNat 0)), (.int .i64 (.ofNat 0)), (.int .i64 (.ofNat 0)), .nils, (.int .i64 (.ofNat 0)), (.int .i64 (.ofNat 0)), (.int .i64 (.ofNat 0))] h2 fun x3 h3 =>
 xStore (some 7) x3 x2 h3 fun h4 =>
 xAddr (some 3) x3 fun x4 =>
 xAddr (some 0) x4 fun x5 =>
 xLoad (some none) x5 h4 fun x6 =>
 xIdx (some (none, 7)) x6 (.int .i64 (.ofNat 0)) fun x7 =>
 xLoad (some (some 7)) x7 h4 fun x8 =>
 c6_5 h4 x8 x3 x1 k
noncomputable def bd6 (h : CH) (k : CV → CH → Bool) : Bool :=
 xBoxP 31 [(.int .i64 (.ofNat 0)), (.int .i64 (.ofNat 0)), (.int .i64 (.ofNat 0)), .nils, (.int .i64 (.ofNat 0)), (.int .i64 (.ofNat 0)), (.int .i64 (.ofNat 0))] h fun x1 h1 =>
 bd25 h1 fun x2 h2 =>
 c6_6 h2 x2 x1 k
noncomputable abbrev ex6 : Ex := fun args h k => a0 args (bd6  h k)
set_option maxRecDepth 100000 in
theorem sim6 : SimF Tryz.prog 6 ex6 := fun args h k hk => by
  obtain ⟨rfl, hk⟩ := a0_ok hk
  exact sim_of (qf := (fun f => [46, 47, 62, 75, 82, 97, 104, 114, 121, 127, 128, 141, 151, 156, 157, 183].contains f)) (Z := zs) (C := [(25, ex25)]) (T := []) ⟨zerosB_ok zsOk, (exCons (by kernel_rfl) sim25 exNil)⟩ .nil Tryz.func6 _ h k (Eq.mp (by kernel_rfl : (bd6  h k = true) = (xFn Tryz.prog (fun f => [46, 47, 62, 75, 82, 97, 104, 114, 121, 127, 128, 141, 151, 156, 157, 183].contains f) zs [(25, ex25)] [] Tryz.f6 .nil [] h k = true)) hk)

/- undercroft/undercroftlaw12.awake -/
noncomputable abbrev c7_1 (x17 : CV) (x23 : CV) (x3 : CV) (h6 : CH) (k : CV → CH → Bool) : Bool :=
 xBin (some (.int .i64)) .eql x17 (.int .i64 (.ofNat 40)) fun x29 =>
 xIte x29
  (xBin (some (.int .i64)) .eql x23 (.int .i64 (.ofNat 40)) fun x30 =>
  xIte x30
   (xNilCheck x3 fun x31 =>
   xAddr (some 1) x31 fun x32 =>
   xLoad (some none) x32 h6 fun x33 =>
   bd16 x33 h6 fun x34 h7 =>
   xBin (some (.int .i64)) .eql x34 (.int .i64 (.ofNat 0)) fun x35 =>
   k x35 h7)
   (k (.bool false) h6))
  (k (.bool false) h6)
noncomputable abbrev c7_2 (x25 : CV) (x18 : CV) (x24 : CV) (x11 : CV) (x17 : CV) (x23 : CV) (x3 : CV) (h6 : CH) (k : CV → CH → Bool) : Bool :=
 xIte x25
  (xBin (some (.int .i64)) .eql x18 (.int .i64 (.ofNat 0)) fun x26 =>
  xIte x26
   (xBin (some (.int .i64)) .eql x24 (.int .i64 (.ofNat 0)) fun x27 =>
   xIte x27
    (xBin (some (.int .i64)) .eql x11 (.int .i64 (.ofNat 2)) fun x28 =>
    xIte x28
     (c7_1 x17 x23 x3 h6 k)
     (k (.bool false) h6))
    (k (.bool false) h6))
   (k (.bool false) h6))
  (k (.bool false) h6)
noncomputable abbrev c7_3 (x16 : CV) (x3 : CV) (h5 : CH) (x12 : CV) (x11 : CV) (k : CV → CH → Bool) : Bool :=
 xExtract x16 0 fun x17 =>
 xExtract x16 1 fun x18 =>
 xNilCheck x3 fun x19 =>
 xAddr (some 1) x19 fun x20 =>
 xLoad (some none) x20 h5 fun x21 =>
 bd9 x21 (.int .i64 (.ofNat 2)) (.int .i64 (.ofNat 10)) h5 fun x22 h6 =>
 xExtract x22 0 fun x23 =>
 xExtract x22 1 fun x24 =>
 xBin (some (.int .i64)) .eql x12 (.int .i64 (.ofNat 0)) fun x25 =>
 c7_2 x25 x18 x24 x11 x17 x23 x3 h6 k
noncomputable abbrev c7_4 (x8 : CV) (h3 : CH) (x3 : CV) (k : CV → CH → Bool) : Bool :=
 xLoad (some none) x8 h3 fun x9 =>
 bd10 x9 (.int .i64 (.ofNat 2)) (.int .i64 (.ofNat 10)) (.int .i64 (.ofNat 1)) h3 fun x10 h4 =>
 xExtract x10 0 fun x11 =>
 xExtract x10 1 fun x12 =>
 xNilCheck x3 fun x13 =>
 xAddr (some 1) x13 fun x14 =>
 xLoad (some none) x14 h4 fun x15 =>
 bd11 x15 (.int .i64 (.ofNat 2)) (.int .i64 (.ofNat 10)) h4 fun x16 h5 =>
 c7_3 x16 x3 h5 x12 x11 k
noncomputable abbrev c7_5 (x4 : CV) (K35 : TupC 1 → CH → Bool) (h2 : CH) (x5 : CV) (x3 : CV) : Bool :=
 xUn .not x4 fun x37 =>
 xIte x37
  (K35 ((.bool true), ()) h2)
  (xUn .not x5 fun x38 =>
  xIte x38
   (K35 ((.bool true), ()) h2)
   (xNilCheck x3 fun x39 =>
   xAddr (some 1) x39 fun x40 =>
   xLoad (some none) x40 h2 fun x41 =>
   bd8 x41 (.int .i64 (.ofNat 23)) h2 fun x42 h8 =>
   xBin (some (.int .i64)) .neq x42 (.int .i64 (.ofNat 0)) fun x43 =>
   K35 (x43, ()) h8))
noncomputable def bd7 (h : CH) (k : CV → CH → Bool) : Bool :=
 bd6 h fun x1 h1 =>
 bd5 x1 h1 fun x2 h2 =>
 xExtract x2 0 fun x3 =>
 xExtract x2 1 fun x4 =>
 xExtract x2 2 fun x5 =>
 xJoin (n := 1) (fun s5 h3 =>
  xIte s5.1
   (k (.bool false) h3)
   (xNilCheck x3 fun x7 =>
   xAddr (some 1) x7 fun x8 =>
   c7_4 x8 h3 x3 k))
 (fun K35 => c7_5 x4 K35 h2 x5 x3)
noncomputable abbrev exi7 : Ex := fun args h k => a0 args (bd7  h k)
set_option maxRecDepth 100000 in
theorem simi7 : SimF Tryz.prog 7 exi7 := fun args h k hk => by
  obtain ⟨rfl, hk⟩ := a0_ok hk
  exact sim_of (qf := (fun f => [46, 47, 62, 75, 82, 97, 104, 114, 121, 127, 128, 141, 151, 156, 157, 183].contains f)) (Z := zs) (C := [(6, ex6), (5, ex5), (10, ex10), (11, ex11), (9, ex9), (16, ex16), (8, ex8)]) (T := []) ⟨zerosB_ok zsOk, (exCons (by kernel_rfl) sim6 (exCons (by kernel_rfl) sim5 (exCons (by kernel_rfl) sim10 (exCons (by kernel_rfl) sim11 (exCons (by kernel_rfl) sim9 (exCons (by kernel_rfl) sim16 (exCons (by kernel_rfl) sim8 exNil)))))))⟩ (.seq .nil (.seq .nil (.seq (.join [29] [16, 17, 18, 19, 20, 21, 22, 23, 24, 25, 26, 27, 28] .nil .nil) .nil))) Tryz.func7 _ h k (Eq.mp (by kernel_rfl : (bd7  h k = true) = (xFn Tryz.prog (fun f => [46, 47, 62, 75, 82, 97, 104, 114, 121, 127, 128, 141, 151, 156, 157, 183].contains f) zs [(6, ex6), (5, ex5), (10, ex10), (11, ex11), (9, ex9), (16, ex16), (8, ex8)] [] Tryz.f7 (.seq .nil (.seq .nil (.seq (.join [29] [16, 17, 18, 19, 20, 21, 22, 23, 24, 25, 26, 27, 28] .nil .nil) .nil))) [] h k = true)) hk)
set_option maxHeartbeats 4000000 in
theorem ok7 : exi7 [] h0 (fun z _ => isTrue z) = true := by kernel_rfl
noncomputable def ex7 : Ex := exTrue
theorem sim7 : SimF Tryz.prog 7 ex7 := simTrue fun h => closedF (xs := []) (vs := []) simi7 ok7 rfl h

/- undercroft/undercroftlaw12.over -/
noncomputable abbrev c13_1 (v0 : CV) (v1 : CV) (v2 : CV) (x1 : CV) (x2 : CV) (x3 : CV) (x6 : CV) (x4 : CV) (h6 : CH) (k : CV → CH → Bool) : Bool :=
 xRange [(37, ex37)] 130 [v0, v1, v2, (.tup []), x1, x2, x3, x6, (.tup []), (.tup []), v0, x4, v0, (.tup []), (.tup []), (.tup []), (.tup []), (.tup []), (.tup []), (.tup []), (.tup []), (.tup []), (.tup []), (.tup []), (.tup []), (.tup []), (.tup []), (.tup []), (.tup []), (.tup []), (.tup []), (.tup []), (.tup []), (.tup []), (.tup []), (.tup []), (.tup []), (.tup [])] v0 h6 fun j6 h7 =>
 xJmp j6
  (xLoad (some none) x6 h7 fun x9 =>
  xLoad (some none) x1 h7 fun x10 =>
  xLen (some (.inl false)) x10 fun x11 =>
  xBin (some (.int .i64)) .eql x9 x11 fun x12 =>
  xStore (some 1) x3 x12 h7 fun h8 =>
  xLoad (some none) x3 h8 fun x13 =>
  k x13 h8)
  (xLoad (some none) x3 h7 fun x14 =>
  k x14 h7)
  (fun i7 => isXX i7 0
   (xLoad (some none) x6 h7 fun x15 =>
   xLoad (some none) x1 h7 fun x16 =>
   xLen (some (.inl false)) x16 fun x17 =>
   xBin (some (.int .i64)) .eql x15 x17 fun x18 =>
   xStore (some 1) x3 x18 h7 fun h9 =>
   xLoad (some none) x3 h9 fun x19 =>
   k x19 h9)
   (false))
noncomputable abbrev c13_2 (v2 : CV) (h1 : CH) (v0 : CV) (k : CV → CH → Bool) (v1 : CV) (x1 : CV) : Bool :=
 xBox 3 v2 h1 fun x2 h2 =>
 xBoxP 4 [(.bool false)] h2 fun x3 h3 =>
 xBin (Program.underlying Tryz.prog 47) .eql v0 .nilf fun x4 =>
 xIte x4
  (xStore (some 1) x3 (.bool false) h3 fun h4 =>
  xLoad (some none) x3 h4 fun x5 =>
  k x5 h4)
  (xBoxP 3 [(.int .i64 (.ofNat 0))] h3 fun x6 h5 =>
  xStore (some 1) x6 (.int .i64 (.ofNat 0)) h5 fun h6 =>
  c13_1 v0 v1 v2 x1 x2 x3 x6 x4 h6 k)
noncomputable def bd13 (v0 v1 v2 : CV) (h : CH) (k : CV → CH → Bool) : Bool :=
 xBox 50 v1 h fun x1 h1 =>
 c13_2 v2 h1 v0 k v1 x1
noncomputable abbrev ex13 : Ex := fun args h k => a3 args fun v0 v1 v2 => bd13 v0 v1 v2 h k
set_option maxRecDepth 100000 in
theorem sim13 : SimF Tryz.prog 13 ex13 := fun args h k hk => by
  obtain ⟨v0, v1, v2, rfl, hk⟩ := a3_ok hk
  exact simN_of (qf := (fun f => [46, 47, 62, 75, 82, 97, 104, 114, 121, 127, 128, 141, 151, 156, 157, 183].contains f)) (Z := zs) (C := [(37, ex37)]) (T := []) ⟨zerosB_ok zsOk, (exCons (by kernel_rfl) sim37 exNil)⟩ (fun _ _ _ _ h => h) (.seq .nil (.seq .nil (.seq .nil (.seq (.seq .nil (.loop [130] [] .nil)) .nil)))) Tryz.func13 _ h k (Eq.mp (by kernel_rfl : (bd13 v0 v1 v2 h k = true) = (xFnN Tryz.prog (fun f => [46, 47, 62, 75, 82, 97, 104, 114, 121, 127, 128, 141, 151, 156, 157, 183].contains f) zs [(37, ex37)] [] 13 Tryz.f13 (.seq .nil (.seq .nil (.seq .nil (.seq (.seq .nil (.loop [130] [] .nil)) .nil)))) [v0, v1, v2] h k = true)) hk)
end Go.Proofs
