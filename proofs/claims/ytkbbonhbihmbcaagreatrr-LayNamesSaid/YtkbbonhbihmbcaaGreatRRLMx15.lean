/- Functions, run; each tied to the program. -/
import Derived.Test.YtkbbonhbihmbcaaGreatRRLMC
set_option linter.unusedVariables false
set_option linter.unusedSimpArgs false
namespace Go.Proofs
open Go.Vc Go.Xc

/- undercroft/undercroftlaw15.file -/
noncomputable abbrev c21_1 (x22 : CV) (h12 : CH) (x3 : CV) (x1 : CV) (k : CV → CH → Bool) : Bool :=
 xAddr (some 2) x22 fun x23 =>
 xLoad (some none) x23 h12 fun x24 =>
 xBin (some (.int .i64)) .sub x24 (.int .i64 (.ofNat 1)) fun x25 =>
 xAddr (some 3) x3 fun x26 =>
 xAddr (some 2) x26 fun x27 =>
 xStore (some 1) x27 x25 h12 fun h13 =>
 xLoad (some (some 7)) x3 h13 fun x28 =>
 xStore (some 7) x1 x28 h13 fun h14 =>
 xLoad (some (some 7)) x1 h14 fun x29 =>
 k x29 h14
noncomputable abbrev c21_2 (x17 : CV) (x18 : CV) (h10 : CH) (x3 : CV) (x1 : CV) (k : CV → CH → Bool) : Bool :=
 xNewS (some (66, 7, 88, false)) (some [(.int .i64 (.ofNat 0)), (.int .u16 (.ofNat 0)), (.int .i64 (.ofNat 0)), (.int .i64 (.ofNat 0)), (.int .i64 (.ofNat 0)), .nils, .nils]) 2 [(0, x17), (1, x18)] h10 fun x19 h11 =>
 xAddr (some 3) x3 fun x20 =>
 xAddr (some 0) x20 fun x21 =>
 xStore (some 1) x21 x19 h11 fun h12 =>
 xAddr (some 3) x3 fun x22 =>
 c21_1 x22 h12 x3 x1 k
noncomputable abbrev c21_3 (x17 : CV) (h10 : CH) (x3 : CV) (x1 : CV) (k : CV → CH → Bool) : Bool :=
 xBuild (some (.inl [(0, 1), (1, 1), (2, 1), (3, 1), (4, 1), (5, 1), (6, 1)])) (some (.agg [(.int .i64 (.ofNat 0)), (.int .u16 (.ofNat 0)), (.int .i64 (.ofNat 0)), (.int .i64 (.ofNat 0)), (.int .i64 (.ofNat 0)), .nils, .nils])) [(0, (.int .i64 (.ofNat 2))), (1, (.int .u16 (.ofNat 1))), (2, (.int .i64 (.ofNat 1)))] fun x18 =>
 c21_2 x17 x18 h10 x3 x1 k
noncomputable abbrev c21_4 (h7 : CH) (x12 : CV) (x9 : CV) (x3 : CV) (x1 : CV) (k : CV → CH → Bool) : Bool :=
 xBuild (some (.inl [(0, 1), (1, 1)])) (some (.agg [(.int .u16 (.ofNat 0)), (.str ⟨#[]⟩)])) [(0, (.int .u16 (.ofNat 2))), (1, (.str ⟨#[97]⟩))] fun x13 =>
 xNewS (some (68, 2, 24, false)) (some [(.int .u16 (.ofNat 0)), (.str ⟨#[]⟩)]) 1 [(0, x13)] h7 fun x14 h8 =>
 xApp (some (68, 2, 24, false)) x12 x14 h8 fun x15 h9 =>
 xAddr (some 6) x9 fun x16 =>
 xStore (some 1) x16 x15 h9 fun h10 =>
 xLoad (some (some 7)) x9 h10 fun x17 =>
 c21_3 x17 h10 x3 x1 k
noncomputable abbrev c21_5 (h4 : CH) (x8 : CV) (x3 : CV) (x1 : CV) (k : CV → CH → Bool) : Bool :=
 xBoxP 66 [(.int .i64 (.ofNat 0)), (.int .u16 (.ofNat 0)), (.int .i64 (.ofNat 0)), (.int .i64 (.ofNat 0)), (.int .i64 (.ofNat 0)), .nils, .nils] h4 fun x9 h5 =>
 xStore (some 7) x9 x8 h5 fun h6 =>
 xAddr (some 3) x9 fun x10 =>
 xStore (some 1) x10 (.int .i64 (.ofNat 48)) h6 fun h7 =>
 xAddr (some 6) x9 fun x11 =>
 xLoad (some none) x11 h7 fun x12 =>
 c21_4 h7 x12 x9 x3 x1 k
noncomputable abbrev c21_6 (h2 : CH) (x2 : CV) (x1 : CV) (k : CV → CH → Bool) : Bool :=
 xBoxP 32 [(.int .i64 (.ofNat 0)), (.int .i64 (.ofNat 0)), (.int .i64 (.ofNat 0)), .nils, (.int .i64 (.ofNat 0)), (.int .i64 (.ofNat 0)), (.int .i64 (.ofNat 0))] h2 fun x3 h3 =>
 xStore (some 7) x3 x2 h3 fun h4 =>
 xAddr (some 3) x3 fun x4 =>
 xAddr (some 0) x4 fun x5 =>
 xLoad (some none) x5 h4 fun x6 =>
 xIdx (some (none, 7)) x6 (.int .i64 (.ofNat 0)) fun x7 =>
 xLoad (some (some 7)) x7 h4 fun x8 =>
 c21_5 h4 x8 x3 x1 k
noncomputable def bd21 (h : CH) (k : CV → CH → Bool) : Bool :=
 xBoxP 32 [(.int .i64 (.ofNat 0)), (.int .i64 (.ofNat 0)), (.int .i64 (.ofNat 0)), .nils, (.int .i64 (.ofNat 0)), (.int .i64 (.ofNat 0)), (.int .i64 (.ofNat 0))] h fun x1 h1 =>
 bd27 h1 fun x2 h2 =>
 c21_6 h2 x2 x1 k
noncomputable abbrev ex21 : Ex := fun args h k => a0 args (bd21  h k)
set_option maxRecDepth 100000 in
theorem sim21 : SimF Tryz.prog 21 ex21 := fun args h k hk => by
  obtain ⟨rfl, hk⟩ := a0_ok hk
  exact sim_of (qf := (fun f => [83, 84, 97, 101, 102, 103, 115, 122, 138, 144, 154, 161, 162, 175, 185, 214].contains f)) (Z := zs) (C := [(27, ex27)]) (T := []) ⟨zerosB_ok zsOk, (exCons (by kernel_rfl) sim27 exNil)⟩ .nil Tryz.func21 _ h k (Eq.mp (by kernel_rfl : (bd21  h k = true) = (xFn Tryz.prog (fun f => [83, 84, 97, 101, 102, 103, 115, 122, 138, 144, 154, 161, 162, 175, 185, 214].contains f) zs [(27, ex27)] [] Tryz.f21 .nil [] h k = true)) hk)

/- undercroft/undercroftlaw15.awake -/
noncomputable abbrev c17_1 (x33 : CV) (x27 : CV) (h10 : CH) (k : CV → CH → Bool) : Bool :=
 xIte x33
  (xAddr (some 2) x27 fun x34 =>
  xLoad (some none) x34 h10 fun x35 =>
  xBin (some (.int .u32)) .eql x35 (.int .u32 (.ofNat 3)) fun x36 =>
  xIte x36
   (xAddr (some 3) x27 fun x37 =>
   xLoad (some none) x37 h10 fun x38 =>
   xBin (some (.int .u32)) .eql x38 (.int .u32 (.ofNat 1)) fun x39 =>
   k x39 h10)
   (k (.bool false) h10))
  (k (.bool false) h10)
noncomputable abbrev c17_2 (x29 : CV) (x26 : CV) (x13 : CV) (x19 : CV) (h10 : CH) (x27 : CV) (k : CV → CH → Bool) : Bool :=
 xIte x29
  (xBin (some (.int .i64)) .eql x26 (.int .i64 (.ofNat 0)) fun x30 =>
  xIte x30
   (xBin (some (.int .i64)) .eql x13 (.int .i64 (.ofNat 3)) fun x31 =>
   xIte x31
    (xStrOf x19 h10 fun x32 =>
    xBin (some .string) .eql x32 (.str ⟨#[97, 98, 99]⟩) fun x33 =>
    c17_1 x33 x27 h10 k)
    (k (.bool false) h10))
   (k (.bool false) h10))
  (k (.bool false) h10)
noncomputable abbrev c17_3 (h8 : CH) (x25 : CV) (x14 : CV) (x20 : CV) (x26 : CV) (x13 : CV) (x19 : CV) (k : CV → CH → Bool) : Bool :=
 xBoxP 78 [(.int .u16 (.ofNat 0)), (.int .u16 (.ofNat 0)), (.int .u32 (.ofNat 0)), (.int .u32 (.ofNat 0)), (.int .u32 (.ofNat 0)), (.int .u32 (.ofNat 0)), (.int .u32 (.ofNat 0)), (.int .u32 (.ofNat 0)), (.int .u32 (.ofNat 0)), (.int .u32 (.ofNat 0)), (.int .u32 (.ofNat 0)), (.int .u32 (.ofNat 0)), (.int .u32 (.ofNat 0)), (.int .u32 (.ofNat 0)), (.int .u32 (.ofNat 0)), (.int .u32 (.ofNat 0))] h8 fun x27 h9 =>
 xStore (some 16) x27 x25 h9 fun h10 =>
 xBin (some (.int .i64)) .eql x14 (.int .i64 (.ofNat 0)) fun x28 =>
 xIte x28
  (xBin (some (.int .i64)) .eql x20 (.int .i64 (.ofNat 0)) fun x29 =>
  c17_2 x29 x26 x13 x19 h10 x27 k)
  (k (.bool false) h10)
noncomputable abbrev c17_4 (x17 : CV) (h6 : CH) (x3 : CV) (x14 : CV) (x13 : CV) (k : CV → CH → Bool) : Bool :=
 bd49 x17 (.int .i64 (.ofNat 2)) (.int .i64 (.ofNat 0)) (.int .i64 (.ofNat 10)) h6 fun x18 h7 =>
 xExtract x18 0 fun x19 =>
 xExtract x18 1 fun x20 =>
 xNilCheck x3 fun x21 =>
 xAddr (some 1) x21 fun x22 =>
 xLoad (some none) x22 h7 fun x23 =>
 bd19 x23 (.int .i64 (.ofNat 2)) h7 fun x24 h8 =>
 xExtract x24 0 fun x25 =>
 xExtract x24 1 fun x26 =>
 c17_3 h8 x25 x14 x20 x26 x13 x19 k
noncomputable abbrev c17_5 (h3 : CH) (x9 : CV) (x3 : CV) (k : CV → CH → Bool) : Bool :=
 xNewS (some (5, 1, 1, true)) (some [(.bytes 1 0)]) 3 [(0, (.int .u8 (.ofNat 97))), (1, (.int .u8 (.ofNat 98))), (2, (.int .u8 (.ofNat 99)))] h3 fun x10 h4 =>
 xBytesOf false (some (5, 1, 1, true)) x10 h4 fun x11 h5 =>
 bd18 x9 (.int .i64 (.ofNat 2)) (.int .i64 (.ofNat 0)) x11 h5 fun x12 h6 =>
 xExtract x12 0 fun x13 =>
 xExtract x12 1 fun x14 =>
 xNilCheck x3 fun x15 =>
 xAddr (some 1) x15 fun x16 =>
 xLoad (some none) x16 h6 fun x17 =>
 c17_4 x17 h6 x3 x14 x13 k
noncomputable abbrev c17_6 (x2 : CV) (k : CV → CH → Bool) (h2 : CH) : Bool :=
 xExtract x2 0 fun x3 =>
 xExtract x2 1 fun x4 =>
 xExtract x2 2 fun x5 =>
 xJoin (n := 1) (fun s5 h3 =>
  xIte s5.1
   (k (.bool false) h3)
   (xNilCheck x3 fun x7 =>
   xAddr (some 1) x7 fun x8 =>
   xLoad (some none) x8 h3 fun x9 =>
   c17_5 h3 x9 x3 k))
 (fun K39 => xUn .not x4 fun x41 =>
 xIte x41
  (K39 ((.bool true), ()) h2)
  (xUn .not x5 fun x42 =>
  K39 (x42, ()) h2))
noncomputable def bd17 (h : CH) (k : CV → CH → Bool) : Bool :=
 bd21 h fun x1 h1 =>
 bd9 x1 h1 fun x2 h2 =>
 c17_6 x2 k h2
noncomputable abbrev exi17 : Ex := fun args h k => a0 args (bd17  h k)
set_option maxRecDepth 100000 in
theorem simi17 : SimF Tryz.prog 17 exi17 := fun args h k hk => by
  obtain ⟨rfl, hk⟩ := a0_ok hk
  exact sim_of (qf := (fun f => [83, 84, 97, 101, 102, 103, 115, 122, 138, 144, 154, 161, 162, 175, 185, 214].contains f)) (Z := zs) (C := [(21, ex21), (9, ex9), (18, ex18), (49, ex49), (19, ex19)]) (T := []) ⟨zerosB_ok zsOk, (exCons (by kernel_rfl) sim21 (exCons (by kernel_rfl) sim9 (exCons (by kernel_rfl) sim18 (exCons (by kernel_rfl) sim49 (exCons (by kernel_rfl) sim19 exNil)))))⟩ (.seq .nil (.seq .nil (.seq (.join [21] [16, 17, 18, 19, 20] .nil .nil) .nil))) Tryz.func17 _ h k (Eq.mp (by kernel_rfl : (bd17  h k = true) = (xFn Tryz.prog (fun f => [83, 84, 97, 101, 102, 103, 115, 122, 138, 144, 154, 161, 162, 175, 185, 214].contains f) zs [(21, ex21), (9, ex9), (18, ex18), (49, ex49), (19, ex19)] [] Tryz.f17 (.seq .nil (.seq .nil (.seq (.join [21] [16, 17, 18, 19, 20] .nil .nil) .nil))) [] h k = true)) hk)
set_option maxHeartbeats 4000000 in
theorem ok17 : exi17 [] h0 (fun z _ => isTrue z) = true := by kernel_rfl
noncomputable def ex17 : Ex := exTrue
theorem sim17 : SimF Tryz.prog 17 ex17 := simTrue fun h => closedF (xs := []) (vs := []) simi17 ok17 rfl h
end Go.Proofs
