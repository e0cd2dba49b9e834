/- Functions, run; each tied to the program. -/
import Derived.Test.YtmjngdocmilolaaGreatTC
set_option linter.unusedVariables false
set_option linter.unusedSimpArgs false
namespace Go.Proofs
open Go.Vc Go.Xc

/- undercroft/undercroftlaw16.long -/
noncomputable abbrev c44_1 (x29 : CV) (h12 : CH) (x3 : CV) (x1 : CV) (k : CV → CH → Bool) : Bool :=
 xAddr (some 2) x29 fun x30 =>
 xLoad (some none) x30 h12 fun x31 =>
 xBin (some (.int .i64)) .sub x31 (.int .i64 (.ofNat 1)) fun x32 =>
 xAddr (some 3) x3 fun x33 =>
 xAddr (some 2) x33 fun x34 =>
 xStore (some 1) x34 x32 h12 fun h13 =>
 xLoad (some (some 7)) x3 h13 fun x35 =>
 xStore (some 7) x1 x35 h13 fun h14 =>
 xLoad (some (some 7)) x1 h14 fun x36 =>
 k x36 h14
noncomputable abbrev c44_2 (x22 : CV) (x20 : CV) (h10 : CH) (x3 : CV) (x1 : CV) (k : CV → CH → Bool) : Bool :=
 xStore (some 1) x22 x20 h10 fun h11 =>
 xAddr (some 3) x3 fun x23 =>
 xAddr (some 1) x23 fun x24 =>
 xLoad (some none) x24 h11 fun x25 =>
 xBin (some (.int .i64)) .sub x25 (.int .i64 (.ofNat 3)) fun x26 =>
 xAddr (some 3) x3 fun x27 =>
 xAddr (some 1) x27 fun x28 =>
 xStore (some 1) x28 x26 h11 fun h12 =>
 xAddr (some 3) x3 fun x29 =>
 c44_1 x29 h12 x3 x1 k
noncomputable abbrev c44_3 (x9 : CV) (h8 : CH) (x17 : CV) (x3 : CV) (x1 : CV) (k : CV → CH → Bool) : Bool :=
 xLoad (some (some 7)) x9 h8 fun x18 =>
 xNewS (some (35, 7, 88, false)) (some [(.int .i64 (.ofNat 0)), (.int .u16 (.ofNat 0)), (.int .i64 (.ofNat 0)), (.int .i64 (.ofNat 0)), (.int .i64 (.ofNat 0)), .nils, .nils]) 1 [(0, x18)] h8 fun x19 h9 =>
 xApp (some (35, 7, 88, false)) x17 x19 h9 fun x20 h10 =>
 xAddr (some 3) x3 fun x21 =>
 xAddr (some 0) x21 fun x22 =>
 c44_2 x22 x20 h10 x3 x1 k
noncomputable abbrev c44_4 (x10 : CV) (h7 : CH) (x3 : CV) (x9 : CV) (x1 : CV) (k : CV → CH → Bool) : Bool :=
 xLoad (some none) x10 h7 fun x11 =>
 xIdx (some (none, 1025)) x11 (.int .i64 (.ofNat 1)) fun x12 =>
 xAddr (some 1) x12 fun x13 =>
 xIdx (some (some 1024, 1)) x13 (.int .i64 (.ofNat 672)) fun x14 =>
 xStore (some 1) x14 (.int .u8 (.ofNat 9)) h7 fun h8 =>
 xAddr (some 3) x3 fun x15 =>
 xAddr (some 0) x15 fun x16 =>
 xLoad (some none) x16 h8 fun x17 =>
 c44_3 x9 h8 x17 x3 x1 k
noncomputable abbrev c44_5 (x7 : CV) (h5 : CH) (x3 : CV) (x1 : CV) (k : CV → CH → Bool) : Bool :=
 xBuild (some (.inl [(0, 1), (1, 1), (2, 1), (3, 1), (4, 1), (5, 1), (6, 1)])) (some (.agg [(.int .i64 (.ofNat 0)), (.int .u16 (.ofNat 0)), (.int .i64 (.ofNat 0)), (.int .i64 (.ofNat 0)), (.int .i64 (.ofNat 0)), .nils, .nils])) [(0, (.int .i64 (.ofNat 2))), (1, (.int .u16 (.ofNat 1))), (3, (.int .i64 (.ofNat 100001))), (4, (.int .i64 (.ofNat 3))), (5, x7)] fun x8 =>
 xBoxP 35 [(.int .i64 (.ofNat 0)), (.int .u16 (.ofNat 0)), (.int .i64 (.ofNat 0)), (.int .i64 (.ofNat 0)), (.int .i64 (.ofNat 0)), .nils, .nils] h5 fun x9 h6 =>
 xStore (some 7) x9 x8 h6 fun h7 =>
 xAddr (some 5) x9 fun x10 =>
 c44_4 x10 h7 x3 x9 x1 k
noncomputable abbrev c44_6 (x4 : CV) (h4 : CH) (x3 : CV) (x1 : CV) (k : CV → CH → Bool) : Bool :=
 xBuild (some (.inl [(0, 1), (1, 1024)])) (some (.agg [(.int .i64 (.ofNat 0)), (.bytes 1024 0)])) [(0, (.int .i64 (.ofNat 0))), (1, x4)] fun x5 =>
 xBuild (some (.inl [(0, 1), (1, 1024)])) (some (.agg [(.int .i64 (.ofNat 0)), (.bytes 1024 0)])) [(0, (.int .i64 (.ofNat 97)))] fun x6 =>
 xNewS (some (41, 1025, 1032, false)) (some [(.int .i64 (.ofNat 0)), (.bytes 1024 0)]) 2 [(0, x5), (1, x6)] h4 fun x7 h5 =>
 c44_5 x7 h5 x3 x1 k
noncomputable abbrev c44_7 (h2 : CH) (x2 : CV) (x1 : CV) (k : CV → CH → Bool) : Bool :=
 xBoxP 28 [(.int .i64 (.ofNat 0)), (.int .i64 (.ofNat 0)), (.int .i64 (.ofNat 0)), .nils, (.int .i64 (.ofNat 0)), (.int .i64 (.ofNat 0)), (.int .i64 (.ofNat 0))] h2 fun x3 h3 =>
 xStore (some 7) x3 x2 h3 fun h4 =>
 xBuild (some (.inr 1)) (some (.agg [(.bytes 1024 0)])) [(0, (.int .u8 (.ofNat 1))), (1, (.int .u8 (.ofNat 2))), (2, (.int .u8 (.ofNat 3))), (3, (.int .u8 (.ofNat 4))), (4, (.int .u8 (.ofNat 5)))] fun x4 =>
 c44_6 x4 h4 x3 x1 k
noncomputable def bd44 (h : CH) (k : CV → CH → Bool) : Bool :=
 xBoxP 28 [(.int .i64 (.ofNat 0)), (.int .i64 (.ofNat 0)), (.int .i64 (.ofNat 0)), .nils, (.int .i64 (.ofNat 0)), (.int .i64 (.ofNat 0)), (.int .i64 (.ofNat 0))] h fun x1 h1 =>
 bd15 h1 fun x2 h2 =>
 c44_7 h2 x2 x1 k
noncomputable abbrev ex44 : Ex := fun args h k => a0 args (bd44  h k)
set_option maxRecDepth 100000 in
theorem sim44 : SimF Tryz.prog 44 ex44 := fun args h k hk => by
  obtain ⟨rfl, hk⟩ := a0_ok hk
  exact sim_of (qf := (fun f => [75, 120, 121, 145, 146, 175, 181, 196, 197, 210, 220, 246].contains f)) (Z := zs) (C := [(15, ex15)]) (T := []) ⟨zerosB_ok zsOk, (exCons (by kernel_rfl) sim15 exNil)⟩ .nil Tryz.func44 _ h k (Eq.mp (by kernel_rfl : (bd44  h k = true) = (xFn Tryz.prog (fun f => [75, 120, 121, 145, 146, 175, 181, 196, 197, 210, 220, 246].contains f) zs [(15, ex15)] [] Tryz.f44 .nil [] h k = true)) hk)

/- undercroft/undercroftlaw16.awake -/
noncomputable abbrev c40_1 (x36 : CV) (h12 : CH) (x3 : CV) (k : CV → CH → Bool) : Bool :=
 xAddr (some 2) x36 fun x50 =>
 xLoad (some none) x50 h12 fun x51 =>
 xBin (some (.int .u32)) .eql x51 (.int .u32 (.ofNat 3)) fun x52 =>
 xIte x52
  (xNilCheck x3 fun x53 =>
  xAddr (some 1) x53 fun x54 =>
  xLoad (some none) x54 h12 fun x55 =>
  bd45 x55 h12 fun x56 h13 =>
  xBin (some (.int .i64)) .eql x56 (.int .i64 (.ofNat 2)) fun x57 =>
  k x57 h13)
  (k (.bool false) h12)
noncomputable abbrev c40_2 (x46 : CV) (x25 : CV) (x29 : CV) (x35 : CV) (x36 : CV) (h12 : CH) (x3 : CV) (k : CV → CH → Bool) : Bool :=
 xIte x46
  (xBin (some (.int .i64)) .eql x25 (.int .i64 (.ofNat 0)) fun x47 =>
  xIte x47
   (xBin (some (.int .i64)) .eql x29 (.int .i64 (.ofNat 0)) fun x48 =>
   xIte x48
    (xBin (some (.int .i64)) .eql x35 (.int .i64 (.ofNat 0)) fun x49 =>
    xIte x49
     (c40_1 x36 h12 x3 k)
     (k (.bool false) h12))
    (k (.bool false) h12))
   (k (.bool false) h12))
  (k (.bool false) h12)
noncomputable abbrev c40_3 (x40 : CV) (h12 : CH) (x19 : CV) (x24 : CV) (x25 : CV) (x29 : CV) (x35 : CV) (x36 : CV) (x3 : CV) (k : CV → CH → Bool) : Bool :=
 xLoad (some none) x40 h12 fun x41 =>
 xBin (some (.int .u32)) .eql x41 (.int .u32 (.ofNat 98304)) fun x42 =>
 xIte x42
  (xAddr (some 3) x19 fun x43 =>
  xLoad (some none) x43 h12 fun x44 =>
  xBin (some (.int .u32)) .eql x44 (.int .u32 (.ofNat 1)) fun x45 =>
  xIte x45
   (xUn .not x24 fun x46 =>
   c40_2 x46 x25 x29 x35 x36 h12 x3 k)
   (k (.bool false) h12))
  (k (.bool false) h12)
noncomputable abbrev c40_4 (x36 : CV) (x34 : CV) (h11 : CH) (x11 : CV) (x12 : CV) (x18 : CV) (x19 : CV) (x24 : CV) (x25 : CV) (x29 : CV) (x35 : CV) (x3 : CV) (k : CV → CH → Bool) : Bool :=
 xStore (some 16) x36 x34 h11 fun h12 =>
 xUn .not x11 fun x37 =>
 xIte x37
  (xBin (some (.int .i64)) .eql x12 (.int .i64 (.ofNat 0)) fun x38 =>
  xIte x38
   (xBin (some (.int .i64)) .eql x18 (.int .i64 (.ofNat 0)) fun x39 =>
   xIte x39
    (xAddr (some 2) x19 fun x40 =>
    c40_3 x40 h12 x19 x24 x25 x29 x35 x36 x3 k)
    (k (.bool false) h12))
   (k (.bool false) h12))
  (k (.bool false) h12)
noncomputable abbrev c40_5 (h10 : CH) (x34 : CV) (x11 : CV) (x12 : CV) (x18 : CV) (x19 : CV) (x24 : CV) (x25 : CV) (x29 : CV) (x35 : CV) (x3 : CV) (k : CV → CH → Bool) : Bool :=
 xBoxP 68 [(.int .u16 (.ofNat 0)), (.int .u16 (.ofNat 0)), (.int .u32 (.ofNat 0)), (.int .u32 (.ofNat 0)), (.int .u32 (.ofNat 0)), (.int .u32 (.ofNat 0)), (.int .u32 (.ofNat 0)), (.int .u32 (.ofNat 0)), (.int .u32 (.ofNat 0)), (.int .u32 (.ofNat 0)), (.int .u32 (.ofNat 0)), (.int .u32 (.ofNat 0)), (.int .u32 (.ofNat 0)), (.int .u32 (.ofNat 0)), (.int .u32 (.ofNat 0)), (.int .u32 (.ofNat 0))] h10 fun x36 h11 =>
 c40_4 x36 x34 h11 x11 x12 x18 x19 x24 x25 x29 x35 x3 k
noncomputable abbrev c40_6 (x27 : CV) (h8 : CH) (x3 : CV) (x11 : CV) (x12 : CV) (x18 : CV) (x19 : CV) (x24 : CV) (x25 : CV) (k : CV → CH → Bool) : Bool :=
 xLoad (some none) x27 h8 fun x28 =>
 bd43 x28 (.int .i64 (.ofNat 2)) (.int .i64 (.ofNat 3)) h8 fun x29 h9 =>
 xNilCheck x3 fun x30 =>
 xAddr (some 1) x30 fun x31 =>
 xLoad (some none) x31 h9 fun x32 =>
 bd28 x32 (.int .i64 (.ofNat 2)) h9 fun x33 h10 =>
 xExtract x33 0 fun x34 =>
 xExtract x33 1 fun x35 =>
 c40_5 h10 x34 x11 x12 x18 x19 x24 x25 x29 x35 x3 k
noncomputable abbrev c40_7 (h5 : CH) (x17 : CV) (x3 : CV) (x11 : CV) (x12 : CV) (x18 : CV) (k : CV → CH → Bool) : Bool :=
 xBoxP 68 [(.int .u16 (.ofNat 0)), (.int .u16 (.ofNat 0)), (.int .u32 (.ofNat 0)), (.int .u32 (.ofNat 0)), (.int .u32 (.ofNat 0)), (.int .u32 (.ofNat 0)), (.int .u32 (.ofNat 0)), (.int .u32 (.ofNat 0)), (.int .u32 (.ofNat 0)), (.int .u32 (.ofNat 0)), (.int .u32 (.ofNat 0)), (.int .u32 (.ofNat 0)), (.int .u32 (.ofNat 0)), (.int .u32 (.ofNat 0)), (.int .u32 (.ofNat 0)), (.int .u32 (.ofNat 0))] h5 fun x19 h6 =>
 xStore (some 16) x19 x17 h6 fun h7 =>
 xNilCheck x3 fun x20 =>
 xAddr (some 1) x20 fun x21 =>
 xLoad (some none) x21 h7 fun x22 =>
 bd41 x22 (.int .i64 (.ofNat 2)) (.int .i64 (.ofNat 3)) h7 fun x23 h8 =>
 xExtract x23 0 fun x24 =>
 xExtract x23 1 fun x25 =>
 xNilCheck x3 fun x26 =>
 xAddr (some 1) x26 fun x27 =>
 c40_6 x27 h8 x3 x11 x12 x18 x19 x24 x25 k
noncomputable abbrev c40_8 (x8 : CV) (h3 : CH) (x3 : CV) (k : CV → CH → Bool) : Bool :=
 xLoad (some none) x8 h3 fun x9 =>
 bd41 x9 (.int .i64 (.ofNat 2)) (.int .i64 (.ofNat 3)) h3 fun x10 h4 =>
 xExtract x10 0 fun x11 =>
 xExtract x10 1 fun x12 =>
 xNilCheck x3 fun x13 =>
 xAddr (some 1) x13 fun x14 =>
 xLoad (some none) x14 h4 fun x15 =>
 bd28 x15 (.int .i64 (.ofNat 2)) h4 fun x16 h5 =>
 xExtract x16 0 fun x17 =>
 xExtract x16 1 fun x18 =>
 c40_7 h5 x17 x3 x11 x12 x18 k
noncomputable abbrev c40_9 (x1 : CV) (h1 : CH) (k : CV → CH → Bool) : Bool :=
 bd16 x1 h1 fun x2 h2 =>
 xExtract x2 0 fun x3 =>
 xExtract x2 1 fun x4 =>
 xExtract x2 2 fun x5 =>
 xJoin (n := 1) (fun s5 h3 =>
  xIte s5.1
   (k (.bool false) h3)
   (xNilCheck x3 fun x7 =>
   xAddr (some 1) x7 fun x8 =>
   c40_8 x8 h3 x3 k))
 (fun K57 => xUn .not x4 fun x59 =>
 xIte x59
  (K57 ((.bool true), ()) h2)
  (xUn .not x5 fun x60 =>
  K57 (x60, ()) h2))
noncomputable def bd40 (h : CH) (k : CV → CH → Bool) : Bool :=
 bd44 h fun x1 h1 =>
 c40_9 x1 h1 k
noncomputable abbrev exi40 : Ex := fun args h k => a0 args (bd40  h k)
set_option maxRecDepth 100000 in
theorem simi40 : SimF Tryz.prog 40 exi40 := fun args h k hk => by
  obtain ⟨rfl, hk⟩ := a0_ok hk
  exact sim_of (qf := (fun f => [75, 120, 121, 145, 146, 175, 181, 196, 197, 210, 220, 246].contains f)) (Z := zs) (C := [(44, ex44), (16, ex16), (41, ex41), (28, ex28), (43, ex43), (45, ex45)]) (T := []) ⟨zerosB_ok zsOk, (exCons (by kernel_rfl) sim44 (exCons (by kernel_rfl) sim16 (exCons (by kernel_rfl) sim41 (exCons (by kernel_rfl) sim28 (exCons (by kernel_rfl) sim43 (exCons (by kernel_rfl) sim45 exNil))))))⟩ (.seq .nil (.seq .nil (.seq (.join [24] [19, 20, 21, 22, 23] .nil .nil) .nil))) Tryz.func40 _ h k (Eq.mp (by kernel_rfl : (bd40  h k = true) = (xFn Tryz.prog (fun f => [75, 120, 121, 145, 146, 175, 181, 196, 197, 210, 220, 246].contains f) zs [(44, ex44), (16, ex16), (41, ex41), (28, ex28), (43, ex43), (45, ex45)] [] Tryz.f40 (.seq .nil (.seq .nil (.seq (.join [24] [19, 20, 21, 22, 23] .nil .nil) .nil))) [] h k = true)) hk)
theorem ok40 : exi40 [] h0 (fun z _ => isTrue z) = true := by kernel_rfl
noncomputable def ex40 : Ex := exTrue
theorem sim40 : SimF Tryz.prog 40 ex40 := simTrue fun h => closedF (xs := []) (vs := []) simi40 ok40 rfl h
end Go.Proofs
