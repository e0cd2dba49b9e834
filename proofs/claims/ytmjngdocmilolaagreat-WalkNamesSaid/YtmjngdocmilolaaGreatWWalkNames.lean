/- Functions, run; each tied to the program. -/
import Derived.Test.YtmjngdocmilolaaGreatWx21
set_option linter.unusedVariables false
set_option linter.unusedSimpArgs false
namespace Go.Proofs
open Go.Vc Go.Xc

/- undercroft/undercroftlaw21.WalkNames -/
noncomputable abbrev c6_1 (k : CV → CH → Bool) (s23 : TupC 1) (K24 : TupC 1 → CH → Bool) (x22 : CV) (h19 : CH) (x31 : CV) (x23 : CV) (x32 : CV) : Bool :=
 xJoin (n := 1) (fun s32 h20 =>
  xIte s32.1
   (k (.bool false) h20)
   (xBin (some (.int .i64)) .add s23.1 (.int .i64 (.ofNat 1)) fun x34 =>
   K24 (x34, ()) h20))
 (fun K34 => xIdx (some (none, 1)) x22 s23.1 fun x36 =>
 xLoad (some none) x36 h19 fun x37 =>
 xBin (some (.int .i64)) .neq x31 x37 fun x38 =>
 xIte x38
  (K34 ((.bool true), ()) h19)
  (xIdx (some (none, 1)) x23 s23.1 fun x39 =>
  xLoad (some none) x39 h19 fun x40 =>
  xBin (some (.int .i64)) .neq x32 x40 fun x41 =>
  K34 (x41, ()) h19))
noncomputable abbrev c6_2 (x72 : CV) (x68 : CV) (x71 : CV) (x75 : CV) (x78 : CV) (k : CV → CH → Bool) (h34 : CH) : Bool :=
 xBin (some (.int .i64)) .eql x72 (.int .i64 (.ofNat 0)) fun x80 =>
 xIte x80
  (xIte x68
   (xIte x71
    (xBin (some (.int .i64)) .eql x75 (.int .i64 (.ofNat 7)) fun x81 =>
    xIte x81
     (xBin (some (.int .i64)) .eql x78 (.int .i64 (.ofNat 7)) fun x82 =>
     k x82 h34)
     (k (.bool false) h34))
    (k (.bool false) h34))
   (k (.bool false) h34))
  (k (.bool false) h34)
noncomputable abbrev c6_3 (x9 : CV) (h32 : CH) (x69 : CV) (x72 : CV) (x68 : CV) (x71 : CV) (k : CV → CH → Bool) : Bool :=
 bd38 x9 (.int .i64 (.ofNat 2)) (.int .i64 (.ofNat 4)) h32 fun x73 h33 =>
 xExtract x73 0 fun x74 =>
 xExtract x73 1 fun x75 =>
 bd38 x9 (.int .i64 (.ofNat 2)) (.int .i64 (.ofNat 5)) h33 fun x76 h34 =>
 xExtract x76 0 fun x77 =>
 xExtract x76 1 fun x78 =>
 xBin (some (.int .i64)) .eql x69 (.int .i64 (.ofNat 0)) fun x79 =>
 xIte x79
  (c6_2 x72 x68 x71 x75 x78 k h34)
  (k (.bool false) h34)
noncomputable abbrev c6_4 (x48 : CV) (K82 : TupC 1 → CH → Bool) (h29 : CH) (x49 : CV) (x53 : CV) (x54 : CV) : Bool :=
 xBin (some (.int .i64)) .neq x48 (.int .i64 (.ofNat 1)) fun x89 =>
 xIte x89
  (K82 ((.bool true), ()) h29)
  (xBin (some .string) .neq x49 (.str ⟨#[120]⟩) fun x90 =>
  xIte x90
   (K82 ((.bool true), ()) h29)
   (xBin (some (.int .i64)) .neq x53 (.int .i64 (.ofNat 1)) fun x91 =>
   xIte x91
    (K82 ((.bool true), ()) h29)
    (xBin (some .string) .neq x54 (.str ⟨#[100]⟩) fun x92 =>
    K82 (x92, ()) h29)))
noncomputable abbrev c6_5 (x55 : CV) (K82 : TupC 1 → CH → Bool) (h29 : CH) (x60 : CV) (x65 : CV) (x48 : CV) (x49 : CV) (x53 : CV) (x54 : CV) : Bool :=
 xBin (some (.int .i64)) .neq x55 (.int .i64 (.ofNat 0)) fun x86 =>
 xIte x86
  (K82 ((.bool true), ()) h29)
  (xBin (some (.int .i64)) .neq x60 (.int .i64 (.ofNat 7)) fun x87 =>
  xIte x87
   (K82 ((.bool true), ()) h29)
   (xBin (some (.int .i64)) .neq x65 (.int .i64 (.ofNat 5)) fun x88 =>
   xIte x88
    (K82 ((.bool true), ()) h29)
    (c6_4 x48 K82 h29 x49 x53 x54)))
noncomputable abbrev c6_6 (k : CV → CH → Bool) (x9 : CV) (x45 : CV) (h29 : CH) (x50 : CV) (x55 : CV) (x60 : CV) (x65 : CV) (x48 : CV) (x49 : CV) (x53 : CV) (x54 : CV) : Bool :=
 xJoin (n := 1) (fun s65 h30 =>
  xIte s65.1
   (k (.bool false) h30)
   (bd38 x9 (.int .i64 (.ofNat 1)) (.int .i64 (.ofNat 3)) h30 fun x67 h31 =>
   xExtract x67 0 fun x68 =>
   xExtract x67 1 fun x69 =>
   bd38 x9 (.int .i64 (.ofNat 3)) (.int .i64 (.ofNat 3)) h31 fun x70 h32 =>
   xExtract x70 0 fun x71 =>
   xExtract x70 1 fun x72 =>
   c6_3 x9 h32 x69 x72 x68 x71 k))
 (fun K82 => xBin (some (.int .i64)) .neq x45 (.int .i64 (.ofNat 4)) fun x84 =>
 xIte x84
  (K82 ((.bool true), ()) h29)
  (xBin (some (.int .i64)) .neq x50 (.int .i64 (.ofNat 0)) fun x85 =>
  xIte x85
   (K82 ((.bool true), ()) h29)
   (c6_5 x55 K82 h29 x60 x65 x48 x49 x53 x54)))
noncomputable abbrev c6_7 (x57 : CV) (h27 : CH) (x9 : CV) (k : CV → CH → Bool) (x45 : CV) (x50 : CV) (x55 : CV) (x48 : CV) (x49 : CV) (x53 : CV) (x54 : CV) : Bool :=
 xExtract x57 0 fun x58 =>
 xExtract x57 1 fun x59 =>
 xExtract x57 2 fun x60 =>
 xNewS (some (9, 1, 16, false)) (some [(.str ⟨#[]⟩)]) 2 [(0, (.str ⟨#[120]⟩)), (1, (.str ⟨#[121]⟩))] h27 fun x61 h28 =>
 bd37 x9 x61 h28 fun x62 h29 =>
 xExtract x62 0 fun x63 =>
 xExtract x62 1 fun x64 =>
 xExtract x62 2 fun x65 =>
 c6_6 k x9 x45 h29 x50 x55 x60 x65 x48 x49 x53 x54
noncomputable abbrev c6_8 (h23 : CH) (x9 : CV) (k : CV → CH → Bool) (x45 : CV) (x50 : CV) (x48 : CV) (x49 : CV) : Bool :=
 xNewS (some (9, 1, 16, false)) (some [(.str ⟨#[]⟩)]) 1 [(0, (.str ⟨#[100]⟩))] h23 fun x51 h24 =>
 bd37 x9 x51 h24 fun x52 h25 =>
 xExtract x52 0 fun x53 =>
 xExtract x52 1 fun x54 =>
 xExtract x52 2 fun x55 =>
 xNewS (some (9, 1, 16, false)) (some [(.str ⟨#[]⟩)]) 2 [(0, (.str ⟨#[102]⟩)), (1, (.str ⟨#[120]⟩))] h25 fun x56 h26 =>
 bd37 x9 x56 h26 fun x57 h27 =>
 c6_7 x57 h27 x9 k x45 x50 x55 x48 x49 x53 x54
noncomputable abbrev c6_9 (x27 : CV) (x21 : CV) (s23 : TupC 1) (h18 : CH) (x9 : CV) (k : CV → CH → Bool) (K24 : TupC 1 → CH → Bool) (x22 : CV) (x23 : CV) : Bool :=
 xIte x27
  (xIdx (some (none, 1)) x21 s23.1 fun x28 =>
  xLoad (some none) x28 h18 fun x29 =>
  bd36 x9 x29 h18 fun x30 h19 =>
  xExtract x30 0 fun x31 =>
  xExtract x30 1 fun x32 =>
  c6_1 k s23 K24 x22 h19 x31 x23 x32)
  (bd37 x9 .nils h18 fun x42 h21 =>
  xExtract x42 0 fun x43 =>
  xExtract x42 1 fun x44 =>
  xExtract x42 2 fun x45 =>
  xNewS (some (9, 1, 16, false)) (some [(.str ⟨#[]⟩)]) 1 [(0, (.str ⟨#[120]⟩))] h21 fun x46 h22 =>
  bd37 x9 x46 h22 fun x47 h23 =>
  xExtract x47 0 fun x48 =>
  xExtract x47 1 fun x49 =>
  xExtract x47 2 fun x50 =>
  c6_8 h23 x9 k x45 x50 x48 x49)
noncomputable abbrev c6_10 (h16 : CH) (x21 : CV) (x9 : CV) (k : CV → CH → Bool) (x22 : CV) : Bool :=
 xNewS (some (47, 1, 8, false)) (some [(.int .i64 (.ofNat 0))]) 12 [(0, (.int .i64 (.ofNat 0))), (1, (.int .i64 (.ofNat 0))), (2, (.int .i64 (.ofNat 0))), (3, (.int .i64 (.ofNat 0))), (4, (.int .i64 (.ofNat 5))), (5, (.int .i64 (.ofNat 5))), (6, (.int .i64 (.ofNat 0))), (7, (.int .i64 (.ofNat 7))), (8, (.int .i64 (.ofNat 7))), (9, (.int .i64 (.ofNat 5))), (10, (.int .i64 (.ofNat 12))), (11, (.int .i64 (.ofNat 4)))] h16 fun x23 h17 =>
 xLoop (n := 1) (fun K24 s23 h18 =>
  xLen (some (.inl false)) x21 fun x26 =>
  xBin (some (.int .i64)) .lss s23.1 x26 fun x27 =>
  c6_9 x27 x21 s23 h18 x9 k K24 x22 x23) 1000000 ((.int .i64 (.ofNat 0)), ()) h17
noncomputable abbrev c6_11 (h15 : CH) (x21 : CV) (x9 : CV) (k : CV → CH → Bool) : Bool :=
 xNewS (some (3, 1, 8, false)) (some [(.int .i64 (.ofNat 0))]) 12 [(0, (.int .i64 (.ofNat 1))), (1, (.int .i64 (.ofNat 2))), (2, (.int .i64 (.ofNat 2))), (3, (.int .i64 (.ofNat 1))), (4, (.int .i64 (.ofNat 0))), (5, (.int .i64 (.ofNat 0))), (6, (.int .i64 (.ofNat 4))), (7, (.int .i64 (.ofNat 0))), (8, (.int .i64 (.ofNat 0))), (9, (.int .i64 (.ofNat 0))), (10, (.int .i64 (.ofNat 0))), (11, (.int .i64 (.ofNat 0)))] h15 fun x22 h16 =>
 c6_10 h16 x21 x9 k x22
noncomputable abbrev c6_12 (h12 : CH) (x10 : CV) (x11 : CV) (x12 : CV) (x13 : CV) (x14 : CV) (x15 : CV) (x16 : CV) (x17 : CV) (x18 : CV) (x9 : CV) (k : CV → CH → Bool) : Bool :=
 xNewS (some (9, 1, 16, false)) (some [(.str ⟨#[]⟩)]) 2 [(0, (.str ⟨#[120]⟩)), (1, (.str ⟨#[97, 98, 99, 100, 101, 102, 103, 104, 105, 106, 107, 108, 109, 110, 111]⟩))] h12 fun x19 h13 =>
 xNewS (some (9, 1, 16, false)) (some [(.str ⟨#[]⟩)]) 2 [(0, (.str ⟨#[100]⟩)), (1, (.str ⟨#[]⟩))] h13 fun x20 h14 =>
 xNewS (some (77, 1, 24, false)) (some [.nils]) 12 [(0, .nils), (1, x10), (2, x11), (3, x12), (4, x13), (5, x14), (6, x15), (7, x16), (8, x17), (9, x18), (10, x19), (11, x20)] h14 fun x21 h15 =>
 c6_11 h15 x21 x9 k
noncomputable abbrev c6_13 (h9 : CH) (x10 : CV) (x11 : CV) (x12 : CV) (x13 : CV) (x14 : CV) (x15 : CV) (x9 : CV) (k : CV → CH → Bool) : Bool :=
 xNewS (some (9, 1, 16, false)) (some [(.str ⟨#[]⟩)]) 2 [(0, (.str ⟨#[102]⟩)), (1, (.str ⟨#[46]⟩))] h9 fun x16 h10 =>
 xNewS (some (9, 1, 16, false)) (some [(.str ⟨#[]⟩)]) 2 [(0, (.str ⟨#[102]⟩)), (1, (.str ⟨#[120]⟩))] h10 fun x17 h11 =>
 xNewS (some (9, 1, 16, false)) (some [(.str ⟨#[]⟩)]) 2 [(0, (.str ⟨#[120]⟩)), (1, (.str ⟨#[121]⟩))] h11 fun x18 h12 =>
 c6_12 h12 x10 x11 x12 x13 x14 x15 x16 x17 x18 x9 k
noncomputable abbrev c6_14 (h5 : CH) (x10 : CV) (x11 : CV) (x9 : CV) (k : CV → CH → Bool) : Bool :=
 xNewS (some (9, 1, 16, false)) (some [(.str ⟨#[]⟩)]) 1 [(0, (.str ⟨#[46, 46]⟩))] h5 fun x12 h6 =>
 xNewS (some (9, 1, 16, false)) (some [(.str ⟨#[]⟩)]) 1 [(0, (.str ⟨#[120]⟩))] h6 fun x13 h7 =>
 xNewS (some (9, 1, 16, false)) (some [(.str ⟨#[]⟩)]) 2 [(0, (.str ⟨#[100]⟩)), (1, (.str ⟨#[120]⟩))] h7 fun x14 h8 =>
 xNewS (some (9, 1, 16, false)) (some [(.str ⟨#[]⟩)]) 1 [(0, (.str ⟨#[102]⟩))] h8 fun x15 h9 =>
 c6_13 h9 x10 x11 x12 x13 x14 x15 x9 k
noncomputable abbrev c6_15 (x3 : CV) (h3 : CH) (k : CV → CH → Bool) : Bool :=
 xNilCheck x3 fun x7 =>
 xAddr (some 1) x7 fun x8 =>
 xLoad (some none) x8 h3 fun x9 =>
 xNewS (some (9, 1, 16, false)) (some [(.str ⟨#[]⟩)]) 1 [(0, (.str ⟨#[100]⟩))] h3 fun x10 h4 =>
 xNewS (some (9, 1, 16, false)) (some [(.str ⟨#[]⟩)]) 4 [(0, (.str ⟨#[100]⟩)), (1, (.str ⟨#[101]⟩)), (2, (.str ⟨#[46, 46]⟩)), (3, (.str ⟨#[46]⟩))] h4 fun x11 h5 =>
 c6_14 h5 x10 x11 x9 k
noncomputable abbrev c6_16 (x2 : CV) (k : CV → CH → Bool) (h2 : CH) : Bool :=
 xExtract x2 0 fun x3 =>
 xExtract x2 1 fun x4 =>
 xExtract x2 2 fun x5 =>
 xJoin (n := 1) (fun s5 h3 =>
  xIte s5.1
   (k (.bool false) h3)
   (c6_15 x3 h3 k))
 (fun K92 => xUn .not x4 fun x94 =>
 xIte x94
  (K92 ((.bool true), ()) h2)
  (xUn .not x5 fun x95 =>
  xIte x95
   (K92 ((.bool true), ()) h2)
   (ex35 [] h2 fun x96 h35 =>
   xUn .not x96 fun x97 =>
   K92 (x97, ()) h35)))
noncomputable def bd6 (h : CH) (k : CV → CH → Bool) : Bool :=
 bd34 h fun x1 h1 =>
 bd16 x1 h1 fun x2 h2 =>
 c6_16 x2 k h2
noncomputable abbrev ex6 : Ex := fun args h k => a0 args (bd6  h k)
set_option maxRecDepth 100000 in
theorem sim6 : SimF Tryz.prog 6 ex6 := fun args h k hk => by
  obtain ⟨rfl, hk⟩ := a0_ok hk
  exact sim_of (qf := (fun f => [75, 120, 121, 140, 144, 145, 146, 147, 148, 175, 181, 196, 197, 210, 220, 246].contains f)) (Z := zs) (C := [(34, ex34), (16, ex16), (36, ex36), (37, ex37), (38, ex38), (35, ex35)]) (T := []) ⟨zerosB_ok zsOk, (exCons (by kernel_rfl) sim34 (exCons (by kernel_rfl) sim16 (exCons (by kernel_rfl) sim36 (exCons (by kernel_rfl) sim37 (exCons (by kernel_rfl) sim38 (exCons (by kernel_rfl) sim35 exNil))))))⟩ (.seq .nil (.seq .nil (.seq (.join [45] [34, 35, 36, 37, 38, 39, 40, 41, 42, 43, 44] .nil .nil) (.seq .nil (.seq .nil (.seq .nil (.seq .nil (.seq (.seq .nil (.loop [8] [64, 65, 66, 67, 71, 72, 73, 74, 75, 76, 70, 77, 78, 9, 10, 79, 80, 81, 82, 83, 84, 85, 86, 87, 88, 89, 90, 91, 92, 0, 68, 69] (.seq .nil (.seq (.seq .nil (.join [92] [79, 80, 81, 82, 83, 84, 85, 86, 87, 88, 89, 90, 91] .nil .nil)) .nil)))) (.seq .nil (.seq .nil (.seq .nil (.seq .nil (.seq .nil (.seq (.join [160] [127, 128, 129, 130, 131, 132, 133, 134, 135, 136, 137, 138, 139, 140, 141, 142, 143, 144, 145, 146, 147, 148, 149, 150, 151, 152, 153, 154, 155, 156, 157, 158, 159] .nil .nil) .nil)))))))))))))) Tryz.func6 _ h k (Eq.mp (by kernel_rfl : (bd6  h k = true) = (xFn Tryz.prog (fun f => [75, 120, 121, 140, 144, 145, 146, 147, 148, 175, 181, 196, 197, 210, 220, 246].contains f) zs [(34, ex34), (16, ex16), (36, ex36), (37, ex37), (38, ex38), (35, ex35)] [] Tryz.f6 (.seq .nil (.seq .nil (.seq (.join [45] [34, 35, 36, 37, 38, 39, 40, 41, 42, 43, 44] .nil .nil) (.seq .nil (.seq .nil (.seq .nil (.seq .nil (.seq (.seq .nil (.loop [8] [64, 65, 66, 67, 71, 72, 73, 74, 75, 76, 70, 77, 78, 9, 10, 79, 80, 81, 82, 83, 84, 85, 86, 87, 88, 89, 90, 91, 92, 0, 68, 69] (.seq .nil (.seq (.seq .nil (.join [92] [79, 80, 81, 82, 83, 84, 85, 86, 87, 88, 89, 90, 91] .nil .nil)) .nil)))) (.seq .nil (.seq .nil (.seq .nil (.seq .nil (.seq .nil (.seq (.join [160] [127, 128, 129, 130, 131, 132, 133, 134, 135, 136, 137, 138, 139, 140, 141, 142, 143, 144, 145, 146, 147, 148, 149, 150, 151, 152, 153, 154, 155, 156, 157, 158, 159] .nil .nil) .nil)))))))))))))) [] h k = true)) hk)
set_option maxHeartbeats 4000000 in
theorem ok6 : ex6 [] h0 (fun z _ => isTrue z) = true := by kernel_rfl
end Go.Proofs
