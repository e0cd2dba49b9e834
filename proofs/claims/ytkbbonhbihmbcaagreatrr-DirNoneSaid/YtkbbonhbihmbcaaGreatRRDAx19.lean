/- Functions, run; each tied to the program. -/
import Derived.Test.YtkbbonhbihmbcaaGreatRRDAD
set_option linter.unusedVariables false
set_option linter.unusedSimpArgs false
namespace Go.Proofs
open Go.Vc Go.Xc
set_option maxRecDepth 100000

/- undercroft/undercroftlaw19.awake -/
noncomputable abbrev c34_1 (x28 : CV) (x39 : CV) (x37 : CV) (x38 : CV) (k : CV → CH → Bool) (h9 : CH) : Bool :=
 xBin (some (.int .i64)) .eql x28 (.int .i64 (.ofNat 0)) fun x50 =>
 xIte x50
 (xBin (some (.int .i64)) .eql x39 (.int .i64 (.ofNat 0)) fun x51 =>
 xIte x51
 (xBin (some (.int .i64)) .eql x37 (.int .i64 (.ofNat 2)) fun x52 =>
 xIte x52
 (xBin (some (.int .i64)) .eql x38 (.int .i64 (.ofNat 2)) fun x53 =>
 k x53 h9)
 (k (.bool false) h9))
 (k (.bool false) h9))
 (k (.bool false) h9)
noncomputable abbrev c34_2 (x46 : CV) (x19 : CV) (x17 : CV) (x18 : CV) (x28 : CV) (x39 : CV) (x37 : CV) (x38 : CV) (k : CV → CH → Bool) (h9 : CH) : Bool :=
 xIte x46
 (xBin (some (.int .i64)) .eql x19 (.int .i64 (.ofNat 0)) fun x47 =>
 xIte x47
 (xBin (some (.int .i64)) .eql x17 (.int .i64 (.ofNat 2)) fun x48 =>
 xIte x48
 (xBin (some (.int .i64)) .eql x18 (.int .i64 (.ofNat 0)) fun x49 =>
 xIte x49
 (c34_1 x28 x39 x37 x38 k h9)
 (k (.bool false) h9))
 (k (.bool false) h9))
 (k (.bool false) h9))
 (k (.bool false) h9)
noncomputable abbrev c34_3 (x11 : CV) (h9 : CH) (x19 : CV) (x17 : CV) (x18 : CV) (x28 : CV) (x39 : CV) (x37 : CV) (x38 : CV) (k : CV → CH → Bool) : Bool :=
 xIdx (some (none, 2)) x11 (.int .i64 (.ofNat 1)) fun x43 =>
 xLoad (some (some 2)) x43 h9 fun x44 =>
 xBuild (some (.inl [(0, 1), (1, 1)])) (some (.agg [(.int .u16 (.ofNat 0)), (.str ⟨#[]⟩)])) [(0, (.int .u16 (.ofNat 1))), (1, (.str ⟨#[46, 46]⟩))] fun x45 =>
 xEq (some (.agg (.fld 0 (some none) .int (.fld 1 (some none) .str .done)))) .eql x44 x45 h9 fun x46 =>
 c34_2 x46 x19 x17 x18 x28 x39 x37 x38 k h9
noncomputable abbrev c34_4 (x36 : CV) (x12 : CV) (x11 : CV) (h9 : CH) (x19 : CV) (x17 : CV) (x18 : CV) (x28 : CV) (k : CV → CH → Bool) : Bool :=
 xExtract x36 0 fun x37 =>
 xExtract x36 1 fun x38 =>
 xExtract x36 2 fun x39 =>
 xBin (some (.int .i64)) .eql x12 (.int .i64 (.ofNat 0)) fun x40 =>
 xIte x40
 (xLen (some (.inl false)) x11 fun x41 =>
 xBin (some (.int .i64)) .eql x41 (.int .i64 (.ofNat 2)) fun x42 =>
 xIte x42
 (c34_3 x11 h9 x19 x17 x18 x28 x39 x37 x38 k)
 (k (.bool false) h9))
 (k (.bool false) h9)
noncomputable abbrev c34_5 (x26 : CV) (x27 : CV) (h6 : CH) (x3 : CV) (x12 : CV) (x11 : CV) (x19 : CV) (x17 : CV) (x18 : CV) (k : CV → CH → Bool) : Bool :=
 bd31 x26 (.int .i64 (.ofNat 1)) (.int .i64 (.ofNat 2)) x27 h6 fun x28 h7 =>
 xNilCheck x3 fun x29 =>
 xAddr (some 1) x29 fun x30 =>
 xLoad (some none) x30 h7 fun x31 =>
 bd33 x31 h7 fun x32 h8 =>
 xNilCheck x3 fun x33 =>
 xAddr (some 1) x33 fun x34 =>
 xLoad (some none) x34 h8 fun x35 =>
 bd29 x35 (.int .i64 (.ofNat 1)) (.str ⟨#[97]⟩) h8 fun x36 h9 =>
 c34_4 x36 x12 x11 h9 x19 x17 x18 x28 k
noncomputable abbrev c34_6 (x21 : CV) (h5 : CH) (x3 : CV) (x12 : CV) (x11 : CV) (x19 : CV) (x17 : CV) (x18 : CV) (k : CV → CH → Bool) : Bool :=
 xLoad (some none) x21 h5 fun x22 =>
 bd32 x22 (.int .i64 (.ofNat 2)) h5 fun x23 h6 =>
 xNilCheck x3 fun x24 =>
 xAddr (some 1) x24 fun x25 =>
 xLoad (some none) x25 h6 fun x26 =>
 xBuild (some (.inl [(0, 1), (1, 1)])) (some (.agg [(.int .u16 (.ofNat 0)), (.str ⟨#[]⟩)])) [(0, (.int .u16 (.ofNat 2))), (1, (.str ⟨#[97]⟩))] fun x27 =>
 c34_5 x26 x27 h6 x3 x12 x11 x19 x17 x18 k
noncomputable abbrev c34_7 (x10 : CV) (x3 : CV) (h4 : CH) (k : CV → CH → Bool) : Bool :=
 xExtract x10 0 fun x11 =>
 xExtract x10 1 fun x12 =>
 xNilCheck x3 fun x13 =>
 xAddr (some 1) x13 fun x14 =>
 xLoad (some none) x14 h4 fun x15 =>
 bd28 x15 (.int .i64 (.ofNat 1)) h4 fun x16 h5 =>
 xExtract x16 0 fun x17 =>
 xExtract x16 1 fun x18 =>
 xExtract x16 2 fun x19 =>
 xNilCheck x3 fun x20 =>
 xAddr (some 1) x20 fun x21 =>
 c34_6 x21 h5 x3 x12 x11 x19 x17 x18 k
noncomputable abbrev c34_8 (x2 : CV) (k : CV → CH → Bool) (x3 : CV) (x4 : CV) (h2 : CH) : Bool :=
 xExtract x2 2 fun x5 =>
 xJoin (n := 1) (fun s5 h3 =>
 xIte s5.1
 (k (.bool false) h3)
 (xNilCheck x3 fun x7 =>
 xAddr (some 1) x7 fun x8 =>
 xLoad (some none) x8 h3 fun x9 =>
 bd30 x9 (.int .i64 (.ofNat 1)) h3 fun x10 h4 =>
 c34_7 x10 x3 h4 k))
 (fun K53 => xUn .not x4 fun x55 =>
 xIte x55
 (K53 ((.bool true), ()) h2)
 (xUn .not x5 fun x56 =>
 K53 (x56, ()) h2))
noncomputable def bd34 (h : CH) (k : CV → CH → Bool) : Bool :=
 bd27 h fun x1 h1 =>
 bd9 x1 h1 fun x2 h2 =>
 xExtract x2 0 fun x3 =>
 xExtract x2 1 fun x4 =>
 c34_8 x2 k x3 x4 h2
noncomputable abbrev exi34 : Ex := fun args h k => a0 args (bd34  h k)
theorem simi34 : SimF Tryz.prog 34 exi34 := fun args h k hk => by
 obtain ⟨rfl, hk⟩ := a0_ok hk
 exact sim_of (qf := qz) (Z := zs) (C := [(27, ex27), (9, ex9), (30, ex30), (28, ex28), (32, ex32), (31, ex31), (33, ex33), (29, ex29)]) (T := []) ⟨zerosB_ok zsOk, (exCons (by kernel_rfl) sim27 (exCons (by kernel_rfl) sim9 (exCons (by kernel_rfl) sim30 (exCons (by kernel_rfl) sim28 (exCons (by kernel_rfl) sim32 (exCons (by kernel_rfl) sim31 (exCons (by kernel_rfl) sim33 (exCons (by kernel_rfl) sim29 exNil))))))))⟩ (.seq .nil (.seq .nil (.seq (.join [24] [19, 20, 21, 22, 23] .nil .nil) .nil))) Tryz.func34 _ h k (Eq.mp (by kernel_rfl : (bd34  h k = true) = _) hk)
set_option maxHeartbeats 4000000 in
theorem ok34 : exi34 [] h0 (fun z _ => isTrue z) = true := by kernel_rfl
noncomputable def ex34 : Ex := exTrue
theorem sim34 : SimF Tryz.prog 34 ex34 := simTrue fun h => closedF (xs := []) (vs := []) simi34 ok34 rfl h
end Go.Proofs
