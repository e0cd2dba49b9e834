/- Functions, run; each tied to the program. -/
import Derived.Test.YtkbbonhbihmbcaaGreatRRZ21C
set_option linter.unusedVariables false
set_option linter.unusedSimpArgs false
namespace Go.Proofs
open Go.Vc Go.Xc

/- undercroft/undercroftlaw21.tree -/
noncomputable abbrev c10_1 (x34 : CV) (x38 : CV) (x42 : CV) (x3 : CV) (h18 : CH) (x1 : CV) (k : CV → CH → Bool) : Bool :=
 xBuild (some (.inl [(0, 1), (1, 1), (2, 1)])) (some (.agg [.nils, (.int .i64 (.ofNat 0)), (.int .i64 (.ofNat 0))])) [(0, x34), (1, x38), (2, x42)] fun x43 =>
 xAddr (some 3) x3 fun x44 =>
 xStore (some 3) x44 x43 h18 fun h19 =>
 xLoad (some (some 7)) x3 h19 fun x45 =>
 xStore (some 7) x1 x45 h19 fun h20 =>
 xLoad (some (some 7)) x1 h20 fun x46 =>
 k x46 h20
noncomputable abbrev c10_2 (x3 : CV) (h18 : CH) (x34 : CV) (x1 : CV) (k : CV → CH → Bool) : Bool :=
 xAddr (some 3) x3 fun x35 =>
 xAddr (some 1) x35 fun x36 =>
 xLoad (some none) x36 h18 fun x37 =>
 xBin (some (.int .i64)) .sub x37 (.int .i64 (.ofNat 2)) fun x38 =>
 xAddr (some 3) x3 fun x39 =>
 xAddr (some 2) x39 fun x40 =>
 xLoad (some none) x40 h18 fun x41 =>
 xBin (some (.int .i64)) .sub x41 (.int .i64 (.ofNat 3)) fun x42 =>
 c10_1 x34 x38 x42 x3 h18 x1 k
noncomputable abbrev c10_3 (x30 : CV) (x31 : CV) (x32 : CV) (h17 : CH) (x3 : CV) (x1 : CV) (k : CV → CH → Bool) : Bool :=
 xBuild (some (.inl [(0, 1), (1, 1), (2, 1), (3, 1), (4, 1), (5, 1), (6, 1)])) (some (.agg [(.int .i64 (.ofNat 0)), (.int .u16 (.ofNat 0)), (.int .i64 (.ofNat 0)), (.int .i64 (.ofNat 0)), (.int .i64 (.ofNat 0)), .nils, .nils])) [(0, (.int .i64 (.ofNat 4))), (1, (.int .u16 (.ofNat 1))), (2, (.int .i64 (.ofNat 1)))] fun x33 =>
 xNewS (some (66, 7, 88, false)) (some [(.int .i64 (.ofNat 0)), (.int .u16 (.ofNat 0)), (.int .i64 (.ofNat 0)), (.int .i64 (.ofNat 0)), (.int .i64 (.ofNat 0)), .nils, .nils]) 4 [(0, x30), (1, x31), (2, x32), (3, x33)] h17 fun x34 h18 =>
 c10_2 x3 h18 x34 x1 k
noncomputable abbrev c10_4 (h15 : CH) (x28 : CV) (x9 : CV) (x24 : CV) (x3 : CV) (x1 : CV) (k : CV → CH → Bool) : Bool :=
 xBoxP 66 [(.int .i64 (.ofNat 0)), (.int .u16 (.ofNat 0)), (.int .i64 (.ofNat 0)), (.int .i64 (.ofNat 0)), (.int .i64 (.ofNat 0)), .nils, .nils] h15 fun x29 h16 =>
 xStore (some 7) x29 x28 h16 fun h17 =>
 xLoad (some (some 7)) x9 h17 fun x30 =>
 xLoad (some (some 7)) x24 h17 fun x31 =>
 xLoad (some (some 7)) x29 h17 fun x32 =>
 c10_3 x30 x31 x32 h17 x3 x1 k
noncomputable abbrev c10_5 (x27 : CV) (h15 : CH) (x9 : CV) (x24 : CV) (x3 : CV) (x1 : CV) (k : CV → CH → Bool) : Bool :=
 xBuild (some (.inl [(0, 1), (1, 1), (2, 1), (3, 1), (4, 1), (5, 1), (6, 1)])) (some (.agg [(.int .i64 (.ofNat 0)), (.int .u16 (.ofNat 0)), (.int .i64 (.ofNat 0)), (.int .i64 (.ofNat 0)), (.int .i64 (.ofNat 0)), .nils, .nils])) [(0, (.int .i64 (.ofNat 3))), (1, (.int .u16 (.ofNat 2))), (2, (.int .i64 (.ofNat 2))), (3, (.int .i64 (.ofNat 32))), (4, (.int .i64 (.ofNat 1))), (6, x27)] fun x28 =>
 c10_4 h15 x28 x9 x24 x3 x1 k
noncomputable abbrev c10_6 (h14 : CH) (x9 : CV) (x24 : CV) (x3 : CV) (x1 : CV) (k : CV → CH → Bool) : Bool :=
 xBuild (some (.inl [(0, 1), (1, 1)])) (some (.agg [(.int .u16 (.ofNat 0)), (.str ⟨#[]⟩)])) [(0, (.int .u16 (.ofNat 3))), (1, (.str ⟨#[46]⟩))] fun x25 =>
 xBuild (some (.inl [(0, 1), (1, 1)])) (some (.agg [(.int .u16 (.ofNat 0)), (.str ⟨#[]⟩)])) [(0, (.int .u16 (.ofNat 2))), (1, (.str ⟨#[46, 46]⟩))] fun x26 =>
 xNewS (some (68, 2, 24, false)) (some [(.int .u16 (.ofNat 0)), (.str ⟨#[]⟩)]) 2 [(0, x25), (1, x26)] h14 fun x27 h15 =>
 c10_5 x27 h15 x9 x24 x3 x1 k
noncomputable abbrev c10_7 (x22 : CV) (h12 : CH) (x9 : CV) (x3 : CV) (x1 : CV) (k : CV → CH → Bool) : Bool :=
 xBuild (some (.inl [(0, 1), (1, 1), (2, 1), (3, 1), (4, 1), (5, 1), (6, 1)])) (some (.agg [(.int .i64 (.ofNat 0)), (.int .u16 (.ofNat 0)), (.int .i64 (.ofNat 0)), (.int .i64 (.ofNat 0)), (.int .i64 (.ofNat 0)), .nils, .nils])) [(0, (.int .i64 (.ofNat 2))), (1, (.int .u16 (.ofNat 2))), (2, (.int .i64 (.ofNat 3))), (3, (.int .i64 (.ofNat 48))), (4, (.int .i64 (.ofNat 1))), (6, x22)] fun x23 =>
 xBoxP 66 [(.int .i64 (.ofNat 0)), (.int .u16 (.ofNat 0)), (.int .i64 (.ofNat 0)), (.int .i64 (.ofNat 0)), (.int .i64 (.ofNat 0)), .nils, .nils] h12 fun x24 h13 =>
 xStore (some 7) x24 x23 h13 fun h14 =>
 c10_6 h14 x9 x24 x3 x1 k
noncomputable abbrev c10_8 (x19 : CV) (h11 : CH) (x9 : CV) (x3 : CV) (x1 : CV) (k : CV → CH → Bool) : Bool :=
 xBuild (some (.inl [(0, 1), (1, 1)])) (some (.agg [(.int .u16 (.ofNat 0)), (.str ⟨#[]⟩)])) [(0, (.int .u16 (.ofNat 1))), (1, (.str ⟨#[46, 46]⟩))] fun x20 =>
 xBuild (some (.inl [(0, 1), (1, 1)])) (some (.agg [(.int .u16 (.ofNat 0)), (.str ⟨#[]⟩)])) [(0, (.int .u16 (.ofNat 3))), (1, (.str ⟨#[101]⟩))] fun x21 =>
 xNewS (some (68, 2, 24, false)) (some [(.int .u16 (.ofNat 0)), (.str ⟨#[]⟩)]) 3 [(0, x19), (1, x20), (2, x21)] h11 fun x22 h12 =>
 c10_7 x22 h12 x9 x3 x1 k
noncomputable abbrev c10_9 (x14 : CV) (x15 : CV) (h8 : CH) (x13 : CV) (x9 : CV) (x3 : CV) (x1 : CV) (k : CV → CH → Bool) : Bool :=
 xNewS (some (68, 2, 24, false)) (some [(.int .u16 (.ofNat 0)), (.str ⟨#[]⟩)]) 2 [(0, x14), (1, x15)] h8 fun x16 h9 =>
 xApp (some (68, 2, 24, false)) x13 x16 h9 fun x17 h10 =>
 xAddr (some 6) x9 fun x18 =>
 xStore (some 1) x18 x17 h10 fun h11 =>
 xBuild (some (.inl [(0, 1), (1, 1)])) (some (.agg [(.int .u16 (.ofNat 0)), (.str ⟨#[]⟩)])) [(0, (.int .u16 (.ofNat 2))), (1, (.str ⟨#[46]⟩))] fun x19 =>
 c10_8 x19 h11 x9 x3 x1 k
noncomputable abbrev c10_10 (x12 : CV) (h8 : CH) (x9 : CV) (x3 : CV) (x1 : CV) (k : CV → CH → Bool) : Bool :=
 xLoad (some none) x12 h8 fun x13 =>
 xBuild (some (.inl [(0, 1), (1, 1)])) (some (.agg [(.int .u16 (.ofNat 0)), (.str ⟨#[]⟩)])) [(0, (.int .u16 (.ofNat 2))), (1, (.str ⟨#[100]⟩))] fun x14 =>
 xBuild (some (.inl [(0, 1), (1, 1)])) (some (.agg [(.int .u16 (.ofNat 0)), (.str ⟨#[]⟩)])) [(0, (.int .u16 (.ofNat 4))), (1, (.str ⟨#[102]⟩))] fun x15 =>
 c10_9 x14 x15 h8 x13 x9 x3 x1 k
noncomputable abbrev c10_11 (h4 : CH) (x8 : CV) (x3 : CV) (x1 : CV) (k : CV → CH → Bool) : Bool :=
 xBoxP 66 [(.int .i64 (.ofNat 0)), (.int .u16 (.ofNat 0)), (.int .i64 (.ofNat 0)), (.int .i64 (.ofNat 0)), (.int .i64 (.ofNat 0)), .nils, .nils] h4 fun x9 h5 =>
 xStore (some 7) x9 x8 h5 fun h6 =>
 xAddr (some 3) x9 fun x10 =>
 xStore (some 1) x10 (.int .i64 (.ofNat 64)) h6 fun h7 =>
 xAddr (some 2) x9 fun x11 =>
 xStore (some 1) x11 (.int .i64 (.ofNat 3)) h7 fun h8 =>
 xAddr (some 6) x9 fun x12 =>
 c10_10 x12 h8 x9 x3 x1 k
noncomputable abbrev c10_12 (h2 : CH) (x2 : CV) (x1 : CV) (k : CV → CH → Bool) : Bool :=
 xBoxP 32 [(.int .i64 (.ofNat 0)), (.int .i64 (.ofNat 0)), (.int .i64 (.ofNat 0)), .nils, (.int .i64 (.ofNat 0)), (.int .i64 (.ofNat 0)), (.int .i64 (.ofNat 0))] h2 fun x3 h3 =>
 xStore (some 7) x3 x2 h3 fun h4 =>
 xAddr (some 3) x3 fun x4 =>
 xAddr (some 0) x4 fun x5 =>
 xLoad (some none) x5 h4 fun x6 =>
 xIdx (some (none, 7)) x6 (.int .i64 (.ofNat 0)) fun x7 =>
 xLoad (some (some 7)) x7 h4 fun x8 =>
 c10_11 h4 x8 x3 x1 k
noncomputable def bd10 (h : CH) (k : CV → CH → Bool) : Bool :=
 xBoxP 32 [(.int .i64 (.ofNat 0)), (.int .i64 (.ofNat 0)), (.int .i64 (.ofNat 0)), .nils, (.int .i64 (.ofNat 0)), (.int .i64 (.ofNat 0)), (.int .i64 (.ofNat 0))] h fun x1 h1 =>
 bd27 h1 fun x2 h2 =>
 c10_12 h2 x2 x1 k
noncomputable abbrev ex10 : Ex := fun args h k => a0 args (bd10  h k)
set_option maxRecDepth 100000 in
theorem sim10 : SimF Tryz.prog 10 ex10 := fun args h k hk => by
  obtain ⟨rfl, hk⟩ := a0_ok hk
  exact sim_of (qf := (fun f => [83, 84, 97, 101, 102, 103, 115, 122, 138, 144, 154, 161, 162, 175, 185, 214].contains f)) (Z := zs) (C := [(27, ex27)]) (T := []) ⟨zerosB_ok zsOk, (exCons (by kernel_rfl) sim27 exNil)⟩ .nil Tryz.func10 _ h k (Eq.mp (by kernel_rfl : (bd10  h k = true) = (xFn Tryz.prog (fun f => [83, 84, 97, 101, 102, 103, 115, 122, 138, 144, 154, 161, 162, 175, 185, 214].contains f) zs [(27, ex27)] [] Tryz.f10 .nil [] h k = true)) hk)

/- undercroft/undercroftlaw21.awake -/
noncomputable abbrev c11_1 (x12 : CV) (x19 : CV) (x20 : CV) (x26 : CV) (x32 : CV) (k : CV → CH → Bool) (h9 : CH) : Bool :=
 xBin (some (.int .i64)) .eql x12 (.int .i64 (.ofNat 3)) fun x38 =>
 xIte x38
  (xBin (some (.int .i64)) .eql x19 (.int .i64 (.ofNat 2)) fun x39 =>
  xIte x39
   (xBin (some .string) .eql x20 (.str ⟨#[120]⟩) fun x40 =>
   xIte x40
    (xIte x26
     (xUn .not x32 fun x41 =>
     k x41 h9)
     (k (.bool false) h9))
    (k (.bool false) h9))
   (k (.bool false) h9))
  (k (.bool false) h9)
noncomputable abbrev c11_2 (x34 : CV) (x21 : CV) (x27 : CV) (x33 : CV) (x12 : CV) (x19 : CV) (x20 : CV) (x26 : CV) (x32 : CV) (k : CV → CH → Bool) (h9 : CH) : Bool :=
 xIte x34
  (xBin (some (.int .i64)) .eql x21 (.int .i64 (.ofNat 0)) fun x35 =>
  xIte x35
   (xBin (some (.int .i64)) .eql x27 (.int .i64 (.ofNat 0)) fun x36 =>
   xIte x36
    (xBin (some (.int .i64)) .eql x33 (.int .i64 (.ofNat 0)) fun x37 =>
    xIte x37
     (c11_1 x12 x19 x20 x26 x32 k h9)
     (k (.bool false) h9))
    (k (.bool false) h9))
   (k (.bool false) h9))
  (k (.bool false) h9)
noncomputable abbrev c11_3 (x25 : CV) (x3 : CV) (h8 : CH) (x13 : CV) (x21 : CV) (x12 : CV) (x19 : CV) (x20 : CV) (x26 : CV) (k : CV → CH → Bool) : Bool :=
 xExtract x25 1 fun x27 =>
 xNilCheck x3 fun x28 =>
 xAddr (some 1) x28 fun x29 =>
 xLoad (some none) x29 h8 fun x30 =>
 bd15 x30 (.int .i64 (.ofNat 3)) (.int .i64 (.ofNat 2)) h8 fun x31 h9 =>
 xExtract x31 0 fun x32 =>
 xExtract x31 1 fun x33 =>
 xBin (some (.int .i64)) .eql x13 (.int .i64 (.ofNat 0)) fun x34 =>
 c11_2 x34 x21 x27 x33 x12 x19 x20 x26 x32 k h9
noncomputable abbrev c11_4 (h5 : CH) (x16 : CV) (x3 : CV) (x13 : CV) (x12 : CV) (k : CV → CH → Bool) : Bool :=
 xNewS (some (9, 1, 16, false)) (some [(.str ⟨#[]⟩)]) 2 [(0, (.str ⟨#[100]⟩)), (1, (.str ⟨#[120]⟩))] h5 fun x17 h6 =>
 bd14 x16 x17 h6 fun x18 h7 =>
 xExtract x18 0 fun x19 =>
 xExtract x18 1 fun x20 =>
 xExtract x18 2 fun x21 =>
 xNilCheck x3 fun x22 =>
 xAddr (some 1) x22 fun x23 =>
 xLoad (some none) x23 h7 fun x24 =>
 bd15 x24 (.int .i64 (.ofNat 2)) (.int .i64 (.ofNat 3)) h7 fun x25 h8 =>
 xExtract x25 0 fun x26 =>
 c11_3 x25 x3 h8 x13 x21 x12 x19 x20 x26 k
noncomputable abbrev c11_5 (x7 : CV) (h3 : CH) (x3 : CV) (k : CV → CH → Bool) : Bool :=
 xAddr (some 1) x7 fun x8 =>
 xLoad (some none) x8 h3 fun x9 =>
 xNewS (some (9, 1, 16, false)) (some [(.str ⟨#[]⟩)]) 2 [(0, (.str ⟨#[100]⟩)), (1, (.str ⟨#[101]⟩))] h3 fun x10 h4 =>
 bd13 x9 x10 h4 fun x11 h5 =>
 xExtract x11 0 fun x12 =>
 xExtract x11 1 fun x13 =>
 xNilCheck x3 fun x14 =>
 xAddr (some 1) x14 fun x15 =>
 xLoad (some none) x15 h5 fun x16 =>
 c11_4 h5 x16 x3 x13 x12 k
noncomputable def bd11 (h : CH) (k : CV → CH → Bool) : Bool :=
 bd10 h fun x1 h1 =>
 bd9 x1 h1 fun x2 h2 =>
 xExtract x2 0 fun x3 =>
 xExtract x2 1 fun x4 =>
 xExtract x2 2 fun x5 =>
 xJoin (n := 1) (fun s5 h3 =>
  xIte s5.1
   (k (.bool false) h3)
   (xNilCheck x3 fun x7 =>
   c11_5 x7 h3 x3 k))
 (fun K41 => xUn .not x4 fun x43 =>
 xIte x43
  (K41 ((.bool true), ()) h2)
  (xUn .not x5 fun x44 =>
  K41 (x44, ()) h2))
noncomputable abbrev exi11 : Ex := fun args h k => a0 args (bd11  h k)
set_option maxRecDepth 100000 in
theorem simi11 : SimF Tryz.prog 11 exi11 := fun args h k hk => by
  obtain ⟨rfl, hk⟩ := a0_ok hk
  exact sim_of (qf := (fun f => [83, 84, 97, 101, 102, 103, 115, 122, 138, 144, 154, 161, 162, 175, 185, 214].contains f)) (Z := zs) (C := [(10, ex10), (9, ex9), (13, ex13), (14, ex14), (15, ex15)]) (T := []) ⟨zerosB_ok zsOk, (exCons (by kernel_rfl) sim10 (exCons (by kernel_rfl) sim9 (exCons (by kernel_rfl) sim13 (exCons (by kernel_rfl) sim14 (exCons (by kernel_rfl) sim15 exNil)))))⟩ (.seq .nil (.seq .nil (.seq (.join [24] [19, 20, 21, 22, 23] .nil .nil) .nil))) Tryz.func11 _ h k (Eq.mp (by kernel_rfl : (bd11  h k = true) = (xFn Tryz.prog (fun f => [83, 84, 97, 101, 102, 103, 115, 122, 138, 144, 154, 161, 162, 175, 185, 214].contains f) zs [(10, ex10), (9, ex9), (13, ex13), (14, ex14), (15, ex15)] [] Tryz.f11 (.seq .nil (.seq .nil (.seq (.join [24] [19, 20, 21, 22, 23] .nil .nil) .nil))) [] h k = true)) hk)
set_option maxHeartbeats 4000000 in
theorem ok11 : exi11 [] h0 (fun z _ => isTrue z) = true := by kernel_rfl
noncomputable def ex11 : Ex := exTrue
theorem sim11 : SimF Tryz.prog 11 ex11 := simTrue fun h => closedF (xs := []) (vs := []) simi11 ok11 rfl h
end Go.Proofs
