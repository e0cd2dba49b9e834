/- Functions, run; each tied to the program. -/
import Derived.Test.YtmjngdocmilolaaGreatRC
set_option linter.unusedVariables false
set_option linter.unusedSimpArgs false
namespace Go.Proofs
open Go.Vc Go.Xc

/- undercroft/undercroftlaw09.awake -/
noncomputable abbrev c20_1 (x36 : CV) (x32 : CV) (x11 : CV) (x21 : CV) (k : CV → CH → Bool) (x31 : CV) (h8 : CH) : Bool :=
 xIte x36
  (xBin (some (.int .i64)) .eql x32 (.int .i64 (.ofNat 0)) fun x37 =>
  xIte x37
   (xBin (some (.int .i64)) .eql x11 (.int .i64 (.ofNat 361)) fun x38 =>
   xIte x38
    (xBin (some (.int .i64)) .eql x21 (.int .i64 (.ofNat 39)) fun x39 =>
    xIte x39
     (k x31 h8)
     (k (.bool false) h8))
    (k (.bool false) h8))
   (k (.bool false) h8))
  (k (.bool false) h8)
noncomputable abbrev c20_2 (x12 : CV) (x16 : CV) (x22 : CV) (x26 : CV) (x32 : CV) (x11 : CV) (x21 : CV) (k : CV → CH → Bool) (x31 : CV) (h8 : CH) : Bool :=
 xBin (some (.int .i64)) .eql x12 (.int .i64 (.ofNat 0)) fun x33 =>
 xIte x33
  (xBin (some (.int .i64)) .eql x16 (.int .i64 (.ofNat 0)) fun x34 =>
  xIte x34
   (xBin (some (.int .i64)) .eql x22 (.int .i64 (.ofNat 0)) fun x35 =>
   xIte x35
    (xBin (some (.int .i64)) .eql x26 (.int .i64 (.ofNat 0)) fun x36 =>
    c20_1 x36 x32 x11 x21 k x31 h8)
    (k (.bool false) h8))
   (k (.bool false) h8))
  (k (.bool false) h8)
noncomputable abbrev c20_3 (x3 : CV) (h6 : CH) (x12 : CV) (x16 : CV) (x22 : CV) (x11 : CV) (x21 : CV) (k : CV → CH → Bool) : Bool :=
 xNilCheck x3 fun x23 =>
 xAddr (some 1) x23 fun x24 =>
 xLoad (some none) x24 h6 fun x25 =>
 bd26 x25 h6 fun x26 h7 =>
 xNilCheck x3 fun x27 =>
 xAddr (some 1) x27 fun x28 =>
 xLoad (some none) x28 h7 fun x29 =>
 bd21 x29 (.int .i64 (.ofNat 39)) h7 fun x30 h8 =>
 xExtract x30 0 fun x31 =>
 xExtract x30 1 fun x32 =>
 c20_2 x12 x16 x22 x26 x32 x11 x21 k x31 h8
noncomputable abbrev c20_4 (x10 : CV) (x3 : CV) (h4 : CH) (x11 : CV) (k : CV → CH → Bool) : Bool :=
 xExtract x10 1 fun x12 =>
 xNilCheck x3 fun x13 =>
 xAddr (some 1) x13 fun x14 =>
 xLoad (some none) x14 h4 fun x15 =>
 bd23 x15 (.int .i64 (.ofNat 2)) h4 fun x16 h5 =>
 xNilCheck x3 fun x17 =>
 xAddr (some 1) x17 fun x18 =>
 xLoad (some none) x18 h5 fun x19 =>
 bd22 x19 h5 fun x20 h6 =>
 xExtract x20 0 fun x21 =>
 xExtract x20 1 fun x22 =>
 c20_3 x3 h6 x12 x16 x22 x11 x21 k
noncomputable abbrev c20_5 (k : CV → CH → Bool) (x3 : CV) (x4 : CV) (h2 : CH) (x5 : CV) : Bool :=
 xJoin (n := 1) (fun s5 h3 =>
  xIte s5.1
   (k (.bool false) h3)
   (xNilCheck x3 fun x7 =>
   xAddr (some 1) x7 fun x8 =>
   xLoad (some none) x8 h3 fun x9 =>
   bd25 x9 h3 fun x10 h4 =>
   xExtract x10 0 fun x11 =>
   c20_4 x10 x3 h4 x11 k))
 (fun K39 => xUn .not x4 fun x41 =>
 xIte x41
  (K39 ((.bool true), ()) h2)
  (xUn .not x5 fun x42 =>
  K39 (x42, ()) h2))
noncomputable def bd20 (h : CH) (k : CV → CH → Bool) : Bool :=
 bd15 h fun x1 h1 =>
 bd16 x1 h1 fun x2 h2 =>
 xExtract x2 0 fun x3 =>
 xExtract x2 1 fun x4 =>
 xExtract x2 2 fun x5 =>
 c20_5 k x3 x4 h2 x5
noncomputable abbrev exi20 : Ex := fun args h k => a0 args (bd20  h k)
set_option maxRecDepth 100000 in
theorem simi20 : SimF Tryz.prog 20 exi20 := fun args h k hk => by
  obtain ⟨rfl, hk⟩ := a0_ok hk
  exact sim_of (qf := (fun f => [75, 120, 121, 145, 146, 175, 181, 196, 197, 210, 220, 246].contains f)) (Z := zs) (C := [(15, ex15), (16, ex16), (25, ex25), (23, ex23), (22, ex22), (26, ex26), (21, ex21)]) (T := []) ⟨zerosB_ok zsOk, (exCons (by kernel_rfl) sim15 (exCons (by kernel_rfl) sim16 (exCons (by kernel_rfl) sim25 (exCons (by kernel_rfl) sim23 (exCons (by kernel_rfl) sim22 (exCons (by kernel_rfl) sim26 (exCons (by kernel_rfl) sim21 exNil)))))))⟩ (.seq .nil (.seq .nil (.seq (.join [23] [18, 19, 20, 21, 22] .nil .nil) .nil))) Tryz.func20 _ h k (Eq.mp (by kernel_rfl : (bd20  h k = true) = (xFn Tryz.prog (fun f => [75, 120, 121, 145, 146, 175, 181, 196, 197, 210, 220, 246].contains f) zs [(15, ex15), (16, ex16), (25, ex25), (23, ex23), (22, ex22), (26, ex26), (21, ex21)] [] Tryz.f20 (.seq .nil (.seq .nil (.seq (.join [23] [18, 19, 20, 21, 22] .nil .nil) .nil))) [] h k = true)) hk)
theorem ok20 : exi20 [] h0 (fun z _ => isTrue z) = true := by kernel_rfl
noncomputable def ex20 : Ex := exTrue
theorem sim20 : SimF Tryz.prog 20 ex20 := simTrue fun h => closedF (xs := []) (vs := []) simi20 ok20 rfl h
end Go.Proofs
