/- Functions, run; each tied to the program. -/
import Derived.Test.YtkbbonhbihmbcaaGreatRRDAC
set_option linter.unusedVariables false
set_option linter.unusedSimpArgs false
namespace Go.Proofs
open Go.Vc Go.Xc
set_option maxRecDepth 100000

/- undercroft/dir.Find -/
noncomputable abbrev c29_1 (v0 : CV) (v1 : CV) (v2 : CV) (x1 : CV) (x2 : CV) (x3 : CV) (x4 : CV) (x8 : CV) (x9 : CV) (x5 : CV) (x6 : CV) (x7 : CV) (x10 : CV) (x11 : CV) (x12 : CV) (x13 : CV) (h12 : CH) (h15 : CH) : Bool :=
 (eqCs [v0, v1, v2, (.tup []), (.tup []), x1, x2, x3, x4, x8, x9, (.tup []), (.tup []), x5, v0, v1, x5, x6, x7, x10, x11, x12, (.tup []), (.tup []), (.tup []), (.tup []), (.tup []), (.tup []), (.tup []), (.tup []), (.tup []), (.tup []), (.tup []), (.tup []), (.tup []), (.tup []), (.tup []), (.tup []), (.tup []), (.tup []), (.tup []), (.tup []), (.tup []), (.tup []), (.tup []), (.tup []), (.tup []), (.tup []), (.tup [])] [v0, v1, v2, (.tup []), (.tup []), x1, x2, x3, x4, x8, x9, (.tup []), (.tup []), x5, v0, v1, x5, x6, x7, x10, x11, x13, (.tup []), (.tup []), (.tup []), (.tup []), (.tup []), (.tup []), (.tup []), (.tup []), (.tup []), (.tup []), (.tup []), (.tup []), (.tup []), (.tup []), (.tup []), (.tup []), (.tup []), (.tup []), (.tup []), (.tup []), (.tup []), (.tup []), (.tup []), (.tup []), (.tup []), (.tup []), (.tup [])] && eqH h12 h15)
noncomputable abbrev c29_2 (v0 : CV) (v1 : CV) (v2 : CV) (x1 : CV) (x2 : CV) (x3 : CV) (x4 : CV) (x8 : CV) (x9 : CV) (x5 : CV) (x6 : CV) (x7 : CV) (x10 : CV) (x11 : CV) (x12 : CV) (x14 : CV) (h12 : CH) (h17 : CH) : Bool :=
 (eqCs [v0, v1, v2, (.tup []), (.tup []), x1, x2, x3, x4, x8, x9, (.tup []), (.tup []), x5, v0, v1, x5, x6, x7, x10, x11, x12, (.tup []), (.tup []), (.tup []), (.tup []), (.tup []), (.tup []), (.tup []), (.tup []), (.tup []), (.tup []), (.tup []), (.tup []), (.tup []), (.tup []), (.tup []), (.tup []), (.tup []), (.tup []), (.tup []), (.tup []), (.tup []), (.tup []), (.tup []), (.tup []), (.tup []), (.tup []), (.tup [])] [v0, v1, v2, (.tup []), (.tup []), x1, x2, x3, x4, x8, x9, (.tup []), (.tup []), x5, v0, v1, x5, x6, x7, x10, x11, x14, (.tup []), (.tup []), (.tup []), (.tup []), (.tup []), (.tup []), (.tup []), (.tup []), (.tup []), (.tup []), (.tup []), (.tup []), (.tup []), (.tup []), (.tup []), (.tup []), (.tup []), (.tup []), (.tup []), (.tup []), (.tup []), (.tup []), (.tup []), (.tup []), (.tup []), (.tup []), (.tup [])] && eqH h12 h17)
noncomputable abbrev c29_3 (x9 : CV) (h13 : CH) (x3 : CV) (x4 : CV) (v0 : CV) (v1 : CV) (v2 : CV) (x1 : CV) (x2 : CV) (x8 : CV) (x5 : CV) (x6 : CV) (x7 : CV) (x10 : CV) (x11 : CV) (x12 : CV) (h12 : CH) : Bool :=
 both
 (xLoad (some none) x9 h13 fun x14 =>
 xStore (some 1) x3 (.int .i64 (.ofNat 0)) h13 fun h16 =>
 xStore (some 1) x4 x14 h16 fun h17 =>
 c29_2 v0 v1 v2 x1 x2 x3 x4 x8 x9 x5 x6 x7 x10 x11 x12 x14 h12 h17)
 (both
 (xStore (some 1) x3 (.int .i64 (.ofNat 0)) h13 fun h14 =>
 xLoad (some none) x9 h14 fun x13 =>
 xStore (some 1) x4 x13 h14 fun h15 =>
 c29_1 v0 v1 v2 x1 x2 x3 x4 x8 x9 x5 x6 x7 x10 x11 x12 x13 h12 h15)
 (true))
noncomputable abbrev c29_4 (v0 : CV) (v1 : CV) (v2 : CV) (x1 : CV) (x2 : CV) (x3 : CV) (x4 : CV) (x8 : CV) (x9 : CV) (x5 : CV) (x6 : CV) (x7 : CV) (x10 : CV) (x11 : CV) (x12 : CV) (x15 : CV) (h12 : CH) (h20 : CH) : Bool :=
 (eqCs [v0, v1, v2, (.tup []), (.tup []), x1, x2, x3, x4, x8, x9, (.tup []), (.tup []), x5, v0, v1, x5, x6, x7, x10, x11, x12, (.tup []), (.tup []), (.tup []), (.tup []), (.tup []), (.tup []), (.tup []), (.tup []), (.tup []), (.tup []), (.tup []), (.tup []), (.tup []), (.tup []), (.tup []), (.tup []), (.tup []), (.tup []), (.tup []), (.tup []), (.tup []), (.tup []), (.tup []), (.tup []), (.tup []), (.tup []), (.tup [])] [v0, v1, v2, (.tup []), (.tup []), x1, x2, x3, x4, x8, x9, (.tup []), (.tup []), x5, v0, v1, x5, x6, x7, x10, x11, x15, (.tup []), (.tup []), (.tup []), (.tup []), (.tup []), (.tup []), (.tup []), (.tup []), (.tup []), (.tup []), (.tup []), (.tup []), (.tup []), (.tup []), (.tup []), (.tup []), (.tup []), (.tup []), (.tup []), (.tup []), (.tup []), (.tup []), (.tup []), (.tup []), (.tup []), (.tup []), (.tup [])] && eqH h12 h20)
noncomputable abbrev c29_5 (x9 : CV) (h9 : CH) (x2 : CV) (x3 : CV) (x4 : CV) (v0 : CV) (v1 : CV) (v2 : CV) (x1 : CV) (x8 : CV) (x5 : CV) (x6 : CV) (x7 : CV) (x10 : CV) (x11 : CV) (x12 : CV) (h12 : CH) (k : CV → CH → Bool) : Bool :=
 both
 (both
 (xLoad (some none) x9 h9 fun x15 =>
 xStore (some 1) x2 (.int .i64 (.ofNat 0)) h9 fun h18 =>
 xStore (some 1) x3 (.int .i64 (.ofNat 0)) h18 fun h19 =>
 xStore (some 1) x4 x15 h19 fun h20 =>
 c29_4 v0 v1 v2 x1 x2 x3 x4 x8 x9 x5 x6 x7 x10 x11 x12 x15 h12 h20)
 (both
 (xStore (some 1) x2 (.int .i64 (.ofNat 0)) h9 fun h13 =>
 c29_3 x9 h13 x3 x4 v0 v1 v2 x1 x2 x8 x5 x6 x7 x10 x11 x12 h12)
 (true)))
 (xLoad (some none) x2 h12 fun x16 =>
 xLoad (some none) x3 h12 fun x17 =>
 xLoad (some none) x4 h12 fun x18 =>
 k (.tup [x16, x17, x18]) h12)
noncomputable abbrev c29_6 (v0 : CV) (v1 : CV) (v2 : CV) (x1 : CV) (x2 : CV) (x3 : CV) (x4 : CV) (x8 : CV) (x9 : CV) (x5 : CV) (x6 : CV) (x7 : CV) (x10 : CV) (x11 : CV) (x19 : CV) (x20 : CV) (x21 : CV) (x22 : CV) (x23 : CV) (x24 : CV) (h25 : CH) (h28 : CH) : Bool :=
 (eqCs [v0, v1, v2, (.tup []), (.tup []), x1, x2, x3, x4, x8, x9, (.tup []), (.tup []), x5, v0, v1, x5, x6, x7, x10, x11, (.tup []), x19, x20, x21, x22, x23, (.tup []), (.tup []), (.tup []), (.tup []), (.tup []), (.tup []), (.tup []), (.tup []), (.tup []), (.tup []), (.tup []), (.tup []), (.tup []), (.tup []), (.tup []), (.tup []), (.tup []), (.tup []), (.tup []), (.tup []), (.tup []), (.tup [])] [v0, v1, v2, (.tup []), (.tup []), x1, x2, x3, x4, x8, x9, (.tup []), (.tup []), x5, v0, v1, x5, x6, x7, x10, x11, (.tup []), x19, x20, x21, x22, x24, (.tup []), (.tup []), (.tup []), (.tup []), (.tup []), (.tup []), (.tup []), (.tup []), (.tup []), (.tup []), (.tup []), (.tup []), (.tup []), (.tup []), (.tup []), (.tup []), (.tup []), (.tup []), (.tup []), (.tup []), (.tup []), (.tup [])] && eqH h25 h28)
noncomputable abbrev c29_7 (v0 : CV) (v1 : CV) (v2 : CV) (x1 : CV) (x2 : CV) (x3 : CV) (x4 : CV) (x8 : CV) (x9 : CV) (x5 : CV) (x6 : CV) (x7 : CV) (x10 : CV) (x11 : CV) (x19 : CV) (x20 : CV) (x21 : CV) (x22 : CV) (x23 : CV) (x25 : CV) (h25 : CH) (h30 : CH) : Bool :=
 (eqCs [v0, v1, v2, (.tup []), (.tup []), x1, x2, x3, x4, x8, x9, (.tup []), (.tup []), x5, v0, v1, x5, x6, x7, x10, x11, (.tup []), x19, x20, x21, x22, x23, (.tup []), (.tup []), (.tup []), (.tup []), (.tup []), (.tup []), (.tup []), (.tup []), (.tup []), (.tup []), (.tup []), (.tup []), (.tup []), (.tup []), (.tup []), (.tup []), (.tup []), (.tup []), (.tup []), (.tup []), (.tup []), (.tup [])] [v0, v1, v2, (.tup []), (.tup []), x1, x2, x3, x4, x8, x9, (.tup []), (.tup []), x5, v0, v1, x5, x6, x7, x10, x11, (.tup []), x19, x20, x21, x22, x25, (.tup []), (.tup []), (.tup []), (.tup []), (.tup []), (.tup []), (.tup []), (.tup []), (.tup []), (.tup []), (.tup []), (.tup []), (.tup []), (.tup []), (.tup []), (.tup []), (.tup []), (.tup []), (.tup []), (.tup []), (.tup []), (.tup [])] && eqH h25 h30)
noncomputable abbrev c29_8 (x9 : CV) (h26 : CH) (x3 : CV) (x4 : CV) (v0 : CV) (v1 : CV) (v2 : CV) (x1 : CV) (x2 : CV) (x8 : CV) (x5 : CV) (x6 : CV) (x7 : CV) (x10 : CV) (x11 : CV) (x19 : CV) (x20 : CV) (x21 : CV) (x22 : CV) (x23 : CV) (h25 : CH) : Bool :=
 both
 (xLoad (some none) x9 h26 fun x25 =>
 xStore (some 1) x3 (.int .i64 (.ofNat 0)) h26 fun h29 =>
 xStore (some 1) x4 x25 h29 fun h30 =>
 c29_7 v0 v1 v2 x1 x2 x3 x4 x8 x9 x5 x6 x7 x10 x11 x19 x20 x21 x22 x23 x25 h25 h30)
 (both
 (xStore (some 1) x3 (.int .i64 (.ofNat 0)) h26 fun h27 =>
 xLoad (some none) x9 h27 fun x24 =>
 xStore (some 1) x4 x24 h27 fun h28 =>
 c29_6 v0 v1 v2 x1 x2 x3 x4 x8 x9 x5 x6 x7 x10 x11 x19 x20 x21 x22 x23 x24 h25 h28)
 (true))
noncomputable abbrev c29_9 (v0 : CV) (v1 : CV) (v2 : CV) (x1 : CV) (x2 : CV) (x3 : CV) (x4 : CV) (x8 : CV) (x9 : CV) (x5 : CV) (x6 : CV) (x7 : CV) (x10 : CV) (x11 : CV) (x19 : CV) (x20 : CV) (x21 : CV) (x22 : CV) (x23 : CV) (x26 : CV) (h25 : CH) (h33 : CH) : Bool :=
 (eqCs [v0, v1, v2, (.tup []), (.tup []), x1, x2, x3, x4, x8, x9, (.tup []), (.tup []), x5, v0, v1, x5, x6, x7, x10, x11, (.tup []), x19, x20, x21, x22, x23, (.tup []), (.tup []), (.tup []), (.tup []), (.tup []), (.tup []), (.tup []), (.tup []), (.tup []), (.tup []), (.tup []), (.tup []), (.tup []), (.tup []), (.tup []), (.tup []), (.tup []), (.tup []), (.tup []), (.tup []), (.tup []), (.tup [])] [v0, v1, v2, (.tup []), (.tup []), x1, x2, x3, x4, x8, x9, (.tup []), (.tup []), x5, v0, v1, x5, x6, x7, x10, x11, (.tup []), x19, x20, x21, x22, x26, (.tup []), (.tup []), (.tup []), (.tup []), (.tup []), (.tup []), (.tup []), (.tup []), (.tup []), (.tup []), (.tup []), (.tup []), (.tup []), (.tup []), (.tup []), (.tup []), (.tup []), (.tup []), (.tup []), (.tup []), (.tup []), (.tup [])] && eqH h25 h33)
noncomputable abbrev c29_10 (x9 : CV) (h22 : CH) (x2 : CV) (x3 : CV) (x4 : CV) (v0 : CV) (v1 : CV) (v2 : CV) (x1 : CV) (x8 : CV) (x5 : CV) (x6 : CV) (x7 : CV) (x10 : CV) (x11 : CV) (x19 : CV) (x20 : CV) (x21 : CV) (x22 : CV) (x23 : CV) (h25 : CH) (k : CV → CH → Bool) : Bool :=
 both
 (both
 (xLoad (some none) x9 h22 fun x26 =>
 xStore (some 1) x2 (.int .i64 (.ofNat 0)) h22 fun h31 =>
 xStore (some 1) x3 (.int .i64 (.ofNat 0)) h31 fun h32 =>
 xStore (some 1) x4 x26 h32 fun h33 =>
 c29_9 v0 v1 v2 x1 x2 x3 x4 x8 x9 x5 x6 x7 x10 x11 x19 x20 x21 x22 x23 x26 h25 h33)
 (both
 (xStore (some 1) x2 (.int .i64 (.ofNat 0)) h22 fun h26 =>
 c29_8 x9 h26 x3 x4 v0 v1 v2 x1 x2 x8 x5 x6 x7 x10 x11 x19 x20 x21 x22 x23 h25)
 (true)))
 (xLoad (some none) x2 h25 fun x27 =>
 xLoad (some none) x3 h25 fun x28 =>
 xLoad (some none) x4 h25 fun x29 =>
 k (.tup [x27, x28, x29]) h25)
noncomputable abbrev c29_11 (v0 : CV) (v1 : CV) (v2 : CV) (x1 : CV) (x2 : CV) (x3 : CV) (x4 : CV) (x8 : CV) (x9 : CV) (x5 : CV) (x6 : CV) (x7 : CV) (x10 : CV) (x11 : CV) (x19 : CV) (x20 : CV) (x21 : CV) (x22 : CV) (x30 : CV) (x31 : CV) (x34 : CV) (x35 : CV) (x36 : CV) (x37 : CV) (h38 : CH) (h41 : CH) : Bool :=
 (eqCs [v0, v1, v2, (.tup []), (.tup []), x1, x2, x3, x4, x8, x9, (.tup []), (.tup []), x5, v0, v1, x5, x6, x7, x10, x11, (.tup []), x19, x20, x21, x22, (.tup []), v0, v1, x30, x31, (.tup []), (.tup []), (.tup []), (.tup []), (.tup []), (.tup []), (.tup []), (.tup []), (.tup []), (.tup []), (.tup []), (.tup []), (.tup []), (.tup []), (.tup []), x34, x35, x36] [v0, v1, v2, (.tup []), (.tup []), x1, x2, x3, x4, x8, x9, (.tup []), (.tup []), x5, v0, v1, x5, x6, x7, x10, x11, (.tup []), x19, x20, x21, x22, (.tup []), v0, v1, x30, x31, (.tup []), (.tup []), (.tup []), (.tup []), (.tup []), (.tup []), (.tup []), (.tup []), (.tup []), (.tup []), (.tup []), (.tup []), (.tup []), (.tup []), (.tup []), x34, x35, x37] && eqH h38 h41)
noncomputable abbrev c29_12 (v0 : CV) (v1 : CV) (v2 : CV) (x1 : CV) (x2 : CV) (x3 : CV) (x4 : CV) (x8 : CV) (x9 : CV) (x5 : CV) (x6 : CV) (x7 : CV) (x10 : CV) (x11 : CV) (x19 : CV) (x20 : CV) (x21 : CV) (x22 : CV) (x30 : CV) (x31 : CV) (x34 : CV) (x35 : CV) (x36 : CV) (x38 : CV) (h38 : CH) (h43 : CH) : Bool :=
 (eqCs [v0, v1, v2, (.tup []), (.tup []), x1, x2, x3, x4, x8, x9, (.tup []), (.tup []), x5, v0, v1, x5, x6, x7, x10, x11, (.tup []), x19, x20, x21, x22, (.tup []), v0, v1, x30, x31, (.tup []), (.tup []), (.tup []), (.tup []), (.tup []), (.tup []), (.tup []), (.tup []), (.tup []), (.tup []), (.tup []), (.tup []), (.tup []), (.tup []), (.tup []), x34, x35, x36] [v0, v1, v2, (.tup []), (.tup []), x1, x2, x3, x4, x8, x9, (.tup []), (.tup []), x5, v0, v1, x5, x6, x7, x10, x11, (.tup []), x19, x20, x21, x22, (.tup []), v0, v1, x30, x31, (.tup []), (.tup []), (.tup []), (.tup []), (.tup []), (.tup []), (.tup []), (.tup []), (.tup []), (.tup []), (.tup []), (.tup []), (.tup []), (.tup []), (.tup []), x34, x35, x38] && eqH h38 h43)
noncomputable abbrev c29_13 (x9 : CV) (h39 : CH) (x3 : CV) (x4 : CV) (v0 : CV) (v1 : CV) (v2 : CV) (x1 : CV) (x2 : CV) (x8 : CV) (x5 : CV) (x6 : CV) (x7 : CV) (x10 : CV) (x11 : CV) (x19 : CV) (x20 : CV) (x21 : CV) (x22 : CV) (x30 : CV) (x31 : CV) (x34 : CV) (x35 : CV) (x36 : CV) (h38 : CH) : Bool :=
 both
 (xLoad (some none) x9 h39 fun x38 =>
 xStore (some 1) x3 (.int .i64 (.ofNat 0)) h39 fun h42 =>
 xStore (some 1) x4 x38 h42 fun h43 =>
 c29_12 v0 v1 v2 x1 x2 x3 x4 x8 x9 x5 x6 x7 x10 x11 x19 x20 x21 x22 x30 x31 x34 x35 x36 x38 h38 h43)
 (both
 (xStore (some 1) x3 (.int .i64 (.ofNat 0)) h39 fun h40 =>
 xLoad (some none) x9 h40 fun x37 =>
 xStore (some 1) x4 x37 h40 fun h41 =>
 c29_11 v0 v1 v2 x1 x2 x3 x4 x8 x9 x5 x6 x7 x10 x11 x19 x20 x21 x22 x30 x31 x34 x35 x36 x37 h38 h41)
 (true))
noncomputable abbrev c29_14 (v0 : CV) (v1 : CV) (v2 : CV) (x1 : CV) (x2 : CV) (x3 : CV) (x4 : CV) (x8 : CV) (x9 : CV) (x5 : CV) (x6 : CV) (x7 : CV) (x10 : CV) (x11 : CV) (x19 : CV) (x20 : CV) (x21 : CV) (x22 : CV) (x30 : CV) (x31 : CV) (x34 : CV) (x35 : CV) (x36 : CV) (x39 : CV) (h38 : CH) (h46 : CH) : Bool :=
 (eqCs [v0, v1, v2, (.tup []), (.tup []), x1, x2, x3, x4, x8, x9, (.tup []), (.tup []), x5, v0, v1, x5, x6, x7, x10, x11, (.tup []), x19, x20, x21, x22, (.tup []), v0, v1, x30, x31, (.tup []), (.tup []), (.tup []), (.tup []), (.tup []), (.tup []), (.tup []), (.tup []), (.tup []), (.tup []), (.tup []), (.tup []), (.tup []), (.tup []), (.tup []), x34, x35, x36] [v0, v1, v2, (.tup []), (.tup []), x1, x2, x3, x4, x8, x9, (.tup []), (.tup []), x5, v0, v1, x5, x6, x7, x10, x11, (.tup []), x19, x20, x21, x22, (.tup []), v0, v1, x30, x31, (.tup []), (.tup []), (.tup []), (.tup []), (.tup []), (.tup []), (.tup []), (.tup []), (.tup []), (.tup []), (.tup []), (.tup []), (.tup []), (.tup []), (.tup []), x34, x35, x39] && eqH h38 h46)
noncomputable abbrev c29_15 (x9 : CV) (h35 : CH) (x2 : CV) (x3 : CV) (x4 : CV) (v0 : CV) (v1 : CV) (v2 : CV) (x1 : CV) (x8 : CV) (x5 : CV) (x6 : CV) (x7 : CV) (x10 : CV) (x11 : CV) (x19 : CV) (x20 : CV) (x21 : CV) (x22 : CV) (x30 : CV) (x31 : CV) (x34 : CV) (x35 : CV) (x36 : CV) (h38 : CH) (k : CV → CH → Bool) : Bool :=
 both
 (both
 (xLoad (some none) x9 h35 fun x39 =>
 xStore (some 1) x2 (.int .i64 (.ofNat 0)) h35 fun h44 =>
 xStore (some 1) x3 (.int .i64 (.ofNat 0)) h44 fun h45 =>
 xStore (some 1) x4 x39 h45 fun h46 =>
 c29_14 v0 v1 v2 x1 x2 x3 x4 x8 x9 x5 x6 x7 x10 x11 x19 x20 x21 x22 x30 x31 x34 x35 x36 x39 h38 h46)
 (both
 (xStore (some 1) x2 (.int .i64 (.ofNat 0)) h35 fun h39 =>
 c29_13 x9 h39 x3 x4 v0 v1 v2 x1 x2 x8 x5 x6 x7 x10 x11 x19 x20 x21 x22 x30 x31 x34 x35 x36 h38)
 (true)))
 (xLoad (some none) x2 h38 fun x40 =>
 xLoad (some none) x3 h38 fun x41 =>
 xLoad (some none) x4 h38 fun x42 =>
 k (.tup [x40, x41, x42]) h38)
noncomputable abbrev c29_16 (x35 : CV) (x9 : CV) (h35 : CH) (x2 : CV) (x3 : CV) (x4 : CV) (v0 : CV) (v1 : CV) (v2 : CV) (x1 : CV) (x8 : CV) (x5 : CV) (x6 : CV) (x7 : CV) (x10 : CV) (x11 : CV) (x19 : CV) (x20 : CV) (x21 : CV) (x22 : CV) (x30 : CV) (x31 : CV) (x34 : CV) (k : CV → CH → Bool) : Bool :=
 xIte x35
 (xLoad (some none) x9 h35 fun x36 =>
 xStore (some 1) x2 (.int .i64 (.ofNat 0)) h35 fun h36 =>
 xStore (some 1) x3 (.int .i64 (.ofNat 0)) h36 fun h37 =>
 xStore (some 1) x4 x36 h37 fun h38 =>
 c29_15 x9 h35 x2 x3 x4 v0 v1 v2 x1 x8 x5 x6 x7 x10 x11 x19 x20 x21 x22 x30 x31 x34 x35 x36 h38 k)
 (xStore (some 1) x2 (.int .i64 (.ofNat 0)) h35 fun h47 =>
 xStore (some 1) x3 (.int .i64 (.ofNat 0)) h47 fun h48 =>
 xStore (some 1) x4 (.int .i64 (.ofNat 5)) h48 fun h49 =>
 xLoad (some none) x2 h49 fun x43 =>
 xLoad (some none) x3 h49 fun x44 =>
 xLoad (some none) x4 h49 fun x45 =>
 k (.tup [x43, x44, x45]) h49)
noncomputable abbrev c29_17 (v0 : CV) (v1 : CV) (v2 : CV) (x1 : CV) (x2 : CV) (x3 : CV) (x4 : CV) (x8 : CV) (x9 : CV) (x5 : CV) (x6 : CV) (x7 : CV) (x10 : CV) (x11 : CV) (x19 : CV) (x20 : CV) (x21 : CV) (x22 : CV) (x30 : CV) (x31 : CV) (x49 : CV) (x50 : CV) (x51 : CV) (x52 : CV) (h52 : CH) (h55 : CH) : Bool :=
 (eqCs [v0, v1, v2, (.tup []), (.tup []), x1, x2, x3, x4, x8, x9, (.tup []), (.tup []), x5, v0, v1, x5, x6, x7, x10, x11, (.tup []), x19, x20, x21, x22, (.tup []), v0, v1, x30, x31, (.tup []), (.tup []), (.tup []), (.tup []), (.tup []), (.tup []), (.tup []), (.tup []), (.tup []), (.tup []), (.tup []), (.tup []), (.tup []), (.tup []), (.tup []), x49, x50, x51] [v0, v1, v2, (.tup []), (.tup []), x1, x2, x3, x4, x8, x9, (.tup []), (.tup []), x5, v0, v1, x5, x6, x7, x10, x11, (.tup []), x19, x20, x21, x22, (.tup []), v0, v1, x30, x31, (.tup []), (.tup []), (.tup []), (.tup []), (.tup []), (.tup []), (.tup []), (.tup []), (.tup []), (.tup []), (.tup []), (.tup []), (.tup []), (.tup []), (.tup []), x49, x50, x52] && eqH h52 h55)
noncomputable abbrev c29_18 (v0 : CV) (v1 : CV) (v2 : CV) (x1 : CV) (x2 : CV) (x3 : CV) (x4 : CV) (x8 : CV) (x9 : CV) (x5 : CV) (x6 : CV) (x7 : CV) (x10 : CV) (x11 : CV) (x19 : CV) (x20 : CV) (x21 : CV) (x22 : CV) (x30 : CV) (x31 : CV) (x49 : CV) (x50 : CV) (x51 : CV) (x53 : CV) (h52 : CH) (h57 : CH) : Bool :=
 (eqCs [v0, v1, v2, (.tup []), (.tup []), x1, x2, x3, x4, x8, x9, (.tup []), (.tup []), x5, v0, v1, x5, x6, x7, x10, x11, (.tup []), x19, x20, x21, x22, (.tup []), v0, v1, x30, x31, (.tup []), (.tup []), (.tup []), (.tup []), (.tup []), (.tup []), (.tup []), (.tup []), (.tup []), (.tup []), (.tup []), (.tup []), (.tup []), (.tup []), (.tup []), x49, x50, x51] [v0, v1, v2, (.tup []), (.tup []), x1, x2, x3, x4, x8, x9, (.tup []), (.tup []), x5, v0, v1, x5, x6, x7, x10, x11, (.tup []), x19, x20, x21, x22, (.tup []), v0, v1, x30, x31, (.tup []), (.tup []), (.tup []), (.tup []), (.tup []), (.tup []), (.tup []), (.tup []), (.tup []), (.tup []), (.tup []), (.tup []), (.tup []), (.tup []), (.tup []), x49, x50, x53] && eqH h52 h57)
noncomputable abbrev c29_19 (x9 : CV) (h53 : CH) (x3 : CV) (x4 : CV) (v0 : CV) (v1 : CV) (v2 : CV) (x1 : CV) (x2 : CV) (x8 : CV) (x5 : CV) (x6 : CV) (x7 : CV) (x10 : CV) (x11 : CV) (x19 : CV) (x20 : CV) (x21 : CV) (x22 : CV) (x30 : CV) (x31 : CV) (x49 : CV) (x50 : CV) (x51 : CV) (h52 : CH) : Bool :=
 both
 (xLoad (some none) x9 h53 fun x53 =>
 xStore (some 1) x3 (.int .i64 (.ofNat 0)) h53 fun h56 =>
 xStore (some 1) x4 x53 h56 fun h57 =>
 c29_18 v0 v1 v2 x1 x2 x3 x4 x8 x9 x5 x6 x7 x10 x11 x19 x20 x21 x22 x30 x31 x49 x50 x51 x53 h52 h57)
 (both
 (xStore (some 1) x3 (.int .i64 (.ofNat 0)) h53 fun h54 =>
 xLoad (some none) x9 h54 fun x52 =>
 xStore (some 1) x4 x52 h54 fun h55 =>
 c29_17 v0 v1 v2 x1 x2 x3 x4 x8 x9 x5 x6 x7 x10 x11 x19 x20 x21 x22 x30 x31 x49 x50 x51 x52 h52 h55)
 (true))
noncomputable abbrev c29_20 (v0 : CV) (v1 : CV) (v2 : CV) (x1 : CV) (x2 : CV) (x3 : CV) (x4 : CV) (x8 : CV) (x9 : CV) (x5 : CV) (x6 : CV) (x7 : CV) (x10 : CV) (x11 : CV) (x19 : CV) (x20 : CV) (x21 : CV) (x22 : CV) (x30 : CV) (x31 : CV) (x49 : CV) (x50 : CV) (x51 : CV) (x54 : CV) (h52 : CH) (h60 : CH) : Bool :=
 (eqCs [v0, v1, v2, (.tup []), (.tup []), x1, x2, x3, x4, x8, x9, (.tup []), (.tup []), x5, v0, v1, x5, x6, x7, x10, x11, (.tup []), x19, x20, x21, x22, (.tup []), v0, v1, x30, x31, (.tup []), (.tup []), (.tup []), (.tup []), (.tup []), (.tup []), (.tup []), (.tup []), (.tup []), (.tup []), (.tup []), (.tup []), (.tup []), (.tup []), (.tup []), x49, x50, x51] [v0, v1, v2, (.tup []), (.tup []), x1, x2, x3, x4, x8, x9, (.tup []), (.tup []), x5, v0, v1, x5, x6, x7, x10, x11, (.tup []), x19, x20, x21, x22, (.tup []), v0, v1, x30, x31, (.tup []), (.tup []), (.tup []), (.tup []), (.tup []), (.tup []), (.tup []), (.tup []), (.tup []), (.tup []), (.tup []), (.tup []), (.tup []), (.tup []), (.tup []), x49, x50, x54] && eqH h52 h60)
noncomputable abbrev c29_21 (x9 : CV) (h35 : CH) (x2 : CV) (x3 : CV) (x4 : CV) (v0 : CV) (v1 : CV) (v2 : CV) (x1 : CV) (x8 : CV) (x5 : CV) (x6 : CV) (x7 : CV) (x10 : CV) (x11 : CV) (x19 : CV) (x20 : CV) (x21 : CV) (x22 : CV) (x30 : CV) (x31 : CV) (x49 : CV) (x50 : CV) (x51 : CV) (h52 : CH) (k : CV → CH → Bool) : Bool :=
 both
 (both
 (xLoad (some none) x9 h35 fun x54 =>
 xStore (some 1) x2 (.int .i64 (.ofNat 0)) h35 fun h58 =>
 xStore (some 1) x3 (.int .i64 (.ofNat 0)) h58 fun h59 =>
 xStore (some 1) x4 x54 h59 fun h60 =>
 c29_20 v0 v1 v2 x1 x2 x3 x4 x8 x9 x5 x6 x7 x10 x11 x19 x20 x21 x22 x30 x31 x49 x50 x51 x54 h52 h60)
 (both
 (xStore (some 1) x2 (.int .i64 (.ofNat 0)) h35 fun h53 =>
 c29_19 x9 h53 x3 x4 v0 v1 v2 x1 x2 x8 x5 x6 x7 x10 x11 x19 x20 x21 x22 x30 x31 x49 x50 x51 h52)
 (true)))
 (xLoad (some none) x2 h52 fun x55 =>
 xLoad (some none) x3 h52 fun x56 =>
 xLoad (some none) x4 h52 fun x57 =>
 k (.tup [x55, x56, x57]) h52)
noncomputable abbrev c29_22 (x50 : CV) (x9 : CV) (h35 : CH) (x2 : CV) (x3 : CV) (x4 : CV) (v0 : CV) (v1 : CV) (v2 : CV) (x1 : CV) (x8 : CV) (x5 : CV) (x6 : CV) (x7 : CV) (x10 : CV) (x11 : CV) (x19 : CV) (x20 : CV) (x21 : CV) (x22 : CV) (x30 : CV) (x31 : CV) (x49 : CV) (k : CV → CH → Bool) : Bool :=
 xIte x50
 (xLoad (some none) x9 h35 fun x51 =>
 xStore (some 1) x2 (.int .i64 (.ofNat 0)) h35 fun h50 =>
 xStore (some 1) x3 (.int .i64 (.ofNat 0)) h50 fun h51 =>
 xStore (some 1) x4 x51 h51 fun h52 =>
 c29_21 x9 h35 x2 x3 x4 v0 v1 v2 x1 x8 x5 x6 x7 x10 x11 x19 x20 x21 x22 x30 x31 x49 x50 x51 h52 k)
 (xStore (some 1) x2 (.int .i64 (.ofNat 0)) h35 fun h61 =>
 xStore (some 1) x3 (.int .i64 (.ofNat 0)) h61 fun h62 =>
 xStore (some 1) x4 (.int .i64 (.ofNat 5)) h62 fun h63 =>
 xLoad (some none) x2 h63 fun x58 =>
 xLoad (some none) x3 h63 fun x59 =>
 xLoad (some none) x4 h63 fun x60 =>
 k (.tup [x58, x59, x60]) h63)
noncomputable abbrev c29_23 (v0 : CV) (v1 : CV) (v2 : CV) (x1 : CV) (x2 : CV) (x3 : CV) (x4 : CV) (x8 : CV) (x9 : CV) (x5 : CV) (x6 : CV) (x7 : CV) (x10 : CV) (x11 : CV) (x19 : CV) (x20 : CV) (x21 : CV) (x22 : CV) (x30 : CV) (x31 : CV) (h34 : CH) (k : CV → CH → Bool) : Bool :=
 xRange [(66, ex66), (69, ex69), (67, ex67), (111, ex111)] 290 [v0, v1, v2, (.tup []), (.tup []), x1, x2, x3, x4, x8, x9, (.tup []), (.tup []), x5, v0, v1, x5, x6, x7, x10, x11, (.tup []), x19, x20, x21, x22, (.tup []), v0, v1, x30, x31, (.tup []), (.tup []), (.tup []), (.tup []), (.tup []), (.tup []), (.tup []), (.tup []), (.tup []), (.tup []), (.tup []), (.tup []), (.tup []), (.tup []), (.tup []), (.tup []), (.tup []), (.tup [])] x31 h34 fun j31 h35 =>
 xJmp j31
 (xLoad (some none) x9 h35 fun x34 =>
 xBin (some (.int .i64)) .neq x34 (.int .i64 (.ofNat 0)) fun x35 =>
 c29_16 x35 x9 h35 x2 x3 x4 v0 v1 v2 x1 x8 x5 x6 x7 x10 x11 x19 x20 x21 x22 x30 x31 x34 k)
 (xLoad (some none) x2 h35 fun x46 =>
 xLoad (some none) x3 h35 fun x47 =>
 xLoad (some none) x4 h35 fun x48 =>
 k (.tup [x46, x47, x48]) h35)
 (fun i32 => isXX i32 0
 (xLoad (some none) x9 h35 fun x49 =>
 xBin (some (.int .i64)) .neq x49 (.int .i64 (.ofNat 0)) fun x50 =>
 c29_22 x50 x9 h35 x2 x3 x4 v0 v1 v2 x1 x8 x5 x6 x7 x10 x11 x19 x20 x21 x22 x30 x31 x49 k)
 (false))
noncomputable abbrev c29_24 (x22 : CV) (x9 : CV) (h22 : CH) (x2 : CV) (x3 : CV) (x4 : CV) (v0 : CV) (v1 : CV) (v2 : CV) (x1 : CV) (x8 : CV) (x5 : CV) (x6 : CV) (x7 : CV) (x10 : CV) (x11 : CV) (x19 : CV) (x20 : CV) (x21 : CV) (k : CV → CH → Bool) : Bool :=
 xIte x22
 (xLoad (some none) x9 h22 fun x23 =>
 xStore (some 1) x2 (.int .i64 (.ofNat 0)) h22 fun h23 =>
 xStore (some 1) x3 (.int .i64 (.ofNat 0)) h23 fun h24 =>
 xStore (some 1) x4 x23 h24 fun h25 =>
 c29_10 x9 h22 x2 x3 x4 v0 v1 v2 x1 x8 x5 x6 x7 x10 x11 x19 x20 x21 x22 x23 h25 k)
 (xLoad (some (some 16)) x8 h22 fun x30 =>
 bd67 v0 v1 x30 x9 h22 fun x31 h34 =>
 c29_23 v0 v1 v2 x1 x2 x3 x4 x8 x9 x5 x6 x7 x10 x11 x19 x20 x21 x22 x30 x31 h34 k)
noncomputable abbrev c29_25 (x11 : CV) (x9 : CV) (h9 : CH) (x2 : CV) (x3 : CV) (x4 : CV) (v0 : CV) (v1 : CV) (v2 : CV) (x1 : CV) (x8 : CV) (x5 : CV) (x6 : CV) (x7 : CV) (x10 : CV) (k : CV → CH → Bool) : Bool :=
 xIte x11
 (xLoad (some none) x9 h9 fun x12 =>
 xStore (some 1) x2 (.int .i64 (.ofNat 0)) h9 fun h10 =>
 xStore (some 1) x3 (.int .i64 (.ofNat 0)) h10 fun h11 =>
 xStore (some 1) x4 x12 h11 fun h12 =>
 c29_5 x9 h9 x2 x3 x4 v0 v1 v2 x1 x8 x5 x6 x7 x10 x11 x12 h12 k)
 (xLoad (some none) x1 h9 fun x19 =>
 bd69 x19 h9 fun x20 h21 =>
 xStore (some 1) x9 x20 h21 fun h22 =>
 xLoad (some none) x9 h22 fun x21 =>
 xBin (some (.int .i64)) .neq x21 (.int .i64 (.ofNat 0)) fun x22 =>
 c29_24 x22 x9 h22 x2 x3 x4 v0 v1 v2 x1 x8 x5 x6 x7 x10 x11 x19 x20 x21 k)
noncomputable abbrev c29_26 (h5 : CH) (x6 : CV) (x7 : CV) (x2 : CV) (x3 : CV) (x4 : CV) (v0 : CV) (v1 : CV) (v2 : CV) (x1 : CV) (x5 : CV) (k : CV → CH → Bool) : Bool :=
 xBoxP 78 [(.int .u16 (.ofNat 0)), (.int .u16 (.ofNat 0)), (.int .u32 (.ofNat 0)), (.int .u32 (.ofNat 0)), (.int .u32 (.ofNat 0)), (.int .u32 (.ofNat 0)), (.int .u32 (.ofNat 0)), (.int .u32 (.ofNat 0)), (.int .u32 (.ofNat 0)), (.int .u32 (.ofNat 0)), (.int .u32 (.ofNat 0)), (.int .u32 (.ofNat 0)), (.int .u32 (.ofNat 0)), (.int .u32 (.ofNat 0)), (.int .u32 (.ofNat 0)), (.int .u32 (.ofNat 0))] h5 fun x8 h6 =>
 xBoxP 35 [(.int .i64 (.ofNat 0))] h6 fun x9 h7 =>
 xStore (some 16) x8 x6 h7 fun h8 =>
 xStore (some 1) x9 x7 h8 fun h9 =>
 xLoad (some none) x9 h9 fun x10 =>
 xBin (some (.int .i64)) .neq x10 (.int .i64 (.ofNat 0)) fun x11 =>
 c29_25 x11 x9 h9 x2 x3 x4 v0 v1 v2 x1 x8 x5 x6 x7 x10 k
noncomputable def bd29 (v0 v1 v2 : CV) (h : CH) (k : CV → CH → Bool) : Bool :=
 xBox 9 v2 h fun x1 h1 =>
 xBoxP 3 [(.int .i64 (.ofNat 0))] h1 fun x2 h2 =>
 xBoxP 3 [(.int .i64 (.ofNat 0))] h2 fun x3 h3 =>
 xBoxP 35 [(.int .i64 (.ofNat 0))] h3 fun x4 h4 =>
 bd66 v0 v1 h4 fun x5 h5 =>
 xExtract x5 0 fun x6 =>
 xExtract x5 1 fun x7 =>
 c29_26 h5 x6 x7 x2 x3 x4 v0 v1 v2 x1 x5 k
noncomputable abbrev ex29 : Ex := fun args h k => a3 args fun v0 v1 v2 => bd29 v0 v1 v2 h k
theorem sim29 : SimF Tryz.prog 29 ex29 := fun args h k hk => by
 obtain ⟨v0, v1, v2, rfl, hk⟩ := a3_ok hk
 exact simN_of (qf := qz) (Z := zs) (C := [(66, ex66), (69, ex69), (67, ex67), (111, ex111)]) (T := [(3, .tree [0, 1, 2, 3] (.fork [] (.cons 0 (.line [1, 2, 3]) (.cons 1 (.fork [] (.cons 0 (.line [2, 3]) (.cons 2 (.line [0, 3]) .nil))) .nil)))), (6, .tree [0, 1, 2, 3] (.fork [] (.cons 0 (.line [1, 2, 3]) (.cons 1 (.fork [] (.cons 0 (.line [2, 3]) (.cons 2 (.line [0, 3]) .nil))) .nil)))), (13, .tree [0, 1, 2, 3] (.fork [] (.cons 0 (.line [1, 2, 3]) (.cons 1 (.fork [] (.cons 0 (.line [2, 3]) (.cons 2 (.line [0, 3]) .nil))) .nil)))), (13, .tree [0, 1, 2, 3] (.fork [] (.cons 0 (.line [1, 2, 3]) (.cons 1 (.fork [] (.cons 0 (.line [2, 3]) (.cons 2 (.line [0, 3]) .nil))) .nil))))]) ⟨zerosB_ok zsOk, (exCons (by kernel_rfl) sim66 (exCons (by kernel_rfl) sim69 (exCons (by kernel_rfl) sim67 (exCons (by kernel_rfl) sim111 exNil))))⟩ (fun _ _ _ _ h => h) (.seq .nil (.seq .nil (.seq .nil (.seq .nil (.seq (.seq .nil (.loop [290] [] .nil)) .nil))))) Tryz.func29 _ h k (Eq.mp (by kernel_rfl : (bd29 v0 v1 v2 h k = true) = (xFnN Tryz.prog qz zs [(66, ex66), (69, ex69), (67, ex67), (111, ex111)] [(3, .tree [0, 1, 2, 3] (.fork [] (.cons 0 (.line [1, 2, 3]) (.cons 1 (.fork [] (.cons 0 (.line [2, 3]) (.cons 2 (.line [0, 3]) .nil))) .nil)))), (6, .tree [0, 1, 2, 3] (.fork [] (.cons 0 (.line [1, 2, 3]) (.cons 1 (.fork [] (.cons 0 (.line [2, 3]) (.cons 2 (.line [0, 3]) .nil))) .nil)))), (13, .tree [0, 1, 2, 3] (.fork [] (.cons 0 (.line [1, 2, 3]) (.cons 1 (.fork [] (.cons 0 (.line [2, 3]) (.cons 2 (.line [0, 3]) .nil))) .nil)))), (13, .tree [0, 1, 2, 3] (.fork [] (.cons 0 (.line [1, 2, 3]) (.cons 1 (.fork [] (.cons 0 (.line [2, 3]) (.cons 2 (.line [0, 3]) .nil))) .nil))))] 29 Tryz.f29 (.seq .nil (.seq .nil (.seq .nil (.seq .nil (.seq (.seq .nil (.loop [290] [] .nil)) .nil))))) [v0, v1, v2] h k = true)) hk)
end Go.Proofs
