/- Functions, run; each tied to the program. -/
import Derived.Test.YtpacglkopelfiaaXcO
import Derived.Test.YtpacglkopelfiaaProg
set_option linter.unusedVariables false
set_option linter.unusedSimpArgs false
namespace Go.Proofs
open Go.Vc Go.Xc
def zs : List (Nat × CV) := [(3, (.int .i64 (.ofNat 0))),
  (25, (.agg [(.bytes 1024 0)])),
  (26, .nilp),
  (28, (.agg [(.int .i64 (.ofNat 0)), (.bytes 1024 0), (.bool false), .nilp, .nilp])),
  (31, (.agg [.nilp, (.int .i64 (.ofNat 0)), (.int .i64 (.ofNat 0)), (.int .i64 (.ofNat 0)), (.bytes 1024 0), (.bool false), .nilp, .nilp, .nilm])),
  (36, (.agg [(.int .i64 (.ofNat 0)), .nilm, .nilm, .nils, .nils, (.int .i64 (.ofNat 0)), (.bool false), (.int .i64 (.ofNat 0)), (.int .i64 (.ofNat 0)), (.int .i64 (.ofNat 0)), (.int .i64 (.ofNat 0))])),
  (126, (.agg [(.int .i64 (.ofNat 0)), (.bytes 1024 0)])),
  (138, (.agg [(.bytes 1 0), (.int .i64 (.ofNat 0)), (.bytes 1024 0)]))]
set_option maxRecDepth 100000 in
theorem zsOk : zerosB Try.prog zs = true := by kernel_rfl

/- undercroft/disk.New -/
noncomputable def bd21 (v0 : CV) (h : CH) (k : CV → CH → Bool) : Bool :=
 xJoin (n := 1) (fun s0 h1 =>
  xIte s0.1
   (k (.tup [.nilp, (.int .i64 (.ofNat 2))]) h1)
   (xNewMap h1 fun x2 h2 =>
   xNewMap h2 fun x3 h3 =>
   xBuild (some (.inl [(0, 1), (1, 1), (2, 1), (3, 1), (4, 1), (5, 1), (6, 1), (7, 1), (8, 1), (9, 1), (10, 1)])) (some (.agg [(.int .i64 (.ofNat 0)), .nilm, .nilm, .nils, .nils, (.int .i64 (.ofNat 0)), (.bool false), (.int .i64 (.ofNat 0)), (.int .i64 (.ofNat 0)), (.int .i64 (.ofNat 0)), (.int .i64 (.ofNat 0))])) [(0, v0), (1, x2), (2, x3), (5, (.int .i64 (.negSucc 0)))] fun x4 =>
   xBox 36 x4 h3 fun x5 h4 =>
   k (.tup [x5, (.int .i64 (.ofNat 0))]) h4))
 (fun K5 => xBin (some (.int .i64)) .lss v0 (.int .i64 (.ofNat 1)) fun x7 =>
 xIte x7
  (K5 ((.bool true), ()) h)
  (xBin (some (.int .i64)) .gtr v0 (.int .i64 (.ofNat 1048576)) fun x8 =>
  K5 (x8, ()) h))
noncomputable abbrev ex21 : Ex := fun args h k => a1 args fun v0 => bd21 v0 h k
set_option maxRecDepth 100000 in
theorem sim21 : SimF Try.prog 21 ex21 := fun args h k hk => by
  obtain ⟨v0, rfl, hk⟩ := a1_ok hk
  exact sim_of (qf := (fun f => [13].contains f)) (Z := zs) (C := []) ⟨zerosB_ok zsOk, exNil⟩ (.seq .nil (.seq (.join [9] [4, 5, 6, 7, 8] .nil .nil) .nil)) Try.func21 _ h k (Eq.mp (by kernel_rfl : (bd21 v0 h k = true) = (xFn Try.prog (fun f => [13].contains f) zs [] Try.f21 (.seq .nil (.seq (.join [9] [4, 5, 6, 7, 8] .nil .nil) .nil)) [v0] h k = true)) hk)

/- (*undercroft/disk.Disk).is -/
noncomputable def bd53 (v0 : CV) (h : CH) (k : CV → CH → Bool) : Bool :=
 xEq (some .ptr) .neq v0 .nilp h fun x1 =>
 xIte x1
  (xNilCheck v0 fun x2 =>
  xAddr (some 0) x2 fun x3 =>
  xLoad (some none) x3 h fun x4 =>
  xBin (some (.int .i64)) .gtr x4 (.int .i64 (.ofNat 0)) fun x5 =>
  k x5 h)
  (k (.bool false) h)
noncomputable abbrev ex53 : Ex := fun args h k => a1 args fun v0 => bd53 v0 h k
set_option maxRecDepth 100000 in
theorem sim53 : SimF Try.prog 53 ex53 := fun args h k hk => by
  obtain ⟨v0, rfl, hk⟩ := a1_ok hk
  exact sim_of (qf := (fun f => [13].contains f)) (Z := zs) (C := []) ⟨zerosB_ok zsOk, exNil⟩ .nil Try.func53 _ h k (Eq.mp (by kernel_rfl : (bd53 v0 h k = true) = (xFn Try.prog (fun f => [13].contains f) zs [] Try.f53 .nil [v0] h k = true)) hk)

/- (*undercroft/disk.Disk).Len -/
noncomputable def bd52 (v0 : CV) (h : CH) (k : CV → CH → Bool) : Bool :=
 bd53 v0 h fun x1 h1 =>
 xUn .not x1 fun x2 =>
 xIte x2
  (k (.int .i64 (.ofNat 0)) h1)
  (xNilCheck v0 fun x3 =>
  xAddr (some 0) x3 fun x4 =>
  xLoad (some none) x4 h1 fun x5 =>
  k x5 h1)
noncomputable abbrev ex52 : Ex := fun args h k => a1 args fun v0 => bd52 v0 h k
set_option maxRecDepth 100000 in
theorem sim52 : SimF Try.prog 52 ex52 := fun args h k hk => by
  obtain ⟨v0, rfl, hk⟩ := a1_ok hk
  exact sim_of (qf := (fun f => [13].contains f)) (Z := zs) (C := [(53, ex53)]) ⟨zerosB_ok zsOk, (exCons (by kernel_rfl) sim53 exNil)⟩ .nil Try.func52 _ h k (Eq.mp (by kernel_rfl : (bd52 v0 h k = true) = (xFn Try.prog (fun f => [13].contains f) zs [(53, ex53)] Try.f52 .nil [v0] h k = true)) hk)

/- undercroft/cache.New -/
noncomputable def bd18 (v0 v1 : CV) (h : CH) (k : CV → CH → Bool) : Bool :=
 bd52 v0 h fun x1 h1 =>
 xBin (some (.int .i64)) .eql x1 (.int .i64 (.ofNat 0)) fun x2 =>
 xIte x2
  (k (.tup [.nilp, (.int .i64 (.ofNat 1))]) h1)
  (xJoin (n := 1) (fun s2 h2 =>
   xIte s2.1
    (k (.tup [.nilp, (.int .i64 (.ofNat 2))]) h2)
    (xNewMap h2 fun x4 h3 =>
    xBuild (some (.inl [(0, 1), (1, 1), (2, 1), (3, 1028), (1031, 1)])) (some (.agg [.nilp, (.int .i64 (.ofNat 0)), (.int .i64 (.ofNat 0)), (.int .i64 (.ofNat 0)), (.bytes 1024 0), (.bool false), .nilp, .nilp, .nilm])) [(0, v0), (1, v1), (4, x4)] fun x5 =>
    xBox 31 x5 h3 fun x6 h4 =>
    xNilCheck x6 fun x7 =>
    xAddr (some 3) x7 fun x8 =>
    xNilCheck x6 fun x9 =>
    xAddr (some 3) x9 fun x10 =>
    xAddr (some 1026) x10 fun x11 =>
    xStore (some 1) x11 x8 h4 fun h5 =>
    xNilCheck x6 fun x12 =>
    xAddr (some 3) x12 fun x13 =>
    xNilCheck x6 fun x14 =>
    xAddr (some 3) x14 fun x15 =>
    xAddr (some 1027) x15 fun x16 =>
    xStore (some 1) x16 x13 h5 fun h6 =>
    k (.tup [x6, (.int .i64 (.ofNat 0))]) h6))
  (fun K16 => xBin (some (.int .i64)) .lss v1 (.int .i64 (.ofNat 1)) fun x18 =>
  xIte x18
   (K16 ((.bool true), ()) h1)
   (xBin (some (.int .i64)) .gtr v1 (.int .i64 (.ofNat 4096)) fun x19 =>
   K16 (x19, ()) h1)))
noncomputable abbrev ex18 : Ex := fun args h k => a2 args fun v0 v1 => bd18 v0 v1 h k
set_option maxRecDepth 100000 in
theorem sim18 : SimF Try.prog 18 ex18 := fun args h k hk => by
  obtain ⟨v0, v1, rfl, hk⟩ := a2_ok hk
  exact sim_of (qf := (fun f => [13].contains f)) (Z := zs) (C := [(52, ex52)]) ⟨zerosB_ok zsOk, (exCons (by kernel_rfl) sim52 exNil)⟩ (.seq .nil (.seq .nil (.seq (.join [15] [10, 11, 12, 13, 14] .nil .nil) .nil))) Try.func18 _ h k (Eq.mp (by kernel_rfl : (bd18 v0 v1 h k = true) = (xFn Try.prog (fun f => [13].contains f) zs [(52, ex52)] Try.f18 (.seq .nil (.seq .nil (.seq (.join [15] [10, 11, 12, 13, 14] .nil .nil) .nil))) [v0, v1] h k = true)) hk)

/- undercroft/undercroftlaw06.ten -/
noncomputable def bd23 (h : CH) (k : CV → CH → Bool) : Bool :=
 bd21 (.int .i64 (.ofNat 10)) h fun x1 h1 =>
 xExtract x1 0 fun x2 =>
 xExtract x1 1 fun x3 =>
 xJoin (n := 1) (fun s3 h2 =>
  xIte s3.1
   (k (.tup [.nilp, .nilp, (.bool false)]) h2)
   (bd18 x2 (.int .i64 (.ofNat 2)) h2 fun x5 h3 =>
   xExtract x5 0 fun x6 =>
   xExtract x5 1 fun x7 =>
   xBin (some (.int .i64)) .eql x7 (.int .i64 (.ofNat 0)) fun x8 =>
   xIte x8
    (xEq (some .ptr) .neq x6 .nilp h3 fun x9 =>
    k (.tup [x2, x6, x9]) h3)
    (k (.tup [x2, x6, (.bool false)]) h3)))
 (fun K9 => xBin (some (.int .i64)) .neq x3 (.int .i64 (.ofNat 0)) fun x11 =>
 xIte x11
  (K9 ((.bool true), ()) h1)
  (xEq (some .ptr) .eql x2 .nilp h1 fun x12 =>
  K9 (x12, ()) h1))
noncomputable abbrev ex23 : Ex := fun args h k => a0 args (bd23  h k)
set_option maxRecDepth 100000 in
theorem sim23 : SimF Try.prog 23 ex23 := fun args h k hk => by
  obtain ⟨rfl, hk⟩ := a0_ok hk
  exact sim_of (qf := (fun f => [13].contains f)) (Z := zs) (C := [(21, ex21), (18, ex18)]) ⟨zerosB_ok zsOk, (exCons (by kernel_rfl) sim21 (exCons (by kernel_rfl) sim18 exNil))⟩ (.seq .nil (.seq .nil (.seq (.join [15] [10, 11, 12, 13, 14] .nil .nil) .nil))) Try.func23 _ h k (Eq.mp (by kernel_rfl : (bd23  h k = true) = (xFn Try.prog (fun f => [13].contains f) zs [(21, ex21), (18, ex18)] Try.f23 (.seq .nil (.seq .nil (.seq (.join [15] [10, 11, 12, 13, 14] .nil .nil) .nil))) [] h k = true)) hk)

/- undercroft/undercroftlaw06.Filled -/
noncomputable def bd13 (v0 : CV) (h : CH) (k : CV → CH → Bool) : Bool :=
 xBoxP 25 [(.bytes 1024 0)] h fun x1 h1 =>
 xConv (some (.int .u16)) (some (.int .u8)) v0 fun x2 =>
 xBin (some (.int .u16)) .quo v0 (.int .u16 (.ofNat 256)) fun x3 =>
 xConv (some (.int .u16)) (some (.int .u8)) x3 fun x4 =>
 xConv (some (.int .u16)) (some (.int .u8)) v0 fun x5 =>
 xBin (some (.int .u16)) .rem v0 (.int .u16 (.ofNat 251)) fun x6 =>
 xConv (some (.int .u16)) (some (.int .u8)) x6 fun x7 =>
 xBuild (some (.inr 1)) (some (.agg [(.bytes 1024 0)])) [(0, x2), (1, x4), (500, x5), (1023, x7)] fun x8 =>
 xStore (some 1024) x1 x8 h1 fun h2 =>
 xLoad (some (some 1024)) x1 h2 fun x9 =>
 k x9 h2
noncomputable abbrev ex13 : Ex := fun args h k => a1 args fun v0 => bd13 v0 h k
set_option maxRecDepth 100000 in
theorem sim13 : SimF Try.prog 13 ex13 := fun args h k hk => by
  obtain ⟨v0, rfl, hk⟩ := a1_ok hk
  exact sim_of (qf := (fun f => [13].contains f)) (Z := zs) (C := []) ⟨zerosB_ok zsOk, exNil⟩ .nil Try.func13 _ h k (Eq.mp (by kernel_rfl : (bd13 v0 h k = true) = (xFn Try.prog (fun f => [13].contains f) zs [] Try.f13 .nil [v0] h k = true)) hk)

/- (*undercroft/disk.Disk).Stopped -/
noncomputable def bd40 (v0 : CV) (h : CH) (k : CV → CH → Bool) : Bool :=
 bd53 v0 h fun x1 h1 =>
 xIte x1
  (xNilCheck v0 fun x2 =>
  xAddr (some 6) x2 fun x3 =>
  xLoad (some none) x3 h1 fun x4 =>
  k x4 h1)
  (k (.bool false) h1)
noncomputable abbrev ex40 : Ex := fun args h k => a1 args fun v0 => bd40 v0 h k
set_option maxRecDepth 100000 in
theorem sim40 : SimF Try.prog 40 ex40 := fun args h k hk => by
  obtain ⟨v0, rfl, hk⟩ := a1_ok hk
  exact sim_of (qf := (fun f => [13].contains f)) (Z := zs) (C := [(53, ex53)]) ⟨zerosB_ok zsOk, (exCons (by kernel_rfl) sim53 exNil)⟩ .nil Try.func40 _ h k (Eq.mp (by kernel_rfl : (bd40 v0 h k = true) = (xFn Try.prog (fun f => [13].contains f) zs [(53, ex53)] Try.f40 .nil [v0] h k = true)) hk)

/- (*undercroft/cache.Cache).check -/
noncomputable def bd47 (v0 v1 : CV) (h : CH) (k : CV → CH → Bool) : Bool :=
 xJoin (n := 1) (fun s0 h1 =>
  xIte s0.1
   (k (.int .i64 (.ofNat 1)) h1)
   (xNilCheck v0 fun x2 =>
   xAddr (some 0) x2 fun x3 =>
   xLoad (some none) x3 h1 fun x4 =>
   bd40 x4 h1 fun x5 h2 =>
   xIte x5
    (k (.int .i64 (.ofNat 3)) h2)
    (xJoin (n := 1) (fun s5 h3 =>
     xIte s5.1
      (k (.int .i64 (.ofNat 2)) h3)
      (k (.int .i64 (.ofNat 0)) h3))
    (fun K6 => xBin (some (.int .i64)) .lss v1 (.int .i64 (.ofNat 0)) fun x8 =>
    xIte x8
     (K6 ((.bool true), ()) h2)
     (xNilCheck v0 fun x9 =>
     xAddr (some 0) x9 fun x10 =>
     xLoad (some none) x10 h2 fun x11 =>
     bd52 x11 h2 fun x12 h4 =>
     xBin (some (.int .i64)) .geq v1 x12 fun x13 =>
     K6 (x13, ()) h4)))))
 (fun K13 => xEq (some .ptr) .eql v0 .nilp h fun x15 =>
 xIte x15
  (K13 ((.bool true), ()) h)
  (xNilCheck v0 fun x16 =>
  xAddr (some 0) x16 fun x17 =>
  xLoad (some none) x17 h fun x18 =>
  xEq (some .ptr) .eql x18 .nilp h fun x19 =>
  K13 (x19, ()) h))
noncomputable abbrev ex47 : Ex := fun args h k => a2 args fun v0 v1 => bd47 v0 v1 h k
set_option maxRecDepth 100000 in
theorem sim47 : SimF Try.prog 47 ex47 := fun args h k hk => by
  obtain ⟨v0, v1, rfl, hk⟩ := a2_ok hk
  exact sim_of (qf := (fun f => [13].contains f)) (Z := zs) (C := [(40, ex40), (52, ex52)]) ⟨zerosB_ok zsOk, (exCons (by kernel_rfl) sim40 (exCons (by kernel_rfl) sim52 exNil))⟩ (.seq .nil (.seq (.join [5] [6, 7, 8, 9, 10, 11, 12, 13, 14] .nil (.cond .nil (.seq .nil (.cond .nil (.join [21] [22, 23, 24, 25, 26, 27, 28, 29, 30, 31, 32] .nil .nil))))) .nil)) Try.func47 _ h k (Eq.mp (by kernel_rfl : (bd47 v0 v1 h k = true) = (xFn Try.prog (fun f => [13].contains f) zs [(40, ex40), (52, ex52)] Try.f47 (.seq .nil (.seq (.join [5] [6, 7, 8, 9, 10, 11, 12, 13, 14] .nil (.cond .nil (.seq .nil (.cond .nil (.join [21] [22, 23, 24, 25, 26, 27, 28, 29, 30, 31, 32] .nil .nil))))) .nil)) [v0, v1] h k = true)) hk)

/- (*undercroft/cache.link).leave -/
noncomputable def bd48 (v0 : CV) (h : CH) (k : CV → CH → Bool) : Bool :=
 xNilCheck v0 fun x1 =>
 xAddr (some 1026) x1 fun x2 =>
 xLoad (some none) x2 h fun x3 =>
 xNilCheck v0 fun x4 =>
 xAddr (some 1027) x4 fun x5 =>
 xLoad (some none) x5 h fun x6 =>
 xNilCheck x3 fun x7 =>
 xAddr (some 1027) x7 fun x8 =>
 xStore (some 1) x8 x6 h fun h1 =>
 xNilCheck v0 fun x9 =>
 xAddr (some 1027) x9 fun x10 =>
 xLoad (some none) x10 h1 fun x11 =>
 xNilCheck v0 fun x12 =>
 xAddr (some 1026) x12 fun x13 =>
 xLoad (some none) x13 h1 fun x14 =>
 xNilCheck x11 fun x15 =>
 xAddr (some 1026) x15 fun x16 =>
 xStore (some 1) x16 x14 h1 fun h2 =>
 k (.tup []) h2
noncomputable abbrev ex48 : Ex := fun args h k => a1 args fun v0 => bd48 v0 h k
set_option maxRecDepth 100000 in
theorem sim48 : SimF Try.prog 48 ex48 := fun args h k hk => by
  obtain ⟨v0, rfl, hk⟩ := a1_ok hk
  exact sim_of (qf := (fun f => [13].contains f)) (Z := zs) (C := []) ⟨zerosB_ok zsOk, exNil⟩ .nil Try.func48 _ h k (Eq.mp (by kernel_rfl : (bd48 v0 h k = true) = (xFn Try.prog (fun f => [13].contains f) zs [] Try.f48 .nil [v0] h k = true)) hk)

/- (*undercroft/cache.Cache).room -/
noncomputable def bd50 (v0 : CV) (h : CH) (k : CV → CH → Bool) : Bool :=
 xNilCheck v0 fun x1 =>
 xAddr (some 2) x1 fun x2 =>
 xLoad (some none) x2 h fun x3 =>
 xNilCheck v0 fun x4 =>
 xAddr (some 1) x4 fun x5 =>
 xLoad (some none) x5 h fun x6 =>
 xBin (some (.int .i64)) .geq x3 x6 fun x7 =>
 xIte x7
  (k (.bool false) h)
  (xNilCheck v0 fun x8 =>
  xAddr (some 1031) x8 fun x9 =>
  xLoad (some none) x9 h fun x10 =>
  xMapLen x10 h fun x11 =>
  xNilCheck v0 fun x12 =>
  xAddr (some 1) x12 fun x13 =>
  xLoad (some none) x13 h fun x14 =>
  xBin (some (.int .i64)) .lss x11 x14 fun x15 =>
  xIte x15
   (k (.bool true) h)
   (xNilCheck v0 fun x16 =>
   xAddr (some 3) x16 fun x17 =>
   xAddr (some 1027) x17 fun x18 =>
   xLoad (some none) x18 h fun x19 =>
   xLoop (n := 1) (fun K20 s19 h1 =>
    xNilCheck s19.1 fun x22 =>
    xAddr (some 1025) x22 fun x23 =>
    xLoad (some none) x23 h1 fun x24 =>
    xIte x24
     (xNilCheck s19.1 fun x25 =>
     xAddr (some 1027) x25 fun x26 =>
     xLoad (some none) x26 h1 fun x27 =>
     K20 (x27, ()) h1)
     (bd48 s19.1 h1 fun x28 h2 =>
     xNilCheck v0 fun x29 =>
     xAddr (some 1031) x29 fun x30 =>
     xLoad (some none) x30 h2 fun x31 =>
     xNilCheck s19.1 fun x32 =>
     xAddr (some 0) x32 fun x33 =>
     xLoad (some none) x33 h2 fun x34 =>
     xMapDel (some (3, .int .i64, 26)) x31 x34 h2 fun h3 =>
     k (.bool true) h3)) 1000000 (x19, ()) h))
noncomputable abbrev ex50 : Ex := fun args h k => a1 args fun v0 => bd50 v0 h k
set_option maxRecDepth 100000 in
theorem sim50 : SimF Try.prog 50 ex50 := fun args h k hk => by
  obtain ⟨v0, rfl, hk⟩ := a1_ok hk
  exact sim_of (qf := (fun f => [13].contains f)) (Z := zs) (C := [(48, ex48)]) ⟨zerosB_ok zsOk, (exCons (by kernel_rfl) sim48 exNil)⟩ (.seq .nil (.seq .nil (.seq .nil (.seq .nil (.seq (.loop [3] [28, 29, 30, 31, 32, 33, 34, 35] .nil) .nil))))) Try.func50 _ h k (Eq.mp (by kernel_rfl : (bd50 v0 h k = true) = (xFn Try.prog (fun f => [13].contains f) zs [(48, ex48)] Try.f50 (.seq .nil (.seq .nil (.seq .nil (.seq .nil (.seq (.loop [3] [28, 29, 30, 31, 32, 33, 34, 35] .nil) .nil))))) [v0] h k = true)) hk)

/- (*undercroft/cache.Cache).last -/
noncomputable def bd49 (v0 v1 : CV) (h : CH) (k : CV → CH → Bool) : Bool :=
 xNilCheck v0 fun x1 =>
 xAddr (some 3) x1 fun x2 =>
 xAddr (some 1026) x2 fun x3 =>
 xLoad (some none) x3 h fun x4 =>
 xNilCheck v1 fun x5 =>
 xAddr (some 1026) x5 fun x6 =>
 xStore (some 1) x6 x4 h fun h1 =>
 xNilCheck v0 fun x7 =>
 xAddr (some 3) x7 fun x8 =>
 xNilCheck v1 fun x9 =>
 xAddr (some 1027) x9 fun x10 =>
 xStore (some 1) x10 x8 h1 fun h2 =>
 xNilCheck v1 fun x11 =>
 xAddr (some 1026) x11 fun x12 =>
 xLoad (some none) x12 h2 fun x13 =>
 xNilCheck x13 fun x14 =>
 xAddr (some 1027) x14 fun x15 =>
 xStore (some 1) x15 v1 h2 fun h3 =>
 xNilCheck v0 fun x16 =>
 xAddr (some 3) x16 fun x17 =>
 xAddr (some 1026) x17 fun x18 =>
 xStore (some 1) x18 v1 h3 fun h4 =>
 k (.tup []) h4
noncomputable abbrev ex49 : Ex := fun args h k => a2 args fun v0 v1 => bd49 v0 v1 h k
set_option maxRecDepth 100000 in
theorem sim49 : SimF Try.prog 49 ex49 := fun args h k hk => by
  obtain ⟨v0, v1, rfl, hk⟩ := a2_ok hk
  exact sim_of (qf := (fun f => [13].contains f)) (Z := zs) (C := []) ⟨zerosB_ok zsOk, exNil⟩ .nil Try.func49 _ h k (Eq.mp (by kernel_rfl : (bd49 v0 v1 h k = true) = (xFn Try.prog (fun f => [13].contains f) zs [] Try.f49 .nil [v0, v1] h k = true)) hk)

/- (*undercroft/cache.Cache).Put -/
noncomputable def bd12 (v0 v1 v2 : CV) (h : CH) (k : CV → CH → Bool) : Bool :=
 xBox 25 v2 h fun x1 h1 =>
 bd47 v0 v1 h1 fun x2 h2 =>
 xBin (some (.int .i64)) .neq x2 (.int .i64 (.ofNat 0)) fun x3 =>
 xIte x3
  (k x2 h2)
  (xNilCheck v0 fun x4 =>
  xAddr (some 1031) x4 fun x5 =>
  xLoad (some none) x5 h2 fun x6 =>
  xLookup (some (3, .int .i64, 26)) (some .nilp) true x6 v1 h2 fun x7 =>
  xExtract x7 0 fun x8 =>
  xExtract x7 1 fun x9 =>
  xJoin (n := 1) (fun s9 h3 =>
   xJoin (n := 0) (fun s10 h4 =>
    xLoad (some (some 1024)) x1 h4 fun x12 =>
    xNilCheck s9.1 fun x13 =>
    xAddr (some 1) x13 fun x14 =>
    xStore (some 1024) x14 x12 h4 fun h5 =>
    bd49 v0 s9.1 h5 fun x15 h6 =>
    k (.int .i64 (.ofNat 0)) h6)
   (fun K15 => xNilCheck s9.1 fun x17 =>
   xAddr (some 1025) x17 fun x18 =>
   xLoad (some none) x18 h3 fun x19 =>
   xUn .not x19 fun x20 =>
   xIte x20
    (xNilCheck s9.1 fun x21 =>
    xAddr (some 1025) x21 fun x22 =>
    xStore (some 1) x22 (.bool true) h3 fun h7 =>
    xNilCheck v0 fun x23 =>
    xAddr (some 2) x23 fun x24 =>
    xLoad (some none) x24 h7 fun x25 =>
    xBin (some (.int .i64)) .add x25 (.int .i64 (.ofNat 1)) fun x26 =>
    xNilCheck v0 fun x27 =>
    xAddr (some 2) x27 fun x28 =>
    xStore (some 1) x28 x26 h7 fun h8 =>
    K15 (()) h8)
    (K15 (()) h3)))
  (fun K28 => xIte x9
   (bd48 x8 h2 fun x30 h9 =>
   K28 (x8, ()) h9)
   (bd50 v0 h2 fun x31 h10 =>
   xUn .not x31 fun x32 =>
   xIte x32
    (k (.int .i64 (.ofNat 160)) h10)
    (xBuild (some (.inl [(0, 1), (1, 1024), (1025, 1), (1026, 1), (1027, 1)])) (some (.agg [(.int .i64 (.ofNat 0)), (.bytes 1024 0), (.bool false), .nilp, .nilp])) [(0, v1)] fun x33 =>
    xBox 28 x33 h10 fun x34 h11 =>
    xNilCheck v0 fun x35 =>
    xAddr (some 1031) x35 fun x36 =>
    xLoad (some none) x36 h11 fun x37 =>
    xMapSet (some (3, .int .i64, 26)) x37 v1 x34 h11 fun h12 =>
    K28 (x34, ()) h12))))
noncomputable abbrev ex12 : Ex := fun args h k => a3 args fun v0 v1 v2 => bd12 v0 v1 v2 h k
set_option maxRecDepth 100000 in
theorem sim12 : SimF Try.prog 12 ex12 := fun args h k hk => by
  obtain ⟨v0, v1, v2, rfl, hk⟩ := a3_ok hk
  exact sim_of (qf := (fun f => [13].contains f)) (Z := zs) (C := [(47, ex47), (49, ex49), (48, ex48), (50, ex50)]) ⟨zerosB_ok zsOk, (exCons (by kernel_rfl) sim47 (exCons (by kernel_rfl) sim49 (exCons (by kernel_rfl) sim48 (exCons (by kernel_rfl) sim50 exNil))))⟩ (.seq .nil (.seq .nil (.seq .nil (.join [8] [25, 26, 27, 28, 29, 30, 6, 31, 32, 33, 34, 35, 36, 37, 38, 39] .nil (.join [] [40, 41, 42, 43, 44, 45, 46, 47, 48, 49, 50, 51, 52, 53, 54] .nil .nil))))) Try.func12 _ h k (Eq.mp (by kernel_rfl : (bd12 v0 v1 v2 h k = true) = (xFn Try.prog (fun f => [13].contains f) zs [(47, ex47), (49, ex49), (48, ex48), (50, ex50)] Try.f12 (.seq .nil (.seq .nil (.seq .nil (.join [8] [25, 26, 27, 28, 29, 30, 6, 31, 32, 33, 34, 35, 36, 37, 38, 39] .nil (.join [] [40, 41, 42, 43, 44, 45, 46, 47, 48, 49, 50, 51, 52, 53, 54] .nil .nil))))) [v0, v1, v2] h k = true)) hk)

/- (*undercroft/disk.Disk).check -/
noncomputable def bd56 (v0 : CV) (h : CH) (k : CV → CH → Bool) : Bool :=
 bd53 v0 h fun x1 h1 =>
 xUn .not x1 fun x2 =>
 xIte x2
  (k (.int .i64 (.ofNat 1)) h1)
  (xNilCheck v0 fun x3 =>
  xAddr (some 6) x3 fun x4 =>
  xLoad (some none) x4 h1 fun x5 =>
  xIte x5
   (k (.int .i64 (.ofNat 3)) h1)
   (k (.int .i64 (.ofNat 0)) h1))
noncomputable abbrev ex56 : Ex := fun args h k => a1 args fun v0 => bd56 v0 h k
set_option maxRecDepth 100000 in
theorem sim56 : SimF Try.prog 56 ex56 := fun args h k hk => by
  obtain ⟨v0, rfl, hk⟩ := a1_ok hk
  exact sim_of (qf := (fun f => [13].contains f)) (Z := zs) (C := [(53, ex53)]) ⟨zerosB_ok zsOk, (exCons (by kernel_rfl) sim53 exNil)⟩ .nil Try.func56 _ h k (Eq.mp (by kernel_rfl : (bd56 v0 h k = true) = (xFn Try.prog (fun f => [13].contains f) zs [(53, ex53)] Try.f56 .nil [v0] h k = true)) hk)

/- (*undercroft/disk.Disk).Read -/
noncomputable def bd27 (v0 v1 : CV) (h : CH) (k : CV → CH → Bool) : Bool :=
 xBoxP 25 [(.bytes 1024 0)] h fun x1 h1 =>
 bd56 v0 h1 fun x2 h2 =>
 xBin (some (.int .i64)) .neq x2 (.int .i64 (.ofNat 0)) fun x3 =>
 xIte x3
  (xBuild (some (.inr 1)) (some (.agg [(.bytes 1024 0)])) [] fun x4 =>
  xStore (some 1024) x1 x4 h2 fun h3 =>
  xLoad (some (some 1024)) x1 h3 fun x5 =>
  k (.tup [x5, x2]) h3)
  (xJoin (n := 1) (fun s5 h4 =>
   xIte s5.1
    (xBuild (some (.inr 1)) (some (.agg [(.bytes 1024 0)])) [] fun x7 =>
    xStore (some 1024) x1 x7 h4 fun h5 =>
    xLoad (some (some 1024)) x1 h5 fun x8 =>
    k (.tup [x8, (.int .i64 (.ofNat 2))]) h5)
    (xNilCheck v0 fun x9 =>
    xAddr (some 8) x9 fun x10 =>
    xLoad (some none) x10 h4 fun x11 =>
    xBin (some (.int .i64)) .add x11 (.int .i64 (.ofNat 1)) fun x12 =>
    xNilCheck v0 fun x13 =>
    xAddr (some 8) x13 fun x14 =>
    xStore (some 1) x14 x12 h4 fun h6 =>
    xNilCheck v0 fun x15 =>
    xAddr (some 2) x15 fun x16 =>
    xLoad (some none) x16 h6 fun x17 =>
    xLookup (some (3, .int .i64, 25)) (some (.agg [(.bytes 1024 0)])) true x17 v1 h6 fun x18 =>
    xExtract x18 0 fun x19 =>
    xExtract x18 1 fun x20 =>
    xBoxP 25 [(.bytes 1024 0)] h6 fun x21 h7 =>
    xStore (some 1024) x21 x19 h7 fun h8 =>
    xIte x20
     (xLoad (some (some 1024)) x21 h8 fun x22 =>
     xStore (some 1024) x1 x22 h8 fun h9 =>
     xLoad (some (some 1024)) x1 h9 fun x23 =>
     k (.tup [x23, (.int .i64 (.ofNat 0))]) h9)
     (xNilCheck v0 fun x24 =>
     xAddr (some 1) x24 fun x25 =>
     xLoad (some none) x25 h8 fun x26 =>
     xLookup (some (3, .int .i64, 25)) (some (.agg [(.bytes 1024 0)])) false x26 v1 h8 fun x27 =>
     xBoxP 25 [(.bytes 1024 0)] h8 fun x28 h10 =>
     xStore (some 1024) x28 x27 h10 fun h11 =>
     xLoad (some (some 1024)) x28 h11 fun x29 =>
     xStore (some 1024) x1 x29 h11 fun h12 =>
     xLoad (some (some 1024)) x1 h12 fun x30 =>
     k (.tup [x30, (.int .i64 (.ofNat 0))]) h12)))
  (fun K30 => xBin (some (.int .i64)) .lss v1 (.int .i64 (.ofNat 0)) fun x32 =>
  xIte x32
   (K30 ((.bool true), ()) h2)
   (xNilCheck v0 fun x33 =>
   xAddr (some 0) x33 fun x34 =>
   xLoad (some none) x34 h2 fun x35 =>
   xBin (some (.int .i64)) .geq v1 x35 fun x36 =>
   K30 (x36, ()) h2)))
noncomputable abbrev ex27 : Ex := fun args h k => a2 args fun v0 v1 => bd27 v0 v1 h k
set_option maxRecDepth 100000 in
theorem sim27 : SimF Try.prog 27 ex27 := fun args h k hk => by
  obtain ⟨v0, v1, rfl, hk⟩ := a2_ok hk
  exact sim_of (qf := (fun f => [13].contains f)) (Z := zs) (C := [(56, ex56)]) ⟨zerosB_ok zsOk, (exCons (by kernel_rfl) sim56 exNil)⟩ (.seq .nil (.seq .nil (.seq (.join [25] [16, 17, 18, 19, 20, 21, 22, 23, 24] .nil .nil) .nil))) Try.func27 _ h k (Eq.mp (by kernel_rfl : (bd27 v0 v1 h k = true) = (xFn Try.prog (fun f => [13].contains f) zs [(56, ex56)] Try.f27 (.seq .nil (.seq .nil (.seq (.join [25] [16, 17, 18, 19, 20, 21, 22, 23, 24] .nil .nil) .nil))) [v0, v1] h k = true)) hk)

/- (*undercroft/cache.Cache).Read -/
noncomputable def bd11 (v0 v1 : CV) (h : CH) (k : CV → CH → Bool) : Bool :=
 xBoxP 25 [(.bytes 1024 0)] h fun x1 h1 =>
 bd47 v0 v1 h1 fun x2 h2 =>
 xBin (some (.int .i64)) .neq x2 (.int .i64 (.ofNat 0)) fun x3 =>
 xIte x3
  (xBuild (some (.inr 1)) (some (.agg [(.bytes 1024 0)])) [] fun x4 =>
  xStore (some 1024) x1 x4 h2 fun h3 =>
  xLoad (some (some 1024)) x1 h3 fun x5 =>
  k (.tup [x5, x2]) h3)
  (xNilCheck v0 fun x6 =>
  xAddr (some 1031) x6 fun x7 =>
  xLoad (some none) x7 h2 fun x8 =>
  xLookup (some (3, .int .i64, 26)) (some .nilp) true x8 v1 h2 fun x9 =>
  xExtract x9 0 fun x10 =>
  xExtract x9 1 fun x11 =>
  xIte x11
   (bd48 x10 h2 fun x12 h4 =>
   bd49 v0 x10 h4 fun x13 h5 =>
   xNilCheck x10 fun x14 =>
   xAddr (some 1) x14 fun x15 =>
   xLoad (some (some 1024)) x15 h5 fun x16 =>
   xStore (some 1024) x1 x16 h5 fun h6 =>
   xLoad (some (some 1024)) x1 h6 fun x17 =>
   k (.tup [x17, (.int .i64 (.ofNat 0))]) h6)
   (bd50 v0 h2 fun x18 h7 =>
   xUn .not x18 fun x19 =>
   xIte x19
    (xBuild (some (.inr 1)) (some (.agg [(.bytes 1024 0)])) [] fun x20 =>
    xStore (some 1024) x1 x20 h7 fun h8 =>
    xLoad (some (some 1024)) x1 h8 fun x21 =>
    k (.tup [x21, (.int .i64 (.ofNat 160))]) h8)
    (xNilCheck v0 fun x22 =>
    xAddr (some 0) x22 fun x23 =>
    xLoad (some none) x23 h7 fun x24 =>
    bd27 x24 v1 h7 fun x25 h9 =>
    xExtract x25 0 fun x26 =>
    xExtract x25 1 fun x27 =>
    xBoxP 25 [(.bytes 1024 0)] h9 fun x28 h10 =>
    xStore (some 1024) x28 x26 h10 fun h11 =>
    xBin (some (.int .i64)) .neq x27 (.int .i64 (.ofNat 0)) fun x29 =>
    xIte x29
     (xBuild (some (.inr 1)) (some (.agg [(.bytes 1024 0)])) [] fun x30 =>
     xStore (some 1024) x1 x30 h11 fun h12 =>
     xLoad (some (some 1024)) x1 h12 fun x31 =>
     k (.tup [x31, x27]) h12)
     (xLoad (some (some 1024)) x28 h11 fun x32 =>
     xBuild (some (.inl [(0, 1), (1, 1024), (1025, 1), (1026, 1), (1027, 1)])) (some (.agg [(.int .i64 (.ofNat 0)), (.bytes 1024 0), (.bool false), .nilp, .nilp])) [(0, v1), (1, x32)] fun x33 =>
     xBox 28 x33 h11 fun x34 h13 =>
     xNilCheck v0 fun x35 =>
     xAddr (some 1031) x35 fun x36 =>
     xLoad (some none) x36 h13 fun x37 =>
     xMapSet (some (3, .int .i64, 26)) x37 v1 x34 h13 fun h14 =>
     bd49 v0 x34 h14 fun x38 h15 =>
     xLoad (some (some 1024)) x28 h15 fun x39 =>
     xStore (some 1024) x1 x39 h15 fun h16 =>
     xLoad (some (some 1024)) x1 h16 fun x40 =>
     k (.tup [x40, (.int .i64 (.ofNat 0))]) h16))))
noncomputable abbrev ex11 : Ex := fun args h k => a2 args fun v0 v1 => bd11 v0 v1 h k
set_option maxRecDepth 100000 in
theorem sim11 : SimF Try.prog 11 ex11 := fun args h k hk => by
  obtain ⟨v0, v1, rfl, hk⟩ := a2_ok hk
  exact sim_of (qf := (fun f => [13].contains f)) (Z := zs) (C := [(47, ex47), (48, ex48), (49, ex49), (50, ex50), (27, ex27)]) ⟨zerosB_ok zsOk, (exCons (by kernel_rfl) sim47 (exCons (by kernel_rfl) sim48 (exCons (by kernel_rfl) sim49 (exCons (by kernel_rfl) sim50 (exCons (by kernel_rfl) sim27 exNil)))))⟩ .nil Try.func11 _ h k (Eq.mp (by kernel_rfl : (bd11 v0 v1 h k = true) = (xFn Try.prog (fun f => [13].contains f) zs [(47, ex47), (48, ex48), (49, ex49), (50, ex50), (27, ex27)] Try.f11 .nil [v0, v1] h k = true)) hk)

/- (*undercroft/cache.Cache).Fast -/
noncomputable def bd15 (v0 : CV) (h : CH) (k : CV → CH → Bool) : Bool :=
 xEq (some .ptr) .eql v0 .nilp h fun x1 =>
 xIte x1
  (k (.int .i64 (.ofNat 0)) h)
  (xNilCheck v0 fun x2 =>
  xAddr (some 2) x2 fun x3 =>
  xLoad (some none) x3 h fun x4 =>
  k x4 h)
noncomputable abbrev ex15 : Ex := fun args h k => a1 args fun v0 => bd15 v0 h k
set_option maxRecDepth 100000 in
theorem sim15 : SimF Try.prog 15 ex15 := fun args h k hk => by
  obtain ⟨v0, rfl, hk⟩ := a1_ok hk
  exact sim_of (qf := (fun f => [13].contains f)) (Z := zs) (C := []) ⟨zerosB_ok zsOk, exNil⟩ .nil Try.func15 _ h k (Eq.mp (by kernel_rfl : (bd15 v0 h k = true) = (xFn Try.prog (fun f => [13].contains f) zs [] Try.f15 .nil [v0] h k = true)) hk)

/- (*undercroft/disk.Disk).burn -/
noncomputable def bd58 (v0 : CV) (h : CH) (k : CV → CH → Bool) : Bool :=
 xNilCheck v0 fun x1 =>
 xAddr (some 5) x1 fun x2 =>
 xLoad (some none) x2 h fun x3 =>
 xBin (some (.int .i64)) .eql x3 (.int .i64 (.ofNat 0)) fun x4 =>
 xIte x4
  (xNilCheck v0 fun x5 =>
  xAddr (some 6) x5 fun x6 =>
  xStore (some 1) x6 (.bool true) h fun h1 =>
  k (.bool false) h1)
  (xJoin (n := 0) (fun s6 h2 =>
   xNilCheck v0 fun x8 =>
   xAddr (some 7) x8 fun x9 =>
   xLoad (some none) x9 h2 fun x10 =>
   xBin (some (.int .i64)) .add x10 (.int .i64 (.ofNat 1)) fun x11 =>
   xNilCheck v0 fun x12 =>
   xAddr (some 7) x12 fun x13 =>
   xStore (some 1) x13 x11 h2 fun h3 =>
   k (.bool true) h3)
  (fun K13 => xNilCheck v0 fun x15 =>
  xAddr (some 5) x15 fun x16 =>
  xLoad (some none) x16 h fun x17 =>
  xBin (some (.int .i64)) .gtr x17 (.int .i64 (.ofNat 0)) fun x18 =>
  xIte x18
   (xNilCheck v0 fun x19 =>
   xAddr (some 5) x19 fun x20 =>
   xLoad (some none) x20 h fun x21 =>
   xBin (some (.int .i64)) .sub x21 (.int .i64 (.ofNat 1)) fun x22 =>
   xNilCheck v0 fun x23 =>
   xAddr (some 5) x23 fun x24 =>
   xStore (some 1) x24 x22 h fun h4 =>
   K13 (()) h4)
   (K13 (()) h)))
noncomputable abbrev ex58 : Ex := fun args h k => a1 args fun v0 => bd58 v0 h k
set_option maxRecDepth 100000 in
theorem sim58 : SimF Try.prog 58 ex58 := fun args h k hk => by
  obtain ⟨v0, rfl, hk⟩ := a1_ok hk
  exact sim_of (qf := (fun f => [13].contains f)) (Z := zs) (C := []) ⟨zerosB_ok zsOk, exNil⟩ (.seq .nil (.seq .nil (.join [] [11, 12, 13, 14, 15, 16, 17, 18, 19, 20, 21, 22] .nil .nil))) Try.func58 _ h k (Eq.mp (by kernel_rfl : (bd58 v0 h k = true) = (xFn Try.prog (fun f => [13].contains f) zs [] Try.f58 (.seq .nil (.seq .nil (.join [] [11, 12, 13, 14, 15, 16, 17, 18, 19, 20, 21, 22] .nil .nil))) [v0] h k = true)) hk)

/- (*undercroft/disk.Disk).Write -/
noncomputable def bd51 (v0 v1 v2 : CV) (h : CH) (k : CV → CH → Bool) : Bool :=
 xBox 25 v2 h fun x1 h1 =>
 bd56 v0 h1 fun x2 h2 =>
 xBin (some (.int .i64)) .neq x2 (.int .i64 (.ofNat 0)) fun x3 =>
 xIte x3
  (k x2 h2)
  (xJoin (n := 1) (fun s3 h3 =>
   xIte s3.1
    (k (.int .i64 (.ofNat 2)) h3)
    (bd58 v0 h3 fun x5 h4 =>
    xUn .not x5 fun x6 =>
    xIte x6
     (k (.int .i64 (.ofNat 3)) h4)
     (xNilCheck v0 fun x7 =>
     xAddr (some 3) x7 fun x8 =>
     xLoad (some none) x8 h4 fun x9 =>
     xLoad (some (some 1024)) x1 h4 fun x10 =>
     xBuild (some (.inl [(0, 1), (1, 1024)])) (some (.agg [(.int .i64 (.ofNat 0)), (.bytes 1024 0)])) [(0, v1), (1, x10)] fun x11 =>
     xNewS (some (126, 1025, 1032, false)) (some [(.int .i64 (.ofNat 0)), (.bytes 1024 0)]) 1 [(0, x11)] h4 fun x12 h5 =>
     xApp (some (126, 1025, 1032, false)) x9 x12 h5 fun x13 h6 =>
     xNilCheck v0 fun x14 =>
     xAddr (some 3) x14 fun x15 =>
     xStore (some 1) x15 x13 h6 fun h7 =>
     xNilCheck v0 fun x16 =>
     xAddr (some 2) x16 fun x17 =>
     xLoad (some none) x17 h7 fun x18 =>
     xLoad (some (some 1024)) x1 h7 fun x19 =>
     xMapSet (some (3, .int .i64, 25)) x18 v1 x19 h7 fun h8 =>
     xNilCheck v0 fun x20 =>
     xAddr (some 4) x20 fun x21 =>
     xLoad (some none) x21 h8 fun x22 =>
     xLoad (some (some 1024)) x1 h8 fun x23 =>
     xBuild (some (.inl [(0, 1), (1, 1), (2, 1024)])) (some (.agg [(.bytes 1 0), (.int .i64 (.ofNat 0)), (.bytes 1024 0)])) [(0, (.int .u8 (.ofNat 1))), (1, v1), (2, x23)] fun x24 =>
     xNewS (some (138, 1026, 1040, false)) (some [(.bytes 1 0), (.int .i64 (.ofNat 0)), (.bytes 1024 0)]) 1 [(0, x24)] h8 fun x25 h9 =>
     xApp (some (138, 1026, 1040, false)) x22 x25 h9 fun x26 h10 =>
     xNilCheck v0 fun x27 =>
     xAddr (some 4) x27 fun x28 =>
     xStore (some 1) x28 x26 h10 fun h11 =>
     k (.int .i64 (.ofNat 0)) h11)))
  (fun K28 => xBin (some (.int .i64)) .lss v1 (.int .i64 (.ofNat 0)) fun x30 =>
  xIte x30
   (K28 ((.bool true), ()) h2)
   (xNilCheck v0 fun x31 =>
   xAddr (some 0) x31 fun x32 =>
   xLoad (some none) x32 h2 fun x33 =>
   xBin (some (.int .i64)) .geq v1 x33 fun x34 =>
   K28 (x34, ()) h2)))
noncomputable abbrev ex51 : Ex := fun args h k => a3 args fun v0 v1 v2 => bd51 v0 v1 v2 h k
set_option maxRecDepth 100000 in
theorem sim51 : SimF Try.prog 51 ex51 := fun args h k hk => by
  obtain ⟨v0, v1, v2, rfl, hk⟩ := a3_ok hk
  exact sim_of (qf := (fun f => [13].contains f)) (Z := zs) (C := [(56, ex56), (58, ex58)]) ⟨zerosB_ok zsOk, (exCons (by kernel_rfl) sim56 (exCons (by kernel_rfl) sim58 exNil))⟩ (.seq .nil (.seq .nil (.seq (.join [22] [13, 14, 15, 16, 17, 18, 19, 20, 21] .nil .nil) .nil))) Try.func51 _ h k (Eq.mp (by kernel_rfl : (bd51 v0 v1 v2 h k = true) = (xFn Try.prog (fun f => [13].contains f) zs [(56, ex56), (58, ex58)] Try.f51 (.seq .nil (.seq .nil (.seq (.join [22] [13, 14, 15, 16, 17, 18, 19, 20, 21] .nil .nil) .nil))) [v0, v1, v2] h k = true)) hk)

/- (*undercroft/cache.Cache).Flush -/
noncomputable def bd14 (v0 v1 : CV) (h : CH) (k : CV → CH → Bool) : Bool :=
 bd47 v0 v1 h fun x1 h1 =>
 xBin (some (.int .i64)) .neq x1 (.int .i64 (.ofNat 0)) fun x2 =>
 xIte x2
  (k x1 h1)
  (xNilCheck v0 fun x3 =>
  xAddr (some 1031) x3 fun x4 =>
  xLoad (some none) x4 h1 fun x5 =>
  xLookup (some (3, .int .i64, 26)) (some .nilp) true x5 v1 h1 fun x6 =>
  xExtract x6 0 fun x7 =>
  xExtract x6 1 fun x8 =>
  xJoin (n := 1) (fun s8 h2 =>
   xIte s8.1
    (k (.int .i64 (.ofNat 0)) h2)
    (xNilCheck v0 fun x10 =>
    xAddr (some 0) x10 fun x11 =>
    xLoad (some none) x11 h2 fun x12 =>
    xNilCheck x7 fun x13 =>
    xAddr (some 1) x13 fun x14 =>
    xLoad (some (some 1024)) x14 h2 fun x15 =>
    bd51 x12 v1 x15 h2 fun x16 h3 =>
    xBin (some (.int .i64)) .neq x16 (.int .i64 (.ofNat 0)) fun x17 =>
    xIte x17
     (k x16 h3)
     (xNilCheck x7 fun x18 =>
     xAddr (some 1025) x18 fun x19 =>
     xStore (some 1) x19 (.bool false) h3 fun h4 =>
     xNilCheck v0 fun x20 =>
     xAddr (some 2) x20 fun x21 =>
     xLoad (some none) x21 h4 fun x22 =>
     xBin (some (.int .i64)) .sub x22 (.int .i64 (.ofNat 1)) fun x23 =>
     xNilCheck v0 fun x24 =>
     xAddr (some 2) x24 fun x25 =>
     xStore (some 1) x25 x23 h4 fun h5 =>
     k (.int .i64 (.ofNat 0)) h5)))
  (fun K25 => xUn .not x8 fun x27 =>
  xIte x27
   (K25 ((.bool true), ()) h1)
   (xNilCheck x7 fun x28 =>
   xAddr (some 1025) x28 fun x29 =>
   xLoad (some none) x29 h1 fun x30 =>
   xUn .not x30 fun x31 =>
   K25 (x31, ()) h1)))
noncomputable abbrev ex14 : Ex := fun args h k => a2 args fun v0 v1 => bd14 v0 v1 h k
set_option maxRecDepth 100000 in
theorem sim14 : SimF Try.prog 14 ex14 := fun args h k hk => by
  obtain ⟨v0, v1, rfl, hk⟩ := a2_ok hk
  exact sim_of (qf := (fun f => [13].contains f)) (Z := zs) (C := [(47, ex47), (51, ex51)]) ⟨zerosB_ok zsOk, (exCons (by kernel_rfl) sim47 (exCons (by kernel_rfl) sim51 exNil))⟩ (.seq .nil (.seq .nil (.seq .nil (.seq (.join [32] [24, 25, 26, 27, 28, 29, 30, 31] .nil .nil) .nil)))) Try.func14 _ h k (Eq.mp (by kernel_rfl : (bd14 v0 v1 h k = true) = (xFn Try.prog (fun f => [13].contains f) zs [(47, ex47), (51, ex51)] Try.f14 (.seq .nil (.seq .nil (.seq .nil (.seq (.join [32] [24, 25, 26, 27, 28, 29, 30, 31] .nil .nil) .nil)))) [v0, v1] h k = true)) hk)

/- (*undercroft/cache.Cache).Order -/
noncomputable def bd17 (v0 : CV) (h : CH) (k : CV → CH → Bool) : Bool :=
 xJoin (n := 1) (fun s0 h1 =>
  xIte s0.1
   (k .nils h1)
   (xNilCheck v0 fun x2 =>
   xAddr (some 3) x2 fun x3 =>
   xAddr (some 1027) x3 fun x4 =>
   xLoad (some none) x4 h1 fun x5 =>
   xLoop (n := 2) (fun K6 s5 h2 =>
    xNilCheck v0 fun x8 =>
    xAddr (some 3) x8 fun x9 =>
    xEq (some .ptr) .neq s5.2.1 x9 h2 fun x10 =>
    xIte x10
     (xNilCheck s5.2.1 fun x11 =>
     xAddr (some 0) x11 fun x12 =>
     xLoad (some none) x12 h2 fun x13 =>
     xNewS (some (3, 1, 8, false)) (some [(.int .i64 (.ofNat 0))]) 1 [(0, x13)] h2 fun x14 h3 =>
     xApp (some (3, 1, 8, false)) s5.1 x14 h3 fun x15 h4 =>
     xNilCheck s5.2.1 fun x16 =>
     xAddr (some 1027) x16 fun x17 =>
     xLoad (some none) x17 h4 fun x18 =>
     K6 (x15, x18, ()) h4)
     (k s5.1 h2)) 1000000 (.nils, x5, ()) h1))
 (fun K18 => xEq (some .ptr) .eql v0 .nilp h fun x20 =>
 xIte x20
  (K18 ((.bool true), ()) h)
  (xNilCheck v0 fun x21 =>
  xAddr (some 0) x21 fun x22 =>
  xLoad (some none) x22 h fun x23 =>
  xEq (some .ptr) .eql x23 .nilp h fun x24 =>
  K18 (x24, ()) h))
noncomputable abbrev ex17 : Ex := fun args h k => a1 args fun v0 => bd17 v0 h k
set_option maxRecDepth 100000 in
theorem sim17 : SimF Try.prog 17 ex17 := fun args h k hk => by
  obtain ⟨v0, rfl, hk⟩ := a1_ok hk
  exact sim_of (qf := (fun f => [13].contains f)) (Z := zs) (C := []) ⟨zerosB_ok zsOk, exNil⟩ (.seq .nil (.seq (.join [13] [5, 6, 7, 8, 9, 10, 11, 12] .nil .nil) (.seq .nil (.seq (.seq .nil (.loop [3, 4] [19, 20, 21, 22, 23, 28, 29, 30, 31, 32, 33, 34, 24, 25, 26, 27] .nil)) .nil)))) Try.func17 _ h k (Eq.mp (by kernel_rfl : (bd17 v0 h k = true) = (xFn Try.prog (fun f => [13].contains f) zs [] Try.f17 (.seq .nil (.seq (.join [13] [5, 6, 7, 8, 9, 10, 11, 12] .nil .nil) (.seq .nil (.seq (.seq .nil (.loop [3, 4] [19, 20, 21, 22, 23, 28, 29, 30, 31, 32, 33, 34, 24, 25, 26, 27] .nil)) .nil)))) [v0] h k = true)) hk)

/- undercroft/undercroftlaw06.same -/
noncomputable def bd24 (v0 v1 : CV) (h : CH) (k : CV → CH → Bool) : Bool :=
 xLen (some (.inl false)) v0 fun x1 =>
 xLen (some (.inl false)) v1 fun x2 =>
 xBin (some (.int .i64)) .neq x1 x2 fun x3 =>
 xIte x3
  (k (.bool false) h)
  (xLoop (n := 1) (fun K4 s3 h1 =>
   xLen (some (.inl false)) v0 fun x6 =>
   xBin (some (.int .i64)) .lss s3.1 x6 fun x7 =>
   xIte x7
    (xIdx (some (none, 1)) v0 s3.1 fun x8 =>
    xLoad (some none) x8 h1 fun x9 =>
    xIdx (some (none, 1)) v1 s3.1 fun x10 =>
    xLoad (some none) x10 h1 fun x11 =>
    xBin (some (.int .i64)) .neq x9 x11 fun x12 =>
    xIte x12
     (k (.bool false) h1)
     (xBin (some (.int .i64)) .add s3.1 (.int .i64 (.ofNat 1)) fun x13 =>
     K4 (x13, ()) h1))
    (k (.bool true) h1)) 1000000 ((.int .i64 (.ofNat 0)), ()) h)
noncomputable abbrev ex24 : Ex := fun args h k => a2 args fun v0 v1 => bd24 v0 v1 h k
set_option maxRecDepth 100000 in
theorem sim24 : SimF Try.prog 24 ex24 := fun args h k hk => by
  obtain ⟨v0, v1, rfl, hk⟩ := a2_ok hk
  exact sim_of (qf := (fun f => [13].contains f)) (Z := zs) (C := []) ⟨zerosB_ok zsOk, exNil⟩ (.seq .nil (.seq .nil (.seq (.seq .nil (.loop [5] [11, 12, 13, 14, 17, 18, 19, 20, 21, 22, 23, 24, 25, 4, 15, 16] .nil)) .nil))) Try.func24 _ h k (Eq.mp (by kernel_rfl : (bd24 v0 v1 h k = true) = (xFn Try.prog (fun f => [13].contains f) zs [] Try.f24 (.seq .nil (.seq .nil (.seq (.seq .nil (.loop [5] [11, 12, 13, 14, 17, 18, 19, 20, 21, 22, 23, 24, 25, 4, 15, 16] .nil)) .nil))) [v0, v1] h k = true)) hk)

/- undercroft/undercroftlaw06.awake -/
noncomputable def bd19 (h : CH) (k : CV → CH → Bool) : Bool :=
 bd23 h fun x1 h1 =>
 xExtract x1 0 fun x2 =>
 xExtract x1 1 fun x3 =>
 xExtract x1 2 fun x4 =>
 xUn .not x4 fun x5 =>
 xIte x5
  (k (.bool false) h1)
  (bd13 (.int .u16 (.ofNat 7)) h1 fun x6 h2 =>
  bd12 x3 (.int .i64 (.ofNat 5)) x6 h2 fun x7 h3 =>
  bd11 x3 (.int .i64 (.ofNat 5)) h3 fun x8 h4 =>
  xExtract x8 0 fun x9 =>
  xExtract x8 1 fun x10 =>
  xBoxP 25 [(.bytes 1024 0)] h4 fun x11 h5 =>
  xStore (some 1024) x11 x9 h5 fun h6 =>
  bd27 x2 (.int .i64 (.ofNat 5)) h6 fun x12 h7 =>
  xExtract x12 0 fun x13 =>
  xExtract x12 1 fun x14 =>
  xBoxP 25 [(.bytes 1024 0)] h7 fun x15 h8 =>
  xStore (some 1024) x15 x13 h8 fun h9 =>
  bd15 x3 h9 fun x16 h10 =>
  bd14 x3 (.int .i64 (.ofNat 5)) h10 fun x17 h11 =>
  bd27 x2 (.int .i64 (.ofNat 5)) h11 fun x18 h12 =>
  xExtract x18 0 fun x19 =>
  xExtract x18 1 fun x20 =>
  xBoxP 25 [(.bytes 1024 0)] h12 fun x21 h13 =>
  xStore (some 1024) x21 x19 h13 fun h14 =>
  xBin (some (.int .i64)) .eql x7 (.int .i64 (.ofNat 0)) fun x22 =>
  xIte x22
   (xBin (some (.int .i64)) .eql x10 (.int .i64 (.ofNat 0)) fun x23 =>
   xIte x23
    (xBin (some (.int .i64)) .eql x14 (.int .i64 (.ofNat 0)) fun x24 =>
    xIte x24
     (xBin (some (.int .i64)) .eql x17 (.int .i64 (.ofNat 0)) fun x25 =>
     xIte x25
      (xBin (some (.int .i64)) .eql x20 (.int .i64 (.ofNat 0)) fun x26 =>
      xIte x26
       (xLoad (some (some 1024)) x11 h14 fun x27 =>
       xQuiet (some ex13) [(.int .u16 (.ofNat 7))] h14 fun x28 h15 =>
       xEq (some (.agg (.bytes 1024))) .eql x27 x28 h15 fun x29 =>
       xIte x29
        (xLoad (some (some 1024)) x15 h15 fun x30 =>
        xBuild (some (.inr 1)) (some (.agg [(.bytes 1024 0)])) [] fun x31 =>
        xEq (some (.agg (.bytes 1024))) .eql x30 x31 h15 fun x32 =>
        xIte x32
         (xLoad (some (some 1024)) x21 h15 fun x33 =>
         xQuiet (some ex13) [(.int .u16 (.ofNat 7))] h15 fun x34 h16 =>
         xEq (some (.agg (.bytes 1024))) .eql x33 x34 h16 fun x35 =>
         xIte x35
          (xBin (some (.int .i64)) .eql x16 (.int .i64 (.ofNat 1)) fun x36 =>
          xIte x36
           (bd15 x3 h16 fun x37 h17 =>
           xBin (some (.int .i64)) .eql x37 (.int .i64 (.ofNat 0)) fun x38 =>
           xIte x38
            (both
             (bd17 x3 h17 fun x39 h18 =>
             xNewS (some (3, 1, 8, false)) (some [(.int .i64 (.ofNat 0))]) 1 [(0, (.int .i64 (.ofNat 5)))] h18 fun x40 h19 =>
             bd24 x39 x40 h19 fun x41 h20 =>
             k x41 h20)
             (xNewS (some (3, 1, 8, false)) (some [(.int .i64 (.ofNat 0))]) 1 [(0, (.int .i64 (.ofNat 5)))] h17 fun x42 h21 =>
             bd17 x3 h21 fun x43 h22 =>
             bd24 x43 x42 h22 fun x44 h23 =>
             k x44 h23))
            (both
             (k (.bool false) h17)
             (k (.bool false) h17)))
           (both
            (k (.bool false) h16)
            (k (.bool false) h16)))
          (both
           (k (.bool false) h16)
           (k (.bool false) h16)))
         (both
          (k (.bool false) h15)
          (k (.bool false) h15)))
        (both
         (k (.bool false) h15)
         (k (.bool false) h15)))
       (both
        (k (.bool false) h14)
        (k (.bool false) h14)))
      (both
       (k (.bool false) h14)
       (k (.bool false) h14)))
     (both
      (k (.bool false) h14)
      (k (.bool false) h14)))
    (both
     (k (.bool false) h14)
     (k (.bool false) h14)))
   (both
    (k (.bool false) h14)
    (k (.bool false) h14)))
noncomputable abbrev exg19 : Ex := fun args h k => a0 args (bd19  h k)
set_option maxRecDepth 100000 in
theorem simg19 : SimG Try.prog 19 exg19 := by
  intro args h k hk
  obtain ⟨rfl, hk⟩ := a0_ok hk
  exact simG_of (qf := (fun f => [13].contains f)) (Z := zs) (C := [(23, ex23), (13, ex13), (12, ex12), (11, ex11), (27, ex27), (15, ex15), (14, ex14), (17, ex17), (24, ex24)]) (T := [(10, ⟨[0, 1, 2, 3, 4, 5, 6, 7, 8, 9, 10, 11, 12, 13, 14, 15, 16, 17, 18, 19, 20, 21, 22, 23, 24, 25, 26, 27, 28, 29, 30, 31, 32, 33, 34, 35, 36, 37, 38, 39, 40, 41, 42, 43], 44, 45, [46, 47, 48]⟩)]) ⟨zerosB_ok zsOk, (exCons (by kernel_rfl) sim23 (exCons (by kernel_rfl) sim13 (exCons (by kernel_rfl) sim12 (exCons (by kernel_rfl) sim11 (exCons (by kernel_rfl) sim27 (exCons (by kernel_rfl) sim15 (exCons (by kernel_rfl) sim14 (exCons (by kernel_rfl) sim17 (exCons (by kernel_rfl) sim24 exNil)))))))))⟩ .nil Try.func19 _ h k (Eq.mp (by kernel_rfl : (bd19  h k = true) = (xFnG Try.prog (fun f => [13].contains f) zs [(23, ex23), (13, ex13), (12, ex12), (11, ex11), (27, ex27), (15, ex15), (14, ex14), (17, ex17), (24, ex24)] [(10, ⟨[0, 1, 2, 3, 4, 5, 6, 7, 8, 9, 10, 11, 12, 13, 14, 15, 16, 17, 18, 19, 20, 21, 22, 23, 24, 25, 26, 27, 28, 29, 30, 31, 32, 33, 34, 35, 36, 37, 38, 39, 40, 41, 42, 43], 44, 45, [46, 47, 48]⟩)] Try.f19 .nil [] h k = true)) hk)
theorem ok19 : exg19 [] h0 (fun z _ => isTrue z) = true := by kernel_rfl
noncomputable def ex19 : Ex := exTrue
theorem sim19 : SimF Try.prog 19 ex19 := simTrue fun h => closedG simg19 ok19 h

/- (*undercroft/disk.Disk).Reads -/
noncomputable def bd22 (v0 : CV) (h : CH) (k : CV → CH → Bool) : Bool :=
 bd53 v0 h fun x1 h1 =>
 xUn .not x1 fun x2 =>
 xIte x2
  (k (.int .i64 (.ofNat 0)) h1)
  (xNilCheck v0 fun x3 =>
  xAddr (some 8) x3 fun x4 =>
  xLoad (some none) x4 h1 fun x5 =>
  k x5 h1)
noncomputable abbrev ex22 : Ex := fun args h k => a1 args fun v0 => bd22 v0 h k
set_option maxRecDepth 100000 in
theorem sim22 : SimF Try.prog 22 ex22 := fun args h k hk => by
  obtain ⟨v0, rfl, hk⟩ := a1_ok hk
  exact sim_of (qf := (fun f => [13].contains f)) (Z := zs) (C := [(53, ex53)]) ⟨zerosB_ok zsOk, (exCons (by kernel_rfl) sim53 exNil)⟩ .nil Try.func22 _ h k (Eq.mp (by kernel_rfl : (bd22 v0 h k = true) = (xFn Try.prog (fun f => [13].contains f) zs [(53, ex53)] Try.f22 .nil [v0] h k = true)) hk)

/- (*undercroft/disk.Disk).Made -/
noncomputable def bd25 (v0 : CV) (h : CH) (k : CV → CH → Bool) : Bool :=
 bd53 v0 h fun x1 h1 =>
 xUn .not x1 fun x2 =>
 xIte x2
  (k (.int .i64 (.ofNat 0)) h1)
  (xNilCheck v0 fun x3 =>
  xAddr (some 7) x3 fun x4 =>
  xLoad (some none) x4 h1 fun x5 =>
  k x5 h1)
noncomputable abbrev ex25 : Ex := fun args h k => a1 args fun v0 => bd25 v0 h k
set_option maxRecDepth 100000 in
theorem sim25 : SimF Try.prog 25 ex25 := fun args h k hk => by
  obtain ⟨v0, rfl, hk⟩ := a1_ok hk
  exact sim_of (qf := (fun f => [13].contains f)) (Z := zs) (C := [(53, ex53)]) ⟨zerosB_ok zsOk, (exCons (by kernel_rfl) sim53 exNil)⟩ .nil Try.func25 _ h k (Eq.mp (by kernel_rfl : (bd25 v0 h k = true) = (xFn Try.prog (fun f => [13].contains f) zs [(53, ex53)] Try.f25 .nil [v0] h k = true)) hk)

/- (*undercroft/cache.Cache).Len -/
noncomputable def bd16 (v0 : CV) (h : CH) (k : CV → CH → Bool) : Bool :=
 xEq (some .ptr) .eql v0 .nilp h fun x1 =>
 xIte x1
  (k (.int .i64 (.ofNat 0)) h)
  (xNilCheck v0 fun x2 =>
  xAddr (some 1031) x2 fun x3 =>
  xLoad (some none) x3 h fun x4 =>
  xMapLen x4 h fun x5 =>
  k x5 h)
noncomputable abbrev ex16 : Ex := fun args h k => a1 args fun v0 => bd16 v0 h k
set_option maxRecDepth 100000 in
theorem sim16 : SimF Try.prog 16 ex16 := fun args h k hk => by
  obtain ⟨v0, rfl, hk⟩ := a1_ok hk
  exact sim_of (qf := (fun f => [13].contains f)) (Z := zs) (C := []) ⟨zerosB_ok zsOk, exNil⟩ .nil Try.func16 _ h k (Eq.mp (by kernel_rfl : (bd16 v0 h k = true) = (xFn Try.prog (fun f => [13].contains f) zs [] Try.f16 .nil [v0] h k = true)) hk)

/- undercroft/undercroftlaw06.CacheNames -/
noncomputable def bd5 (h : CH) (k : CV → CH → Bool) : Bool :=
 bd23 h fun x1 h1 =>
 xExtract x1 0 fun x2 =>
 xExtract x1 1 fun x3 =>
 xExtract x1 2 fun x4 =>
 xJoin (n := 1) (fun s4 h2 =>
  xIte s4.1
   (k (.bool false) h2)
   (xNewS (some (3, 1, 8, false)) (some [(.int .i64 (.ofNat 0))]) 4 [(0, (.int .i64 (.ofNat 3))), (1, (.int .i64 (.ofNat 4))), (2, (.int .i64 (.ofNat 3))), (3, (.int .i64 (.ofNat 5)))] h2 fun x6 h3 =>
   xLen (some (.inl false)) x6 fun x7 =>
   xLoop (n := 1) (fun K8 s7 h4 =>
    xBin (some (.int .i64)) .lss s7.1 x7 fun x10 =>
    xIte x10
     (xIdx (some (none, 1)) x6 s7.1 fun x11 =>
     xLoad (some none) x11 h4 fun x12 =>
     bd11 x3 x12 h4 fun x13 h5 =>
     xExtract x13 0 fun x14 =>
     xExtract x13 1 fun x15 =>
     xBoxP 25 [(.bytes 1024 0)] h5 fun x16 h6 =>
     xStore (some 1024) x16 x14 h6 fun h7 =>
     xBin (some (.int .i64)) .neq x15 (.int .i64 (.ofNat 0)) fun x17 =>
     xIte x17
      (k (.bool false) h7)
      (xBin (some (.int .i64)) .add s7.1 (.int .i64 (.ofNat 1)) fun x18 =>
      K8 (x18, ()) h7))
     (xJoin (n := 1) (fun s18 h8 =>
      xIte s18.1
       (k (.bool false) h8)
       (bd11 x3 (.int .i64 (.ofNat 7)) h8 fun x20 h9 =>
       xExtract x20 0 fun x21 =>
       xExtract x20 1 fun x22 =>
       xBoxP 25 [(.bytes 1024 0)] h9 fun x23 h10 =>
       xStore (some 1024) x23 x21 h10 fun h11 =>
       bd13 (.int .u16 (.ofNat 1)) h11 fun x24 h12 =>
       bd12 x3 (.int .i64 (.ofNat 7)) x24 h12 fun x25 h13 =>
       bd11 x3 (.int .i64 (.ofNat 5)) h13 fun x26 h14 =>
       xExtract x26 0 fun x27 =>
       xExtract x26 1 fun x28 =>
       xBoxP 25 [(.bytes 1024 0)] h14 fun x29 h15 =>
       xStore (some 1024) x29 x27 h15 fun h16 =>
       xJoin (n := 1) (fun s29 h17 =>
        xIte s29.1
         (k (.bool false) h17)
         (bd11 x3 (.int .i64 (.ofNat 7)) h17 fun x31 h18 =>
         xExtract x31 0 fun x32 =>
         xExtract x31 1 fun x33 =>
         bd11 x3 (.int .i64 (.negSucc 0)) h18 fun x34 h19 =>
         xExtract x34 0 fun x35 =>
         xExtract x34 1 fun x36 =>
         bd18 x2 (.int .i64 (.ofNat 0)) h19 fun x37 h20 =>
         xExtract x37 0 fun x38 =>
         xExtract x37 1 fun x39 =>
         bd18 x2 (.int .i64 (.ofNat 4097)) h20 fun x40 h21 =>
         xExtract x40 0 fun x41 =>
         xExtract x40 1 fun x42 =>
         bd18 x2 (.int .i64 (.ofNat 4096)) h21 fun x43 h22 =>
         xExtract x43 0 fun x44 =>
         xExtract x43 1 fun x45 =>
         xBin (some (.int .i64)) .eql x33 (.int .i64 (.ofNat 0)) fun x46 =>
         xIte x46
          (xBin (some (.int .i64)) .eql x36 (.int .i64 (.ofNat 2)) fun x47 =>
          xIte x47
           (bd17 x3 h22 fun x48 h23 =>
           xNewS (some (3, 1, 8, false)) (some [(.int .i64 (.ofNat 0))]) 2 [(0, (.int .i64 (.ofNat 5))), (1, (.int .i64 (.ofNat 7)))] h23 fun x49 h24 =>
           bd24 x48 x49 h24 fun x50 h25 =>
           xIte x50
            (bd14 x3 (.int .i64 (.ofNat 9)) h25 fun x51 h26 =>
            xBin (some (.int .i64)) .eql x51 (.int .i64 (.ofNat 0)) fun x52 =>
            xIte x52
             (bd14 x3 (.int .i64 (.ofNat 10)) h26 fun x53 h27 =>
             xBin (some (.int .i64)) .eql x53 (.int .i64 (.ofNat 2)) fun x54 =>
             xIte x54
              (bd25 x2 h27 fun x55 h28 =>
              xBin (some (.int .i64)) .eql x55 (.int .i64 (.ofNat 1)) fun x56 =>
              xIte x56
               (xBin (some (.int .i64)) .eql x39 (.int .i64 (.ofNat 2)) fun x57 =>
               xIte x57
                (xBin (some (.int .i64)) .eql x42 (.int .i64 (.ofNat 2)) fun x58 =>
                xIte x58
                 (xBin (some (.int .i64)) .eql x45 (.int .i64 (.ofNat 0)) fun x59 =>
                 xIte x59
                  (bd16 x44 h28 fun x60 h29 =>
                  xBin (some (.int .i64)) .eql x60 (.int .i64 (.ofNat 0)) fun x61 =>
                  k x61 h29)
                  (k (.bool false) h28))
                 (k (.bool false) h28))
                (k (.bool false) h28))
               (k (.bool false) h28))
              (k (.bool false) h27))
             (k (.bool false) h26))
            (k (.bool false) h25))
           (k (.bool false) h22))
          (k (.bool false) h22)))
       (fun K61 => xBin (some (.int .i64)) .neq x22 (.int .i64 (.ofNat 160)) fun x63 =>
       xIte x63
        (both
         (K61 ((.bool true), ()) h16)
         (K61 ((.bool true), ()) h16))
        (xBin (some (.int .i64)) .neq x25 (.int .i64 (.ofNat 160)) fun x64 =>
        xIte x64
         (both
          (K61 ((.bool true), ()) h16)
          (K61 ((.bool true), ()) h16))
         (xBin (some (.int .i64)) .neq x28 (.int .i64 (.ofNat 0)) fun x65 =>
         xIte x65
          (both
           (K61 ((.bool true), ()) h16)
           (K61 ((.bool true), ()) h16))
          (xLoad (some (some 1024)) x29 h16 fun x66 =>
          xQuiet (some ex13) [(.int .u16 (.ofNat 1))] h16 fun x67 h30 =>
          xEq (some (.agg (.bytes 1024))) .neq x66 x67 h30 fun x68 =>
          xIte x68
           (both
            (K61 ((.bool true), ()) h30)
            (K61 ((.bool true), ()) h30))
           (both
            (bd17 x3 h30 fun x69 h31 =>
            xNewS (some (3, 1, 8, false)) (some [(.int .i64 (.ofNat 0))]) 2 [(0, (.int .i64 (.ofNat 6))), (1, (.int .i64 (.ofNat 5)))] h31 fun x70 h32 =>
            bd24 x69 x70 h32 fun x71 h33 =>
            xUn .not x71 fun x72 =>
            xIte x72
             (K61 ((.bool true), ()) h33)
             (bd14 x3 (.int .i64 (.ofNat 6)) h33 fun x73 h34 =>
             xBin (some (.int .i64)) .neq x73 (.int .i64 (.ofNat 0)) fun x74 =>
             xIte x74
              (K61 ((.bool true), ()) h34)
              (bd25 x2 h34 fun x75 h35 =>
              xBin (some (.int .i64)) .neq x75 (.int .i64 (.ofNat 1)) fun x76 =>
              K61 (x76, ()) h35)))
            (xNewS (some (3, 1, 8, false)) (some [(.int .i64 (.ofNat 0))]) 2 [(0, (.int .i64 (.ofNat 6))), (1, (.int .i64 (.ofNat 5)))] h30 fun x77 h36 =>
            bd17 x3 h36 fun x78 h37 =>
            bd24 x78 x77 h37 fun x79 h38 =>
            xUn .not x79 fun x80 =>
            xIte x80
             (K61 ((.bool true), ()) h38)
             (bd14 x3 (.int .i64 (.ofNat 6)) h38 fun x81 h39 =>
             xBin (some (.int .i64)) .neq x81 (.int .i64 (.ofNat 0)) fun x82 =>
             xIte x82
              (K61 ((.bool true), ()) h39)
              (bd25 x2 h39 fun x83 h40 =>
              xBin (some (.int .i64)) .neq x83 (.int .i64 (.ofNat 1)) fun x84 =>
              K61 (x84, ()) h40))))))))))
     (fun K84 => bd17 x3 h4 fun x86 h41 =>
     xNewS (some (3, 1, 8, false)) (some [(.int .i64 (.ofNat 0))]) 2 [(0, (.int .i64 (.ofNat 3))), (1, (.int .i64 (.ofNat 5)))] h41 fun x87 h42 =>
     bd24 x86 x87 h42 fun x88 h43 =>
     xUn .not x88 fun x89 =>
     xIte x89
      (K84 ((.bool true), ()) h43)
      (bd22 x2 h43 fun x90 h44 =>
      xBin (some (.int .i64)) .neq x90 (.int .i64 (.ofNat 3)) fun x91 =>
      xIte x91
       (K84 ((.bool true), ()) h44)
       (bd13 (.int .u16 (.ofNat 1)) h44 fun x92 h45 =>
       bd12 x3 (.int .i64 (.ofNat 5)) x92 h45 fun x93 h46 =>
       xBin (some (.int .i64)) .neq x93 (.int .i64 (.ofNat 0)) fun x94 =>
       xIte x94
        (K84 ((.bool true), ()) h46)
        (bd13 (.int .u16 (.ofNat 2)) h46 fun x95 h47 =>
        bd12 x3 (.int .i64 (.ofNat 6)) x95 h47 fun x96 h48 =>
        xBin (some (.int .i64)) .neq x96 (.int .i64 (.ofNat 0)) fun x97 =>
        xIte x97
         (K84 ((.bool true), ()) h48)
         (bd17 x3 h48 fun x98 h49 =>
         xNewS (some (3, 1, 8, false)) (some [(.int .i64 (.ofNat 0))]) 2 [(0, (.int .i64 (.ofNat 5))), (1, (.int .i64 (.ofNat 6)))] h49 fun x99 h50 =>
         bd24 x98 x99 h50 fun x100 h51 =>
         xUn .not x100 fun x101 =>
         K84 (x101, ()) h51))))))) 1000000 ((.int .i64 (.ofNat 0)), ()) h3))
 (fun K101 => xUn .not x4 fun x103 =>
 xIte x103
  (K101 ((.bool true), ()) h1)
  (ex19 [] h1 fun x104 h52 =>
  xUn .not x104 fun x105 =>
  K101 (x105, ()) h52))
noncomputable abbrev exg5 : Ex := fun args h k => a0 args (bd5  h k)
set_option maxRecDepth 100000 in
theorem simg5 : SimG Try.prog 5 exg5 := by
  intro args h k hk
  obtain ⟨rfl, hk⟩ := a0_ok hk
  exact simG_of (qf := (fun f => [13].contains f)) (Z := zs) (C := [(23, ex23), (11, ex11), (13, ex13), (12, ex12), (18, ex18), (17, ex17), (24, ex24), (14, ex14), (25, ex25), (16, ex16), (22, ex22), (19, ex19)]) (T := [(16, ⟨[0, 1, 2, 3, 4, 5, 6, 7, 8, 9, 10, 11, 12, 13, 14, 15, 16], 17, 18, [19, 20, 21, 22, 23, 24, 25, 26, 27, 28, 29, 30, 31]⟩)]) ⟨zerosB_ok zsOk, (exCons (by kernel_rfl) sim23 (exCons (by kernel_rfl) sim11 (exCons (by kernel_rfl) sim13 (exCons (by kernel_rfl) sim12 (exCons (by kernel_rfl) sim18 (exCons (by kernel_rfl) sim17 (exCons (by kernel_rfl) sim24 (exCons (by kernel_rfl) sim14 (exCons (by kernel_rfl) sim25 (exCons (by kernel_rfl) sim16 (exCons (by kernel_rfl) sim22 (exCons (by kernel_rfl) sim19 exNil))))))))))))⟩ (.seq .nil (.seq .nil (.seq (.join [31] [24, 25, 26, 27, 28, 29, 30] .nil .nil) (.seq (.seq .nil (.loop [34] [35, 36, 37, 5, 39, 40, 41, 38, 42, 43, 6, 7, 44, 45, 0, 46] .nil)) (.seq (.join [75] [47, 48, 49, 50, 51, 52, 53, 54, 55, 56, 57, 58, 59, 60, 61, 62, 63, 64, 65, 66, 67, 68, 69, 70, 71, 72, 73, 74] .nil .nil) (.seq .nil (.seq .nil (.seq .nil (.seq (.join [120] [89, 90, 91, 92, 93, 94, 95, 96, 97, 98, 99, 100, 101, 102, 103, 104, 105, 106, 107, 108, 109, 110, 111, 112, 113, 114, 115, 116, 117, 118, 119] .nil .nil) .nil))))))))) Try.func5 _ h k (Eq.mp (by kernel_rfl : (bd5  h k = true) = (xFnG Try.prog (fun f => [13].contains f) zs [(23, ex23), (11, ex11), (13, ex13), (12, ex12), (18, ex18), (17, ex17), (24, ex24), (14, ex14), (25, ex25), (16, ex16), (22, ex22), (19, ex19)] [(16, ⟨[0, 1, 2, 3, 4, 5, 6, 7, 8, 9, 10, 11, 12, 13, 14, 15, 16], 17, 18, [19, 20, 21, 22, 23, 24, 25, 26, 27, 28, 29, 30, 31]⟩)] Try.f5 (.seq .nil (.seq .nil (.seq (.join [31] [24, 25, 26, 27, 28, 29, 30] .nil .nil) (.seq (.seq .nil (.loop [34] [35, 36, 37, 5, 39, 40, 41, 38, 42, 43, 6, 7, 44, 45, 0, 46] .nil)) (.seq (.join [75] [47, 48, 49, 50, 51, 52, 53, 54, 55, 56, 57, 58, 59, 60, 61, 62, 63, 64, 65, 66, 67, 68, 69, 70, 71, 72, 73, 74] .nil .nil) (.seq .nil (.seq .nil (.seq .nil (.seq (.join [120] [89, 90, 91, 92, 93, 94, 95, 96, 97, 98, 99, 100, 101, 102, 103, 104, 105, 106, 107, 108, 109, 110, 111, 112, 113, 114, 115, 116, 117, 118, 119] .nil .nil) .nil))))))))) [] h k = true)) hk)
theorem ok5 : exg5 [] h0 (fun z _ => isTrue z) = true := by kernel_rfl
noncomputable def ex5 : Ex := exTrue
theorem sim5 : SimF Try.prog 5 ex5 := simTrue fun h => closedG simg5 ok5 h
end Go.Proofs
