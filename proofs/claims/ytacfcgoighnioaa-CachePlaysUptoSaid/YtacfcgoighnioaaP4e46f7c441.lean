/- Parts of a proof, joined in build order: a calculus of contracts, an executor, contracts of functions. -/
import Derived.Test.YtacfcgoighnioaaP487d9a41f5
import Derived.Test.YtacfcgoighnioaaProg
/- The conditions of functions' bodies, in words, each tied to the program. -/
set_option linter.unusedVariables false
set_option linter.unusedSimpArgs false
namespace Go.Proofs
open Go.Vc

/- (*undercroft/disk.Disk).is -/
def sh46 (v0 : Value) (H : Hp) (R : Value → Hp → Prop) : Prop :=
 Pu (eqXE Try.prog 25 true .neq v0 (.pointer none) H) fun x1 =>
 Ite x1
  (Pu (nilCheckE v0) fun x2 =>
  Pu (addrE (some 0) x2) fun x3 =>
  Pu (loadE (some none) x3 H) fun x4 =>
  Pu (binE (some (.int .i64)) .gtr x4 (.int .i64 0)) fun x5 =>
  R x5 H)
  (R (.bool false) H)
set_option maxRecDepth 100000 in
theorem fn46 {v0 : Value} {H : Hp} {R : Value → Hp → Prop} (h : sh46 v0 H R) : Fc Try.prog 46 #[v0] H R :=
  fn_of_vc (fun f => [].contains f) .nil Try.func46 (args := [v0]) (Eq.mp (by kernel_rfl : sh46 v0 H R = VcFn Try.prog (fun f => [].contains f) Try.f46 .nil [v0] H R) h)

/- (*undercroft/disk.Disk).Len -/
def sh35 (v0 : Value) (H : Hp) (R : Value → Hp → Prop) : Prop :=
 Fc Try.prog 46 #[v0] H fun x1 H1 =>
 Pu (unE .not x1) fun x2 =>
 Ite x2
  (R (.int .i64 0) H1)
  (Pu (nilCheckE v0) fun x3 =>
  Pu (addrE (some 0) x3) fun x4 =>
  Pu (loadE (some none) x4 H1) fun x5 =>
  R x5 H1)
set_option maxRecDepth 100000 in
theorem fn35 {v0 : Value} {H : Hp} {R : Value → Hp → Prop} (h : sh35 v0 H R) : Fc Try.prog 35 #[v0] H R :=
  fn_of_vc (fun f => [].contains f) .nil Try.func35 (args := [v0]) (Eq.mp (by kernel_rfl : sh35 v0 H R = VcFn Try.prog (fun f => [].contains f) Try.f35 .nil [v0] H R) h)

/- (*undercroft/disk.Disk).check -/
def sh38 (v0 : Value) (H : Hp) (R : Value → Hp → Prop) : Prop :=
 Fc Try.prog 46 #[v0] H fun x1 H1 =>
 Pu (unE .not x1) fun x2 =>
 Ite x2
  (R (.int .i64 1) H1)
  (Pu (nilCheckE v0) fun x3 =>
  Pu (addrE (some 6) x3) fun x4 =>
  Pu (loadE (some none) x4 H1) fun x5 =>
  Ite x5
   (R (.int .i64 3) H1)
   (R (.int .i64 0) H1))
set_option maxRecDepth 100000 in
theorem fn38 {v0 : Value} {H : Hp} {R : Value → Hp → Prop} (h : sh38 v0 H R) : Fc Try.prog 38 #[v0] H R :=
  fn_of_vc (fun f => [].contains f) .nil Try.func38 (args := [v0]) (Eq.mp (by kernel_rfl : sh38 v0 H R = VcFn Try.prog (fun f => [].contains f) Try.f38 .nil [v0] H R) h)

/- (*undercroft/disk.Disk).Read -/
def sh32 (v0 v1 : Value) (H : Hp) (R : Value → Hp → Prop) : Prop :=
 Pu (zeroE Try.prog 51) fun x1 => Box 51 x1 H fun x2 H1 =>
 Fc Try.prog 38 #[v0] H1 fun x3 H2 =>
 Pu (binE (some (.int .i64)) .neq x3 (.int .i64 0)) fun x4 =>
 Ite x4
  (Pu (buildE Try.prog 51 []) fun x5 =>
  Pu (storeE (some 1024) x2 x5 H2) fun H3 =>
  Pu (loadE (some (some 1024)) x2 H3) fun x6 =>
  R (.tuple #[x6, x3]) H3)
  (Join (n := 1) (fun s6 H4 => Any fun _ =>
   Ite s6.1
    (Pu (buildE Try.prog 51 []) fun x9 =>
    Pu (storeE (some 1024) x2 x9 H4) fun H5 =>
    Pu (loadE (some (some 1024)) x2 H5) fun x10 =>
    R (.tuple #[x10, (.int .i64 2)]) H5)
    (Pu (nilCheckE v0) fun x11 =>
    Pu (addrE (some 8) x11) fun x12 =>
    Pu (loadE (some none) x12 H4) fun x13 =>
    Pu (binE (some (.int .i64)) .add x13 (.int .i64 1)) fun x14 =>
    Pu (nilCheckE v0) fun x15 =>
    Pu (addrE (some 8) x15) fun x16 =>
    Pu (storeE (some 1) x16 x14 H4) fun H6 =>
    Pu (nilCheckE v0) fun x17 =>
    Pu (addrE (some 2) x17) fun x18 =>
    Pu (loadE (some none) x18 H6) fun x19 =>
    Pu (lookupE Try.prog (some (3, .int .i64, 51)) true x19 v1 H6) fun x20 =>
    Pu (extractE x20 0) fun x21 =>
    Pu (extractE x20 1) fun x22 =>
    Pu (zeroE Try.prog 51) fun x23 => Box 51 x23 H6 fun x24 H7 =>
    Pu (storeE (some 1024) x24 x21 H7) fun H8 =>
    Ite x22
     (Pu (loadE (some (some 1024)) x24 H8) fun x25 =>
     Pu (storeE (some 1024) x2 x25 H8) fun H9 =>
     Pu (loadE (some (some 1024)) x2 H9) fun x26 =>
     R (.tuple #[x26, (.int .i64 0)]) H9)
     (Pu (nilCheckE v0) fun x27 =>
     Pu (addrE (some 1) x27) fun x28 =>
     Pu (loadE (some none) x28 H8) fun x29 =>
     Pu (lookupE Try.prog (some (3, .int .i64, 51)) false x29 v1 H8) fun x30 =>
     Pu (zeroE Try.prog 51) fun x31 => Box 51 x31 H8 fun x32 H10 =>
     Pu (storeE (some 1024) x32 x30 H10) fun H11 =>
     Pu (loadE (some (some 1024)) x32 H11) fun x33 =>
     Pu (storeE (some 1024) x2 x33 H11) fun H12 =>
     Pu (loadE (some (some 1024)) x2 H12) fun x34 =>
     R (.tuple #[x34, (.int .i64 0)]) H12)))
  (fun K34 => Pu (binE (some (.int .i64)) .lss v1 (.int .i64 0)) fun x36 =>
  Ite x36
   (K34 ((.bool true), ()) H2)
   (Pu (nilCheckE v0) fun x37 =>
   Pu (addrE (some 0) x37) fun x38 =>
   Pu (loadE (some none) x38 H2) fun x39 =>
   Pu (binE (some (.int .i64)) .geq v1 x39) fun x40 =>
   K34 (x40, ()) H2)))
set_option maxRecDepth 100000 in
theorem fn32 {v0 v1 : Value} {H : Hp} {R : Value → Hp → Prop} (h : sh32 v0 v1 H R) : Fc Try.prog 32 #[v0, v1] H R :=
  fn_of_vc (fun f => [].contains f) (.seq .nil (.seq .nil (.seq (.join [25] [16, 17, 18, 19, 20, 21, 22, 23, 24] .nil .nil) .nil))) Try.func32 (args := [v0, v1]) (Eq.mp (by kernel_rfl : sh32 v0 v1 H R = VcFn Try.prog (fun f => [].contains f) Try.f32 (.seq .nil (.seq .nil (.seq (.join [25] [16, 17, 18, 19, 20, 21, 22, 23, 24] .nil .nil) .nil))) [v0, v1] H R) h)

/- (*undercroft/disk.Disk).Stopped -/
def sh29 (v0 : Value) (H : Hp) (R : Value → Hp → Prop) : Prop :=
 Fc Try.prog 46 #[v0] H fun x1 H1 =>
 Ite x1
  (Pu (nilCheckE v0) fun x2 =>
  Pu (addrE (some 6) x2) fun x3 =>
  Pu (loadE (some none) x3 H1) fun x4 =>
  R x4 H1)
  (R (.bool false) H1)
set_option maxRecDepth 100000 in
theorem fn29 {v0 : Value} {H : Hp} {R : Value → Hp → Prop} (h : sh29 v0 H R) : Fc Try.prog 29 #[v0] H R :=
  fn_of_vc (fun f => [].contains f) .nil Try.func29 (args := [v0]) (Eq.mp (by kernel_rfl : sh29 v0 H R = VcFn Try.prog (fun f => [].contains f) Try.f29 .nil [v0] H R) h)

/- (*undercroft/disk.Disk).burn -/
def sh39 (v0 : Value) (H : Hp) (R : Value → Hp → Prop) : Prop :=
 Pu (nilCheckE v0) fun x1 =>
 Pu (addrE (some 5) x1) fun x2 =>
 Pu (loadE (some none) x2 H) fun x3 =>
 Pu (binE (some (.int .i64)) .eql x3 (.int .i64 0)) fun x4 =>
 Ite x4
  (Pu (nilCheckE v0) fun x5 =>
  Pu (addrE (some 6) x5) fun x6 =>
  Pu (storeE (some 1) x6 (.bool true) H) fun H1 =>
  R (.bool false) H1)
  (Join (n := 0) (fun s6 H2 => Any fun _ =>
   Pu (nilCheckE v0) fun x8 =>
   Pu (addrE (some 7) x8) fun x9 =>
   Pu (loadE (some none) x9 H2) fun x10 =>
   Pu (binE (some (.int .i64)) .add x10 (.int .i64 1)) fun x11 =>
   Pu (nilCheckE v0) fun x12 =>
   Pu (addrE (some 7) x12) fun x13 =>
   Pu (storeE (some 1) x13 x11 H2) fun H3 =>
   R (.bool true) H3)
  (fun K13 => Pu (nilCheckE v0) fun x15 =>
  Pu (addrE (some 5) x15) fun x16 =>
  Pu (loadE (some none) x16 H) fun x17 =>
  Pu (binE (some (.int .i64)) .gtr x17 (.int .i64 0)) fun x18 =>
  Ite x18
   (Pu (nilCheckE v0) fun x19 =>
   Pu (addrE (some 5) x19) fun x20 =>
   Pu (loadE (some none) x20 H) fun x21 =>
   Pu (binE (some (.int .i64)) .sub x21 (.int .i64 1)) fun x22 =>
   Pu (nilCheckE v0) fun x23 =>
   Pu (addrE (some 5) x23) fun x24 =>
   Pu (storeE (some 1) x24 x22 H) fun H4 =>
   K13 (()) H4)
   (K13 (()) H)))
set_option maxRecDepth 100000 in
theorem fn39 {v0 : Value} {H : Hp} {R : Value → Hp → Prop} (h : sh39 v0 H R) : Fc Try.prog 39 #[v0] H R :=
  fn_of_vc (fun f => [].contains f) (.seq .nil (.seq .nil (.join [] [11, 12, 13, 14, 15, 16, 17, 18, 19, 20, 21, 22] .nil .nil))) Try.func39 (args := [v0]) (Eq.mp (by kernel_rfl : sh39 v0 H R = VcFn Try.prog (fun f => [].contains f) Try.f39 (.seq .nil (.seq .nil (.join [] [11, 12, 13, 14, 15, 16, 17, 18, 19, 20, 21, 22] .nil .nil))) [v0] H R) h)

/- (*undercroft/disk.Disk).Write -/
def sh36 (v0 v1 v2 : Value) (H : Hp) (R : Value → Hp → Prop) : Prop :=
 Box 51 v2 H fun x1 H1 =>
 Fc Try.prog 38 #[v0] H1 fun x2 H2 =>
 Pu (binE (some (.int .i64)) .neq x2 (.int .i64 0)) fun x3 =>
 Ite x3
  (R x2 H2)
  (Join (n := 1) (fun s3 H3 => Any fun _ =>
   Ite s3.1
    (R (.int .i64 2) H3)
    (Fc Try.prog 39 #[v0] H3 fun x6 H4 =>
    Pu (unE .not x6) fun x7 =>
    Ite x7
     (R (.int .i64 3) H4)
     (Pu (nilCheckE v0) fun x8 =>
     Pu (addrE (some 3) x8) fun x9 =>
     Pu (loadE (some none) x9 H4) fun x10 =>
     Pu (loadE (some (some 1024)) x1 H4) fun x11 =>
     Pu (buildE Try.prog 74 [(0, v1), (1, x11)]) fun x12 =>
     ForX true H4 fun H5 =>
     Pu (elemI Try.prog 70) fun x13 => Pu (newSliceE (some x13) 1 [(0, x12)]) fun x14 => NewS x13.type 1 x14 H5 fun x15 H6 =>
     ForX true H6 fun H7 =>
     AppS (elemI Try.prog 70) x10 x15 H7 fun x16 H8 =>
     Pu (nilCheckE v0) fun x17 =>
     Pu (addrE (some 3) x17) fun x18 =>
     ForX true H8 fun H9 =>
     Pu (storeE (some 1) x18 x16 H9) fun H10 =>
     ForX true H10 fun H11 =>
     Pu (nilCheckE v0) fun x19 =>
     Pu (addrE (some 2) x19) fun x20 =>
     Pu (loadE (some none) x20 H11) fun x21 =>
     Pu (loadE (some (some 1024)) x1 H11) fun x22 =>
     Pu (mapSetE (some (3, .int .i64, 51)) x21 v1 x22 H11) fun H12 =>
     Pu (nilCheckE v0) fun x23 =>
     Pu (addrE (some 4) x23) fun x24 =>
     Pu (loadE (some none) x24 H12) fun x25 =>
     Pu (loadE (some (some 1024)) x1 H12) fun x26 =>
     Pu (buildE Try.prog 96 [(0, (.int .u8 1)), (1, v1), (2, x26)]) fun x27 =>
     ForX true H12 fun H13 =>
     Pu (elemI Try.prog 90) fun x28 => Pu (newSliceE (some x28) 1 [(0, x27)]) fun x29 => NewS x28.type 1 x29 H13 fun x30 H14 =>
     ForX true H14 fun H15 =>
     AppS (elemI Try.prog 90) x25 x30 H15 fun x31 H16 =>
     Pu (nilCheckE v0) fun x32 =>
     Pu (addrE (some 4) x32) fun x33 =>
     ForX true H16 fun H17 =>
     Pu (storeE (some 1) x33 x31 H17) fun H18 =>
     ForX true H18 fun H19 =>
     R (.int .i64 0) H19)))
  (fun K33 => Pu (binE (some (.int .i64)) .lss v1 (.int .i64 0)) fun x35 =>
  Ite x35
   (K33 ((.bool true), ()) H2)
   (Pu (nilCheckE v0) fun x36 =>
   Pu (addrE (some 0) x36) fun x37 =>
   Pu (loadE (some none) x37 H2) fun x38 =>
   Pu (binE (some (.int .i64)) .geq v1 x38) fun x39 =>
   K33 (x39, ()) H2)))
set_option maxRecDepth 100000 in
theorem fn36 {v0 v1 v2 : Value} {H : Hp} {R : Value → Hp → Prop} (h : sh36 v0 v1 v2 H R) : Fc Try.prog 36 #[v0, v1, v2] H R :=
  fn_of_vc (fun f => [].contains f) (.seq .nil (.seq .nil (.seq (.join [22] [13, 14, 15, 16, 17, 18, 19, 20, 21] .nil .nil) .nil))) Try.func36 (args := [v0, v1, v2]) (Eq.mp (by kernel_rfl : sh36 v0 v1 v2 H R = VcFn Try.prog (fun f => [].contains f) Try.f36 (.seq .nil (.seq .nil (.seq (.join [22] [13, 14, 15, 16, 17, 18, 19, 20, 21] .nil .nil) .nil))) [v0, v1, v2] H R) h)

/- undercroft/disk.New -/
def sh50 (v0 : Value) (H : Hp) (R : Value → Hp → Prop) : Prop :=
 Join (n := 1) (fun s0 H1 => Any fun _ =>
  Ite s0.1
   (R (.tuple #[(.pointer none), (.int .i64 2)]) H1)
   (NewMap H1 fun x3 H2 =>
   NewMap H2 fun x4 H3 =>
   Pu (buildE Try.prog 92 [(0, v0), (1, x3), (2, x4), (5, (.int .i64 (-1)))]) fun x5 =>
   Box 92 x5 H3 fun x6 H4 =>
   R (.tuple #[x6, (.int .i64 0)]) H4))
 (fun K6 => Pu (binE (some (.int .i64)) .lss v0 (.int .i64 1)) fun x8 =>
 Ite x8
  (K6 ((.bool true), ()) H)
  (Pu (binE (some (.int .i64)) .gtr v0 (.int .i64 1048576)) fun x9 =>
  K6 (x9, ()) H))
set_option maxRecDepth 100000 in
theorem fn50 {v0 : Value} {H : Hp} {R : Value → Hp → Prop} (h : sh50 v0 H R) : Fc Try.prog 50 #[v0] H R :=
  fn_of_vc (fun f => [].contains f) (.seq .nil (.seq (.join [9] [4, 5, 6, 7, 8] .nil .nil) .nil)) Try.func50 (args := [v0]) (Eq.mp (by kernel_rfl : sh50 v0 H R = VcFn Try.prog (fun f => [].contains f) Try.f50 (.seq .nil (.seq (.join [9] [4, 5, 6, 7, 8] .nil .nil) .nil)) [v0] H R) h)

/- undercroft/disk.Load -/
def sh33 (v0 : Value) (H : Hp) (R : Value → Hp → Prop) : Prop :=
 Box 72 v0 H fun x1 H1 =>
 Pu (addrE (some 0) x1) fun x2 =>
 Pu (loadE (some none) x2 H1) fun x3 =>
 Fc Try.prog 50 #[x3] H1 fun x4 H2 =>
 Pu (extractE x4 0) fun x5 =>
 Pu (extractE x4 1) fun x6 =>
 Pu (binE (some (.int .i64)) .neq x6 (.int .i64 0)) fun x7 =>
 Ite x7
  (R (.tuple #[(.pointer none), (.int .i64 4)]) H2)
  (Pu (addrE (some 1) x1) fun x8 =>
  Pu (loadE (some none) x8 H2) fun x9 =>
  Pu (lenE Try.prog 70 x9) fun x10 =>
  LoopP (n := 2) ((.int .i64 (-1)), (.int .i64 0), ()) H2 (fun K11 s10 H3 => Any fun _ =>
   Pu (binE (some (.int .i64)) .lss s10.2.1 x10) fun x13 =>
   Ite x13
    (Pu (idxAddrE (some (none, 1025)) x9 s10.2.1) fun x14 =>
    Pu (loadE (some (some 1025)) x14 H3) fun x15 =>
    Pu (zeroE Try.prog 74) fun x16 => Box 74 x16 H3 fun x17 H4 =>
    Pu (storeE (some 1025) x17 x15 H4) fun H5 =>
    Join (n := 1) (fun s17 H6 => Any fun _ =>
     Ite s17.1
      (R (.tuple #[(.pointer none), (.int .i64 4)]) H6)
      (Pu (nilCheckE x5) fun x20 =>
      Pu (addrE (some 1) x20) fun x21 =>
      Pu (loadE (some none) x21 H6) fun x22 =>
      Pu (addrE (some 0) x17) fun x23 =>
      Pu (loadE (some none) x23 H6) fun x24 =>
      Pu (addrE (some 1) x17) fun x25 =>
      Pu (loadE (some (some 1024)) x25 H6) fun x26 =>
      Pu (mapSetE (some (3, .int .i64, 51)) x22 x24 x26 H6) fun H7 =>
      Pu (addrE (some 0) x17) fun x27 =>
      Pu (loadE (some none) x27 H7) fun x28 =>
      Pu (binE (some (.int .i64)) .add s10.2.1 (.int .i64 1)) fun x29 =>
      K11 (x28, x29, ()) H7))
    (fun K29 => Pu (addrE (some 0) x17) fun x31 =>
    Pu (loadE (some none) x31 H5) fun x32 =>
    Pu (binE (some (.int .i64)) .leq x32 s10.1) fun x33 =>
    Ite x33
     (K29 ((.bool true), ()) H5)
     (Pu (addrE (some 0) x17) fun x34 =>
     Pu (loadE (some none) x34 H5) fun x35 =>
     Pu (addrE (some 0) x1) fun x36 =>
     Pu (loadE (some none) x36 H5) fun x37 =>
     Pu (binE (some (.int .i64)) .geq x35 x37) fun x38 =>
     Ite x38
      (K29 ((.bool true), ()) H5)
      (Pu (addrE (some 1) x17) fun x39 =>
      Pu (loadE (some (some 1024)) x39 H5) fun x40 =>
      Pu (buildE Try.prog 51 []) fun x41 =>
      Pu (eqXE Try.prog 51 false .eql x40 x41 H5) fun x42 =>
      K29 (x42, ()) H5))))
    (R (.tuple #[x5, (.int .i64 0)]) H3)))
set_option maxRecDepth 100000 in
theorem fn33 {v0 : Value} {H : Hp} {R : Value → Hp → Prop} (h : sh33 v0 H R) : Fc Try.prog 33 #[v0] H R :=
  fn_of_vc (fun f => [].contains f) (.seq .nil (.seq .nil (.seq .nil (.seq .nil (.seq (.seq .nil (.loop [6, 20] [21, 22, 23, 8, 24, 25, 26, 27, 28, 29, 30, 31, 32, 33, 34, 35, 36, 37, 38, 39, 40, 2, 3, 41, 42, 43, 44, 45, 46, 47, 48, 49, 50, 51] (.seq .nil (.seq .nil (.seq (.seq .nil (.seq (.join [40] [24, 25, 26, 27, 28, 29, 30, 31, 32, 33, 34, 35, 36, 37, 38, 39] .nil .nil) .nil)) .nil))))) .nil))))) Try.func33 (args := [v0]) (Eq.mp (by kernel_rfl : sh33 v0 H R = VcFn Try.prog (fun f => [].contains f) Try.f33 (.seq .nil (.seq .nil (.seq .nil (.seq .nil (.seq (.seq .nil (.loop [6, 20] [21, 22, 23, 8, 24, 25, 26, 27, 28, 29, 30, 31, 32, 33, 34, 35, 36, 37, 38, 39, 40, 2, 3, 41, 42, 43, 44, 45, 46, 47, 48, 49, 50, 51] (.seq .nil (.seq .nil (.seq (.seq .nil (.seq (.join [40] [24, 25, 26, 27, 28, 29, 30, 31, 32, 33, 34, 35, 36, 37, 38, 39] .nil .nil) .nil)) .nil))))) .nil))))) [v0] H R) h)
end Go.Proofs

/- Fs, part B: the disk: what its memory holds; reads and writes. -/
set_option linter.unusedVariables false
set_option linter.unusedSimpArgs false
namespace Go.Vc
open Go.Proofs

/-- A step that turns what O owns; behind it O' is owned. -/
structure Stp (O O' : Nat → Prop) (H H' : Hp) : Prop where
  kp : Kp O H H'
  new : ∀ b, O' b → O b ∨ H.size ≤ b
theorem Stp.refl (O : Nat → Prop) (H : Hp) : Stp O O H H := ⟨Kp.refl O H, fun b h => .inl h⟩
theorem Stp.trans {O O' O'' : Nat → Prop} {H H' H'' : Hp} (h : Stp O O' H H') (h' : Stp O' O'' H' H'') : Stp O O'' H H'' :=
  ⟨h.kp.tr h'.kp (fun k _ hk => hk) (fun k hk ho => (h.new k ho).resolve_right (by omega)), fun b hb => by
    rcases h'.new b hb with h1 | h1
    · exact h.new b h1
    · exact .inr (Nat.le_trans h.kp.le h1)⟩
theorem Ext.stp {H H' : Hp} (h : Ext H H') (O : Nat → Prop) : Stp O O H H' := ⟨h.kp O, fun b h => .inl h⟩
theorem Kp.stp {O S : Nat → Prop} {H H' : Hp} (h : Kp S H H') (hs : ∀ b, b < H.size → S b → O b) : Stp O O H H' := ⟨h.mono hs, fun b h => .inl h⟩

abbrev Blk := Array Value
def zB : Blk := Array.replicate 1024 (.int .u8 0)
theorem zB_is : IsB zB := isB_zero
theorem zB_size : zB.size = 1024 := by simp [zB]
theorem IsB.ok {c : Blk} (h : IsB c) : cellsOk c := h.all
abbrev ptrV (b : Nat) : Value := .pointer (some ⟨b, 0, none⟩)
def updB (g : Int → Blk) (k : Int) (c : Blk) : Int → Blk := fun j => if j = k then c else g j

/-- A disk's state: what is read, what is held for good; the fuse; how many are pending, how long the history is. -/
structure DS where
  n : Int
  now : Int → Blk
  held : Int → Blk
  fuse : Int
  stopped : Bool
  made : Int
  reads : Int
  claims : Int
  claim : Int
  pl : Nat
  hl : Nat

def dkC (s : DS) (mh ml : Nat) (ps hs : Value) : Array Value := #[.int .i64 s.n, .map (some mh), .map (some ml), ps, hs, .int .i64 s.fuse, .bool s.stopped, .int .i64 s.made, .int .i64 s.reads, .int .i64 s.claims, .int .i64 s.claim]
def heldC (x : Int × Blk) : Array Value := #[.int .i64 x.1] ++ x.2

structure DkC (H : Hp) (p : Nat) (s : DS) (mh ml : Nat) (ps hs : Value) (fh fl : Int → Option Blk) (nh nl : Nat) (pend : List (Int × Blk)) (hist : List (Array Value)) : Prop where
  top : H[p]? = some (.cells (dkC s mh ml ps hs) 92)
  amh : MapAt H mh (fun k => (fh k).map .agg) nh
  aml : MapAt H ml (fun k => (fl k).map .agg) nl
  aps : Sv 74 1025 H ps (pend.map heldC)
  ahs : Sv 96 1026 H hs hist
  df : p ≠ mh ∧ p ≠ ml ∧ mh ≠ ml
  dps : ∀ b, blkOf ps = some b → b ≠ p ∧ b ≠ mh ∧ b ≠ ml ∧ blkOf hs ≠ some b
  dhs : ∀ b, blkOf hs = some b → b ≠ p ∧ b ≠ mh ∧ b ≠ ml
  bh : ∀ k c, fh k = some c → IsB c
  bl : ∀ k c, fl k = some c → IsB c
  bp : ∀ x ∈ pend, IsB x.2
  now : ∀ k, s.now k = (fl k).getD ((fh k).getD zB)
  held : ∀ k, s.held k = (fh k).getD zB
  wait : pend.foldl (fun g x => updB g x.1 x.2) s.held = s.now
  pl : s.pl = pend.length
  hl : s.hl = hist.length
  pos : 0 < s.n

/-- The disk at block p; what it owns is within O. -/
structure DiskAt (H : Hp) (p : Nat) (s : DS) (O : Nat → Prop) : Prop where
  is : ∃ mh ml ps hs fh fl nh nl pend hist, DkC H p s mh ml ps hs fh fl nh nl pend hist ∧ O p ∧ O mh ∧ O ml ∧ (∀ b, blkOf ps = some b → O b) ∧ (∀ b, blkOf hs = some b → O b)
  lt : ∀ b, O b → b < H.size

section
variable {H H' : Hp} {p mh ml nh nl : Nat} {s : DS} {O O' : Nat → Prop} {ps hs : Value} {fh fl : Int → Option Blk} {pend : List (Int × Blk)} {hist : List (Array Value)}
theorem DkC.of (h : DkC H p s mh ml ps hs fh fl nh nl pend hist) (hp : H'[p]? = H[p]?) (h1 : H'[mh]? = H[mh]?) (h2 : H'[ml]? = H[ml]?) (h3 : ∀ b, blkOf ps = some b → H'[b]? = H[b]?) (h4 : ∀ b, blkOf hs = some b → H'[b]? = H[b]?) : DkC H' p s mh ml ps hs fh fl nh nl pend hist :=
  { h with top := by rw [hp]; exact h.top, amh := h.amh.of h1, aml := h.aml.of h2, aps := h.aps.of h3, ahs := h.ahs.of h4 }
theorem DiskAt.of (h : DiskAt H p s O) (hb : ∀ b, O b → H'[b]? = H[b]?) (hle : H.size ≤ H'.size) : DiskAt H' p s O := by
  obtain ⟨⟨mh, ml, ps, hs, fh, fl, nh, nl, pend, hist, hd, o1, o2, o3, o4, o5⟩, hl⟩ := h
  exact ⟨⟨mh, ml, ps, hs, fh, fl, nh, nl, pend, hist, hd.of (hb _ o1) (hb _ o2) (hb _ o3) (fun b e => hb _ (o4 b e)) (fun b e => hb _ (o5 b e)), o1, o2, o3, o4, o5⟩, fun b ho => Nat.lt_of_lt_of_le (hl b ho) hle⟩
theorem DiskAt.ext (h : DiskAt H p s O) (hx : Ext H H') : DiskAt H' p s O := h.of (fun b ho => hx.same b (h.lt b ho)) hx.le
theorem DiskAt.kp {S : Nat → Prop} (h : DiskAt H p s O) (hk : Kp S H H') (hs : ∀ b, O b → ¬ S b) : DiskAt H' p s O := h.of (fun b ho => hk.same b (h.lt b ho) (hs b ho)) hk.le
theorem DiskAt.own (h : DiskAt H p s O) : O p := by
  obtain ⟨⟨mh, ml, ps, hs, fh, fl, nh, nl, pend, hist, hd, o1, _⟩, _⟩ := h; exact o1
theorem DiskAt.ltp (h : DiskAt H p s O) : p < H.size := h.lt p h.own
/-- The numbers alone turn. -/
theorem DkC.turn (h : DkC H p s mh ml ps hs fh fl nh nl pend hist) (hk : Kp (· = p) H H') {s' : DS} (ht : H'[p]? = some (.cells (dkC s' mh ml ps hs) 92)) (hn : s'.n = s.n) (hw : s'.now = s.now) (hh : s'.held = s.held) (hp : s'.pl = s.pl) (hl : s'.hl = s.hl) :
    DkC H' p s' mh ml ps hs fh fl nh nl pend hist := by
  obtain ⟨d1, d2, d3⟩ := h.df
  exact { h with top := ht, amh := h.amh.kp hk (fun e => d1 e.symm), aml := h.aml.kp hk (fun e => d2 e.symm), aps := h.aps.kp hk (fun b e e' => (h.dps b e).1 e'), ahs := h.ahs.kp hk (fun b e e' => (h.dhs b e).1 e'), now := (by rw [hw]; exact h.now), held := (by rw [hh]; exact h.held), wait := (by rw [hh, hw]; exact h.wait), pl := (by rw [hp]; exact h.pl), hl := (by rw [hl]; exact h.hl), pos := (by rw [hn]; exact h.pos) }
theorem DiskAt.now_is (h : DiskAt H p s O) (k : Int) : IsB (s.now k) := by
  obtain ⟨⟨mh, ml, ps, hs, fh, fl, nh, nl, pend, hist, hd, _⟩, _⟩ := h
  rw [hd.now k]
  cases h1 : fl k with
  | some c => exact hd.bl k c h1
  | none =>
    cases h2 : fh k with
    | some c => exact hd.bh k c h2
    | none => exact zB_is
end

theorem undDk : Try.prog.underlying 25 = some (.pointer 92) := by kernel_rfl
theorem eqX_nil {P : Program} {T e : TypeId} {lit : Bool} {H : Hp} (hu : P.underlying T = some (.pointer e)) : eqXE P T lit .eql (.pointer none) (.pointer none) H = some (.bool true) := by
  simp [eqXE, eqE, eqD, hu]
theorem eqX_ptr {P : Program} {T e : TypeId} {lit : Bool} {a : Addr} {H : Hp} (hu : P.underlying T = some (.pointer e)) : eqXE P T lit .eql (.pointer (some a)) (.pointer none) H = some (.bool false) := by
  simp [eqXE, eqE, eqD, hu]
theorem neX_nil {P : Program} {T e : TypeId} {lit : Bool} {H : Hp} (hu : P.underlying T = some (.pointer e)) : eqXE P T lit .neq (.pointer none) (.pointer none) H = some (.bool false) := by
  simp [eqXE, eqE, eqD, hu]
theorem neX_ptr {P : Program} {T e : TypeId} {lit : Bool} {a : Addr} {H : Hp} (hu : P.underlying T = some (.pointer e)) : eqXE P T lit .neq (.pointer (some a)) (.pointer none) H = some (.bool true) := by
  simp [eqXE, eqE, eqD, hu]
set_option maxRecDepth 100000 in
theorem zeroB : zeroE Try.prog 51 = some (.agg zB) := by kernel_rfl
set_option maxRecDepth 100000 in
theorem buildB : buildE Try.prog 51 [] = some (.agg zB) := by kernel_rfl
theorem i64r {k : Nat} {x : Int} (h0 : -9223372036854775808 ≤ x) (h1 : x ≤ 9223372036854775807) : IntKind.i64.wrap x = x := i64wrap_id h0 h1

theorem dk_get {s : DS} {mh ml : Nat} {ps hs : Value} :
    (dkC s mh ml ps hs)[0]? = some (.int .i64 s.n) ∧ (dkC s mh ml ps hs)[1]? = some (.map (some mh)) ∧ (dkC s mh ml ps hs)[2]? = some (.map (some ml)) ∧ (dkC s mh ml ps hs)[3]? = some ps ∧ (dkC s mh ml ps hs)[4]? = some hs ∧
    (dkC s mh ml ps hs)[5]? = some (.int .i64 s.fuse) ∧ (dkC s mh ml ps hs)[6]? = some (.bool s.stopped) ∧ (dkC s mh ml ps hs)[7]? = some (.int .i64 s.made) ∧ (dkC s mh ml ps hs)[8]? = some (.int .i64 s.reads) ∧ (dkC s mh ml ps hs)[9]? = some (.int .i64 s.claims) ∧ (dkC s mh ml ps hs)[10]? = some (.int .i64 s.claim) ∧ (dkC s mh ml ps hs).size = 11 :=
  ⟨rfl, rfl, rfl, rfl, rfl, rfl, rfl, rfl, rfl, rfl, rfl, rfl⟩

section
variable {H : Hp} {p : Nat} {s : DS} {O : Nat → Prop} {R : Value → Hp → Prop}
theorem disk_is (h : DiskAt H p s O) (k : R (.bool true) H) : Fc Try.prog 46 #[ptrV p] H R := by
  obtain ⟨⟨mh, ml, ps, hs, fh, fl, nh, nl, pend, hist, hd, _⟩, _⟩ := h
  refine fn46 ?_
  have hp := hd.pos
  simp only [sh46, neX_ptr undDk, Pu_some, Ite_true, nilCheckE, addr_ptr, Nat.zero_add, load_cell hd.top, dk_get, binE_gtr, decide_eq_true hp]
  exact k
theorem disk_len (h : DiskAt H p s O) (k : R (.int .i64 s.n) H) : Fc Try.prog 35 #[ptrV p] H R := by
  refine fn35 ?_
  refine disk_is h ?_
  obtain ⟨⟨mh, ml, ps, hs, fh, fl, nh, nl, pend, hist, hd, _⟩, _⟩ := h
  simp only [unE_not, Pu_some, Bool.not_true, Ite_false, nilCheckE, addr_ptr, Nat.zero_add, load_cell hd.top, dk_get]
  exact k
theorem disk_check (h : DiskAt H p s O) (k : R (.int .i64 (if s.stopped then 3 else 0)) H) : Fc Try.prog 38 #[ptrV p] H R := by
  refine fn38 ?_
  refine disk_is h ?_
  obtain ⟨⟨mh, ml, ps, hs, fh, fl, nh, nl, pend, hist, hd, _⟩, _⟩ := h
  simp only [unE_not, Pu_some, Bool.not_true, Ite_false, nilCheckE, addr_ptr, Nat.zero_add, load_cell hd.top, dk_get]
  rw [Ite_bool]
  exact ⟨fun e => by simpa [e] using k, fun e => by simpa [e] using k⟩
theorem disk_stopped (h : DiskAt H p s O) (k : R (.bool s.stopped) H) : Fc Try.prog 29 #[ptrV p] H R := by
  refine fn29 ?_
  refine disk_is h ?_
  obtain ⟨⟨mh, ml, ps, hs, fh, fl, nh, nl, pend, hist, hd, _⟩, _⟩ := h
  simp only [Pu_some, Ite_true, nilCheckE, addr_ptr, Nat.zero_add, load_cell hd.top, dk_get]
  exact k
end

/-- A read. -/
def DS.read (s : DS) (at_ : Int) : DS × Blk × Int := if s.stopped then (s, zB, 3) else if at_ < 0 ∨ s.n ≤ at_ then (s, zB, 2) else ({ s with reads := s.reads + 1 }, s.now at_, 0)

/-- The number's test, as it stands in reads and writes. -/
theorem range_join {P : Prop} {n a : Int} {K : Value → Prop} : Ite (.bool (decide (a < 0))) (K (.bool true)) (K (.bool (decide (n ≤ a)))) ↔ K (.bool (decide (a < 0 ∨ n ≤ a))) := by
  by_cases h : a < 0 <;> simp [Ite, h]

section
variable {H : Hp} {p : Nat} {s : DS} {O : Nat → Prop} {R : Value → Hp → Prop}
set_option maxHeartbeats 1000000 in
theorem disk_read (h : DiskAt H p s O) (hr : s.reads < 4611686018427387904 ∧ 0 ≤ s.reads) {a : Int} (k : ∀ H', Stp O O H H' → DiskAt H' p (s.read a).1 O → R (.tuple #[.agg (s.read a).2.1, .int .i64 (s.read a).2.2]) H') :
    Fc Try.prog 32 #[ptrV p, .int .i64 a] H R := by
  refine fn32 ?_
  simp only [sh32, zeroB, Pu_some, Any_const]
  refine box_i fun b H1 hb e1 s1 g1 => ?_
  simp only [cells_agg] at g1
  have h1 := h.ext e1
  have hbO : ¬ O b := fun ho => by have := h.lt b ho; omega
  have hbp : p ≠ b := fun e => hbO (e ▸ h.own)
  refine disk_check h1 ?_
  simp only [binE_neq, Pu_some, Ite_dec]
  have out : ∀ (H2 : Hp) (c : Blk) (e : Int) (s' : DS), Stp O O H1 H2 → DiskAt H2 p s' O → (∃ c0, H2[b]? = some (.cells c0 51) ∧ c0.size = 1024) → IsB c → (s.read a) = (s', c, e) →
      Pu (storeE (some 1024) (.pointer (some ⟨b, 0, none⟩)) (.agg c) H2) fun H3 => Pu (loadE (some (some 1024)) (.pointer (some ⟨b, 0, none⟩)) H3) fun x6 => R (.tuple #[x6, .int .i64 e]) H3 := by
    intro H2 c e s' hs2 hd2 ⟨c0, g2, hc0⟩ hc heq
    refine storeAll_i g2 hc0 hc.size hc.ok fun H3 k3 s3 g3 => ?_
    rw [load_all g3 hc.size, Pu_some]
    have hstp : Stp O O H H3 := by
      have h12 := (e1.stp O).trans hs2
      exact ⟨⟨Nat.le_trans h12.kp.le k3.le, fun j hj hn => by rw [k3.same j (Nat.lt_of_lt_of_le hj h12.kp.le) (by omega)]; exact h12.kp.same j hj hn⟩, fun j hj => .inl hj⟩
    have := k H3 hstp
    rw [heq] at this
    exact this (hd2.kp k3 fun j hj e => hbO (e ▸ hj))
  refine ⟨fun hne => ?_, fun heq => ?_⟩
  · have hst : s.stopped = true := by
      cases hs : s.stopped with
      | true => rfl
      | false => rw [hs] at hne; exact absurd rfl hne
    simp only [buildB, Pu_some]
    rw [hst]
    exact out H1 zB 3 s (Stp.refl O H1) h1 ⟨_, g1, zB_size⟩ zB_is (by simp [DS.read, hst])
  · have hst : s.stopped = false := by
      cases hs : s.stopped with
      | false => rfl
      | true => rw [hs] at heq; exact absurd (show (3 : Int) ≠ 0 by decide) heq
    refine Join.mk (fun x H' => H' = H1 ∧ x.1 = .bool (decide (a < 0 ∨ s.n ≤ a))) ?_ ?_
    · rintro ⟨x, u⟩ H2 ⟨rfl, hx⟩
      simp only at hx
      subst hx
      simp only [Ite_dec]
      refine ⟨fun ho => ?_, fun ho => ?_⟩
      · simp only [buildB, Pu_some]
        exact out _ zB 2 s (Stp.refl O _) h1 ⟨_, g1, zB_size⟩ zB_is (by simp [DS.read, hst, ho])
      · have h10 := h1
        obtain ⟨⟨mh, ml, ps, hs, fh, fl, nh, nl, pend, hist, hd, o1, o2, o3, o4, o5⟩, hlt⟩ := h1
        simp only [nilCheckE, Pu_some, addr_ptr, Nat.zero_add, load_cell hd.top, dk_get, binE_add]
        rw [i64wrap_id (by omega) (by omega)]
        refine store_i (v := .int .i64 (s.reads + 1)) hd.top (by simp [dk_get]) rfl rfl fun H3 k3 s3 g3 => ?_
        have hd3 : DkC H3 p { s with reads := s.reads + 1 } mh ml ps hs fh fl nh nl pend hist := hd.turn k3 g3 rfl rfl rfl rfl rfl
        have hs3 : Stp O O _ H3 := k3.stp fun j _ e => e ▸ o1
        have hD3 : DiskAt H3 p { s with reads := s.reads + 1 } O := ⟨⟨mh, ml, ps, hs, fh, fl, nh, nl, pend, hist, hd3, o1, o2, o3, o4, o5⟩, fun j hj => by rw [s3]; exact hlt j hj⟩
        have gb3 := k3.at g1 (fun e => hbp e.symm)
        simp only [load_cell hd3.top, dk_get, Pu_some]
        have fin : ∀ (H4 : Hp) (c : Blk), Ext H3 H4 → IsB c → c = s.now a → ∀ b4 T4, H4[b4]? = some (.cells c T4) →
            Pu (loadE (some (some 1024)) (.pointer (some ⟨b4, 0, none⟩)) H4) fun x => Pu (storeE (some 1024) (.pointer (some ⟨b, 0, none⟩)) x H4) fun H5 => Pu (loadE (some (some 1024)) (.pointer (some ⟨b, 0, none⟩)) H5) fun x6 => R (.tuple #[x6, .int .i64 0]) H5 := by
          intro H4 c e4 hc hcn b4 T4 g4
          rw [load_all g4 hc.size, Pu_some]
          refine out H4 c 0 { s with reads := s.reads + 1 } (hs3.trans (e4.stp O)) (hD3.ext e4) ⟨_, e4.at gb3, zB_size⟩ hc ?_
          simp only [DS.read, hst, Bool.false_eq_true, if_false, if_neg ho, hcn]
        rw [map_look hd3.aml]
        cases hfl : fl a with
        | some c =>
          have hc := hd.bl a c hfl
          simp only [hfl, Option.map_some, lookO_some, mkOk, if_true, Pu_some, extractE, List.getElem?_toArray, List.getElem?_cons_zero, List.getElem?_cons_succ, zeroB]
          refine box_i fun b4 H4 hb4 e4 s4 g4 => ?_
          simp only [cells_agg] at g4
          refine storeAll_i g4 zB_size hc.size hc.ok fun H5 k5 s5 g5 => ?_
          simp only [Ite_true]
          have e35 : Ext H3 H5 := (e4.kp (· = b4)).trans k5 |>.ext fun k hk e => by omega
          exact fin H5 c e35 hc (by rw [hd.now a, hfl]; rfl) b4 _ g5
        | none =>
          simp only [hfl, Option.map_none, zeroB, lookO_none, mkOk, if_true, Pu_some, extractE, List.getElem?_toArray, List.getElem?_cons_zero, List.getElem?_cons_succ]
          refine box_i fun b4 H4 hb4 e4 s4 g4 => ?_
          simp only [cells_agg] at g4
          refine storeAll_i g4 zB_size zB_size zB_is.ok fun H5 k5 s5 g5 => ?_
          have e35 : Ext H3 H5 := (e4.kp (· = b4)).trans k5 |>.ext fun k hk e => by omega
          have hd5 := (hD3.ext e35)
          simp only [Ite_false]
          have top5 := e35.at hd3.top
          have mh5 := hd3.amh.ext e35
          simp only [load_cell top5, dk_get, Pu_some]
          rw [map_look mh5]
          have hz : ∃ c, IsB c ∧ c = s.now a ∧ lookO false (zeroE Try.prog 51) ((fh a).map Value.agg) = some (.agg c) := by
            rw [hd.now a, hfl]
            cases hfh : fh a with
            | some c => exact ⟨c, hd.bh a c hfh, rfl, rfl⟩
            | none => exact ⟨zB, zB_is, rfl, by rw [zeroB]; rfl⟩
          obtain ⟨c, hc, hcn, he⟩ := hz
          rw [he, Pu_some]
          refine box_i fun b6 H6 hb6 e6 s6 g6 => ?_
          simp only [cells_agg] at g6
          refine storeAll_i g6 zB_size hc.size hc.ok fun H7 k7 s7 g7 => ?_
          have e57 : Ext H5 H7 := (e6.kp (· = b6)).trans k7 |>.ext fun k hk e => by omega
          exact fin H7 c (e35.trans e57) hc hcn b6 _ g7
    · obtain ⟨⟨mh, ml, ps, hs, fh, fl, nh, nl, pend, hist, hd, o1, o2, o3, o4, o5⟩, hlt⟩ := h1
      simp only [binE_lss, Pu_some, Ite_dec, nilCheckE, addr_ptr, Nat.zero_add, load_cell hd.top, dk_get, binE_geq]
      refine ⟨fun h0 => ⟨trivial, by simp [h0]⟩, fun h0 => ⟨trivial, by simp [h0]⟩⟩
end
end Go.Vc

/- Fs, part C: the disk: writes. -/
set_option linter.unusedVariables false
set_option linter.unusedSimpArgs false
namespace Go.Vc
open Go.Proofs

def DS.burn (s : DS) : DS × Bool := if s.fuse = 0 then ({ s with stopped := true }, false) else ({ s with fuse := if 0 < s.fuse then s.fuse - 1 else s.fuse, made := s.made + 1 }, true)
/-- A write. -/
def DS.write (s : DS) (a : Int) (b : Blk) : DS × Int :=
  if s.stopped then (s, 3) else if a < 0 ∨ s.n ≤ a then (s, 2) else
    if s.fuse = 0 then ({ s with stopped := true }, 3) else ({ s.burn.1 with now := updB s.now a b, pl := s.pl + 1, hl := s.hl + 1 }, 0)
/-- The counts are within a bound. -/
structure DS.fit (s : DS) (k : Nat) : Prop where
  made : 0 ≤ s.made ∧ s.made ≤ k
  reads : 0 ≤ s.reads ∧ s.reads ≤ k
  fuse : -1 ≤ s.fuse ∧ s.fuse ≤ 9223372036854775807
  pl : s.pl ≤ k
  hl : s.hl ≤ k
theorem DS.fit.mono {s : DS} {k k' : Nat} (h : s.fit k) (hk : k ≤ k') : s.fit k' := by
  obtain ⟨h1, h2, h3, h4, h5⟩ := h
  exact ⟨by omega, by omega, h3, by omega, by omega⟩

section
variable {H : Hp} {p : Nat} {s : DS} {O : Nat → Prop} {R : Value → Hp → Prop}
theorem DS.read_fit {k : Nat} (h : s.fit k) (a : Int) : (s.read a).1.fit (k + 1) := by
  have h0 := h.mono (Nat.le_succ k)
  obtain ⟨h1, h2, h3, h4, h5⟩ := h
  unfold DS.read
  split
  · exact h0
  · split
    · exact h0
    · exact ⟨by simp only; omega, by simp only; omega, h3, by simp only; omega, by simp only; omega⟩
theorem DS.write_fit {k : Nat} (h : s.fit k) (a : Int) (b : Blk) : (s.write a b).1.fit (k + 1) := by
  have h0 := h.mono (Nat.le_succ k)
  obtain ⟨h1, h2, h3, h4, h5⟩ := h
  unfold DS.write DS.burn
  split
  · exact h0
  · split
    · exact h0
    · split
      · exact ⟨h0.made, h0.reads, h3, h0.pl, h0.hl⟩
      · refine ⟨by simp only; omega, by simp only; omega, ?_, by simp only; omega, by simp only; omega⟩
        simp only
        split <;> omega

/-- burn: the numbers alone turn. -/
theorem disk_burn {mh ml nh nl : Nat} {ps hs : Value} {fh fl : Int → Option Blk} {pend : List (Int × Blk)} {hist : List (Array Value)} (hd : DkC H p s mh ml ps hs fh fl nh nl pend hist) (hm : -9223372036854775808 ≤ s.made ∧ s.made < 9223372036854775807) (hf : -1 ≤ s.fuse ∧ s.fuse ≤ 9223372036854775807)
    (k : ∀ H', Kp (· = p) H H' → H'.size = H.size → DkC H' p s.burn.1 mh ml ps hs fh fl nh nl pend hist → R (.bool s.burn.2) H') : Fc Try.prog 39 #[ptrV p] H R := by
  refine fn39 ?_
  simp only [sh39, nilCheckE, Pu_some, addr_ptr, Nat.zero_add, load_cell hd.top, dk_get, binE_eql, Ite_dec, Any_const]
  refine ⟨fun h0 => ?_, fun h0 => ?_⟩
  · refine store_i (v := .bool true) hd.top (by simp [dk_get]) rfl rfl fun H3 k3 s3 g3 => ?_
    have hd3 : DkC H3 p { s with stopped := true } mh ml ps hs fh fl nh nl pend hist := hd.turn k3 g3 rfl rfl rfl rfl rfl
    have := k H3 k3 s3
    rw [show s.burn = ({ s with stopped := true }, false) by simp [DS.burn, h0]] at this
    exact this hd3
  · have hb : s.burn = ({ s with fuse := if 0 < s.fuse then s.fuse - 1 else s.fuse, made := s.made + 1 }, true) := by simp [DS.burn, h0]
    refine Join.mk (fun x H' => Kp (· = p) H H' ∧ H'.size = H.size ∧ DkC H' p { s with fuse := if 0 < s.fuse then s.fuse - 1 else s.fuse } mh ml ps hs fh fl nh nl pend hist) ?_ ?_
    · rintro x H2 ⟨k2, s2, hd2⟩
      simp only [load_cell hd2.top, dk_get, Pu_some, binE_add]
      rw [i64wrap_id (by omega) (by omega)]
      refine store_i (v := .int .i64 (s.made + 1)) hd2.top (by simp [dk_get]) rfl rfl fun H3 k3 s3 g3 => ?_
      have hd3 : DkC H3 p { s with fuse := if 0 < s.fuse then s.fuse - 1 else s.fuse, made := s.made + 1 } mh ml ps hs fh fl nh nl pend hist := hd2.turn k3 g3 rfl rfl rfl rfl rfl
      have := k H3 (k2.trans k3) (s3.trans s2)
      rw [hb] at this
      exact this hd3
    · simp only [binE_gtr, Pu_some, Ite_dec, binE_sub]
      refine ⟨fun hgt => ?_, fun hle => ?_⟩
      · rw [i64wrap_id (by omega) (by omega)]
        refine store_i (v := .int .i64 (s.fuse - 1)) hd.top (by simp [dk_get]) rfl rfl fun H3 k3 s3 g3 => ?_
        refine ⟨k3, s3, hd.turn k3 ?_ rfl rfl rfl rfl rfl⟩
        rw [if_pos hgt]; exact g3
      · refine ⟨Kp.refl _ _, trivial, ?_⟩
        rw [if_neg hle]; exact hd

theorem heldC_size {x : Int × Blk} (h : IsB x.2) : (heldC x).size = 1025 := by simp [heldC, h.size]
theorem heldC_ok {x : Int × Blk} (h : IsB x.2) : cellsOk (heldC x) := by
  have := h.all
  unfold cellsOk heldC
  rw [Array.all_append, this]
  simp [Value.oneCell']
def opW (a : Int) (b : Blk) : Array Value := #[.int .u8 1, .int .i64 a] ++ b
theorem opW_size {a : Int} {b : Blk} (h : IsB b) : (opW a b).size = 1026 := by simp [opW, h.size]
theorem opW_ok {a : Int} {b : Blk} (h : IsB b) : cellsOk (opW a b) := by
  have := h.all
  unfold cellsOk opW
  rw [Array.all_append, this]
  simp [Value.oneCell']
def orE : Option ElemI → ElemI
  | some e => e
  | none => ⟨0, 0, 0, #[]⟩
noncomputable def eHeld : ElemI := orE (elemI Try.prog 70)
noncomputable def eOp : ElemI := orE (elemI Try.prog 90)
set_option maxRecDepth 100000 in
theorem elHeld : elemI Try.prog 70 = some eHeld := by kernel_rfl
set_option maxRecDepth 100000 in
theorem elOp : elemI Try.prog 90 = some eOp := by kernel_rfl
set_option maxRecDepth 100000 in
theorem eHeld_f : eHeld.type = 74 ∧ eHeld.size = 1025 ∧ eHeld.zero.size = 1025 ∧ eHeld.bytes = 1032 := ⟨by kernel_rfl, by kernel_rfl, by kernel_rfl, by kernel_rfl⟩
set_option maxRecDepth 100000 in
theorem eOp_f : eOp.type = 96 ∧ eOp.size = 1026 ∧ eOp.zero.size = 1026 ∧ eOp.bytes = 1040 := ⟨by kernel_rfl, by kernel_rfl, by kernel_rfl, by kernel_rfl⟩
theorem newS_one {e : ElemI} {v : Value} (h0 : 0 < e.size) (h1 : e.size ≤ 2 ^ 24) (hz : v.cells.size = e.size) : newSliceE (some e) 1 [(0, v)] = some v.cells := by
  unfold newSliceE
  simp only
  rw [if_neg (by omega)]
  have : ∀ (A : Array Value), A.size = e.size → Instr.fill (fun i => some (i * e.size, e.size)) A [(0, v)] = some v.cells := by
    intro A hA
    unfold Instr.fill
    have hcond : (decide (v.cells.size ≠ e.size) || decide (0 * e.size + v.cells.size > A.size)) = false := by
      rw [decide_eq_false (fun hne => hne hz), decide_eq_false (by omega)]; rfl
    simp only
    rw [if_neg (by rw [hcond]; decide)]
    unfold Instr.fill
    rw [fold_splice (by omega), Nat.zero_mul, splice_all (by omega)]
  exact this _ (by simp)
end
def aggOf : Option Value → Array Value
  | some (.agg c) => c
  | _ => #[]
noncomputable def zHeld : Array Value := aggOf (zeroE Try.prog 74)
noncomputable def zOp : Array Value := aggOf (zeroE Try.prog 96)
set_option maxRecDepth 100000 in
theorem zeroHeld : zeroE Try.prog 74 = some (.agg zHeld) := by kernel_rfl
set_option maxRecDepth 100000 in
theorem zeroOp : zeroE Try.prog 96 = some (.agg zOp) := by kernel_rfl
set_option maxRecDepth 100000 in
theorem zHeld_size : zHeld.size = 1025 := by kernel_rfl
set_option maxRecDepth 100000 in
theorem zOp_size : zOp.size = 1026 := by kernel_rfl
set_option maxRecDepth 100000 in
theorem plHeld : placesE Try.prog 74 = some [(0, 1), (1, 1024)] := by kernel_rfl
set_option maxRecDepth 100000 in
theorem plOp : placesE Try.prog 96 = some [(0, 1), (1, 1), (2, 1024)] := by kernel_rfl
theorem fillS_cons {pl : List (Nat × Nat)} {c c' : Array Value} {i off size : Nat} {v : Value} {rest : List (Nat × Value)} (hp : pl[i]? = some (off, size)) (hs : v.cells.size = size) (ho : off + size ≤ c.size) (h : fillS pl (splice c off v.cells) rest = some c') : fillS pl c ((i, v) :: rest) = some c' := by
  unfold fillS
  rw [hp]
  simp only
  rw [if_pos ⟨hs, ho⟩]
  exact h
theorem build_held {a : Int} {c : Blk} (hc : IsB c) : buildE Try.prog 74 [(0, .int .i64 a), (1, .agg c)] = some (.agg (heldC (a, c))) := by
  refine build_struct zeroHeld plHeld ?_
  refine fillS_cons rfl rfl (by rw [zHeld_size]; omega) ?_
  refine fillS_cons rfl hc.size (by rw [splice_size (by rw [zHeld_size]; simp [cells_int]), zHeld_size]; omega) ?_
  unfold fillS
  rw [Option.some.injEq]
  apply Array.ext_getElem?
  intro j
  have h1 : (splice zHeld 0 (Value.int .i64 a).cells).size = 1025 := by rw [splice_size (by rw [zHeld_size]; simp [cells_int]), zHeld_size]
  rw [cells_agg, splice_get (by rw [h1, hc.size]; omega), splice_get (by rw [zHeld_size]; simp [cells_int])]
  simp only [cells_int, heldC]
  by_cases h0 : j < 1
  · have : j = 0 := by omega
    subst this; simp [Array.getElem?_append]
  · rw [if_neg h0, Array.getElem?_append_right (by simp; omega)]
    by_cases h2 : j < 1 + c.size
    · rw [if_pos h2]; rfl
    · rw [if_neg h2]
      simp only [List.size_toArray, List.length_cons, List.length_nil]
      rw [if_neg (by omega), if_neg (by omega), Array.getElem?_eq_none (by rw [zHeld_size]; rw [hc.size] at h2; omega), Array.getElem?_eq_none (by omega)]
theorem build_op {a : Int} {c : Blk} (hc : IsB c) : buildE Try.prog 96 [(0, .int .u8 1), (1, .int .i64 a), (2, .agg c)] = some (.agg (opW a c)) := by
  refine build_struct zeroOp plOp ?_
  have s1 : (splice zOp 0 (Value.int .u8 1).cells).size = 1026 := by rw [splice_size (by rw [zOp_size]; simp [cells_int]), zOp_size]
  have s2 : (splice (splice zOp 0 (Value.int .u8 1).cells) 1 (Value.int .i64 a).cells).size = 1026 := by rw [splice_size (by rw [s1]; simp [cells_int]), s1]
  refine fillS_cons rfl rfl (by rw [zOp_size]; omega) ?_
  refine fillS_cons rfl rfl (by rw [s1]; omega) ?_
  refine fillS_cons rfl hc.size (by rw [s2]; omega) ?_
  unfold fillS
  rw [Option.some.injEq]
  apply Array.ext_getElem?
  intro j
  rw [cells_agg, splice_get (by rw [s2, hc.size]; omega), splice_get (by rw [s1]; simp [cells_int]), splice_get (by rw [zOp_size]; simp [cells_int])]
  simp only [cells_int, opW]
  by_cases h0 : j < 2
  · rcases (by omega : j = 0 ∨ j = 1) with rfl | rfl <;> simp [Array.getElem?_append]
  · rw [if_neg h0, Array.getElem?_append_right (by simp; omega)]
    by_cases h2 : j < 2 + c.size
    · rw [if_pos h2]; rfl
    · rw [if_neg h2]
      simp only [List.size_toArray, List.length_cons, List.length_nil]
      rw [if_neg (by omega), if_neg (by omega), if_neg (by omega), if_neg (by omega), Array.getElem?_eq_none (by rw [zOp_size]; rw [hc.size] at h2; omega), Array.getElem?_eq_none (by omega)]

theorem DkC.ext {H H' : Hp} {p mh ml nh nl : Nat} {s : DS} {ps hs : Value} {fh fl : Int → Option Blk} {pend : List (Int × Blk)} {hist : List (Array Value)} (h : DkC H p s mh ml ps hs fh fl nh nl pend hist) (hx : Ext H H') : DkC H' p s mh ml ps hs fh fl nh nl pend hist :=
  { h with top := hx.at h.top, amh := h.amh.ext hx, aml := h.aml.ext hx, aps := h.aps.ext hx, ahs := h.ahs.ext hx }
theorem foldl_snoc {s : DS} {pend : List (Int × Blk)} {a : Int} {c : Blk} (h : pend.foldl (fun g x => updB g x.1 x.2) s.held = s.now) : (pend ++ [(a, c)]).foldl (fun g x => updB g x.1 x.2) s.held = updB s.now a c := by
  rw [List.foldl_append, h]; rfl

section
variable {H : Hp} {p : Nat} {s : DS} {O : Nat → Prop} {R : Value → Hp → Prop}
set_option maxHeartbeats 2000000 in
theorem disk_write (h : DiskAt H p s O) {k : Nat} (hf : s.fit k) (hk : k < 100000000000) {a : Int} {c : Blk} (hc : IsB c)
    (kk : ∀ H' O', Stp O O' H H' → DiskAt H' p (s.write a c).1 O' → R (.int .i64 (s.write a c).2) H') : Fc Try.prog 36 #[ptrV p, .int .i64 a, .agg c] H R := by
  obtain ⟨hm, hr, hfu, hpl, hhl⟩ := hf
  refine fn36 ?_
  simp only [sh36, Any_const]
  refine box_i fun b H1 hb e1 s1 g1 => ?_
  simp only [cells_agg] at g1
  have h1 := h.ext e1
  have hbO : ¬ O b := fun ho => by have := h.lt b ho; omega
  have hbp : p ≠ b := fun e => hbO (e ▸ h.own)
  refine disk_check h1 ?_
  simp only [binE_neq, Pu_some, Ite_dec]
  refine ⟨fun hne => ?_, fun heq => ?_⟩
  · have hst : s.stopped = true := by
      cases hs : s.stopped with
      | true => rfl
      | false => rw [hs] at hne; exact absurd rfl hne
    have hw : s.write a c = (s, 3) := by simp [DS.write, hst]
    have := kk H1 O (e1.stp O)
    rw [hw] at this
    rw [hst]; exact this h1
  · have hst : s.stopped = false := by
      cases hs : s.stopped with
      | false => rfl
      | true => rw [hs] at heq; exact absurd (show (3 : Int) ≠ 0 by decide) heq
    refine Join.mk (fun x H' => H' = H1 ∧ x.1 = .bool (decide (a < 0 ∨ s.n ≤ a))) ?_ ?_
    · rintro ⟨x, u⟩ H2 ⟨rfl, hx⟩
      simp only at hx
      subst hx
      simp only [Ite_dec]
      refine ⟨fun ho => ?_, fun ho => ?_⟩
      · have hw : s.write a c = (s, 2) := by simp [DS.write, hst, ho]
        have := kk _ O (e1.stp O)
        rw [hw] at this
        exact this h1
      · obtain ⟨⟨mh, ml, ps, hs, fh, fl, nh, nl, pend, hist, hd, o1, o2, o3, o4, o5⟩, hlt⟩ := h1
        refine disk_burn hd (by omega) hfu fun H3 k3 s3 hd3 => ?_
        have st3 : Stp O O H H3 := (e1.stp O).trans (k3.stp fun j _ e => e ▸ o1)
        have gb3 := k3.at g1 (fun e => hbp e.symm)
        by_cases hz : s.fuse = 0
        · have hb2 : s.burn = ({ s with stopped := true }, false) := by simp [DS.burn, hz]
          rw [hb2] at hd3 ⊢
          simp only [unE_not, Pu_some, Bool.not_false, Ite_true]
          have hw : s.write a c = ({ s with stopped := true }, 3) := by simp only [DS.write, hst, Bool.false_eq_true, if_false, if_neg ho, hz, if_true]
          have := kk H3 O st3
          rw [hw] at this
          exact this ⟨⟨mh, ml, ps, hs, fh, fl, nh, nl, pend, hist, hd3, o1, o2, o3, o4, o5⟩, fun j hj => by rw [s3]; exact hlt j hj⟩
        · have hb2 : s.burn.2 = true := by simp [DS.burn, hz]
          have hw : s.write a c = ({ s.burn.1 with now := updB s.now a c, pl := s.pl + 1, hl := s.hl + 1 }, 0) := by simp only [DS.write, hst, Bool.false_eq_true, if_false, if_neg ho, if_neg hz]
          have hpl3 : pend.length = s.pl := hd.pl.symm
          have hhl3 : hist.length = s.hl := hd.hl.symm
          rw [hb2]
          simp only [unE_not, Pu_some, Bool.not_true, Ite_false, nilCheckE, addr_ptr, Nat.zero_add, load_cell hd3.top, dk_get, load_all gb3 hc.size, build_held hc, elHeld, ForX_true]
          refine fun H5 e5 => ?_
          have q1 := eHeld_f
          have q2 := eOp_f
          obtain ⟨d1, d2, d3⟩ := hd.df
          rw [newS_one (by rw [q1.2.1]; decide) (by rw [q1.2.1]; decide) (by rw [cells_agg, heldC_size hc, q1.2.1]), Pu_some]
          refine newS_i fun b6 H6 hb6 e6 s6 g6 => ?_
          intro H7 e7
          have x37 := e5.trans (e6.trans e7)
          have hd7 := hd3.ext x37
          have st7 := st3.trans (x37.stp O)
          refine app_many (us := [heldC (a, c)]) q1.1 q1.2.1 q1.2.2.1 (by rw [q1.2.2.2]; decide) hd7.aps (Sv.single (e7.at g6) (heldC_size hc)) (by simpa using heldC_ok hc) (by
            rw [q1.2.2.2, List.length_map]; simp only [List.length_cons, List.length_nil]; omega) fun ps' H8 hs8 k8 hn8 => ?_
          have st8 := st7.trans (k8.stp fun j _ e => o4 j e)
          have top8 := k8.at hd7.top (fun e => (hd.dps p e).1 rfl)
          have mh8 := hd7.amh.kp k8 (fun e => (hd.dps mh e).2.1 rfl)
          have ml8 := hd7.aml.kp k8 (fun e => (hd.dps ml e).2.2.1 rfl)
          have ah8 := hd7.ahs.kp k8 (fun j e e' => (hd.dps j e').2.2.2 e)
          have gb8 := k8.at (x37.at gb3) (fun e => hbO (o4 b e))
          intro H9 e9
          have np' : ∀ j, blkOf ps' = some j → j ≠ p ∧ j ≠ mh ∧ j ≠ ml ∧ blkOf hs ≠ some j ∧ j ≠ b := fun j e => by
            rcases hn8 j e with h1 | h1
            · have h2 := hd.dps j h1; exact ⟨h2.1, h2.2.1, h2.2.2.1, h2.2.2.2, fun e => hbO (e ▸ o4 j h1)⟩
            · have l1 := lt_of_block hd7.top
              have l2 := hd7.amh.lt
              have l3 := hd7.aml.lt
              have l5 := lt_of_block (x37.at gb3)
              exact ⟨by omega, by omega, by omega, fun e => by have := hd7.ahs.lt e; omega, by omega⟩
          refine store_i (e9.at top8) (by simp [dk_get]) hs8.one.2 hs8.one.1 fun H10 k10 s10 g10 => ?_
          have top10 : H10[p]? = some (.cells (dkC s.burn.1 mh ml ps' hs) 92) := g10
          have st10 := (st8.trans (e9.stp O)).trans (k10.stp fun j _ e => e ▸ o1)
          have mh10 := (mh8.ext e9).kp k10 (fun e => d1 e.symm)
          have ml10 := (ml8.ext e9).kp k10 (fun e => d2 e.symm)
          have ah10 := (ah8.ext e9).kp k10 (fun j e e' => (hd.dhs j e).1 e')
          have ps10 := (hs8.ext e9).kp k10 (fun j e e' => (np' j e).1 e')
          have gb10 := k10.at (e9.at gb8) (fun e => hbp e.symm)
          intro H11 e11
          simp only [load_cell (e11.at top10), dk_get, Pu_some, load_all (e11.at gb10) hc.size]
          refine mapSet_i (ml10.ext e11) fun H12 k12 s12 ml12 => ?_
          have st12 := (st10.trans (e11.stp O)).trans (k12.stp fun j _ e => e ▸ o3)
          have top12 := k12.at (e11.at top10) (fun e => d2 e)
          have mh12 := (mh10.ext e11).kp k12 d3
          have ah12 := (ah10.ext e11).kp k12 (fun j e e' => (hd.dhs j e).2.2 e')
          have ps12 := (ps10.ext e11).kp k12 (fun j e e' => (np' j e).2.2.1 e')
          have gb12 := k12.at (e11.at gb10) (fun e => hbO (e ▸ o3))
          simp only [load_cell top12, dk_get, Pu_some, load_all gb12 hc.size, build_op hc, elOp]
          intro H13 e13
          rw [newS_one (by rw [q2.2.1]; decide) (by rw [q2.2.1]; decide) (by rw [cells_agg, opW_size hc, q2.2.1]), Pu_some]
          refine newS_i fun b14 H14 hb14 e14 s14 g14 => ?_
          intro H15 e15
          have x15 := e13.trans (e14.trans e15)
          refine app_many (us := [opW a c]) q2.1 q2.2.1 q2.2.2.1 (by rw [q2.2.2.2]; decide) (ah12.ext x15) (Sv.single (e15.at g14) (opW_size hc)) (by simpa using opW_ok hc) (by
            rw [q2.2.2.2]; simp only [List.length_cons, List.length_nil]; omega) fun hs' H16 hs16 k16 hn16 => ?_
          have st16 := (st12.trans (x15.stp O)).trans (k16.stp fun j _ e => o5 j e)
          have top16 := k16.at (x15.at top12) (fun e => (hd.dhs p e).1 rfl)
          have mh16 := (mh12.ext x15).kp k16 (fun e => (hd.dhs mh e).2.1 rfl)
          have ml16 := (ml12.ext x15).kp k16 (fun e => (hd.dhs ml e).2.2 rfl)
          have ps16 := (ps12.ext x15).kp k16 (fun j e e' => (np' j e).2.2.2.1 e')
          intro H17 e17
          have nh' : ∀ j, blkOf hs' = some j → j ≠ p ∧ j ≠ mh ∧ j ≠ ml ∧ blkOf ps' ≠ some j := fun j e => by
            rcases hn16 j e with h1 | h1
            · have h2 := hd.dhs j h1; exact ⟨h2.1, h2.2.1, h2.2.2, fun e => (np' j e).2.2.2.1 h1⟩
            · have l1 := lt_of_block (x15.at top12)
              have l2 := (mh12.ext x15).lt
              have l3 := (ml12.ext x15).lt
              exact ⟨by omega, by omega, by omega, fun e => by have := (ps12.ext x15).lt e; omega⟩
          refine store_i (e17.at top16) (by simp [dk_get]) hs16.one.2 hs16.one.1 fun H18 k18 s18 g18 => ?_
          have top18 : H18[p]? = some (.cells (dkC s.burn.1 mh ml ps' hs') 92) := g18
          have st18 := (st16.trans (e17.stp O)).trans (k18.stp fun j _ e => e ▸ o1)
          have mh18 := (mh16.ext e17).kp k18 (fun e => d1 e.symm)
          have ml18 := (ml16.ext e17).kp k18 (fun e => d2 e.symm)
          have ps18 := (ps16.ext e17).kp k18 (fun j e e' => (np' j e).1 e')
          have ah18 := (hs16.ext e17).kp k18 (fun j e e' => (nh' j e).1 e')
          intro H19 e19
          have st19 := st18.trans (e19.stp O)
          have fin := kk H19 (fun j => O j ∨ blkOf ps' = some j ∨ blkOf hs' = some j) ⟨st19.kp, fun j hj => by
            rcases hj with h1 | h1 | h1
            · exact .inl h1
            · rcases hn8 j h1 with h2 | h2
              · exact .inl (o4 j h2)
              · exact .inr (Nat.le_trans st7.kp.le h2)
            · rcases hn16 j h1 with h2 | h2
              · exact .inl (o5 j h2)
              · exact .inr (Nat.le_trans (st12.trans (x15.stp O)).kp.le h2)⟩
          rw [hw] at fin
          refine fin ⟨⟨mh, ml, ps', hs', fh, fun j => if j = a then some c else fl j, nh, if Option.map Value.agg (fl a) = none then nl + 1 else nl, pend ++ [(a, c)], hist ++ [opW a c], ?_, .inl o1, .inl o2, .inl o3, fun j e => .inr (.inl e), fun j e => .inr (.inr e)⟩, fun j hj => ?_⟩
          · exact {
              top := e19.at top18
              amh := mh18.ext e19
              aml := (ml18.ext e19).congr fun j => by unfold updM; split <;> rfl
              aps := by rw [List.map_append]; exact ps18.ext e19
              ahs := ah18.ext e19
              df := hd.df
              dps := fun j e => ⟨(np' j e).1, (np' j e).2.1, (np' j e).2.2.1, fun e' => (nh' j e').2.2.2 e⟩
              dhs := fun j e => ⟨(nh' j e).1, (nh' j e).2.1, (nh' j e).2.2.1⟩
              bh := hd.bh
              bl := fun j x e => by
                split at e
                · injection e with e; subst e; exact hc
                · exact hd.bl j x e
              bp := fun x hx => by
                rcases List.mem_append.1 hx with h1 | h1
                · exact hd.bp x h1
                · simp only [List.mem_singleton] at h1; subst h1; exact hc
              now := fun j => by
                show updB s.now a c j = _
                unfold updB
                by_cases hj : j = a
                · rw [if_pos hj, if_pos hj]; rfl
                · rw [if_neg hj, if_neg hj]; exact hd.now j
              held := fun j => by rw [← hd.held j]; simp only [DS.burn, hz, if_false]
              wait := by
                have := foldl_snoc (a := a) (c := c) hd.wait
                rw [← this]; simp only [DS.burn, hz, if_false]
              pl := by rw [List.length_append, hpl3]; rfl
              hl := by rw [List.length_append, hhl3]; rfl
              pos := by have := hd.pos; simp only [DS.burn, hz, if_false]; exact this }
          · rcases hj with h1 | h1 | h1
            · exact Nat.lt_of_lt_of_le (h.lt j h1) st19.kp.le
            · exact (ps18.ext e19).lt h1
            · exact (ah18.ext e19).lt h1
    · obtain ⟨⟨mh, ml, ps, hs, fh, fl, nh, nl, pend, hist, hd, o1, o2, o3, o4, o5⟩, hlt⟩ := h1
      simp only [binE_lss, Pu_some, Ite_dec, nilCheckE, addr_ptr, Nat.zero_add, load_cell hd.top, dk_get, binE_geq]
      refine ⟨fun h0 => ⟨trivial, by simp [h0]⟩, fun h0 => ⟨trivial, by simp [h0]⟩⟩
end
end Go.Vc

/- The conditions of functions' bodies, in words, each tied to the program. -/
set_option linter.unusedVariables false
set_option linter.unusedSimpArgs false
namespace Go.Proofs
open Go.Vc

/- (*undercroft/cache.Cache).check -/
def sh42 (v0 v1 : Value) (H : Hp) (R : Value → Hp → Prop) : Prop :=
 Join (n := 1) (fun s0 H1 => Any fun _ =>
  Ite s0.1
   (R (.int .i64 1) H1)
   (Pu (nilCheckE v0) fun x3 =>
   Pu (addrE (some 0) x3) fun x4 =>
   Pu (loadE (some none) x4 H1) fun x5 =>
   Fc Try.prog 29 #[x5] H1 fun x6 H2 =>
   Ite x6
    (R (.int .i64 3) H2)
    (Join (n := 1) (fun s6 H3 => Any fun _ =>
     Ite s6.1
      (R (.int .i64 2) H3)
      (R (.int .i64 0) H3))
    (fun K8 => Pu (binE (some (.int .i64)) .lss v1 (.int .i64 0)) fun x10 =>
    Ite x10
     (K8 ((.bool true), ()) H2)
     (Pu (nilCheckE v0) fun x11 =>
     Pu (addrE (some 0) x11) fun x12 =>
     Pu (loadE (some none) x12 H2) fun x13 =>
     Fc Try.prog 35 #[x13] H2 fun x14 H4 =>
     Pu (binE (some (.int .i64)) .geq v1 x14) fun x15 =>
     K8 (x15, ()) H4)))))
 (fun K15 => Pu (eqXE Try.prog 29 true .eql v0 (.pointer none) H) fun x17 =>
 Ite x17
  (K15 ((.bool true), ()) H)
  (Pu (nilCheckE v0) fun x18 =>
  Pu (addrE (some 0) x18) fun x19 =>
  Pu (loadE (some none) x19 H) fun x20 =>
  Pu (eqXE Try.prog 25 true .eql x20 (.pointer none) H) fun x21 =>
  K15 (x21, ()) H))
set_option maxRecDepth 100000 in
theorem fn42 {v0 v1 : Value} {H : Hp} {R : Value → Hp → Prop} (h : sh42 v0 v1 H R) : Fc Try.prog 42 #[v0, v1] H R :=
  fn_of_vc (fun f => [].contains f) (.seq .nil (.seq (.join [5] [6, 7, 8, 9, 10, 11, 12, 13, 14] .nil (.cond .nil (.seq .nil (.cond .nil (.join [21] [22, 23, 24, 25, 26, 27, 28, 29, 30, 31, 32] .nil .nil))))) .nil)) Try.func42 (args := [v0, v1]) (Eq.mp (by kernel_rfl : sh42 v0 v1 H R = VcFn Try.prog (fun f => [].contains f) Try.f42 (.seq .nil (.seq (.join [5] [6, 7, 8, 9, 10, 11, 12, 13, 14] .nil (.cond .nil (.seq .nil (.cond .nil (.join [21] [22, 23, 24, 25, 26, 27, 28, 29, 30, 31, 32] .nil .nil))))) .nil)) [v0, v1] H R) h)

/- (*undercroft/cache.link).leave -/
def sh43 (v0 : Value) (H : Hp) (R : Value → Hp → Prop) : Prop :=
 Pu (nilCheckE v0) fun x1 =>
 Pu (addrE (some 1026) x1) fun x2 =>
 Pu (loadE (some none) x2 H) fun x3 =>
 Pu (nilCheckE v0) fun x4 =>
 Pu (addrE (some 1027) x4) fun x5 =>
 Pu (loadE (some none) x5 H) fun x6 =>
 Pu (nilCheckE x3) fun x7 =>
 Pu (addrE (some 1027) x7) fun x8 =>
 Pu (storeE (some 1) x8 x6 H) fun H1 =>
 Pu (nilCheckE v0) fun x9 =>
 Pu (addrE (some 1027) x9) fun x10 =>
 Pu (loadE (some none) x10 H1) fun x11 =>
 Pu (nilCheckE v0) fun x12 =>
 Pu (addrE (some 1026) x12) fun x13 =>
 Pu (loadE (some none) x13 H1) fun x14 =>
 Pu (nilCheckE x11) fun x15 =>
 Pu (addrE (some 1026) x15) fun x16 =>
 Pu (storeE (some 1) x16 x14 H1) fun H2 =>
 R (.tuple #[]) H2
set_option maxRecDepth 100000 in
theorem fn43 {v0 : Value} {H : Hp} {R : Value → Hp → Prop} (h : sh43 v0 H R) : Fc Try.prog 43 #[v0] H R :=
  fn_of_vc (fun f => [].contains f) .nil Try.func43 (args := [v0]) (Eq.mp (by kernel_rfl : sh43 v0 H R = VcFn Try.prog (fun f => [].contains f) Try.f43 .nil [v0] H R) h)

/- (*undercroft/cache.Cache).last -/
def sh44 (v0 v1 : Value) (H : Hp) (R : Value → Hp → Prop) : Prop :=
 Pu (nilCheckE v0) fun x1 =>
 Pu (addrE (some 3) x1) fun x2 =>
 Pu (addrE (some 1026) x2) fun x3 =>
 Pu (loadE (some none) x3 H) fun x4 =>
 Pu (nilCheckE v1) fun x5 =>
 Pu (addrE (some 1026) x5) fun x6 =>
 Pu (storeE (some 1) x6 x4 H) fun H1 =>
 Pu (nilCheckE v0) fun x7 =>
 Pu (addrE (some 3) x7) fun x8 =>
 Pu (nilCheckE v1) fun x9 =>
 Pu (addrE (some 1027) x9) fun x10 =>
 Pu (storeE (some 1) x10 x8 H1) fun H2 =>
 Pu (nilCheckE v1) fun x11 =>
 Pu (addrE (some 1026) x11) fun x12 =>
 Pu (loadE (some none) x12 H2) fun x13 =>
 Pu (nilCheckE x13) fun x14 =>
 Pu (addrE (some 1027) x14) fun x15 =>
 Pu (storeE (some 1) x15 v1 H2) fun H3 =>
 Pu (nilCheckE v0) fun x16 =>
 Pu (addrE (some 3) x16) fun x17 =>
 Pu (addrE (some 1026) x17) fun x18 =>
 Pu (storeE (some 1) x18 v1 H3) fun H4 =>
 R (.tuple #[]) H4
set_option maxRecDepth 100000 in
theorem fn44 {v0 v1 : Value} {H : Hp} {R : Value → Hp → Prop} (h : sh44 v0 v1 H R) : Fc Try.prog 44 #[v0, v1] H R :=
  fn_of_vc (fun f => [].contains f) .nil Try.func44 (args := [v0, v1]) (Eq.mp (by kernel_rfl : sh44 v0 v1 H R = VcFn Try.prog (fun f => [].contains f) Try.f44 .nil [v0, v1] H R) h)

/- (*undercroft/cache.Cache).room -/
def sh45 (v0 : Value) (H : Hp) (R : Value → Hp → Prop) : Prop :=
 Pu (nilCheckE v0) fun x1 =>
 Pu (addrE (some 2) x1) fun x2 =>
 Pu (loadE (some none) x2 H) fun x3 =>
 Pu (nilCheckE v0) fun x4 =>
 Pu (addrE (some 1) x4) fun x5 =>
 Pu (loadE (some none) x5 H) fun x6 =>
 Pu (binE (some (.int .i64)) .geq x3 x6) fun x7 =>
 Ite x7
  (R (.bool false) H)
  (Pu (nilCheckE v0) fun x8 =>
  Pu (addrE (some 1031) x8) fun x9 =>
  Pu (loadE (some none) x9 H) fun x10 =>
  Pu (mapLenE x10 H) fun x11 =>
  Pu (nilCheckE v0) fun x12 =>
  Pu (addrE (some 1) x12) fun x13 =>
  Pu (loadE (some none) x13 H) fun x14 =>
  Pu (binE (some (.int .i64)) .lss x11 x14) fun x15 =>
  Ite x15
   (R (.bool true) H)
   (Pu (nilCheckE v0) fun x16 =>
   Pu (addrE (some 3) x16) fun x17 =>
   Pu (addrE (some 1027) x17) fun x18 =>
   Pu (loadE (some none) x18 H) fun x19 =>
   LoopP (n := 1) (x19, ()) H (fun K20 s19 H1 => Any fun _ =>
    Pu (nilCheckE s19.1) fun x22 =>
    Pu (addrE (some 1025) x22) fun x23 =>
    Pu (loadE (some none) x23 H1) fun x24 =>
    Ite x24
     (Pu (nilCheckE s19.1) fun x25 =>
     Pu (addrE (some 1027) x25) fun x26 =>
     Pu (loadE (some none) x26 H1) fun x27 =>
     K20 (x27, ()) H1)
     (Fc Try.prog 43 #[s19.1] H1 fun x28 H2 =>
     Pu (nilCheckE v0) fun x29 =>
     Pu (addrE (some 1031) x29) fun x30 =>
     Pu (loadE (some none) x30 H2) fun x31 =>
     Pu (nilCheckE s19.1) fun x32 =>
     Pu (addrE (some 0) x32) fun x33 =>
     Pu (loadE (some none) x33 H2) fun x34 =>
     Pu (mapDelE (some (3, .int .i64, 79)) x31 x34 H2) fun H3 =>
     R (.bool true) H3))))
set_option maxRecDepth 100000 in
theorem fn45 {v0 : Value} {H : Hp} {R : Value → Hp → Prop} (h : sh45 v0 H R) : Fc Try.prog 45 #[v0] H R :=
  fn_of_vc (fun f => [].contains f) (.seq .nil (.seq .nil (.seq .nil (.seq .nil (.seq (.loop [3] [28, 29, 30, 31, 32, 33, 34, 35] .nil) .nil))))) Try.func45 (args := [v0]) (Eq.mp (by kernel_rfl : sh45 v0 H R = VcFn Try.prog (fun f => [].contains f) Try.f45 (.seq .nil (.seq .nil (.seq .nil (.seq .nil (.seq (.loop [3] [28, 29, 30, 31, 32, 33, 34, 35] .nil) .nil))))) [v0] H R) h)

/- (*undercroft/cache.Cache).Read -/
def sh15 (v0 v1 : Value) (H : Hp) (R : Value → Hp → Prop) : Prop :=
 Pu (zeroE Try.prog 51) fun x1 => Box 51 x1 H fun x2 H1 =>
 Fc Try.prog 42 #[v0, v1] H1 fun x3 H2 =>
 Pu (binE (some (.int .i64)) .neq x3 (.int .i64 0)) fun x4 =>
 Ite x4
  (Pu (buildE Try.prog 51 []) fun x5 =>
  Pu (storeE (some 1024) x2 x5 H2) fun H3 =>
  Pu (loadE (some (some 1024)) x2 H3) fun x6 =>
  R (.tuple #[x6, x3]) H3)
  (Pu (nilCheckE v0) fun x7 =>
  Pu (addrE (some 1031) x7) fun x8 =>
  Pu (loadE (some none) x8 H2) fun x9 =>
  Pu (lookupE Try.prog (some (3, .int .i64, 79)) true x9 v1 H2) fun x10 =>
  Pu (extractE x10 0) fun x11 =>
  Pu (extractE x10 1) fun x12 =>
  Ite x12
   (Fc Try.prog 43 #[x11] H2 fun x13 H4 =>
   Fc Try.prog 44 #[v0, x11] H4 fun x14 H5 =>
   Pu (nilCheckE x11) fun x15 =>
   Pu (addrE (some 1) x15) fun x16 =>
   Pu (loadE (some (some 1024)) x16 H5) fun x17 =>
   Pu (storeE (some 1024) x2 x17 H5) fun H6 =>
   Pu (loadE (some (some 1024)) x2 H6) fun x18 =>
   R (.tuple #[x18, (.int .i64 0)]) H6)
   (Fc Try.prog 45 #[v0] H2 fun x19 H7 =>
   Pu (unE .not x19) fun x20 =>
   Ite x20
    (Pu (buildE Try.prog 51 []) fun x21 =>
    Pu (storeE (some 1024) x2 x21 H7) fun H8 =>
    Pu (loadE (some (some 1024)) x2 H8) fun x22 =>
    R (.tuple #[x22, (.int .i64 160)]) H8)
    (Pu (nilCheckE v0) fun x23 =>
    Pu (addrE (some 0) x23) fun x24 =>
    Pu (loadE (some none) x24 H7) fun x25 =>
    Fc Try.prog 32 #[x25, v1] H7 fun x26 H9 =>
    Pu (extractE x26 0) fun x27 =>
    Pu (extractE x26 1) fun x28 =>
    Pu (zeroE Try.prog 51) fun x29 => Box 51 x29 H9 fun x30 H10 =>
    Pu (storeE (some 1024) x30 x27 H10) fun H11 =>
    Pu (binE (some (.int .i64)) .neq x28 (.int .i64 0)) fun x31 =>
    Ite x31
     (Pu (buildE Try.prog 51 []) fun x32 =>
     Pu (storeE (some 1024) x2 x32 H11) fun H12 =>
     Pu (loadE (some (some 1024)) x2 H12) fun x33 =>
     R (.tuple #[x33, x28]) H12)
     (Pu (loadE (some (some 1024)) x30 H11) fun x34 =>
     Pu (buildE Try.prog 81 [(0, v1), (1, x34)]) fun x35 =>
     Box 81 x35 H11 fun x36 H13 =>
     Pu (nilCheckE v0) fun x37 =>
     Pu (addrE (some 1031) x37) fun x38 =>
     Pu (loadE (some none) x38 H13) fun x39 =>
     Pu (mapSetE (some (3, .int .i64, 79)) x39 v1 x36 H13) fun H14 =>
     Fc Try.prog 44 #[v0, x36] H14 fun x40 H15 =>
     Pu (loadE (some (some 1024)) x30 H15) fun x41 =>
     Pu (storeE (some 1024) x2 x41 H15) fun H16 =>
     Pu (loadE (some (some 1024)) x2 H16) fun x42 =>
     R (.tuple #[x42, (.int .i64 0)]) H16))))
set_option maxRecDepth 100000 in
theorem fn15 {v0 v1 : Value} {H : Hp} {R : Value → Hp → Prop} (h : sh15 v0 v1 H R) : Fc Try.prog 15 #[v0, v1] H R :=
  fn_of_vc (fun f => [].contains f) .nil Try.func15 (args := [v0, v1]) (Eq.mp (by kernel_rfl : sh15 v0 v1 H R = VcFn Try.prog (fun f => [].contains f) Try.f15 .nil [v0, v1] H R) h)

/- (*undercroft/cache.Cache).Put -/
def sh16 (v0 v1 v2 : Value) (H : Hp) (R : Value → Hp → Prop) : Prop :=
 Box 51 v2 H fun x1 H1 =>
 Fc Try.prog 42 #[v0, v1] H1 fun x2 H2 =>
 Pu (binE (some (.int .i64)) .neq x2 (.int .i64 0)) fun x3 =>
 Ite x3
  (R x2 H2)
  (Pu (nilCheckE v0) fun x4 =>
  Pu (addrE (some 1031) x4) fun x5 =>
  Pu (loadE (some none) x5 H2) fun x6 =>
  Pu (lookupE Try.prog (some (3, .int .i64, 79)) true x6 v1 H2) fun x7 =>
  Pu (extractE x7 0) fun x8 =>
  Pu (extractE x7 1) fun x9 =>
  Join (n := 1) (fun s9 H3 => Any fun _ =>
   Join (n := 0) (fun s11 H4 => Any fun _ =>
    Pu (loadE (some (some 1024)) x1 H4) fun x13 =>
    Pu (nilCheckE s9.1) fun x14 =>
    Pu (addrE (some 1) x14) fun x15 =>
    Pu (storeE (some 1024) x15 x13 H4) fun H5 =>
    Fc Try.prog 44 #[v0, s9.1] H5 fun x16 H6 =>
    R (.int .i64 0) H6)
   (fun K16 => Pu (nilCheckE s9.1) fun x18 =>
   Pu (addrE (some 1025) x18) fun x19 =>
   Pu (loadE (some none) x19 H3) fun x20 =>
   Pu (unE .not x20) fun x21 =>
   Ite x21
    (Pu (nilCheckE s9.1) fun x22 =>
    Pu (addrE (some 1025) x22) fun x23 =>
    Pu (storeE (some 1) x23 (.bool true) H3) fun H7 =>
    Pu (nilCheckE v0) fun x24 =>
    Pu (addrE (some 2) x24) fun x25 =>
    Pu (loadE (some none) x25 H7) fun x26 =>
    Pu (binE (some (.int .i64)) .add x26 (.int .i64 1)) fun x27 =>
    Pu (nilCheckE v0) fun x28 =>
    Pu (addrE (some 2) x28) fun x29 =>
    Pu (storeE (some 1) x29 x27 H7) fun H8 =>
    K16 (()) H8)
    (K16 (()) H3)))
  (fun K29 => Ite x9
   (Fc Try.prog 43 #[x8] H2 fun x31 H9 =>
   K29 (x8, ()) H9)
   (Fc Try.prog 45 #[v0] H2 fun x32 H10 =>
   Pu (unE .not x32) fun x33 =>
   Ite x33
    (R (.int .i64 160) H10)
    (Pu (buildE Try.prog 81 [(0, v1)]) fun x34 =>
    Box 81 x34 H10 fun x35 H11 =>
    Pu (nilCheckE v0) fun x36 =>
    Pu (addrE (some 1031) x36) fun x37 =>
    Pu (loadE (some none) x37 H11) fun x38 =>
    Pu (mapSetE (some (3, .int .i64, 79)) x38 v1 x35 H11) fun H12 =>
    K29 (x35, ()) H12))))
set_option maxRecDepth 100000 in
theorem fn16 {v0 v1 v2 : Value} {H : Hp} {R : Value → Hp → Prop} (h : sh16 v0 v1 v2 H R) : Fc Try.prog 16 #[v0, v1, v2] H R :=
  fn_of_vc (fun f => [].contains f) (.seq .nil (.seq .nil (.seq .nil (.join [8] [25, 26, 27, 28, 29, 30, 6, 31, 32, 33, 34, 35, 36, 37, 38, 39] .nil (.join [] [40, 41, 42, 43, 44, 45, 46, 47, 48, 49, 50, 51, 52, 53, 54] .nil .nil))))) Try.func16 (args := [v0, v1, v2]) (Eq.mp (by kernel_rfl : sh16 v0 v1 v2 H R = VcFn Try.prog (fun f => [].contains f) Try.f16 (.seq .nil (.seq .nil (.seq .nil (.join [8] [25, 26, 27, 28, 29, 30, 6, 31, 32, 33, 34, 35, 36, 37, 38, 39] .nil (.join [] [40, 41, 42, 43, 44, 45, 46, 47, 48, 49, 50, 51, 52, 53, 54] .nil .nil))))) [v0, v1, v2] H R) h)

/- (*undercroft/cache.Cache).Flush -/
def sh17 (v0 v1 : Value) (H : Hp) (R : Value → Hp → Prop) : Prop :=
 Fc Try.prog 42 #[v0, v1] H fun x1 H1 =>
 Pu (binE (some (.int .i64)) .neq x1 (.int .i64 0)) fun x2 =>
 Ite x2
  (R x1 H1)
  (Pu (nilCheckE v0) fun x3 =>
  Pu (addrE (some 1031) x3) fun x4 =>
  Pu (loadE (some none) x4 H1) fun x5 =>
  Pu (lookupE Try.prog (some (3, .int .i64, 79)) true x5 v1 H1) fun x6 =>
  Pu (extractE x6 0) fun x7 =>
  Pu (extractE x6 1) fun x8 =>
  Join (n := 1) (fun s8 H2 => Any fun _ =>
   Ite s8.1
    (R (.int .i64 0) H2)
    (Pu (nilCheckE v0) fun x11 =>
    Pu (addrE (some 0) x11) fun x12 =>
    Pu (loadE (some none) x12 H2) fun x13 =>
    Pu (nilCheckE x7) fun x14 =>
    Pu (addrE (some 1) x14) fun x15 =>
    Pu (loadE (some (some 1024)) x15 H2) fun x16 =>
    Fc Try.prog 36 #[x13, v1, x16] H2 fun x17 H3 =>
    Pu (binE (some (.int .i64)) .neq x17 (.int .i64 0)) fun x18 =>
    Ite x18
     (R x17 H3)
     (Pu (nilCheckE x7) fun x19 =>
     Pu (addrE (some 1025) x19) fun x20 =>
     Pu (storeE (some 1) x20 (.bool false) H3) fun H4 =>
     Pu (nilCheckE v0) fun x21 =>
     Pu (addrE (some 2) x21) fun x22 =>
     Pu (loadE (some none) x22 H4) fun x23 =>
     Pu (binE (some (.int .i64)) .sub x23 (.int .i64 1)) fun x24 =>
     Pu (nilCheckE v0) fun x25 =>
     Pu (addrE (some 2) x25) fun x26 =>
     Pu (storeE (some 1) x26 x24 H4) fun H5 =>
     R (.int .i64 0) H5)))
  (fun K26 => Pu (unE .not x8) fun x28 =>
  Ite x28
   (K26 ((.bool true), ()) H1)
   (Pu (nilCheckE x7) fun x29 =>
   Pu (addrE (some 1025) x29) fun x30 =>
   Pu (loadE (some none) x30 H1) fun x31 =>
   Pu (unE .not x31) fun x32 =>
   K26 (x32, ()) H1)))
set_option maxRecDepth 100000 in
theorem fn17 {v0 v1 : Value} {H : Hp} {R : Value → Hp → Prop} (h : sh17 v0 v1 H R) : Fc Try.prog 17 #[v0, v1] H R :=
  fn_of_vc (fun f => [].contains f) (.seq .nil (.seq .nil (.seq .nil (.seq (.join [32] [24, 25, 26, 27, 28, 29, 30, 31] .nil .nil) .nil)))) Try.func17 (args := [v0, v1]) (Eq.mp (by kernel_rfl : sh17 v0 v1 H R = VcFn Try.prog (fun f => [].contains f) Try.f17 (.seq .nil (.seq .nil (.seq .nil (.seq (.join [32] [24, 25, 26, 27, 28, 29, 30, 31] .nil .nil) .nil)))) [v0, v1] H R) h)

/- undercroft/cache.New -/
def sh7 (v0 v1 : Value) (H : Hp) (R : Value → Hp → Prop) : Prop :=
 Fc Try.prog 35 #[v0] H fun x1 H1 =>
 Pu (binE (some (.int .i64)) .eql x1 (.int .i64 0)) fun x2 =>
 Ite x2
  (R (.tuple #[(.pointer none), (.int .i64 1)]) H1)
  (Join (n := 1) (fun s2 H2 => Any fun _ =>
   Ite s2.1
    (R (.tuple #[(.pointer none), (.int .i64 2)]) H2)
    (NewMap H2 fun x5 H3 =>
    Pu (buildE Try.prog 83 [(0, v0), (1, v1), (4, x5)]) fun x6 =>
    Box 83 x6 H3 fun x7 H4 =>
    Pu (nilCheckE x7) fun x8 =>
    Pu (addrE (some 3) x8) fun x9 =>
    Pu (nilCheckE x7) fun x10 =>
    Pu (addrE (some 3) x10) fun x11 =>
    Pu (addrE (some 1026) x11) fun x12 =>
    Pu (storeE (some 1) x12 x9 H4) fun H5 =>
    Pu (nilCheckE x7) fun x13 =>
    Pu (addrE (some 3) x13) fun x14 =>
    Pu (nilCheckE x7) fun x15 =>
    Pu (addrE (some 3) x15) fun x16 =>
    Pu (addrE (some 1027) x16) fun x17 =>
    Pu (storeE (some 1) x17 x14 H5) fun H6 =>
    R (.tuple #[x7, (.int .i64 0)]) H6))
  (fun K17 => Pu (binE (some (.int .i64)) .lss v1 (.int .i64 1)) fun x19 =>
  Ite x19
   (K17 ((.bool true), ()) H1)
   (Pu (binE (some (.int .i64)) .gtr v1 (.int .i64 4096)) fun x20 =>
   K17 (x20, ()) H1)))
set_option maxRecDepth 100000 in
theorem fn7 {v0 v1 : Value} {H : Hp} {R : Value → Hp → Prop} (h : sh7 v0 v1 H R) : Fc Try.prog 7 #[v0, v1] H R :=
  fn_of_vc (fun f => [].contains f) (.seq .nil (.seq .nil (.seq (.join [15] [10, 11, 12, 13, 14] .nil .nil) .nil))) Try.func7 (args := [v0, v1]) (Eq.mp (by kernel_rfl : sh7 v0 v1 H R = VcFn Try.prog (fun f => [].contains f) Try.f7 (.seq .nil (.seq .nil (.seq (.join [15] [10, 11, 12, 13, 14] .nil .nil) .nil))) [v0, v1] H R) h)
end Go.Proofs

/- Fs, part D: rows of links, each of which knows its neighbours: leaving the row, becoming its last. -/
set_option linter.unusedVariables false
set_option linter.unusedSimpArgs false
namespace Go.Vc
open Go.Proofs

/-- A node: a block, an offset. -/
abbrev Nd := Nat × Nat
abbrev ptrN (n : Nd) : Value := .pointer (some ⟨n.1, n.2, none⟩)
def cel (H : Hp) (b o : Nat) : Option Value := cellH H ⟨b, o, none⟩
def nxt (H : Hp) (n : Nd) : Option Value := cel H n.1 (n.2 + 1027)
def prv (H : Hp) (n : Nd) : Option Value := cel H n.1 (n.2 + 1026)
theorem cel_of {H : Hp} {b o : Nat} {c : Array Value} {T : TypeId} {fr : Nat × Nat} (h : H[b]? = some (.cells c T fr)) : cel H b o = c[o]? := by simp [cel, cellH, h]
theorem load_cel {H : Hp} {b o : Nat} : loadE (some none) (.pointer (some ⟨b, o, none⟩)) H = cel H b o := rfl
def Sh (H : Hp) (b n : Nat) (T : TypeId) : Prop := ∃ c, H[b]? = some (.cells c T) ∧ c.size = n
/-- One cell is written. -/
structure Set1 (H H' : Hp) (b o : Nat) (v : Value) : Prop where
  size : H'.size = H.size
  blk : ∀ b', b' ≠ b → H'[b']? = H[b']?
  cell : ∀ o', cel H' b o' = if o' = o then some v else cel H b o'
theorem Set1.kp {H H' : Hp} {b o : Nat} {v : Value} (h : Set1 H H' b o v) : Kp (· = b) H H' := ⟨Nat.le_of_eq h.size.symm, fun j _ hn => h.blk j hn⟩
theorem Set1.cel {H H' : Hp} {b o : Nat} {v : Value} (h : Set1 H H' b o v) (b' o' : Nat) : Vc.cel H' b' o' = if b' = b ∧ o' = o then some v else Vc.cel H b' o' := by
  by_cases hb : b' = b
  · subst hb
    rw [h.cell]
    by_cases ho : o' = o <;> simp [ho]
  · rw [if_neg (by simp [hb])]
    unfold Vc.cel cellH
    rw [h.blk b' hb]
theorem set_cel {H : Hp} {b o n : Nat} {T : TypeId} {v : Value} {K : Hp → Prop} {c : Array Value} (hb : H[b]? = some (.cells c T)) (ho : o < c.size) (hv : v.oneCell' = true) (hc : v.cells = #[v])
    (h : ∀ H', Set1 H H' b o v → H'[b]? = some (.cells (c.setIfInBounds o v) T) → K H') : Pu (storeE (some 1) (.pointer (some ⟨b, o, none⟩)) v H) K := by
  refine store_i hb ho hv hc fun H' k s g => h H' ⟨s, fun j hj => ?_, fun o' => ?_⟩ g
  · by_cases hl : j < H.size
    · exact k.same j hl hj
    · rw [Array.getElem?_eq_none (by omega), Array.getElem?_eq_none (by omega)]
  · rw [cel_of g, cel_of hb, Array.getElem?_setIfInBounds]
    by_cases he : o = o'
    · subst he; simp [ho]
    · rw [if_neg he, if_neg (fun e => he e.symm)]

/-! ### Chains -/
def Seg (H : Hp) : Nd → List Nd → Prop
  | _, [] => True
  | a, b :: l => nxt H a = some (ptrN b) ∧ prv H b = some (ptrN a) ∧ Seg H b l
def lastOf : Nd → List Nd → Nd
  | a, [] => a
  | _, b :: l => lastOf b l
theorem Seg_app {H : Hp} : ∀ {l1 : List Nd} {a : Nd} {l2 : List Nd}, Seg H a (l1 ++ l2) ↔ Seg H a l1 ∧ Seg H (lastOf a l1) l2
  | [], a, l2 => by simp [Seg, lastOf]
  | b :: l1, a, l2 => by
    simp only [List.cons_append, Seg, lastOf, Seg_app (l1 := l1), and_assoc]
theorem lastOf_mem : ∀ (l : List Nd) (a : Nd), lastOf a l = a ∨ lastOf a l ∈ l
  | [], a => .inl rfl
  | b :: l, a => by
    rcases lastOf_mem l b with h | h
    · exact .inr (by simp [lastOf, h])
    · exact .inr (List.mem_cons_of_mem _ h)
theorem lastOf_app : ∀ (l1 l2 : List Nd) (a : Nd), lastOf a (l1 ++ l2) = lastOf (lastOf a l1) l2
  | [], _, _ => rfl
  | b :: l1, l2, a => lastOf_app l1 l2 b
/-- What a chain reads: the nexts of all but the last, the prevs of all but the first. -/
theorem Seg.of {H H' : Hp} : ∀ {l : List Nd} {a : Nd}, Seg H a l → (∀ x ∈ l, prv H' x = prv H x) → (∀ x ∈ (a :: l).dropLast, nxt H' x = nxt H x) → Seg H' a l
  | [], _, _, _, _ => trivial
  | b :: l, a, h, hp, hn => by
    obtain ⟨h1, h2, h3⟩ := h
    refine ⟨?_, ?_, h3.of (fun x hx => hp x (List.mem_cons_of_mem _ hx)) fun x hx => hn x ?_⟩
    · rw [hn a (by simp)]; exact h1
    · rw [hp b List.mem_cons_self]; exact h2
    · rw [List.dropLast_cons_cons]; exact List.mem_cons_of_mem _ hx

/-- A link: its block, what it holds. -/
structure Ln where
  b : Nat
  at_ : Int
  data : Blk
  fast : Bool
abbrev Ln.nd (x : Ln) : Nd := (x.b, 0)
structure LkC (c : Array Value) (x : Ln) : Prop where
  size : c.size = 1028
  num : c[0]? = some (.int .i64 x.at_)
  data : c.extract 1 1025 = x.data
  fast : c[1025]? = some (.bool x.fast)
  isB : IsB x.data
theorem extract_set_out {c : Array Value} {o n k : Nat} {v : Value} (h : k < o ∨ o + n ≤ k) : (c.setIfInBounds k v).extract o (o + n) = c.extract o (o + n) := by
  apply Array.ext_getElem?
  intro j
  rw [Array.getElem?_extract, Array.getElem?_extract, Array.size_setIfInBounds]
  split
  · rw [Array.getElem?_setIfInBounds, if_neg (by omega)]
  · rfl
theorem LkC.set {c : Array Value} {x : Ln} (h : LkC c x) {k : Nat} {v : Value} (hk : 1026 ≤ k) : LkC (c.setIfInBounds k v) x := by
  obtain ⟨h1, h2, h3, h4, h5⟩ := h
  refine ⟨by simpa using h1, ?_, ?_, ?_, h5⟩
  · rw [Array.getElem?_setIfInBounds, if_neg (by omega)]; exact h2
  · rw [extract_set_out (o := 1) (n := 1024) (.inr (by omega))]; exact h3
  · rw [Array.getElem?_setIfInBounds, if_neg (by omega)]; exact h4
def LkAt (H : Hp) (x : Ln) : Prop := ∃ c, H[x.b]? = some (.cells c 81) ∧ LkC c x
def nds (row : List Ln) : List Nd := row.map (·.nd)
structure RingAt (H : Hp) (cb : Nat) (row : List Ln) : Prop where
  top : Sh H cb 1032 83
  lks : ∀ x ∈ row, LkAt H x
  seg : Seg H (cb, 3) (nds row ++ [(cb, 3)])
  nod : (cb :: row.map (·.b)).Nodup

/-- A step that turns links of a row (those of blocks B) and the root's neighbours alone. -/
structure RStp (H H' : Hp) (cb : Nat) (B : Nat → Prop) : Prop where
  size : H'.size = H.size
  blk : ∀ b, b ≠ cb → ¬ B b → H'[b]? = H[b]?
  top : ∀ o, o ≠ 1029 → o ≠ 1030 → cel H' cb o = cel H cb o
theorem RStp.trans {H H' H'' : Hp} {cb : Nat} {B : Nat → Prop} (h : RStp H H' cb B) (h' : RStp H' H'' cb B) : RStp H H'' cb B :=
  ⟨h'.size.trans h.size, fun b h1 h2 => (h'.blk b h1 h2).trans (h.blk b h1 h2), fun o h1 h2 => (h'.top o h1 h2).trans (h.top o h1 h2)⟩
theorem RStp.mono {H H' : Hp} {cb : Nat} {B B' : Nat → Prop} (h : RStp H H' cb B) (hb : ∀ b, B b → B' b) : RStp H H' cb B' :=
  ⟨h.size, fun b h1 h2 => h.blk b h1 fun hB => h2 (hb b hB), h.top⟩
theorem RStp.kp {H H' : Hp} {cb : Nat} {B : Nat → Prop} (h : RStp H H' cb B) : Kp (fun b => b = cb ∨ B b) H H' := ⟨Nat.le_of_eq h.size.symm, fun b _ hn => h.blk b (fun e => hn (.inl e)) fun hB => hn (.inr hB)⟩
end Go.Vc

/- Fs, part E: a link leaves its row; a link becomes the row's last. -/
set_option linter.unusedVariables false
set_option linter.unusedSimpArgs false
namespace Go.Vc
open Go.Proofs

theorem last_notin : ∀ (l : List Nd) (a : Nd), (a :: l).Nodup → lastOf a l ∉ (a :: l).dropLast
  | [], a, _ => by simp
  | b :: l, a, h => by
    rw [List.nodup_cons] at h
    rw [List.dropLast_cons_cons, List.mem_cons]
    rintro (h1 | h1)
    · rcases lastOf_mem l b with h2 | h2
      · exact h.1 (by rw [← h1]; show lastOf b l ∈ _; rw [h2]; exact List.mem_cons_self)
      · exact h.1 (by rw [← h1]; exact List.mem_cons_of_mem _ h2)
    · exact last_notin l b h.2 h1
theorem mem_nds {row : List Ln} {n : Nd} : n ∈ nds row ↔ n.2 = 0 ∧ n.1 ∈ row.map (·.b) := by
  unfold nds
  simp only [List.mem_map]
  constructor
  · rintro ⟨x, hx, rfl⟩; exact ⟨rfl, x, hx, rfl⟩
  · rintro ⟨h0, x, hx, h1⟩; exact ⟨x, hx, Prod.ext h1 h0.symm⟩
theorem nds_nodup {cb : Nat} {row : List Ln} (h : (cb :: row.map (·.b)).Nodup) : (((cb, 3) : Nd) :: nds row).Nodup := by
  rw [List.nodup_cons] at h ⊢
  refine ⟨fun hm => ?_, ?_⟩
  · have := (mem_nds.1 hm).1; simp at this
  · unfold nds
    have h2 := h.2
    induction row with
    | nil => simp
    | cons x row ih =>
      simp only [List.map_cons, List.nodup_cons, List.mem_cons, not_or] at h h2 ⊢
      refine ⟨fun hm => ?_, ih ⟨h.1.2, h2.2⟩ h2.2⟩
      obtain ⟨y, hy, he⟩ := List.mem_map.1 hm
      injection he with he _
      exact h2.1 (List.mem_map.2 ⟨y, hy, he⟩)
theorem nds_app (l1 l2 : List Ln) : nds (l1 ++ l2) = nds l1 ++ nds l2 := by simp [nds]
theorem nds_cons (x : Ln) (l : List Ln) : nds (x :: l) = x.nd :: nds l := rfl

/-- The block of a node of a ring. -/
theorem RingAt.node {H : Hp} {cb : Nat} {row : List Ln} (h : RingAt H cb row) {n : Nd} (hn : n = (cb, 3) ∨ n ∈ nds row) : ∃ c T, H[n.1]? = some (.cells c T) ∧ n.2 + 1027 < c.size := by
  rcases hn with rfl | hn
  · obtain ⟨c, h1, h2⟩ := h.top; exact ⟨c, _, h1, by simp only; omega⟩
  · obtain ⟨x, hx, rfl⟩ := List.mem_map.1 hn
    obtain ⟨c, h1, h2⟩ := h.lks x hx
    exact ⟨c, _, h1, by have := h2.size; simp only; omega⟩
/-- What two turned neighbours leave of a ring's blocks. -/
theorem lkAt_set {H H' : Hp} {x : Ln} {b o : Nat} {v : Value} (h : LkAt H x) (hs : Set1 H H' b o v) (hc : ∀ c T, H[b]? = some (.cells c T) → H'[b]? = some (.cells (c.setIfInBounds o v) T)) (ho : b = x.b → 1026 ≤ o) : LkAt H' x := by
  obtain ⟨c, h1, h2⟩ := h
  by_cases hb : b = x.b
  · subst hb
    exact ⟨_, hc c _ h1, h2.set (ho rfl)⟩
  · exact ⟨c, by rw [hs.blk _ (fun e => hb e.symm)]; exact h1, h2⟩
theorem sh_set {H H' : Hp} {b b' o n : Nat} {T : TypeId} {v : Value} (h : Sh H b' n T) (hs : Set1 H H' b o v) (hc : ∀ c T, H[b]? = some (.cells c T) → H'[b]? = some (.cells (c.setIfInBounds o v) T)) : Sh H' b' n T := by
  obtain ⟨c, h1, h2⟩ := h
  by_cases hb : b = b'
  · subst hb; exact ⟨_, hc c _ h1, by simpa using h2⟩
  · exact ⟨c, by rw [hs.blk _ (fun e => hb e.symm)]; exact h1, h2⟩

/-- A store into a neighbour cell of a node. -/
theorem set_node {H : Hp} {cb : Nat} {row : List Ln} (h : RingAt H cb row) {n m : Nd} {j : Nat} (hn : n = (cb, 3) ∨ n ∈ nds row) (hj : j = 1026 ∨ j = 1027) {K : Hp → Prop}
    (k : ∀ H', Set1 H H' n.1 (n.2 + j) (ptrN m) → (∀ c T, H[n.1]? = some (.cells c T) → H'[n.1]? = some (.cells (c.setIfInBounds (n.2 + j) (ptrN m)) T)) → K H') :
    Pu (storeE (some 1) (.pointer (some ⟨n.1, n.2 + j, none⟩)) (ptrN m) H) K := by
  obtain ⟨c, T, hc, hs⟩ := h.node hn
  refine set_cel (n := 0) hc (by omega) rfl rfl fun H' hs1 hg => k H' hs1 fun c' T' h' => ?_
  rw [hc] at h'
  injection h' with h'; injection h' with h1 h2
  subst h1 h2; exact hg

theorem prv_set {H H' : Hp} {n : Nd} {j : Nat} {v : Value} (hs : Set1 H H' n.1 (n.2 + j) v) (m : Nd) : prv H' m = if m.1 = n.1 ∧ m.2 + 1026 = n.2 + j then some v else prv H m := hs.cel _ _
theorem nxt_set {H H' : Hp} {n : Nd} {j : Nat} {v : Value} (hs : Set1 H H' n.1 (n.2 + j) v) (m : Nd) : nxt H' m = if m.1 = n.1 ∧ m.2 + 1027 = n.2 + j then some v else nxt H m := hs.cel _ _

section
variable {H : Hp} {cb : Nat} {R : Value → Hp → Prop}
set_option maxHeartbeats 1000000 in
theorem leave_ok {l1 l2 : List Ln} {x : Ln} (h : RingAt H cb (l1 ++ x :: l2)) (k : ∀ H', RStp H H' cb (fun b => b ∈ (l1 ++ l2).map (·.b)) → RingAt H' cb (l1 ++ l2) → R (.tuple #[]) H') :
    Fc Try.prog 43 #[ptrV x.b] H R := by
  have hseg := h.seg
  have hnd := nds_nodup h.nod
  rw [nds_app, nds_cons] at hseg hnd
  have hm : ∀ n, n = (cb, 3) ∨ n ∈ nds l1 ∨ n ∈ nds l2 → n = (cb, 3) ∨ n ∈ nds (l1 ++ x :: l2) := fun n hn => by
    rw [nds_app, nds_cons, List.mem_append, List.mem_cons]
    rcases hn with h1 | h1 | h1
    · exact .inl h1
    · exact .inr (.inl h1)
    · exact .inr (.inr (.inr h1))
  have hoff : ∀ n, n = (cb, 3) ∨ n ∈ nds l1 ∨ n ∈ nds l2 → n.2 = 0 ∨ n.2 = 3 := fun n hn => by
    rcases hn with h1 | h1 | h1
    · rw [h1]; exact .inr rfl
    · exact .inl (mem_nds.1 h1).1
    · exact .inl (mem_nds.1 h1).1
  rw [List.append_assoc, Seg_app] at hseg
  obtain ⟨s1, s2⟩ := hseg
  obtain ⟨y, Bn, hB⟩ : ∃ y Bn, nds l2 ++ [((cb, 3) : Nd)] = y :: Bn := by
    cases nds l2 with
    | nil => exact ⟨_, _, rfl⟩
    | cons a l => exact ⟨_, _, rfl⟩
  rw [List.cons_append, hB] at s2
  obtain ⟨n1, p1, n2, p2, s3⟩ := s2
  have hp := lastOf_mem (nds l1) (cb, 3)
  generalize hpe : lastOf ((cb, 3) : Nd) (nds l1) = p at n1 p1 hp
  have hp' : p = (cb, 3) ∨ p ∈ nds l1 ∨ p ∈ nds l2 := by
    rcases hp with h1 | h1
    · exact .inl h1
    · exact .inr (.inl h1)
  have hy : y = (cb, 3) ∨ y ∈ nds l2 := by
    have : y ∈ nds l2 ++ [((cb, 3) : Nd)] := by rw [hB]; exact List.mem_cons_self
    rcases List.mem_append.1 this with h1 | h1
    · exact .inr h1
    · exact .inl (by simpa using h1)
  have hy' : y = (cb, 3) ∨ y ∈ nds l1 ∨ y ∈ nds l2 := by
    rcases hy with h1 | h1
    · exact .inl h1
    · exact .inr (.inr h1)
  simp only [List.nodup_cons, List.nodup_append, List.mem_append, List.mem_cons, not_or] at hnd
  obtain ⟨⟨c1, c2, c3⟩, d1, ⟨d2, d3⟩, d4⟩ := hnd
  have hxp : p ≠ x.nd := by
    rcases hp with h1 | h1
    · rw [h1]; exact c2
    · exact fun e => d4 p h1 x.nd (.inl rfl) e
  have hpx : p.1 ≠ x.b := by
    rcases hp with h1 | h1
    · rw [h1]; intro e
      have := h.nod
      rw [List.nodup_cons] at this
      exact this.1 (by simp only at e; rw [e]; simp)
    · intro e; exact hxp (Prod.ext e (mem_nds.1 h1).1)
  have hyx : y.1 ≠ x.b := by
    rcases hy with h1 | h1
    · rw [h1]; intro e
      have := h.nod
      rw [List.nodup_cons] at this
      exact this.1 (by simp only at e; rw [e]; simp)
    · intro e
      have : y = x.nd := Prod.ext e (mem_nds.1 h1).1
      exact d2 (this ▸ h1)
  refine fn43 ?_
  have lp : cel H x.b 1026 = some (ptrN p) := by simpa [prv] using p1
  have ln : cel H x.b 1027 = some (ptrN y) := by simpa [nxt] using n2
  simp only [sh43, nilCheckE, Pu_some, addr_ptr, Nat.zero_add, load_cel, lp, ln]
  refine set_node h (hm p hp') (.inr rfl) fun H1 e1 g1 => ?_
  have lp1 : cel H1 x.b 1026 = some (ptrN p) := by rw [e1.cel, if_neg (fun e => hpx e.1.symm)]; exact lp
  have ln1 : cel H1 x.b 1027 = some (ptrN y) := by rw [e1.cel, if_neg (fun e => hpx e.1.symm)]; exact ln
  simp only [lp1, ln1, Pu_some, nilCheckE, addr_ptr]
  obtain ⟨cy, Ty, gy, sy⟩ := h.node (hm y hy')
  have gy1 : ∃ c, H1[y.1]? = some (.cells c Ty) ∧ y.2 + 1027 < c.size := by
    by_cases hyp : p.1 = y.1
    · rw [← hyp] at gy
      refine ⟨_, by rw [← hyp]; exact g1 cy Ty gy, by simpa using sy⟩
    · exact ⟨cy, by rw [e1.blk _ (fun e => hyp e.symm)]; exact gy, sy⟩
  obtain ⟨cy1, gy1, sy1⟩ := gy1
  refine set_cel (n := 0) gy1 (by omega) rfl rfl fun H2 e2 g2 => ?_
  have g2' : ∀ c T, H1[y.1]? = some (.cells c T) → H2[y.1]? = some (.cells (c.setIfInBounds (y.2 + 1026) (ptrN p)) T) := fun c T h' => by
    rw [gy1] at h'; injection h' with h'; injection h' with h1 h2; subst h1 h2; exact g2
  have op := hoff p hp'
  have oy := hoff y hy'
  have eprv : ∀ n : Nd, (n.2 = 0 ∨ n.2 = 3) → prv H2 n = if n = y then some (ptrN p) else prv H n := fun n hn => by
    rw [prv_set e2 n, prv_set e1 n]
    by_cases hny : n = y
    · subst hny; simp
    · rw [if_neg (fun e => hny (Prod.ext e.1 (by omega))), if_neg hny, if_neg (by omega)]
  have enxt : ∀ n : Nd, (n.2 = 0 ∨ n.2 = 3) → nxt H2 n = if n = p then some (ptrN y) else nxt H n := fun n hn => by
    rw [nxt_set e2 n, nxt_set e1 n, if_neg (by omega)]
    by_cases hnp : n = p
    · subst hnp; simp
    · rw [if_neg (fun e => hnp (Prod.ext e.1 (by omega))), if_neg hnp]
  refine k H2 ⟨e2.size.trans e1.size, fun b hb hB' => ?_, fun o h1 h2 => ?_⟩ ⟨?_, fun z hz => ?_, ?_, ?_⟩
  · have hbn : ∀ n : Nd, (n = (cb, 3) ∨ n ∈ nds l1 ∨ n ∈ nds l2) → b ≠ n.1 := fun n hn e => by
      rcases hn with h1 | h1 | h1
      · rw [h1] at e; exact hb e
      · exact hB' (by rw [e, List.map_append]; exact List.mem_append_left _ (mem_nds.1 h1).2)
      · exact hB' (by rw [e, List.map_append]; exact List.mem_append_right _ (mem_nds.1 h1).2)
    rw [e2.blk b (hbn y hy'), e1.blk b (hbn p hp')]
  · have hcn : ∀ n : Nd, (n = (cb, 3) ∨ n ∈ nds l1 ∨ n ∈ nds l2) → n.1 = cb → n.2 = 3 := fun n hn e => by
      rcases hn with h3 | h3 | h3
      · rw [h3]
      · exfalso
        have := h.nod
        rw [List.nodup_cons] at this
        exact this.1 (by rw [← e, List.map_append]; exact List.mem_append_left _ (mem_nds.1 h3).2)
      · exfalso
        have := h.nod
        rw [List.nodup_cons] at this
        exact this.1 (by rw [← e, List.map_append, List.map_cons]; exact List.mem_append_right _ (List.mem_cons_of_mem _ (mem_nds.1 h3).2))
    rw [e2.cel, e1.cel, if_neg, if_neg]
    · rintro ⟨e, e'⟩; have := hcn p hp' e.symm; omega
    · rintro ⟨e, e'⟩; have := hcn y hy' e.symm; omega
  · exact sh_set (sh_set h.top e1 g1) e2 g2'
  · have hz' : z ∈ l1 ++ x :: l2 := by
      rcases List.mem_append.1 hz with h1 | h1
      · exact List.mem_append_left _ h1
      · exact List.mem_append_right _ (List.mem_cons_of_mem _ h1)
    exact lkAt_set (lkAt_set (h.lks z hz') e1 g1 fun _ => by omega) e2 g2' fun _ => by omega
  · rw [nds_app, List.append_assoc, hB, Seg_app, hpe]
    have hA : (((cb, 3) : Nd) :: nds l1).Nodup := List.nodup_cons.2 ⟨c1, d1⟩
    refine ⟨s1.of (fun z hz => ?_) (fun z hz => ?_), ?_, ?_, s3.of (fun z hz => ?_) (fun z hz => ?_)⟩
    · rw [eprv z (hoff z (.inr (.inl hz))), if_neg]
      intro e; subst e
      rcases hy with h1 | h1
      · exact c1 (h1 ▸ hz)
      · exact d4 z hz z (.inr h1) rfl
    · have hz2 := List.dropLast_subset _ hz
      have hz3 : z = (cb, 3) ∨ z ∈ nds l1 := by simpa using hz2
      rw [enxt z (hoff z (by rcases hz3 with h1 | h1; exact .inl h1; exact .inr (.inl h1))), if_neg]
      intro e
      have := last_notin (nds l1) (cb, 3) hA
      rw [hpe, ← e] at this
      exact this hz
    · rw [enxt p op, if_pos rfl]
    · rw [eprv y oy, if_pos rfl]
    · have hz2 : z ∈ nds l2 ++ [((cb, 3) : Nd)] := by rw [hB]; exact List.mem_cons_of_mem _ hz
      have hz3 : z ∈ nds l2 ∨ z = (cb, 3) := by simpa using hz2
      have hBn : (y :: Bn).Nodup := by
        rw [← hB, List.nodup_append]
        refine ⟨d3, by simp, fun a ha b hb e => ?_⟩
        simp only [List.mem_singleton] at hb
        subst hb; subst e; exact c3 ha
      rw [eprv z (hoff z (by rcases hz3 with h1 | h1; exact .inr (.inr h1); exact .inl h1)), if_neg]
      intro e; subst e
      exact (List.nodup_cons.1 hBn).1 hz
    · have hz2 : z ∈ nds l2 := by
        rw [← hB, List.dropLast_concat] at hz; exact hz
      rw [enxt z (hoff z (.inr (.inr hz2))), if_neg]
      intro e; subst e
      rcases hp with h1 | h1
      · exact c3 (h1 ▸ hz2)
      · exact d4 z h1 z (.inr hz2) rfl
  · have := h.nod
    rw [List.map_append, List.map_cons] at this
    rw [List.map_append]
    simp only [List.nodup_cons, List.nodup_append, List.mem_append, List.mem_cons, not_or] at this ⊢
    obtain ⟨⟨a1, a2, a3⟩, b1, ⟨b2, b3⟩, b4⟩ := this
    exact ⟨⟨a1, a3⟩, b1, b3, fun a ha b hb => b4 a ha b (.inr hb)⟩
end
end Go.Vc

/- Fs, part F: a link becomes the row's last. -/
set_option linter.unusedVariables false
set_option linter.unusedSimpArgs false
namespace Go.Vc
open Go.Proofs

theorem node_at {H : Hp} {cb : Nat} {row : List Ln} (h : RingAt H cb row) {n : Nd} (hn : n = (cb, 3) ∨ n ∈ nds row) {j : Nat} (hj : j ≤ 1027) : ∃ c T, H[n.1]? = some (.cells c T) ∧ n.2 + j < c.size := by
  obtain ⟨c, T, h1, h2⟩ := h.node hn
  exact ⟨c, T, h1, by omega⟩
/-- A store of a pointer into a cell of a block that stands. -/
theorem set_at {H : Hp} {b o : Nat} {m : Nd} {K : Hp → Prop} (hb : ∃ c T, H[b]? = some (.cells c T) ∧ o < c.size)
    (k : ∀ H', Set1 H H' b o (ptrN m) → (∀ c T, H[b]? = some (.cells c T) → H'[b]? = some (.cells (c.setIfInBounds o (ptrN m)) T)) → K H') :
    Pu (storeE (some 1) (.pointer (some ⟨b, o, none⟩)) (ptrN m) H) K := by
  obtain ⟨c, T, hc, hs⟩ := hb
  refine set_cel (n := 0) hc hs rfl rfl fun H' hs1 hg => k H' hs1 fun c' T' h' => ?_
  rw [hc] at h'
  injection h' with h'; injection h' with h1 h2
  subst h1 h2; exact hg
theorem blk_set {H H' : Hp} {b b' o o' : Nat} {v : Value} (h : ∃ c T, H[b']? = some (.cells c T) ∧ o' < c.size) (hs : Set1 H H' b o v) (hc : ∀ c T, H[b]? = some (.cells c T) → H'[b]? = some (.cells (c.setIfInBounds o v) T)) : ∃ c T, H'[b']? = some (.cells c T) ∧ o' < c.size := by
  obtain ⟨c, T, h1, h2⟩ := h
  by_cases hb : b = b'
  · subst hb; exact ⟨_, _, hc c T h1, by simpa using h2⟩
  · exact ⟨c, T, by rw [hs.blk _ (fun e => hb e.symm)]; exact h1, h2⟩

section
variable {H : Hp} {cb : Nat} {R : Value → Hp → Prop}
set_option maxHeartbeats 1000000 in
theorem last_ok {row : List Ln} {x : Ln} (h : RingAt H cb row) (hx : LkAt H x) (hxc : x.b ≠ cb) (hxr : x.b ∉ row.map (·.b))
    (k : ∀ H', RStp H H' cb (fun b => b ∈ (row ++ [x]).map (·.b)) → RingAt H' cb (row ++ [x]) → R (.tuple #[]) H') :
    Fc Try.prog 44 #[ptrV cb, ptrV x.b] H R := by
  have hseg := h.seg
  have hnd := nds_nodup h.nod
  rw [Seg_app] at hseg
  obtain ⟨s1, n1, p1, _⟩ := hseg
  have hp := lastOf_mem (nds row) (cb, 3)
  generalize hpe : lastOf ((cb, 3) : Nd) (nds row) = p at n1 p1 hp
  have hcr : cb ∉ row.map (·.b) := (List.nodup_cons.1 h.nod).1
  have hpx : p.1 ≠ x.b := by
    rcases hp with h1 | h1
    · rw [h1]; exact fun e => hxc e.symm
    · exact fun e => hxr (e ▸ (mem_nds.1 h1).2)
  have op : p.2 = 0 ∨ p.2 = 3 := by
    rcases hp with h1 | h1
    · rw [h1]; exact .inr rfl
    · exact .inl (mem_nds.1 h1).1
  have hpc : p.1 = cb → p = (cb, 3) := fun e => by
    rcases hp with h1 | h1
    · exact h1
    · exact absurd (e ▸ (mem_nds.1 h1).2) hcr
  have lp : cel H cb 1029 = some (ptrN p) := p1
  obtain ⟨cx, gx, kx⟩ := hx
  have hxb : ∃ c T, H[x.b]? = some (.cells c T) ∧ 1027 < c.size := ⟨cx, _, gx, by have := kx.size; omega⟩
  refine fn44 ?_
  simp only [sh44, nilCheckE, Pu_some, addr_ptr, Nat.zero_add, Nat.reduceAdd, load_cel, lp]
  refine set_at (by obtain ⟨c, T, a, b⟩ := hxb; exact ⟨c, T, a, by omega⟩) fun H1 e1 g1 => ?_
  have hxb1 := blk_set hxb e1 g1
  refine set_at (m := (cb, 3)) hxb1 fun H2 e2 g2 => ?_
  have lx : cel H2 x.b 1026 = some (ptrN p) := by rw [e2.cel, if_neg (by omega), e1.cel, if_pos ⟨rfl, rfl⟩]
  simp only [lx, Pu_some, nilCheckE, addr_ptr]
  have hpb := blk_set (blk_set (node_at h hp (j := 1027) (Nat.le_refl _)) e1 g1) e2 g2
  refine set_at (m := x.nd) hpb fun H3 e3 g3 => ?_
  have hcb := blk_set (blk_set (blk_set (node_at h (n := (cb, 3)) (.inl rfl) (j := 1026) (by omega)) e1 g1) e2 g2) e3 g3
  refine set_at (m := x.nd) hcb fun H4 e4 g4 => ?_
  have eprv : ∀ n : Nd, (n.2 = 0 ∨ n.2 = 3) → prv H4 n = if n.1 = cb ∧ n.2 = 3 then some (ptrN x.nd) else if n.1 = x.b ∧ n.2 = 0 then some (ptrN p) else prv H n := fun n hn => by
    show cel H4 n.1 (n.2 + 1026) = _
    rw [e4.cel, e3.cel, e2.cel, e1.cel]
    by_cases h1 : n.1 = cb ∧ n.2 = 3
    · rw [if_pos ⟨h1.1, by omega⟩, if_pos h1]
    · rw [if_neg (by omega), if_neg h1, if_neg (by omega), if_neg (by omega)]
      by_cases h2 : n.1 = x.b ∧ n.2 = 0
      · rw [if_pos ⟨h2.1, by omega⟩, if_pos h2]
      · rw [if_neg (by omega), if_neg h2]; rfl
  have enxt : ∀ n : Nd, (n.2 = 0 ∨ n.2 = 3) → nxt H4 n = if n = p then some (ptrN x.nd) else if n.1 = x.b ∧ n.2 = 0 then some (ptrN (cb, 3)) else nxt H n := fun n hn => by
    show cel H4 n.1 (n.2 + 1027) = _
    rw [e4.cel, e3.cel, e2.cel, e1.cel, if_neg (by omega)]
    by_cases h1 : n = p
    · subst h1; rw [if_pos ⟨rfl, rfl⟩, if_pos rfl]
    · rw [if_neg (fun e => h1 (Prod.ext e.1 (by omega))), if_neg h1]
      by_cases h2 : n.1 = x.b ∧ n.2 = 0
      · rw [if_pos ⟨h2.1, by omega⟩, if_pos h2]
      · rw [if_neg (by omega), if_neg h2, if_neg (by omega)]; rfl
  refine k H4 ⟨by rw [e4.size, e3.size, e2.size, e1.size], fun b hb hB => ?_, fun o h1 h2 => ?_⟩ ⟨?_, fun z hz => ?_, ?_, ?_⟩
  · rw [List.map_append, List.mem_append, not_or] at hB
    have hbx : b ≠ x.b := fun e => hB.2 (by simp [e])
    have hbp : b ≠ p.1 := fun e => by
      rcases hp with h1 | h1
      · rw [h1] at e; exact hb e
      · exact hB.1 (e ▸ (mem_nds.1 h1).2)
    rw [e4.blk b hb, e3.blk b hbp, e2.blk b hbx, e1.blk b hbx]
  · rw [e4.cel, if_neg (by omega), e3.cel, if_neg, e2.cel, if_neg (fun e => hxc e.1.symm), e1.cel, if_neg (fun e => hxc e.1.symm)]
    rintro ⟨e, e'⟩
    have := hpc e.symm
    rw [this] at e'; omega
  · exact sh_set (sh_set (sh_set (sh_set h.top e1 g1) e2 g2) e3 g3) e4 g4
  · have hz' : LkAt H z := by
      rcases List.mem_append.1 hz with h1 | h1
      · exact h.lks z h1
      · simp only [List.mem_singleton] at h1; subst h1; exact ⟨cx, gx, kx⟩
    have hzc : cb ≠ z.b := by
      rcases List.mem_append.1 hz with h1 | h1
      · exact fun e => hcr (e ▸ List.mem_map.2 ⟨z, h1, rfl⟩)
      · simp only [List.mem_singleton] at h1; subst h1; exact fun e => hxc e.symm
    exact lkAt_set (lkAt_set (lkAt_set (lkAt_set hz' e1 g1 fun _ => by omega) e2 g2 fun _ => by omega) e3 g3 fun _ => by omega) e4 g4 fun e => absurd e hzc
  · rw [nds_app, List.append_assoc, Seg_app, hpe]
    have hxn : ∀ n ∈ nds row, n ≠ x.nd := fun n hn e => hxr (by have := (mem_nds.1 hn).2; rw [e] at this; exact this)
    refine ⟨s1.of (fun z hz => ?_) (fun z hz => ?_), ?_, ?_, ?_, ?_, trivial⟩
    · have hz0 := mem_nds.1 hz
      rw [eprv z (.inl hz0.1), if_neg (by omega), if_neg (fun (e : z.1 = x.b ∧ z.2 = 0) => hxr (e.1 ▸ hz0.2))]
    · have hz2 := List.dropLast_subset _ hz
      have hz3 : z = (cb, 3) ∨ z ∈ nds row := by simpa using hz2
      have hzo : z.2 = 0 ∨ z.2 = 3 := by
        rcases hz3 with h1 | h1
        · rw [h1]; exact .inr rfl
        · exact .inl (mem_nds.1 h1).1
      rw [enxt z hzo, if_neg, if_neg]
      · rintro ⟨e, e'⟩
        rcases hz3 with h1 | h1
        · rw [h1] at e; exact hxc e.symm
        · exact hxr (e ▸ (mem_nds.1 h1).2)
      · intro e
        have := last_notin (nds row) (cb, 3) hnd
        rw [hpe, ← e] at this
        exact this hz
    · rw [enxt p op, if_pos rfl]
    · show prv H4 x.nd = _
      rw [eprv x.nd (.inl rfl), if_neg (fun e => hxc e.1), if_pos ⟨rfl, rfl⟩]
    · show nxt H4 x.nd = _
      rw [enxt x.nd (.inl rfl), if_neg (fun e => hpx (by rw [← e])), if_pos ⟨rfl, rfl⟩]
    · rw [eprv (cb, 3) (.inr rfl), if_pos ⟨rfl, rfl⟩]
  · have := h.nod
    rw [List.nodup_cons] at this ⊢
    rw [List.map_append]
    refine ⟨fun hm => ?_, ?_⟩
    · rcases List.mem_append.1 hm with h1 | h1
      · exact this.1 h1
      · simp only [List.map_cons, List.map_nil, List.mem_singleton] at h1; exact hxc h1.symm
    · rw [List.nodup_append]
      refine ⟨this.2, by simp, fun a ha b hb e => ?_⟩
      simp only [List.map_cons, List.map_nil, List.mem_singleton] at hb
      subst hb; subst e; exact hxr ha
end
end Go.Vc

/- Fs, part G: the cache: what its memory holds; whether anything is wrong; making room. -/
set_option linter.unusedVariables false
set_option linter.unusedSimpArgs false
namespace Go.Vc
open Go.Proofs

def findA (row : List Ln) (k : Int) : Option Ln := row.find? fun x => x.at_ == k
def fastN (row : List Ln) : Int := ((row.filter (·.fast)).length : Nat)
structure CaC (H : Hp) (cb p : Nat) (size : Int) (row : List Ln) (mp : Nat) : Prop where
  ring : RingAt H cb row
  d : cel H cb 0 = some (ptrV p)
  sz : cel H cb 1 = some (.int .i64 size)
  fast : cel H cb 2 = some (.int .i64 (fastN row))
  has : cel H cb 1031 = some (.map (some mp))
  map : MapAt H mp (fun k => (findA row k).map fun x => ptrV x.b) row.length
  mpn : mp ≠ cb ∧ mp ∉ row.map (·.b)
  nodA : (row.map (·.at_)).Nodup

theorem undCa : Try.prog.underlying 29 = some (.pointer 83) := by kernel_rfl
def DS.wrong (s : DS) (a : Int) : Int := if s.stopped then 3 else if a < 0 ∨ s.n ≤ a then 2 else 0

section
variable {H : Hp} {cb p mp : Nat} {size : Int} {row : List Ln} {s : DS} {O : Nat → Prop} {R : Value → Hp → Prop}
theorem cache_check (hd : DiskAt H p s O) (hc : CaC H cb p size row mp) {a : Int} (k : R (.int .i64 (s.wrong a)) H) : Fc Try.prog 42 #[ptrV cb, .int .i64 a] H R := by
  refine fn42 ?_
  simp only [sh42, Any_const]
  refine Join.mk (fun x H' => H' = H ∧ x.1 = .bool false) ?_ ?_
  · rintro ⟨x, u⟩ H1 ⟨rfl, hx⟩
    simp only at hx
    subst hx
    simp only [Ite_false, nilCheckE, Pu_some, addr_ptr, Nat.zero_add, load_cel, hc.d]
    refine disk_stopped hd ?_
    rw [Ite_bool]
    refine ⟨fun hs => ?_, fun hs => ?_⟩
    · rw [show s.wrong a = 3 by simp [DS.wrong, hs]] at k; exact k
    · refine Join.mk (fun x H' => H' = H1 ∧ x.1 = .bool (decide (a < 0 ∨ s.n ≤ a))) ?_ ?_
      · rintro ⟨x, u⟩ H2 ⟨rfl, hx⟩
        simp only at hx
        subst hx
        simp only [Ite_dec]
        refine ⟨fun ho => ?_, fun ho => ?_⟩
        · rw [show s.wrong a = 2 by simp [DS.wrong, hs, ho]] at k; exact k
        · rw [show s.wrong a = 0 by simp only [DS.wrong, hs, Bool.false_eq_true, if_false, if_neg ho]] at k; exact k
      · simp only [binE_lss, Pu_some, Ite_dec, hc.d]
        refine ⟨fun h0 => ⟨trivial, by simp [h0]⟩, fun h0 => ?_⟩
        refine disk_len hd ?_
        simp only [binE_geq, Pu_some]
        exact ⟨trivial, by simp [h0]⟩
  · simp only [eqX_ptr undCa, Pu_some, Ite_false, nilCheckE, addr_ptr, Nat.zero_add, load_cel, hc.d, eqX_ptr undDk, and_self]

theorem fastN_lt {row : List Ln} (h : ∀ x ∈ row, x.fast = true) : fastN row = row.length := by
  unfold fastN
  rw [List.filter_eq_self.2 h]
theorem fastN_app (l1 l2 : List Ln) : fastN (l1 ++ l2) = fastN l1 + fastN l2 := by
  unfold fastN; rw [List.filter_append, List.length_append]; omega
theorem fastN_cons (x : Ln) (l : List Ln) : fastN (x :: l) = (if x.fast then 1 else 0) + fastN l := by
  unfold fastN; rw [List.filter_cons]; split <;> simp <;> omega
theorem fastN_le (l : List Ln) : 0 ≤ fastN l ∧ fastN l ≤ l.length := by
  unfold fastN
  have := List.length_filter_le (fun x : Ln => x.fast) l
  omega

theorem cel_same {H H' : Hp} {b o : Nat} (h : H'[b]? = H[b]?) : cel H' b o = cel H b o := by
  unfold cel cellH
  simp only [h]
theorem Kp.all {S : Nat → Prop} {H H' : Hp} (h : Kp S H H') (hs : H'.size = H.size) {b : Nat} (hn : ¬ S b) : H'[b]? = H[b]? := by
  by_cases hl : b < H.size
  · exact h.same b hl hn
  · rw [Array.getElem?_eq_none (by omega), Array.getElem?_eq_none (by omega)]
/-- Where a block stands in a row. -/
def posB (row : List Ln) (v : Value) : Nat :=
  match v with
  | .pointer (some a) => row.length - (row.map (·.b)).idxOf a.block
  | _ => 0
theorem idxOf_at {l1 l2 : List Nat} {b : Nat} (h : b ∉ l1) : (l1 ++ b :: l2).idxOf b = l1.length := by
  induction l1 with
  | nil => simp
  | cons a l ih =>
    simp only [List.mem_cons, not_or] at h
    rw [List.cons_append, List.idxOf_cons, ih h.2]
    have : (a == b) = false := by simpa using fun e => h.1 e.symm
    rw [this]; rfl
theorem nod_mid {cb : Nat} {l1 l2 : List Ln} {x : Ln} (h : (cb :: (l1 ++ x :: l2).map (·.b)).Nodup) : x.b ∉ l1.map (·.b) ∧ x.b ∉ l2.map (·.b) ∧ x.b ≠ cb := by
  rw [List.map_append, List.map_cons] at h
  simp only [List.nodup_cons, List.nodup_append, List.mem_append, List.mem_cons, not_or] at h
  obtain ⟨⟨a1, a2, a3⟩, b1, ⟨b2, b3⟩, b4⟩ := h
  exact ⟨fun hm => b4 _ hm _ (.inl rfl) rfl, b2, fun e => a2 e.symm⟩
theorem findA_mid {l1 l2 : List Ln} {x : Ln} (h : ((l1 ++ x :: l2).map (·.at_)).Nodup) : findA (l1 ++ x :: l2) x.at_ = some x ∧ ∀ k, k ≠ x.at_ → findA (l1 ++ x :: l2) k = findA (l1 ++ l2) k := by
  rw [List.map_append, List.map_cons] at h
  simp only [List.nodup_append, List.nodup_cons, List.mem_cons] at h
  obtain ⟨_, _, h3⟩ := h
  constructor
  · unfold findA
    rw [List.find?_append]
    have : l1.find? (fun y => y.at_ == x.at_) = none := by
      rw [List.find?_eq_none]
      intro y hy
      have := h3 y.at_ (List.mem_map.2 ⟨y, hy, rfl⟩) x.at_ (.inl rfl)
      simpa using this
    rw [this]; simp
  · intro k hk
    unfold findA
    rw [List.find?_append, List.find?_append, List.find?_cons]
    have : (x.at_ == k) = false := by simpa using fun e => hk e.symm
    rw [this]
theorem findA_out {l1 l2 : List Ln} {x : Ln} (h : ((l1 ++ x :: l2).map (·.at_)).Nodup) : findA (l1 ++ l2) x.at_ = none := by
  rw [List.map_append, List.map_cons] at h
  simp only [List.nodup_append, List.nodup_cons, List.mem_cons] at h
  obtain ⟨_, ⟨h2, _⟩, h3⟩ := h
  unfold findA
  rw [List.find?_eq_none]
  intro y hy
  rcases List.mem_append.1 hy with h1 | h1
  · have := h3 y.at_ (List.mem_map.2 ⟨y, h1, rfl⟩) x.at_ (.inl rfl)
    simpa using this
  · simp only [beq_iff_eq]
    exact fun e => h2 (e ▸ List.mem_map.2 ⟨y, h1, rfl⟩)
theorem nodup_out {α : Type} {f : Ln → α} {l1 l2 : List Ln} {x : Ln} (h : ((l1 ++ x :: l2).map f).Nodup) : ((l1 ++ l2).map f).Nodup := by
  rw [List.map_append, List.map_cons] at h
  rw [List.map_append]
  simp only [List.nodup_append, List.nodup_cons, List.mem_cons] at h ⊢
  obtain ⟨h1, ⟨_, h2⟩, h3⟩ := h
  exact ⟨h1, h2, fun a ha b hb => h3 a ha b (.inr hb)⟩

/-- What a ring's step keeps of the cache. -/
theorem CaC.link {H : Hp} {cb p : Nat} {size : Int} {row : List Ln} {mp : Nat} (h : CaC H cb p size row mp) {l1 l2 : List Ln} {x : Ln} (e : row = l1 ++ x :: l2) : nxt H x.nd = some (ptrN (match l2 with | [] => (cb, 3) | y :: _ => y.nd)) ∧ LkAt H x := by
  have hs := h.ring.seg
  subst e
  rw [nds_app, nds_cons, List.append_assoc, Seg_app] at hs
  obtain ⟨_, hs⟩ := hs
  refine ⟨?_, h.ring.lks x (by simp)⟩
  cases l2 with
  | nil => exact hs.2.2.1
  | cons y l2 => exact hs.2.2.1
theorem CaC.first {H : Hp} {cb p : Nat} {size : Int} {row : List Ln} {mp : Nat} (h : CaC H cb p size row mp) : nxt H (cb, 3) = some (ptrN (match row with | [] => (cb, 3) | y :: _ => y.nd)) := by
  have hs := h.ring.seg
  cases row with
  | nil => exact hs.1
  | cons y l2 => exact hs.1

set_option maxHeartbeats 1000000 in
theorem room_ok (hc : CaC H cb p size row mp) (hsz : size ≤ 4611686018427387904)
    (k0 : size ≤ fastN row → R (.bool false) H)
    (k1 : fastN row < size → (row.length : Int) < size → R (.bool true) H)
    (k2 : ∀ H' l1 x l2, fastN row < size → size ≤ row.length → row = l1 ++ x :: l2 → (∀ y ∈ l1, y.fast = true) → x.fast = false → H'.size = H.size → Kp (fun b => b = cb ∨ b = mp ∨ b ∈ row.map (·.b)) H H' → CaC H' cb p size (l1 ++ l2) mp → R (.bool true) H') :
    Fc Try.prog 45 #[ptrV cb] H R := by
  refine fn45 ?_
  have hl := map_len hc.map
  simp only [sh45, nilCheckE, Pu_some, addr_ptr, Nat.zero_add, Nat.reduceAdd, load_cel, hc.fast, hc.sz, binE_geq, Ite_dec, hc.has, hl, binE_lss, Any_const]
  refine ⟨k0, fun hf => ⟨fun hlen => k1 (by omega) hlen, fun hlen => ?_⟩⟩
  have hfirst : cel H cb 1030 = _ := hc.first
  simp only [hfirst, Pu_some]
  have hne : row ≠ [] := fun e => by
    subst e
    have : fastN [] = 0 := rfl
    rw [this] at hf; simp only [List.length_nil] at hlen; omega
  refine LoopP.mk (fun t H' => H' = H ∧ ∃ l1 x l2, row = l1 ++ x :: l2 ∧ (∀ y ∈ l1, y.fast = true) ∧ t.1 = ptrV x.b) (fun t _ => posB row t.1) ⟨rfl, ?_⟩ ?_
  · cases row with
    | nil => exact absurd rfl hne
    | cons y l => exact ⟨[], y, l, rfl, by simp, rfl⟩
  · rintro ⟨t, u⟩ H1 ⟨rfl, l1, x, l2, hrow, hall, ht⟩
    simp only at ht
    subst ht
    obtain ⟨hn, c, gx, kx⟩ := hc.link hrow
    have hcf : cel H1 x.b 1025 = some (.bool x.fast) := by rw [cel_of gx]; exact kx.fast
    have hcn : cel H1 x.b 1027 = _ := hn
    have hca : cel H1 x.b 0 = some (.int .i64 x.at_) := by rw [cel_of gx]; exact kx.num
    simp only [nilCheckE, Pu_some, addr_ptr, Nat.zero_add, load_cel, hcf, hcn, Ite_bool]
    refine ⟨fun hx => ?_, fun hx => ?_⟩
    · cases l2 with
      | nil =>
        exfalso
        have : ∀ y ∈ row, y.fast = true := fun y hy => by
          rw [hrow] at hy
          rcases List.mem_append.1 hy with h1 | h1
          · exact hall y h1
          · simp only [List.mem_singleton] at h1; rw [h1]; exact hx
        have := fastN_lt this
        omega
      | cons y l2 =>
        have hno := nod_mid (hrow ▸ hc.ring.nod)
        have hrow2 : row = (l1 ++ [x]) ++ y :: l2 := by rw [hrow]; simp
        have hno2 := nod_mid (hrow2 ▸ hc.ring.nod)
        refine ⟨⟨trivial, l1 ++ [x], y, l2, hrow2, fun z hz => ?_, rfl⟩, ?_⟩
        · rcases List.mem_append.1 hz with h1 | h1
          · exact hall z h1
          · simp only [List.mem_singleton] at h1; rw [h1]; exact hx
        · show row.length - (row.map (·.b)).idxOf y.b < row.length - (row.map (·.b)).idxOf x.b
          have e1 : (row.map (·.b)).idxOf x.b = l1.length := by
            rw [hrow, List.map_append, List.map_cons, idxOf_at hno.1, List.length_map]
          have e2 : (row.map (·.b)).idxOf y.b = l1.length + 1 := by
            rw [hrow2, List.map_append, List.map_cons, idxOf_at hno2.1, List.length_map]; simp
          have e3 : row.length = l1.length + (l2.length + 1 + 1) := by rw [hrow]; simp
          rw [e1, e2, e3]; omega
    · have hring := hc.ring
      rw [hrow] at hring
      have hno := nod_mid hring.nod
      refine leave_ok hring fun H2 hs2 hr2 => ?_
      have hxo : x.b ∉ (l1 ++ l2).map (·.b) := fun hm => by
        rw [List.map_append, List.mem_append] at hm
        rcases hm with h1 | h1
        · exact hno.1 h1
        · exact hno.2.1 h1
      have gx' : H2[x.b]? = some (.cells c 81) := by rw [hs2.blk x.b hno.2.2 hxo]; exact gx
      have hx2 : LkAt H2 x := ⟨c, gx', kx⟩
      obtain ⟨c2, gx2, kx2⟩ := hx2
      have hm2 : cel H2 cb 1031 = some (.map (some mp)) := by rw [hs2.top 1031 (by omega) (by omega)]; exact hc.has
      have ha2 : cel H2 x.b 0 = some (.int .i64 x.at_) := by rw [cel_of gx2]; exact kx2.num
      have hB : ∀ b, b ∈ (l1 ++ l2).map (·.b) → b ∈ row.map (·.b) := fun b hb => by
        rw [hrow]; simp only [List.map_append, List.map_cons, List.mem_append, List.mem_cons] at hb ⊢
        rcases hb with h1 | h1
        · exact .inl h1
        · exact .inr (.inr h1)
      have hmap2 : MapAt H2 mp (fun k => (findA row k).map fun x => ptrV x.b) row.length := hc.map.of (hs2.blk mp hc.mpn.1 fun hm => hc.mpn.2 (hB _ hm))
      simp only [hm2, ha2, Pu_some]
      refine mapDel_i hmap2 fun H3 k3 s3 m3 => ?_
      have hA := hc.nodA
      rw [hrow] at hA
      have hfx := findA_mid hA
      have hc3 : ∀ b o, b ≠ mp → cel H3 b o = cel H2 b o := fun b o hb => cel_same (k3.all s3 fun e => hb e)
      have hmc : cb ≠ mp := fun e => hc.mpn.1 e.symm
      have hmr : ∀ z ∈ l1 ++ l2, z.b ≠ mp := fun z hz e => hc.mpn.2 (e ▸ hB _ (List.mem_map.2 ⟨z, hz, rfl⟩))
      refine k2 H3 l1 x l2 (by omega) (by omega) hrow hall hx (s3.trans hs2.size) ?_ ?_
      · exact (hs2.kp.mono fun b _ hb => by
          rcases hb with h1 | h1
          · exact .inl h1
          · exact .inr (.inr (hB b h1))).trans (k3.mono fun b _ e => .inr (.inl e))
      · refine ⟨⟨?_, fun z hz => ?_, hr2.seg.of (fun z hz => ?_) (fun z hz => ?_), hr2.nod⟩, ?_, ?_, ?_, ?_, ?_, ⟨hc.mpn.1, fun hm => hc.mpn.2 (hB _ hm)⟩, nodup_out hA⟩
        · obtain ⟨ct, g1, g2⟩ := hr2.top
          exact ⟨ct, k3.at g1 (fun e => hmc e), g2⟩
        · obtain ⟨cz, g1, g2⟩ := hr2.lks z hz
          exact ⟨cz, k3.at g1 (fun e => hmr z hz e), g2⟩
        · have hz2 : z ∈ nds (l1 ++ l2) ∨ z = (cb, 3) := by simpa using hz
          refine hc3 _ _ ?_
          rcases hz2 with h1 | h1
          · intro e; obtain ⟨y, hy, he⟩ := List.mem_map.1 (mem_nds.1 h1).2; exact hmr y hy (by rw [he, e])
          · rw [h1]; exact hmc
        · have hz1 := List.dropLast_subset _ hz
          have hz2 : z = (cb, 3) ∨ z ∈ nds (l1 ++ l2) := by
            rcases List.mem_cons.1 hz1 with h1 | h1
            · exact .inl h1
            · have : z ∈ nds (l1 ++ l2) ∨ z = (cb, 3) := by simpa using h1
              exact this.symm
          refine hc3 _ _ ?_
          rcases hz2 with h1 | h1
          · rw [h1]; exact hmc
          · intro e; obtain ⟨y, hy, he⟩ := List.mem_map.1 (mem_nds.1 h1).2; exact hmr y hy (by rw [he, e])
        · rw [hc3 _ _ hmc, hs2.top 0 (by omega) (by omega)]; exact hc.d
        · rw [hc3 _ _ hmc, hs2.top 1 (by omega) (by omega)]; exact hc.sz
        · rw [hc3 _ _ hmc, hs2.top 2 (by omega) (by omega), hc.fast, hrow, fastN_app, fastN_app, fastN_cons, hx]; simp
        · rw [hc3 _ _ hmc]; exact hm2
        · have hlen2 : (if (findA row x.at_).map (fun x => ptrV x.b) = none then row.length else row.length - 1) = (l1 ++ l2).length := by
            rw [hrow, hfx.1]; simp
          rw [hlen2] at m3
          refine m3.congr fun k => ?_
          unfold updM
          by_cases hk : k = x.at_
          · rw [if_pos hk, hk, findA_out hA]; rfl
          · rw [if_neg hk, ← hfx.2 k hk, hrow]
end
end Go.Vc

/- Fs, part H: a link beside its row; room, in plain words. -/
set_option linter.unusedVariables false
set_option linter.unusedSimpArgs false
namespace Go.Vc
open Go.Proofs

/-- A block that is held, in plain words. -/
structure Pl where
  at_ : Int
  data : Blk
  fast : Bool
def Ln.pl (x : Ln) : Pl := ⟨x.at_, x.data, x.fast⟩
def findP (cs : List Pl) (k : Int) : Option Pl := cs.find? fun x => x.at_ == k
def fastP (cs : List Pl) : Int := ((cs.filter (·.fast)).length : Nat)
def outP (cs : List Pl) (k : Int) : List Pl := cs.eraseP fun x => x.at_ == k
def roomP (size : Int) (cs : List Pl) : Option (List Pl) := if size ≤ fastP cs then none else if (cs.length : Int) < size then some cs else some (cs.eraseP fun x => !x.fast)

theorem fastP_map (row : List Ln) : fastP (row.map Ln.pl) = fastN row := by
  unfold fastP fastN
  rw [List.filter_map, List.length_map]; rfl
theorem findP_map (row : List Ln) (k : Int) : findP (row.map Ln.pl) k = (findA row k).map Ln.pl := by
  unfold findP findA
  rw [List.find?_map]; rfl
theorem eraseP_mid {α : Type} {f : α → Bool} {l1 l2 : List α} {x : α} (h1 : ∀ y ∈ l1, f y = false) (h2 : f x = true) : (l1 ++ x :: l2).eraseP f = l1 ++ l2 := by
  induction l1 with
  | nil => simp [h2]
  | cons a l ih =>
    rw [List.cons_append, List.eraseP_cons_of_neg (by rw [h1 a List.mem_cons_self]; decide), ih fun y hy => h1 y (List.mem_cons_of_mem _ hy)]
    rfl
theorem findA_split {row : List Ln} {k : Int} {x : Ln} (h : findA row k = some x) : ∃ l1 l2, row = l1 ++ x :: l2 ∧ x.at_ = k ∧ ∀ y ∈ l1, y.at_ ≠ k := by
  unfold findA at h
  rw [List.find?_eq_some_iff_append] at h
  obtain ⟨h1, l1, l2, h2, h3⟩ := h
  exact ⟨l1, l2, h2, by simpa using h1, fun y hy => by simpa using h3 y hy⟩

/-- The blocks of a row, its cache's and its map's. -/
def BlC (cb mp : Nat) (row : List Ln) : Nat → Prop := fun b => b = cb ∨ b = mp ∨ b ∈ row.map (·.b)

theorem RingAt.of {H H' : Hp} {cb : Nat} {row : List Ln} (h : RingAt H cb row) (hb : ∀ b, b = cb ∨ b ∈ row.map (·.b) → H'[b]? = H[b]?) : RingAt H' cb row := by
  refine ⟨?_, fun z hz => ?_, h.seg.of (fun z hz => ?_) (fun z hz => ?_), h.nod⟩
  · obtain ⟨ct, g1, g2⟩ := h.top
    exact ⟨ct, by rw [hb cb (.inl rfl)]; exact g1, g2⟩
  · obtain ⟨cz, g1, g2⟩ := h.lks z hz
    exact ⟨cz, by rw [hb _ (.inr (List.mem_map.2 ⟨z, hz, rfl⟩))]; exact g1, g2⟩
  · have hz2 : z ∈ nds row ∨ z = (cb, 3) := by simpa using hz
    refine cel_same (hb _ ?_)
    rcases hz2 with h1 | h1
    · exact .inr (mem_nds.1 h1).2
    · rw [h1]; exact .inl rfl
  · have hz1 := List.dropLast_subset _ hz
    have hz2 : z = (cb, 3) ∨ z ∈ nds row := by
      rcases List.mem_cons.1 hz1 with h1 | h1
      · exact .inl h1
      · have : z ∈ nds row ∨ z = (cb, 3) := by simpa using h1
        exact this.symm
    refine cel_same (hb _ ?_)
    rcases hz2 with h1 | h1
    · rw [h1]; exact .inl rfl
    · exact .inr (mem_nds.1 h1).2
theorem CaC.of {H H' : Hp} {cb p mp : Nat} {size : Int} {row : List Ln} (h : CaC H cb p size row mp) (hb : ∀ b, BlC cb mp row b → H'[b]? = H[b]?) : CaC H' cb p size row mp := by
  have hc : ∀ o, cel H' cb o = cel H cb o := fun o => cel_same (hb cb (.inl rfl))
  exact ⟨h.ring.of fun b e => hb b (by rcases e with e | e; exact .inl e; exact .inr (.inr e)), by rw [hc]; exact h.d, by rw [hc]; exact h.sz, by rw [hc]; exact h.fast, by rw [hc]; exact h.has, h.map.of (hb mp (.inr (.inl rfl))), h.mpn, h.nodA⟩
theorem CaC.lt {H : Hp} {cb p mp : Nat} {size : Int} {row : List Ln} (h : CaC H cb p size row mp) : ∀ b, BlC cb mp row b → b < H.size := by
  rintro b (rfl | rfl | hb)
  · obtain ⟨c, g, _⟩ := h.ring.top; exact lt_of_block g
  · exact h.map.lt
  · obtain ⟨x, hx, rfl⟩ := List.mem_map.1 hb
    obtain ⟨c, g, _⟩ := h.ring.lks x hx; exact lt_of_block g

/-- A link that the map knows, and that stands in no row yet. -/
structure OfC (H : Hp) (cb p : Nat) (size : Int) (row : List Ln) (x : Ln) (mp : Nat) : Prop where
  ring : RingAt H cb row
  lk : LkAt H x
  xn : x.b ≠ cb ∧ x.b ∉ row.map (·.b) ∧ mp ≠ x.b
  d : cel H cb 0 = some (ptrV p)
  sz : cel H cb 1 = some (.int .i64 size)
  fast : cel H cb 2 = some (.int .i64 (fastN (row ++ [x])))
  has : cel H cb 1031 = some (.map (some mp))
  map : MapAt H mp (fun k => (findA (row ++ [x]) k).map fun x => ptrV x.b) (row.length + 1)
  mpn : mp ≠ cb ∧ mp ∉ row.map (·.b)
  nodA : ((row ++ [x]).map (·.at_)).Nodup
theorem OfC.of {H H' : Hp} {cb p mp : Nat} {size : Int} {row : List Ln} {x : Ln} (h : OfC H cb p size row x mp) (hb : ∀ b, BlC cb mp (row ++ [x]) b → H'[b]? = H[b]?) : OfC H' cb p size row x mp := by
  have hc : ∀ o, cel H' cb o = cel H cb o := fun o => cel_same (hb cb (.inl rfl))
  have hr : ∀ b, b ∈ row.map (·.b) → b ∈ (row ++ [x]).map (·.b) := fun b hb => by rw [List.map_append]; exact List.mem_append_left _ hb
  refine ⟨h.ring.of fun b e => hb b (by rcases e with e | e; exact .inl e; exact .inr (.inr (hr b e))), ?_, h.xn, by rw [hc]; exact h.d, by rw [hc]; exact h.sz, by rw [hc]; exact h.fast, by rw [hc]; exact h.has, h.map.of (hb mp (.inr (.inl rfl))), h.mpn, h.nodA⟩
  obtain ⟨c, g1, g2⟩ := h.lk
  exact ⟨c, by rw [hb x.b (.inr (.inr (by simp)))]; exact g1, g2⟩

section
variable {H : Hp} {cb p mp : Nat} {size : Int} {R : Value → Hp → Prop}
theorem leave_c {l1 l2 : List Ln} {x : Ln} (hc : CaC H cb p size (l1 ++ x :: l2) mp) (k : ∀ H', H'.size = H.size → Kp (BlC cb mp (l1 ++ x :: l2)) H H' → OfC H' cb p size (l1 ++ l2) x mp → R (.tuple #[]) H') :
    Fc Try.prog 43 #[ptrV x.b] H R := by
  have hno := nod_mid hc.ring.nod
  have hxo : x.b ∉ (l1 ++ l2).map (·.b) := fun hm => by
    rw [List.map_append, List.mem_append] at hm
    rcases hm with h1 | h1
    · exact hno.1 h1
    · exact hno.2.1 h1
  have hB : ∀ b, b ∈ (l1 ++ l2).map (·.b) → b ∈ (l1 ++ x :: l2).map (·.b) := fun b hb => by
    simp only [List.map_append, List.map_cons, List.mem_append, List.mem_cons] at hb ⊢
    rcases hb with h1 | h1
    · exact .inl h1
    · exact .inr (.inr h1)
  have hA := hc.nodA
  have hfx := findA_mid hA
  have hAo : ((l1 ++ l2 ++ [x]).map (·.at_)).Nodup := by
    simp only [List.map_append, List.map_cons, List.map_nil, List.nodup_append, List.nodup_cons, List.mem_cons, List.mem_append, List.append_assoc] at hA ⊢
    obtain ⟨a1, ⟨a2, a3⟩, a4⟩ := hA
    refine ⟨a1, ⟨a3, ⟨by simp, List.nodup_nil⟩, fun a ha b hb e => ?_⟩, fun a ha b hb => ?_⟩
    · rcases hb with rfl | hb
      · subst e; exact a2 ha
      · simp at hb
    · rcases hb with h1 | h1
      · exact a4 a ha b (.inr h1)
      · rcases h1 with h1 | h1
        · exact a4 a ha b (.inl h1)
        · simp at h1
  have hfa : ∀ k, findA (l1 ++ l2 ++ [x]) k = findA (l1 ++ x :: l2) k := fun k => by
    have h2 := findA_mid hAo
    by_cases hk : k = x.at_
    · subst hk; rw [h2.1, hfx.1]
    · rw [h2.2 k hk, hfx.2 k hk, List.append_nil]
  refine leave_ok hc.ring fun H2 hs2 hr2 => k H2 hs2.size (hs2.kp.mono fun b _ hb => ?_) ⟨hr2, ?_, ⟨hno.2.2, hxo, fun e => hc.mpn.2 (by rw [e]; simp)⟩, ?_, ?_, ?_, ?_, ?_, ⟨hc.mpn.1, fun hm => hc.mpn.2 (hB _ hm)⟩, hAo⟩
  · rcases hb with h1 | h1
    · exact .inl h1
    · exact .inr (.inr (hB b h1))
  · obtain ⟨c, gx, kx⟩ := hc.ring.lks x (by simp)
    exact ⟨c, by rw [hs2.blk x.b hno.2.2 hxo]; exact gx, kx⟩
  · rw [hs2.top 0 (by omega) (by omega)]; exact hc.d
  · rw [hs2.top 1 (by omega) (by omega)]; exact hc.sz
  · rw [hs2.top 2 (by omega) (by omega), hc.fast]
    simp only [fastN_app, fastN_cons]
    have : fastN [] = 0 := rfl
    rw [this]
    congr 2; omega
  · rw [hs2.top 1031 (by omega) (by omega)]; exact hc.has
  · have hm := hc.map.of (H' := H2) (hs2.blk mp hc.mpn.1 fun hm => hc.mpn.2 (hB _ hm))
    have : (l1 ++ x :: l2).length = (l1 ++ l2).length + 1 := by simp; omega
    rw [this] at hm
    exact hm.congr fun k => by rw [hfa k]
theorem last_c {row : List Ln} {x : Ln} (ho : OfC H cb p size row x mp) (k : ∀ H', H'.size = H.size → Kp (BlC cb mp (row ++ [x])) H H' → CaC H' cb p size (row ++ [x]) mp → R (.tuple #[]) H') :
    Fc Try.prog 44 #[ptrV cb, ptrV x.b] H R := by
  refine last_ok ho.ring ho.lk ho.xn.1 ho.xn.2.1 fun H2 hs2 hr2 => k H2 hs2.size (hs2.kp.mono fun b _ hb => ?_) ⟨hr2, ?_, ?_, ?_, ?_, ?_, ⟨ho.mpn.1, fun hm => ?_⟩, ho.nodA⟩
  · rcases hb with h1 | h1
    · exact .inl h1
    · exact .inr (.inr h1)
  · rw [hs2.top 0 (by omega) (by omega)]; exact ho.d
  · rw [hs2.top 1 (by omega) (by omega)]; exact ho.sz
  · rw [hs2.top 2 (by omega) (by omega)]; exact ho.fast
  · rw [hs2.top 1031 (by omega) (by omega)]; exact ho.has
  · have hno : mp ∉ (row ++ [x]).map (·.b) := fun hm => by
      rw [List.map_append, List.mem_append] at hm
      rcases hm with h1 | h1
      · exact ho.mpn.2 h1
      · simp only [List.map_cons, List.map_nil, List.mem_singleton] at h1; exact ho.xn.2.2 h1
    have hm := ho.map.of (H' := H2) (hs2.blk mp ho.mpn.1 hno)
    rw [List.length_append]; exact hm
  · rw [List.map_append, List.mem_append] at hm
    rcases hm with h1 | h1
    · exact ho.mpn.2 h1
    · simp only [List.map_cons, List.map_nil, List.mem_singleton] at h1; exact ho.xn.2.2 h1
theorem room_c {row : List Ln} (hc : CaC H cb p size row mp) (hsz : size ≤ 4611686018427387904)
    (k0 : roomP size (row.map Ln.pl) = none → R (.bool false) H)
    (k1 : ∀ H' row', H'.size = H.size → Kp (BlC cb mp row) H H' → CaC H' cb p size row' mp → roomP size (row.map Ln.pl) = some (row'.map Ln.pl) → (∀ y ∈ row', y ∈ row) → R (.bool true) H') :
    Fc Try.prog 45 #[ptrV cb] H R := by
  refine room_ok hc hsz (fun h => k0 (by unfold roomP; rw [fastP_map, if_pos h])) (fun h1 h2 => k1 H row rfl (Kp.refl _ _) hc (by unfold roomP; rw [fastP_map, if_neg (by omega), List.length_map, if_pos h2]) fun y hy => hy)
    fun H' l1 x l2 h1 h2 h3 h4 h5 hs hk hc' => k1 H' (l1 ++ l2) hs hk hc' ?_ fun y hy => ?_
  · unfold roomP
    rw [fastP_map, if_neg (by omega), List.length_map, if_neg (by omega), h3, List.map_append, List.map_cons]
    rw [eraseP_mid (fun y hy => ?_) (by simp [Ln.pl, h5]), List.map_append]
    obtain ⟨z, hz, rfl⟩ := List.mem_map.1 hy
    simp [Ln.pl, h4 z hz]
  · rw [h3]
    rcases List.mem_append.1 hy with h | h
    · exact List.mem_append_left _ h
    · exact List.mem_append_right _ (List.mem_cons_of_mem _ h)
end
end Go.Vc

/- Fs, part I: the cache: reads. -/
set_option linter.unusedVariables false
set_option linter.unusedSimpArgs false
namespace Go.Vc
open Go.Proofs

noncomputable def zLk : Array Value := aggOf (zeroE Try.prog 81)
set_option maxRecDepth 100000 in
theorem zeroLk : zeroE Try.prog 81 = some (.agg zLk) := by kernel_rfl
set_option maxRecDepth 100000 in
theorem zLk_size : zLk.size = 1028 := by kernel_rfl
set_option maxRecDepth 100000 in
theorem zLk_fast : zLk[1025]? = some (.bool false) := by kernel_rfl
set_option maxRecDepth 100000 in
theorem zLk_data : (zLk.toList.drop 1).take 1024 = zB.toList := by kernel_rfl
set_option maxRecDepth 100000 in
theorem plLk : placesE Try.prog 81 = some [(0, 1), (1, 1024), (1025, 1), (1026, 1), (1027, 1)] := by kernel_rfl
noncomputable def lkNew0 (a : Int) : Array Value := splice zLk 0 #[.int .i64 a]
noncomputable def lkNew (a : Int) (d : Blk) : Array Value := splice (lkNew0 a) 1 d
theorem lkNew0_size (a : Int) : (lkNew0 a).size = 1028 := by unfold lkNew0; rw [splice_size (by rw [zLk_size]; simp), zLk_size]
theorem lkNew0_get (a : Int) (j : Nat) : (lkNew0 a)[j]? = if j = 0 then some (.int .i64 a) else zLk[j]? := by
  unfold lkNew0
  rw [splice_get (by rw [zLk_size]; simp)]
  by_cases h : j = 0
  · subst h; simp
  · rw [if_neg (by omega), if_neg (by simp; omega), if_neg h]
theorem lkNew0_c (a : Int) (b : Nat) : LkC (lkNew0 a) ⟨b, a, zB, false⟩ := by
  refine ⟨lkNew0_size a, by rw [lkNew0_get]; rfl, ?_, by rw [lkNew0_get]; exact zLk_fast, zB_is⟩
  apply Array.ext_getElem?
  intro j
  rw [Array.getElem?_extract, lkNew0_size]
  have := congrArg (fun l => l[j]?) zLk_data
  simp only [List.getElem?_take, List.getElem?_drop, Array.getElem?_toList] at this
  by_cases hj : j < 1024
  · rw [if_pos (by omega), lkNew0_get, if_neg (by omega)]
    rw [if_pos hj] at this; exact this
  · rw [if_neg (by omega), Array.getElem?_eq_none (by rw [zB_size]; omega)]
theorem lkNew_c (a : Int) {d : Blk} (hd : IsB d) (b : Nat) : LkC (lkNew a d) ⟨b, a, d, false⟩ := by
  have hs := lkNew0_size a
  have h1 : 1 + d.size ≤ (lkNew0 a).size := by rw [hd.size, hs]; omega
  refine ⟨by unfold lkNew; rw [splice_size h1, hs], ?_, ?_, ?_, hd⟩
  · unfold lkNew; rw [splice_get h1, if_pos (by omega), lkNew0_get]; rfl
  · exact extract_splice_same (n := 1024) (by rw [hs]; omega) hd.size
  · unfold lkNew; rw [splice_get h1, if_neg (by omega), if_neg (by rw [hd.size]; omega), lkNew0_get]; exact zLk_fast
theorem build_lk0 {a : Int} : buildE Try.prog 81 [(0, .int .i64 a)] = some (.agg (lkNew0 a)) := by
  refine build_struct zeroLk plLk ?_
  exact fillS_cons rfl rfl (by rw [zLk_size]; omega) rfl
theorem build_lk {a : Int} {d : Blk} (hd : IsB d) : buildE Try.prog 81 [(0, .int .i64 a), (1, .agg d)] = some (.agg (lkNew a d)) := by
  refine build_struct zeroLk plLk ?_
  refine fillS_cons rfl rfl (by rw [zLk_size]; omega) ?_
  exact fillS_cons rfl hd.size (by have := lkNew0_size a; unfold lkNew0 at this; rw [cells_int, this]; omega) rfl

structure CacheAt (H : Hp) (cb p : Nat) (size : Int) (cs : List Pl) (O : Nat → Prop) : Prop where
  is : ∃ row mp, CaC H cb p size row mp ∧ row.map Ln.pl = cs ∧ (∀ b, BlC cb mp row b → O b)
  lt : ∀ b, O b → b < H.size
theorem CacheAt.of {H H' : Hp} {cb p : Nat} {size : Int} {cs : List Pl} {O : Nat → Prop} (h : CacheAt H cb p size cs O) (hb : ∀ b, O b → H'[b]? = H[b]?) (hle : H.size ≤ H'.size) : CacheAt H' cb p size cs O := by
  obtain ⟨⟨row, mp, h1, h2, h3⟩, hl⟩ := h
  exact ⟨⟨row, mp, h1.of fun b e => hb b (h3 b e), h2, h3⟩, fun b ho => Nat.lt_of_lt_of_le (hl b ho) hle⟩
theorem CacheAt.ext {H H' : Hp} {cb p : Nat} {size : Int} {cs : List Pl} {O : Nat → Prop} (h : CacheAt H cb p size cs O) (hx : Ext H H') : CacheAt H' cb p size cs O := h.of (fun b ho => hx.same b (h.lt b ho)) hx.le
theorem CacheAt.kp {H H' : Hp} {cb p : Nat} {size : Int} {cs : List Pl} {O S : Nat → Prop} (h : CacheAt H cb p size cs O) (hk : Kp S H H') (hs : ∀ b, O b → ¬ S b) : CacheAt H' cb p size cs O := h.of (fun b ho => hk.same b (h.lt b ho) (hs b ho)) hk.le

/-- A read by the cache. -/
def readC (size : Int) (s : DS) (cs : List Pl) (a : Int) : DS × List Pl × Blk × Int :=
  if s.wrong a ≠ 0 then (s, cs, zB, s.wrong a) else
    match findP cs a with
    | some x => (s, outP cs a ++ [x], x.data, 0)
    | none => match roomP size cs with
      | none => (s, cs, zB, 160)
      | some cs1 => ((s.read a).1, cs1 ++ [⟨a, s.now a, false⟩], s.now a, 0)

theorem findA_not {row : List Ln} {k : Int} (h : findA row k = none) : k ∉ row.map (·.at_) := by
  unfold findA at h
  rw [List.find?_eq_none] at h
  intro hm
  obtain ⟨x, hx, he⟩ := List.mem_map.1 hm
  have := h x hx
  simp [he] at this
theorem not_findA {row : List Ln} {k : Int} (h : k ∉ row.map (·.at_)) : findA row k = none := by
  unfold findA
  rw [List.find?_eq_none]
  intro x hx
  simp only [beq_iff_eq]
  exact fun e => h (List.mem_map.2 ⟨x, hx, e⟩)
theorem findA_snoc {row : List Ln} {x : Ln} (h : x.at_ ∉ row.map (·.at_)) (k : Int) : findA (row ++ [x]) k = if k = x.at_ then some x else findA row k := by
  unfold findA
  rw [List.find?_append]
  by_cases hk : k = x.at_
  · subst hk
    have := not_findA h
    unfold findA at this
    rw [this]; simp
  · rw [if_neg hk]
    have h2 : (x.at_ == k) = false := beq_eq_false_iff_ne.2 fun e => hk e.symm
    have : [x].find? (fun y => y.at_ == k) = none := by rw [List.find?_cons, h2]; rfl
    rw [this]; simp
theorem outP_split {l1 l2 : List Ln} {x : Ln} (h : ∀ y ∈ l1, y.at_ ≠ x.at_) : outP ((l1 ++ x :: l2).map Ln.pl) x.at_ = (l1 ++ l2).map Ln.pl := by
  unfold outP
  rw [List.map_append, List.map_cons, eraseP_mid (fun y hy => ?_) (by simp [Ln.pl]), List.map_append]
  obtain ⟨z, hz, rfl⟩ := List.mem_map.1 hy
  simpa [Ln.pl] using h z hz

/-- A new link, laid and made known: it stands beside the row. -/
theorem new_link {H H1 H2 : Hp} {cb p mp : Nat} {size : Int} {row : List Ln} {x : Ln} {c : Array Value} (hc : CaC H cb p size row mp) (hx : Ext H H1) (hb : H.size ≤ x.b) (g : H1[x.b]? = some (.cells c 81)) (kx : LkC c x) (hf : x.fast = false) (ha : findA row x.at_ = none)
    (k2 : Kp (· = mp) H1 H2) (s2 : H2.size = H1.size) (m2 : MapAt H2 mp (updM (fun k => (findA row k).map fun x => ptrV x.b) x.at_ (some (ptrV x.b))) (if (findA row x.at_).map (fun x => ptrV x.b) = none then row.length + 1 else row.length)) : OfC H2 cb p size row x mp := by
  have hbl : ∀ b, b = cb ∨ b ∈ row.map (·.b) → H2[b]? = H[b]? := fun b hb => by
    have hlt : b < H.size := hc.lt b (by rcases hb with e | e; exact .inl e; exact .inr (.inr e))
    rw [k2.all s2 (fun e => by
      rcases hb with h1 | h1
      · exact hc.mpn.1 (e ▸ h1)
      · exact hc.mpn.2 (e ▸ h1)), hx.same b hlt]
  have hcb := hc.lt cb (.inl rfl)
  have hmp := hc.lt mp (.inr (.inl rfl))
  have hcl : ∀ o, cel H2 cb o = cel H cb o := fun o => cel_same (hbl cb (.inl rfl))
  have hat := findA_not ha
  refine ⟨hc.ring.of hbl, ⟨c, k2.at g (fun e => by omega), kx⟩, ⟨by omega, fun hm => ?_, by omega⟩, by rw [hcl]; exact hc.d, by rw [hcl]; exact hc.sz, ?_, by rw [hcl]; exact hc.has, ?_, hc.mpn, ?_⟩
  · have := hc.lt x.b (.inr (.inr hm)); omega
  · rw [hcl, hc.fast, fastN_app, fastN_cons, hf]
    have : fastN [] = 0 := rfl
    rw [this]; simp
  · have : (if (findA row x.at_).map (fun x => ptrV x.b) = none then row.length + 1 else row.length) = row.length + 1 := by rw [ha]; rfl
    rw [this] at m2
    refine m2.congr fun k => ?_
    rw [findA_snoc hat]
    unfold updM
    split <;> rfl
  · rw [List.map_append, List.nodup_append]
    refine ⟨hc.nodA, by simp, fun a ha b hb e => ?_⟩
    simp only [List.map_cons, List.map_nil, List.mem_singleton] at hb
    subst hb; subst e; exact hat ha
end Go.Vc

/- Fs, part J: the cache: the contract of Read. -/
set_option linter.unusedVariables false
set_option linter.unusedSimpArgs false
namespace Go.Vc
open Go.Proofs

theorem zeroLkP : zeroE Try.prog 79 = some (.pointer none) := by kernel_rfl
theorem DS.read_ok {s : DS} {a : Int} (h : s.wrong a = 0) : (s.read a).2.1 = s.now a ∧ (s.read a).2.2 = 0 := by
  unfold DS.wrong at h
  unfold DS.read
  by_cases h1 : s.stopped = true
  · rw [if_pos h1] at h; cases h
  · rw [if_neg h1] at h ⊢
    by_cases h2 : a < 0 ∨ s.n ≤ a
    · rw [if_pos h2] at h; cases h
    · rw [if_neg h2]; exact ⟨rfl, rfl⟩

section
variable {H : Hp} {cb p : Nat} {size : Int} {cs : List Pl} {s : DS} {Od Oc : Nat → Prop} {R : Value → Hp → Prop}
set_option maxHeartbeats 2000000 in
theorem cache_read (hd : DiskAt H p s Od) (hc : CacheAt H cb p size cs Oc) (dis : ∀ b, Od b → ¬ Oc b) (hr : s.reads < 4611686018427387904 ∧ 0 ≤ s.reads) (hsz : size ≤ 4611686018427387904) {a : Int}
    (k : ∀ H' Oc', Kp (fun b => Od b ∨ Oc b) H H' → (∀ b, Oc' b → Oc b ∨ H.size ≤ b) → DiskAt H' p (readC size s cs a).1 Od → CacheAt H' cb p size (readC size s cs a).2.1 Oc' →
      R (.tuple #[.agg (readC size s cs a).2.2.1, .int .i64 (readC size s cs a).2.2.2]) H') :
    Fc Try.prog 15 #[ptrV cb, .int .i64 a] H R := by
  refine fn15 ?_
  simp only [sh15, zeroB, Pu_some]
  refine box_i fun b H1 hb e1 s1 g1 => ?_
  simp only [cells_agg] at g1
  have hd1 := hd.ext e1
  have hc1 := hc.ext e1
  have hbd : ¬ Od b := fun ho => by have := hd.lt b ho; omega
  have hbc : ¬ Oc b := fun ho => by have := hc.lt b ho; omega
  have out : ∀ (H2 : Hp) (c : Blk) (e : Int) (s' : DS) (cs' : List Pl) (Oc' : Nat → Prop), Kp (fun b => Od b ∨ Oc b) H1 H2 → (∀ b, Oc' b → Oc b ∨ H1.size ≤ b) → DiskAt H2 p s' Od → CacheAt H2 cb p size cs' Oc' → (∃ c0, H2[b]? = some (.cells c0 51) ∧ c0.size = 1024) → IsB c → readC size s cs a = (s', cs', c, e) →
      Pu (storeE (some 1024) (.pointer (some ⟨b, 0, none⟩)) (.agg c) H2) fun H3 => Pu (loadE (some (some 1024)) (.pointer (some ⟨b, 0, none⟩)) H3) fun x6 => R (.tuple #[x6, .int .i64 e]) H3 := by
    intro H2 c e s' cs' Oc' hk hn hd2 hc2 ⟨c0, g2, hc0⟩ hcB heq
    refine storeAll_i g2 hc0 hcB.size hcB.ok fun H3 k3 s3 g3 => ?_
    rw [load_all g3 hcB.size, Pu_some]
    have hkk : Kp (fun b => Od b ∨ Oc b) H H3 := ⟨Nat.le_trans e1.le (Nat.le_trans hk.le k3.le), fun j hj hn => by rw [k3.same j (Nat.lt_of_lt_of_le hj (Nat.le_trans e1.le hk.le)) (by omega), hk.same j (Nat.lt_of_lt_of_le hj e1.le) hn, e1.same j hj]⟩
    have := k H3 Oc' hkk (fun j hj => by
      rcases hn j hj with h1 | h1
      · exact .inl h1
      · exact .inr (by omega))
    rw [heq] at this
    have hbc' : ¬ Oc' b := fun ho => by
      rcases hn b ho with h1 | h1
      · exact hbc h1
      · omega
    exact this (hd2.kp k3 fun j hj e => hbd (e ▸ hj)) (hc2.kp k3 fun j hj e => hbc' (e ▸ hj))
  obtain ⟨⟨row, mp, hC, hpl, hO⟩, hlt⟩ := hc1
  refine cache_check hd1 hC ?_
  simp only [binE_neq, Pu_some, Ite_dec]
  refine ⟨fun hw => ?_, fun hw => ?_⟩
  · simp only [buildB, Pu_some]
    exact out H1 zB (s.wrong a) s cs Oc (Kp.refl _ _) (fun j hj => .inl hj) hd1 ⟨⟨row, mp, hC, hpl, hO⟩, hlt⟩ ⟨_, g1, zB_size⟩ zB_is (by unfold readC; rw [if_pos hw])
  · have hw : s.wrong a = 0 := Classical.not_not.1 hw
    simp only [nilCheckE, Pu_some, addr_ptr, Nat.zero_add, load_cel, hC.has]
    rw [map_look hC.map]
    have hBO : ∀ j, BlC cb mp row j → ¬ Od j := fun j hj ho => dis j ho (hO j hj)
    cases hfa : findA row a with
    | some x =>
      obtain ⟨l1, l2, hrow, hxa, hl1⟩ := findA_split hfa
      simp only [Option.map_some, lookO_some, mkOk, if_true, Pu_some, extractE, List.getElem?_toArray, List.getElem?_cons_zero, List.getElem?_cons_succ, Ite_true]
      subst hrow
      refine leave_c hC fun H2 s2 k2 ho2 => ?_
      refine last_c ho2 fun H3 s3 k3 hc3 => ?_
      have hsub : ∀ j, BlC cb mp (l1 ++ l2 ++ [x]) j → BlC cb mp (l1 ++ x :: l2) j := fun j hj => by
        rcases hj with h1 | h1 | h1
        · exact .inl h1
        · exact .inr (.inl h1)
        · refine .inr (.inr ?_)
          simp only [List.map_append, List.map_cons, List.map_nil, List.mem_append, List.mem_cons, List.not_mem_nil, or_false] at h1 ⊢
          rcases h1 with (h1 | h1) | h1
          · exact .inl h1
          · exact .inr (.inr h1)
          · exact .inr (.inl h1)
      have k13 : Kp (BlC cb mp (l1 ++ x :: l2)) H1 H3 := k2.tr k3 (fun j _ h => h) fun j _ h => hsub j h
      obtain ⟨c, gx, kx⟩ := hc3.ring.lks x (by simp)
      have hrow2 : loadE (some (some 1024)) (.pointer (some ⟨x.b, 1, none⟩)) H3 = some (.agg x.data) := by
        rw [load_row gx (by rw [kx.size]; omega)]; rw [show (1 + 1024 : Nat) = 1025 from rfl, kx.data]
      simp only [nilCheckE, Pu_some, addr_ptr, Nat.zero_add, hrow2]
      have gb3 := k13.at g1 fun hj => hbc (hO b hj)
      refine out H3 x.data 0 s (outP cs a ++ [x.pl]) Oc (k13.mono fun j _ hj => .inr (hO j hj)) (fun j hj => .inl hj) (hd1.kp k13 fun j hj h => hBO j h hj) ⟨⟨_, mp, hc3, ?_, fun j hj => hO j (hsub j hj)⟩, fun j hj => by rw [s3, s2]; exact hlt j hj⟩ ⟨_, gb3, zB_size⟩ kx.isB ?_
      · rw [List.map_append, ← hpl, ← hxa, outP_split fun y hy => by rw [hxa]; exact hl1 y hy]; rfl
      · unfold readC
        rw [if_neg (by rw [hw]; exact fun h => h rfl), ← hpl, findP_map, hfa]
        rfl
    | none =>
      simp only [Option.map_none, zeroLkP, lookO_none, mkOk, if_true, Pu_some, extractE, List.getElem?_toArray, List.getElem?_cons_zero, List.getElem?_cons_succ, Ite_false]
      refine room_c hC hsz (fun hn => ?_) (fun H7 row' s7 k7 hc7 hrm hsub => ?_)
      · simp only [unE_not, Pu_some, Bool.not_false, Ite_true, buildB]
        refine out H1 zB 160 s cs Oc (Kp.refl _ _) (fun j hj => .inl hj) hd1 ⟨⟨row, mp, hC, hpl, hO⟩, hlt⟩ ⟨_, g1, zB_size⟩ zB_is ?_
        unfold readC
        rw [if_neg (by rw [hw]; exact fun h => h rfl), ← hpl, findP_map, hfa, Option.map_none, hn]
      · have hBs : ∀ j, BlC cb mp row' j → BlC cb mp row j := fun j hj => by
          rcases hj with h1 | h1 | h1
          · exact .inl h1
          · exact .inr (.inl h1)
          · obtain ⟨y, hy, rfl⟩ := List.mem_map.1 h1
            exact .inr (.inr (List.mem_map.2 ⟨y, hsub y hy, rfl⟩))
        simp only [unE_not, Pu_some, Bool.not_true, Ite_false, hc7.d]
        have hd7 : DiskAt H7 p s Od := hd1.kp k7 fun j hj h => hBO j h hj
        obtain ⟨hr1, hr2⟩ := DS.read_ok hw
        refine disk_read hd7 hr fun H9 st9 hd9 => ?_
        rw [hr1, hr2]
        have hnow := hd7.now_is a
        simp only [extractE, List.getElem?_toArray, List.getElem?_cons_zero, List.getElem?_cons_succ, Pu_some, zeroB]
        refine box_i fun b10 H10 hb10 e10 s10 g10 => ?_
        simp only [cells_agg] at g10
        refine storeAll_i g10 zB_size hnow.size hnow.ok fun H11 k11 s11 g11 => ?_
        have e911 : Ext H9 H11 := (e10.kp (· = b10)).trans k11 |>.ext fun k hk e => by omega
        simp only [binE_neq, Pu_some, show decide ((0 : Int) ≠ 0) = false from rfl, Ite_false, load_all g11 hnow.size, build_lk hnow]
        have hc11 : CaC H11 cb p size row' mp := hc7.of fun j hj => by
          rw [e911.same j (Nat.lt_of_lt_of_le (hc7.lt j hj) st9.kp.le), st9.kp.same j (hc7.lt j hj) (hBO j (hBs j hj))]
        have hd11 := hd9.ext e911
        refine box_i fun b13 H13 hb13 e13 s13 g13 => ?_
        simp only [cells_agg] at g13
        have hm13 : cel H13 cb 1031 = some (.map (some mp)) := by
          rw [cel_same (e13.same cb (hc11.lt cb (.inl rfl)))]; exact hc11.has
        simp only [hm13, Pu_some]
        refine mapSet_i (hc11.map.ext e13) fun H14 k14 s14 m14 => ?_
        have hfa' : findA row' a = none := not_findA fun hm => by
          obtain ⟨y, hy, he⟩ := List.mem_map.1 hm
          exact findA_not hfa (List.mem_map.2 ⟨y, hsub y hy, he⟩)
        have hof : OfC H14 cb p size row' ⟨b13, a, s.now a, false⟩ mp := new_link (x := ⟨b13, a, s.now a, false⟩) hc11 e13 (Nat.le_of_eq hb13) g13 (lkNew_c a hnow b13) rfl hfa' k14 s14 m14
        refine last_c hof fun H15 s15 k15 hc15 => ?_
        have l1 := st9.kp.le
        have l2 := e911.le
        have l3 := e13.le
        have hB15 : ∀ j, BlC cb mp (row' ++ [⟨b13, a, s.now a, false⟩]) j → BlC cb mp row' j ∨ j = b13 := fun j hj => by
          rcases hj with h1 | h1 | h1
          · exact .inl (.inl h1)
          · exact .inl (.inr (.inl h1))
          · rw [List.map_append, List.mem_append] at h1
            rcases h1 with h1 | h1
            · exact .inl (.inr (.inr h1))
            · exact .inr (by simpa using h1)
        have hmO : Oc mp := hO mp (.inr (.inl rfl))
        have kk : Kp (fun b => Od b ∨ Oc b) H1 H15 := by
          refine ⟨by omega, fun j hj hn => ?_⟩
          have hj11 : j < H11.size := by omega
          have q1 : ¬ BlC cb mp row' j := fun h => hn (.inr (hO j (hBs j h)))
          rw [k15.same j (by omega) (fun h => by
            rcases hB15 j h with h1 | h1
            · exact q1 h1
            · omega), k14.same j (by omega) (fun e => hn (.inr (e ▸ hmO))), e13.same j hj11, e911.same j (by omega), st9.kp.same j (by omega) (fun h => hn (.inl h)), k7.same j hj fun h => hn (.inr (hO j h))]
        have gb : ∃ c0, H15[b]? = some (.cells c0 51) ∧ c0.size = 1024 := ⟨_, kk.at g1 (fun h => by rcases h with h | h; exact hbd h; exact hbc h), zB_size⟩
        have hb10b : ∀ j, BlC cb mp row' j → j ≠ b10 := fun j hj e => by have := hc7.lt j hj; omega
        have hb13b : b13 ≠ b10 := by omega
        have g15 : H15[b10]? = some (.cells (s.now a) 51) := by
          rw [k15.same b10 (by omega) (fun h => by
            rcases hB15 b10 h with h1 | h1
            · exact hb10b b10 h1 rfl
            · omega), k14.same b10 (by omega) (fun e => hb10b mp (.inr (.inl rfl)) e.symm), e13.same b10 (by omega)]
          exact g11
        simp only [load_all g15 hnow.size, Pu_some]
        have hd15 : DiskAt H15 p (s.read a).1 Od := by
          refine hd11.of (fun j hj => ?_) (by omega)
          have hjl := hd11.lt j hj
          rw [k15.same j (by omega) (fun h => by
            rcases hB15 j h with h1 | h1
            · exact hBO j (hBs j h1) hj
            · omega), k14.same j (by omega) (fun e => hBO mp (.inr (.inl rfl)) (e ▸ hj)), e13.same j hjl]
        refine out H15 (s.now a) 0 (s.read a).1 (row'.map Ln.pl ++ [⟨a, s.now a, false⟩]) (fun j => Oc j ∨ j = b13) kk (fun j hj => ?_) hd15 ⟨⟨_, mp, hc15, by rw [List.map_append]; rfl, fun j hj => ?_⟩, fun j hj => ?_⟩ gb hnow ?_
        · rcases hj with h1 | h1
          · exact .inl h1
          · exact .inr (by omega)
        · rcases hB15 j hj with h1 | h1
          · exact .inl (hO j (hBs j h1))
          · exact .inr h1
        · rcases hj with h1 | h1
          · have := hlt j h1; omega
          · omega
        · unfold readC
          rw [if_neg (by rw [hw]; exact fun h => h rfl), ← hpl, findP_map, hfa, Option.map_none, hrm]
end
end Go.Vc

/- Fs, part K: the cache: the contract of Put. -/
set_option linter.unusedVariables false
set_option linter.unusedSimpArgs false
namespace Go.Vc
open Go.Proofs

theorem findA_like {l1 l2 : List Ln} {x x' : Ln} (hb : x'.b = x.b) (ha : x'.at_ = x.at_) (k : Int) : (findA (l1 ++ x' :: l2) k).map (fun x => ptrV x.b) = (findA (l1 ++ x :: l2) k).map (fun x => ptrV x.b) := by
  unfold findA
  rw [List.find?_append, List.find?_append, List.find?_cons, List.find?_cons, ha]
  cases l1.find? (fun y => y.at_ == k) with
  | some y => rfl
  | none =>
    by_cases hk : (x.at_ == k) = true
    · simp only [hk]; simp [hb]
    · have : (x.at_ == k) = false := by simpa using hk
      simp only [this]
theorem map_like {α : Type} {f : Ln → α} {l1 l2 : List Ln} {x x' : Ln} (h : f x' = f x) : (l1 ++ x' :: l2).map f = (l1 ++ x :: l2).map f := by
  rw [List.map_append, List.map_cons, List.map_append, List.map_cons, h]
theorem OfC.upd {H H' : Hp} {cb p mp : Nat} {size : Int} {row : List Ln} {x x' : Ln} (h : OfC H cb p size row x mp) (hb : x'.b = x.b) (ha : x'.at_ = x.at_) (hk : ∀ b, b ≠ cb → b ≠ x.b → H'[b]? = H[b]?) (hl : LkAt H' x') (hs : Sh H' cb 1032 83)
    (hc : ∀ o, o ≠ 2 → cel H' cb o = cel H cb o) (hf : cel H' cb 2 = some (.int .i64 (fastN (row ++ [x'])))) : OfC H' cb p size row x' mp := by
  have hcr : cb ∉ row.map (·.b) := (List.nodup_cons.1 h.ring.nod).1
  have hcel : ∀ z : Nd, (z = (cb, 3) ∨ z ∈ nds row) → (nxt H' z = nxt H z ∧ prv H' z = prv H z) := fun z hz => by
    rcases hz with rfl | hz
    · exact ⟨hc _ (by simp), hc _ (by simp)⟩
    · have hm := (mem_nds.1 hz).2
      have e := hk z.1 (fun e => hcr (e ▸ hm)) (fun e => h.xn.2.1 (e ▸ hm))
      exact ⟨cel_same e, cel_same e⟩
  refine ⟨⟨hs, fun z hz => ?_, h.ring.seg.of (fun z hz => ?_) (fun z hz => ?_), h.ring.nod⟩, hl, ?_, by rw [hc 0 (by omega)]; exact h.d, by rw [hc 1 (by omega)]; exact h.sz, hf, by rw [hc 1031 (by omega)]; exact h.has, ?_, h.mpn, ?_⟩
  · obtain ⟨c, g1, g2⟩ := h.ring.lks z hz
    have hm : z.b ∈ row.map (·.b) := List.mem_map.2 ⟨z, hz, rfl⟩
    exact ⟨c, by rw [hk z.b (fun e => hcr (e ▸ hm)) (fun e => h.xn.2.1 (e ▸ hm))]; exact g1, g2⟩
  · have hz2 : z ∈ nds row ∨ z = (cb, 3) := by simpa using hz
    exact (hcel z hz2.symm).2
  · have hz1 := List.dropLast_subset _ hz
    refine (hcel z ?_).1
    rcases List.mem_cons.1 hz1 with h1 | h1
    · exact .inl h1
    · have : z ∈ nds row ∨ z = (cb, 3) := by simpa using h1
      exact this.symm
  · rw [hb]; exact h.xn
  · have hm := h.map.of (H' := H') (hk mp h.mpn.1 h.xn.2.2)
    exact hm.congr fun k => findA_like hb ha k
  · rw [map_like (f := (·.at_)) ha]; exact h.nodA

def baseC (size : Int) (cs : List Pl) (a : Int) : Option (List Pl) :=
  match findP cs a with
  | some _ => some (outP cs a)
  | none => roomP size cs
theorem baseC_len {size : Int} {cs c1 : List Pl} {a : Int} (h : baseC size cs a = some c1) : c1.length ≤ cs.length := by
  unfold baseC at h
  split at h
  · injection h with h; subst h; exact List.length_eraseP_le
  · unfold roomP at h
    split at h
    · cases h
    · split at h
      · injection h with h; subst h; exact Nat.le_refl _
      · injection h with h; subst h; exact List.length_eraseP_le
/-- What is put. -/
def putC (size : Int) (s : DS) (cs : List Pl) (a : Int) (b : Blk) : List Pl × Int :=
  if s.wrong a ≠ 0 then (cs, s.wrong a) else
    match baseC size cs a with
    | none => (cs, 160)
    | some c1 => (c1 ++ [⟨a, b, true⟩], 0)

theorem LkC.setFast {c : Array Value} {x : Ln} (h : LkC c x) (v : Bool) : LkC (c.setIfInBounds 1025 (.bool v)) { x with fast := v } := by
  obtain ⟨h1, h2, h3, h4, h5⟩ := h
  refine ⟨by simpa using h1, ?_, ?_, ?_, h5⟩
  · rw [Array.getElem?_setIfInBounds, if_neg (by omega)]; exact h2
  · rw [extract_set_out (o := 1) (n := 1024) (.inr (by omega))]; exact h3
  · rw [Array.getElem?_setIfInBounds, if_pos rfl, if_pos (by rw [h1]; omega)]
theorem LkC.setData {c : Array Value} {x : Ln} (h : LkC c x) {d : Blk} (hd : IsB d) : LkC (splice c 1 d) { x with data := d } := by
  obtain ⟨h1, h2, h3, h4, h5⟩ := h
  have hs : 1 + d.size ≤ c.size := by rw [hd.size, h1]; omega
  refine ⟨by rw [splice_size hs, h1], ?_, extract_splice_same (n := 1024) (by omega) hd.size, ?_, hd⟩
  · rw [splice_get hs, if_pos (by omega)]; exact h2
  · rw [splice_get hs, if_neg (by omega), if_neg (by rw [hd.size]; omega)]; exact h4

section
variable {H : Hp} {cb p : Nat} {size : Int} {cs : List Pl} {s : DS} {Od Oc : Nat → Prop} {R : Value → Hp → Prop}
set_option maxHeartbeats 2000000 in
theorem cache_put (hd : DiskAt H p s Od) (hc : CacheAt H cb p size cs Oc) (dis : ∀ b, Od b → ¬ Oc b) (hsz : size ≤ 4611686018427387904) (hcl : (cs.length : Int) < 4611686018427387904) {a : Int} {d : Blk} (hB : IsB d)
    (k : ∀ H' Oc', Kp Oc H H' → (∀ b, Oc' b → Oc b ∨ H.size ≤ b) → DiskAt H' p s Od → CacheAt H' cb p size (putC size s cs a d).1 Oc' →
      R (.int .i64 (putC size s cs a d).2) H') :
    Fc Try.prog 16 #[ptrV cb, .int .i64 a, .agg d] H R := by
  refine fn16 ?_
  simp only [sh16, Any_const]
  refine box_i fun b H1 hb e1 s1 g1 => ?_
  simp only [cells_agg] at g1
  have hd1 := hd.ext e1
  have hc1 := hc.ext e1
  have hbc : ¬ Oc b := fun ho => by have := hc.lt b ho; omega
  have out : ∀ (H2 : Hp) (e : Int) (cs' : List Pl) (Oc' : Nat → Prop), Kp Oc H1 H2 → (∀ b, Oc' b → Oc b ∨ H1.size ≤ b) → CacheAt H2 cb p size cs' Oc' → putC size s cs a d = (cs', e) → R (.int .i64 e) H2 := by
    intro H2 e cs' Oc' hk hn hc2 heq
    have := k H2 Oc' ⟨Nat.le_trans e1.le hk.le, fun j hj hn => by rw [hk.same j (Nat.lt_of_lt_of_le hj e1.le) hn, e1.same j hj]⟩ (fun j hj => by
      rcases hn j hj with h1 | h1
      · exact .inl h1
      · exact .inr (by omega)) (hd1.kp hk fun j hj h => dis j hj h)
    rw [heq] at this
    exact this hc2
  obtain ⟨⟨row, mp, hC, hpl, hO⟩, hlt⟩ := hc1
  refine cache_check hd1 hC ?_
  simp only [binE_neq, Pu_some, Ite_dec]
  refine ⟨fun hw => ?_, fun hw => ?_⟩
  · exact out H1 (s.wrong a) cs Oc (Kp.refl _ _) (fun j hj => .inl hj) ⟨⟨row, mp, hC, hpl, hO⟩, hlt⟩ (by unfold putC; rw [if_pos hw])
  · have hw : s.wrong a = 0 := Classical.not_not.1 hw
    simp only [nilCheckE, Pu_some, addr_ptr, Nat.zero_add, load_cel, hC.has]
    rw [map_look hC.map]
    have lk : ∃ v w, lookO true (zeroE Try.prog 79) ((findA row a).map fun x => ptrV x.b) = some (.tuple #[v, .bool w]) ∧ (∀ x, findA row a = some x → v = ptrV x.b ∧ w = true) ∧ (findA row a = none → w = false) := by
      cases hfa : findA row a with
      | some x => exact ⟨_, _, rfl, fun y hy => by injection hy with hy; subst hy; exact ⟨rfl, rfl⟩, fun h => by cases h⟩
      | none => rw [zeroLkP]; exact ⟨_, _, rfl, (fun y hy => by cases hy), fun _ => rfl⟩
    obtain ⟨v, w, hlk, hv1, hv2⟩ := lk
    rw [hlk]
    simp only [Pu_some, extractE, List.getElem?_toArray, List.getElem?_cons_zero, List.getElem?_cons_succ]
    refine Join.mk (fun t H3 => ∃ row1 x, t.1 = ptrV x.b ∧ x.at_ = a ∧ OfC H3 cb p size row1 x mp ∧ baseC size cs a = some (row1.map Ln.pl) ∧ Kp Oc H1 H3 ∧ (∀ j, BlC cb mp (row1 ++ [x]) j → (Oc j ∨ H1.size ≤ j) ∧ j < H3.size) ∧ (H1.size ≤ H3.size)) ?_ ?_
    · rintro ⟨t, u⟩ H3 ⟨row1, x, ht, hxa, ho, hbase, k3, hO3, hl3⟩
      simp only at ht
      subst ht
      obtain ⟨cx, gx, kx⟩ := ho.lk
      have hcx : cel H3 x.b 1025 = some (.bool x.fast) := by rw [cel_of gx]; exact kx.fast
      have hcb : cb ∉ row1.map (·.b) := (List.nodup_cons.1 ho.ring.nod).1
      obtain ⟨ct, gt, st⟩ := ho.ring.top
      have hxO : ∀ j, (j = cb ∨ j = x.b) → Oc j ∨ H1.size ≤ j := fun j hj => by
        rcases hj with rfl | rfl
        · exact (hO3 _ (.inl rfl)).1
        · exact (hO3 _ (.inr (.inr (by simp)))).1
      refine Join.mk (fun _ H4 => OfC H4 cb p size row1 { x with fast := true } mp ∧ Kp Oc H1 H4 ∧ H4.size = H3.size) ?_ ?_
      · rintro _ H4 ⟨ho4, k4, s4⟩
        have gb4 := k4.at g1 hbc
        simp only [load_all gb4 hB.size, Pu_some, nilCheckE, addr_ptr, Nat.zero_add]
        obtain ⟨c4, gx4, kx4⟩ := ho4.lk
        refine storeRow_i gx4 (by have := kx4.size; omega) hB.size hB.ok fun H5 k5 s5 g5 => ?_
        have hall : ∀ j, j ≠ x.b → H5[j]? = H4[j]? := fun j hj => k5.all s5 hj
        have ho5 : OfC H5 cb p size row1 ⟨x.b, x.at_, d, true⟩ mp := by
          refine ho4.upd (x' := ⟨x.b, x.at_, d, true⟩) rfl rfl (fun j _ hj => hall j hj) ⟨_, g5, kx4.setData hB⟩ ?_ (fun o _ => cel_same (hall cb (fun e => ho.xn.1 e.symm))) ?_
          · obtain ⟨c, q1, q2⟩ := ho4.ring.top
            exact ⟨c, by rw [hall cb (fun e => ho.xn.1 e.symm)]; exact q1, q2⟩
          · rw [cel_same (hall cb (fun e => ho.xn.1 e.symm)), ho4.fast]
            simp only [fastN_app, fastN_cons]
        refine last_c (x := ⟨x.b, x.at_, d, true⟩) ho5 fun H6 s6 k6 hc6 => ?_
        have hbl : ∀ j, BlC cb mp (row1 ++ [⟨x.b, x.at_, d, true⟩]) j → BlC cb mp (row1 ++ [x]) j := fun j hj => by
          rcases hj with h1 | h1 | h1
          · exact .inl h1
          · exact .inr (.inl h1)
          · exact .inr (.inr (by rw [List.map_append] at h1 ⊢; exact h1))
        refine out H6 0 (row1.map Ln.pl ++ [⟨a, d, true⟩]) (fun j => Oc j ∨ BlC cb mp (row1 ++ [x]) j) ⟨by have := k4.le; omega, fun j hj hn => ?_⟩ (fun j hj => ?_) ⟨⟨_, mp, hc6, ?_, fun j hj => .inr (hbl j hj)⟩, fun j hj => ?_⟩ ?_
        · have hjx : j ≠ x.b := fun e => by
            rcases hxO j (.inr e) with h1 | h1
            · exact hn h1
            · omega
          rw [k6.same j (by have := k4.le; omega) (fun h => by
            rcases (hO3 j (hbl j h)).1 with h1 | h1
            · exact hn h1
            · omega), hall j hjx, k4.same j hj hn]
        · rcases hj with h1 | h1
          · exact .inl h1
          · exact (hO3 j h1).1
        · rw [List.map_append, ← hxa]; rfl
        · rcases hj with h1 | h1
          · have := hlt j h1; omega
          · have := (hO3 j h1).2; omega
        · unfold putC
          rw [if_neg (by rw [hw]; exact fun h => h rfl), hbase]
      · simp only [nilCheckE, Pu_some, addr_ptr, Nat.zero_add, load_cel, hcx, unE_not, Ite_not]
        refine ⟨fun hf => ?_, fun hf => ?_⟩
        · refine set_cel (n := 0) gx (by rw [kx.size]; omega) rfl rfl fun H4 q4 g4 => ?_
          have hcbx : cb ≠ x.b := fun e => ho.xn.1 e.symm
          have hfc : cel H4 cb 2 = some (.int .i64 (fastN (row1 ++ [x]))) := by rw [q4.cel, if_neg (fun e => hcbx e.1)]; exact ho.fast
          have hfl : fastN (row1 ++ [x]) = fastN row1 := by
            rw [fastN_app, fastN_cons, hf]
            have : fastN [] = 0 := rfl
            rw [this]; simp
          have hft : fastN (row1 ++ [{ x with fast := true }]) = fastN row1 + 1 := by
            rw [fastN_app, fastN_cons]
            have : fastN [] = 0 := rfl
            rw [this]; simp
          have hfb := fastN_le row1
          have hlen : (row1.length : Int) < 4611686018427387904 := by
            have := baseC_len hbase
            rw [List.length_map] at this; omega
          simp only [nilCheckE, Pu_some, addr_ptr, Nat.zero_add, load_cel, hfc, binE_add, hfl]
          rw [i64wrap_id (by omega) (by omega)]
          have gt4 : H4[cb]? = some (.cells ct 83) := by rw [q4.blk cb hcbx]; exact gt
          refine set_cel (n := 0) gt4 (by omega) rfl rfl fun H5 q5 g5 => ?_
          refine ⟨ho.upd (x' := { x with fast := true }) rfl rfl (fun j h1 h2 => by rw [q5.blk j h1, q4.blk j h2]) ⟨_, by rw [q5.blk x.b (fun e => hcbx e.symm)]; exact g4, kx.setFast true⟩ ⟨_, g5, by simpa using st⟩ (fun o ho => ?_) ?_, ⟨by rw [q5.size, q4.size]; exact k3.le, fun j hj hn => ?_⟩, by rw [q5.size, q4.size]⟩
          · rw [q5.cel, if_neg (by omega), q4.cel, if_neg (fun e => hcbx e.1)]
          · rw [q5.cel, if_pos ⟨rfl, rfl⟩, hft]
          · have h1 : j ≠ cb := fun e => by
              rcases hxO j (.inl e) with h | h
              · exact hn h
              · omega
            have h2 : j ≠ x.b := fun e => by
              rcases hxO j (.inr e) with h | h
              · exact hn h
              · omega
            rw [q5.blk j h1, q4.blk j h2, k3.same j hj hn]
        · have : ({ x with fast := true } : Ln) = x := by
            obtain ⟨x1, x2, x3, x4⟩ := x
            simp only at hf
            subst hf; rfl
          rw [this]
          exact ⟨ho, k3, trivial⟩
    · cases hfa : findA row a with
      | some x =>
        obtain ⟨l1, l2, hrow, hxa, hl1⟩ := findA_split hfa
        obtain ⟨rfl, rfl⟩ := hv1 x hfa
        simp only [Ite_true]
        subst hrow
        refine leave_c hC fun H2 s2 k2 ho2 => ?_
        have hsub : ∀ j, BlC cb mp (l1 ++ l2 ++ [x]) j → BlC cb mp (l1 ++ x :: l2) j := fun j hj => by
          rcases hj with h1 | h1 | h1
          · exact .inl h1
          · exact .inr (.inl h1)
          · refine .inr (.inr ?_)
            simp only [List.map_append, List.map_cons, List.map_nil, List.mem_append, List.mem_cons, List.not_mem_nil, or_false] at h1 ⊢
            rcases h1 with (h1 | h1) | h1
            · exact .inl h1
            · exact .inr (.inr h1)
            · exact .inr (.inl h1)
        refine ⟨l1 ++ l2, x, rfl, hxa, ho2, ?_, k2.mono fun j _ hj => hO j hj, fun j hj => ⟨.inl (hO j (hsub j hj)), by rw [s2]; exact hlt j (hO j (hsub j hj))⟩, Nat.le_of_eq s2.symm⟩
        unfold baseC
        rw [← hpl, findP_map, hfa, Option.map_some, ← hxa, outP_split fun y hy => by rw [hxa]; exact hl1 y hy]
      | none =>
        have := hv2 hfa
        subst this
        simp only [Ite_false]
        refine room_c hC hsz (fun hn => ?_) (fun H7 row' s7 k7 hc7 hrm hsub => ?_)
        · simp only [unE_not, Pu_some, Bool.not_false, Ite_true]
          refine out H1 160 cs Oc (Kp.refl _ _) (fun j hj => .inl hj) ⟨⟨row, mp, hC, hpl, hO⟩, hlt⟩ ?_
          unfold putC baseC
          rw [if_neg (by rw [hw]; exact fun h => h rfl), ← hpl, findP_map, hfa, Option.map_none, hn]
        · have hBs : ∀ j, BlC cb mp row' j → BlC cb mp row j := fun j hj => by
            rcases hj with h1 | h1 | h1
            · exact .inl h1
            · exact .inr (.inl h1)
            · obtain ⟨y, hy, rfl⟩ := List.mem_map.1 h1
              exact .inr (.inr (List.mem_map.2 ⟨y, hsub y hy, rfl⟩))
          simp only [unE_not, Pu_some, Bool.not_true, Ite_false, build_lk0]
          refine box_i fun b13 H13 hb13 e13 s13 g13 => ?_
          simp only [cells_agg] at g13
          have hm13 : cel H13 cb 1031 = some (.map (some mp)) := by
            rw [cel_same (e13.same cb (hc7.lt cb (.inl rfl)))]; exact hc7.has
          simp only [hm13, Pu_some]
          refine mapSet_i (hc7.map.ext e13) fun H14 k14 s14 m14 => ?_
          have hfa' : findA row' a = none := not_findA fun hm => by
            obtain ⟨y, hy, he⟩ := List.mem_map.1 hm
            exact findA_not hfa (List.mem_map.2 ⟨y, hsub y hy, he⟩)
          have hof : OfC H14 cb p size row' ⟨b13, a, zB, false⟩ mp := new_link (x := ⟨b13, a, zB, false⟩) hc7 e13 (Nat.le_of_eq hb13) g13 (lkNew0_c a b13) rfl hfa' k14 s14 m14
          have hmO : Oc mp := hO mp (.inr (.inl rfl))
          refine ⟨row', ⟨b13, a, zB, false⟩, rfl, rfl, hof, ?_, ⟨by have := e13.le; omega, fun j hj hn => ?_⟩, fun j hj => ?_, by have := e13.le; omega⟩
          · unfold baseC
            rw [← hpl, findP_map, hfa, Option.map_none]; exact hrm
          · rw [k14.same j (by have := e13.le; omega) (fun e => hn (e ▸ hmO)), e13.same j (by omega), k7.same j hj fun h => hn (hO j h)]
          · rcases hj with h1 | h1 | h1
            · exact ⟨.inl (hO j (.inl h1)), by have := hlt j (hO j (.inl h1)); have := e13.le; omega⟩
            · exact ⟨.inl (hO j (.inr (.inl h1))), by have := hlt j (hO j (.inr (.inl h1))); have := e13.le; omega⟩
            · rw [List.map_append, List.mem_append] at h1
              rcases h1 with h1 | h1
              · have h2 := hO j (hBs j (.inr (.inr h1)))
                exact ⟨.inl h2, by have := hlt j h2; have := e13.le; omega⟩
              · have : j = b13 := by simpa using h1
                exact ⟨.inr (by omega), by omega⟩
end
end Go.Vc

/- Fs, part L: the cache: the contract of Flush. -/
set_option linter.unusedVariables false
set_option linter.unusedSimpArgs false
namespace Go.Vc
open Go.Proofs

theorem CaC.upd {H H' : Hp} {cb p mp : Nat} {size : Int} {l1 l2 : List Ln} {x x' : Ln} (h : CaC H cb p size (l1 ++ x :: l2) mp) (hb : x'.b = x.b) (ha : x'.at_ = x.at_) (hk : ∀ b, b ≠ cb → b ≠ x.b → H'[b]? = H[b]?) (hl : LkAt H' x') (hn : ∀ o, 1026 ≤ o → cel H' x.b o = cel H x.b o) (hs : Sh H' cb 1032 83)
    (hc : ∀ o, o ≠ 2 → cel H' cb o = cel H cb o) (hf : cel H' cb 2 = some (.int .i64 (fastN (l1 ++ x' :: l2)))) : CaC H' cb p size (l1 ++ x' :: l2) mp := by
  have hno := nod_mid h.ring.nod
  have hcr : cb ∉ (l1 ++ x :: l2).map (·.b) := (List.nodup_cons.1 h.ring.nod).1
  have hnd : nds (l1 ++ x' :: l2) = nds (l1 ++ x :: l2) := map_like (f := (·.nd)) (by show (x'.b, 0) = (x.b, 0); rw [hb])
  have hcel : ∀ z : Nd, (z = (cb, 3) ∨ z ∈ nds (l1 ++ x :: l2)) → (nxt H' z = nxt H z ∧ prv H' z = prv H z) := fun z hz => by
    rcases hz with rfl | hz
    · exact ⟨hc _ (by simp), hc _ (by simp)⟩
    · obtain ⟨h0, hm⟩ := mem_nds.1 hz
      by_cases hx : z.1 = x.b
      · unfold nxt prv; rw [hx]; exact ⟨hn _ (by omega), hn _ (by omega)⟩
      · have e := hk z.1 (fun e => hcr (e ▸ hm)) hx
        exact ⟨cel_same e, cel_same e⟩
  refine ⟨⟨hs, fun z hz => ?_, ?_, ?_⟩, by rw [hc 0 (by omega)]; exact h.d, by rw [hc 1 (by omega)]; exact h.sz, hf, by rw [hc 1031 (by omega)]; exact h.has, ?_, ?_, ?_⟩
  · have hz' : z = x' ∨ z ∈ l1 ∨ z ∈ l2 := by
      rcases List.mem_append.1 hz with h1 | h1
      · exact .inr (.inl h1)
      · rcases List.mem_cons.1 h1 with h2 | h2
        · exact .inl h2
        · exact .inr (.inr h2)
    rcases hz' with rfl | h1
    · exact hl
    · have hm : z ∈ l1 ++ x :: l2 := by
        rcases h1 with h1 | h1
        · exact List.mem_append_left _ h1
        · exact List.mem_append_right _ (List.mem_cons_of_mem _ h1)
      have hzx : z.b ≠ x.b := fun e => by
        rcases h1 with h1 | h1
        · exact hno.1 (e ▸ List.mem_map.2 ⟨z, h1, rfl⟩)
        · exact hno.2.1 (e ▸ List.mem_map.2 ⟨z, h1, rfl⟩)
      obtain ⟨c, g1, g2⟩ := h.ring.lks z hm
      exact ⟨c, by rw [hk z.b (fun e => hcr (e ▸ List.mem_map.2 ⟨z, hm, rfl⟩)) hzx]; exact g1, g2⟩
  · rw [hnd]
    refine h.ring.seg.of (fun z hz => ?_) (fun z hz => ?_)
    · have hz2 : z ∈ nds (l1 ++ x :: l2) ∨ z = (cb, 3) := by simpa using hz
      exact (hcel z hz2.symm).2
    · have hz1 := List.dropLast_subset _ hz
      refine (hcel z ?_).1
      rcases List.mem_cons.1 hz1 with h1 | h1
      · exact .inl h1
      · have : z ∈ nds (l1 ++ x :: l2) ∨ z = (cb, 3) := by simpa using h1
        exact this.symm
  · rw [map_like (f := (·.b)) hb]; exact h.ring.nod
  · have hm := h.map.of (H' := H') (hk mp h.mpn.1 fun e => h.mpn.2 (e ▸ by simp))
    rw [show (l1 ++ x' :: l2).length = (l1 ++ x :: l2).length by simp]
    exact hm.congr fun k => findA_like hb ha k
  · rw [map_like (f := (·.b)) hb]; exact h.mpn
  · rw [map_like (f := (·.at_)) ha]; exact h.nodA

def calmP (cs : List Pl) (a : Int) : List Pl := cs.map fun y => if y.at_ = a then { y with fast := false } else y
/-- What is flushed. -/
def flushC (s : DS) (cs : List Pl) (a : Int) : DS × List Pl × Int :=
  if s.wrong a ≠ 0 then (s, cs, s.wrong a) else
    match findP cs a with
    | none => (s, cs, 0)
    | some x => if x.fast = false then (s, cs, 0) else
      if (s.write a x.data).2 ≠ 0 then ((s.write a x.data).1, cs, (s.write a x.data).2) else ((s.write a x.data).1, calmP cs a, 0)
theorem calm_split {l1 l2 : List Ln} {x : Ln} (h : ((l1 ++ x :: l2).map (·.at_)).Nodup) : calmP ((l1 ++ x :: l2).map Ln.pl) x.at_ = (l1 ++ { x with fast := false } :: l2).map Ln.pl := by
  unfold calmP
  rw [List.map_append, List.map_cons, List.nodup_append, List.nodup_cons] at h
  obtain ⟨_, ⟨h2, _⟩, h3⟩ := h
  have key : ∀ l : List Ln, (∀ y ∈ l, y.at_ ≠ x.at_) → (l.map Ln.pl).map (fun y => if y.at_ = x.at_ then { y with fast := false } else y) = l.map Ln.pl := by
    intro l hl
    rw [List.map_map]
    apply List.map_congr_left
    intro y hy
    show (if y.pl.at_ = x.at_ then _ else y.pl) = y.pl
    rw [if_neg (show ¬ y.pl.at_ = x.at_ from hl y hy)]
  rw [List.map_append, List.map_cons, List.map_append, List.map_cons, List.map_append, List.map_cons]
  rw [key l1 fun y hy e => h3 y.at_ (List.mem_map.2 ⟨y, hy, rfl⟩) x.at_ List.mem_cons_self e, key l2 fun y hy e => h2 (e ▸ List.mem_map.2 ⟨y, hy, rfl⟩)]
  congr 2
  show (if x.pl.at_ = x.at_ then _ else _) = _
  rw [if_pos (show x.pl.at_ = x.at_ from rfl)]; rfl

theorem flushC_calm {s : DS} {cs : List Pl} {a : Int} {y : Pl} (hw : s.wrong a = 0) (hy : findP cs a = some y) (hf : y.fast = false) : flushC s cs a = (s, cs, 0) := by
  unfold flushC; rw [if_neg (by rw [hw]; exact fun h => h rfl), hy]; simp only; rw [if_pos hf]
theorem flushC_none {s : DS} {cs : List Pl} {a : Int} (hw : s.wrong a = 0) (hy : findP cs a = none) : flushC s cs a = (s, cs, 0) := by
  unfold flushC; rw [if_neg (by rw [hw]; exact fun h => h rfl), hy]
theorem flushC_err {s : DS} {cs : List Pl} {a : Int} {y : Pl} (hw : s.wrong a = 0) (hy : findP cs a = some y) (hf : y.fast = true) (he : (s.write a y.data).2 ≠ 0) : flushC s cs a = ((s.write a y.data).1, cs, (s.write a y.data).2) := by
  unfold flushC; rw [if_neg (by rw [hw]; exact fun h => h rfl), hy]; simp only; rw [if_neg (by rw [hf]; decide), if_pos he]
theorem flushC_done {s : DS} {cs : List Pl} {a : Int} {y : Pl} (hw : s.wrong a = 0) (hy : findP cs a = some y) (hf : y.fast = true) (he : (s.write a y.data).2 = 0) : flushC s cs a = ((s.write a y.data).1, calmP cs a, 0) := by
  unfold flushC; rw [if_neg (by rw [hw]; exact fun h => h rfl), hy]; simp only; rw [if_neg (by rw [hf]; decide), if_neg (by rw [he]; exact fun h => h rfl)]

section
variable {H : Hp} {cb p : Nat} {size : Int} {cs : List Pl} {s : DS} {Od Oc : Nat → Prop} {R : Value → Hp → Prop}
set_option maxHeartbeats 2000000 in
theorem cache_flush (hd : DiskAt H p s Od) (hc : CacheAt H cb p size cs Oc) (dis : ∀ b, Od b → ¬ Oc b) {kf : Nat} (hft : s.fit kf) (hkf : kf < 100000000000) (hcl : (cs.length : Int) < 4611686018427387904) {a : Int}
    (k : ∀ H' Od', Kp (fun b => Od b ∨ Oc b) H H' → (∀ b, Od' b → Od b ∨ H.size ≤ b) → DiskAt H' p (flushC s cs a).1 Od' → CacheAt H' cb p size (flushC s cs a).2.1 Oc →
      R (.int .i64 (flushC s cs a).2.2) H') :
    Fc Try.prog 17 #[ptrV cb, .int .i64 a] H R := by
  have hc0 := hc
  obtain ⟨⟨row, mp, hC, hpl, hO⟩, hlt⟩ := hc
  refine fn17 ?_
  simp only [sh17, Any_const]
  refine cache_check hd hC ?_
  simp only [binE_neq, Pu_some, Ite_dec]
  have stay : ∀ e, flushC s cs a = (s, cs, e) → R (.int .i64 e) H := fun e he => by
    have := k H Od (Kp.refl _ _) (fun j hj => .inl hj)
    rw [he] at this
    exact this hd hc0
  refine ⟨fun hw => stay _ (by unfold flushC; rw [if_pos hw]), fun hw => ?_⟩
  have hw : s.wrong a = 0 := Classical.not_not.1 hw
  simp only [nilCheckE, Pu_some, addr_ptr, Nat.zero_add, load_cel, hC.has]
  rw [map_look hC.map]
  cases hfa : findA row a with
  | none =>
    simp only [Option.map_none, zeroLkP, lookO_none, mkOk, if_true, Pu_some, extractE, List.getElem?_toArray, List.getElem?_cons_zero, List.getElem?_cons_succ]
    refine Join.mk (fun t H' => H' = H ∧ t.1 = .bool true) ?_ ?_
    · rintro ⟨t, u⟩ H1 ⟨rfl, ht⟩
      simp only at ht
      subst ht
      simp only [Ite_true]
      exact stay 0 (flushC_none hw (by rw [← hpl, findP_map, hfa]; rfl))
    · simp only [unE_not, Pu_some, Bool.not_false, Ite_true]
      exact ⟨trivial, trivial⟩
  | some x =>
    obtain ⟨l1, l2, hrow, hxa, hl1⟩ := findA_split hfa
    subst hrow
    obtain ⟨cx, gx, kx⟩ := hC.ring.lks x (by simp)
    have hcx : cel H x.b 1025 = some (.bool x.fast) := by rw [cel_of gx]; exact kx.fast
    simp only [Option.map_some, lookO_some, mkOk, if_true, Pu_some, extractE, List.getElem?_toArray, List.getElem?_cons_zero, List.getElem?_cons_succ]
    have hfind : findP cs a = some x.pl := by rw [← hpl, findP_map, hfa]; rfl
    refine Join.mk (fun t H' => H' = H ∧ t.1 = .bool (!x.fast)) ?_ ?_
    · rintro ⟨t, u⟩ H1 ⟨rfl, ht⟩
      simp only at ht
      subst ht
      simp only [Ite_not]
      refine ⟨fun hf => stay 0 (flushC_calm hw hfind hf), fun hf => ?_⟩
      have hdat : loadE (some (some 1024)) (.pointer (some ⟨x.b, 1, none⟩)) H1 = some (.agg x.data) := by
        rw [load_row gx (by rw [kx.size]; omega)]; rw [show (1 + 1024 : Nat) = 1025 from rfl, kx.data]
      simp only [hC.d, nilCheckE, Pu_some, addr_ptr, Nat.zero_add, hdat]
      refine disk_write hd hft hkf kx.isB fun H3 Od' st3 hd3 => ?_
      have hC3 : CaC H3 cb p size (l1 ++ x :: l2) mp := hC.of fun j hj => st3.kp.same j (hC.lt j hj) fun h => dis j h (hO j hj)
      have hdis3 : ∀ j, Od' j → ¬ Oc j := fun j hj ho => by
        rcases st3.new j hj with h1 | h1
        · exact dis j h1 ho
        · have := hlt j ho; omega
      simp only [binE_neq, Pu_some, Ite_dec]
      refine ⟨fun hne => ?_, fun heq => ?_⟩
      · have := k H3 Od' (st3.kp.mono fun j _ h => .inl h) st3.new
        have he : flushC s cs a = ((s.write a x.data).1, cs, (s.write a x.data).2) := flushC_err hw hfind hf hne
        rw [he] at this
        exact this hd3 ⟨⟨_, mp, hC3, hpl, hO⟩, fun j hj => Nat.lt_of_lt_of_le (hlt j hj) st3.kp.le⟩
      · have heq := Classical.not_not.1 heq
        obtain ⟨cx3, gx3, kx3⟩ := hC3.ring.lks x (by simp)
        have hno := nod_mid hC3.ring.nod
        have hcbx : cb ≠ x.b := fun e => hno.2.2 e.symm
        refine set_cel (n := 0) gx3 (by rw [kx3.size]; omega) rfl rfl fun H4 q4 g4 => ?_
        have hfc : cel H4 cb 2 = some (.int .i64 (fastN (l1 ++ x :: l2))) := by rw [q4.cel, if_neg (fun e => hcbx e.1)]; exact hC3.fast
        have hfl : fastN (l1 ++ x :: l2) = fastN (l1 ++ { x with fast := false } :: l2) + 1 := by
          simp only [fastN_app, fastN_cons, hf]; simp; omega
        have hfb := fastN_le (l1 ++ x :: l2)
        have hfb2 := fastN_le (l1 ++ { x with fast := false } :: l2)
        have hlen : ((l1 ++ x :: l2).length : Int) < 4611686018427387904 := by
          have := congrArg List.length hpl
          rw [List.length_map] at this
          rw [this]; exact hcl
        simp only [hfc, Pu_some, binE_sub, hfl]
        rw [i64wrap_id (by omega) (by omega), show fastN (l1 ++ { x with fast := false } :: l2) + 1 - 1 = fastN (l1 ++ { x with fast := false } :: l2) by omega]
        obtain ⟨ct, gt, st⟩ := hC3.ring.top
        have gt4 : H4[cb]? = some (.cells ct 83) := by rw [q4.blk cb hcbx]; exact gt
        refine set_cel (n := 0) gt4 (by omega) rfl rfl fun H5 q5 g5 => ?_
        have hxO : Oc x.b := hO x.b (.inr (.inr (by simp)))
        have hcO : Oc cb := hO cb (.inl rfl)
        have k35 : Kp Oc H3 H5 := ⟨by rw [q5.size, q4.size]; exact Nat.le_refl _, fun j _ hn => by rw [q5.blk j (fun e => hn (e ▸ hcO)), q4.blk j (fun e => hn (e ▸ hxO))]⟩
        have hC5 : CaC H5 cb p size (l1 ++ { x with fast := false } :: l2) mp := by
          refine hC3.upd (x' := { x with fast := false }) rfl rfl (fun j h1 h2 => by rw [q5.blk j h1, q4.blk j h2]) ⟨_, by rw [q5.blk x.b (fun e => hcbx e.symm)]; exact g4, kx3.setFast false⟩ (fun o ho => ?_) ⟨_, g5, by simpa using st⟩ (fun o ho => ?_) ?_
          · rw [q5.cel, if_neg (fun e => hcbx e.1.symm), q4.cel, if_neg (by omega)]
          · rw [q5.cel, if_neg (by omega), q4.cel, if_neg (fun e => hcbx e.1)]
          · rw [q5.cel, if_pos ⟨rfl, rfl⟩]
        have := k H5 Od' ((st3.kp.mono fun j _ h => .inl h).trans (k35.mono fun j _ h => .inr h)) st3.new
        have he : flushC s cs a = ((s.write a x.data).1, calmP cs a, 0) := flushC_done hw hfind hf heq
        rw [he] at this
        refine this (hd3.kp k35 hdis3) ⟨⟨_, mp, hC5, ?_, fun j hj => hO j ?_⟩, fun j hj => by have := hlt j hj; have := st3.kp.le; rw [q5.size, q4.size]; omega⟩
        · rw [← hpl, ← hxa, calm_split hC.nodA]
        · rcases hj with h1 | h1 | h1
          · exact .inl h1
          · exact .inr (.inl h1)
          · exact .inr (.inr (by rw [map_like (f := (·.b)) (x := x) (x' := { x with fast := false }) rfl] at h1; exact h1))
    · simp only [unE_not, Pu_some, Bool.not_true, Ite_false, nilCheckE, addr_ptr, Nat.zero_add, load_cel, hcx]
      exact ⟨trivial, trivial⟩
end
end Go.Vc

/- Fs, part M: the disk: made, loaded; a barrier. -/
set_option linter.unusedVariables false
set_option linter.unusedSimpArgs false
namespace Go.Vc
open Go.Proofs

def DS.new (n : Int) : DS := ⟨n, fun _ => zB, fun _ => zB, -1, false, 0, 0, 0, 0, 0, 0⟩
theorem build_disk (n : Int) (a b : Nat) : buildE Try.prog 92 [(0, .int .i64 n), (1, .map (some a)), (2, .map (some b)), (5, .int .i64 (-1))] = some (.agg (dkC (DS.new n) a b (.slice none 0 0) (.slice none 0 0))) := by kernel_rfl
theorem rowB : IntRow Try.prog 51 1024 .u8 := ⟨⟨5, by kernel_rfl, by kernel_rfl, by kernel_rfl, by kernel_rfl⟩, by kernel_rfl⟩
theorem eqZ_false {c : Blk} (hc : IsB c) (hne : c ≠ zB) {lit : Bool} {H : Hp} : eqXE Try.prog 51 lit .eql (.agg c) (.agg zB) H = some (.bool false) := by
  rw [eqXE_eql, eqB_false rowB hc zB_is hne]; rfl
theorem eqZ_true {lit : Bool} {H : Hp} : eqXE Try.prog 51 lit .eql (.agg zB) (.agg zB) H = some (.bool true) := by
  rw [eqXE_eql, eqB_true rowB zB_is]; rfl
theorem Ext.kpn {H H1 H2 : Hp} {b : Nat} (h : Ext H H1) (k : Kp (· = b) H1 H2) (hb : H.size ≤ b) : Ext H H2 := (h.kp (· = b)).trans k |>.ext fun j hj e => by omega
theorem Sv.nil' (T n : Nat) (H : Hp) : Sv T n H (.slice none 0 0) [] := Sv.nil T n H
set_option maxRecDepth 100000 in
theorem zeroHeld' : zeroE Try.prog 74 = some (.agg zHeld) := zeroHeld

section
variable {H : Hp} {R : Value → Hp → Prop}
theorem disk_newC {n : Int} (h1 : 1 ≤ n) (h2 : n ≤ 1048576) (k : ∀ H' p a b, Ext H H' → H.size ≤ a → a < b → b < p → p + 1 = H'.size → H'[p]? = some (.cells (dkC (DS.new n) a b (.slice none 0 0) (.slice none 0 0)) 92) → MapAt H' a (fun _ => none) 0 → MapAt H' b (fun _ => none) 0 → R (.tuple #[ptrV p, .int .i64 0]) H') : Fc Try.prog 50 #[.int .i64 n] H R := by
  refine fn50 ?_
  simp only [sh50, Any_const]
  refine Join.mk (fun x H' => H' = H ∧ x.1 = .bool false) ?_ ?_
  · rintro ⟨x, u⟩ H1 ⟨rfl, hx⟩
    simp only at hx
    subst hx
    simp only [Ite_false]
    refine newMap_i fun a G1 ha x1 t1 f1 => ?_
    refine newMap_i fun b G2 hb x2 t2 f2 => ?_
    simp only [build_disk, Pu_some]
    refine box_i fun p G3 hp x3 t3 f3 => ?_
    simp only [cells_agg] at f3
    exact k G3 p a b (x1.trans (x2.trans x3)) (by omega) (by omega) (by omega) (by omega) f3 (MapAt.new ((x2.trans x3).at f1)) (MapAt.new (x3.at f2))
  · simp only [binE_lss, Pu_some, Ite_dec, binE_gtr]
    exact ⟨fun h => absurd h (by omega), fun _ => ⟨trivial, by simp; omega⟩⟩
/-- A disk just made, some blocks of which are held. -/
theorem DkC.fresh {n : Int} {p a b nh : Nat} {f : Int → Option Blk} (h1 : 1 ≤ n) (top : H[p]? = some (.cells (dkC (DS.new n) a b (.slice none 0 0) (.slice none 0 0)) 92)) (ma : MapAt H a (fun k => (f k).map .agg) nh) (mb : MapAt H b (fun _ => none) 0)
    (hp : p ≠ a ∧ p ≠ b ∧ a ≠ b) (hb : ∀ k c, f k = some c → IsB c) {g : Int → Blk} (hg : ∀ k, g k = (f k).getD zB) : DkC H p ⟨n, g, g, -1, false, 0, 0, 0, 0, 0, 0⟩ a b (.slice none 0 0) (.slice none 0 0) f (fun _ => none) nh 0 [] [] :=
  { top := top, amh := ma, aml := mb, aps := Sv.nil _ _ _, ahs := Sv.nil _ _ _, df := hp, dps := fun j e => (by cases e), dhs := fun j e => (by cases e), bh := hb, bl := fun j c e => (by cases e), bp := fun x hx => (by cases hx), now := hg, held := hg, wait := rfl, pl := rfl, hl := rfl, pos := h1 }
theorem disk_new {n : Int} (h1 : 1 ≤ n) (h2 : n ≤ 1048576) (k : ∀ H' p, Ext H H' → DiskAt H' p (DS.new n) (fun b => H.size ≤ b ∧ b < H'.size) → R (.tuple #[ptrV p, .int .i64 0]) H') : Fc Try.prog 50 #[.int .i64 n] H R :=
  disk_newC h1 h2 fun H' p a b hx ha hab hbp hp top ma mb => k H' p hx ⟨⟨a, b, _, _, fun _ => none, fun _ => none, 0, 0, [], [], DkC.fresh (f := fun _ => none) h1 top ma mb ⟨by omega, by omega, by omega⟩ (fun k c e => (by cases e)) fun k => rfl, ⟨by omega, by omega⟩, ⟨by omega, by omega⟩, ⟨by omega, by omega⟩, fun j e => (by cases e), fun j e => (by cases e)⟩, fun j h => h.2⟩

/-- What is loaded: rising numbers, no blank block. -/
def okL (n : Int) : Int → List (Int × Blk) → Prop
  | _, [] => True
  | b, x :: l => b < x.1 ∧ x.1 < n ∧ x.2 ≠ zB ∧ IsB x.2 ∧ okL n x.1 l
def fhL (l : List (Int × Blk)) : Int → Option Blk := l.foldl (fun f x => fun k => if k = x.1 then some x.2 else f k) fun _ => none
def heldL (l : List (Int × Blk)) : Int → Blk := l.foldl (fun g x => updB g x.1 x.2) fun _ => zB
def DS.load (n : Int) (l : List (Int × Blk)) : DS := ⟨n, heldL l, heldL l, -1, false, 0, 0, 0, 0, 0, 0⟩
theorem fhL_snoc (l : List (Int × Blk)) (x : Int × Blk) : fhL (l ++ [x]) = fun k => if k = x.1 then some x.2 else fhL l k := by unfold fhL; rw [List.foldl_append]; rfl
theorem heldL_snoc (l : List (Int × Blk)) (x : Int × Blk) : heldL (l ++ [x]) = updB (heldL l) x.1 x.2 := by unfold heldL; rw [List.foldl_append]; rfl
def befL (l : List (Int × Blk)) (b : Int) : Nat → Int
  | 0 => b
  | j + 1 => ((l[j]?).map (·.1)).getD b
theorem okL_get {n : Int} : ∀ {l : List (Int × Blk)} {b : Int} {i : Nat} {x : Int × Blk}, okL n b l → l[i]? = some x → befL l b i < x.1 ∧ x.1 < n ∧ x.2 ≠ zB ∧ IsB x.2
  | [], _, _, _, _, h => by simp at h
  | y :: l, b, 0, x, h, hi => by
    simp only [List.getElem?_cons_zero, Option.some.injEq] at hi
    subst hi; exact ⟨h.1, h.2.1, h.2.2.1, h.2.2.2.1⟩
  | y :: l, b, i + 1, x, h, hi => by
    have := okL_get (i := i) h.2.2.2.2 (by simpa using hi)
    refine ⟨?_, this.2⟩
    have h1 := this.1
    cases i with
    | zero => simpa [befL] using h1
    | succ j =>
      simp only [befL, List.getElem?_cons_succ] at h1 ⊢
      have hj : j < l.length := by
        have : j + 1 < l.length := by
          rcases Nat.lt_or_ge (j + 1) l.length with h2 | h2
          · exact h2
          · rw [List.getElem?_cons_succ, List.getElem?_eq_none h2] at hi; cases hi
        omega
      simp only [List.getElem?_eq_getElem hj, Option.map_some, Option.getD_some] at h1 ⊢
      exact h1
theorem fhL_is {l : List (Int × Blk)} (h : ∀ x ∈ l, IsB x.2) : ∀ k c, fhL l k = some c → IsB c := by
  suffices ∀ (l : List (Int × Blk)) (f : Int → Option Blk), (∀ x ∈ l, IsB x.2) → (∀ k c, f k = some c → IsB c) → ∀ k c, l.foldl (fun f x => fun k => if k = x.1 then some x.2 else f k) f k = some c → IsB c from
    this l _ h fun k c e => by cases e
  intro l
  induction l with
  | nil => intro f _ hf k c e; exact hf k c e
  | cons x l ih =>
    intro f h hf k c e
    refine ih _ (fun y hy => h y (List.mem_cons_of_mem _ hy)) (fun k c e => ?_) k c e
    have e : (if k = x.1 then some x.2 else f k) = some c := e
    split at e
    · injection e with e; subst e; exact h x List.mem_cons_self
    · exact hf k c e
theorem heldL_fh (l : List (Int × Blk)) : ∀ k, heldL l k = (fhL l k).getD zB := by
  suffices ∀ (l : List (Int × Blk)) (g : Int → Blk) (f : Int → Option Blk), (∀ k, g k = (f k).getD zB) → ∀ k, l.foldl (fun g x => updB g x.1 x.2) g k = (l.foldl (fun f x => fun k => if k = x.1 then some x.2 else f k) f k).getD zB from
    this l _ _ fun k => rfl
  intro l
  induction l with
  | nil => intro g f h k; exact h k
  | cons x l ih =>
    intro g f h k
    refine ih _ _ (fun k => ?_) k
    show (if k = x.1 then x.2 else g k) = (if k = x.1 then some x.2 else f k).getD zB
    split
    · rfl
    · exact h k

theorem elH_und : Try.prog.underlying 70 = some (.slice 74) := by kernel_rfl

theorem heldC_get {x : Int × Blk} : (heldC x)[0]? = some (.int .i64 x.1) := by
  unfold heldC; rw [Array.getElem?_append_left (by simp)]; rfl
theorem heldC_data {x : Int × Blk} (h : IsB x.2) : (heldC x).extract 1 (1 + 1024) = x.2 := by
  refine ext_of_get h.size (by rw [heldC_size h]; omega) fun j hj => ?_
  unfold heldC
  rw [Array.getElem?_append_right (by simp)]
  congr 1
  simp

set_option maxHeartbeats 2000000 in
theorem disk_load {n : Int} {s : Value} {l : List (Int × Blk)} (h1 : 1 ≤ n) (h2 : n ≤ 1048576) (hs : Sv 74 1025 H s (l.map heldC)) (hl : okL n (-1) l) (hlen : l.length ≤ 1048576)
    (k : ∀ H' p, Ext H H' → DiskAt H' p (DS.load n l) (fun b => H.size ≤ b ∧ b < H'.size) → R (.tuple #[ptrV p, .int .i64 0]) H') : Fc Try.prog 33 #[.agg #[.int .i64 n, s]] H R := by
  refine fn33 ?_
  simp only [sh33, Any_const]
  refine box_i fun b H1 hb e1 s1 g1 => ?_
  simp only [cells_agg] at g1
  simp only [addr_ptr, Nat.zero_add, Pu_some, load_cell g1, List.getElem?_toArray, List.getElem?_cons_zero, List.getElem?_cons_succ]
  refine disk_newC h1 h2 fun H2 p ma mb e2 ha hab hbp hp top hma hmb => ?_
  have g2 := e2.at g1
  simp only [extractE, List.getElem?_toArray, List.getElem?_cons_zero, List.getElem?_cons_succ, Pu_some, binE_neq, show decide ((0 : Int) ≠ 0) = false from rfl, Ite_false, load_cell g2]
  have e02 := e1.trans e2
  have hs2 := hs.ext e02
  rw [hs2.lenE elH_und, Pu_some, List.length_map]
  have hlB : ∀ x ∈ l, IsB x.2 := fun x hx => by
    obtain ⟨i, hi⟩ := List.mem_iff_getElem?.1 hx
    exact (okL_get hl hi).2.2.2
  refine LoopP.mk (fun t H' => ∃ (i nh : Nat), i ≤ l.length ∧ t.1 = .int .i64 (befL l (-1) i) ∧ t.2.1 = .int .i64 i ∧ Ext H H' ∧ H2.size ≤ H'.size ∧ H'[b]? = some (.cells #[.int .i64 n, s] 72) ∧
      H'[p]? = some (.cells (dkC (DS.new n) ma mb (.slice none 0 0) (.slice none 0 0)) 92) ∧ MapAt H' ma (fun k => (fhL (l.take i) k).map .agg) nh ∧ MapAt H' mb (fun _ => none) 0)
    (fun t _ => match t.2.1 with | .int _ i => ((l.length : Int) - i).toNat | _ => 0) ⟨0, 0, by omega, rfl, rfl, e02, Nat.le_refl _, g2, top, hma, hmb⟩ ?_
  rintro ⟨t1, t2, u⟩ H3 ⟨i, nh, hi, hbe, hti, e3, l3, g3, top3, ma3, mb3⟩
  simp only at hbe hti
  subst hbe hti
  simp only [binE_lss, Pu_some, Ite_dec]
  have sz1 := e2.le
  refine ⟨fun hlt => ?_, fun hge => ?_⟩
  · have hil : i < l.length := by omega
    have hx := List.getElem?_eq_getElem hil
    generalize l[i] = x at hx
    obtain ⟨ok1, ok2, ok3, ok4⟩ := okL_get hl hx
    have hs3 := hs.ext e3
    obtain ⟨bs, os, hadr, hrow⟩ := hs3.row (i := i) (v := heldC x) (by rw [List.getElem?_map, hx]; rfl)
    simp only [hadr, Pu_some, hrow, zeroHeld]
    refine box_i fun b4 H4 hb4 e4 s4 g4 => ?_
    simp only [cells_agg] at g4
    refine storeAll_i g4 zHeld_size (heldC_size ok4) (heldC_ok ok4) fun H5 k5 s5 g5 => ?_
    have e35 : Ext H3 H5 := e4.kpn k5 (by omega)
    generalize befL l (-1) i = before at ok1
    refine Join.mk (fun t H' => H' = H5 ∧ t.1 = .bool false) ?_ ?_
    · rintro ⟨t, u⟩ H6 ⟨rfl, ht⟩
      simp only at ht
      subst ht
      have ld0 : loadE (some none) (.pointer (some ⟨b4, 0, none⟩)) H6 = some (.int .i64 x.1) := by rw [load_cell g5]; exact heldC_get
      have ld1 : loadE (some (some 1024)) (.pointer (some ⟨b4, 1, none⟩)) H6 = some (.agg x.2) := by rw [load_row g5 (by rw [heldC_size ok4]; omega), heldC_data ok4]
      simp only [Ite_false, nilCheckE, Pu_some, addr_ptr, Nat.zero_add, load_cell (e35.at top3), dk_get, ld0, ld1]
      refine mapSet_i (ma3.ext e35) fun H7 k7 s7 m7 => ?_
      have hnb : b4 ≠ ma := by have := ma3.lt; omega
      have ld7 : loadE (some none) (.pointer (some ⟨b4, 0, none⟩)) H7 = some (.int .i64 x.1) := by rw [load_cell (k7.at g5 hnb)]; exact heldC_get
      simp only [ld7, Pu_some, binE_add]
      rw [i64wrap_id (by omega) (by omega)]
      refine ⟨⟨i + 1, if Option.map Value.agg (fhL (l.take i) x.1) = none then nh + 1 else nh, by omega, ?_, rfl, (e3.trans e35).kpn k7 (by have := e1.le; omega), by have := e35.le; omega, k7.at (e35.at g3) (by omega), k7.at (e35.at top3) (by omega), ?_, (mb3.ext e35).kp k7 (by omega)⟩, by show ((l.length : Int) - (i + 1)).toNat < ((l.length : Int) - i).toNat; omega⟩
      · show Value.int .i64 x.1 = .int .i64 (((l[i]?).map (·.1)).getD (-1))
        rw [hx]; rfl
      · refine m7.congr fun k => ?_
        rw [List.take_add_one, hx]
        show Option.map Value.agg (fhL (l.take i ++ [x]) k) = _
        rw [fhL_snoc]
        unfold updM
        show Option.map Value.agg (if k = x.1 then some x.2 else fhL (l.take i) k) = _
        split <;> rfl
    · have ld0 : loadE (some none) (.pointer (some ⟨b4, 0, none⟩)) H5 = some (.int .i64 x.1) := by rw [load_cell g5]; exact heldC_get
      have ld1 : loadE (some (some 1024)) (.pointer (some ⟨b4, 1, none⟩)) H5 = some (.agg x.2) := by rw [load_row g5 (by rw [heldC_size ok4]; omega), heldC_data ok4]
      simp only [addr_ptr, Nat.zero_add, Pu_some, ld0, binE_leq, load_cell (e35.at g3), List.getElem?_toArray, List.getElem?_cons_zero, binE_geq, Ite_dec, ld1, buildB, eqZ_false ok4 ok3]
      exact ⟨fun h => absurd h (by omega), fun _ => ⟨fun h => absurd h (by omega), fun _ => ⟨trivial, trivial⟩⟩⟩
  · have hil : i = l.length := by omega
    subst hil
    rw [List.take_length] at ma3
    refine k H3 p e3 ⟨⟨ma, mb, _, _, fhL l, fun _ => none, nh, 0, [], [], DkC.fresh h1 top3 ma3 mb3 ⟨by omega, by omega, by omega⟩ (fhL_is hlB) (heldL_fh l), ⟨?_, ?_⟩, ⟨?_, ?_⟩, ⟨?_, ?_⟩, fun j e => (by cases e), fun j e => (by cases e)⟩, fun j h => h.2⟩
    all_goals (have := e1.le; omega)
end
end Go.Vc

/- Fs, part N: a cache is made. -/
set_option linter.unusedVariables false
set_option linter.unusedSimpArgs false
namespace Go.Vc
open Go.Proofs

noncomputable def zCa : Array Value := aggOf (zeroE Try.prog 83)
set_option maxRecDepth 100000 in
theorem zeroCa : zeroE Try.prog 83 = some (.agg zCa) := by kernel_rfl
set_option maxRecDepth 100000 in
theorem zCa_size : zCa.size = 1032 := by kernel_rfl
set_option maxRecDepth 100000 in
theorem zCa_fast : zCa[2]? = some (.int .i64 0) := by kernel_rfl
set_option maxRecDepth 100000 in
theorem plCa : placesE Try.prog 83 = some [(0, 1), (1, 1), (2, 1), (3, 1028), (1031, 1)] := by kernel_rfl
noncomputable def caNew (p : Nat) (size : Int) (mp : Nat) : Array Value := splice (splice (splice zCa 0 #[ptrV p]) 1 #[.int .i64 size]) 1031 #[.map (some mp)]
theorem caNew_f (p : Nat) (size : Int) (mp : Nat) : (caNew p size mp).size = 1032 ∧ (caNew p size mp)[0]? = some (ptrV p) ∧ (caNew p size mp)[1]? = some (.int .i64 size) ∧ (caNew p size mp)[2]? = some (.int .i64 0) ∧ (caNew p size mp)[1031]? = some (.map (some mp)) := by
  have q1 : (splice zCa 0 #[ptrV p]).size = 1032 := by rw [splice_size (by rw [zCa_size]; simp), zCa_size]
  have q2 : (splice (splice zCa 0 #[ptrV p]) 1 #[Value.int .i64 size]).size = 1032 := by rw [splice_size (by rw [q1]; simp), q1]
  have g : ∀ j, (caNew p size mp)[j]? = if j = 1031 then some (.map (some mp)) else if j = 1 then some (.int .i64 size) else if j = 0 then some (ptrV p) else zCa[j]? := fun j => by
    unfold caNew
    rw [splice_get (by rw [q2]; simp), splice_get (by rw [q1]; simp), splice_get (by rw [zCa_size]; simp)]
    simp only [List.size_toArray, List.length_cons, List.length_nil]
    by_cases h1 : j = 1031
    · subst h1; simp
    · rw [if_neg h1]
      by_cases h2 : j = 1
      · subst h2; simp
      · rw [if_neg h2]
        by_cases h3 : j = 0
        · subst h3; simp
        · rw [if_neg h3]
          by_cases h4 : j < 1031
          · rw [if_pos h4, if_neg (by omega), if_neg (by omega), if_neg (by omega), if_neg (by omega)]
          · rw [if_neg h4, if_neg (by omega), if_neg (by omega), if_neg (by omega), if_neg (by omega), if_neg (by omega)]
  refine ⟨by unfold caNew; rw [splice_size (by rw [q2]; simp), q2], ?_, ?_, ?_, ?_⟩
  · rw [g]; rfl
  · rw [g]; rfl
  · rw [g]; exact zCa_fast
  · rw [g]; rfl
theorem build_ca {p mp : Nat} {size : Int} : buildE Try.prog 83 [(0, ptrV p), (1, .int .i64 size), (4, .map (some mp))] = some (.agg (caNew p size mp)) := by
  refine build_struct zeroCa plCa ?_
  have q1 : (splice zCa 0 (ptrV p).cells).size = 1032 := by rw [splice_size (by rw [zCa_size]; simp [Value.cells]), zCa_size]
  have q2 : (splice (splice zCa 0 (ptrV p).cells) 1 (Value.int .i64 size).cells).size = 1032 := by rw [splice_size (by rw [q1]; simp [Value.cells]), q1]
  refine fillS_cons rfl rfl (by rw [zCa_size]; omega) ?_
  refine fillS_cons rfl rfl (by rw [q1]; omega) ?_
  exact fillS_cons rfl rfl (by rw [q2]; omega) rfl

section
variable {H : Hp} {p : Nat} {s : DS} {O : Nat → Prop} {R : Value → Hp → Prop}
theorem cache_new (hd : DiskAt H p s O) {size : Int} (h1 : 1 ≤ size) (h2 : size ≤ 4096) (k : ∀ H' cb, Ext H H' → CacheAt H' cb p size [] (fun b => H.size ≤ b ∧ b < H'.size) → R (.tuple #[ptrV cb, .int .i64 0]) H') :
    Fc Try.prog 7 #[ptrV p, .int .i64 size] H R := by
  refine fn7 ?_
  simp only [sh7, Any_const]
  refine disk_len hd ?_
  have hpos : 0 < s.n := by
    obtain ⟨⟨_, _, _, _, _, _, _, _, _, _, h, _⟩, _⟩ := hd
    exact h.pos
  simp only [binE_eql, Pu_some, Ite_dec]
  refine ⟨fun h => absurd h (by omega), fun _ => ?_⟩
  refine Join.mk (fun x H' => H' = H ∧ x.1 = .bool false) ?_ ?_
  · rintro ⟨x, u⟩ H1 ⟨rfl, hx⟩
    simp only at hx
    subst hx
    simp only [Ite_false]
    refine newMap_i fun mp G1 hm x1 t1 f1 => ?_
    simp only [build_ca, Pu_some]
    refine box_i fun cb G2 hc x2 t2 f2 => ?_
    simp only [cells_agg] at f2
    obtain ⟨c1, c2, c3, c4, c5⟩ := caNew_f p size mp
    simp only [nilCheckE, Pu_some, addr_ptr, Nat.zero_add, Nat.reduceAdd]
    refine set_cel (n := 0) (v := ptrN (cb, 3)) f2 (by omega) rfl rfl fun G3 q3 f3 => ?_
    refine set_cel (n := 0) (v := ptrN (cb, 3)) f3 (by rw [Array.size_setIfInBounds]; omega) rfl rfl fun G4 q4 f4 => ?_
    have x14 : Ext H1 G4 := ⟨by rw [q4.size, q3.size]; exact (x1.trans x2).le, fun j hj => by rw [q4.blk j (by omega), q3.blk j (by omega)]; exact (x1.trans x2).same j hj⟩
    have cc : ∀ o, cel G4 cb o = if o = 1030 then some (ptrN (cb, 3)) else if o = 1029 then some (ptrN (cb, 3)) else (caNew p size mp)[o]? := fun o => by
      rw [q4.cel, q3.cel, cel_of f2]
      by_cases h1 : o = 1030
      · rw [if_pos ⟨rfl, h1⟩, if_pos h1]
      · rw [if_neg (fun e => h1 e.2), if_neg h1]
        by_cases h2 : o = 1029
        · rw [if_pos ⟨rfl, h2⟩, if_pos h2]
        · rw [if_neg (fun e => h2 e.2), if_neg h2]
    have hcm : mp ≠ cb := by omega
    refine k G4 cb x14 ⟨⟨[], mp, ⟨⟨⟨_, f4, by simpa using c1⟩, fun z hz => (by cases hz), ⟨?_, ?_, trivial⟩, by simp⟩, ?_, ?_, ?_, ?_, ?_, ⟨hcm, by simp⟩, by simp⟩, rfl, ?_⟩, fun j h => h.2⟩
    · show cel G4 cb 1030 = _
      rw [cc]; rfl
    · show cel G4 cb 1029 = _
      rw [cc]; rfl
    · rw [cc]; exact c2
    · rw [cc]; exact c3
    · rw [cc]; exact c4
    · rw [cc]; exact c5
    · have m1 : MapAt G4 mp (fun _ => none) 0 := MapAt.new (by rw [q4.blk mp hcm, q3.blk mp hcm]; exact x2.at f1)
      exact m1.congr fun k => rfl
    · rintro j (h | h | h)
      · rw [q4.size, q3.size]; omega
      · rw [q4.size, q3.size]; omega
      · simp at h
  · simp only [binE_lss, Pu_some, Ite_dec, binE_gtr]
    exact ⟨fun h => absurd h (by omega), fun _ => ⟨trivial, by simp; omega⟩⟩
end
end Go.Vc

/- Fs, part P: plain laws of a cache's row: blocks that have a place are read once; the row is rising in the time of their use. -/
set_option linter.unusedVariables false
set_option linter.unusedSimpArgs false
namespace Go.Vc

/-- A disk on which nothing but reads is done. -/
structure DS.Qt (s : DS) (n : Int) (r : Int) : Prop where
  st : s.stopped = false
  n : s.n = n
  r : s.reads = r

theorem DS.Qt.wrong {s : DS} {n r a : Int} (h : s.Qt n r) (h0 : 0 ≤ a) (h1 : a < n) : s.wrong a = 0 := by
  unfold DS.wrong
  rw [h.st, if_neg (by decide), h.n, if_neg (by omega)]
theorem DS.Qt.read {s : DS} {n r a : Int} (h : s.Qt n r) (h0 : 0 ≤ a) (h1 : a < n) : (s.read a).1.Qt n (r + 1) := by
  unfold DS.read
  rw [h.st, if_neg (by decide), h.n, if_neg (by omega)]
  exact ⟨rfl, rfl, by show s.reads + 1 = r + 1; rw [h.r]⟩

theorem outP_mem {cs : List Pl} {a : Int} {y : Pl} (h : y ∈ outP cs a) : y ∈ cs := List.mem_of_mem_eraseP h
theorem findP_some {cs : List Pl} {a : Int} {x : Pl} (h : findP cs a = some x) : ∃ l1 l2, cs = l1 ++ x :: l2 ∧ x.at_ = a ∧ (∀ y ∈ l1, y.at_ ≠ a) ∧ outP cs a = l1 ++ l2 := by
  unfold findP at h
  rw [List.find?_eq_some_iff_append] at h
  obtain ⟨h1, l1, l2, rfl, h3⟩ := h
  have ha : x.at_ = a := by simpa using h1
  refine ⟨l1, l2, rfl, ha, fun y hy => by simpa using h3 y hy, ?_⟩
  unfold outP
  exact eraseP_mid (fun y hy => by have := h3 y hy; simpa using this) h1
theorem findP_none {cs : List Pl} {a : Int} : findP cs a = none ↔ ∀ y ∈ cs, y.at_ ≠ a := by
  unfold findP
  rw [List.find?_eq_none]
  simp

/-- The row of CacheFew: size blocks, none of them fast, the numbers below size, each once, rising in 'used'. -/
structure Few (cs : List Pl) (n : Nat) (used : Int → Int) : Prop where
  len : cs.length = n
  slow : ∀ y ∈ cs, y.fast = false
  rng : ∀ y ∈ cs, 0 ≤ y.at_ ∧ y.at_ < n
  up : (cs.map fun y => used y.at_).Pairwise (· < ·)

theorem Few.inj {cs : List Pl} {n : Nat} {used : Int → Int} (h : Few cs n used) : (cs.map (·.at_)).Nodup := by
  have := h.up
  rw [List.pairwise_map] at this
  unfold List.Nodup
  rw [List.pairwise_map]
  exact this.imp fun {a b} hab e => by rw [e] at hab; omega
theorem pig : ∀ (n : Nat) (l : List Int), l.Nodup → (∀ x ∈ l, 0 ≤ x ∧ x < n) → l.length ≤ n
  | 0, l, _, h => by
    cases l with
    | nil => exact Nat.le_refl _
    | cons x l => have := h x List.mem_cons_self; omega
  | n + 1, l, hn, h => by
    have h1 := pig n (l.erase (n : Int)) (hn.erase _) fun x hx => by
      have h2 := (hn.mem_erase_iff).1 hx
      have h3 := h x h2.2
      have h4 := h2.1
      omega
    rw [List.length_erase] at h1
    split at h1 <;> omega
theorem Few.mem {cs : List Pl} {n : Nat} {used : Int → Int} (h : Few cs n used) {a : Int} (h0 : 0 ≤ a) (h1 : a < n) : ∃ y ∈ cs, y.at_ = a := by
  by_cases hm : a ∈ cs.map (·.at_)
  · obtain ⟨y, hy, he⟩ := List.mem_map.1 hm
    exact ⟨y, hy, he⟩
  · exfalso
    have h2 := pig n (a :: cs.map (·.at_)) (List.nodup_cons.2 ⟨hm, h.inj⟩) fun x hx => by
      rcases List.mem_cons.1 hx with rfl | hx
      · exact ⟨h0, h1⟩
      · obtain ⟨y, hy, rfl⟩ := List.mem_map.1 hx
        exact h.rng y hy
    rw [List.length_cons, List.length_map, h.len] at h2
    omega

/-- A block that has a place is read: it is the last of the row. -/
theorem Few.hit {cs : List Pl} {n : Nat} {used : Int → Int} {s : DS} {r : Int} (h : Few cs n used) (hs : s.Qt 20 r) {a : Int} (h0 : 0 ≤ a) (h1 : a < n) (hn : n ≤ 20) {t : Int} (ht : ∀ y ∈ cs, used y.at_ < t) :
    ∃ x, readC n s cs a = (s, outP cs a ++ [x], x.data, 0) ∧ Few (outP cs a ++ [x]) n (fun k => if k = a then t else used k) := by
  obtain ⟨y, hy, hya⟩ := h.mem h0 h1
  cases hf : findP cs a with
  | none => exact absurd hya (findP_none.1 hf y hy)
  | some x =>
    obtain ⟨l1, l2, hcs, hxa, hl1, hout⟩ := findP_some hf
    have hx : x ∈ cs := by rw [hcs]; simp
    refine ⟨x, ?_, ?_, ?_, ?_, ?_⟩
    · unfold readC
      rw [hs.wrong h0 (by omega), if_neg (fun h => h rfl), hf]
    · have := h.len
      rw [hcs] at this
      rw [hout]; simp at this ⊢; omega
    · intro z hz
      rcases List.mem_append.1 hz with h2 | h2
      · exact h.slow z (outP_mem h2)
      · simp only [List.mem_singleton] at h2; rw [h2]; exact h.slow x hx
    · intro z hz
      rcases List.mem_append.1 hz with h2 | h2
      · exact h.rng z (outP_mem h2)
      · simp only [List.mem_singleton] at h2; rw [h2]; exact h.rng x hx
    · have hup := h.up
      have hnd := h.inj
      rw [hcs, List.map_append, List.map_cons] at hup hnd
      rw [List.nodup_append, List.nodup_cons] at hnd
      obtain ⟨_, ⟨hn2, _⟩, _⟩ := hnd
      have hne : ∀ z ∈ l1 ++ l2, z.at_ ≠ a := fun z hz => by
        rcases List.mem_append.1 hz with h2 | h2
        · exact hl1 z h2
        · intro e; exact hn2 (by rw [hxa, ← e]; exact List.mem_map.2 ⟨z, h2, rfl⟩)
      rw [hout, List.map_append, List.pairwise_append]
      refine ⟨?_, by simp, ?_⟩
      · have e1 : (l1 ++ l2).map (fun y => if y.at_ = a then t else used y.at_) = (l1 ++ l2).map fun y => used y.at_ := by
          apply List.map_congr_left
          intro z hz
          rw [if_neg (hne z hz)]
        rw [e1, List.map_append]
        rw [List.pairwise_append, List.pairwise_cons] at hup
        obtain ⟨p1, ⟨p2, p3⟩, p4⟩ := hup
        rw [List.pairwise_append]
        exact ⟨p1, p3, fun u hu v hv => p4 u hu v (List.mem_cons_of_mem _ hv)⟩
      · intro u hu v hv
        obtain ⟨z, hz, rfl⟩ := List.mem_map.1 hu
        simp only [List.map_cons, List.map_nil, List.mem_singleton] at hv
        rw [hv, if_neg (hne z hz), if_pos hxa]
        refine ht z ?_
        rw [hcs]
        rcases List.mem_append.1 hz with h2 | h2
        · exact List.mem_append_left _ h2
        · exact List.mem_append_right _ (List.mem_cons_of_mem _ h2)

/-- A block that has none, while there are places. -/
theorem Few.fill {cs : List Pl} {i size : Nat} {s : DS} {r : Int} (h : Few cs i fun k => k) (hs : s.Qt 20 r) (hi : i < size) (hn : size ≤ 20) :
    ∃ d : Blk, readC size s cs i = ((s.read i).1, cs ++ [⟨i, d, false⟩], d, 0) ∧ Few (cs ++ [⟨i, d, false⟩]) (i + 1) (fun k => k) := by
  refine ⟨s.now i, ?_, ?_, ?_, ?_, ?_⟩
  · unfold readC
    have hf : findP cs i = none := findP_none.2 fun y hy => by have := h.rng y hy; omega
    have hfast : fastP cs = 0 := by
      unfold fastP
      rw [List.filter_eq_nil_iff.2 (fun y hy => by rw [h.slow y hy]; decide)]; rfl
    have hr : roomP size cs = some cs := by
      unfold roomP
      rw [hfast, if_neg (by omega), if_pos (by rw [h.len]; omega)]
    rw [hs.wrong (by omega) (by omega), if_neg (fun h => h rfl), hf, hr]
  · rw [List.length_append, h.len]; rfl
  · intro z hz
    rcases List.mem_append.1 hz with h2 | h2
    · exact h.slow z h2
    · simp only [List.mem_singleton] at h2; rw [h2]
  · intro z hz
    rcases List.mem_append.1 hz with h2 | h2
    · have := h.rng z h2; omega
    · simp only [List.mem_singleton] at h2; rw [h2]; simp only; omega
  · rw [List.map_append, List.pairwise_append]
    refine ⟨h.up, by simp, fun u hu v hv => ?_⟩
    obtain ⟨z, hz, rfl⟩ := List.mem_map.1 hu
    simp only [List.map_cons, List.map_nil, List.mem_singleton] at hv
    rw [hv]; have := h.rng z hz; omega
/-- One block more: the one that was used least lately leaves, and is read anew. -/
theorem Few.over {x : Pl} {l : List Pl} {n : Nat} {used : Int → Int} {s : DS} {r : Int} (h : Few (x :: l) n used) (hs : s.Qt 20 r) (hn : n < 20) :
    ∃ d : Blk, readC n s (x :: l) 19 = ((s.read 19).1, l ++ [⟨19, d, false⟩], d, 0) ∧
      ∃ d' : Blk, readC n (s.read 19).1 (l ++ [(⟨19, d, false⟩ : Pl)]) x.at_ = (((s.read 19).1.read x.at_).1, (l ++ [(⟨19, d, false⟩ : Pl)]).tail ++ [⟨x.at_, d', false⟩], d', 0) := by
  have hx := h.rng x List.mem_cons_self
  have hslow : ∀ z ∈ l, z.fast = false := fun z hz => h.slow z (List.mem_cons_of_mem _ hz)
  have hf0 : ∀ cs : List Pl, (∀ z ∈ cs, z.fast = false) → fastP cs = 0 := fun cs hc => by
    unfold fastP
    rw [List.filter_eq_nil_iff.2 (fun y hy => by rw [hc y hy]; decide)]; rfl
  have hlen := h.len
  simp only [List.length_cons] at hlen
  refine ⟨s.now 19, ?_, (s.read 19).1.now x.at_, ?_⟩
  · unfold readC
    have hf : findP (x :: l) 19 = none := findP_none.2 fun y hy => by have := h.rng y hy; omega
    have hr : roomP n (x :: l) = some l := by
      unfold roomP
      rw [hf0 _ h.slow, if_neg (by omega), if_neg (by simp only [List.length_cons]; omega), List.eraseP_cons_of_pos (by rw [h.slow x List.mem_cons_self]; rfl)]
    rw [hs.wrong (by omega) (by omega), if_neg (fun h => h rfl), hf, hr]
  · unfold readC
    have hnd := h.inj
    simp only [List.map_cons, List.nodup_cons] at hnd
    have hf : findP (l ++ [(⟨19, s.now 19, false⟩ : Pl)]) x.at_ = none := findP_none.2 fun y hy => by
      rcases List.mem_append.1 hy with h2 | h2
      · exact fun e => hnd.1 (e ▸ List.mem_map.2 ⟨y, h2, rfl⟩)
      · simp only [List.mem_singleton] at h2; rw [h2]; simp only; omega
    have hs2 := hs.read (a := 19) (by omega) (by omega)
    have hsl : ∀ z ∈ l ++ [(⟨19, s.now 19, false⟩ : Pl)], z.fast = false := fun z hz => by
      rcases List.mem_append.1 hz with h2 | h2
      · exact hslow z h2
      · simp only [List.mem_singleton] at h2; rw [h2]
    have hr : roomP n (l ++ [(⟨19, s.now 19, false⟩ : Pl)]) = some (l ++ [(⟨19, s.now 19, false⟩ : Pl)]).tail := by
      unfold roomP
      rw [hf0 _ hsl, if_neg (by omega), if_neg (by simp; omega)]
      cases hl : l ++ [(⟨19, s.now 19, false⟩ : Pl)] with
      | nil => simp at hl
      | cons y t =>
        rw [hl] at hsl
        rw [List.eraseP_cons_of_pos (by rw [hsl y List.mem_cons_self]; rfl)]; rfl
    rw [hs2.wrong hx.1 (by omega), if_neg (fun h => h rfl), hf, hr]
end Go.Vc

/- Fs, part Q: plain laws of a cache: what was put is read, and stays off the disk. -/
set_option linter.unusedVariables false
set_option linter.unusedSimpArgs false
namespace Go.Vc

theorem fastP_app (l1 l2 : List Pl) : fastP (l1 ++ l2) = fastP l1 + fastP l2 := by
  unfold fastP; rw [List.filter_append, List.length_append]; omega
theorem fastP_cons (x : Pl) (l : List Pl) : fastP (x :: l) = (if x.fast then 1 else 0) + fastP l := by
  unfold fastP; rw [List.filter_cons]; split <;> simp <;> omega
theorem fastP_nil : fastP [] = 0 := rfl
theorem fastP_le (l : List Pl) : 0 ≤ fastP l ∧ fastP l ≤ l.length := by
  unfold fastP
  have := List.length_filter_le (fun x : Pl => x.fast) l
  omega
theorem fastP_all {l : List Pl} (h : (l.length : Int) ≤ fastP l) : ∀ x ∈ l, x.fast = true := by
  induction l with
  | nil => intro x hx; cases hx
  | cons y l ih =>
    rw [fastP_cons, List.length_cons] at h
    have h2 := fastP_le l
    cases hy : y.fast with
    | false => rw [hy] at h; simp only [Bool.false_eq_true, if_false] at h; omega
    | true =>
      rw [hy] at h; simp only [if_true] at h
      intro x hx
      rcases List.mem_cons.1 hx with rfl | hx
      · exact hy
      · exact ih (by omega) x hx

/-- Of any steps with one cache of a disk of 16 blocks. fil: the block that a number says. -/
structure TInv (fil : Int → Blk) (size : Nat) (s : DS) (cs : List Pl) (book out : Int → Int) (fast : Int → Bool) (held writes : Int) : Prop where
  n : s.n = 16
  st : s.stopped = false
  fuse : s.fuse = -1
  made : s.made = writes
  now : ∀ a, 0 ≤ a → a < 16 → s.now a = fil (out a)
  nod : (cs.map (·.at_)).Nodup
  rng : ∀ y ∈ cs, 0 ≤ y.at_ ∧ y.at_ < 16
  data : ∀ y ∈ cs, y.data = fil (book y.at_) ∧ y.fast = fast y.at_
  gone : ∀ a, 0 ≤ a → a < 16 → (∀ y ∈ cs, y.at_ ≠ a) → fast a = false
  clean : ∀ a, 0 ≤ a → a < 16 → fast a = false → book a = out a
  held : held = fastP cs
  len : cs.length ≤ size
section
variable {fil : Int → Blk} {size : Nat} {s : DS} {cs : List Pl} {book out : Int → Int} {fast : Int → Bool} {held writes : Int}
theorem TInv.wrong (h : TInv fil size s cs book out fast held writes) {a : Int} (h0 : 0 ≤ a) (h1 : a < 16) : s.wrong a = 0 := by
  unfold DS.wrong
  rw [h.st, if_neg (by decide), h.n, if_neg (by omega)]
theorem TInv.find_fast (h : TInv fil size s cs book out fast held writes) {x : Pl} (hx : x ∈ cs) (hfull : held = size) : fast x.at_ = true := by
  have h1 := h.len
  have h2 := h.held
  rw [← (h.data x hx).2]
  exact fastP_all (by omega) x hx
/-- Behind room: what is not fast may have left. -/
theorem roomP_some {size : Int} {cs cs1 : List Pl} (h : roomP size cs = some cs1) : fastP cs < size ∧ ((cs.length : Int) < size ∧ cs1 = cs ∨ ∃ l1 x l2, cs = l1 ++ x :: l2 ∧ cs1 = l1 ++ l2 ∧ x.fast = false ∧ size ≤ cs.length) := by
  unfold roomP at h
  split at h
  · cases h
  · rename_i hf
    refine ⟨by omega, ?_⟩
    split at h
    · rename_i hl; injection h with h; exact .inl ⟨hl, h.symm⟩
    · rename_i hl
      injection h with h
      refine .inr ?_
      have hex : ∃ x ∈ cs, x.fast = false := by
        apply Classical.byContradiction
        intro hn
        have hall : ∀ x ∈ cs, x.fast = true := fun x hx => by
          cases hxf : x.fast with
          | true => rfl
          | false => exact absurd ⟨x, hx, hxf⟩ hn
        have : fastP cs = cs.length := by unfold fastP; rw [List.filter_eq_self.2 hall]
        omega
      obtain ⟨x, hx, hxf⟩ := hex
      obtain ⟨y, l1, l2, hy1, hy2, hy3, hy4⟩ := List.exists_of_eraseP hx (p := fun x => !x.fast) (by rw [hxf]; rfl)
      exact ⟨l1, y, l2, hy3, by rw [← h, hy4], by simpa using hy2, by omega⟩
theorem nodup_drop {l1 l2 : List Pl} {x : Pl} (h : ((l1 ++ x :: l2).map (·.at_)).Nodup) : ((l1 ++ l2).map (·.at_)).Nodup ∧ ∀ y ∈ l1 ++ l2, y.at_ ≠ x.at_ := by
  rw [List.map_append, List.map_cons, List.nodup_append, List.nodup_cons] at h
  obtain ⟨h1, ⟨h2, h3⟩, h4⟩ := h
  refine ⟨by rw [List.map_append, List.nodup_append]; exact ⟨h1, h3, fun a ha b hb => h4 a ha b (List.mem_cons_of_mem _ hb)⟩, fun y hy e => ?_⟩
  rcases List.mem_append.1 hy with h5 | h5
  · exact h4 y.at_ (List.mem_map.2 ⟨y, h5, rfl⟩) x.at_ List.mem_cons_self e
  · exact h2 (e ▸ List.mem_map.2 ⟨y, h5, rfl⟩)
theorem nodup_snoc {l : List Pl} {x : Pl} (h : (l.map (·.at_)).Nodup) (hx : ∀ y ∈ l, y.at_ ≠ x.at_) : ((l ++ [x]).map (·.at_)).Nodup := by
  rw [List.map_append, List.nodup_append]
  refine ⟨h, by simp, fun a ha b hb e => ?_⟩
  simp only [List.map_cons, List.map_nil, List.mem_singleton] at hb
  obtain ⟨y, hy, rfl⟩ := List.mem_map.1 ha
  exact hx y hy (by rw [e, hb])
theorem memP_mid {l1 l2 : List Pl} {x y : Pl} : y ∈ l1 ++ x :: l2 ↔ y = x ∨ y ∈ l1 ++ l2 := by
  simp only [List.mem_append, List.mem_cons]
  constructor
  · rintro (h | h | h)
    · exact .inr (.inl h)
    · exact .inl h
    · exact .inr (.inr h)
  · rintro (h | h | h)
    · exact .inr (.inl h)
    · exact .inl h
    · exact .inr (.inr h)

/-- Room is made: the rest holds what it held. -/
theorem TInv.room (h : TInv fil size s cs book out fast held writes) {cs1 : List Pl} (hr : roomP size cs = some cs1) : TInv fil size s cs1 book out fast held writes ∧ cs1.length < size ∧ ∀ y ∈ cs1, y ∈ cs := by
  obtain ⟨h1, h2⟩ := roomP_some hr
  rcases h2 with ⟨h2, rfl⟩ | ⟨l1, x, l2, rfl, rfl, hx, h4⟩
  · exact ⟨h, by omega, fun y hy => hy⟩
  · obtain ⟨n1, n2⟩ := nodup_drop h.nod
    have hxm : x ∈ l1 ++ x :: l2 := memP_mid.2 (.inl rfl)
    have hsub : ∀ y ∈ l1 ++ l2, y ∈ l1 ++ x :: l2 := fun y hy => memP_mid.2 (.inr hy)
    refine ⟨{ h with nod := n1, rng := fun y hy => h.rng y (hsub y hy), data := fun y hy => h.data y (hsub y hy), gone := fun a h0 h1 hn => ?_, held := ?_, len := ?_ }, ?_, hsub⟩
    · by_cases ha : x.at_ = a
      · rw [← ha, ← (h.data x hxm).2]; exact hx
      · exact h.gone a h0 h1 fun y hy => by
          rcases memP_mid.1 hy with rfl | hy
          · exact ha
          · exact hn y hy
    · rw [h.held]; simp only [fastP_app, fastP_cons, hx, Bool.false_eq_true, if_false]; omega
    · have := h.len; simp at this ⊢; omega
    · have := h.len; simp at this ⊢; omega

theorem TInv.read (h : TInv fil size s cs book out fast held writes) {a : Int} (h0 : 0 ≤ a) (h1 : a < 16) :
    (held = size ∧ fast a = false → readC size s cs a = (s, cs, zB, 160)) ∧
    (¬ (held = size ∧ fast a = false) → ∃ s' cs', readC size s cs a = (s', cs', fil (book a), 0) ∧ TInv fil size s' cs' book out fast held writes ∧ s'.reads ≤ s.reads + 1 ∧ s.reads ≤ s'.reads ∧ s'.pl = s.pl ∧ s'.hl = s.hl) := by
  have hw := h.wrong h0 h1
  have hlen := h.len
  have hheld := h.held
  have hfl := fastP_le cs
  cases hf : findP cs a with
  | some x =>
    obtain ⟨l1, l2, rfl, hxa, hl1, hout⟩ := findP_some hf
    have hxm : x ∈ l1 ++ x :: l2 := memP_mid.2 (.inl rfl)
    refine ⟨fun ⟨e1, e2⟩ => ?_, fun hn => ⟨s, outP (l1 ++ x :: l2) a ++ [x], ?_, ?_, by omega, by omega, rfl, rfl⟩⟩
    · have := h.find_fast hxm e1
      rw [hxa, e2] at this; cases this
    · unfold readC
      rw [hw, if_neg (fun h => h rfl), hf]
      simp only
      rw [(h.data x hxm).1, hxa]
    · obtain ⟨n1, n2⟩ := nodup_drop h.nod
      rw [hout]
      have hmm : ∀ y, y ∈ l1 ++ l2 ++ [x] ↔ y ∈ l1 ++ x :: l2 := fun y => by
        rw [memP_mid (l1 := l1) (l2 := l2) (x := x), List.mem_append (s := l1 ++ l2), List.mem_singleton]
        exact ⟨fun h => h.symm, fun h => h.symm⟩
      refine { h with nod := nodup_snoc n1 n2, rng := fun y hy => h.rng y ((hmm y).1 hy), data := fun y hy => h.data y ((hmm y).1 hy), gone := fun b h0 h1 hb => h.gone b h0 h1 fun y hy => hb y ((hmm y).2 hy), held := ?_, len := ?_ }
      · rw [h.held]; simp only [fastP_app, fastP_cons, fastP_nil]; omega
      · have := h.len; simp at this ⊢; omega
  | none =>
    have hnf := findP_none.1 hf
    have hfa := h.gone a h0 h1 hnf
    refine ⟨fun ⟨e1, e2⟩ => ?_, fun hn => ?_⟩
    · unfold readC
      have hr : roomP size cs = none := by unfold roomP; rw [if_pos (by omega)]
      rw [hw, if_neg (fun h => h rfl), hf, hr]
    · have hns : held ≠ size := fun e => hn ⟨e, hfa⟩
      cases hr : roomP size cs with
      | none =>
        exfalso
        unfold roomP at hr
        split at hr
        · omega
        · split at hr <;> cases hr
      | some cs1 =>
        obtain ⟨h', hl', hsub⟩ := h.room hr
        have hrd : (s.read a).1 = { s with reads := s.reads + 1 } := by
          unfold DS.read
          rw [h.st, if_neg (by decide), h.n, if_neg (by omega)]
        have hnw : s.now a = fil (book a) := by rw [h.now a h0 h1, h.clean a h0 h1 hfa]
        refine ⟨(s.read a).1, cs1 ++ [⟨a, s.now a, false⟩], ?_, ?_, ?_⟩
        · unfold readC
          rw [hw, if_neg (fun h => h rfl), hf, hr]
          simp only
          rw [← hnw]
        · rw [hrd]
          have hn1 : ∀ y ∈ cs1, y.at_ ≠ a := fun y hy => hnf y (hsub y hy)
          refine { h' with nod := nodup_snoc h'.nod hn1, rng := fun y hy => ?_, data := fun y hy => ?_, gone := fun b h0 h1 hb => h'.gone b h0 h1 fun y hy => hb y (List.mem_append_left _ hy), held := ?_, len := ?_ }
          · rcases List.mem_append.1 hy with h2 | h2
            · exact h'.rng y h2
            · simp only [List.mem_singleton] at h2; rw [h2]; exact ⟨h0, h1⟩
          · rcases List.mem_append.1 hy with h2 | h2
            · exact h'.data y h2
            · simp only [List.mem_singleton] at h2; rw [h2]; exact ⟨hnw, hfa.symm⟩
          · rw [h'.held]; simp only [fastP_app, fastP_cons, fastP_nil]; simp
          · rw [List.length_append]; simp only [List.length_cons, List.length_nil]; omega
        · rw [hrd]; exact ⟨by simp only; omega, by simp only; omega, rfl, rfl⟩
end
end Go.Vc

/- Fs, part R: plain laws of a cache: puts and flushes. -/
set_option linter.unusedVariables false
set_option linter.unusedSimpArgs false
namespace Go.Vc

def updI {α : Type} (f : Int → α) (a : Int) (v : α) : Int → α := fun k => if k = a then v else f k
section
variable {fil : Int → Blk} {size : Nat} {s : DS} {cs : List Pl} {book out : Int → Int} {fast : Int → Bool} {held writes : Int}
theorem TInv.put (h : TInv fil size s cs book out fast held writes) {a : Int} (h0 : 0 ≤ a) (h1 : a < 16) (f : Int) :
    (held = size ∧ fast a = false → putC size s cs a (fil f) = (cs, 160)) ∧
    (¬ (held = size ∧ fast a = false) → ∃ cs', putC size s cs a (fil f) = (cs', 0) ∧ TInv fil size s cs' (updI book a f) out (updI fast a true) (if fast a then held else held + 1) writes) := by
  have hw := h.wrong h0 h1
  have hlen := h.len
  have hheld := h.held
  have hfl := fastP_le cs
  -- whatever is left without a, with a behind it
  have fin : ∀ cs1 : List Pl, (cs1.map (·.at_)).Nodup → (∀ y ∈ cs1, y.at_ ≠ a) → (∀ y ∈ cs1, y ∈ cs) → (∀ b, 0 ≤ b → b < 16 → b ≠ a → (∀ y ∈ cs1, y.at_ ≠ b) → fast b = false) → fastP cs1 = (if fast a then held - 1 else held) → cs1.length < size →
      TInv fil size s (cs1 ++ [⟨a, fil f, true⟩]) (updI book a f) out (updI fast a true) (if fast a then held else held + 1) writes := by
    intro cs1 n1 n2 hsub hg hfc hl
    refine { n := h.n, st := h.st, fuse := h.fuse, made := h.made, now := h.now, nod := nodup_snoc n1 n2, rng := fun y hy => ?_, data := fun y hy => ?_, gone := fun b g0 g1 hb => ?_, clean := fun b g0 g1 hb => ?_, held := ?_, len := ?_ }
    · rcases List.mem_append.1 hy with h2 | h2
      · exact h.rng y (hsub y h2)
      · simp only [List.mem_singleton] at h2; rw [h2]; exact ⟨h0, h1⟩
    · rcases List.mem_append.1 hy with h2 | h2
      · unfold updI; rw [if_neg (n2 y h2), if_neg (n2 y h2)]; exact h.data y (hsub y h2)
      · simp only [List.mem_singleton] at h2; rw [h2]; unfold updI; rw [if_pos rfl, if_pos rfl]; exact ⟨rfl, rfl⟩
    · have hba : b ≠ a := fun e => hb ⟨a, fil f, true⟩ (by simp) e.symm
      unfold updI; rw [if_neg hba]
      exact hg b g0 g1 hba fun y hy => hb y (List.mem_append_left _ hy)
    · unfold updI at hb ⊢
      by_cases hba : b = a
      · rw [if_pos hba] at hb; cases hb
      · rw [if_neg hba] at hb ⊢; exact h.clean b g0 g1 hb
    · rw [fastP_app, fastP_cons, fastP_nil, hfc]
      split <;> simp
    · rw [List.length_append]; simp only [List.length_cons, List.length_nil]; omega
  cases hf : findP cs a with
  | some x =>
    obtain ⟨l1, l2, hcs, hxa, hl1, hout⟩ := findP_some hf
    have hxm : x ∈ cs := by rw [hcs]; exact memP_mid.2 (.inl rfl)
    have hd := h.data x hxm
    rw [hxa] at hd
    refine ⟨fun ⟨e1, e2⟩ => ?_, fun hn => ⟨outP cs a ++ [⟨a, fil f, true⟩], ?_, ?_⟩⟩
    · have := h.find_fast hxm e1
      rw [hxa, e2] at this; cases this
    · unfold putC baseC
      rw [hw, if_neg (fun h => h rfl), hf]
    · have hnod := h.nod
      rw [hcs] at hnod
      obtain ⟨n1, n2⟩ := nodup_drop hnod
      rw [hout]
      refine fin _ n1 (fun y hy => by rw [← hxa]; exact n2 y hy) (fun y hy => by rw [hcs]; exact memP_mid.2 (.inr hy)) (fun b g0 g1 hba hb => ?_) ?_ ?_
      · exact h.gone b g0 g1 fun y hy => by
          rw [hcs] at hy
          rcases memP_mid.1 hy with rfl | hy
          · rw [hxa]; exact fun e => hba e.symm
          · exact hb y hy
      · rw [← hd.2, h.held, hcs]
        simp only [fastP_app, fastP_cons]
        split <;> omega
      · rw [hcs] at hlen; simp at hlen ⊢; omega
  | none =>
    have hnf := findP_none.1 hf
    have hfa := h.gone a h0 h1 hnf
    refine ⟨fun ⟨e1, e2⟩ => ?_, fun hn => ?_⟩
    · unfold putC baseC
      have hr : roomP size cs = none := by unfold roomP; rw [if_pos (by omega)]
      rw [hw, if_neg (fun h => h rfl), hf, hr]
    · have hns : held ≠ size := fun e => hn ⟨e, hfa⟩
      cases hr : roomP size cs with
      | none =>
        exfalso
        unfold roomP at hr
        split at hr
        · omega
        · split at hr <;> cases hr
      | some cs1 =>
        obtain ⟨h', hl', hsub⟩ := h.room hr
        refine ⟨cs1 ++ [⟨a, fil f, true⟩], ?_, ?_⟩
        · unfold putC baseC
          rw [hw, if_neg (fun h => h rfl), hf, hr]
        · exact fin cs1 h'.nod (fun y hy => hnf y (hsub y hy)) hsub (fun b g0 g1 _ hb => h'.gone b g0 g1 hb) (by rw [hfa, ← h'.held]; rfl) hl'

theorem calmP_len (cs : List Pl) (a : Int) : (calmP cs a).length = cs.length := by unfold calmP; rw [List.length_map]
theorem calmP_at (cs : List Pl) (a : Int) : (calmP cs a).map (·.at_) = cs.map (·.at_) := by
  unfold calmP
  rw [List.map_map]
  apply List.map_congr_left
  intro y hy
  show (if y.at_ = a then ({ y with fast := false } : Pl) else y).at_ = y.at_
  split <;> rfl
theorem calmP_mem {cs : List Pl} {a : Int} {z : Pl} (h : z ∈ calmP cs a) : ∃ y ∈ cs, z.at_ = y.at_ ∧ z.data = y.data ∧ z.fast = (if y.at_ = a then false else y.fast) := by
  unfold calmP at h
  obtain ⟨y, hy, rfl⟩ := List.mem_map.1 h
  refine ⟨y, hy, ?_⟩
  split
  · rename_i e; exact ⟨rfl, rfl, rfl⟩
  · rename_i e; exact ⟨rfl, rfl, rfl⟩
theorem TInv.flush (h : TInv fil size s cs book out fast held writes) {a : Int} (h0 : 0 ≤ a) (h1 : a < 16) :
    ∃ s' cs', flushC s cs a = (s', cs', 0) ∧ TInv fil size s' cs' book (if fast a then updI out a (book a) else out) (updI fast a false) (if fast a then held - 1 else held) (if fast a then writes + 1 else writes) ∧
      s'.reads = s.reads ∧ s'.pl ≤ s.pl + 1 ∧ s'.hl ≤ s.hl + 1 := by
  have hw := h.wrong h0 h1
  have same : fast a = false → TInv fil size s cs book (if fast a then updI out a (book a) else out) (updI fast a false) (if fast a then held - 1 else held) (if fast a then writes + 1 else writes) := fun hfa => by
    rw [hfa]
    simp only [Bool.false_eq_true, if_false]
    have : updI fast a false = fast := by
      funext k; unfold updI; split
      · rename_i e; rw [e, hfa]
      · rfl
    rw [this]; exact h
  cases hf : findP cs a with
  | none =>
    have hfa := h.gone a h0 h1 (findP_none.1 hf)
    exact ⟨s, cs, flushC_none hw hf, same hfa, rfl, by omega, by omega⟩
  | some x =>
    obtain ⟨l1, l2, hcs, hxa, hl1, hout⟩ := findP_some hf
    have hxm : x ∈ cs := by rw [hcs]; exact memP_mid.2 (.inl rfl)
    obtain ⟨hd1, hd2⟩ := h.data x hxm
    rw [hxa] at hd1 hd2
    cases hxf : x.fast with
    | false => exact ⟨s, cs, flushC_calm hw hf hxf, same (by rw [← hd2]; exact hxf), rfl, by omega, by omega⟩
    | true =>
      have hfa : fast a = true := by rw [← hd2]; exact hxf
      have hwr : s.write a x.data = ({ s with made := s.made + 1, now := updB s.now a x.data, pl := s.pl + 1, hl := s.hl + 1 }, 0) := by
        have hfu := h.fuse
        obtain ⟨q1, q2, q3, q4, q5, q6, q7, q8, q9, q10, q11⟩ := s
        have hst := h.st
        have hn := h.n
        simp only at hfu hst hn
        subst hfu hst hn
        unfold DS.write DS.burn
        simp only [Bool.false_eq_true, if_false]
        rw [if_neg (by omega), if_neg (by decide)]
        rfl
      rw [hfa]
      simp only [if_true]
      refine ⟨(s.write a x.data).1, calmP cs a, flushC_done hw hf hxf (by rw [hwr]), ?_, ?_⟩
      · rw [hwr]
        refine { n := h.n, st := h.st, fuse := h.fuse, made := by rw [← h.made], now := fun b g0 g1 => ?_, nod := by rw [calmP_at]; exact h.nod, rng := fun y hy => ?_, data := fun y hy => ?_, gone := fun b g0 g1 hb => ?_, clean := fun b g0 g1 hb => ?_, held := ?_, len := by rw [calmP_len]; exact h.len }
        · show updB s.now a x.data b = _
          unfold updB updI
          split
          · exact hd1
          · exact h.now b g0 g1
        · obtain ⟨z, hz, e1, e2, e3⟩ := calmP_mem hy
          rw [e1]; exact h.rng z hz
        · obtain ⟨z, hz, e1, e2, e3⟩ := calmP_mem hy
          have := h.data z hz
          rw [e2, e3, e1]
          refine ⟨this.1, ?_⟩
          unfold updI
          split
          · rfl
          · exact this.2
        · unfold updI
          split
          · rfl
          · refine h.gone b g0 g1 fun y hy e => ?_
            have : b ∈ (calmP cs a).map (·.at_) := by rw [calmP_at]; exact List.mem_map.2 ⟨y, hy, e⟩
            obtain ⟨z, hz, he⟩ := List.mem_map.1 this
            exact hb z hz he
        · unfold updI at hb ⊢
          by_cases hba : b = a
          · rw [if_pos hba, hba]
          · rw [if_neg hba] at hb ⊢
            exact h.clean b g0 g1 hb
        · have hnod := h.nod
          rw [hcs] at hnod
          obtain ⟨n1, n2⟩ := nodup_drop hnod
          have key : ∀ l : List Pl, (∀ y ∈ l, y.at_ ≠ a) → calmP l a = l := fun l hl => by
            unfold calmP
            conv => rhs; rw [← List.map_id l]
            apply List.map_congr_left
            intro y hy
            rw [if_neg (hl y hy)]; rfl
          have e : calmP cs a = l1 ++ { x with fast := false } :: l2 := by
            rw [hcs]
            have e0 : calmP (l1 ++ x :: l2) a = calmP l1 a ++ (if x.at_ = a then { x with fast := false } else x) :: calmP l2 a := by
              unfold calmP; rw [List.map_append, List.map_cons]
            rw [e0, key l1 hl1, key l2 fun y hy => by rw [← hxa]; exact n2 y (List.mem_append_right _ hy), if_pos hxa]
          rw [e, h.held, hcs]
          simp only [fastP_app, fastP_cons, hxf, if_true, Bool.false_eq_true, if_false]
          omega
      · rw [hwr]; exact ⟨rfl, Nat.le_refl _, Nat.le_refl _⟩
end
end Go.Vc

/- The conditions of functions' bodies, in words, each tied to the program. -/
set_option linter.unusedVariables false
set_option linter.unusedSimpArgs false
namespace Go.Proofs
open Go.Vc

/- (*undercroft/disk.Disk).Made -/
def sh28 (v0 : Value) (H : Hp) (R : Value → Hp → Prop) : Prop :=
 Fc Try.prog 46 #[v0] H fun x1 H1 =>
 Pu (unE .not x1) fun x2 =>
 Ite x2
  (R (.int .i64 0) H1)
  (Pu (nilCheckE v0) fun x3 =>
  Pu (addrE (some 7) x3) fun x4 =>
  Pu (loadE (some none) x4 H1) fun x5 =>
  R x5 H1)
set_option maxRecDepth 100000 in
theorem fn28 {v0 : Value} {H : Hp} {R : Value → Hp → Prop} (h : sh28 v0 H R) : Fc Try.prog 28 #[v0] H R :=
  fn_of_vc (fun f => [].contains f) .nil Try.func28 (args := [v0]) (Eq.mp (by kernel_rfl : sh28 v0 H R = VcFn Try.prog (fun f => [].contains f) Try.f28 .nil [v0] H R) h)

/- (*undercroft/disk.Disk).Reads -/
def sh27 (v0 : Value) (H : Hp) (R : Value → Hp → Prop) : Prop :=
 Fc Try.prog 46 #[v0] H fun x1 H1 =>
 Pu (unE .not x1) fun x2 =>
 Ite x2
  (R (.int .i64 0) H1)
  (Pu (nilCheckE v0) fun x3 =>
  Pu (addrE (some 8) x3) fun x4 =>
  Pu (loadE (some none) x4 H1) fun x5 =>
  R x5 H1)
set_option maxRecDepth 100000 in
theorem fn27 {v0 : Value} {H : Hp} {R : Value → Hp → Prop} (h : sh27 v0 H R) : Fc Try.prog 27 #[v0] H R :=
  fn_of_vc (fun f => [].contains f) .nil Try.func27 (args := [v0]) (Eq.mp (by kernel_rfl : sh27 v0 H R = VcFn Try.prog (fun f => [].contains f) Try.f27 .nil [v0] H R) h)

/- (*undercroft/cache.Cache).Fast -/
def sh18 (v0 : Value) (H : Hp) (R : Value → Hp → Prop) : Prop :=
 Pu (eqXE Try.prog 29 true .eql v0 (.pointer none) H) fun x1 =>
 Ite x1
  (R (.int .i64 0) H)
  (Pu (nilCheckE v0) fun x2 =>
  Pu (addrE (some 2) x2) fun x3 =>
  Pu (loadE (some none) x3 H) fun x4 =>
  R x4 H)
set_option maxRecDepth 100000 in
theorem fn18 {v0 : Value} {H : Hp} {R : Value → Hp → Prop} (h : sh18 v0 H R) : Fc Try.prog 18 #[v0] H R :=
  fn_of_vc (fun f => [].contains f) .nil Try.func18 (args := [v0]) (Eq.mp (by kernel_rfl : sh18 v0 H R = VcFn Try.prog (fun f => [].contains f) Try.f18 .nil [v0] H R) h)

/- (*undercroft/cache.Cache).Len -/
def sh20 (v0 : Value) (H : Hp) (R : Value → Hp → Prop) : Prop :=
 Pu (eqXE Try.prog 29 true .eql v0 (.pointer none) H) fun x1 =>
 Ite x1
  (R (.int .i64 0) H)
  (Pu (nilCheckE v0) fun x2 =>
  Pu (addrE (some 1031) x2) fun x3 =>
  Pu (loadE (some none) x3 H) fun x4 =>
  Pu (mapLenE x4 H) fun x5 =>
  R x5 H)
set_option maxRecDepth 100000 in
theorem fn20 {v0 : Value} {H : Hp} {R : Value → Hp → Prop} (h : sh20 v0 H R) : Fc Try.prog 20 #[v0] H R :=
  fn_of_vc (fun f => [].contains f) .nil Try.func20 (args := [v0]) (Eq.mp (by kernel_rfl : sh20 v0 H R = VcFn Try.prog (fun f => [].contains f) Try.f20 .nil [v0] H R) h)

/- (*undercroft/cache.Cache).Order -/
def sh22 (v0 : Value) (H : Hp) (R : Value → Hp → Prop) : Prop :=
 Join (n := 1) (fun s0 H1 => Any fun _ =>
  Ite s0.1
   (R (.slice none 0 0) H1)
   (Pu (nilCheckE v0) fun x3 =>
   Pu (addrE (some 3) x3) fun x4 =>
   Pu (addrE (some 1027) x4) fun x5 =>
   Pu (loadE (some none) x5 H1) fun x6 =>
   LoopP (n := 2) ((.slice none 0 0), x6, ()) H1 (fun K7 s6 H2 => Any fun _ =>
    Pu (nilCheckE v0) fun x9 =>
    Pu (addrE (some 3) x9) fun x10 =>
    Pu (eqXE Try.prog 79 false .neq s6.2.1 x10 H2) fun x11 =>
    Ite x11
     (Pu (nilCheckE s6.2.1) fun x12 =>
     Pu (addrE (some 0) x12) fun x13 =>
     Pu (loadE (some none) x13 H2) fun x14 =>
     Pu (elemI Try.prog 46) fun x15 => Pu (newSliceE (some x15) 1 [(0, x14)]) fun x16 => NewS x15.type 1 x16 H2 fun x17 H3 =>
     AppS (elemI Try.prog 46) s6.1 x17 H3 fun x18 H4 =>
     Pu (nilCheckE s6.2.1) fun x19 =>
     Pu (addrE (some 1027) x19) fun x20 =>
     Pu (loadE (some none) x20 H4) fun x21 =>
     K7 (x18, x21, ()) H4)
     (R s6.1 H2))))
 (fun K21 => Pu (eqXE Try.prog 29 true .eql v0 (.pointer none) H) fun x23 =>
 Ite x23
  (K21 ((.bool true), ()) H)
  (Pu (nilCheckE v0) fun x24 =>
  Pu (addrE (some 0) x24) fun x25 =>
  Pu (loadE (some none) x25 H) fun x26 =>
  Pu (eqXE Try.prog 25 true .eql x26 (.pointer none) H) fun x27 =>
  K21 (x27, ()) H))
set_option maxRecDepth 100000 in
theorem fn22 {v0 : Value} {H : Hp} {R : Value → Hp → Prop} (h : sh22 v0 H R) : Fc Try.prog 22 #[v0] H R :=
  fn_of_vc (fun f => [].contains f) (.seq .nil (.seq (.join [13] [5, 6, 7, 8, 9, 10, 11, 12] .nil .nil) (.seq .nil (.seq (.seq .nil (.loop [3, 4] [19, 20, 21, 22, 23, 28, 29, 30, 31, 32, 33, 34, 24, 25, 26, 27] .nil)) .nil)))) Try.func22 (args := [v0]) (Eq.mp (by kernel_rfl : sh22 v0 H R = VcFn Try.prog (fun f => [].contains f) Try.f22 (.seq .nil (.seq (.join [13] [5, 6, 7, 8, 9, 10, 11, 12] .nil .nil) (.seq .nil (.seq (.seq .nil (.loop [3, 4] [19, 20, 21, 22, 23, 28, 29, 30, 31, 32, 33, 34, 24, 25, 26, 27] .nil)) .nil)))) [v0] H R) h)

/- undercroft/undercroftlaw06.Filled -/
def sh31 (v0 : Value) (H : Hp) (R : Value → Hp → Prop) : Prop :=
 Pu (zeroE Try.prog 51) fun x1 => Box 51 x1 H fun x2 H1 =>
 Pu (convE (some (.int .u16)) (some (.int .u8)) v0) fun x3 =>
 Pu (binE (some (.int .u16)) .quo v0 (.int .u16 256)) fun x4 =>
 Pu (convE (some (.int .u16)) (some (.int .u8)) x4) fun x5 =>
 Pu (convE (some (.int .u16)) (some (.int .u8)) v0) fun x6 =>
 Pu (binE (some (.int .u16)) .rem v0 (.int .u16 251)) fun x7 =>
 Pu (convE (some (.int .u16)) (some (.int .u8)) x7) fun x8 =>
 Pu (buildE Try.prog 51 [(0, x3), (1, x5), (500, x6), (1023, x8)]) fun x9 =>
 Pu (storeE (some 1024) x2 x9 H1) fun H2 =>
 Pu (loadE (some (some 1024)) x2 H2) fun x10 =>
 R x10 H2
set_option maxRecDepth 100000 in
theorem fn31 {v0 : Value} {H : Hp} {R : Value → Hp → Prop} (h : sh31 v0 H R) : Fc Try.prog 31 #[v0] H R :=
  fn_of_vc (fun f => [].contains f) .nil Try.func31 (args := [v0]) (Eq.mp (by kernel_rfl : sh31 v0 H R = VcFn Try.prog (fun f => [].contains f) Try.f31 .nil [v0] H R) h)

/- undercroft/undercroftlaw06.disks -/
def sh6 (v0 : Value) (H : Hp) (R : Value → Hp → Prop) : Prop :=
 Pu (lenE Try.prog 22 v0) fun x1 =>
 Pu (buildE Try.prog 72 [(0, x1)]) fun x2 =>
 Pu (zeroE Try.prog 72) fun x3 => Box 72 x3 H fun x4 H1 =>
 Pu (storeE (some 2) x4 x2 H1) fun H2 =>
 LoopP (n := 2) ((.slice none 0 0), (.int .i64 0), ()) H2 (fun K5 s4 H3 => Any fun _ =>
  Pu (lenE Try.prog 22 v0) fun x7 =>
  Pu (binE (some (.int .i64)) .lss s4.2.1 x7) fun x8 =>
  Ite x8
   (Pu (idxAddrE (some (none, 1)) v0 s4.2.1) fun x9 =>
   Pu (loadE (some none) x9 H3) fun x10 =>
   Fc Try.prog 31 #[x10] H3 fun x11 H4 =>
   Pu (zeroE Try.prog 51) fun x12 => Box 51 x12 H4 fun x13 H5 =>
   Pu (storeE (some 1024) x13 x11 H5) fun H6 =>
   Pu (loadE (some (some 1024)) x13 H6) fun x14 =>
   Pu (elemI Try.prog 63) fun x15 => Pu (newSliceE (some x15) 1 [(0, x14)]) fun x16 => NewS x15.type 1 x16 H6 fun x17 H7 =>
   AppS (elemI Try.prog 63) s4.1 x17 H7 fun x18 H8 =>
   Pu (loadE (some (some 1024)) x13 H8) fun x19 =>
   Pu (buildE Try.prog 51 []) fun x20 =>
   Pu (eqXE Try.prog 51 false .neq x19 x20 H8) fun x21 =>
   Ite x21
    (Pu (addrE (some 1) x4) fun x22 =>
    Pu (loadE (some none) x22 H8) fun x23 =>
    Pu (loadE (some (some 1024)) x13 H8) fun x24 =>
    Pu (buildE Try.prog 74 [(0, s4.2.1), (1, x24)]) fun x25 =>
    Pu (elemI Try.prog 70) fun x26 => Pu (newSliceE (some x26) 1 [(0, x25)]) fun x27 => NewS x26.type 1 x27 H8 fun x28 H9 =>
    AppS (elemI Try.prog 70) x23 x28 H9 fun x29 H10 =>
    Pu (addrE (some 1) x4) fun x30 =>
    Pu (storeE (some 1) x30 x29 H10) fun H11 =>
    Pu (binE (some (.int .i64)) .add s4.2.1 (.int .i64 1)) fun x31 =>
    K5 (x18, x31, ()) H11)
    (Pu (binE (some (.int .i64)) .add s4.2.1 (.int .i64 1)) fun x32 =>
    K5 (x18, x32, ()) H8))
   (Pu (loadE (some (some 2)) x4 H3) fun x33 =>
   Fc Try.prog 33 #[x33] H3 fun x34 H12 =>
   Pu (extractE x34 0) fun x35 =>
   Pu (extractE x34 1) fun x36 =>
   Fc Try.prog 34 #[s4.1] H12 fun x37 H13 =>
   Pu (eqXE Try.prog 25 true .neq x35 (.pointer none) H13) fun x38 =>
   Ite x38
    (Pu (binE (some (.int .i64)) .eql x36 (.int .i64 0)) fun x39 =>
    R (.tuple #[x35, x37, x39]) H13)
    (R (.tuple #[x35, x37, (.bool false)]) H13)))
set_option maxRecDepth 100000 in
theorem fn6 {v0 : Value} {H : Hp} {R : Value → Hp → Prop} (h : sh6 v0 H R) : Fc Try.prog 6 #[v0] H R :=
  fn_of_vc (fun f => [].contains f) (.seq .nil (.seq .nil (.seq .nil (.seq (.seq .nil (.loop [6, 7] [14, 15, 16, 17, 20, 21, 22, 23, 24, 8, 25, 26, 27, 28, 29, 30, 31, 32, 33, 34, 35, 36, 37, 38, 39, 18, 19] .nil)) .nil)))) Try.func6 (args := [v0]) (Eq.mp (by kernel_rfl : sh6 v0 H R = VcFn Try.prog (fun f => [].contains f) Try.f6 (.seq .nil (.seq .nil (.seq .nil (.seq (.seq .nil (.loop [6, 7] [14, 15, 16, 17, 20, 21, 22, 23, 24, 8, 25, 26, 27, 28, 29, 30, 31, 32, 33, 34, 35, 36, 37, 38, 39, 18, 19] .nil)) .nil)))) [v0] H R) h)

/- undercroft/undercroftref06.NewDisk -/
def sh34 (v0 : Value) (H : Hp) (R : Value → Hp → Prop) : Prop :=
 Pu (buildE Try.prog 65 [(2, (.int .i64 (-1)))]) fun x1 =>
 Box 65 x1 H fun x2 H1 =>
 Pu (nilCheckE x2) fun x3 =>
 Pu (addrE (some 0) x3) fun x4 =>
 Pu (loadE (some none) x4 H1) fun x5 =>
 AppS (elemI Try.prog 63) x5 v0 H1 fun x6 H2 =>
 Pu (nilCheckE x2) fun x7 =>
 Pu (addrE (some 0) x7) fun x8 =>
 Pu (storeE (some 1) x8 x6 H2) fun H3 =>
 Pu (nilCheckE x2) fun x9 =>
 Pu (addrE (some 1) x9) fun x10 =>
 Pu (loadE (some none) x10 H3) fun x11 =>
 AppS (elemI Try.prog 63) x11 v0 H3 fun x12 H4 =>
 Pu (nilCheckE x2) fun x13 =>
 Pu (addrE (some 1) x13) fun x14 =>
 Pu (storeE (some 1) x14 x12 H4) fun H5 =>
 R x2 H5
set_option maxRecDepth 100000 in
theorem fn34 {v0 : Value} {H : Hp} {R : Value → Hp → Prop} (h : sh34 v0 H R) : Fc Try.prog 34 #[v0] H R :=
  fn_of_vc (fun f => [].contains f) .nil Try.func34 (args := [v0]) (Eq.mp (by kernel_rfl : sh34 v0 H R = VcFn Try.prog (fun f => [].contains f) Try.f34 .nil [v0] H R) h)
end Go.Proofs

/- Ft, part A: what a disk and a cache tell of themselves. (NOT BUILT YET: it needs a seat in which these functions stand: r5; ShF prints them.) -/
set_option linter.unusedVariables false
set_option linter.unusedSimpArgs false
namespace Go.Vc
open Go.Proofs

section
variable {H : Hp} {R : Value → Hp → Prop} {p cb : Nat} {s : DS} {O : Nat → Prop} {size : Int} {cs : List Pl}
theorem disk_made (h : DiskAt H p s O) (k : R (.int .i64 s.made) H) : Fc Try.prog 28 #[ptrV p] H R := by
  refine fn28 ?_
  refine disk_is h ?_
  obtain ⟨⟨mh, ml, ps, hs, fh, fl, nh, nl, pend, hist, hd, _⟩, _⟩ := h
  simp only [unE_not, Pu_some, Bool.not_true, Ite_false, nilCheckE, addr_ptr, Nat.zero_add, load_cell hd.top, dk_get]
  exact k
theorem disk_reads (h : DiskAt H p s O) (k : R (.int .i64 s.reads) H) : Fc Try.prog 27 #[ptrV p] H R := by
  refine fn27 ?_
  refine disk_is h ?_
  obtain ⟨⟨mh, ml, ps, hs, fh, fl, nh, nl, pend, hist, hd, _⟩, _⟩ := h
  simp only [unE_not, Pu_some, Bool.not_true, Ite_false, nilCheckE, addr_ptr, Nat.zero_add, load_cell hd.top, dk_get]
  exact k
theorem cache_fast (h : CacheAt H cb p size cs O) (k : R (.int .i64 (fastP cs)) H) : Fc Try.prog 18 #[ptrV cb] H R := by
  obtain ⟨⟨row, mp, hC, rfl, _⟩, _⟩ := h
  refine fn18 ?_
  simp only [sh18, eqX_ptr undCa, Pu_some, Ite_false, nilCheckE, addr_ptr, Nat.zero_add, load_cel, hC.fast]
  rw [fastP_map] at k
  exact k
theorem cache_len (h : CacheAt H cb p size cs O) (k : R (.int .i64 cs.length) H) : Fc Try.prog 20 #[ptrV cb] H R := by
  obtain ⟨⟨row, mp, hC, rfl, _⟩, _⟩ := h
  refine fn20 ?_
  simp only [sh20, eqX_ptr undCa, Pu_some, Ite_false, nilCheckE, addr_ptr, Nat.zero_add, load_cel, hC.has]
  rw [map_len hC.map, Pu_some]
  rw [List.length_map] at k
  exact k
end
end Go.Vc

/- Ft, part B: a cache's order; filled blocks. -/
set_option linter.unusedVariables false
set_option linter.unusedSimpArgs false
namespace Go.Vc
open Go.Proofs

/-- Numbers as the cells of a slice. -/
def ints (l : List Int) : List (Array Value) := l.map fun x => #[.int .i64 x]
theorem ints_app (a b : List Int) : ints (a ++ b) = ints a ++ ints b := by unfold ints; rw [List.map_append]
theorem ints_len (l : List Int) : (ints l).length = l.length := by unfold ints; rw [List.length_map]
theorem ints_get {l : List Int} {i : Nat} {x : Int} (h : l[i]? = some x) : (ints l)[i]? = some #[.int .i64 x] := by unfold ints; rw [List.getElem?_map, h]; rfl
def eInt : ElemI := ⟨3, 1, 8, #[.int .i64 0]⟩
theorem elInt : elemI Try.prog 46 = some eInt := by kernel_rfl
theorem undInts : Try.prog.underlying 46 = some (.slice 3) := by kernel_rfl
theorem undLk : Try.prog.underlying 79 = some (.pointer 81) := by kernel_rfl
theorem infLk : (Try.prog.info? 81).map (·.size) = some 1028 := by kernel_rfl
theorem neX_same {P : Program} {T e : TypeId} {lit : Bool} {a : Addr} {H : Hp} (hu : P.underlying T = some (.pointer e)) (hi : (P.info? e).isSome = true) : eqXE P T lit .neq (.pointer (some a)) (.pointer (some a)) H = some (.bool false) := by
  cases h : P.info? e with
  | none => rw [h] at hi; cases hi
  | some i => simp [eqXE, eqE, eqD, hu, ptrEq, h]
theorem neX_diff {P : Program} {T e : TypeId} {lit : Bool} {a b : Addr} {H : Hp} {n : Nat} (hu : P.underlying T = some (.pointer e)) (hi : (P.info? e).map (·.size) = some n) (hn : n ≠ 0) (hab : a ≠ b) (ha : standsH H a = true) (hb : standsH H b = true) : eqXE P T lit .neq (.pointer (some a)) (.pointer (some b)) H = some (.bool true) := by
  cases h : P.info? e with
  | none => rw [h] at hi; cases hi
  | some i =>
    rw [h] at hi
    simp only [Option.map_some, Option.some.injEq] at hi
    simp [eqXE, eqE, eqD, hu, ptrEq, h, hab, ha, hb, hi, hn]
theorem stands_of {H : Hp} {a : Addr} {c : Array Value} {T : TypeId} (h : H[a.block]? = some (.cells c T)) : standsH H a = true := by
  unfold standsH; simp [h]
/-- The first node of a row. -/
def headN (cb : Nat) : List Ln → Nd
  | [] => (cb, 3)
  | y :: _ => y.nd
theorem CaC.firstN {H : Hp} {cb p mp : Nat} {size : Int} {row : List Ln} (h : CaC H cb p size row mp) : cel H cb 1030 = some (ptrN (headN cb row)) := by
  have := h.first
  cases row <;> exact this
theorem CaC.linkN {H : Hp} {cb p mp : Nat} {size : Int} {row l1 l2 : List Ln} {x : Ln} (h : CaC H cb p size row mp) (e : row = l1 ++ x :: l2) : cel H x.b 1027 = some (ptrN (headN cb l2)) ∧ LkAt H x := by
  have := h.link e
  cases l2 <;> exact this

section
variable {H : Hp} {R : Value → Hp → Prop} {p cb : Nat} {s : DS} {O : Nat → Prop} {size : Int} {cs : List Pl}
set_option maxHeartbeats 1000000 in
theorem cache_order (h : CacheAt H cb p size cs O) (hlen : cs.length < 1099511627776) (k : ∀ s H', Ext H H' → Sv 3 1 H' s (ints (cs.map (·.at_))) → (∀ b, blkOf s = some b → H.size ≤ b) → R s H') : Fc Try.prog 22 #[ptrV cb] H R := by
  obtain ⟨⟨row, mp, hC, rfl, _⟩, _⟩ := h
  rw [List.length_map] at hlen
  refine fn22 ?_
  simp only [sh22, Any_const]
  refine Join.mk (fun x H' => H' = H ∧ x.1 = .bool false) ?_ ?_
  · rintro ⟨x, u⟩ H1 ⟨rfl, hx⟩
    simp only at hx
    subst hx
    have hfirst := hC.firstN
    simp only [Ite_false, nilCheckE, Pu_some, addr_ptr, Nat.zero_add, Nat.reduceAdd, load_cel, hfirst]
    refine LoopP.mk (fun t H' => ∃ l1 l2, row = l1 ++ l2 ∧ t.2.1 = ptrN (headN cb l2) ∧ Ext H1 H' ∧ Sv 3 1 H' t.1 (ints (l1.map (·.at_))) ∧ ∀ b, blkOf t.1 = some b → H1.size ≤ b)
      (fun t _ => row.length - lenS t.1) ⟨[], row, rfl, rfl, Ext.refl _, Sv.nil _ _ _, fun b e => (by cases e)⟩ ?_
    rintro ⟨t1, t2, u⟩ H2 ⟨l1, l2, hrow, ht2, e2, hs, hn⟩
    simp only at ht2 hs hn
    subst ht2
    cases l2 with
    | nil =>
      have e0 : ptrN (headN cb []) = .pointer (some ⟨cb, 3, none⟩) := rfl
      rw [e0, neX_same undLk (by kernel_rfl)]
      simp only [Pu_some, Ite_false]
      rw [List.append_nil] at hrow
      refine k t1 H2 e2 ?_ hn
      rw [List.map_map]
      subst hrow
      exact hs
    | cons x l2 =>
      obtain ⟨hnx, c, gx, kx⟩ := hC.linkN hrow
      obtain ⟨ct, gt, st⟩ := hC.ring.top
      have hxc : x.b ≠ cb := (nod_mid (hrow ▸ hC.ring.nod)).2.2
      have hne : eqXE Try.prog 79 false .neq (ptrN x.nd) (.pointer (some ⟨cb, 3, none⟩)) H2 = some (.bool true) :=
        neX_diff undLk infLk (by decide) (fun e => hxc (by injection e)) (stands_of (a := ⟨x.b, 0, none⟩) (e2.at gx)) (stands_of (a := ⟨cb, 3, none⟩) (e2.at gt))
      have gx2 := e2.at gx
      have hxn : ptrN (headN cb (x :: l2)) = ptrV x.b := rfl
      have hld0 : cel H2 x.b 0 = some (.int .i64 x.at_) := by rw [cel_of gx2]; exact kx.num
      rw [hxn, show eqXE Try.prog 79 false .neq (ptrV x.b) (.pointer (some ⟨cb, 3, none⟩)) H2 = some (.bool true) from hne]
      simp only [Pu_some, Ite_true, nilCheckE, addr_ptr, Nat.zero_add, load_cel, hld0, elInt]
      rw [newS_one (e := eInt) (by decide) (by decide) rfl, Pu_some]
      refine newS_i fun b3 H3 hb3 e3 s3 g3 => ?_
      have hl1 : l1.length < row.length := by rw [hrow]; simp
      refine app_many (us := [#[.int .i64 x.at_]]) rfl rfl rfl (by decide) (hs.ext e3) (Sv.single g3 rfl) (by simp [cellsOk, Value.oneCell']) (by
        rw [ints_len, List.length_map]; show (l1.length + 1) * 8 ≤ 2 ^ 47; omega) fun s' H4 hs4 k4 hn4 => ?_
      have hsl : ∀ b, b < H1.size → blkOf t1 ≠ some b := fun b hb e => by have := hn b e; omega
      have e24 : Ext H1 H4 := ⟨Nat.le_trans (e2.trans e3).le k4.le, fun b hb => by
        rw [k4.same b (Nat.lt_of_lt_of_le hb (e2.trans e3).le) (hsl b hb)]; exact (e2.trans e3).same b hb⟩
      have hnx4 : cel H4 x.b 1027 = some (ptrN (headN cb l2)) := (cel_same (e24.same x.b (lt_of_block gx))).trans hnx
      simp only [hnx4, Pu_some]
      refine ⟨⟨l1 ++ [x], l2, by rw [hrow]; simp, rfl, e24, ?_, fun b e => ?_⟩, ?_⟩
      · rw [List.map_append, ints_app]; exact hs4
      · rcases hn4 b e with h1 | h1
        · exact hn b h1
        · have := (e2.trans e3).le; omega
      · obtain ⟨q1, q2, hq⟩ := hs4.len
        obtain ⟨q3, q4, hq'⟩ := hs.len
        subst hq hq'
        show row.length - (ints (l1.map (fun y : Ln => y.at_)) ++ [#[Value.int .i64 x.at_]]).length < row.length - (ints (l1.map (fun y : Ln => y.at_))).length
        rw [List.length_append, ints_len, List.length_map]
        simp only [List.length_cons, List.length_nil]; omega
  · rw [eqX_ptr undCa]
    simp only [eqX_ptr undCa, Pu_some, Ite_false, nilCheckE, addr_ptr, Nat.zero_add, load_cel, hC.d, eqX_ptr undDk, and_self]

/-! ### Filled -/
def fil4 (a b c d : Int) : Blk := (((zB.setIfInBounds 0 (.int .u8 a)).setIfInBounds 1 (.int .u8 b)).setIfInBounds 500 (.int .u8 c)).setIfInBounds 1023 (.int .u8 d)
set_option maxRecDepth 100000 in
theorem build_fil (a b c d : Int) : buildE Try.prog 51 [(0, .int .u8 a), (1, .int .u8 b), (500, .int .u8 c), (1023, .int .u8 d)] = some (.agg (fil4 a b c d)) := by kernel_rfl
def filB (f : Int) : Blk := fil4 (IntKind.u8.wrap f) (IntKind.u8.wrap (IntKind.u16.wrap (f.tdiv 256))) (IntKind.u8.wrap f) (IntKind.u8.wrap (f.tmod 251))
theorem u8_nat (x : Int) : ∃ m : Nat, m < 256 ∧ IntKind.u8.wrap x = m := by
  have h1 := Int.emod_nonneg x (show (256 : Int) ≠ 0 by decide)
  have h2 := Int.emod_lt_of_pos x (show (0 : Int) < 256 by decide)
  have e : IntKind.u8.wrap x = x % 256 := by simp [IntKind.wrap, IntKind.bits, IntKind.signed]
  exact ⟨(x % 256).toNat, by omega, by rw [e]; omega⟩
theorem filB_is (f : Int) : IsB (filB f) := by
  unfold filB fil4
  obtain ⟨a, a1, a2⟩ := u8_nat f
  obtain ⟨b, b1, b2⟩ := u8_nat (IntKind.u16.wrap (f.tdiv 256))
  obtain ⟨c, c1, c2⟩ := u8_nat (f.tmod 251)
  rw [a2, b2, c2]
  exact (((zB_is.set 0 a1).set 1 b1).set 500 a1).set 1023 c1
theorem filled_ok {f : Int} (k : ∀ H', Ext H H' → R (.agg (filB f)) H') : Fc Try.prog 31 #[.int .u16 f] H R := by
  refine fn31 ?_
  simp only [sh31, zeroB, Pu_some]
  refine box_i fun b H1 hb e1 s1 g1 => ?_
  simp only [cells_agg] at g1
  simp only [conv_int, binE_quo (show (256 : Int) ≠ 0 by decide), binE_rem (show (251 : Int) ≠ 0 by decide), Pu_some, build_fil]
  have hB := filB_is f
  refine storeAll_i g1 zB_size hB.size hB.ok fun H2 k2 s2 g2 => ?_
  have g2' : H2[b]? = some (.cells (filB f) 51) := g2
  have hl := load_all g2' hB.size
  simp only [hl, Pu_some]
  exact k _ (e1.kpn k2 (by omega))
end
end Go.Vc

/- Ft, part C: a disk and its cache beside what does not belong to them. -/
set_option linter.unusedVariables false
set_option linter.unusedSimpArgs false
namespace Go.Vc
open Go.Proofs

/-- A disk and a cache; the blocks F are not theirs. -/
structure CW (F : Nat → Prop) (H : Hp) (p cb : Nat) (size : Int) (s : DS) (cs : List Pl) : Prop where
  is : ∃ Od Oc, DiskAt H p s Od ∧ CacheAt H cb p size cs Oc ∧ (∀ b, Od b → ¬ Oc b) ∧ ∀ b, F b → b < H.size ∧ ¬ Od b ∧ ¬ Oc b
/-- What stands in the blocks F stays. -/
structure Frm (F : Nat → Prop) (H H' : Hp) : Prop where
  le : H.size ≤ H'.size
  same : ∀ b, F b → H'[b]? = H[b]?
theorem Frm.refl (F : Nat → Prop) (H : Hp) : Frm F H H := ⟨Nat.le_refl _, fun _ _ => rfl⟩
theorem Frm.trans {F : Nat → Prop} {a b c : Hp} (h : Frm F a b) (h' : Frm F b c) : Frm F a c := ⟨Nat.le_trans h.le h'.le, fun k hk => (h'.same k hk).trans (h.same k hk)⟩
theorem Frm.at {F : Nat → Prop} {H H' : Hp} (h : Frm F H H') {b : Nat} {o : Obj} (hb : H[b]? = some o) (hf : F b) : H'[b]? = some o := by rw [h.same b hf]; exact hb
theorem Frm.mono {F G : Nat → Prop} {H H' : Hp} (h : Frm F H H') (hg : ∀ b, G b → F b) : Frm G H H' := ⟨h.le, fun b hb => h.same b (hg b hb)⟩
theorem Frm.ext {H H' : Hp} (h : Frm (· < H.size) H H') : Ext H H' := ⟨h.le, fun b hb => h.same b hb⟩
theorem Ext.frm {H H' : Hp} (h : Ext H H') {F : Nat → Prop} (hF : ∀ b, F b → b < H.size) : Frm F H H' := ⟨h.le, fun b hb => h.same b (hF b hb)⟩
theorem Frm.ext_of {F : Nat → Prop} {H0 H H' : Hp} (h : Ext H0 H) (h' : Frm F H H') (hF : ∀ b, b < H0.size → F b) : Ext H0 H' := ⟨Nat.le_trans h.le h'.le, fun b hb => (h'.same b (hF b hb)).trans (h.same b hb)⟩

section
variable {F : Nat → Prop} {H H' : Hp} {p cb : Nat} {size : Int} {s : DS} {cs : List Pl} {R : Value → Hp → Prop}
theorem CW.lt (h : CW F H p cb size s cs) : ∀ b, F b → b < H.size := by
  obtain ⟨Od, Oc, _, _, _, hF⟩ := h; exact fun b hb => (hF b hb).1
theorem CW.grow (h : CW F H p cb size s cs) (e : Ext H H') {G : Nat → Prop} (hG : ∀ b, G b → F b ∨ H.size ≤ b ∧ b < H'.size) : CW G H' p cb size s cs := by
  obtain ⟨Od, Oc, hd, hc, dis, hF⟩ := h
  refine ⟨Od, Oc, hd.ext e, hc.ext e, dis, fun b hb => ?_⟩
  rcases hG b hb with h1 | ⟨h1, h2⟩
  · obtain ⟨a1, a2, a3⟩ := hF b h1
    exact ⟨Nat.lt_of_lt_of_le a1 e.le, a2, a3⟩
  · exact ⟨h2, fun ho => by have := hd.lt b ho; omega, fun ho => by have := hc.lt b ho; omega⟩
theorem CW.ext (h : CW F H p cb size s cs) (e : Ext H H') : CW F H' p cb size s cs := h.grow e fun b hb => .inl hb
theorem CW.kp (h : CW F H p cb size s cs) {S : Nat → Prop} (k : Kp S H H') (hS : ∀ b, S b → F b) : CW F H' p cb size s cs := by
  obtain ⟨Od, Oc, hd, hc, dis, hF⟩ := h
  exact ⟨Od, Oc, hd.kp k fun b hb hs => (hF b (hS b hs)).2.1 hb, hc.kp k fun b hb hs => (hF b (hS b hs)).2.2 hb, dis, fun b hb => ⟨Nat.lt_of_lt_of_le (hF b hb).1 k.le, (hF b hb).2⟩⟩
theorem CW.read (h : CW F H p cb size s cs) (hr : s.reads < 4611686018427387904 ∧ 0 ≤ s.reads) (hsz : size ≤ 4611686018427387904) {a : Int}
    (k : ∀ H', Frm F H H' → CW F H' p cb size (readC size s cs a).1 (readC size s cs a).2.1 → R (.tuple #[.agg (readC size s cs a).2.2.1, .int .i64 (readC size s cs a).2.2.2]) H') :
    Fc Try.prog 15 #[ptrV cb, .int .i64 a] H R := by
  obtain ⟨Od, Oc, hd, hc, dis, hF⟩ := h
  refine cache_read hd hc dis hr hsz fun H' Oc' hk hn hd' hc' => k H' ⟨hk.le, fun b hb => hk.same b (hF b hb).1 fun h => h.elim (hF b hb).2.1 (hF b hb).2.2⟩ ⟨Od, Oc', hd', hc', fun b hb ho => ?_, fun b hb => ⟨Nat.lt_of_lt_of_le (hF b hb).1 hk.le, (hF b hb).2.1, fun ho => ?_⟩⟩
  · rcases hn b ho with h1 | h1
    · exact dis b hb h1
    · have := hd.lt b hb; omega
  · rcases hn b ho with h1 | h1
    · exact (hF b hb).2.2 h1
    · have := (hF b hb).1; omega
theorem CW.put (h : CW F H p cb size s cs) (hsz : size ≤ 4611686018427387904) (hcl : (cs.length : Int) < 4611686018427387904) {a : Int} {d : Blk} (hB : IsB d)
    (k : ∀ H', Frm F H H' → CW F H' p cb size s (putC size s cs a d).1 → R (.int .i64 (putC size s cs a d).2) H') :
    Fc Try.prog 16 #[ptrV cb, .int .i64 a, .agg d] H R := by
  obtain ⟨Od, Oc, hd, hc, dis, hF⟩ := h
  refine cache_put hd hc dis hsz hcl hB fun H' Oc' hk hn hd' hc' => k H' ⟨hk.le, fun b hb => hk.same b (hF b hb).1 fun h => (hF b hb).2.2 h⟩ ⟨Od, Oc', hd', hc', fun b hb ho => ?_, fun b hb => ⟨Nat.lt_of_lt_of_le (hF b hb).1 hk.le, (hF b hb).2.1, fun ho => ?_⟩⟩
  · rcases hn b ho with h1 | h1
    · exact dis b hb h1
    · have := hd.lt b hb; omega
  · rcases hn b ho with h1 | h1
    · exact (hF b hb).2.2 h1
    · have := (hF b hb).1; omega
theorem CW.flush (h : CW F H p cb size s cs) {kf : Nat} (hft : s.fit kf) (hkf : kf < 100000000000) (hcl : (cs.length : Int) < 4611686018427387904) {a : Int}
    (k : ∀ H', Frm F H H' → CW F H' p cb size (flushC s cs a).1 (flushC s cs a).2.1 → R (.int .i64 (flushC s cs a).2.2) H') :
    Fc Try.prog 17 #[ptrV cb, .int .i64 a] H R := by
  obtain ⟨Od, Oc, hd, hc, dis, hF⟩ := h
  refine cache_flush hd hc dis hft hkf hcl fun H' Od' hk hn hd' hc' => k H' ⟨hk.le, fun b hb => hk.same b (hF b hb).1 fun h => h.elim (hF b hb).2.1 (hF b hb).2.2⟩ ⟨Od', Oc, hd', hc', fun b hb ho => ?_, fun b hb => ⟨Nat.lt_of_lt_of_le (hF b hb).1 hk.le, fun ho => ?_, (hF b hb).2.2⟩⟩
  · rcases hn b hb with h1 | h1
    · exact dis b h1 ho
    · have := hc.lt b ho; omega
  · rcases hn b ho with h1 | h1
    · exact (hF b hb).2.1 h1
    · have := (hF b hb).1; omega
theorem CW.order (h : CW F H p cb size s cs) (hlen : cs.length < 1099511627776) (k : ∀ l H', Ext H H' → Sv 3 1 H' l (ints (cs.map (·.at_))) → (∀ b, blkOf l = some b → H.size ≤ b) → R l H') : Fc Try.prog 22 #[ptrV cb] H R := by
  obtain ⟨Od, Oc, hd, hc, dis, hF⟩ := h
  exact cache_order hc hlen k
theorem CW.made (h : CW F H p cb size s cs) (k : R (.int .i64 s.made) H) : Fc Try.prog 28 #[ptrV p] H R := by
  obtain ⟨Od, Oc, hd, hc, dis, hF⟩ := h
  exact disk_made hd k
theorem CW.reads (h : CW F H p cb size s cs) (k : R (.int .i64 s.reads) H) : Fc Try.prog 27 #[ptrV p] H R := by
  obtain ⟨Od, Oc, hd, hc, dis, hF⟩ := h
  exact disk_reads hd k
theorem CW.fast (h : CW F H p cb size s cs) (k : R (.int .i64 (fastP cs)) H) : Fc Try.prog 18 #[ptrV cb] H R := by
  obtain ⟨Od, Oc, hd, hc, dis, hF⟩ := h
  exact cache_fast hc k
theorem CW.len (h : CW F H p cb size s cs) (k : R (.int .i64 cs.length) H) : Fc Try.prog 20 #[ptrV cb] H R := by
  obtain ⟨Od, Oc, hd, hc, dis, hF⟩ := h
  exact cache_len hc k
end
/-- A disk alone, beside what is not its own. -/
structure DW (F : Nat → Prop) (H : Hp) (p : Nat) (s : DS) : Prop where
  is : ∃ Od, DiskAt H p s Od ∧ ∀ b, F b → b < H.size ∧ ¬ Od b
theorem DW.of {H H' : Hp} {p : Nat} {s : DS} (e : Ext H H') (hd : DiskAt H' p s (fun b => H.size ≤ b ∧ b < H'.size)) : DW (· < H.size) H' p s := ⟨_, hd, fun b hb => ⟨Nat.lt_of_lt_of_le hb e.le, fun h => by omega⟩⟩
theorem DW.ext {F : Nat → Prop} {H H' : Hp} {p : Nat} {s : DS} (h : DW F H p s) (e : Ext H H') : DW F H' p s := by
  obtain ⟨Od, hd, hF⟩ := h
  exact ⟨Od, hd.ext e, fun b hb => ⟨Nat.lt_of_lt_of_le (hF b hb).1 e.le, (hF b hb).2⟩⟩
theorem DW.grow {F G : Nat → Prop} {H H' : Hp} {p : Nat} {s : DS} (h : DW F H p s) (e : Ext H H') (hG : ∀ b, G b → F b ∨ H.size ≤ b ∧ b < H'.size) : DW G H' p s := by
  obtain ⟨Od, hd, hF⟩ := h
  refine ⟨Od, hd.ext e, fun b hb => ?_⟩
  rcases hG b hb with h1 | ⟨h1, h2⟩
  · exact ⟨Nat.lt_of_lt_of_le (hF b h1).1 e.le, (hF b h1).2⟩
  · exact ⟨h2, fun ho => by have := hd.lt b ho; omega⟩
theorem DW.cache {F : Nat → Prop} {H : Hp} {p : Nat} {s : DS} {R : Value → Hp → Prop} (h : DW F H p s) {size : Int} (h1 : 1 ≤ size) (h2 : size ≤ 4096)
    (k : ∀ H' cb, Ext H H' → CW F H' p cb size s [] → R (.tuple #[ptrV cb, .int .i64 0]) H') : Fc Try.prog 7 #[ptrV p, .int .i64 size] H R := by
  obtain ⟨Od, hd, hF⟩ := h
  refine cache_new hd h1 h2 fun H' cb e hc => k H' cb e ⟨Od, _, hd.ext e, hc, fun b hb ho => ?_, fun b hb => ⟨Nat.lt_of_lt_of_le (hF b hb).1 e.le, (hF b hb).2, fun ho => ?_⟩⟩
  · have := hd.lt b hb; omega
  · have := (hF b hb).1; omega
end Go.Vc
