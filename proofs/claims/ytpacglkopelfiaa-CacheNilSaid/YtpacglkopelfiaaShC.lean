/- The conditions of functions' bodies, in words, each tied to the program. -/
import Derived.Test.YtpacglkopelfiaaVcJ
import Derived.Test.YtpacglkopelfiaaProg
set_option linter.unusedVariables false
set_option linter.unusedSimpArgs false
namespace Go.Proofs
open Go.Vc

/- (*undercroft/disk.Disk).is -/
def sh53 (v0 : Value) (H : Hp) (R : Value → Hp → Prop) : Prop :=
 Pu (eqXE Try.prog 23 true .neq v0 (.pointer none) H) fun x1 =>
 Ite x1
  (Pu (nilCheckE v0) fun x2 =>
  Pu (addrE (some 0) x2) fun x3 =>
  Pu (loadE (some none) x3 H) fun x4 =>
  Pu (binE (some (.int .i64)) .gtr x4 (.int .i64 0)) fun x5 =>
  R x5 H)
  (R (.bool false) H)
set_option maxRecDepth 100000 in
theorem fn53 {v0 : Value} {H : Hp} {R : Value → Hp → Prop} (h : sh53 v0 H R) : Fc Try.prog 53 #[v0] H R :=
  fn_of_vc (fun f => [13].contains f) .nil Try.func53 (args := [v0]) (Eq.mp (by kernel_rfl : sh53 v0 H R = VcFn Try.prog (fun f => [13].contains f) Try.f53 .nil [v0] H R) h)

/- (*undercroft/disk.Disk).Len -/
def sh52 (v0 : Value) (H : Hp) (R : Value → Hp → Prop) : Prop :=
 Fc Try.prog 53 #[v0] H fun x1 H1 =>
 Pu (unE .not x1) fun x2 =>
 Ite x2
  (R (.int .i64 0) H1)
  (Pu (nilCheckE v0) fun x3 =>
  Pu (addrE (some 0) x3) fun x4 =>
  Pu (loadE (some none) x4 H1) fun x5 =>
  R x5 H1)
set_option maxRecDepth 100000 in
theorem fn52 {v0 : Value} {H : Hp} {R : Value → Hp → Prop} (h : sh52 v0 H R) : Fc Try.prog 52 #[v0] H R :=
  fn_of_vc (fun f => [13].contains f) .nil Try.func52 (args := [v0]) (Eq.mp (by kernel_rfl : sh52 v0 H R = VcFn Try.prog (fun f => [13].contains f) Try.f52 .nil [v0] H R) h)

/- (*undercroft/cache.Cache).check -/
def sh47 (v0 v1 : Value) (H : Hp) (R : Value → Hp → Prop) : Prop :=
 Join (n := 1) (fun s0 H1 => Any fun _ =>
  Ite s0.1
   (R (.int .i64 1) H1)
   (Pu (nilCheckE v0) fun x3 =>
   Pu (addrE (some 0) x3) fun x4 =>
   Pu (loadE (some none) x4 H1) fun x5 =>
   Fc Try.prog 40 #[x5] H1 fun x6 H2 =>
   Ite x6
    (R (.int .i64 3) H2)
    (Join (n := 1) (fun s6 H3 => Any fun _ =>
     Ite s6.1
      (R (.int .i64 2) H3)
      (R (.int .i64 0) H3))
    (fun K8 => Pu (binE (some (.int .i64)) .lss v1 (.int .i64 0)) fun x10 =>
    Ite x10
     (K8 ((.bool true), ()) H2)
     (Pu (nilCheckE v0) fun x11 =>
     Pu (addrE (some 0) x11) fun x12 =>
     Pu (loadE (some none) x12 H2) fun x13 =>
     Fc Try.prog 52 #[x13] H2 fun x14 H4 =>
     Pu (binE (some (.int .i64)) .geq v1 x14) fun x15 =>
     K8 (x15, ()) H4)))))
 (fun K15 => Pu (eqXE Try.prog 37 true .eql v0 (.pointer none) H) fun x17 =>
 Ite x17
  (K15 ((.bool true), ()) H)
  (Pu (nilCheckE v0) fun x18 =>
  Pu (addrE (some 0) x18) fun x19 =>
  Pu (loadE (some none) x19 H) fun x20 =>
  Pu (eqXE Try.prog 23 true .eql x20 (.pointer none) H) fun x21 =>
  K15 (x21, ()) H))
set_option maxRecDepth 100000 in
theorem fn47 {v0 v1 : Value} {H : Hp} {R : Value → Hp → Prop} (h : sh47 v0 v1 H R) : Fc Try.prog 47 #[v0, v1] H R :=
  fn_of_vc (fun f => [13].contains f) (.seq .nil (.seq (.join [5] [6, 7, 8, 9, 10, 11, 12, 13, 14] .nil (.cond .nil (.seq .nil (.cond .nil (.join [21] [22, 23, 24, 25, 26, 27, 28, 29, 30, 31, 32] .nil .nil))))) .nil)) Try.func47 (args := [v0, v1]) (Eq.mp (by kernel_rfl : sh47 v0 v1 H R = VcFn Try.prog (fun f => [13].contains f) Try.f47 (.seq .nil (.seq (.join [5] [6, 7, 8, 9, 10, 11, 12, 13, 14] .nil (.cond .nil (.seq .nil (.cond .nil (.join [21] [22, 23, 24, 25, 26, 27, 28, 29, 30, 31, 32] .nil .nil))))) .nil)) [v0, v1] H R) h)

/- (*undercroft/cache.Cache).Read -/
def sh11 (v0 v1 : Value) (H : Hp) (R : Value → Hp → Prop) : Prop :=
 Pu (zeroE Try.prog 25) fun x1 => Box 25 x1 H fun x2 H1 =>
 Fc Try.prog 47 #[v0, v1] H1 fun x3 H2 =>
 Pu (binE (some (.int .i64)) .neq x3 (.int .i64 0)) fun x4 =>
 Ite x4
  (Pu (buildE Try.prog 25 []) fun x5 =>
  Pu (storeE (some 1024) x2 x5 H2) fun H3 =>
  Pu (loadE (some (some 1024)) x2 H3) fun x6 =>
  R (.tuple #[x6, x3]) H3)
  (Pu (nilCheckE v0) fun x7 =>
  Pu (addrE (some 1031) x7) fun x8 =>
  Pu (loadE (some none) x8 H2) fun x9 =>
  Pu (lookupE Try.prog (some (3, .int .i64, 26)) true x9 v1 H2) fun x10 =>
  Pu (extractE x10 0) fun x11 =>
  Pu (extractE x10 1) fun x12 =>
  Ite x12
   (Fc Try.prog 48 #[x11] H2 fun x13 H4 =>
   Fc Try.prog 49 #[v0, x11] H4 fun x14 H5 =>
   Pu (nilCheckE x11) fun x15 =>
   Pu (addrE (some 1) x15) fun x16 =>
   Pu (loadE (some (some 1024)) x16 H5) fun x17 =>
   Pu (storeE (some 1024) x2 x17 H5) fun H6 =>
   Pu (loadE (some (some 1024)) x2 H6) fun x18 =>
   R (.tuple #[x18, (.int .i64 0)]) H6)
   (Fc Try.prog 50 #[v0] H2 fun x19 H7 =>
   Pu (unE .not x19) fun x20 =>
   Ite x20
    (Pu (buildE Try.prog 25 []) fun x21 =>
    Pu (storeE (some 1024) x2 x21 H7) fun H8 =>
    Pu (loadE (some (some 1024)) x2 H8) fun x22 =>
    R (.tuple #[x22, (.int .i64 160)]) H8)
    (Pu (nilCheckE v0) fun x23 =>
    Pu (addrE (some 0) x23) fun x24 =>
    Pu (loadE (some none) x24 H7) fun x25 =>
    Fc Try.prog 27 #[x25, v1] H7 fun x26 H9 =>
    Pu (extractE x26 0) fun x27 =>
    Pu (extractE x26 1) fun x28 =>
    Pu (zeroE Try.prog 25) fun x29 => Box 25 x29 H9 fun x30 H10 =>
    Pu (storeE (some 1024) x30 x27 H10) fun H11 =>
    Pu (binE (some (.int .i64)) .neq x28 (.int .i64 0)) fun x31 =>
    Ite x31
     (Pu (buildE Try.prog 25 []) fun x32 =>
     Pu (storeE (some 1024) x2 x32 H11) fun H12 =>
     Pu (loadE (some (some 1024)) x2 H12) fun x33 =>
     R (.tuple #[x33, x28]) H12)
     (Pu (loadE (some (some 1024)) x30 H11) fun x34 =>
     Pu (buildE Try.prog 28 [(0, v1), (1, x34)]) fun x35 =>
     Box 28 x35 H11 fun x36 H13 =>
     Pu (nilCheckE v0) fun x37 =>
     Pu (addrE (some 1031) x37) fun x38 =>
     Pu (loadE (some none) x38 H13) fun x39 =>
     Pu (mapSetE (some (3, .int .i64, 26)) x39 v1 x36 H13) fun H14 =>
     Fc Try.prog 49 #[v0, x36] H14 fun x40 H15 =>
     Pu (loadE (some (some 1024)) x30 H15) fun x41 =>
     Pu (storeE (some 1024) x2 x41 H15) fun H16 =>
     Pu (loadE (some (some 1024)) x2 H16) fun x42 =>
     R (.tuple #[x42, (.int .i64 0)]) H16))))
set_option maxRecDepth 100000 in
theorem fn11 {v0 v1 : Value} {H : Hp} {R : Value → Hp → Prop} (h : sh11 v0 v1 H R) : Fc Try.prog 11 #[v0, v1] H R :=
  fn_of_vc (fun f => [13].contains f) .nil Try.func11 (args := [v0, v1]) (Eq.mp (by kernel_rfl : sh11 v0 v1 H R = VcFn Try.prog (fun f => [13].contains f) Try.f11 .nil [v0, v1] H R) h)

/- (*undercroft/cache.Cache).Put -/
def sh12 (v0 v1 v2 : Value) (H : Hp) (R : Value → Hp → Prop) : Prop :=
 Box 25 v2 H fun x1 H1 =>
 Fc Try.prog 47 #[v0, v1] H1 fun x2 H2 =>
 Pu (binE (some (.int .i64)) .neq x2 (.int .i64 0)) fun x3 =>
 Ite x3
  (R x2 H2)
  (Pu (nilCheckE v0) fun x4 =>
  Pu (addrE (some 1031) x4) fun x5 =>
  Pu (loadE (some none) x5 H2) fun x6 =>
  Pu (lookupE Try.prog (some (3, .int .i64, 26)) true x6 v1 H2) fun x7 =>
  Pu (extractE x7 0) fun x8 =>
  Pu (extractE x7 1) fun x9 =>
  Join (n := 1) (fun s9 H3 => Any fun _ =>
   Join (n := 0) (fun s11 H4 => Any fun _ =>
    Pu (loadE (some (some 1024)) x1 H4) fun x13 =>
    Pu (nilCheckE s9.1) fun x14 =>
    Pu (addrE (some 1) x14) fun x15 =>
    Pu (storeE (some 1024) x15 x13 H4) fun H5 =>
    Fc Try.prog 49 #[v0, s9.1] H5 fun x16 H6 =>
    R (.int .i64 0) H6)
   (fun K16 => Pu (nilCheckE s9.1) fun x18 =>
   Pu (addrE (some 1025) x18) fun x19 =>
   Pu (loadE (some none) x19 H3) fun x20 =>
   Pu (unE .not x20) fun x21 =>
   Ite x21
    (Pu (nilCheckE s9.1) fun x22 =>
    Pu (addrE (some 1025) x22) fun x23 =>
    Pu (storeE (some 1) x23 (.bool true) H3) fun H7 =>
    Pu (nilCheckE v0) fun x24 =>
    Pu (addrE (some 2) x24) fun x25 =>
    Pu (loadE (some none) x25 H7) fun x26 =>
    Pu (binE (some (.int .i64)) .add x26 (.int .i64 1)) fun x27 =>
    Pu (nilCheckE v0) fun x28 =>
    Pu (addrE (some 2) x28) fun x29 =>
    Pu (storeE (some 1) x29 x27 H7) fun H8 =>
    K16 (()) H8)
    (K16 (()) H3)))
  (fun K29 => Ite x9
   (Fc Try.prog 48 #[x8] H2 fun x31 H9 =>
   K29 (x8, ()) H9)
   (Fc Try.prog 50 #[v0] H2 fun x32 H10 =>
   Pu (unE .not x32) fun x33 =>
   Ite x33
    (R (.int .i64 160) H10)
    (Pu (buildE Try.prog 28 [(0, v1)]) fun x34 =>
    Box 28 x34 H10 fun x35 H11 =>
    Pu (nilCheckE v0) fun x36 =>
    Pu (addrE (some 1031) x36) fun x37 =>
    Pu (loadE (some none) x37 H11) fun x38 =>
    Pu (mapSetE (some (3, .int .i64, 26)) x38 v1 x35 H11) fun H12 =>
    K29 (x35, ()) H12))))
set_option maxRecDepth 100000 in
theorem fn12 {v0 v1 v2 : Value} {H : Hp} {R : Value → Hp → Prop} (h : sh12 v0 v1 v2 H R) : Fc Try.prog 12 #[v0, v1, v2] H R :=
  fn_of_vc (fun f => [13].contains f) (.seq .nil (.seq .nil (.seq .nil (.join [8] [25, 26, 27, 28, 29, 30, 6, 31, 32, 33, 34, 35, 36, 37, 38, 39] .nil (.join [] [40, 41, 42, 43, 44, 45, 46, 47, 48, 49, 50, 51, 52, 53, 54] .nil .nil))))) Try.func12 (args := [v0, v1, v2]) (Eq.mp (by kernel_rfl : sh12 v0 v1 v2 H R = VcFn Try.prog (fun f => [13].contains f) Try.f12 (.seq .nil (.seq .nil (.seq .nil (.join [8] [25, 26, 27, 28, 29, 30, 6, 31, 32, 33, 34, 35, 36, 37, 38, 39] .nil (.join [] [40, 41, 42, 43, 44, 45, 46, 47, 48, 49, 50, 51, 52, 53, 54] .nil .nil))))) [v0, v1, v2] H R) h)

/- (*undercroft/cache.Cache).Flush -/
def sh14 (v0 v1 : Value) (H : Hp) (R : Value → Hp → Prop) : Prop :=
 Fc Try.prog 47 #[v0, v1] H fun x1 H1 =>
 Pu (binE (some (.int .i64)) .neq x1 (.int .i64 0)) fun x2 =>
 Ite x2
  (R x1 H1)
  (Pu (nilCheckE v0) fun x3 =>
  Pu (addrE (some 1031) x3) fun x4 =>
  Pu (loadE (some none) x4 H1) fun x5 =>
  Pu (lookupE Try.prog (some (3, .int .i64, 26)) true x5 v1 H1) fun x6 =>
  Pu (extractE x6 0) fun x7 =>
  Pu (extractE x6 1) fun x8 =>
  Join (n := 1) (fun s8 H2 => Any fun _ =>
   Ite s8.1
    (R (.int .i64 0) H2)
    (Pu (nilCheckE v0) fun x11 =>
    Pu (addrE (some 0) x11) fun x12 =>
    Pu (loadE (some none) x12 H2) fun x13 =>
    Pu (nilCheckE x7) fun x14 =>
    Pu (addrE (some 1) x14) fun x15 =>
    Pu (loadE (some (some 1024)) x15 H2) fun x16 =>
    Fc Try.prog 51 #[x13, v1, x16] H2 fun x17 H3 =>
    Pu (binE (some (.int .i64)) .neq x17 (.int .i64 0)) fun x18 =>
    Ite x18
     (R x17 H3)
     (Pu (nilCheckE x7) fun x19 =>
     Pu (addrE (some 1025) x19) fun x20 =>
     Pu (storeE (some 1) x20 (.bool false) H3) fun H4 =>
     Pu (nilCheckE v0) fun x21 =>
     Pu (addrE (some 2) x21) fun x22 =>
     Pu (loadE (some none) x22 H4) fun x23 =>
     Pu (binE (some (.int .i64)) .sub x23 (.int .i64 1)) fun x24 =>
     Pu (nilCheckE v0) fun x25 =>
     Pu (addrE (some 2) x25) fun x26 =>
     Pu (storeE (some 1) x26 x24 H4) fun H5 =>
     R (.int .i64 0) H5)))
  (fun K26 => Pu (unE .not x8) fun x28 =>
  Ite x28
   (K26 ((.bool true), ()) H1)
   (Pu (nilCheckE x7) fun x29 =>
   Pu (addrE (some 1025) x29) fun x30 =>
   Pu (loadE (some none) x30 H1) fun x31 =>
   Pu (unE .not x31) fun x32 =>
   K26 (x32, ()) H1)))
set_option maxRecDepth 100000 in
theorem fn14 {v0 v1 : Value} {H : Hp} {R : Value → Hp → Prop} (h : sh14 v0 v1 H R) : Fc Try.prog 14 #[v0, v1] H R :=
  fn_of_vc (fun f => [13].contains f) (.seq .nil (.seq .nil (.seq .nil (.seq (.join [32] [24, 25, 26, 27, 28, 29, 30, 31] .nil .nil) .nil)))) Try.func14 (args := [v0, v1]) (Eq.mp (by kernel_rfl : sh14 v0 v1 H R = VcFn Try.prog (fun f => [13].contains f) Try.f14 (.seq .nil (.seq .nil (.seq .nil (.seq (.join [32] [24, 25, 26, 27, 28, 29, 30, 31] .nil .nil) .nil)))) [v0, v1] H R) h)

/- (*undercroft/cache.Cache).Fast -/
def sh15 (v0 : Value) (H : Hp) (R : Value → Hp → Prop) : Prop :=
 Pu (eqXE Try.prog 37 true .eql v0 (.pointer none) H) fun x1 =>
 Ite x1
  (R (.int .i64 0) H)
  (Pu (nilCheckE v0) fun x2 =>
  Pu (addrE (some 2) x2) fun x3 =>
  Pu (loadE (some none) x3 H) fun x4 =>
  R x4 H)
set_option maxRecDepth 100000 in
theorem fn15 {v0 : Value} {H : Hp} {R : Value → Hp → Prop} (h : sh15 v0 H R) : Fc Try.prog 15 #[v0] H R :=
  fn_of_vc (fun f => [13].contains f) .nil Try.func15 (args := [v0]) (Eq.mp (by kernel_rfl : sh15 v0 H R = VcFn Try.prog (fun f => [13].contains f) Try.f15 .nil [v0] H R) h)

/- (*undercroft/cache.Cache).Len -/
def sh16 (v0 : Value) (H : Hp) (R : Value → Hp → Prop) : Prop :=
 Pu (eqXE Try.prog 37 true .eql v0 (.pointer none) H) fun x1 =>
 Ite x1
  (R (.int .i64 0) H)
  (Pu (nilCheckE v0) fun x2 =>
  Pu (addrE (some 1031) x2) fun x3 =>
  Pu (loadE (some none) x3 H) fun x4 =>
  Pu (mapLenE x4 H) fun x5 =>
  R x5 H)
set_option maxRecDepth 100000 in
theorem fn16 {v0 : Value} {H : Hp} {R : Value → Hp → Prop} (h : sh16 v0 H R) : Fc Try.prog 16 #[v0] H R :=
  fn_of_vc (fun f => [13].contains f) .nil Try.func16 (args := [v0]) (Eq.mp (by kernel_rfl : sh16 v0 H R = VcFn Try.prog (fun f => [13].contains f) Try.f16 .nil [v0] H R) h)

/- (*undercroft/cache.Cache).Order -/
def sh17 (v0 : Value) (H : Hp) (R : Value → Hp → Prop) : Prop :=
 Join (n := 1) (fun s0 H1 => Any fun _ =>
  Ite s0.1
   (R (.slice none 0 0) H1)
   (Pu (nilCheckE v0) fun x3 =>
   Pu (addrE (some 3) x3) fun x4 =>
   Pu (addrE (some 1027) x4) fun x5 =>
   Pu (loadE (some none) x5 H1) fun x6 =>
   LoopP (n := 2) ((.slice none 0 0), x6, ()) H1 (fun K7 s6 H2 => Any fun _ =>
    Pu (nilCheckE v0) fun x9 =>
    Pu (addrE (some 3) x9) fun x10 =>
    Pu (eqXE Try.prog 26 false .neq s6.2.1 x10 H2) fun x11 =>
    Ite x11
     (Pu (nilCheckE s6.2.1) fun x12 =>
     Pu (addrE (some 0) x12) fun x13 =>
     Pu (loadE (some none) x13 H2) fun x14 =>
     Pu (elemI Try.prog 46) fun x15 => Pu (newSliceE (some x15) 1 [(0, x14)]) fun x16 => NewS x15.type 1 x16 H2 fun x17 H3 =>
     AppS (elemI Try.prog 46) s6.1 x17 H3 fun x18 H4 =>
     Pu (nilCheckE s6.2.1) fun x19 =>
     Pu (addrE (some 1027) x19) fun x20 =>
     Pu (loadE (some none) x20 H4) fun x21 =>
     K7 (x18, x21, ()) H4)
     (R s6.1 H2))))
 (fun K21 => Pu (eqXE Try.prog 37 true .eql v0 (.pointer none) H) fun x23 =>
 Ite x23
  (K21 ((.bool true), ()) H)
  (Pu (nilCheckE v0) fun x24 =>
  Pu (addrE (some 0) x24) fun x25 =>
  Pu (loadE (some none) x25 H) fun x26 =>
  Pu (eqXE Try.prog 23 true .eql x26 (.pointer none) H) fun x27 =>
  K21 (x27, ()) H))
set_option maxRecDepth 100000 in
theorem fn17 {v0 : Value} {H : Hp} {R : Value → Hp → Prop} (h : sh17 v0 H R) : Fc Try.prog 17 #[v0] H R :=
  fn_of_vc (fun f => [13].contains f) (.seq .nil (.seq (.join [13] [5, 6, 7, 8, 9, 10, 11, 12] .nil .nil) (.seq .nil (.seq (.seq .nil (.loop [3, 4] [19, 20, 21, 22, 23, 28, 29, 30, 31, 32, 33, 34, 24, 25, 26, 27] .nil)) .nil)))) Try.func17 (args := [v0]) (Eq.mp (by kernel_rfl : sh17 v0 H R = VcFn Try.prog (fun f => [13].contains f) Try.f17 (.seq .nil (.seq (.join [13] [5, 6, 7, 8, 9, 10, 11, 12] .nil .nil) (.seq .nil (.seq (.seq .nil (.loop [3, 4] [19, 20, 21, 22, 23, 28, 29, 30, 31, 32, 33, 34, 24, 25, 26, 27] .nil)) .nil)))) [v0] H R) h)

/- undercroft/cache.New -/
def sh18 (v0 v1 : Value) (H : Hp) (R : Value → Hp → Prop) : Prop :=
 Fc Try.prog 52 #[v0] H fun x1 H1 =>
 Pu (binE (some (.int .i64)) .eql x1 (.int .i64 0)) fun x2 =>
 Ite x2
  (R (.tuple #[(.pointer none), (.int .i64 1)]) H1)
  (Join (n := 1) (fun s2 H2 => Any fun _ =>
   Ite s2.1
    (R (.tuple #[(.pointer none), (.int .i64 2)]) H2)
    (NewMap H2 fun x5 H3 =>
    Pu (buildE Try.prog 31 [(0, v0), (1, v1), (4, x5)]) fun x6 =>
    Box 31 x6 H3 fun x7 H4 =>
    Pu (nilCheckE x7) fun x8 =>
    Pu (addrE (some 3) x8) fun x9 =>
    Pu (nilCheckE x7) fun x10 =>
    Pu (addrE (some 3) x10) fun x11 =>
    Pu (addrE (some 1026) x11) fun x12 =>
    Pu (storeE (some 1) x12 x9 H4) fun H5 =>
    Pu (nilCheckE x7) fun x13 =>
    Pu (addrE (some 3) x13) fun x14 =>
    Pu (nilCheckE x7) fun x15 =>
    Pu (addrE (some 3) x15) fun x16 =>
    Pu (addrE (some 1027) x16) fun x17 =>
    Pu (storeE (some 1) x17 x14 H5) fun H6 =>
    R (.tuple #[x7, (.int .i64 0)]) H6))
  (fun K17 => Pu (binE (some (.int .i64)) .lss v1 (.int .i64 1)) fun x19 =>
  Ite x19
   (K17 ((.bool true), ()) H1)
   (Pu (binE (some (.int .i64)) .gtr v1 (.int .i64 4096)) fun x20 =>
   K17 (x20, ()) H1)))
set_option maxRecDepth 100000 in
theorem fn18 {v0 v1 : Value} {H : Hp} {R : Value → Hp → Prop} (h : sh18 v0 v1 H R) : Fc Try.prog 18 #[v0, v1] H R :=
  fn_of_vc (fun f => [13].contains f) (.seq .nil (.seq .nil (.seq (.join [15] [10, 11, 12, 13, 14] .nil .nil) .nil))) Try.func18 (args := [v0, v1]) (Eq.mp (by kernel_rfl : sh18 v0 v1 H R = VcFn Try.prog (fun f => [13].contains f) Try.f18 (.seq .nil (.seq .nil (.seq (.join [15] [10, 11, 12, 13, 14] .nil .nil) .nil))) [v0, v1] H R) h)

/- undercroft/undercroftlaw06.Filled -/
def sh13 (v0 : Value) (H : Hp) (R : Value → Hp → Prop) : Prop :=
 Pu (zeroE Try.prog 25) fun x1 => Box 25 x1 H fun x2 H1 =>
 Pu (convE (some (.int .u16)) (some (.int .u8)) v0) fun x3 =>
 Pu (binE (some (.int .u16)) .quo v0 (.int .u16 256)) fun x4 =>
 Pu (convE (some (.int .u16)) (some (.int .u8)) x4) fun x5 =>
 Pu (convE (some (.int .u16)) (some (.int .u8)) v0) fun x6 =>
 Pu (binE (some (.int .u16)) .rem v0 (.int .u16 251)) fun x7 =>
 Pu (convE (some (.int .u16)) (some (.int .u8)) x7) fun x8 =>
 Pu (buildE Try.prog 25 [(0, x3), (1, x5), (500, x6), (1023, x8)]) fun x9 =>
 Pu (storeE (some 1024) x2 x9 H1) fun H2 =>
 Pu (loadE (some (some 1024)) x2 H2) fun x10 =>
 R x10 H2
set_option maxRecDepth 100000 in
theorem fn13 {v0 : Value} {H : Hp} {R : Value → Hp → Prop} (h : sh13 v0 H R) : Fc Try.prog 13 #[v0] H R :=
  fn_of_vc (fun f => [13].contains f) .nil Try.func13 (args := [v0]) (Eq.mp (by kernel_rfl : sh13 v0 H R = VcFn Try.prog (fun f => [13].contains f) Try.f13 .nil [v0] H R) h)

/- undercroft/undercroftlaw06.CacheNil -/
def sh3 (v0 v1 v2 : Value) (H : Hp) (R : Value → Hp → Prop) : Prop :=
 Pu (zeroE Try.prog 31) fun x1 => Box 31 x1 H fun x2 H1 =>
 Pu (zeroE Try.prog 36) fun x3 => Box 36 x3 H1 fun x4 H2 =>
 Pu (elemI Try.prog 38) fun x5 => Pu (newSliceE (some x5) 2 [(0, (.pointer none)), (1, x2)]) fun x6 => NewS x5.type 2 x6 H2 fun x7 H3 =>
 LoopP (n := 1) ((.int .i64 0), ()) H3 (fun K8 s7 H4 => Any fun _ =>
  Pu (binE (some (.int .i64)) .lss s7.1 (.int .i64 2)) fun x10 =>
  Ite x10
   (Pu (idxAddrE (some (none, 1)) x7 s7.1) fun x11 =>
   Pu (loadE (some none) x11 H4) fun x12 =>
   Fc Try.prog 11 #[x12, v0] H4 fun x13 H5 =>
   Pu (extractE x13 0) fun x14 =>
   Pu (extractE x13 1) fun x15 =>
   Pu (zeroE Try.prog 25) fun x16 => Box 25 x16 H5 fun x17 H6 =>
   Pu (storeE (some 1024) x17 x14 H6) fun H7 =>
   Join (n := 1) (fun s17 H8 => Any fun _ =>
    Ite s17.1
     (R (.bool false) H8)
     (Pu (binE (some (.int .i64)) .add s7.1 (.int .i64 1)) fun x20 =>
     K8 (x20, ()) H8))
   (fun K20 => Pu (binE (some (.int .i64)) .neq x15 (.int .i64 1)) fun x22 =>
   Ite x22
    (ForX true H7 fun H9 =>
    K20 ((.bool true), ()) H9)
    (Pu (loadE (some (some 1024)) x17 H7) fun x23 =>
    Pu (buildE Try.prog 25 []) fun x24 =>
    Pu (eqXE Try.prog 25 false .neq x23 x24 H7) fun x25 =>
    Ite x25
     (ForX true H7 fun H10 =>
     K20 ((.bool true), ()) H10)
     (Pu (idxAddrE (some (none, 1)) x7 s7.1) fun x26 =>
     Pu (loadE (some none) x26 H7) fun x27 =>
     ∃ x28, QC true Try.prog 13 #[v1] H7 x28 ∧ (
     ForX true H7 fun H11 =>
     Fc Try.prog 12 #[x27, v0, x28] H11 fun x29 H12 =>
     Pu (binE (some (.int .i64)) .neq x29 (.int .i64 1)) fun x30 =>
     Ite x30
      (ForX true H12 fun H13 =>
      K20 ((.bool true), ()) H13)
      (Pu (idxAddrE (some (none, 1)) x7 s7.1) fun x31 =>
      Pu (loadE (some none) x31 H12) fun x32 =>
      ForX true H12 fun H14 =>
      Fc Try.prog 14 #[x32, v0] H14 fun x33 H15 =>
      Pu (binE (some (.int .i64)) .neq x33 (.int .i64 1)) fun x34 =>
      Ite x34
       (ForX true H15 fun H16 =>
       K20 ((.bool true), ()) H16)
       (Pu (idxAddrE (some (none, 1)) x7 s7.1) fun x35 =>
       Pu (loadE (some none) x35 H15) fun x36 =>
       ForX true H15 fun H17 =>
       Fc Try.prog 15 #[x36] H17 fun x37 H18 =>
       Pu (binE (some (.int .i64)) .neq x37 (.int .i64 0)) fun x38 =>
       Ite x38
        (ForX true H18 fun H19 =>
        K20 ((.bool true), ()) H19)
        (Pu (idxAddrE (some (none, 1)) x7 s7.1) fun x39 =>
        Pu (loadE (some none) x39 H18) fun x40 =>
        ForX true H18 fun H20 =>
        Fc Try.prog 16 #[x40] H20 fun x41 H21 =>
        Pu (binE (some (.int .i64)) .neq x41 (.int .i64 0)) fun x42 =>
        Ite x42
         (ForX true H21 fun H22 =>
         K20 ((.bool true), ()) H22)
         (Pu (idxAddrE (some (none, 1)) x7 s7.1) fun x43 =>
         Pu (loadE (some none) x43 H21) fun x44 =>
         ForX true H21 fun H23 =>
         Fc Try.prog 17 #[x44] H23 fun x45 H24 =>
         Pu (lenE Try.prog 46 x45) fun x46 =>
         Pu (binE (some (.int .i64)) .neq x46 (.int .i64 0)) fun x47 =>
         ForX true H24 fun H25 =>
         K20 (x47, ()) H25)))))))))
   (Fc Try.prog 18 #[(.pointer none), v2] H4 fun x48 H26 =>
   Pu (extractE x48 0) fun x49 =>
   Pu (extractE x48 1) fun x50 =>
   Fc Try.prog 18 #[x4, v2] H26 fun x51 H27 =>
   Pu (extractE x51 0) fun x52 =>
   Pu (extractE x51 1) fun x53 =>
   Pu (eqXE Try.prog 37 true .eql x49 (.pointer none) H27) fun x54 =>
   Ite x54
    (Pu (eqXE Try.prog 37 true .eql x52 (.pointer none) H27) fun x55 =>
    Ite x55
     (Pu (binE (some (.int .i64)) .eql x50 (.int .i64 1)) fun x56 =>
     Ite x56
      (Pu (binE (some (.int .i64)) .eql x53 (.int .i64 1)) fun x57 =>
      Ite x57
       (Fc Try.prog 19 #[] H27 fun x58 H28 =>
       R x58 H28)
       (R (.bool false) H27))
      (R (.bool false) H27))
     (R (.bool false) H27))
    (R (.bool false) H27)))
set_option maxRecDepth 100000 in
theorem fn3 {v0 v1 v2 : Value} {H : Hp} {R : Value → Hp → Prop} (h : sh3 v0 v1 v2 H R) : Fc Try.prog 3 #[v0, v1, v2] H R :=
  fn_of_vc (fun f => [13].contains f) (.seq .nil (.seq .nil (.seq .nil (.seq .nil (.seq (.seq .nil (.loop [10] [18, 19, 23, 24, 25, 26, 27, 28, 22, 29, 30, 11, 12, 31, 32, 33, 34, 35, 36, 37, 38, 39, 40, 41, 42, 43, 44, 45, 46, 47, 48, 49, 50, 51, 52, 53, 54, 55, 56, 57, 58, 59, 60, 61, 62, 63, 64, 65, 66, 67, 68, 69, 70, 71, 72, 73, 74, 75, 76, 77, 78, 79, 80, 81, 82, 6, 20, 21] (.seq .nil (.seq (.seq .nil (.join [82] [31, 32, 33, 34, 35, 36, 37, 38, 39, 40, 41, 42, 43, 44, 45, 46, 47, 48, 49, 50, 51, 52, 53, 54, 55, 56, 57, 58, 59, 60, 61, 62, 63, 64, 65, 66, 67, 68, 69, 70, 71, 72, 73, 74, 75, 76, 77, 78, 79, 80, 81] .nil .nil)) .nil)))) .nil))))) Try.func3 (args := [v0, v1, v2]) (Eq.mp (by kernel_rfl : sh3 v0 v1 v2 H R = VcFn Try.prog (fun f => [13].contains f) Try.f3 (.seq .nil (.seq .nil (.seq .nil (.seq .nil (.seq (.seq .nil (.loop [10] [18, 19, 23, 24, 25, 26, 27, 28, 22, 29, 30, 11, 12, 31, 32, 33, 34, 35, 36, 37, 38, 39, 40, 41, 42, 43, 44, 45, 46, 47, 48, 49, 50, 51, 52, 53, 54, 55, 56, 57, 58, 59, 60, 61, 62, 63, 64, 65, 66, 67, 68, 69, 70, 71, 72, 73, 74, 75, 76, 77, 78, 79, 80, 81, 82, 6, 20, 21] (.seq .nil (.seq (.seq .nil (.join [82] [31, 32, 33, 34, 35, 36, 37, 38, 39, 40, 41, 42, 43, 44, 45, 46, 47, 48, 49, 50, 51, 52, 53, 54, 55, 56, 57, 58, 59, 60, 61, 62, 63, 64, 65, 66, 67, 68, 69, 70, 71, 72, 73, 74, 75, 76, 77, 78, 79, 80, 81] .nil .nil)) .nil)))) .nil))))) [v0, v1, v2] H R) h)
end Go.Proofs
