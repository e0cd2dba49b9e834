/- The conditions of functions' bodies, in words, each tied to the program. -/
import Derived.Test.YtpacglkopelfiaaVcJ
import Derived.Test.YtpacglkopelfiaaProg
set_option linter.unusedVariables false
set_option linter.unusedSimpArgs false
namespace Go.Proofs
open Go.Vc

/- (*undercroft/wal.Log).Check -/
def sh66 (v0 : Value) (H : Hp) (R : Value → Hp → Prop) : Prop :=
 Join (n := 1) (fun s0 H1 => Any fun _ =>
  Ite s0.1
   (R (.int .i64 1) H1)
   (Pu (nilCheckE v0) fun x3 =>
   Pu (addrE (some 2) x3) fun x4 =>
   Pu (loadE (some none) x4 H1) fun x5 =>
   Pu (nilCheckE v0) fun x6 =>
   Pu (addrE (some 13) x6) fun x7 =>
   Pu (loadE (some none) x7 H1) fun x8 =>
   Fc Try.prog 83 #[x5, x8] H1 fun x9 H2 =>
   Pu (unE .not x9) fun x10 =>
   Ite x10
    (R (.int .i64 3) H2)
    (R (.int .i64 0) H2)))
 (fun K10 => Pu (eqXE Try.prog 96 true .eql v0 (.pointer none) H) fun x12 =>
 Ite x12
  (K10 ((.bool true), ()) H)
  (Pu (nilCheckE v0) fun x13 =>
  Pu (addrE (some 2) x13) fun x14 =>
  Pu (loadE (some none) x14 H) fun x15 =>
  Pu (eqXE Try.prog 23 true .eql x15 (.pointer none) H) fun x16 =>
  K10 (x16, ()) H))
set_option maxRecDepth 100000 in
theorem fn66 {v0 : Value} {H : Hp} {R : Value → Hp → Prop} (h : sh66 v0 H R) : Fc Try.prog 66 #[v0] H R :=
  fn_of_vc (fun f => [].contains f) (.seq .nil (.seq (.join [11] [3, 4, 5, 6, 7, 8, 9, 10] .nil .nil) .nil)) Try.func66 (args := [v0]) (Eq.mp (by kernel_rfl : sh66 v0 H R = VcFn Try.prog (fun f => [].contains f) Try.f66 (.seq .nil (.seq (.join [11] [3, 4, 5, 6, 7, 8, 9, 10] .nil .nil) .nil)) [v0] H R) h)

/- undercroft/rack.Read -/
def sh42 (v0 v1 : Value) (H : Hp) (R : Value → Hp → Prop) : Prop :=
 Pu (zeroE Try.prog 111) fun x1 => Box 111 x1 H fun x2 H1 =>
 Fc Try.prog 66 #[v0] H1 fun x3 H2 =>
 Pu (binE (some (.int .i64)) .neq x3 (.int .i64 0)) fun x4 =>
 Ite x4
  (Pu (buildE Try.prog 111 []) fun x5 =>
  Pu (storeE (some 16) x2 x5 H2) fun H3 =>
  Pu (loadE (some (some 16)) x2 H3) fun x6 =>
  R (.tuple #[x6, x3]) H3)
  (Fc Try.prog 67 #[v0, v1] H2 fun x7 H4 =>
  Pu (extractE x7 0) fun x8 =>
  Pu (extractE x7 1) fun x9 =>
  Pu (extractE x7 2) fun x10 =>
  Pu (unE .not x10) fun x11 =>
  Ite x11
   (Pu (buildE Try.prog 111 []) fun x12 =>
   Pu (storeE (some 16) x2 x12 H4) fun H5 =>
   Pu (loadE (some (some 16)) x2 H5) fun x13 =>
   R (.tuple #[x13, (.int .i64 2)]) H5)
   (Fc Try.prog 65 #[v0, x8] H4 fun x14 H6 =>
   Pu (extractE x14 0) fun x15 =>
   Pu (extractE x14 1) fun x16 =>
   Pu (zeroE Try.prog 25) fun x17 => Box 25 x17 H6 fun x18 H7 =>
   Pu (storeE (some 1024) x18 x15 H7) fun H8 =>
   Pu (binE (some (.int .i64)) .neq x16 (.int .i64 0)) fun x19 =>
   Ite x19
    (Pu (buildE Try.prog 111 []) fun x20 =>
    Pu (storeE (some 16) x2 x20 H8) fun H9 =>
    Pu (loadE (some (some 16)) x2 H9) fun x21 =>
    R (.tuple #[x21, x16]) H9)
    (Pu (binE (some (.int .i64)) .add x9 (.int .i64 64)) fun x22 =>
    Pu (sliceE Try.prog 25 x18 (some x9) (some x22) none) fun x23 =>
    False)))
set_option maxRecDepth 100000 in
theorem fn42 {v0 v1 : Value} {H : Hp} {R : Value → Hp → Prop} (h : sh42 v0 v1 H R) : Fc Try.prog 42 #[v0, v1] H R :=
  fn_of_vc (fun f => [].contains f) .nil Try.func42 (args := [v0, v1]) (Eq.mp (by kernel_rfl : sh42 v0 v1 H R = VcFn Try.prog (fun f => [].contains f) Try.f42 .nil [v0, v1] H R) h)

/- undercroft/rack.Take -/
def sh43 (v0 v1 : Value) (H : Hp) (R : Value → Hp → Prop) : Prop :=
 Box 111 v1 H fun x1 H1 =>
 Fc Try.prog 66 #[v0] H1 fun x2 H2 =>
 Pu (binE (some (.int .i64)) .neq x2 (.int .i64 0)) fun x3 =>
 Ite x3
  (R (.tuple #[(.int .i64 0), x2]) H2)
  (Fc Try.prog 69 #[v0] H2 fun x4 H3 =>
  Pu (unE .not x4) fun x5 =>
  Ite x5
   (R (.tuple #[(.int .i64 0), (.int .i64 180)]) H3)
   (Pu (addrE (some 0) x1) fun x6 =>
   Pu (loadE (some none) x6 H3) fun x7 =>
   Pu (binE (some (.int .u16)) .eql x7 (.int .u16 0)) fun x8 =>
   Ite x8
    (R (.tuple #[(.int .i64 0), (.int .i64 2)]) H3)
    (Pu (zeroE Try.prog 3) fun x9 => Box 3 x9 H3 fun x10 H4 =>
    Pu (storeE (some 1) x10 (.int .i64 0) H4) fun H5 =>
    Fc Try.prog 70 #[v0, (.func (.func 65) #[v0] #[]), (.func (.func 71) #[] #[x10])] H5 fun x11 H6 =>
    Pu (binE (some (.int .i64)) .neq x11 (.int .i64 0)) fun x12 =>
    Ite x12
     (R (.tuple #[(.int .i64 0), x11]) H6)
     (Pu (loadE (some none) x10 H6) fun x13 =>
     Pu (binE (some (.int .i64)) .eql x13 (.int .i64 0)) fun x14 =>
     Ite x14
      (R (.tuple #[(.int .i64 0), (.int .i64 16)]) H6)
      (Pu (loadE (some none) x10 H6) fun x15 =>
      Pu (loadE (some (some 16)) x1 H6) fun x16 =>
      Fc Try.prog 46 #[v0, x15, x16] H6 fun x17 H7 =>
      Pu (binE (some (.int .i64)) .neq x17 (.int .i64 0)) fun x18 =>
      Ite x18
       (R (.tuple #[(.int .i64 0), x17]) H7)
       (Pu (loadE (some none) x10 H7) fun x19 =>
       R (.tuple #[x19, (.int .i64 0)]) H7))))))
set_option maxRecDepth 100000 in
theorem fn43 {v0 v1 : Value} {H : Hp} {R : Value → Hp → Prop} (h : sh43 v0 v1 H R) : Fc Try.prog 43 #[v0, v1] H R :=
  fn_of_vc (fun f => [].contains f) .nil Try.func43 (args := [v0, v1]) (Eq.mp (by kernel_rfl : sh43 v0 v1 H R = VcFn Try.prog (fun f => [].contains f) Try.f43 .nil [v0, v1] H R) h)

/- undercroft/rack.Spare -/
def sh44 (v0 : Value) (H : Hp) (R : Value → Hp → Prop) : Prop :=
 Fc Try.prog 66 #[v0] H fun x1 H1 =>
 Pu (binE (some (.int .i64)) .neq x1 (.int .i64 0)) fun x2 =>
 Ite x2
  (R (.tuple #[(.int .i64 0), x1]) H1)
  (Pu (zeroE Try.prog 3) fun x3 => Box 3 x3 H1 fun x4 H2 =>
  Pu (storeE (some 1) x4 (.int .i64 0) H2) fun H3 =>
  Fc Try.prog 70 #[v0, (.func (.func 65) #[v0] #[]), (.func (.func 72) #[] #[x4])] H3 fun x5 H4 =>
  Pu (binE (some (.int .i64)) .neq x5 (.int .i64 0)) fun x6 =>
  Ite x6
   (R (.tuple #[(.int .i64 0), x5]) H4)
   (Pu (loadE (some none) x4 H4) fun x7 =>
   R (.tuple #[x7, (.int .i64 0)]) H4))
set_option maxRecDepth 100000 in
theorem fn44 {v0 : Value} {H : Hp} {R : Value → Hp → Prop} (h : sh44 v0 H R) : Fc Try.prog 44 #[v0] H R :=
  fn_of_vc (fun f => [].contains f) .nil Try.func44 (args := [v0]) (Eq.mp (by kernel_rfl : sh44 v0 H R = VcFn Try.prog (fun f => [].contains f) Try.f44 .nil [v0] H R) h)

/- undercroft/rack.Orphans -/
def sh45 (v0 : Value) (H : Hp) (R : Value → Hp → Prop) : Prop :=
 Fc Try.prog 66 #[v0] H fun x1 H1 =>
 Pu (binE (some (.int .i64)) .neq x1 (.int .i64 0)) fun x2 =>
 Ite x2
  (R (.tuple #[(.slice none 0 0), x1]) H1)
  (Pu (zeroE Try.prog 46) fun x3 => Box 46 x3 H1 fun x4 H2 =>
  Fc Try.prog 70 #[v0, (.func (.func 65) #[v0] #[]), (.func (.func 73) #[] #[x4])] H2 fun x5 H3 =>
  Pu (binE (some (.int .i64)) .neq x5 (.int .i64 0)) fun x6 =>
  Ite x6
   (R (.tuple #[(.slice none 0 0), x5]) H3)
   (Pu (loadE (some none) x4 H3) fun x7 =>
   R (.tuple #[x7, (.int .i64 0)]) H3))
set_option maxRecDepth 100000 in
theorem fn45 {v0 : Value} {H : Hp} {R : Value → Hp → Prop} (h : sh45 v0 H R) : Fc Try.prog 45 #[v0] H R :=
  fn_of_vc (fun f => [].contains f) .nil Try.func45 (args := [v0]) (Eq.mp (by kernel_rfl : sh45 v0 H R = VcFn Try.prog (fun f => [].contains f) Try.f45 .nil [v0] H R) h)

/- undercroft/rack.Write -/
def sh46 (v0 v1 v2 : Value) (H : Hp) (R : Value → Hp → Prop) : Prop :=
 Box 111 v2 H fun x1 H1 =>
 Fc Try.prog 66 #[v0] H1 fun x2 H2 =>
 Pu (binE (some (.int .i64)) .neq x2 (.int .i64 0)) fun x3 =>
 Ite x3
  (R x2 H2)
  (Fc Try.prog 69 #[v0] H2 fun x4 H3 =>
  Pu (unE .not x4) fun x5 =>
  Ite x5
   (R (.int .i64 180) H3)
   (Fc Try.prog 67 #[v0, v1] H3 fun x6 H4 =>
   Pu (extractE x6 0) fun x7 =>
   Pu (extractE x6 1) fun x8 =>
   Pu (extractE x6 2) fun x9 =>
   Pu (unE .not x9) fun x10 =>
   Ite x10
    (R (.int .i64 2) H4)
    (Fc Try.prog 65 #[v0, x7] H4 fun x11 H5 =>
    Pu (extractE x11 0) fun x12 =>
    Pu (extractE x11 1) fun x13 =>
    Pu (zeroE Try.prog 25) fun x14 => Box 25 x14 H5 fun x15 H6 =>
    Pu (storeE (some 1024) x15 x12 H6) fun H7 =>
    Pu (binE (some (.int .i64)) .neq x13 (.int .i64 0)) fun x16 =>
    Ite x16
     (R x13 H7)
     (Pu (loadE (some (some 16)) x1 H7) fun x17 =>
     Fc Try.prog 74 #[x17] H7 fun x18 H8 =>
     Pu (zeroE Try.prog 145) fun x19 => Box 145 x19 H8 fun x20 H9 =>
     Pu (storeE (some 64) x20 x18 H9) fun H10 =>
     Pu (sliceE Try.prog 25 x15 (some x8) none none) fun x21 =>
     Pu (sliceE Try.prog 145 x20 none none none) fun x22 =>
     Pu (copyE (elemI Try.prog 52) x21 x22 H10) fun x23 =>
     Pu (loadE (some (some 1024)) x15 x23.2) fun x24 =>
     Fc Try.prog 75 #[v0, x7, x24] x23.2 fun x25 H11 =>
     R x25 H11))))
set_option maxRecDepth 100000 in
theorem fn46 {v0 v1 v2 : Value} {H : Hp} {R : Value → Hp → Prop} (h : sh46 v0 v1 v2 H R) : Fc Try.prog 46 #[v0, v1, v2] H R :=
  fn_of_vc (fun f => [].contains f) .nil Try.func46 (args := [v0, v1, v2]) (Eq.mp (by kernel_rfl : sh46 v0 v1 v2 H R = VcFn Try.prog (fun f => [].contains f) Try.f46 .nil [v0, v1, v2] H R) h)

/- undercroft/fetch.Read -/
def sh41 (v0 v1 v2 v3 : Value) (H : Hp) (R : Value → Hp → Prop) : Prop :=
 Fc Try.prog 42 #[v0, v1] H fun x1 H1 =>
 Pu (extractE x1 0) fun x2 =>
 Pu (extractE x1 1) fun x3 =>
 Pu (zeroE Try.prog 111) fun x4 => Box 111 x4 H1 fun x5 H2 =>
 Pu (storeE (some 16) x5 x2 H2) fun H3 =>
 Pu (binE (some (.int .i64)) .neq x3 (.int .i64 0)) fun x6 =>
 Ite x6
  (R (.tuple #[(.slice none 0 0), x3]) H3)
  (Join (n := 1) (fun s6 H4 => Any fun _ =>
   Ite s6.1
    (R (.tuple #[(.slice none 0 0), (.int .i64 2)]) H4)
    (Pu (addrE (some 0) x5) fun x9 =>
    Pu (loadE (some none) x9 H4) fun x10 =>
    Pu (binE (some (.int .u16)) .eql x10 (.int .u16 0)) fun x11 =>
    Ite x11
     (R (.tuple #[(.slice none 0 0), (.int .i64 4)]) H4)
     (Pu (addrE (some 2) x5) fun x12 =>
     Pu (loadE (some none) x12 H4) fun x13 =>
     Pu (convE (some (.int .u32)) (some (.int .i64)) x13) fun x14 =>
     Pu (binE (some (.int .i64)) .geq v2 x14) fun x15 =>
     Ite x15
      (R (.tuple #[(.slice none 0 0), (.int .i64 0)]) H4)
      (Pu (binE (some (.int .i64)) .add v2 v3) fun x16 =>
      Pu (addrE (some 2) x5) fun x17 =>
      Pu (loadE (some none) x17 H4) fun x18 =>
      Pu (convE (some (.int .u32)) (some (.int .i64)) x18) fun x19 =>
      Pu (minE x16 x19) fun x20 =>
      Pu (binE (some (.int .i64)) .sub x20 v2) fun x21 =>
      Pu (makeE (elemI Try.prog 52) x21 x21 H4) fun x22 =>
      LoopP (n := 1) (v2, ()) x22.2 (fun K23 s22 H5 => Any fun _ =>
       Pu (binE (some (.int .i64)) .lss s22.1 x20) fun x25 =>
       Ite x25
        (Pu (binE (some (.int .i64)) .quo s22.1 (.int .i64 1024)) fun x26 =>
        Pu (binE (some (.int .i64)) .add x26 (.int .i64 1)) fun x27 =>
        Pu (binE (some (.int .i64)) .mul x27 (.int .i64 1024)) fun x28 =>
        Pu (minE x20 x28) fun x29 =>
        Pu (binE (some (.int .i64)) .quo s22.1 (.int .i64 1024)) fun x30 =>
        Fc Try.prog 64 #[v0, v1, x30] H5 fun x31 H6 =>
        Pu (extractE x31 0) fun x32 =>
        Pu (extractE x31 1) fun x33 =>
        Pu (binE (some (.int .i64)) .neq x33 (.int .i64 0)) fun x34 =>
        Ite x34
         (R (.tuple #[(.slice none 0 0), x33]) H6)
         (Pu (binE (some (.int .i64)) .neq x32 (.int .i64 0)) fun x35 =>
         Ite x35
          (Fc Try.prog 65 #[v0, x32] H6 fun x36 H7 =>
          Pu (extractE x36 0) fun x37 =>
          Pu (extractE x36 1) fun x38 =>
          Pu (zeroE Try.prog 25) fun x39 => Box 25 x39 H7 fun x40 H8 =>
          Pu (storeE (some 1024) x40 x37 H8) fun H9 =>
          Pu (binE (some (.int .i64)) .neq x38 (.int .i64 0)) fun x41 =>
          Ite x41
           (R (.tuple #[(.slice none 0 0), x38]) H9)
           (Pu (binE (some (.int .i64)) .sub s22.1 v2) fun x42 =>
           Pu (binE (some (.int .i64)) .sub x29 v2) fun x43 =>
           Pu (binE (some (.int .i64)) .sub x29 v2) fun x44 =>
           Pu (sliceE Try.prog 52 x22.1 (some x42) (some x43) (some x44)) fun x45 =>
           Pu (binE (some (.int .i64)) .rem s22.1 (.int .i64 1024)) fun x46 =>
           Pu (sliceE Try.prog 25 x40 (some x46) none none) fun x47 =>
           Pu (copyE (elemI Try.prog 52) x45 x47 H9) fun x48 =>
           K23 (x29, ()) x48.2))
          (K23 (x29, ()) H6)))
        (R (.tuple #[x22.1, (.int .i64 0)]) H5))))))
  (fun K48 => Pu (binE (some (.int .i64)) .lss v2 (.int .i64 0)) fun x50 =>
  Ite x50
   (K48 ((.bool true), ()) H3)
   (Pu (binE (some (.int .i64)) .lss v3 (.int .i64 0)) fun x51 =>
   Ite x51
    (K48 ((.bool true), ()) H3)
    (Pu (binE (some (.int .i64)) .gtr v3 (.int .i64 65536)) fun x52 =>
    K48 (x52, ()) H3))))
set_option maxRecDepth 100000 in
theorem fn41 {v0 v1 v2 v3 : Value} {H : Hp} {R : Value → Hp → Prop} (h : sh41 v0 v1 v2 v3 H R) : Fc Try.prog 41 #[v0, v1, v2, v3] H R :=
  fn_of_vc (fun f => [].contains f) (.seq .nil (.seq .nil (.seq (.seq .nil (.cond .nil (.join [30] [31, 32, 33, 34, 35, 36, 37, 38, 39, 40] .nil .nil))) (.seq .nil (.seq .nil (.seq .nil (.seq (.seq .nil (.loop [14] [62, 63, 64, 65, 66, 67, 68, 69, 70, 15, 72, 73, 74, 75, 76, 71, 77, 78, 16, 17, 79, 80, 81, 8, 9, 82, 83, 85, 86, 87, 84, 88, 89, 18, 19, 90, 91, 92, 93, 94, 95, 96, 97, 98, 99, 100, 101, 102, 103, 104, 105, 106, 107, 108] .nil)) .nil))))))) Try.func41 (args := [v0, v1, v2, v3]) (Eq.mp (by kernel_rfl : sh41 v0 v1 v2 v3 H R = VcFn Try.prog (fun f => [].contains f) Try.f41 (.seq .nil (.seq .nil (.seq (.seq .nil (.cond .nil (.join [30] [31, 32, 33, 34, 35, 36, 37, 38, 39, 40] .nil .nil))) (.seq .nil (.seq .nil (.seq .nil (.seq (.seq .nil (.loop [14] [62, 63, 64, 65, 66, 67, 68, 69, 70, 15, 72, 73, 74, 75, 76, 71, 77, 78, 16, 17, 79, 80, 81, 8, 9, 82, 83, 85, 86, 87, 84, 88, 89, 18, 19, 90, 91, 92, 93, 94, 95, 96, 97, 98, 99, 100, 101, 102, 103, 104, 105, 106, 107, 108] .nil)) .nil))))))) [v0, v1, v2, v3] H R) h)

/- undercroft/undercroftlaw14.FetchNil -/
def sh9 (v0 : Value) (H : Hp) (R : Value → Hp → Prop) : Prop :=
 Box 93 v0 H fun x1 H1 =>
 Pu (addrE (some 0) x1) fun x2 =>
 Pu (loadE (some none) x2 H1) fun x3 =>
 Pu (addrE (some 1) x1) fun x4 =>
 Pu (loadE (some none) x4 H1) fun x5 =>
 Pu (addrE (some 2) x1) fun x6 =>
 Pu (loadE (some none) x6 H1) fun x7 =>
 Fc Try.prog 41 #[(.pointer none), x3, x5, x7] H1 fun x8 H2 =>
 Pu (extractE x8 0) fun x9 =>
 Pu (extractE x8 1) fun x10 =>
 Pu (buildE Try.prog 105 []) fun x11 =>
 Box 105 x11 H2 fun x12 H3 =>
 Pu (addrE (some 0) x1) fun x13 =>
 Pu (loadE (some none) x13 H3) fun x14 =>
 Pu (addrE (some 1) x1) fun x15 =>
 Pu (loadE (some none) x15 H3) fun x16 =>
 Pu (addrE (some 2) x1) fun x17 =>
 Pu (loadE (some none) x17 H3) fun x18 =>
 Fc Try.prog 41 #[x12, x14, x16, x18] H3 fun x19 H4 =>
 Pu (extractE x19 0) fun x20 =>
 Pu (extractE x19 1) fun x21 =>
 Pu (binE (some (.int .i64)) .eql x10 (.int .i64 1)) fun x22 =>
 Ite x22
  (Pu (binE (some (.int .i64)) .eql x21 (.int .i64 1)) fun x23 =>
  Ite x23
   (Pu (lenE Try.prog 52 x9) fun x24 =>
   Pu (binE (some (.int .i64)) .eql x24 (.int .i64 0)) fun x25 =>
   Ite x25
    (Pu (lenE Try.prog 52 x20) fun x26 =>
    Pu (binE (some (.int .i64)) .eql x26 (.int .i64 0)) fun x27 =>
    R x27 H4)
    (R (.bool false) H4))
   (R (.bool false) H4))
  (R (.bool false) H4)
set_option maxRecDepth 100000 in
theorem fn9 {v0 : Value} {H : Hp} {R : Value → Hp → Prop} (h : sh9 v0 H R) : Fc Try.prog 9 #[v0] H R :=
  fn_of_vc (fun f => [].contains f) .nil Try.func9 (args := [v0]) (Eq.mp (by kernel_rfl : sh9 v0 H R = VcFn Try.prog (fun f => [].contains f) Try.f9 .nil [v0] H R) h)

/- undercroft/undercroftlaw11.RackNil -/
def sh10 (v0 v1 : Value) (H : Hp) (R : Value → Hp → Prop) : Prop :=
 Box 111 v1 H fun x1 H1 =>
 Fc Try.prog 42 #[(.pointer none), v0] H1 fun x2 H2 =>
 Pu (extractE x2 0) fun x3 =>
 Pu (extractE x2 1) fun x4 =>
 Pu (zeroE Try.prog 111) fun x5 => Box 111 x5 H2 fun x6 H3 =>
 Pu (storeE (some 16) x6 x3 H3) fun H4 =>
 Pu (buildE Try.prog 105 []) fun x7 =>
 Box 105 x7 H4 fun x8 H5 =>
 Pu (loadE (some (some 16)) x1 H5) fun x9 =>
 Fc Try.prog 43 #[x8, x9] H5 fun x10 H6 =>
 Pu (extractE x10 0) fun x11 =>
 Pu (extractE x10 1) fun x12 =>
 Fc Try.prog 44 #[(.pointer none)] H6 fun x13 H7 =>
 Pu (extractE x13 0) fun x14 =>
 Pu (extractE x13 1) fun x15 =>
 Pu (buildE Try.prog 105 []) fun x16 =>
 Box 105 x16 H7 fun x17 H8 =>
 Fc Try.prog 45 #[x17] H8 fun x18 H9 =>
 Pu (extractE x18 0) fun x19 =>
 Pu (extractE x18 1) fun x20 =>
 Join (n := 1) (fun s20 H10 => Any fun _ =>
  Ite s20.1
   (Pu (binE (some (.int .i64)) .eql x20 (.int .i64 1)) fun x23 =>
   Ite x23
    (Pu (lenE Try.prog 46 x19) fun x24 =>
    Pu (binE (some (.int .i64)) .eql x24 (.int .i64 0)) fun x25 =>
    Ite x25
     (Pu (loadE (some (some 16)) x1 H10) fun x26 =>
     Fc Try.prog 46 #[(.pointer none), v0, x26] H10 fun x27 H11 =>
     Pu (binE (some (.int .i64)) .eql x27 (.int .i64 1)) fun x28 =>
     Ite x28
      (Pu (buildE Try.prog 105 []) fun x29 =>
      Box 105 x29 H11 fun x30 H12 =>
      Pu (loadE (some (some 16)) x1 H12) fun x31 =>
      Fc Try.prog 46 #[x30, v0, x31] H12 fun x32 H13 =>
      Pu (binE (some (.int .i64)) .eql x32 (.int .i64 1)) fun x33 =>
      R x33 H13)
      (R (.bool false) H11))
     (R (.bool false) H10))
    (R (.bool false) H10))
   (R (.bool false) H10))
 (fun K33 => Pu (binE (some (.int .i64)) .eql x4 (.int .i64 1)) fun x35 =>
 Ite x35
  (Pu (loadE (some (some 16)) x6 H9) fun x36 =>
  Pu (buildE Try.prog 111 []) fun x37 =>
  Pu (eqXE Try.prog 111 false .eql x36 x37 H9) fun x38 =>
  Ite x38
   (Pu (binE (some (.int .i64)) .eql x12 (.int .i64 1)) fun x39 =>
   Ite x39
    (Pu (binE (some (.int .i64)) .eql x11 (.int .i64 0)) fun x40 =>
    Ite x40
     (Pu (binE (some (.int .i64)) .eql x15 (.int .i64 1)) fun x41 =>
     Ite x41
      (Pu (binE (some (.int .i64)) .eql x14 (.int .i64 0)) fun x42 =>
      K33 (x42, ()) H9)
      (K33 ((.bool false), ()) H9))
     (K33 ((.bool false), ()) H9))
    (K33 ((.bool false), ()) H9))
   (K33 ((.bool false), ()) H9))
  (K33 ((.bool false), ()) H9))
set_option maxRecDepth 100000 in
theorem fn10 {v0 v1 : Value} {H : Hp} {R : Value → Hp → Prop} (h : sh10 v0 v1 H R) : Fc Try.prog 10 #[v0, v1] H R :=
  fn_of_vc (fun f => [].contains f) (.seq .nil (.seq .nil (.seq .nil (.seq .nil (.seq .nil (.join [13] [36, 37, 38, 39, 40, 41, 42, 43, 44, 45, 46, 47, 48, 49, 50, 51, 52, 53, 54, 55, 56, 57, 58] .nil .nil)))))) Try.func10 (args := [v0, v1]) (Eq.mp (by kernel_rfl : sh10 v0 v1 H R = VcFn Try.prog (fun f => [].contains f) Try.f10 (.seq .nil (.seq .nil (.seq .nil (.seq .nil (.seq .nil (.join [13] [36, 37, 38, 39, 40, 41, 42, 43, 44, 45, 46, 47, 48, 49, 50, 51, 52, 53, 54, 55, 56, 57, 58] .nil .nil)))))) [v0, v1] H R) h)
end Go.Proofs
