/- The conditions of functions' bodies, in words, each tied to the program. -/
import Derived.Test.YthijablhhnfoeaaVcJ
import Derived.Test.YthijablhhnfoeaaProg
set_option linter.unusedVariables false
set_option linter.unusedSimpArgs false
namespace Go.Proofs
open Go.Vc

/- undercroft/bits.Has -/
def sh11 (v0 v1 : Value) (H : Hp) (R : Value → Hp → Prop) : Prop :=
 Box 23 v0 H fun x1 H1 =>
 Pu (binE (some (.int .i64)) .geq v1 (.int .i64 0)) fun x2 =>
 Ite x2
  (Pu (binE (some (.int .i64)) .lss v1 (.int .i64 8192)) fun x3 =>
  Ite x3
   (Pu (binE (some (.int .i64)) .quo v1 (.int .i64 8)) fun x4 =>
   Pu (idxAddrE (some (some 1024, 1)) x1 x4) fun x5 =>
   Pu (loadE (some none) x5 H1) fun x6 =>
   Pu (binE (some (.int .i64)) .rem v1 (.int .i64 8)) fun x7 =>
   Pu (binE (some (.int .u8)) .shl (.int .u8 1) x7) fun x8 =>
   Pu (binE (some (.int .u8)) .and x6 x8) fun x9 =>
   Pu (binE (some (.int .u8)) .neq x9 (.int .u8 0)) fun x10 =>
   R x10 H1)
   (R (.bool false) H1))
  (R (.bool false) H1)
set_option maxRecDepth 100000 in
theorem fn11 {v0 v1 : Value} {H : Hp} {R : Value → Hp → Prop} (h : sh11 v0 v1 H R) : Fc Try.prog 11 #[v0, v1] H R :=
  fn_of_vc (fun f => [9, 11, 12, 13, 15, 16, 17, 19, 21, 22].contains f) .nil Try.func11 (args := [v0, v1]) (Eq.mp (by kernel_rfl : sh11 v0 v1 H R = VcFn Try.prog (fun f => [9, 11, 12, 13, 15, 16, 17, 19, 21, 22].contains f) Try.f11 .nil [v0, v1] H R) h)

/- undercroft/bits.Set -/
def sh9 (v0 v1 v2 : Value) (H : Hp) (R : Value → Hp → Prop) : Prop :=
 Box 23 v0 H fun x1 H1 =>
 Pu (zeroE Try.prog 23) fun x2 => Box 23 x2 H1 fun x3 H2 =>
 Join (n := 0) (fun s3 H3 => Any fun _ =>
  Pu (loadE (some (some 1024)) x1 H3) fun x5 =>
  Pu (storeE (some 1024) x3 x5 H3) fun H4 =>
  Pu (loadE (some (some 1024)) x3 H4) fun x6 =>
  R x6 H4)
 (fun K6 => Join (n := 1) (fun s7 H5 => Any fun _ =>
  Ite s7.1
   (K6 (()) H5)
   (Ite v2
    (Pu (binE (some (.int .i64)) .quo v1 (.int .i64 8)) fun x10 =>
    Pu (idxAddrE (some (some 1024, 1)) x1 x10) fun x11 =>
    Pu (loadE (some none) x11 H5) fun x12 =>
    Pu (binE (some (.int .i64)) .rem v1 (.int .i64 8)) fun x13 =>
    Pu (binE (some (.int .u8)) .shl (.int .u8 1) x13) fun x14 =>
    Pu (binE (some (.int .u8)) .or x12 x14) fun x15 =>
    Pu (idxAddrE (some (some 1024, 1)) x1 x10) fun x16 =>
    Pu (storeE (some 1) x16 x15 H5) fun H6 =>
    K6 (()) H6)
    (Pu (binE (some (.int .i64)) .quo v1 (.int .i64 8)) fun x17 =>
    Pu (idxAddrE (some (some 1024, 1)) x1 x17) fun x18 =>
    Pu (loadE (some none) x18 H5) fun x19 =>
    Pu (binE (some (.int .i64)) .rem v1 (.int .i64 8)) fun x20 =>
    Pu (binE (some (.int .u8)) .shl (.int .u8 1) x20) fun x21 =>
    Pu (binE (some (.int .u8)) .andNot x19 x21) fun x22 =>
    Pu (idxAddrE (some (some 1024, 1)) x1 x17) fun x23 =>
    Pu (storeE (some 1) x23 x22 H5) fun H7 =>
    K6 (()) H7)))
 (fun K23 => Pu (binE (some (.int .i64)) .lss v1 (.int .i64 0)) fun x25 =>
 Ite x25
  (K23 ((.bool true), ()) H2)
  (Pu (binE (some (.int .i64)) .geq v1 (.int .i64 8192)) fun x26 =>
  K23 (x26, ()) H2)))
set_option maxRecDepth 100000 in
theorem fn9 {v0 v1 v2 : Value} {H : Hp} {R : Value → Hp → Prop} (h : sh9 v0 v1 v2 H R) : Fc Try.prog 9 #[v0, v1, v2] H R :=
  fn_of_vc (fun f => [9, 11, 12, 13, 15, 16, 17, 19, 21, 22].contains f) (.seq .nil (.join [] [17, 18, 19, 20, 21, 22, 16, 24, 23, 25, 26, 27, 28, 29, 30, 31, 32, 33, 7, 8, 9, 10, 11, 12, 13, 14, 15] (.join [16] [17, 18, 19, 20, 21, 22] .nil .nil) .nil)) Try.func9 (args := [v0, v1, v2]) (Eq.mp (by kernel_rfl : sh9 v0 v1 v2 H R = VcFn Try.prog (fun f => [9, 11, 12, 13, 15, 16, 17, 19, 21, 22].contains f) Try.f9 (.seq .nil (.join [] [17, 18, 19, 20, 21, 22, 16, 24, 23, 25, 26, 27, 28, 29, 30, 31, 32, 33, 7, 8, 9, 10, 11, 12, 13, 14, 15] (.join [16] [17, 18, 19, 20, 21, 22] .nil .nil) .nil)) [v0, v1, v2] H R) h)

/- undercroft/bits.inside -/
def sh21 (v0 v1 : Value) (H : Hp) (R : Value → Hp → Prop) : Prop :=
 Pu (maxE v0 (.int .i64 0)) fun x1 =>
 Pu (minE v1 (.int .i64 8192)) fun x2 =>
 R (.tuple #[x1, x2]) H
set_option maxRecDepth 100000 in
theorem fn21 {v0 v1 : Value} {H : Hp} {R : Value → Hp → Prop} (h : sh21 v0 v1 H R) : Fc Try.prog 21 #[v0, v1] H R :=
  fn_of_vc (fun f => [9, 11, 12, 13, 15, 16, 17, 19, 21, 22].contains f) .nil Try.func21 (args := [v0, v1]) (Eq.mp (by kernel_rfl : sh21 v0 v1 H R = VcFn Try.prog (fun f => [9, 11, 12, 13, 15, 16, 17, 19, 21, 22].contains f) Try.f21 .nil [v0, v1] H R) h)

/- undercroft/bits.First -/
def sh12 (v0 v1 v2 : Value) (H : Hp) (R : Value → Hp → Prop) : Prop :=
 Box 23 v0 H fun x1 H1 =>
 Fc Try.prog 21 #[v1, v2] H1 fun x2 H2 =>
 Pu (extractE x2 0) fun x3 =>
 Pu (extractE x2 1) fun x4 =>
 LoopP (n := 1) (x3, ()) H2 (fun K5 s4 H3 => Any fun _ =>
  Pu (binE (some (.int .i64)) .lss s4.1 x4) fun x7 =>
  Ite x7
   (Join (n := 1) (fun s7 H4 => Any fun _ =>
    Ite s7.1
     (Pu (binE (some (.int .i64)) .add s4.1 (.int .i64 7)) fun x10 =>
     Pu (binE (some (.int .i64)) .add x10 (.int .i64 1)) fun x11 =>
     K5 (x11, ()) H4)
     (Pu (loadE (some (some 1024)) x1 H4) fun x12 =>
     Fc Try.prog 11 #[x12, s4.1] H4 fun x13 H5 =>
     Pu (unE .not x13) fun x14 =>
     Ite x14
      (R s4.1 H5)
      (Pu (binE (some (.int .i64)) .add s4.1 (.int .i64 1)) fun x15 =>
      K5 (x15, ()) H5)))
   (fun K15 => Pu (binE (some (.int .i64)) .rem s4.1 (.int .i64 8)) fun x17 =>
   Pu (binE (some (.int .i64)) .eql x17 (.int .i64 0)) fun x18 =>
   Ite x18
    (Pu (binE (some (.int .i64)) .add s4.1 (.int .i64 8)) fun x19 =>
    Pu (binE (some (.int .i64)) .leq x19 x4) fun x20 =>
    Ite x20
     (Pu (binE (some (.int .i64)) .quo s4.1 (.int .i64 8)) fun x21 =>
     Pu (idxAddrE (some (some 1024, 1)) x1 x21) fun x22 =>
     Pu (loadE (some none) x22 H3) fun x23 =>
     Pu (binE (some (.int .u8)) .eql x23 (.int .u8 255)) fun x24 =>
     K15 (x24, ()) H3)
     (K15 ((.bool false), ()) H3))
    (K15 ((.bool false), ()) H3)))
   (R (.int .i64 (-1)) H3))
set_option maxRecDepth 100000 in
theorem fn12 {v0 v1 v2 : Value} {H : Hp} {R : Value → Hp → Prop} (h : sh12 v0 v1 v2 H R) : Fc Try.prog 12 #[v0, v1, v2] H R :=
  fn_of_vc (fun f => [9, 11, 12, 13, 15, 16, 17, 19, 21, 22].contains f) (.seq .nil (.seq .nil (.seq (.seq .nil (.loop [7] [15, 16, 17, 20, 21, 22, 23, 24, 25, 26, 27, 28, 29, 30, 31, 32, 33, 34, 35, 36, 37, 38, 39, 40, 41, 42, 6, 18, 19] (.seq .nil (.seq (.seq (.join [35] [20, 21, 22, 23, 24, 25, 26, 27, 28, 29, 30, 31, 32, 33, 34] .nil .nil) .nil) .nil)))) .nil))) Try.func12 (args := [v0, v1, v2]) (Eq.mp (by kernel_rfl : sh12 v0 v1 v2 H R = VcFn Try.prog (fun f => [9, 11, 12, 13, 15, 16, 17, 19, 21, 22].contains f) Try.f12 (.seq .nil (.seq .nil (.seq (.seq .nil (.loop [7] [15, 16, 17, 20, 21, 22, 23, 24, 25, 26, 27, 28, 29, 30, 31, 32, 33, 34, 35, 36, 37, 38, 39, 40, 41, 42, 6, 18, 19] (.seq .nil (.seq (.seq (.join [35] [20, 21, 22, 23, 24, 25, 26, 27, 28, 29, 30, 31, 32, 33, 34] .nil .nil) .nil) .nil)))) .nil))) [v0, v1, v2] H R) h)

/- math/bits.OnesCount8 -/
def sh22 (v0 : Value) (H : Hp) (R : Value → Hp → Prop) : Prop :=
 Pu (idxE Try.prog 9 (.string ⟨#[0, 1, 1, 2, 1, 2, 2, 3, 1, 2, 2, 3, 2, 3, 3, 4, 1, 2, 2, 3, 2, 3, 3, 4, 2, 3, 3, 4, 3, 4, 4, 5, 1, 2, 2, 3, 2, 3, 3, 4, 2, 3, 3, 4, 3, 4, 4, 5, 2, 3, 3, 4, 3, 4, 4, 5, 3, 4, 4, 5, 4, 5, 5, 6, 1, 2, 2, 3, 2, 3, 3, 4, 2, 3, 3, 4, 3, 4, 4, 5, 2, 3, 3, 4, 3, 4, 4, 5, 3, 4, 4, 5, 4, 5, 5, 6, 2, 3, 3, 4, 3, 4, 4, 5, 3, 4, 4, 5, 4, 5, 5, 6, 3, 4, 4, 5, 4, 5, 5, 6, 4, 5, 5, 6, 5, 6, 6, 7, 1, 2, 2, 3, 2, 3, 3, 4, 2, 3, 3, 4, 3, 4, 4, 5, 2, 3, 3, 4, 3, 4, 4, 5, 3, 4, 4, 5, 4, 5, 5, 6, 2, 3, 3, 4, 3, 4, 4, 5, 3, 4, 4, 5, 4, 5, 5, 6, 3, 4, 4, 5, 4, 5, 5, 6, 4, 5, 5, 6, 5, 6, 6, 7, 2, 3, 3, 4, 3, 4, 4, 5, 3, 4, 4, 5, 4, 5, 5, 6, 3, 4, 4, 5, 4, 5, 5, 6, 4, 5, 5, 6, 5, 6, 6, 7, 3, 4, 4, 5, 4, 5, 5, 6, 4, 5, 5, 6, 5, 6, 6, 7, 4, 5, 5, 6, 5, 6, 6, 7, 5, 6, 6, 7, 6, 7, 7, 8]⟩) v0) fun x1 =>
 Pu (convE (some (.int .u8)) (some (.int .i64)) x1) fun x2 =>
 R x2 H
set_option maxRecDepth 100000 in
theorem fn22 {v0 : Value} {H : Hp} {R : Value → Hp → Prop} (h : sh22 v0 H R) : Fc Try.prog 22 #[v0] H R :=
  fn_of_vc (fun f => [9, 11, 12, 13, 15, 16, 17, 19, 21, 22].contains f) .nil Try.func22 (args := [v0]) (Eq.mp (by kernel_rfl : sh22 v0 H R = VcFn Try.prog (fun f => [9, 11, 12, 13, 15, 16, 17, 19, 21, 22].contains f) Try.f22 .nil [v0] H R) h)

/- undercroft/bits.Count -/
def sh13 (v0 v1 v2 : Value) (H : Hp) (R : Value → Hp → Prop) : Prop :=
 Box 23 v0 H fun x1 H1 =>
 Fc Try.prog 21 #[v1, v2] H1 fun x2 H2 =>
 Pu (extractE x2 0) fun x3 =>
 Pu (extractE x2 1) fun x4 =>
 LoopP (n := 2) ((.int .i64 0), x3, ()) H2 (fun K5 s4 H3 => Any fun _ =>
  Pu (binE (some (.int .i64)) .lss s4.2.1 x4) fun x7 =>
  Ite x7
   (Join (n := 1) (fun s7 H4 => Any fun _ =>
    Ite s7.1
     (Pu (binE (some (.int .i64)) .quo s4.2.1 (.int .i64 8)) fun x10 =>
     Pu (idxAddrE (some (some 1024, 1)) x1 x10) fun x11 =>
     Pu (loadE (some none) x11 H4) fun x12 =>
     Fc Try.prog 22 #[x12] H4 fun x13 H5 =>
     Pu (binE (some (.int .i64)) .add s4.1 x13) fun x14 =>
     Pu (binE (some (.int .i64)) .add s4.2.1 (.int .i64 7)) fun x15 =>
     Pu (binE (some (.int .i64)) .add x15 (.int .i64 1)) fun x16 =>
     K5 (x14, x16, ()) H5)
     (Pu (loadE (some (some 1024)) x1 H4) fun x17 =>
     Fc Try.prog 11 #[x17, s4.2.1] H4 fun x18 H6 =>
     Ite x18
      (Pu (binE (some (.int .i64)) .add s4.1 (.int .i64 1)) fun x19 =>
      Pu (binE (some (.int .i64)) .add s4.2.1 (.int .i64 1)) fun x20 =>
      K5 (x19, x20, ()) H6)
      (Pu (binE (some (.int .i64)) .add s4.2.1 (.int .i64 1)) fun x21 =>
      K5 (s4.1, x21, ()) H6)))
   (fun K21 => Pu (binE (some (.int .i64)) .rem s4.2.1 (.int .i64 8)) fun x23 =>
   Pu (binE (some (.int .i64)) .eql x23 (.int .i64 0)) fun x24 =>
   Ite x24
    (Pu (binE (some (.int .i64)) .add s4.2.1 (.int .i64 8)) fun x25 =>
    Pu (binE (some (.int .i64)) .leq x25 x4) fun x26 =>
    K21 (x26, ()) H3)
    (K21 ((.bool false), ()) H3)))
   (R s4.1 H3))
set_option maxRecDepth 100000 in
theorem fn13 {v0 v1 v2 : Value} {H : Hp} {R : Value → Hp → Prop} (h : sh13 v0 v1 v2 H R) : Fc Try.prog 13 #[v0, v1, v2] H R :=
  fn_of_vc (fun f => [9, 11, 12, 13, 15, 16, 17, 19, 21, 22].contains f) (.seq .nil (.seq .nil (.seq .nil (.seq (.seq .nil (.loop [7, 8] [16, 17, 18, 21, 22, 23, 24, 25, 26, 27, 28, 29, 30, 31, 32, 33, 34, 35, 36, 37, 38, 39, 40, 41, 42, 43, 19, 20] (.seq .nil (.seq (.join [29] [21, 22, 23, 24, 25, 26, 27, 28] .nil .nil) .nil)))) .nil)))) Try.func13 (args := [v0, v1, v2]) (Eq.mp (by kernel_rfl : sh13 v0 v1 v2 H R = VcFn Try.prog (fun f => [9, 11, 12, 13, 15, 16, 17, 19, 21, 22].contains f) Try.f13 (.seq .nil (.seq .nil (.seq .nil (.seq (.seq .nil (.loop [7, 8] [16, 17, 18, 21, 22, 23, 24, 25, 26, 27, 28, 29, 30, 31, 32, 33, 34, 35, 36, 37, 38, 39, 40, 41, 42, 43, 19, 20] (.seq .nil (.seq (.join [29] [21, 22, 23, 24, 25, 26, 27, 28] .nil .nil) .nil)))) .nil)))) [v0, v1, v2] H R) h)

/- undercroft/bits.All -/
def sh23 (v0 v1 v2 : Value) (H : Hp) (R : Value → Hp → Prop) : Prop :=
 Box 23 v0 H fun x1 H1 =>
 Box 3 v1 H1 fun x2 H2 =>
 Box 3 v2 H2 fun x3 H3 =>
 Pu (loadE (some none) x2 H3) fun x4 =>
 Pu (loadE (some none) x3 H3) fun x5 =>
 Fc Try.prog 21 #[x4, x5] H3 fun x6 H4 =>
 Pu (extractE x6 0) fun x7 =>
 Pu (extractE x6 1) fun x8 =>
 Pu (storeE (some 1) x2 x7 H4) fun H5 =>
 Pu (storeE (some 1) x3 x8 H5) fun H6 =>
 R (.func (.func 24) #[] #[x2, x3, x1]) H6
set_option maxRecDepth 100000 in
theorem fn23 {v0 v1 v2 : Value} {H : Hp} {R : Value → Hp → Prop} (h : sh23 v0 v1 v2 H R) : Fc Try.prog 23 #[v0, v1, v2] H R :=
  fn_of_vc (fun f => [9, 11, 12, 13, 15, 16, 17, 19, 21, 22].contains f) .nil Try.func23 (args := [v0, v1, v2]) (Eq.mp (by kernel_rfl : sh23 v0 v1 v2 H R = VcFn Try.prog (fun f => [9, 11, 12, 13, 15, 16, 17, 19, 21, 22].contains f) Try.f23 .nil [v0, v1, v2] H R) h)

/- undercroft/bits.All$1 -/
def sh24 (v0 v1 v2 v3 : Value) (H : Hp) (R : Value → Hp → Prop) : Prop :=
 Pu (loadE (some none) v1 H) fun x1 =>
 LoopP (n := 1) (x1, ()) H (fun K2 s1 H1 => Any fun _ =>
  Pu (loadE (some none) v2 H1) fun x4 =>
  Pu (binE (some (.int .i64)) .lss s1.1 x4) fun x5 =>
  Ite x5
   (Join (n := 1) (fun s5 H2 => Any fun _ =>
    Ite s5.1
     (R (.tuple #[]) H2)
     (Pu (binE (some (.int .i64)) .add s1.1 (.int .i64 1)) fun x8 =>
     K2 (x8, ()) H2))
   (fun K8 => Pu (loadE (some (some 1024)) v3 H1) fun x10 =>
   Fc Try.prog 11 #[x10, s1.1] H1 fun x11 H3 =>
   Ite x11
    (CallV Try.prog v0 #[s1.1] H3 fun x12 H4 =>
    Pu (unE .not x12) fun x13 =>
    K8 (x13, ()) H4)
    (K8 ((.bool false), ()) H3)))
   (R (.tuple #[]) H1))
set_option maxRecDepth 100000 in
theorem fn24 {v0 v1 v2 v3 : Value} {H : Hp} {R : Value → Hp → Prop} (h : sh24 v0 v1 v2 v3 H R) : Fc Try.prog 24 #[v0, v1, v2, v3] H R :=
  fn_of_vc (fun f => [9, 11, 12, 13, 15, 16, 17, 19, 21, 22].contains f) (.seq .nil (.loop [5] [7, 8, 9, 12, 13, 14, 15, 16, 17, 18, 19, 20, 10, 11] (.seq .nil (.seq (.join [20] [12, 13, 14, 15, 16, 17, 18, 19] .nil .nil) .nil)))) Try.func24 (args := [v0, v1, v2, v3]) (Eq.mp (by kernel_rfl : sh24 v0 v1 v2 v3 H R = VcFn Try.prog (fun f => [9, 11, 12, 13, 15, 16, 17, 19, 21, 22].contains f) Try.f24 (.seq .nil (.loop [5] [7, 8, 9, 12, 13, 14, 15, 16, 17, 18, 19, 20, 10, 11] (.seq .nil (.seq (.join [20] [12, 13, 14, 15, 16, 17, 18, 19] .nil .nil) .nil)))) [v0, v1, v2, v3] H R) h)

/- undercroft/undercroftref02.Has -/
def sh15 (v0 v1 : Value) (H : Hp) (R : Value → Hp → Prop) : Prop :=
 Box 23 v0 H fun x1 H1 =>
 Join (n := 1) (fun s1 H2 => Any fun _ =>
  Ite s1.1
   (R (.bool false) H2)
   (Pu (binE (some (.int .i64)) .quo v1 (.int .i64 8)) fun x4 =>
   Pu (idxAddrE (some (some 1024, 1)) x1 x4) fun x5 =>
   Pu (loadE (some none) x5 H2) fun x6 =>
   Pu (convE (some (.int .u8)) (some (.int .i64)) x6) fun x7 =>
   LoopP (n := 2) (x7, (.int .i64 0), ()) H2 (fun K8 s7 H3 => Any fun _ =>
    Pu (binE (some (.int .i64)) .rem v1 (.int .i64 8)) fun x10 =>
    Pu (binE (some (.int .i64)) .lss s7.2.1 x10) fun x11 =>
    Ite x11
     (Pu (binE (some (.int .i64)) .quo s7.1 (.int .i64 2)) fun x12 =>
     Pu (binE (some (.int .i64)) .add s7.2.1 (.int .i64 1)) fun x13 =>
     K8 (x12, x13, ()) H3)
     (Pu (binE (some (.int .i64)) .rem s7.1 (.int .i64 2)) fun x14 =>
     Pu (binE (some (.int .i64)) .eql x14 (.int .i64 1)) fun x15 =>
     R x15 H3))))
 (fun K15 => Pu (binE (some (.int .i64)) .lss v1 (.int .i64 0)) fun x17 =>
 Ite x17
  (K15 ((.bool true), ()) H1)
  (Pu (binE (some (.int .i64)) .geq v1 (.int .i64 8192)) fun x18 =>
  K15 (x18, ()) H1))
set_option maxRecDepth 100000 in
theorem fn15 {v0 v1 : Value} {H : Hp} {R : Value → Hp → Prop} (h : sh15 v0 v1 H R) : Fc Try.prog 15 #[v0, v1] H R :=
  fn_of_vc (fun f => [9, 11, 12, 13, 15, 16, 17, 19, 21, 22].contains f) (.seq .nil (.seq (.join [12] [7, 8, 9, 10, 11] .nil .nil) (.seq .nil (.seq (.seq .nil (.loop [5, 6] [18, 19, 20, 21, 24, 25, 22, 23] .nil)) .nil)))) Try.func15 (args := [v0, v1]) (Eq.mp (by kernel_rfl : sh15 v0 v1 H R = VcFn Try.prog (fun f => [9, 11, 12, 13, 15, 16, 17, 19, 21, 22].contains f) Try.f15 (.seq .nil (.seq (.join [12] [7, 8, 9, 10, 11] .nil .nil) (.seq .nil (.seq (.seq .nil (.loop [5, 6] [18, 19, 20, 21, 24, 25, 22, 23] .nil)) .nil)))) [v0, v1] H R) h)

/- undercroft/undercroftref02.Set -/
def sh16 (v0 v1 v2 : Value) (H : Hp) (R : Value → Hp → Prop) : Prop :=
 Box 23 v0 H fun x1 H1 =>
 Pu (zeroE Try.prog 23) fun x2 => Box 23 x2 H1 fun x3 H2 =>
 Join (n := 1) (fun s3 H3 => Any fun _ =>
  Ite s3.1
   (Pu (loadE (some (some 1024)) x1 H3) fun x6 =>
   Pu (storeE (some 1024) x3 x6 H3) fun H4 =>
   Pu (loadE (some (some 1024)) x3 H4) fun x7 =>
   R x7 H4)
   (LoopP (n := 2) ((.int .u8 1), (.int .i64 0), ()) H3 (fun K8 s7 H5 => Any fun _ =>
    Pu (binE (some (.int .i64)) .rem v1 (.int .i64 8)) fun x10 =>
    Pu (binE (some (.int .i64)) .lss s7.2.1 x10) fun x11 =>
    Ite x11
     (Pu (binE (some (.int .u8)) .mul (.int .u8 2) s7.1) fun x12 =>
     Pu (binE (some (.int .i64)) .add s7.2.1 (.int .i64 1)) fun x13 =>
     K8 (x12, x13, ()) H5)
     (Join (n := 0) (fun s13 H6 => Any fun _ =>
      Pu (loadE (some (some 1024)) x1 H6) fun x15 =>
      Pu (storeE (some 1024) x3 x15 H6) fun H7 =>
      Pu (loadE (some (some 1024)) x3 H7) fun x16 =>
      R x16 H7)
     (fun K16 => Ite v2
      (Pu (binE (some (.int .i64)) .quo v1 (.int .i64 8)) fun x18 =>
      Pu (binE (some (.int .i64)) .quo v1 (.int .i64 8)) fun x19 =>
      Pu (idxAddrE (some (some 1024, 1)) x1 x19) fun x20 =>
      Pu (loadE (some none) x20 H5) fun x21 =>
      Pu (binE (some (.int .u8)) .add x21 s7.1) fun x22 =>
      Pu (idxAddrE (some (some 1024, 1)) x1 x18) fun x23 =>
      Pu (storeE (some 1) x23 x22 H5) fun H8 =>
      K16 (()) H8)
      (Pu (binE (some (.int .i64)) .quo v1 (.int .i64 8)) fun x24 =>
      Pu (binE (some (.int .i64)) .quo v1 (.int .i64 8)) fun x25 =>
      Pu (idxAddrE (some (some 1024, 1)) x1 x25) fun x26 =>
      Pu (loadE (some none) x26 H5) fun x27 =>
      Pu (binE (some (.int .u8)) .sub x27 s7.1) fun x28 =>
      Pu (idxAddrE (some (some 1024, 1)) x1 x24) fun x29 =>
      Pu (storeE (some 1) x29 x28 H5) fun H9 =>
      K16 (()) H9))))))
 (fun K29 => Pu (binE (some (.int .i64)) .lss v1 (.int .i64 0)) fun x31 =>
 Ite x31
  (K29 ((.bool true), ()) H2)
  (Pu (binE (some (.int .i64)) .geq v1 (.int .i64 8192)) fun x32 =>
  Ite x32
   (K29 ((.bool true), ()) H2)
   (Pu (loadE (some (some 1024)) x1 H2) fun x33 =>
   Fc Try.prog 15 #[x33, v1] H2 fun x34 H10 =>
   Pu (binE (some .bool) .eql x34 v2) fun x35 =>
   K29 (x35, ()) H10)))
set_option maxRecDepth 100000 in
theorem fn16 {v0 v1 v2 : Value} {H : Hp} {R : Value → Hp → Prop} (h : sh16 v0 v1 v2 H R) : Fc Try.prog 16 #[v0, v1, v2] H R :=
  fn_of_vc (fun f => [9, 11, 12, 13, 15, 16, 17, 19, 21, 22].contains f) (.seq .nil (.seq (.join [21] [9, 10, 11, 12, 13, 14, 15, 16, 17, 18, 19, 20] .nil .nil) (.seq .nil (.seq (.seq .nil (.loop [7, 8] [23, 24, 25, 26, 29, 30, 27, 28] .nil)) (.join [] [31, 32, 33, 34, 35, 36, 37, 38, 39, 40, 41, 42, 43, 44, 45, 46, 47, 48, 49] .nil .nil))))) Try.func16 (args := [v0, v1, v2]) (Eq.mp (by kernel_rfl : sh16 v0 v1 v2 H R = VcFn Try.prog (fun f => [9, 11, 12, 13, 15, 16, 17, 19, 21, 22].contains f) Try.f16 (.seq .nil (.seq (.join [21] [9, 10, 11, 12, 13, 14, 15, 16, 17, 18, 19, 20] .nil .nil) (.seq .nil (.seq (.seq .nil (.loop [7, 8] [23, 24, 25, 26, 29, 30, 27, 28] .nil)) (.join [] [31, 32, 33, 34, 35, 36, 37, 38, 39, 40, 41, 42, 43, 44, 45, 46, 47, 48, 49] .nil .nil))))) [v0, v1, v2] H R) h)

/- undercroft/undercroftref02.First -/
def sh17 (v0 v1 v2 : Value) (H : Hp) (R : Value → Hp → Prop) : Prop :=
 Box 23 v0 H fun x1 H1 =>
 LoopP (n := 1) ((.int .i64 0), ()) H1 (fun K2 s1 H2 => Any fun _ =>
  Pu (binE (some (.int .i64)) .lss s1.1 (.int .i64 8192)) fun x4 =>
  Ite x4
   (Pu (loadE (some (some 1024)) x1 H2) fun x5 =>
   Fc Try.prog 15 #[x5, s1.1] H2 fun x6 H3 =>
   Join (n := 1) (fun s6 H4 => Any fun _ =>
    Ite s6.1
     (R s1.1 H4)
     (Pu (binE (some (.int .i64)) .add s1.1 (.int .i64 1)) fun x9 =>
     K2 (x9, ()) H4))
   (fun K9 => Pu (unE .not x6) fun x11 =>
   Ite x11
    (Pu (binE (some (.int .i64)) .geq s1.1 v1) fun x12 =>
    Ite x12
     (Pu (binE (some (.int .i64)) .lss s1.1 v2) fun x13 =>
     K9 (x13, ()) H3)
     (K9 ((.bool false), ()) H3))
    (K9 ((.bool false), ()) H3)))
   (R (.int .i64 (-1)) H2))
set_option maxRecDepth 100000 in
theorem fn17 {v0 v1 v2 : Value} {H : Hp} {R : Value → Hp → Prop} (h : sh17 v0 v1 v2 H R) : Fc Try.prog 17 #[v0, v1, v2] H R :=
  fn_of_vc (fun f => [9, 11, 12, 13, 15, 16, 17, 19, 21, 22].contains f) (.seq .nil (.seq (.seq .nil (.loop [7] [9, 10, 13, 14, 15, 8, 16, 17, 18, 19, 20, 21, 22, 23, 24, 25, 26, 27, 28, 6, 11, 12] (.seq .nil (.seq (.seq .nil (.join [27] [16, 17, 18, 19, 20, 21, 22, 23, 24, 25, 26] .nil .nil)) .nil)))) .nil)) Try.func17 (args := [v0, v1, v2]) (Eq.mp (by kernel_rfl : sh17 v0 v1 v2 H R = VcFn Try.prog (fun f => [9, 11, 12, 13, 15, 16, 17, 19, 21, 22].contains f) Try.f17 (.seq .nil (.seq (.seq .nil (.loop [7] [9, 10, 13, 14, 15, 8, 16, 17, 18, 19, 20, 21, 22, 23, 24, 25, 26, 27, 28, 6, 11, 12] (.seq .nil (.seq (.seq .nil (.join [27] [16, 17, 18, 19, 20, 21, 22, 23, 24, 25, 26] .nil .nil)) .nil)))) .nil)) [v0, v1, v2] H R) h)

/- undercroft/undercroftkit.Pick -/
def sh19 (v0 v1 : Value) (H : Hp) (R : Value → Hp → Prop) : Prop :=
 Pu (binE (some (.int .i64)) .rem v0 v1) fun x1 =>
 Pu (binE (some (.int .i64)) .lss x1 (.int .i64 0)) fun x2 =>
 Ite x2
  (Pu (binE (some (.int .i64)) .add x1 v1) fun x3 =>
  R x3 H)
  (R x1 H)
set_option maxRecDepth 100000 in
theorem fn19 {v0 v1 : Value} {H : Hp} {R : Value → Hp → Prop} (h : sh19 v0 v1 H R) : Fc Try.prog 19 #[v0, v1] H R :=
  fn_of_vc (fun f => [9, 11, 12, 13, 15, 16, 17, 19, 21, 22].contains f) .nil Try.func19 (args := [v0, v1]) (Eq.mp (by kernel_rfl : sh19 v0 v1 H R = VcFn Try.prog (fun f => [9, 11, 12, 13, 15, 16, 17, 19, 21, 22].contains f) Try.f19 .nil [v0, v1] H R) h)

/- undercroft/undercroftref02.All -/
def sh14 (v0 v1 v2 : Value) (H : Hp) (R : Value → Hp → Prop) : Prop :=
 Box 23 v0 H fun x1 H1 =>
 LoopP (n := 2) ((.slice none 0 0), (.int .i64 0), ()) H1 (fun K2 s1 H2 => Any fun _ =>
  Pu (binE (some (.int .i64)) .lss s1.2.1 (.int .i64 8192)) fun x4 =>
  Ite x4
   (Pu (loadE (some (some 1024)) x1 H2) fun x5 =>
   Fc Try.prog 15 #[x5, s1.2.1] H2 fun x6 H3 =>
   Join (n := 1) (fun s6 H4 => Any fun _ =>
    Ite s6.1
     (Pu (elemI Try.prog 31) fun x9 => Pu (newSliceE (some x9) 1 [(0, s1.2.1)]) fun x10 => NewS x9.type 1 x10 H4 fun x11 H5 =>
     AppS (elemI Try.prog 31) s1.1 x11 H5 fun x12 H6 =>
     Pu (binE (some (.int .i64)) .add s1.2.1 (.int .i64 1)) fun x13 =>
     K2 (x12, x13, ()) H6)
     (Pu (binE (some (.int .i64)) .add s1.2.1 (.int .i64 1)) fun x14 =>
     K2 (s1.1, x14, ()) H4))
   (fun K14 => Ite x6
    (Pu (binE (some (.int .i64)) .geq s1.2.1 v1) fun x16 =>
    Ite x16
     (Pu (binE (some (.int .i64)) .lss s1.2.1 v2) fun x17 =>
     K14 (x17, ()) H3)
     (K14 ((.bool false), ()) H3))
    (K14 ((.bool false), ()) H3)))
   (R s1.1 H2))
set_option maxRecDepth 100000 in
theorem fn14 {v0 v1 v2 : Value} {H : Hp} {R : Value → Hp → Prop} (h : sh14 v0 v1 v2 H R) : Fc Try.prog 14 #[v0, v1, v2] H R :=
  fn_of_vc (fun f => [9, 11, 12, 13, 15, 16, 17, 19, 21, 22].contains f) (.seq .nil (.seq .nil (.seq (.seq .nil (.loop [7, 8] [10, 11, 14, 15, 16, 9, 17, 18, 19, 20, 21, 22, 23, 24, 25, 26, 27, 28, 29, 30, 31, 12, 13] (.seq .nil (.seq (.seq .nil (.join [27] [17, 18, 19, 20, 21, 22, 23, 24, 25, 26] .nil .nil)) .nil)))) .nil))) Try.func14 (args := [v0, v1, v2]) (Eq.mp (by kernel_rfl : sh14 v0 v1 v2 H R = VcFn Try.prog (fun f => [9, 11, 12, 13, 15, 16, 17, 19, 21, 22].contains f) Try.f14 (.seq .nil (.seq .nil (.seq (.seq .nil (.loop [7, 8] [10, 11, 14, 15, 16, 9, 17, 18, 19, 20, 21, 22, 23, 24, 25, 26, 27, 28, 29, 30, 31, 12, 13] (.seq .nil (.seq (.seq .nil (.join [27] [17, 18, 19, 20, 21, 22, 23, 24, 25, 26] .nil .nil)) .nil)))) .nil))) [v0, v1, v2] H R) h)

/- undercroft/undercroftlaw02.lives -/
def sh10 (H : Hp) (R : Value → Hp → Prop) : Prop :=
 Pu (zeroE Try.prog 23) fun x1 => Box 23 x1 H fun x2 H1 =>
 Pu (loadE (some (some 1024)) x2 H1) fun x3 =>
 Fc Try.prog 9 #[x3, (.int .i64 9), (.bool true)] H1 fun x4 H2 =>
 Pu (zeroE Try.prog 23) fun x5 => Box 23 x5 H2 fun x6 H3 =>
 Pu (storeE (some 1024) x6 x4 H3) fun H4 =>
 Pu (idxAddrE (some (some 1024, 1)) x6 (.int .i64 1)) fun x7 =>
 Pu (loadE (some none) x7 H4) fun x8 =>
 Pu (binE (some (.int .u8)) .eql x8 (.int .u8 2)) fun x9 =>
 Ite x9
  (Pu (loadE (some (some 1024)) x6 H4) fun x10 =>
  Fc Try.prog 11 #[x10, (.int .i64 9)] H4 fun x11 H5 =>
  Ite x11
   (Pu (loadE (some (some 1024)) x6 H5) fun x12 =>
   Fc Try.prog 11 #[x12, (.int .i64 8)] H5 fun x13 H6 =>
   Pu (unE .not x13) fun x14 =>
   Ite x14
    (Pu (loadE (some (some 1024)) x6 H6) fun x15 =>
    Fc Try.prog 12 #[x15, (.int .i64 9), (.int .i64 8192)] H6 fun x16 H7 =>
    Pu (binE (some (.int .i64)) .eql x16 (.int .i64 10)) fun x17 =>
    Ite x17
     (Pu (loadE (some (some 1024)) x6 H7) fun x18 =>
     Fc Try.prog 13 #[x18, (.int .i64 0), (.int .i64 8192)] H7 fun x19 H8 =>
     Pu (binE (some (.int .i64)) .eql x19 (.int .i64 1)) fun x20 =>
     R x20 H8)
     (R (.bool false) H7))
    (R (.bool false) H6))
   (R (.bool false) H5))
  (R (.bool false) H4)
set_option maxRecDepth 100000 in
theorem fn10 {H : Hp} {R : Value → Hp → Prop} (h : sh10 H R) : Fc Try.prog 10 #[] H R :=
  fn_of_vc (fun f => [9, 11, 12, 13, 15, 16, 17, 19, 21, 22].contains f) .nil Try.func10 (args := []) (Eq.mp (by kernel_rfl : sh10  H R = VcFn Try.prog (fun f => [9, 11, 12, 13, 15, 16, 17, 19, 21, 22].contains f) Try.f10 .nil [] H R) h)

/- undercroft/undercroftlaw02.BitsSet -/
def sh3 (v0 v1 : Value) (H : Hp) (R : Value → Hp → Prop) : Prop :=
 Box 23 v0 H fun x1 H1 =>
 Box 25 v1 H1 fun x2 H2 =>
 Pu (loadE (some (some 1024)) x1 H2) fun x3 =>
 Pu (addrE (some 0) x2) fun x4 =>
 Pu (loadE (some none) x4 H2) fun x5 =>
 Pu (addrE (some 2) x2) fun x6 =>
 Pu (loadE (some none) x6 H2) fun x7 =>
 Fc Try.prog 9 #[x3, x5, x7] H2 fun x8 H3 =>
 Pu (zeroE Try.prog 23) fun x9 => Box 23 x9 H3 fun x10 H4 =>
 Pu (storeE (some 1024) x10 x8 H4) fun H5 =>
 Fc Try.prog 10 #[] H5 fun x11 H6 =>
 Pu (unE .not x11) fun x12 =>
 Ite x12
  (R (.bool false) H6)
  (Join (n := 1) (fun s12 H7 => Any fun _ =>
   Ite s12.1
    (Pu (loadE (some (some 1024)) x10 H7) fun x15 =>
    Pu (addrE (some 1) x2) fun x16 =>
    Pu (loadE (some none) x16 H7) fun x17 =>
    ∃ x18, QC true Try.prog 11 #[x15, x17] H7 x18 ∧ (
    Pu (addrE (some 2) x2) fun x19 =>
    Pu (loadE (some none) x19 H7) fun x20 =>
    Pu (binE (some .bool) .eql x18 x20) fun x21 =>
    ForX true H7 fun H8 =>
    R x21 H8))
    (Pu (loadE (some (some 1024)) x10 H7) fun x22 =>
    Pu (addrE (some 1) x2) fun x23 =>
    Pu (loadE (some none) x23 H7) fun x24 =>
    ∃ x25, QC true Try.prog 11 #[x22, x24] H7 x25 ∧ (
    Pu (loadE (some (some 1024)) x1 H7) fun x26 =>
    Pu (addrE (some 1) x2) fun x27 =>
    Pu (loadE (some none) x27 H7) fun x28 =>
    ∃ x29, QC true Try.prog 11 #[x26, x28] H7 x29 ∧ (
    Pu (binE (some .bool) .eql x25 x29) fun x30 =>
    ForX true H7 fun H9 =>
    R x30 H9))))
  (fun K30 => Pu (addrE (some 0) x2) fun x32 =>
  Pu (loadE (some none) x32 H6) fun x33 =>
  Pu (addrE (some 1) x2) fun x34 =>
  Pu (loadE (some none) x34 H6) fun x35 =>
  Pu (binE (some (.int .i64)) .eql x33 x35) fun x36 =>
  Ite x36
   (Pu (addrE (some 0) x2) fun x37 =>
   Pu (loadE (some none) x37 H6) fun x38 =>
   Pu (binE (some (.int .i64)) .geq x38 (.int .i64 0)) fun x39 =>
   Ite x39
    (Pu (addrE (some 0) x2) fun x40 =>
    Pu (loadE (some none) x40 H6) fun x41 =>
    Pu (binE (some (.int .i64)) .lss x41 (.int .i64 8192)) fun x42 =>
    K30 (x42, ()) H6)
    (K30 ((.bool false), ()) H6))
   (K30 ((.bool false), ()) H6)))
set_option maxRecDepth 100000 in
theorem fn3 {v0 v1 : Value} {H : Hp} {R : Value → Hp → Prop} (h : sh3 v0 v1 H R) : Fc Try.prog 3 #[v0, v1] H R :=
  fn_of_vc (fun f => [9, 11, 12, 13, 15, 16, 17, 19, 21, 22].contains f) (.seq .nil (.seq .nil (.seq .nil (.seq (.join [28] [14, 15, 16, 17, 18, 19, 20, 21, 22, 23, 24, 25, 26, 27] .nil .nil) .nil)))) Try.func3 (args := [v0, v1]) (Eq.mp (by kernel_rfl : sh3 v0 v1 H R = VcFn Try.prog (fun f => [9, 11, 12, 13, 15, 16, 17, 19, 21, 22].contains f) Try.f3 (.seq .nil (.seq .nil (.seq .nil (.seq (.join [28] [14, 15, 16, 17, 18, 19, 20, 21, 22, 23, 24, 25, 26, 27] .nil .nil) .nil)))) [v0, v1] H R) h)

/- undercroft/undercroftlaw02.BitsFirst -/
def sh4 (v0 v1 : Value) (H : Hp) (R : Value → Hp → Prop) : Prop :=
 Box 23 v0 H fun x1 H1 =>
 Box 25 v1 H1 fun x2 H2 =>
 Fc Try.prog 10 #[] H2 fun x3 H3 =>
 Pu (unE .not x3) fun x4 =>
 Ite x4
  (R (.bool false) H3)
  (Pu (loadE (some (some 1024)) x1 H3) fun x5 =>
  Pu (addrE (some 3) x2) fun x6 =>
  Pu (loadE (some none) x6 H3) fun x7 =>
  Pu (addrE (some 5) x2) fun x8 =>
  Pu (loadE (some none) x8 H3) fun x9 =>
  Fc Try.prog 12 #[x5, x7, x9] H3 fun x10 H4 =>
  Join (n := 1) (fun s10 H5 => Any fun _ =>
   Ite s10.1
    (R (.bool false) H5)
    (LoopP (n := 1) ((.int .i64 0), ()) H5 (fun K13 s12 H6 => Any fun _ =>
     Pu (binE (some (.int .i64)) .lss s12.1 (.int .i64 8192)) fun x15 =>
     Ite x15
      (Join (n := 1) (fun s15 H7 => Any fun _ =>
       Ite s15.1
        (R (.bool false) H7)
        (Pu (binE (some (.int .i64)) .add s12.1 (.int .i64 1)) fun x18 =>
        K13 (x18, ()) H7))
      (fun K18 => Pu (addrE (some 3) x2) fun x20 =>
      Pu (loadE (some none) x20 H6) fun x21 =>
      Pu (binE (some (.int .i64)) .geq s12.1 x21) fun x22 =>
      Ite x22
       (Pu (addrE (some 5) x2) fun x23 =>
       Pu (loadE (some none) x23 H6) fun x24 =>
       Pu (binE (some (.int .i64)) .lss s12.1 x24) fun x25 =>
       Ite x25
        (Pu (binE (some (.int .i64)) .lss x10 (.int .i64 0)) fun x26 =>
        Ite x26
         (Pu (loadE (some (some 1024)) x1 H6) fun x27 =>
         Fc Try.prog 11 #[x27, s12.1] H6 fun x28 H8 =>
         Pu (unE .not x28) fun x29 =>
         K18 (x29, ()) H8)
         (Pu (binE (some (.int .i64)) .lss s12.1 x10) fun x30 =>
         Ite x30
          (Pu (loadE (some (some 1024)) x1 H6) fun x31 =>
          Fc Try.prog 11 #[x31, s12.1] H6 fun x32 H9 =>
          Pu (unE .not x32) fun x33 =>
          K18 (x33, ()) H9)
          (K18 ((.bool false), ()) H6)))
        (K18 ((.bool false), ()) H6))
       (K18 ((.bool false), ()) H6)))
      (R (.bool true) H6))))
  (fun K33 => Pu (binE (some (.int .i64)) .geq x10 (.int .i64 0)) fun x35 =>
  Ite x35
   (Pu (addrE (some 3) x2) fun x36 =>
   Pu (loadE (some none) x36 H4) fun x37 =>
   Pu (binE (some (.int .i64)) .lss x10 x37) fun x38 =>
   Ite x38
    (K33 ((.bool true), ()) H4)
    (Pu (addrE (some 5) x2) fun x39 =>
    Pu (loadE (some none) x39 H4) fun x40 =>
    Pu (binE (some (.int .i64)) .geq x10 x40) fun x41 =>
    Ite x41
     (K33 ((.bool true), ()) H4)
     (Pu (binE (some (.int .i64)) .gtr x10 (.int .i64 8191)) fun x42 =>
     Ite x42
      (K33 ((.bool true), ()) H4)
      (Pu (loadE (some (some 1024)) x1 H4) fun x43 =>
      Fc Try.prog 11 #[x43, x10] H4 fun x44 H10 =>
      Ite x44
       (K33 ((.bool true), ()) H10)
       (Pu (binE (some (.int .i64)) .lss x10 (.int .i64 (-1))) fun x45 =>
       K33 (x45, ()) H10)))))
   (Pu (binE (some (.int .i64)) .lss x10 (.int .i64 (-1))) fun x46 =>
   K33 (x46, ()) H4)))
set_option maxRecDepth 100000 in
theorem fn4 {v0 v1 : Value} {H : Hp} {R : Value → Hp → Prop} (h : sh4 v0 v1 H R) : Fc Try.prog 4 #[v0, v1] H R :=
  fn_of_vc (fun f => [9, 11, 12, 13, 15, 16, 17, 19, 21, 22].contains f) (.seq .nil (.seq .nil (.seq .nil (.seq (.join [41] [15, 16, 17, 18, 19, 20, 21, 22, 23, 24, 25, 26, 27, 28, 29, 30, 31, 32, 33, 34, 35, 36, 37, 38, 39, 40] .nil .nil) (.seq (.seq .nil (.loop [6] [42, 43, 46, 47, 48, 49, 50, 51, 52, 53, 54, 55, 56, 57, 58, 59, 60, 61, 62, 63, 64, 65, 66, 67, 68, 69, 70, 4, 44, 45] (.seq .nil (.seq (.join [70] [46, 47, 48, 49, 50, 51, 52, 53, 54, 55, 56, 57, 58, 59, 60, 61, 62, 63, 64, 65, 66, 67, 68, 69] .nil .nil) .nil)))) .nil))))) Try.func4 (args := [v0, v1]) (Eq.mp (by kernel_rfl : sh4 v0 v1 H R = VcFn Try.prog (fun f => [9, 11, 12, 13, 15, 16, 17, 19, 21, 22].contains f) Try.f4 (.seq .nil (.seq .nil (.seq .nil (.seq (.join [41] [15, 16, 17, 18, 19, 20, 21, 22, 23, 24, 25, 26, 27, 28, 29, 30, 31, 32, 33, 34, 35, 36, 37, 38, 39, 40] .nil .nil) (.seq (.seq .nil (.loop [6] [42, 43, 46, 47, 48, 49, 50, 51, 52, 53, 54, 55, 56, 57, 58, 59, 60, 61, 62, 63, 64, 65, 66, 67, 68, 69, 70, 4, 44, 45] (.seq .nil (.seq (.join [70] [46, 47, 48, 49, 50, 51, 52, 53, 54, 55, 56, 57, 58, 59, 60, 61, 62, 63, 64, 65, 66, 67, 68, 69] .nil .nil) .nil)))) .nil))))) [v0, v1] H R) h)

/- undercroft/undercroftlaw02.BitsTaken -/
def sh5 (v0 v1 : Value) (H : Hp) (R : Value → Hp → Prop) : Prop :=
 Box 23 v0 H fun x1 H1 =>
 Box 25 v1 H1 fun x2 H2 =>
 Fc Try.prog 10 #[] H2 fun x3 H3 =>
 Pu (unE .not x3) fun x4 =>
 Ite x4
  (R (.bool false) H3)
  (Pu (addrE (some 3) x2) fun x5 =>
  Pu (loadE (some none) x5 H3) fun x6 =>
  Pu (minE x6 (.int .i64 8192)) fun x7 =>
  Pu (maxE (.int .i64 0) x7) fun x8 =>
  Pu (addrE (some 5) x2) fun x9 =>
  Pu (loadE (some none) x9 H3) fun x10 =>
  Pu (minE x10 (.int .i64 8192)) fun x11 =>
  Pu (maxE x8 x11) fun x12 =>
  Pu (binE (some (.int .i64)) .add x8 (.int .i64 200)) fun x13 =>
  Pu (minE x12 x13) fun x14 =>
  Pu (loadE (some (some 1024)) x1 H3) fun x15 =>
  Pu (zeroE Try.prog 23) fun x16 => Box 23 x16 H3 fun x17 H4 =>
  Pu (storeE (some 1024) x17 x15 H4) fun H5 =>
  Pu (binE (some (.int .i64)) .sub x14 x8) fun x18 =>
  Pu (loadE (some (some 1024)) x1 H5) fun x19 =>
  Fc Try.prog 13 #[x19, x8, x14] H5 fun x20 H6 =>
  Pu (binE (some (.int .i64)) .sub x18 x20) fun x21 =>
  Pu (binE (some (.int .i64)) .sub x8 (.int .i64 1)) fun x22 =>
  LoopP (n := 3) ((.slice none 0 0), x22, (.int .i64 0), ()) H6 (fun K23 s22 H7 => Any fun _ =>
   Pu (binE (some (.int .i64)) .lss s22.2.2.1 x21) fun x25 =>
   Ite x25
    (Pu (loadE (some (some 1024)) x1 H7) fun x26 =>
    Fc Try.prog 12 #[x26, x8, x14] H7 fun x27 H8 =>
    Join (n := 1) (fun s27 H9 => Any fun _ =>
     Ite s27.1
      (R (.bool false) H9)
      (Pu (loadE (some (some 1024)) x1 H9) fun x30 =>
      Fc Try.prog 9 #[x30, x27, (.bool true)] H9 fun x31 H10 =>
      Pu (storeE (some 1024) x1 x31 H10) fun H11 =>
      Pu (elemI Try.prog 31) fun x32 => Pu (newSliceE (some x32) 1 [(0, x27)]) fun x33 => NewS x32.type 1 x33 H11 fun x34 H12 =>
      AppS (elemI Try.prog 31) s22.1 x34 H12 fun x35 H13 =>
      Pu (binE (some (.int .i64)) .add s22.2.2.1 (.int .i64 1)) fun x36 =>
      K23 (x35, x27, x36, ()) H13))
    (fun K36 => Pu (binE (some (.int .i64)) .leq x27 s22.2.1) fun x38 =>
    Ite x38
     (K36 ((.bool true), ()) H8)
     (Pu (binE (some (.int .i64)) .geq x27 x14) fun x39 =>
     K36 (x39, ()) H8)))
    (Join (n := 1) (fun s39 H14 => Any fun _ =>
     Ite s39.1
      (R (.bool false) H14)
      (LoopP (n := 1) ((.int .i64 0), ()) H14 (fun K42 s41 H15 => Any fun _ =>
       Pu (lenE Try.prog 31 s22.1) fun x44 =>
       Pu (binE (some (.int .i64)) .lss s41.1 x44) fun x45 =>
       Ite x45
        (Pu (loadE (some (some 1024)) x1 H15) fun x46 =>
        Pu (idxAddrE (some (none, 1)) s22.1 s41.1) fun x47 =>
        Pu (loadE (some none) x47 H15) fun x48 =>
        ∃ x49, QC true Try.prog 9 #[x46, x48, (.bool false)] H15 x49 ∧ (
        ForX true H15 fun H16 =>
        Pu (storeE (some 1024) x1 x49 H16) fun H17 =>
        ForX true H17 fun H18 =>
        Pu (binE (some (.int .i64)) .add s41.1 (.int .i64 1)) fun x50 =>
        K42 (x50, ()) H18))
        (Pu (loadE (some (some 1024)) x1 H15) fun x51 =>
        Pu (loadE (some (some 1024)) x17 H15) fun x52 =>
        Pu (eqXE Try.prog 23 false .eql x51 x52 H15) fun x53 =>
        R x53 H15))))
    (fun K53 => Pu (loadE (some (some 1024)) x1 H7) fun x55 =>
    Fc Try.prog 12 #[x55, x8, x14] H7 fun x56 H19 =>
    Pu (binE (some (.int .i64)) .neq x56 (.int .i64 (-1))) fun x57 =>
    Ite x57
     (K53 ((.bool true), ()) H19)
     (Pu (loadE (some (some 1024)) x1 H19) fun x58 =>
     Fc Try.prog 13 #[x58, x8, x14] H19 fun x59 H20 =>
     Pu (binE (some (.int .i64)) .sub x14 x8) fun x60 =>
     Pu (binE (some (.int .i64)) .neq x59 x60) fun x61 =>
     K53 (x61, ()) H20)))))
set_option maxRecDepth 100000 in
theorem fn5 {v0 v1 : Value} {H : Hp} {R : Value → Hp → Prop} (h : sh5 v0 v1 H R) : Fc Try.prog 5 #[v0, v1] H R :=
  fn_of_vc (fun f => [9, 11, 12, 13, 15, 16, 17, 19, 21, 22].contains f) (.seq .nil (.seq .nil (.seq .nil (.seq .nil (.seq .nil (.seq .nil (.seq .nil (.seq .nil (.seq (.seq .nil (.loop [10, 9, 11] [39, 40, 41, 44, 45, 46, 47, 12, 48, 49, 50, 51, 52, 53, 54, 55, 4, 56, 57, 58, 59, 60, 61, 62, 63, 42, 43] (.seq .nil (.seq (.seq .nil (.seq (.join [55] [48, 49, 50, 51, 52, 53, 54] .nil .nil) .nil)) .nil)))) (.seq (.join [78] [64, 65, 66, 67, 68, 69, 70, 71, 72, 73, 74, 75, 76, 77] .nil .nil) (.seq (.seq .nil (.loop [13] [79, 80, 81, 82, 85, 86, 87, 88, 89, 90, 83, 84] .nil)) .nil))))))))))) Try.func5 (args := [v0, v1]) (Eq.mp (by kernel_rfl : sh5 v0 v1 H R = VcFn Try.prog (fun f => [9, 11, 12, 13, 15, 16, 17, 19, 21, 22].contains f) Try.f5 (.seq .nil (.seq .nil (.seq .nil (.seq .nil (.seq .nil (.seq .nil (.seq .nil (.seq .nil (.seq (.seq .nil (.loop [10, 9, 11] [39, 40, 41, 44, 45, 46, 47, 12, 48, 49, 50, 51, 52, 53, 54, 55, 4, 56, 57, 58, 59, 60, 61, 62, 63, 42, 43] (.seq .nil (.seq (.seq .nil (.seq (.join [55] [48, 49, 50, 51, 52, 53, 54] .nil .nil) .nil)) .nil)))) (.seq (.join [78] [64, 65, 66, 67, 68, 69, 70, 71, 72, 73, 74, 75, 76, 77] .nil .nil) (.seq (.seq .nil (.loop [13] [79, 80, 81, 82, 85, 86, 87, 88, 89, 90, 83, 84] .nil)) .nil))))))))))) [v0, v1] H R) h)

/- undercroft/undercroftlaw02.BitsCalls -/
def sh6 (v0 v1 : Value) (H : Hp) (R : Value → Hp → Prop) : Prop :=
 Box 23 v0 H fun x1 H1 =>
 Box 25 v1 H1 fun x2 H2 =>
 Pu (loadE (some (some 1024)) x1 H2) fun x3 =>
 Pu (addrE (some 3) x2) fun x4 =>
 Pu (loadE (some none) x4 H2) fun x5 =>
 Pu (addrE (some 5) x2) fun x6 =>
 Pu (loadE (some none) x6 H2) fun x7 =>
 Fc Try.prog 14 #[x3, x5, x7] H2 fun x8 H3 =>
 Join (n := 1) (fun s8 H4 => Any fun _ =>
  Join (n := 1) (fun s10 H5 => Any fun _ =>
   Ite s8.1
    (Ite s10.1
     (Pu (loadE (some (some 1024)) x1 H5) fun x13 =>
     Pu (addrE (some 3) x2) fun x14 =>
     Pu (loadE (some none) x14 H5) fun x15 =>
     Pu (addrE (some 5) x2) fun x16 =>
     Pu (loadE (some none) x16 H5) fun x17 =>
     Pu (addrE (some 1) x2) fun x18 =>
     Pu (loadE (some none) x18 H5) fun x19 =>
     ∃ x20, QC true Try.prog 19 #[x19, (.int .i64 20)] H5 x20 ∧ (
     ForX true H5 fun H6 =>
     Fc Try.prog 18 #[x13, x15, x17, x20, x8] H6 fun x21 H7 =>
     ForX true H7 fun H8 =>
     R x21 H8))
     (ForX true H5 fun H9 =>
     R (.bool false) H9))
    (ForX true H5 fun H10 =>
    R (.bool false) H10))
  (fun K21 => Pu (loadE (some (some 1024)) x1 H4) fun x23 =>
  Pu (addrE (some 3) x2) fun x24 =>
  Pu (loadE (some none) x24 H4) fun x25 =>
  Pu (addrE (some 5) x2) fun x26 =>
  Pu (loadE (some none) x26 H4) fun x27 =>
  ∃ x28, QC true Try.prog 12 #[x23, x25, x27] H4 x28 ∧ (
  Pu (loadE (some (some 1024)) x1 H4) fun x29 =>
  Pu (addrE (some 3) x2) fun x30 =>
  Pu (loadE (some none) x30 H4) fun x31 =>
  Pu (addrE (some 5) x2) fun x32 =>
  Pu (loadE (some none) x32 H4) fun x33 =>
  ∃ x34, QC true Try.prog 17 #[x29, x31, x33] H4 x34 ∧ (
  Pu (binE (some (.int .i64)) .eql x28 x34) fun x35 =>
  Ite x35
   (Pu (loadE (some (some 1024)) x1 H4) fun x36 =>
   Pu (addrE (some 3) x2) fun x37 =>
   Pu (loadE (some none) x37 H4) fun x38 =>
   Pu (addrE (some 5) x2) fun x39 =>
   Pu (loadE (some none) x39 H4) fun x40 =>
   ∃ x41, QC true Try.prog 13 #[x36, x38, x40] H4 x41 ∧ (
   Pu (lenE Try.prog 31 x8) fun x42 =>
   Pu (binE (some (.int .i64)) .eql x41 x42) fun x43 =>
   ForX true H4 fun H11 =>
   K21 (x43, ()) H11))
   (ForX true H4 fun H12 =>
   K21 ((.bool false), ()) H12)))))
 (fun K43 => Pu (loadE (some (some 1024)) x1 H3) fun x45 =>
 Pu (addrE (some 0) x2) fun x46 =>
 Pu (loadE (some none) x46 H3) fun x47 =>
 ∃ x48, QC true Try.prog 11 #[x45, x47] H3 x48 ∧ (
 Pu (loadE (some (some 1024)) x1 H3) fun x49 =>
 Pu (addrE (some 0) x2) fun x50 =>
 Pu (loadE (some none) x50 H3) fun x51 =>
 ∃ x52, QC true Try.prog 15 #[x49, x51] H3 x52 ∧ (
 Pu (binE (some .bool) .eql x48 x52) fun x53 =>
 Ite x53
  (Pu (loadE (some (some 1024)) x1 H3) fun x54 =>
  Pu (addrE (some 0) x2) fun x55 =>
  Pu (loadE (some none) x55 H3) fun x56 =>
  Pu (addrE (some 2) x2) fun x57 =>
  Pu (loadE (some none) x57 H3) fun x58 =>
  ∃ x59, QC true Try.prog 9 #[x54, x56, x58] H3 x59 ∧ (
  Pu (loadE (some (some 1024)) x1 H3) fun x60 =>
  Pu (addrE (some 0) x2) fun x61 =>
  Pu (loadE (some none) x61 H3) fun x62 =>
  Pu (addrE (some 2) x2) fun x63 =>
  Pu (loadE (some none) x63 H3) fun x64 =>
  ∃ x65, QC true Try.prog 16 #[x60, x62, x64] H3 x65 ∧ (
  Pu (eqXE Try.prog 23 false .eql x59 x65 H3) fun x66 =>
  ForX true H3 fun H13 =>
  K43 (x66, ()) H13)))
  (ForX true H3 fun H14 =>
  K43 ((.bool false), ()) H14))))
set_option maxRecDepth 100000 in
theorem fn6 {v0 v1 : Value} {H : Hp} {R : Value → Hp → Prop} (h : sh6 v0 v1 H R) : Fc Try.prog 6 #[v0, v1] H R :=
  fn_of_vc (fun f => [9, 11, 12, 13, 15, 16, 17, 19, 21, 22].contains f) (.seq .nil (.seq .nil (.join [6] [14, 15, 16, 17, 18, 19, 20, 21, 22, 23, 24, 25, 26, 27, 28, 29, 30, 31, 32, 33, 34, 35, 36, 37] .nil (.join [7] [38, 39, 40, 41, 42, 43, 44, 45, 46, 47, 48, 49, 50, 51, 52, 53, 54, 55, 56, 57, 58, 59, 60, 61] .nil .nil)))) Try.func6 (args := [v0, v1]) (Eq.mp (by kernel_rfl : sh6 v0 v1 H R = VcFn Try.prog (fun f => [9, 11, 12, 13, 15, 16, 17, 19, 21, 22].contains f) Try.f6 (.seq .nil (.seq .nil (.join [6] [14, 15, 16, 17, 18, 19, 20, 21, 22, 23, 24, 25, 26, 27, 28, 29, 30, 31, 32, 33, 34, 35, 36, 37] .nil (.join [7] [38, 39, 40, 41, 42, 43, 44, 45, 46, 47, 48, 49, 50, 51, 52, 53, 54, 55, 56, 57, 58, 59, 60, 61] .nil .nil)))) [v0, v1] H R) h)

/- undercroft/undercroftlaw02.walk -/
def sh20 (v0 v1 v2 v3 : Value) (H : Hp) (R : Value → Hp → Prop) : Prop :=
 Box 23 v0 H fun x1 H1 =>
 Box 3 v3 H1 fun x2 H2 =>
 Pu (loadE (some (some 1024)) x1 H2) fun x3 =>
 Fc Try.prog 23 #[x3, v1, v2] H2 fun x4 H3 =>
 Pu (binE (Program.underlying Try.prog 41) .eql x4 .nilFunc) fun x5 =>
 Ite x5
  (R (.tuple #[(.slice none 0 0), (.bool false)]) H3)
  (Pu (zeroE Try.prog 31) fun x6 => Box 31 x6 H3 fun x7 H4 =>
  RangeF Try.prog x4 1 H4 (fun s7 H5 B8 K9 =>
   B8 H5 fun H6 =>
   Pu (loadE (some none) x7 H6) fun x11 =>
   Pu (lenE Try.prog 31 x11) fun x12 =>
   Pu (loadE (some none) x2 H6) fun x13 =>
   Pu (binE (some (.int .i64)) .eql x12 x13) fun x14 =>
   Ite x14
    (K9 (some (some 0)) H6)
    (Pu (loadE (some none) x7 H6) fun x15 =>
    Pu (elemI Try.prog 31) fun x16 => Pu (newSliceE (some x16) 1 [(0, s7.1)]) fun x17 => NewS x16.type 1 x17 H6 fun x18 H7 =>
    AppS (elemI Try.prog 31) x15 x18 H7 fun x19 H8 =>
    Pu (storeE (some 1) x7 x19 H8) fun H9 =>
    K9 none H9))
  (fun j19 D20 H10 => onJ j19
   (Pu (loadE (some none) x7 H10) fun x23 =>
   TakeD D20 H10 fun H11 =>
   R (.tuple #[x23, (.bool true)]) H11)
   (TakeD D20 H10 fun H12 =>
   R (.tuple #[(.slice none 0 0), (.bool false)]) H12)
   (fun id21 => isX id21 0 (Pu (loadE (some none) x7 H10) fun x24 =>
   TakeD D20 H10 fun H13 =>
   R (.tuple #[x24, (.bool true)]) H13) (False))))
set_option maxRecDepth 100000 in
theorem fn20 {v0 v1 v2 v3 : Value} {H : Hp} {R : Value → Hp → Prop} (h : sh20 v0 v1 v2 v3 H R) : Fc Try.prog 20 #[v0, v1, v2, v3] H R :=
  fn_of_vc (fun f => [9, 11, 12, 13, 15, 16, 17, 19, 21, 22].contains f) (.seq .nil (.seq .nil (.seq .nil (.seq .nil (.seq (.seq .nil (.seq .nil .nil)) .nil))))) Try.func20 (args := [v0, v1, v2, v3]) (Eq.mp (by kernel_rfl : sh20 v0 v1 v2 v3 H R = VcFn Try.prog (fun f => [9, 11, 12, 13, 15, 16, 17, 19, 21, 22].contains f) Try.f20 (.seq .nil (.seq .nil (.seq .nil (.seq .nil (.seq (.seq .nil (.seq .nil .nil)) .nil))))) [v0, v1, v2, v3] H R) h)

/- undercroft/undercroftlaw02.again -/
def sh18 (v0 v1 v2 v3 v4 : Value) (H : Hp) (R : Value → Hp → Prop) : Prop :=
 Box 23 v0 H fun x1 H1 =>
 Box 3 v3 H1 fun x2 H2 =>
 Box 31 v4 H2 fun x3 H3 =>
 Pu (zeroE Try.prog 4) fun x4 => Box 4 x4 H3 fun x5 H4 =>
 Pu (loadE (some (some 1024)) x1 H4) fun x6 =>
 Fc Try.prog 23 #[x6, v1, v2] H4 fun x7 H5 =>
 Pu (binE (Program.underlying Try.prog 41) .eql x7 .nilFunc) fun x8 =>
 Ite x8
  (Pu (storeE (some 1) x5 (.bool false) H5) fun H6 =>
  Pu (loadE (some none) x5 H6) fun x9 =>
  R x9 H6)
  (Pu (zeroE Try.prog 3) fun x10 => Box 3 x10 H5 fun x11 H7 =>
  Pu (storeE (some 1) x11 (.int .i64 0) H7) fun H8 =>
  RangeF Try.prog x7 1 H8 (fun s11 H9 B12 K13 =>
   B12 H9 fun H10 =>
   Pu (loadE (some none) x11 H10) fun x15 =>
   Pu (loadE (some none) x2 H10) fun x16 =>
   Pu (binE (some (.int .i64)) .eql x15 x16) fun x17 =>
   Ite x17
    (K13 (some (some 0)) H10)
    (Join (n := 1) (fun s17 H11 => Any fun _ =>
     Ite s17.1
      (Pu (storeE (some 1) x5 (.bool false) H11) fun H12 =>
      K13 (some none) H12)
      (Pu (loadE (some none) x11 H11) fun x20 =>
      Pu (binE (some (.int .i64)) .add x20 (.int .i64 1)) fun x21 =>
      Pu (storeE (some 1) x11 x21 H11) fun H13 =>
      K13 none H13))
    (fun K21 => Pu (loadE (some none) x11 H10) fun x23 =>
    Pu (loadE (some none) x3 H10) fun x24 =>
    Pu (lenE Try.prog 31 x24) fun x25 =>
    Pu (binE (some (.int .i64)) .geq x23 x25) fun x26 =>
    Ite x26
     (K21 ((.bool true), ()) H10)
     (Pu (loadE (some none) x3 H10) fun x27 =>
     Pu (loadE (some none) x11 H10) fun x28 =>
     Pu (idxAddrE (some (none, 1)) x27 x28) fun x29 =>
     Pu (loadE (some none) x29 H10) fun x30 =>
     Pu (binE (some (.int .i64)) .neq s11.1 x30) fun x31 =>
     K21 (x31, ()) H10))))
  (fun j31 D32 H14 => onJ j31
   (Pu (storeE (some 1) x11 (.int .i64 0) H14) fun H15 =>
   RangeF Try.prog x7 1 H15 (fun s34 H16 B35 K36 =>
    B35 H16 fun H17 =>
    Join (n := 1) (fun s37 H18 => Any fun _ =>
     Ite s37.1
      (Pu (storeE (some 1) x5 (.bool false) H18) fun H19 =>
      K36 (some none) H19)
      (Pu (loadE (some none) x11 H18) fun x40 =>
      Pu (binE (some (.int .i64)) .add x40 (.int .i64 1)) fun x41 =>
      Pu (storeE (some 1) x11 x41 H18) fun H20 =>
      K36 none H20))
    (fun K41 => Pu (loadE (some none) x11 H17) fun x43 =>
    Pu (loadE (some none) x3 H17) fun x44 =>
    Pu (lenE Try.prog 31 x44) fun x45 =>
    Pu (binE (some (.int .i64)) .geq x43 x45) fun x46 =>
    Ite x46
     (K41 ((.bool true), ()) H17)
     (Pu (loadE (some none) x3 H17) fun x47 =>
     Pu (loadE (some none) x11 H17) fun x48 =>
     Pu (idxAddrE (some (none, 1)) x47 x48) fun x49 =>
     Pu (loadE (some none) x49 H17) fun x50 =>
     Pu (binE (some (.int .i64)) .neq s34.1 x50) fun x51 =>
     K41 (x51, ()) H17)))
   (fun j51 D52 H21 => onJ j51
    (Pu (loadE (some none) x11 H21) fun x55 =>
    Pu (loadE (some none) x3 H21) fun x56 =>
    Pu (lenE Try.prog 31 x56) fun x57 =>
    Pu (binE (some (.int .i64)) .eql x55 x57) fun x58 =>
    Pu (storeE (some 1) x5 x58 H21) fun H22 =>
    TakeD D52 H22 fun H23 =>
    TakeD D32 H23 fun H24 =>
    Pu (loadE (some none) x5 H24) fun x59 =>
    R x59 H24)
    (TakeD D52 H21 fun H25 =>
    TakeD D32 H25 fun H26 =>
    Pu (loadE (some none) x5 H26) fun x60 =>
    R x60 H26)
    (fun id53 => isX id53 2 (Pu (loadE (some none) x11 H21) fun x61 =>
    Pu (loadE (some none) x3 H21) fun x62 =>
    Pu (lenE Try.prog 31 x62) fun x63 =>
    Pu (binE (some (.int .i64)) .eql x61 x63) fun x64 =>
    Pu (storeE (some 1) x5 x64 H21) fun H27 =>
    TakeD D52 H27 fun H28 =>
    TakeD D32 H28 fun H29 =>
    Pu (loadE (some none) x5 H29) fun x65 =>
    R x65 H29) (False))))
   (TakeD D32 H14 fun H30 =>
   Pu (loadE (some none) x5 H30) fun x66 =>
   R x66 H30)
   (fun id33 => isX id33 0 (Pu (storeE (some 1) x11 (.int .i64 0) H14) fun H31 =>
   RangeF Try.prog x7 1 H31 (fun s66 H32 B67 K68 =>
    B67 H32 fun H33 =>
    Join (n := 1) (fun s69 H34 => Any fun _ =>
     Ite s69.1
      (Pu (storeE (some 1) x5 (.bool false) H34) fun H35 =>
      K68 (some none) H35)
      (Pu (loadE (some none) x11 H34) fun x72 =>
      Pu (binE (some (.int .i64)) .add x72 (.int .i64 1)) fun x73 =>
      Pu (storeE (some 1) x11 x73 H34) fun H36 =>
      K68 none H36))
    (fun K73 => Pu (loadE (some none) x11 H33) fun x75 =>
    Pu (loadE (some none) x3 H33) fun x76 =>
    Pu (lenE Try.prog 31 x76) fun x77 =>
    Pu (binE (some (.int .i64)) .geq x75 x77) fun x78 =>
    Ite x78
     (K73 ((.bool true), ()) H33)
     (Pu (loadE (some none) x3 H33) fun x79 =>
     Pu (loadE (some none) x11 H33) fun x80 =>
     Pu (idxAddrE (some (none, 1)) x79 x80) fun x81 =>
     Pu (loadE (some none) x81 H33) fun x82 =>
     Pu (binE (some (.int .i64)) .neq s66.1 x82) fun x83 =>
     K73 (x83, ()) H33)))
   (fun j83 D84 H37 => onJ j83
    (Pu (loadE (some none) x11 H37) fun x87 =>
    Pu (loadE (some none) x3 H37) fun x88 =>
    Pu (lenE Try.prog 31 x88) fun x89 =>
    Pu (binE (some (.int .i64)) .eql x87 x89) fun x90 =>
    Pu (storeE (some 1) x5 x90 H37) fun H38 =>
    TakeD D84 H38 fun H39 =>
    TakeD D32 H39 fun H40 =>
    Pu (loadE (some none) x5 H40) fun x91 =>
    R x91 H40)
    (TakeD D84 H37 fun H41 =>
    TakeD D32 H41 fun H42 =>
    Pu (loadE (some none) x5 H42) fun x92 =>
    R x92 H42)
    (fun id85 => isX id85 2 (Pu (loadE (some none) x11 H37) fun x93 =>
    Pu (loadE (some none) x3 H37) fun x94 =>
    Pu (lenE Try.prog 31 x94) fun x95 =>
    Pu (binE (some (.int .i64)) .eql x93 x95) fun x96 =>
    Pu (storeE (some 1) x5 x96 H37) fun H43 =>
    TakeD D84 H43 fun H44 =>
    TakeD D32 H44 fun H45 =>
    Pu (loadE (some none) x5 H45) fun x97 =>
    R x97 H45) (False)))) (False))))
set_option maxRecDepth 100000 in
theorem fn18 {v0 v1 v2 v3 v4 : Value} {H : Hp} {R : Value → Hp → Prop} (h : sh18 v0 v1 v2 v3 v4 H R) : Fc Try.prog 18 #[v0, v1, v2, v3, v4] H R :=
  fn_of_vc (fun f => [9, 11, 12, 13, 15, 16, 17, 19, 21, 22].contains f) (.seq .nil (.seq .nil (.seq .nil (.seq .nil (.seq (.seq .nil (.seq .nil (.seq .nil (.seq (.join [37] [26, 27, 28, 29, 30, 31, 32, 33, 34, 35, 36] .nil .nil) .nil)))) (.seq .nil (.seq (.seq .nil (.seq .nil (.seq (.join [53] [42, 43, 44, 45, 46, 47, 48, 49, 50, 51, 52] .nil .nil) .nil))) .nil))))))) Try.func18 (args := [v0, v1, v2, v3, v4]) (Eq.mp (by kernel_rfl : sh18 v0 v1 v2 v3 v4 H R = VcFn Try.prog (fun f => [9, 11, 12, 13, 15, 16, 17, 19, 21, 22].contains f) Try.f18 (.seq .nil (.seq .nil (.seq .nil (.seq .nil (.seq (.seq .nil (.seq .nil (.seq .nil (.seq (.join [37] [26, 27, 28, 29, 30, 31, 32, 33, 34, 35, 36] .nil .nil) .nil)))) (.seq .nil (.seq (.seq .nil (.seq .nil (.seq (.join [53] [42, 43, 44, 45, 46, 47, 48, 49, 50, 51, 52] .nil .nil) .nil))) .nil))))))) [v0, v1, v2, v3, v4] H R) h)

/- undercroft/undercroftlaw02.BitsAdd -/
def sh7 (v0 v1 : Value) (H : Hp) (R : Value → Hp → Prop) : Prop :=
 Box 23 v0 H fun x1 H1 =>
 Box 25 v1 H1 fun x2 H2 =>
 Fc Try.prog 10 #[] H2 fun x3 H3 =>
 Pu (unE .not x3) fun x4 =>
 Ite x4
  (R (.bool false) H3)
  (Pu (loadE (some (some 1024)) x1 H3) fun x5 =>
  Pu (addrE (some 3) x2) fun x6 =>
  Pu (loadE (some none) x6 H3) fun x7 =>
  Pu (addrE (some 5) x2) fun x8 =>
  Pu (loadE (some none) x8 H3) fun x9 =>
  Fc Try.prog 20 #[x5, x7, x9, (.int .i64 (-1))] H3 fun x10 H4 =>
  Pu (extractE x10 0) fun x11 =>
  Pu (extractE x10 1) fun x12 =>
  Join (n := 1) (fun s12 H5 => Any fun _ =>
   Ite s12.1
    (R (.bool false) H5)
    (Join (n := 1) (fun s14 H6 => Any fun _ =>
     Ite s14.1
      (R (.bool true) H6)
      (Pu (loadE (some (some 1024)) x1 H6) fun x17 =>
      Pu (addrE (some 3) x2) fun x18 =>
      Pu (loadE (some none) x18 H6) fun x19 =>
      Pu (addrE (some 4) x2) fun x20 =>
      Pu (loadE (some none) x20 H6) fun x21 =>
      ∃ x22, QC true Try.prog 13 #[x17, x19, x21] H6 x22 ∧ (
      Pu (loadE (some (some 1024)) x1 H6) fun x23 =>
      Pu (addrE (some 4) x2) fun x24 =>
      Pu (loadE (some none) x24 H6) fun x25 =>
      Pu (addrE (some 5) x2) fun x26 =>
      Pu (loadE (some none) x26 H6) fun x27 =>
      ∃ x28, QC true Try.prog 13 #[x23, x25, x27] H6 x28 ∧ (
      Pu (binE (some (.int .i64)) .add x22 x28) fun x29 =>
      Pu (loadE (some (some 1024)) x1 H6) fun x30 =>
      Pu (addrE (some 3) x2) fun x31 =>
      Pu (loadE (some none) x31 H6) fun x32 =>
      Pu (addrE (some 5) x2) fun x33 =>
      Pu (loadE (some none) x33 H6) fun x34 =>
      ∃ x35, QC true Try.prog 13 #[x30, x32, x34] H6 x35 ∧ (
      Pu (binE (some (.int .i64)) .eql x29 x35) fun x36 =>
      ForX true H6 fun H7 =>
      R x36 H7)))))
    (fun K36 => Pu (addrE (some 3) x2) fun x38 =>
    Pu (loadE (some none) x38 H5) fun x39 =>
    Pu (addrE (some 4) x2) fun x40 =>
    Pu (loadE (some none) x40 H5) fun x41 =>
    Pu (binE (some (.int .i64)) .gtr x39 x41) fun x42 =>
    Ite x42
     (K36 ((.bool true), ()) H5)
     (Pu (addrE (some 4) x2) fun x43 =>
     Pu (loadE (some none) x43 H5) fun x44 =>
     Pu (addrE (some 5) x2) fun x45 =>
     Pu (loadE (some none) x45 H5) fun x46 =>
     Pu (binE (some (.int .i64)) .gtr x44 x46) fun x47 =>
     K36 (x47, ()) H5))))
  (fun K47 => Pu (unE .not x12) fun x49 =>
  Ite x49
   (K47 ((.bool true), ()) H4)
   (Pu (loadE (some (some 1024)) x1 H4) fun x50 =>
   Pu (addrE (some 3) x2) fun x51 =>
   Pu (loadE (some none) x51 H4) fun x52 =>
   Pu (addrE (some 5) x2) fun x53 =>
   Pu (loadE (some none) x53 H4) fun x54 =>
   Fc Try.prog 13 #[x50, x52, x54] H4 fun x55 H8 =>
   Pu (lenE Try.prog 31 x11) fun x56 =>
   Pu (binE (some (.int .i64)) .neq x55 x56) fun x57 =>
   K47 (x57, ()) H8)))
set_option maxRecDepth 100000 in
theorem fn7 {v0 v1 : Value} {H : Hp} {R : Value → Hp → Prop} (h : sh7 v0 v1 H R) : Fc Try.prog 7 #[v0, v1] H R :=
  fn_of_vc (fun f => [9, 11, 12, 13, 15, 16, 17, 19, 21, 22].contains f) (.seq .nil (.seq .nil (.seq .nil (.seq (.join [30] [18, 19, 20, 21, 22, 23, 24, 25, 26, 27, 28, 29] .nil .nil) (.seq (.join [42] [31, 32, 33, 34, 35, 36, 37, 38, 39, 40, 41] .nil .nil) .nil))))) Try.func7 (args := [v0, v1]) (Eq.mp (by kernel_rfl : sh7 v0 v1 H R = VcFn Try.prog (fun f => [9, 11, 12, 13, 15, 16, 17, 19, 21, 22].contains f) Try.f7 (.seq .nil (.seq .nil (.seq .nil (.seq (.join [30] [18, 19, 20, 21, 22, 23, 24, 25, 26, 27, 28, 29] .nil .nil) (.seq (.join [42] [31, 32, 33, 34, 35, 36, 37, 38, 39, 40, 41] .nil .nil) .nil))))) [v0, v1] H R) h)

/- undercroft/undercroftlaw02.BitsNames -/
def sh8 (H : Hp) (R : Value → Hp → Prop) : Prop :=
 Pu (buildE Try.prog 23 []) fun x1 =>
 Fc Try.prog 9 #[x1, (.int .i64 9), (.bool true)] H fun x2 H1 =>
 Pu (zeroE Try.prog 23) fun x3 => Box 23 x3 H1 fun x4 H2 =>
 Pu (storeE (some 1024) x4 x2 H2) fun H3 =>
 Pu (zeroE Try.prog 23) fun x5 => Box 23 x5 H3 fun x6 H4 =>
 LoopP (n := 1) ((.int .i64 0), ()) H4 (fun K7 s6 H5 => Any fun _ =>
  Pu (binE (some (.int .i64)) .lss s6.1 (.int .i64 1024)) fun x9 =>
  Ite x9
   (Pu (idxAddrE (some (some 1024, 1)) x6 s6.1) fun x10 =>
   Pu (storeE (some 1) x10 (.int .u8 255) H5) fun H6 =>
   Pu (binE (some (.int .i64)) .add s6.1 (.int .i64 1)) fun x11 =>
   K7 (x11, ()) H6)
   (Join (n := 1) (fun s11 H7 => Any fun _ =>
    Join (n := 1) (fun s13 H8 => Any fun _ =>
     Ite s11.1
      (Ite s13.1
       (Pu (loadE (some (some 1024)) x4 H8) fun x16 =>
       Pu (elemI Try.prog 31) fun x17 => Pu (newSliceE (some x17) 1 [(0, (.int .i64 9))]) fun x18 => NewS x17.type 1 x18 H8 fun x19 H9 =>
       Fc Try.prog 18 #[x16, (.int .i64 0), (.int .i64 8192), (.int .i64 1), x19] H9 fun x20 H10 =>
       Ite x20
        (Pu (loadE (some (some 1024)) x4 H10) fun x21 =>
        Fc Try.prog 18 #[x21, (.int .i64 10), (.int .i64 8192), (.int .i64 1), (.slice none 0 0)] H10 fun x22 H11 =>
        R x22 H11)
        (R (.bool false) H10))
       (R (.bool false) H8))
      (R (.bool false) H8))
    (fun K22 => Pu (loadE (some (some 1024)) x6 H7) fun x24 =>
    Fc Try.prog 13 #[x24, (.int .i64 0), (.int .i64 8192)] H7 fun x25 H12 =>
    Pu (binE (some (.int .i64)) .eql x25 (.int .i64 8192)) fun x26 =>
    Ite x26
     (Pu (loadE (some (some 1024)) x6 H12) fun x27 =>
     Fc Try.prog 13 #[x27, (.int .i64 10), (.int .i64 5)] H12 fun x28 H13 =>
     Pu (binE (some (.int .i64)) .eql x28 (.int .i64 0)) fun x29 =>
     Ite x29
      (Pu (loadE (some (some 1024)) x6 H13) fun x30 =>
      Fc Try.prog 13 #[x30, (.int .i64 (-8)), (.int .i64 3)] H13 fun x31 H14 =>
      Pu (binE (some (.int .i64)) .eql x31 (.int .i64 3)) fun x32 =>
      Ite x32
       (Pu (loadE (some (some 1024)) x6 H14) fun x33 =>
       Fc Try.prog 13 #[x33, (.int .i64 8190), (.int .i64 9000)] H14 fun x34 H15 =>
       Pu (binE (some (.int .i64)) .eql x34 (.int .i64 2)) fun x35 =>
       K22 (x35, ()) H15)
       (K22 ((.bool false), ()) H14))
      (K22 ((.bool false), ()) H13))
     (K22 ((.bool false), ()) H12)))
   (fun K35 => Pu (loadE (some (some 1024)) x4 H5) fun x37 =>
   Fc Try.prog 11 #[x37, (.int .i64 9)] H5 fun x38 H16 =>
   Ite x38
    (Pu (loadE (some (some 1024)) x4 H16) fun x39 =>
    Fc Try.prog 11 #[x39, (.int .i64 8)] H16 fun x40 H17 =>
    Pu (unE .not x40) fun x41 =>
    Ite x41
     (Pu (loadE (some (some 1024)) x4 H17) fun x42 =>
     Fc Try.prog 11 #[x42, (.int .i64 8192)] H17 fun x43 H18 =>
     Pu (unE .not x43) fun x44 =>
     Ite x44
      (Pu (loadE (some (some 1024)) x4 H18) fun x45 =>
      Fc Try.prog 11 #[x45, (.int .i64 (-1))] H18 fun x46 H19 =>
      Pu (unE .not x46) fun x47 =>
      Ite x47
       (Pu (loadE (some (some 1024)) x4 H19) fun x48 =>
       Fc Try.prog 12 #[x48, (.int .i64 0), (.int .i64 8192)] H19 fun x49 H20 =>
       Pu (binE (some (.int .i64)) .eql x49 (.int .i64 0)) fun x50 =>
       Ite x50
        (Pu (loadE (some (some 1024)) x4 H20) fun x51 =>
        Fc Try.prog 12 #[x51, (.int .i64 9), (.int .i64 8192)] H20 fun x52 H21 =>
        Pu (binE (some (.int .i64)) .eql x52 (.int .i64 10)) fun x53 =>
        Ite x53
         (Pu (loadE (some (some 1024)) x4 H21) fun x54 =>
         Fc Try.prog 12 #[x54, (.int .i64 9), (.int .i64 10)] H21 fun x55 H22 =>
         Pu (binE (some (.int .i64)) .eql x55 (.int .i64 (-1))) fun x56 =>
         Ite x56
          (Pu (loadE (some (some 1024)) x4 H22) fun x57 =>
          Fc Try.prog 12 #[x57, (.int .i64 (-5)), (.int .i64 1)] H22 fun x58 H23 =>
          Pu (binE (some (.int .i64)) .eql x58 (.int .i64 0)) fun x59 =>
          K35 (x59, ()) H23)
          (K35 ((.bool false), ()) H22))
         (K35 ((.bool false), ()) H21))
        (K35 ((.bool false), ()) H20))
       (K35 ((.bool false), ()) H19))
      (K35 ((.bool false), ()) H18))
     (K35 ((.bool false), ()) H17))
    (K35 ((.bool false), ()) H16))))
set_option maxRecDepth 100000 in
theorem fn8 {H : Hp} {R : Value → Hp → Prop} (h : sh8 H R) : Fc Try.prog 8 #[] H R :=
  fn_of_vc (fun f => [9, 11, 12, 13, 15, 16, 17, 19, 21, 22].contains f) (.seq .nil (.seq .nil (.seq .nil (.seq (.seq .nil (.loop [3] [8, 9, 12, 13, 10, 11] .nil)) (.join [4] [14, 15, 16, 17, 18, 19, 20, 21, 22, 23, 24, 25, 26, 27, 28, 29, 30, 31, 32, 33, 34, 35, 36, 37, 38, 39, 40, 41, 42, 43, 44, 45, 46, 47, 48, 49, 50] .nil (.join [5] [51, 52, 53, 54, 55, 56, 57, 58, 59, 60, 61, 62, 63, 64, 65, 66, 67, 68] .nil .nil)))))) Try.func8 (args := []) (Eq.mp (by kernel_rfl : sh8  H R = VcFn Try.prog (fun f => [9, 11, 12, 13, 15, 16, 17, 19, 21, 22].contains f) Try.f8 (.seq .nil (.seq .nil (.seq .nil (.seq (.seq .nil (.loop [3] [8, 9, 12, 13, 10, 11] .nil)) (.join [4] [14, 15, 16, 17, 18, 19, 20, 21, 22, 23, 24, 25, 26, 27, 28, 29, 30, 31, 32, 33, 34, 35, 36, 37, 38, 39, 40, 41, 42, 43, 44, 45, 46, 47, 48, 49, 50] .nil (.join [5] [51, 52, 53, 54, 55, 56, 57, 58, 59, 60, 61, 62, 63, 64, 65, 66, 67, 68] .nil .nil)))))) [] H R) h)
end Go.Proofs
