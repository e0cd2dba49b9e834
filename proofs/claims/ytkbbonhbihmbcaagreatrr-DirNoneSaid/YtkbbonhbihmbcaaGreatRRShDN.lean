/- The conditions of functions' bodies, in words, each tied to the program. -/
import Derived.Test.YtkbbonhbihmbcaaGreatRRVcS
import Derived.Test.YtkbbonhbihmbcaaGreatRRProg
set_option linter.unusedVariables false
set_option linter.unusedSimpArgs false
namespace Go.Proofs
open Go.Vc

/- (*undercroft/wal.Log).Check -/
def sh45 (v0 : Value) (H : Hp) (R : Value → Hp → Prop) : Prop :=
 Join (n := 1) (fun s0 H1 => Any fun _ =>
 Ite s0.1
 (R (.int .i64 1) H1)
 (Pu (nilCheckE v0) fun x3 =>
 Pu (addrE (some 2) x3) fun x4 =>
 Pu (loadE (some none) x4 H1) fun x5 =>
 Pu (nilCheckE v0) fun x6 =>
 Pu (addrE (some 13) x6) fun x7 =>
 Pu (loadE (some none) x7 H1) fun x8 =>
 Fc Tryz.prog 94 #[x5, x8] H1 fun x9 H2 =>
 Pu (unE .not x9) fun x10 =>
 Ite x10
 (R (.int .i64 3) H2)
 (R (.int .i64 0) H2)))
 (fun K10 => Pu (eqXE Tryz.prog 37 true .eql v0 (.pointer none) H) fun x12 =>
 Ite x12
 (K10 ((.bool true), ()) H)
 (Pu (nilCheckE v0) fun x13 =>
 Pu (addrE (some 2) x13) fun x14 =>
 Pu (loadE (some none) x14 H) fun x15 =>
 Pu (eqXE Tryz.prog 36 true .eql x15 (.pointer none) H) fun x16 =>
 K10 (x16, ()) H))
set_option maxRecDepth 100000 in
theorem fn45 {v0 : Value} {H : Hp} {R : Value → Hp → Prop} (h : sh45 v0 H R) : Fc Tryz.prog 45 #[v0] H R :=
 fn_of_vc (fun f => [].contains f) (.seq .nil (.seq (.join [11] [3, 4, 5, 6, 7, 8, 9, 10] .nil .nil) .nil)) Tryz.func45 (args := [v0]) (Eq.mp (by kernel_rfl : sh45 v0 H R = _) h)

/- undercroft/rack.Read -/
def sh19 (v0 v1 : Value) (H : Hp) (R : Value → Hp → Prop) : Prop :=
 Pu (zeroE Tryz.prog 78) fun x1 => Box 78 x1 H fun x2 H1 =>
 Fc Tryz.prog 45 #[v0] H1 fun x3 H2 =>
 Pu (binE (some (.int .i64)) .neq x3 (.int .i64 0)) fun x4 =>
 Ite x4
 (Pu (buildE Tryz.prog 78 []) fun x5 =>
 Pu (storeE (some 16) x2 x5 H2) fun H3 =>
 Pu (loadE (some (some 16)) x2 H3) fun x6 =>
 R (.tuple #[x6, x3]) H3)
 (Fc Tryz.prog 53 #[v0, v1] H2 fun x7 H4 =>
 Pu (extractE x7 0) fun x8 =>
 Pu (extractE x7 1) fun x9 =>
 Pu (extractE x7 2) fun x10 =>
 Pu (unE .not x10) fun x11 =>
 Ite x11
 (Pu (buildE Tryz.prog 78 []) fun x12 =>
 Pu (storeE (some 16) x2 x12 H4) fun H5 =>
 Pu (loadE (some (some 16)) x2 H5) fun x13 =>
 R (.tuple #[x13, (.int .i64 2)]) H5)
 (Fc Tryz.prog 54 #[v0, x8] H4 fun x14 H6 =>
 Pu (extractE x14 0) fun x15 =>
 Pu (extractE x14 1) fun x16 =>
 Pu (zeroE Tryz.prog 70) fun x17 => Box 70 x17 H6 fun x18 H7 =>
 Pu (storeE (some 1024) x18 x15 H7) fun H8 =>
 Pu (binE (some (.int .i64)) .neq x16 (.int .i64 0)) fun x19 =>
 Ite x19
 (Pu (buildE Tryz.prog 78 []) fun x20 =>
 Pu (storeE (some 16) x2 x20 H8) fun H9 =>
 Pu (loadE (some (some 16)) x2 H9) fun x21 =>
 R (.tuple #[x21, x16]) H9)
 (Pu (binE (some (.int .i64)) .add x9 (.int .i64 64)) fun x22 =>
 Pu (sliceE Tryz.prog 70 x18 (some x9) (some x22) none) fun x23 =>
 Pu (arrE (some 64) x23) fun x24 =>
 Pu (loadE (some (some 64)) x24 H8) fun x25 =>
 Fc Tryz.prog 55 #[x25] H8 fun x26 H10 =>
 Pu (storeE (some 16) x2 x26 H10) fun H11 =>
 Pu (loadE (some (some 16)) x2 H11) fun x27 =>
 R (.tuple #[x27, (.int .i64 0)]) H11)))
set_option maxRecDepth 100000 in
theorem fn19 {v0 v1 : Value} {H : Hp} {R : Value → Hp → Prop} (h : sh19 v0 v1 H R) : Fc Tryz.prog 19 #[v0, v1] H R :=
 fn_of_vc (fun f => [].contains f) .nil Tryz.func19 (args := [v0, v1]) (Eq.mp (by kernel_rfl : sh19 v0 v1 H R = _) h)

/- undercroft/dir.begin -/
def sh66 (v0 v1 : Value) (H : Hp) (R : Value → Hp → Prop) : Prop :=
 Pu (zeroE Tryz.prog 78) fun x1 => Box 78 x1 H fun x2 H1 =>
 Fc Tryz.prog 19 #[v0, v1] H1 fun x3 H2 =>
 Pu (extractE x3 0) fun x4 =>
 Pu (extractE x3 1) fun x5 =>
 Pu (zeroE Tryz.prog 78) fun x6 => Box 78 x6 H2 fun x7 H3 =>
 Pu (storeE (some 16) x7 x4 H3) fun H4 =>
 Join (n := 1) (fun s7 H5 => Any fun _ =>
 Pu (binE (some (.int .i64)) .neq s7.1 (.int .i64 0)) fun x10 =>
 Ite x10
 (Pu (buildE Tryz.prog 78 []) fun x11 =>
 Pu (storeE (some 16) x2 x11 H5) fun H6 =>
 Pu (loadE (some (some 16)) x2 H6) fun x12 =>
 R (.tuple #[x12, s7.1]) H6)
 (Pu (loadE (some (some 16)) x7 H5) fun x13 =>
 Pu (storeE (some 16) x2 x13 H5) fun H7 =>
 Pu (loadE (some (some 16)) x2 H7) fun x14 =>
 R (.tuple #[x14, (.int .i64 0)]) H7))
 (fun K14 => Pu (binE (some (.int .i64)) .eql x5 (.int .i64 0)) fun x16 =>
 Ite x16
 (Pu (addrE (some 0) x7) fun x17 =>
 Pu (loadE (some none) x17 H4) fun x18 =>
 Pu (binE (some (.int .u16)) .neq x18 (.int .u16 2)) fun x19 =>
 Ite x19
 (K14 ((.int .i64 7), ()) H4)
 (K14 (x5, ()) H4))
 (K14 (x5, ()) H4))
set_option maxRecDepth 100000 in
theorem fn66 {v0 v1 : Value} {H : Hp} {R : Value → Hp → Prop} (h : sh66 v0 v1 H R) : Fc Tryz.prog 66 #[v0, v1] H R :=
 fn_of_vc (fun f => [].contains f) (.seq .nil (.seq .nil (.join [7] [14, 15, 16, 17, 18, 19, 20] .nil .nil))) Tryz.func66 (args := [v0, v1]) (Eq.mp (by kernel_rfl : sh66 v0 v1 H R = _) h)

/- undercroft/dir.Slots -/
def sh30 (v0 v1 : Value) (H : Hp) (R : Value → Hp → Prop) : Prop :=
 Fc Tryz.prog 66 #[v0, v1] H fun x1 H1 =>
 Pu (extractE x1 0) fun x2 =>
 Pu (extractE x1 1) fun x3 =>
 Pu (zeroE Tryz.prog 78) fun x4 => Box 78 x4 H1 fun x5 H2 =>
 Pu (zeroE Tryz.prog 35) fun x6 => Box 35 x6 H2 fun x7 H3 =>
 Pu (storeE (some 16) x5 x2 H3) fun H4 =>
 Pu (storeE (some 1) x7 x3 H4) fun H5 =>
 Pu (loadE (some none) x7 H5) fun x8 =>
 Pu (binE (some (.int .i64)) .neq x8 (.int .i64 0)) fun x9 =>
 Ite x9
 (Pu (loadE (some none) x7 H5) fun x10 =>
 R (.tuple #[(.slice none 0 0), x10]) H5)
 (Pu (zeroE Tryz.prog 64) fun x11 => Box 64 x11 H5 fun x12 H6 =>
 Pu (loadE (some (some 16)) x5 H6) fun x13 =>
 Fc Tryz.prog 67 #[v0, v1, x13, x7] H6 fun x14 H7 =>
 RangeF Tryz.prog x14 2 H7 (fun s14 H8 B15 K16 =>
 Pu (zeroE Tryz.prog 68) fun x18 => Box 68 x18 H8 fun x19 H9 =>
 Pu (storeE (some 2) x19 s14.2.1 H9) fun H10 =>
 B15 H10 fun H11 =>
 Pu (loadE (some none) x12 H11) fun x20 =>
 Pu (loadE (some (some 2)) x19 H11) fun x21 =>
 Pu (elemI Tryz.prog 64) fun x22 => Pu (newSliceE (some x22) 1 [(0, x21)]) fun x23 => NewS x22.type 1 x23 H11 fun x24 H12 =>
 AppS (elemI Tryz.prog 64) x20 x24 H12 fun x25 H13 =>
 Pu (storeE (some 1) x12 x25 H13) fun H14 =>
 K16 none H14)
 (fun j25 D26 H15 => onJ j25
 (Pu (loadE (some none) x7 H15) fun x29 =>
 Pu (binE (some (.int .i64)) .neq x29 (.int .i64 0)) fun x30 =>
 Ite x30
 (Pu (loadE (some none) x7 H15) fun x31 =>
 TakeD D26 H15 fun H16 =>
 R (.tuple #[(.slice none 0 0), x31]) H16)
 (Pu (loadE (some none) x12 H15) fun x32 =>
 TakeD D26 H15 fun H17 =>
 R (.tuple #[x32, (.int .i64 0)]) H17))
 (TakeD D26 H15 fun H18 =>
 R (.tuple #[(.slice none 0 0), (.int .i64 0)]) H18)
 (fun id27 => isX id27 0 (Pu (loadE (some none) x7 H15) fun x33 =>
 Pu (binE (some (.int .i64)) .neq x33 (.int .i64 0)) fun x34 =>
 Ite x34
 (Pu (loadE (some none) x7 H15) fun x35 =>
 TakeD D26 H15 fun H19 =>
 R (.tuple #[(.slice none 0 0), x35]) H19)
 (Pu (loadE (some none) x12 H15) fun x36 =>
 TakeD D26 H15 fun H20 =>
 R (.tuple #[x36, (.int .i64 0)]) H20)) (False))))
set_option maxRecDepth 100000 in
theorem fn30 {v0 v1 : Value} {H : Hp} {R : Value → Hp → Prop} (h : sh30 v0 v1 H R) : Fc Tryz.prog 30 #[v0, v1] H R :=
 fn_of_vc (fun f => [].contains f) (.seq .nil (.seq .nil (.seq .nil (.seq .nil (.seq (.seq .nil (.seq .nil .nil)) .nil))))) Tryz.func30 (args := [v0, v1]) (Eq.mp (by kernel_rfl : sh30 v0 v1 H R = _) h)

/- undercroft/dir.Set -/
def sh31 (v0 v1 v2 v3 : Value) (H : Hp) (R : Value → Hp → Prop) : Prop :=
 Box 68 v3 H fun x1 H1 =>
 Fc Tryz.prog 45 #[v0] H1 fun x2 H2 =>
 Pu (binE (some (.int .i64)) .neq x2 (.int .i64 0)) fun x3 =>
 Ite x3
 (R x2 H2)
 (Fc Tryz.prog 70 #[v0] H2 fun x4 H3 =>
 Pu (unE .not x4) fun x5 =>
 Ite x5
 (R (.int .i64 180) H3)
 (Fc Tryz.prog 66 #[v0, v1] H3 fun x6 H4 =>
 Pu (extractE x6 0) fun x7 =>
 Pu (extractE x6 1) fun x8 =>
 Pu (zeroE Tryz.prog 78) fun x9 => Box 78 x9 H4 fun x10 H5 =>
 Pu (storeE (some 16) x10 x7 H5) fun H6 =>
 Pu (binE (some (.int .i64)) .neq x8 (.int .i64 0)) fun x11 =>
 Ite x11
 (R x8 H6)
 (Pu (addrE (some 2) x10) fun x12 =>
 Pu (loadE (some none) x12 H6) fun x13 =>
 Pu (convE (some (.int .u32)) (some (.int .i64)) x13) fun x14 =>
 Pu (binE (some (.int .i64)) .quo x14 (.int .i64 16)) fun x15 =>
 Join (n := 1) (fun s15 H7 => Any fun _ =>
 Ite s15.1
 (R (.int .i64 2) H7)
 (Pu (loadE (some (some 2)) x1 H7) fun x18 =>
 Fc Tryz.prog 71 #[x18] H7 fun x19 H8 =>
 Pu (extractE x19 0) fun x20 =>
 Pu (extractE x19 1) fun x21 =>
 Pu (zeroE Tryz.prog 150) fun x22 => Box 150 x22 H8 fun x23 H9 =>
 Pu (storeE (some 16) x23 x20 H9) fun H10 =>
 Pu (binE (some (.int .i64)) .neq x21 (.int .i64 0)) fun x24 =>
 Ite x24
 (R x21 H10)
 (Join (n := 0) (fun s24 H11 => Any fun _ =>
 Pu (binE (some (.int .i64)) .mul v2 (.int .i64 16)) fun x26 =>
 Pu (binE (some (.int .i64)) .quo x26 (.int .i64 1024)) fun x27 =>
 Fc Tryz.prog 73 #[v0, v1, x27] H11 fun x28 H12 =>
 Pu (extractE x28 0) fun x29 =>
 Pu (extractE x28 1) fun x30 =>
 Pu (binE (some (.int .i64)) .neq x30 (.int .i64 0)) fun x31 =>
 Ite x31
 (R x30 H12)
 (Fc Tryz.prog 54 #[v0, x29] H12 fun x32 H13 =>
 Pu (extractE x32 0) fun x33 =>
 Pu (extractE x32 1) fun x34 =>
 Pu (zeroE Tryz.prog 70) fun x35 => Box 70 x35 H13 fun x36 H14 =>
 Pu (storeE (some 1024) x36 x33 H14) fun H15 =>
 Pu (binE (some (.int .i64)) .neq x34 (.int .i64 0)) fun x37 =>
 Ite x37
 (R x34 H15)
 (Pu (binE (some (.int .i64)) .rem x26 (.int .i64 1024)) fun x38 =>
 Pu (sliceE Tryz.prog 70 x36 (some x38) none none) fun x39 =>
 Pu (sliceE Tryz.prog 150 x23 none none none) fun x40 =>
 Pu (copyE (elemI Tryz.prog 74) x39 x40 H15) fun x41 =>
 Pu (loadE (some (some 1024)) x36 x41.2) fun x42 =>
 Fc Tryz.prog 74 #[v0, x29, x42] x41.2 fun x43 H16 =>
 Join (n := 1) (fun s43 H17 => Any fun _ =>
 Ite s43.1
 (R x43 H17)
 (Fc Tryz.prog 19 #[v0, v1] H17 fun x46 H18 =>
 Pu (extractE x46 0) fun x47 =>
 Pu (extractE x46 1) fun x48 =>
 Pu (storeE (some 16) x10 x47 H18) fun H19 =>
 Pu (binE (some (.int .i64)) .neq x48 (.int .i64 0)) fun x49 =>
 Ite x49
 (R x48 H19)
 (Pu (addrE (some 2) x10) fun x50 =>
 Pu (loadE (some none) x50 H19) fun x51 =>
 Pu (binE (some (.int .u32)) .add x51 (.int .u32 16)) fun x52 =>
 Pu (addrE (some 2) x10) fun x53 =>
 Pu (storeE (some 1) x53 x52 H19) fun H20 =>
 Pu (loadE (some (some 16)) x10 H20) fun x54 =>
 Fc Tryz.prog 75 #[v0, v1, x54] H20 fun x55 H21 =>
 R x55 H21)))
 (fun K55 => Pu (binE (some (.int .i64)) .neq x43 (.int .i64 0)) fun x57 =>
 Ite x57
 (K55 ((.bool true), ()) H16)
 (Pu (binE (some (.int .i64)) .lss v2 x15) fun x58 =>
 K55 (x58, ()) H16)))))
 (fun K58 => Pu (binE (some (.int .i64)) .eql v2 x15) fun x60 =>
 Ite x60
 (Pu (loadE (some (some 16)) x10 H10) fun x61 =>
 Fc Tryz.prog 72 #[v0, v1, x61] H10 fun x62 H22 =>
 Pu (binE (some (.int .i64)) .neq x62 (.int .i64 0)) fun x63 =>
 Ite x63
 (R x62 H22)
 (K58 (()) H22))
 (K58 (()) H10)))))
 (fun K63 => Pu (binE (some (.int .i64)) .lss v2 (.int .i64 0)) fun x65 =>
 Ite x65
 (K63 ((.bool true), ()) H6)
 (Pu (binE (some (.int .i64)) .gtr v2 x15) fun x66 =>
 K63 (x66, ()) H6)))))
set_option maxRecDepth 100000 in
theorem fn31 {v0 v1 v2 v3 : Value} {H : Hp} {R : Value → Hp → Prop} (h : sh31 v0 v1 v2 v3 H R) : Fc Tryz.prog 31 #[v0, v1, v2, v3] H R :=
 fn_of_vc (fun f => [].contains f) (.seq .nil (.seq .nil (.seq .nil (.seq .nil (.seq .nil (.seq .nil (.seq (.join [44] [38, 39, 40, 41, 42, 43] .nil .nil) (.seq .nil (.seq .nil (.join [] [53, 54, 55, 56, 57, 58, 59, 11, 60, 61, 62, 8] .nil (.seq .nil (.seq .nil (.seq .nil (.seq .nil (.seq .nil (.seq .nil (.seq (.seq .nil (.join [100] [94, 95, 96, 97, 98, 99] .nil .nil)) .nil))))))))))))))))) Tryz.func31 (args := [v0, v1, v2, v3]) (Eq.mp (by kernel_rfl : sh31 v0 v1 v2 v3 H R = _) h)

/- undercroft/dir.Empty -/
def sh36 (v0 v1 : Value) (H : Hp) (R : Value → Hp → Prop) : Prop :=
 Pu (zeroE Tryz.prog 4) fun x1 => Box 4 x1 H fun x2 H1 =>
 Pu (zeroE Tryz.prog 35) fun x3 => Box 35 x3 H1 fun x4 H2 =>
 Fc Tryz.prog 66 #[v0, v1] H2 fun x5 H3 =>
 Pu (extractE x5 0) fun x6 =>
 Pu (extractE x5 1) fun x7 =>
 Pu (zeroE Tryz.prog 78) fun x8 => Box 78 x8 H3 fun x9 H4 =>
 Pu (zeroE Tryz.prog 35) fun x10 => Box 35 x10 H4 fun x11 H5 =>
 Pu (storeE (some 16) x9 x6 H5) fun H6 =>
 Pu (storeE (some 1) x11 x7 H6) fun H7 =>
 Pu (loadE (some none) x11 H7) fun x12 =>
 Pu (binE (some (.int .i64)) .neq x12 (.int .i64 0)) fun x13 =>
 Ite x13
 (And
 (Pu (loadE (some none) x11 H7) fun x17 =>
 ForX true H7 fun H13 =>
 Pu (storeE (some 1) x2 (.bool false) H13) fun H14 =>
 ForX true H14 fun H15 =>
 Pu (storeE (some 1) x4 x17 H15) fun H16 =>
 ForX true H16 fun H17 =>
 Pu (loadE (some none) x2 H17) fun x18 =>
 Pu (loadE (some none) x4 H17) fun x19 =>
 R (.tuple #[x18, x19]) H17)
 (And
 (ForX true H7 fun H8 =>
 Pu (storeE (some 1) x2 (.bool false) H8) fun H9 =>
 Pu (loadE (some none) x11 H9) fun x14 =>
 ForX true H9 fun H10 =>
 Pu (storeE (some 1) x4 x14 H10) fun H11 =>
 ForX true H11 fun H12 =>
 Pu (loadE (some none) x2 H12) fun x15 =>
 Pu (loadE (some none) x4 H12) fun x16 =>
 R (.tuple #[x15, x16]) H12)
 (True)))
 (Pu (loadE (some (some 16)) x9 H7) fun x20 =>
 Fc Tryz.prog 67 #[v0, v1, x20, x11] H7 fun x21 H18 =>
 RangeF Tryz.prog x21 2 H18 (fun s21 H19 B22 K23 =>
 Pu (zeroE Tryz.prog 68) fun x25 => Box 68 x25 H19 fun x26 H20 =>
 Pu (storeE (some 2) x26 s21.2.1 H20) fun H21 =>
 B22 H21 fun H22 =>
 Join (n := 1) (fun s26 H23 => Any fun _ =>
 Ite s26.1
 (Pu (storeE (some 1) x2 (.bool false) H23) fun H24 =>
 Pu (storeE (some 1) x4 (.int .i64 0) H24) fun H25 =>
 K23 (some none) H25)
 (K23 none H23))
 (fun K28 => Pu (binE (some (.int .i64)) .gtr s21.1 (.int .i64 1)) fun x30 =>
 Ite x30
 (Pu (addrE (some 0) x26) fun x31 =>
 Pu (loadE (some none) x31 H22) fun x32 =>
 Pu (binE (some (.int .u16)) .neq x32 (.int .u16 0)) fun x33 =>
 K28 (x33, ()) H22)
 (K28 ((.bool false), ()) H22)))
 (fun j33 D34 H26 => onJ j33
 (Pu (loadE (some none) x11 H26) fun x37 =>
 Pu (binE (some (.int .i64)) .eql x37 (.int .i64 0)) fun x38 =>
 And
 (Pu (loadE (some none) x11 H26) fun x42 =>
 ForX true H26 fun H33 =>
 Pu (storeE (some 1) x2 x38 H33) fun H34 =>
 ForX true H34 fun H35 =>
 Pu (storeE (some 1) x4 x42 H35) fun H36 =>
 ForX true H36 fun H37 =>
 TakeD D34 H37 fun H38 =>
 Pu (loadE (some none) x2 H38) fun x43 =>
 Pu (loadE (some none) x4 H38) fun x44 =>
 R (.tuple #[x43, x44]) H38)
 (And
 (ForX true H26 fun H27 =>
 Pu (storeE (some 1) x2 x38 H27) fun H28 =>
 Pu (loadE (some none) x11 H28) fun x39 =>
 ForX true H28 fun H29 =>
 Pu (storeE (some 1) x4 x39 H29) fun H30 =>
 ForX true H30 fun H31 =>
 TakeD D34 H31 fun H32 =>
 Pu (loadE (some none) x2 H32) fun x40 =>
 Pu (loadE (some none) x4 H32) fun x41 =>
 R (.tuple #[x40, x41]) H32)
 (True)))
 (TakeD D34 H26 fun H39 =>
 Pu (loadE (some none) x2 H39) fun x45 =>
 Pu (loadE (some none) x4 H39) fun x46 =>
 R (.tuple #[x45, x46]) H39)
 (fun id35 => isX id35 0 (Pu (loadE (some none) x11 H26) fun x47 =>
 Pu (binE (some (.int .i64)) .eql x47 (.int .i64 0)) fun x48 =>
 And
 (Pu (loadE (some none) x11 H26) fun x52 =>
 ForX true H26 fun H46 =>
 Pu (storeE (some 1) x2 x48 H46) fun H47 =>
 ForX true H47 fun H48 =>
 Pu (storeE (some 1) x4 x52 H48) fun H49 =>
 ForX true H49 fun H50 =>
 TakeD D34 H50 fun H51 =>
 Pu (loadE (some none) x2 H51) fun x53 =>
 Pu (loadE (some none) x4 H51) fun x54 =>
 R (.tuple #[x53, x54]) H51)
 (And
 (ForX true H26 fun H40 =>
 Pu (storeE (some 1) x2 x48 H40) fun H41 =>
 Pu (loadE (some none) x11 H41) fun x49 =>
 ForX true H41 fun H42 =>
 Pu (storeE (some 1) x4 x49 H42) fun H43 =>
 ForX true H43 fun H44 =>
 TakeD D34 H44 fun H45 =>
 Pu (loadE (some none) x2 H45) fun x50 =>
 Pu (loadE (some none) x4 H45) fun x51 =>
 R (.tuple #[x50, x51]) H45)
 (True))) (False))))
set_option maxRecDepth 100000 in
theorem fn36 {v0 v1 : Value} {H : Hp} {R : Value → Hp → Prop} (h : sh36 v0 v1 H R) : Fc Tryz.prog 36 #[v0, v1] H R :=
 fn_of_vcp (fun f => [].contains f) [(3, (.fork [] (.cons 0 (.line [1, 2]) (.cons 1 (.line [0, 2]) .nil)))), (9, (.fork [0, 1] (.cons 2 (.line [3, 4]) (.cons 3 (.line [2, 4]) .nil))))] (.seq .nil (.seq .nil (.seq .nil (.seq (.seq .nil (.seq .nil (.join [31] [25, 26, 27, 28, 29, 30] .nil .nil))) .nil)))) Tryz.func36 (args := [v0, v1]) (Eq.mp (by kernel_rfl : sh36 v0 v1 H R = _) h)

/- undercroft/dir.Spot -/
def sh28 (v0 v1 : Value) (H : Hp) (R : Value → Hp → Prop) : Prop :=
 Pu (zeroE Tryz.prog 3) fun x1 => Box 3 x1 H fun x2 H1 =>
 Pu (zeroE Tryz.prog 3) fun x3 => Box 3 x3 H1 fun x4 H2 =>
 Pu (zeroE Tryz.prog 35) fun x5 => Box 35 x5 H2 fun x6 H3 =>
 Fc Tryz.prog 66 #[v0, v1] H3 fun x7 H4 =>
 Pu (extractE x7 0) fun x8 =>
 Pu (extractE x7 1) fun x9 =>
 Pu (zeroE Tryz.prog 78) fun x10 => Box 78 x10 H4 fun x11 H5 =>
 Pu (zeroE Tryz.prog 35) fun x12 => Box 35 x12 H5 fun x13 H6 =>
 Pu (storeE (some 16) x11 x8 H6) fun H7 =>
 Pu (storeE (some 1) x13 x9 H7) fun H8 =>
 Pu (loadE (some none) x13 H8) fun x14 =>
 Pu (binE (some (.int .i64)) .neq x14 (.int .i64 0)) fun x15 =>
 Ite x15
 (And
 (Pu (loadE (some none) x13 H8) fun x24 =>
 ForX true H8 fun H21 =>
 Pu (storeE (some 1) x2 (.int .i64 0) H21) fun H22 =>
 ForX true H22 fun H23 =>
 Pu (storeE (some 1) x4 (.int .i64 0) H23) fun H24 =>
 ForX true H24 fun H25 =>
 Pu (storeE (some 1) x6 x24 H25) fun H26 =>
 ForX true H26 fun H27 =>
 Pu (loadE (some none) x2 H27) fun x25 =>
 Pu (loadE (some none) x4 H27) fun x26 =>
 Pu (loadE (some none) x6 H27) fun x27 =>
 R (.tuple #[x25, x26, x27]) H27)
 (And
 (ForX true H8 fun H9 =>
 Pu (storeE (some 1) x2 (.int .i64 0) H9) fun H10 =>
 And
 (Pu (loadE (some none) x13 H10) fun x20 =>
 ForX true H10 fun H16 =>
 Pu (storeE (some 1) x4 (.int .i64 0) H16) fun H17 =>
 ForX true H17 fun H18 =>
 Pu (storeE (some 1) x6 x20 H18) fun H19 =>
 ForX true H19 fun H20 =>
 Pu (loadE (some none) x2 H20) fun x21 =>
 Pu (loadE (some none) x4 H20) fun x22 =>
 Pu (loadE (some none) x6 H20) fun x23 =>
 R (.tuple #[x21, x22, x23]) H20)
 (And
 (ForX true H10 fun H11 =>
 Pu (storeE (some 1) x4 (.int .i64 0) H11) fun H12 =>
 Pu (loadE (some none) x13 H12) fun x16 =>
 ForX true H12 fun H13 =>
 Pu (storeE (some 1) x6 x16 H13) fun H14 =>
 ForX true H14 fun H15 =>
 Pu (loadE (some none) x2 H15) fun x17 =>
 Pu (loadE (some none) x4 H15) fun x18 =>
 Pu (loadE (some none) x6 H15) fun x19 =>
 R (.tuple #[x17, x18, x19]) H15)
 (True)))
 (True)))
 (Pu (loadE (some (some 16)) x11 H8) fun x28 =>
 Fc Tryz.prog 67 #[v0, v1, x28, x13] H8 fun x29 H28 =>
 RangeF Tryz.prog x29 2 H28 (fun s29 H29 B30 K31 =>
 Pu (zeroE Tryz.prog 68) fun x33 => Box 68 x33 H29 fun x34 H30 =>
 Pu (storeE (some 2) x34 s29.2.1 H30) fun H31 =>
 B30 H31 fun H32 =>
 Pu (addrE (some 0) x34) fun x35 =>
 Pu (loadE (some none) x35 H32) fun x36 =>
 Pu (binE (some (.int .u16)) .eql x36 (.int .u16 0)) fun x37 =>
 Ite x37
 (Pu (storeE (some 1) x2 s29.1 H32) fun H33 =>
 Pu (storeE (some 1) x4 (.int .i64 0) H33) fun H34 =>
 Pu (storeE (some 1) x6 (.int .i64 0) H34) fun H35 =>
 K31 (some none) H35)
 (K31 none H32))
 (fun j37 D38 H36 => onJ j37
 (Pu (loadE (some none) x13 H36) fun x41 =>
 Pu (binE (some (.int .i64)) .neq x41 (.int .i64 0)) fun x42 =>
 Ite x42
 (And
 (Pu (loadE (some none) x13 H36) fun x51 =>
 ForX true H36 fun H51 =>
 Pu (storeE (some 1) x2 (.int .i64 0) H51) fun H52 =>
 ForX true H52 fun H53 =>
 Pu (storeE (some 1) x4 (.int .i64 0) H53) fun H54 =>
 ForX true H54 fun H55 =>
 Pu (storeE (some 1) x6 x51 H55) fun H56 =>
 ForX true H56 fun H57 =>
 TakeD D38 H57 fun H58 =>
 Pu (loadE (some none) x2 H58) fun x52 =>
 Pu (loadE (some none) x4 H58) fun x53 =>
 Pu (loadE (some none) x6 H58) fun x54 =>
 R (.tuple #[x52, x53, x54]) H58)
 (And
 (ForX true H36 fun H37 =>
 Pu (storeE (some 1) x2 (.int .i64 0) H37) fun H38 =>
 And
 (Pu (loadE (some none) x13 H38) fun x47 =>
 ForX true H38 fun H45 =>
 Pu (storeE (some 1) x4 (.int .i64 0) H45) fun H46 =>
 ForX true H46 fun H47 =>
 Pu (storeE (some 1) x6 x47 H47) fun H48 =>
 ForX true H48 fun H49 =>
 TakeD D38 H49 fun H50 =>
 Pu (loadE (some none) x2 H50) fun x48 =>
 Pu (loadE (some none) x4 H50) fun x49 =>
 Pu (loadE (some none) x6 H50) fun x50 =>
 R (.tuple #[x48, x49, x50]) H50)
 (And
 (ForX true H38 fun H39 =>
 Pu (storeE (some 1) x4 (.int .i64 0) H39) fun H40 =>
 Pu (loadE (some none) x13 H40) fun x43 =>
 ForX true H40 fun H41 =>
 Pu (storeE (some 1) x6 x43 H41) fun H42 =>
 ForX true H42 fun H43 =>
 TakeD D38 H43 fun H44 =>
 Pu (loadE (some none) x2 H44) fun x44 =>
 Pu (loadE (some none) x4 H44) fun x45 =>
 Pu (loadE (some none) x6 H44) fun x46 =>
 R (.tuple #[x44, x45, x46]) H44)
 (True)))
 (True)))
 (Pu (addrE (some 2) x11) fun x55 =>
 Pu (loadE (some none) x55 H36) fun x56 =>
 Pu (binE (some (.int .u32)) .geq x56 (.int .u32 67381248)) fun x57 =>
 Ite x57
 (Pu (storeE (some 1) x2 (.int .i64 0) H36) fun H59 =>
 Pu (storeE (some 1) x4 (.int .i64 0) H59) fun H60 =>
 Pu (storeE (some 1) x6 (.int .i64 17) H60) fun H61 =>
 TakeD D38 H61 fun H62 =>
 Pu (loadE (some none) x2 H62) fun x58 =>
 Pu (loadE (some none) x4 H62) fun x59 =>
 Pu (loadE (some none) x6 H62) fun x60 =>
 R (.tuple #[x58, x59, x60]) H62)
 (Pu (addrE (some 2) x11) fun x61 =>
 Pu (loadE (some none) x61 H36) fun x62 =>
 Pu (convE (some (.int .u32)) (some (.int .i64)) x62) fun x63 =>
 Pu (binE (some (.int .i64)) .quo x63 (.int .i64 1024)) fun x64 =>
 Fc Tryz.prog 68 #[v0, v1, x64, (.int .i64 1)] H36 fun x65 H63 =>
 Pu (extractE x65 0) fun x66 =>
 Pu (extractE x65 1) fun x67 =>
 Pu (storeE (some 1) x13 x67 H63) fun H64 =>
 Pu (loadE (some none) x13 H64) fun x68 =>
 Pu (binE (some (.int .i64)) .neq x68 (.int .i64 0)) fun x69 =>
 Ite x69
 (And
 (Pu (loadE (some none) x13 H64) fun x78 =>
 ForX true H64 fun H79 =>
 Pu (storeE (some 1) x2 (.int .i64 0) H79) fun H80 =>
 ForX true H80 fun H81 =>
 Pu (storeE (some 1) x4 (.int .i64 0) H81) fun H82 =>
 ForX true H82 fun H83 =>
 Pu (storeE (some 1) x6 x78 H83) fun H84 =>
 ForX true H84 fun H85 =>
 TakeD D38 H85 fun H86 =>
 Pu (loadE (some none) x2 H86) fun x79 =>
 Pu (loadE (some none) x4 H86) fun x80 =>
 Pu (loadE (some none) x6 H86) fun x81 =>
 R (.tuple #[x79, x80, x81]) H86)
 (And
 (ForX true H64 fun H65 =>
 Pu (storeE (some 1) x2 (.int .i64 0) H65) fun H66 =>
 And
 (Pu (loadE (some none) x13 H66) fun x74 =>
 ForX true H66 fun H73 =>
 Pu (storeE (some 1) x4 (.int .i64 0) H73) fun H74 =>
 ForX true H74 fun H75 =>
 Pu (storeE (some 1) x6 x74 H75) fun H76 =>
 ForX true H76 fun H77 =>
 TakeD D38 H77 fun H78 =>
 Pu (loadE (some none) x2 H78) fun x75 =>
 Pu (loadE (some none) x4 H78) fun x76 =>
 Pu (loadE (some none) x6 H78) fun x77 =>
 R (.tuple #[x75, x76, x77]) H78)
 (And
 (ForX true H66 fun H67 =>
 Pu (storeE (some 1) x4 (.int .i64 0) H67) fun H68 =>
 Pu (loadE (some none) x13 H68) fun x70 =>
 ForX true H68 fun H69 =>
 Pu (storeE (some 1) x6 x70 H69) fun H70 =>
 ForX true H70 fun H71 =>
 TakeD D38 H71 fun H72 =>
 Pu (loadE (some none) x2 H72) fun x71 =>
 Pu (loadE (some none) x4 H72) fun x72 =>
 Pu (loadE (some none) x6 H72) fun x73 =>
 R (.tuple #[x71, x72, x73]) H72)
 (True)))
 (True)))
 (Pu (addrE (some 2) x11) fun x82 =>
 Pu (loadE (some none) x82 H64) fun x83 =>
 Pu (convE (some (.int .u32)) (some (.int .i64)) x83) fun x84 =>
 Pu (binE (some (.int .i64)) .quo x84 (.int .i64 16)) fun x85 =>
 Pu (storeE (some 1) x2 x85 H64) fun H87 =>
 Pu (storeE (some 1) x4 x66 H87) fun H88 =>
 Pu (storeE (some 1) x6 (.int .i64 0) H88) fun H89 =>
 TakeD D38 H89 fun H90 =>
 Pu (loadE (some none) x2 H90) fun x86 =>
 Pu (loadE (some none) x4 H90) fun x87 =>
 Pu (loadE (some none) x6 H90) fun x88 =>
 R (.tuple #[x86, x87, x88]) H90))))
 (TakeD D38 H36 fun H91 =>
 Pu (loadE (some none) x2 H91) fun x89 =>
 Pu (loadE (some none) x4 H91) fun x90 =>
 Pu (loadE (some none) x6 H91) fun x91 =>
 R (.tuple #[x89, x90, x91]) H91)
 (fun id39 => isX id39 0 (Pu (loadE (some none) x13 H36) fun x92 =>
 Pu (binE (some (.int .i64)) .neq x92 (.int .i64 0)) fun x93 =>
 Ite x93
 (And
 (Pu (loadE (some none) x13 H36) fun x102 =>
 ForX true H36 fun H106 =>
 Pu (storeE (some 1) x2 (.int .i64 0) H106) fun H107 =>
 ForX true H107 fun H108 =>
 Pu (storeE (some 1) x4 (.int .i64 0) H108) fun H109 =>
 ForX true H109 fun H110 =>
 Pu (storeE (some 1) x6 x102 H110) fun H111 =>
 ForX true H111 fun H112 =>
 TakeD D38 H112 fun H113 =>
 Pu (loadE (some none) x2 H113) fun x103 =>
 Pu (loadE (some none) x4 H113) fun x104 =>
 Pu (loadE (some none) x6 H113) fun x105 =>
 R (.tuple #[x103, x104, x105]) H113)
 (And
 (ForX true H36 fun H92 =>
 Pu (storeE (some 1) x2 (.int .i64 0) H92) fun H93 =>
 And
 (Pu (loadE (some none) x13 H93) fun x98 =>
 ForX true H93 fun H100 =>
 Pu (storeE (some 1) x4 (.int .i64 0) H100) fun H101 =>
 ForX true H101 fun H102 =>
 Pu (storeE (some 1) x6 x98 H102) fun H103 =>
 ForX true H103 fun H104 =>
 TakeD D38 H104 fun H105 =>
 Pu (loadE (some none) x2 H105) fun x99 =>
 Pu (loadE (some none) x4 H105) fun x100 =>
 Pu (loadE (some none) x6 H105) fun x101 =>
 R (.tuple #[x99, x100, x101]) H105)
 (And
 (ForX true H93 fun H94 =>
 Pu (storeE (some 1) x4 (.int .i64 0) H94) fun H95 =>
 Pu (loadE (some none) x13 H95) fun x94 =>
 ForX true H95 fun H96 =>
 Pu (storeE (some 1) x6 x94 H96) fun H97 =>
 ForX true H97 fun H98 =>
 TakeD D38 H98 fun H99 =>
 Pu (loadE (some none) x2 H99) fun x95 =>
 Pu (loadE (some none) x4 H99) fun x96 =>
 Pu (loadE (some none) x6 H99) fun x97 =>
 R (.tuple #[x95, x96, x97]) H99)
 (True)))
 (True)))
 (Pu (addrE (some 2) x11) fun x106 =>
 Pu (loadE (some none) x106 H36) fun x107 =>
 Pu (binE (some (.int .u32)) .geq x107 (.int .u32 67381248)) fun x108 =>
 Ite x108
 (Pu (storeE (some 1) x2 (.int .i64 0) H36) fun H114 =>
 Pu (storeE (some 1) x4 (.int .i64 0) H114) fun H115 =>
 Pu (storeE (some 1) x6 (.int .i64 17) H115) fun H116 =>
 TakeD D38 H116 fun H117 =>
 Pu (loadE (some none) x2 H117) fun x109 =>
 Pu (loadE (some none) x4 H117) fun x110 =>
 Pu (loadE (some none) x6 H117) fun x111 =>
 R (.tuple #[x109, x110, x111]) H117)
 (Pu (addrE (some 2) x11) fun x112 =>
 Pu (loadE (some none) x112 H36) fun x113 =>
 Pu (convE (some (.int .u32)) (some (.int .i64)) x113) fun x114 =>
 Pu (binE (some (.int .i64)) .quo x114 (.int .i64 1024)) fun x115 =>
 Fc Tryz.prog 68 #[v0, v1, x115, (.int .i64 1)] H36 fun x116 H118 =>
 Pu (extractE x116 0) fun x117 =>
 Pu (extractE x116 1) fun x118 =>
 Pu (storeE (some 1) x13 x118 H118) fun H119 =>
 Pu (loadE (some none) x13 H119) fun x119 =>
 Pu (binE (some (.int .i64)) .neq x119 (.int .i64 0)) fun x120 =>
 Ite x120
 (And
 (Pu (loadE (some none) x13 H119) fun x129 =>
 ForX true H119 fun H134 =>
 Pu (storeE (some 1) x2 (.int .i64 0) H134) fun H135 =>
 ForX true H135 fun H136 =>
 Pu (storeE (some 1) x4 (.int .i64 0) H136) fun H137 =>
 ForX true H137 fun H138 =>
 Pu (storeE (some 1) x6 x129 H138) fun H139 =>
 ForX true H139 fun H140 =>
 TakeD D38 H140 fun H141 =>
 Pu (loadE (some none) x2 H141) fun x130 =>
 Pu (loadE (some none) x4 H141) fun x131 =>
 Pu (loadE (some none) x6 H141) fun x132 =>
 R (.tuple #[x130, x131, x132]) H141)
 (And
 (ForX true H119 fun H120 =>
 Pu (storeE (some 1) x2 (.int .i64 0) H120) fun H121 =>
 And
 (Pu (loadE (some none) x13 H121) fun x125 =>
 ForX true H121 fun H128 =>
 Pu (storeE (some 1) x4 (.int .i64 0) H128) fun H129 =>
 ForX true H129 fun H130 =>
 Pu (storeE (some 1) x6 x125 H130) fun H131 =>
 ForX true H131 fun H132 =>
 TakeD D38 H132 fun H133 =>
 Pu (loadE (some none) x2 H133) fun x126 =>
 Pu (loadE (some none) x4 H133) fun x127 =>
 Pu (loadE (some none) x6 H133) fun x128 =>
 R (.tuple #[x126, x127, x128]) H133)
 (And
 (ForX true H121 fun H122 =>
 Pu (storeE (some 1) x4 (.int .i64 0) H122) fun H123 =>
 Pu (loadE (some none) x13 H123) fun x121 =>
 ForX true H123 fun H124 =>
 Pu (storeE (some 1) x6 x121 H124) fun H125 =>
 ForX true H125 fun H126 =>
 TakeD D38 H126 fun H127 =>
 Pu (loadE (some none) x2 H127) fun x122 =>
 Pu (loadE (some none) x4 H127) fun x123 =>
 Pu (loadE (some none) x6 H127) fun x124 =>
 R (.tuple #[x122, x123, x124]) H127)
 (True)))
 (True)))
 (Pu (addrE (some 2) x11) fun x133 =>
 Pu (loadE (some none) x133 H119) fun x134 =>
 Pu (convE (some (.int .u32)) (some (.int .i64)) x134) fun x135 =>
 Pu (binE (some (.int .i64)) .quo x135 (.int .i64 16)) fun x136 =>
 Pu (storeE (some 1) x2 x136 H119) fun H142 =>
 Pu (storeE (some 1) x4 x117 H142) fun H143 =>
 Pu (storeE (some 1) x6 (.int .i64 0) H143) fun H144 =>
 TakeD D38 H144 fun H145 =>
 Pu (loadE (some none) x2 H145) fun x137 =>
 Pu (loadE (some none) x4 H145) fun x138 =>
 Pu (loadE (some none) x6 H145) fun x139 =>
 R (.tuple #[x137, x138, x139]) H145)))) (False))))
set_option maxRecDepth 100000 in
theorem fn28 {v0 v1 : Value} {H : Hp} {R : Value → Hp → Prop} (h : sh28 v0 v1 H R) : Fc Tryz.prog 28 #[v0, v1] H R :=
 fn_of_vcp (fun f => [].contains f) [(3, (.fork [] (.cons 0 (.line [1, 2, 3]) (.cons 1 (.fork [] (.cons 0 (.line [2, 3]) (.cons 2 (.line [0, 3]) .nil))) .nil)))), (10, (.fork [] (.cons 0 (.line [1, 2, 3]) (.cons 1 (.fork [] (.cons 0 (.line [2, 3]) (.cons 2 (.line [0, 3]) .nil))) .nil)))), (15, (.fork [] (.cons 0 (.line [1, 2, 3]) (.cons 1 (.fork [] (.cons 0 (.line [2, 3]) (.cons 2 (.line [0, 3]) .nil))) .nil))))] (.seq .nil (.seq .nil (.seq .nil (.seq (.seq .nil (.seq .nil .nil)) .nil)))) Tryz.func28 (args := [v0, v1]) (Eq.mp (by kernel_rfl : sh28 v0 v1 H R = _) h)

/- undercroft/dir.Find -/
def sh29 (v0 v1 v2 : Value) (H : Hp) (R : Value → Hp → Prop) : Prop :=
 Box 9 v2 H fun x1 H1 =>
 Pu (zeroE Tryz.prog 3) fun x2 => Box 3 x2 H1 fun x3 H2 =>
 Pu (zeroE Tryz.prog 3) fun x4 => Box 3 x4 H2 fun x5 H3 =>
 Pu (zeroE Tryz.prog 35) fun x6 => Box 35 x6 H3 fun x7 H4 =>
 Fc Tryz.prog 66 #[v0, v1] H4 fun x8 H5 =>
 Pu (extractE x8 0) fun x9 =>
 Pu (extractE x8 1) fun x10 =>
 Pu (zeroE Tryz.prog 78) fun x11 => Box 78 x11 H5 fun x12 H6 =>
 Pu (zeroE Tryz.prog 35) fun x13 => Box 35 x13 H6 fun x14 H7 =>
 Pu (storeE (some 16) x12 x9 H7) fun H8 =>
 Pu (storeE (some 1) x14 x10 H8) fun H9 =>
 Pu (loadE (some none) x14 H9) fun x15 =>
 Pu (binE (some (.int .i64)) .neq x15 (.int .i64 0)) fun x16 =>
 Ite x16
 (And
 (Pu (loadE (some none) x14 H9) fun x25 =>
 ForX true H9 fun H22 =>
 Pu (storeE (some 1) x3 (.int .i64 0) H22) fun H23 =>
 ForX true H23 fun H24 =>
 Pu (storeE (some 1) x5 (.int .i64 0) H24) fun H25 =>
 ForX true H25 fun H26 =>
 Pu (storeE (some 1) x7 x25 H26) fun H27 =>
 ForX true H27 fun H28 =>
 Pu (loadE (some none) x3 H28) fun x26 =>
 Pu (loadE (some none) x5 H28) fun x27 =>
 Pu (loadE (some none) x7 H28) fun x28 =>
 R (.tuple #[x26, x27, x28]) H28)
 (And
 (ForX true H9 fun H10 =>
 Pu (storeE (some 1) x3 (.int .i64 0) H10) fun H11 =>
 And
 (Pu (loadE (some none) x14 H11) fun x21 =>
 ForX true H11 fun H17 =>
 Pu (storeE (some 1) x5 (.int .i64 0) H17) fun H18 =>
 ForX true H18 fun H19 =>
 Pu (storeE (some 1) x7 x21 H19) fun H20 =>
 ForX true H20 fun H21 =>
 Pu (loadE (some none) x3 H21) fun x22 =>
 Pu (loadE (some none) x5 H21) fun x23 =>
 Pu (loadE (some none) x7 H21) fun x24 =>
 R (.tuple #[x22, x23, x24]) H21)
 (And
 (ForX true H11 fun H12 =>
 Pu (storeE (some 1) x5 (.int .i64 0) H12) fun H13 =>
 Pu (loadE (some none) x14 H13) fun x17 =>
 ForX true H13 fun H14 =>
 Pu (storeE (some 1) x7 x17 H14) fun H15 =>
 ForX true H15 fun H16 =>
 Pu (loadE (some none) x3 H16) fun x18 =>
 Pu (loadE (some none) x5 H16) fun x19 =>
 Pu (loadE (some none) x7 H16) fun x20 =>
 R (.tuple #[x18, x19, x20]) H16)
 (True)))
 (True)))
 (Pu (loadE (some none) x1 H9) fun x29 =>
 Fc Tryz.prog 69 #[x29] H9 fun x30 H29 =>
 Pu (storeE (some 1) x14 x30 H29) fun H30 =>
 Pu (loadE (some none) x14 H30) fun x31 =>
 Pu (binE (some (.int .i64)) .neq x31 (.int .i64 0)) fun x32 =>
 Ite x32
 (And
 (Pu (loadE (some none) x14 H30) fun x41 =>
 ForX true H30 fun H43 =>
 Pu (storeE (some 1) x3 (.int .i64 0) H43) fun H44 =>
 ForX true H44 fun H45 =>
 Pu (storeE (some 1) x5 (.int .i64 0) H45) fun H46 =>
 ForX true H46 fun H47 =>
 Pu (storeE (some 1) x7 x41 H47) fun H48 =>
 ForX true H48 fun H49 =>
 Pu (loadE (some none) x3 H49) fun x42 =>
 Pu (loadE (some none) x5 H49) fun x43 =>
 Pu (loadE (some none) x7 H49) fun x44 =>
 R (.tuple #[x42, x43, x44]) H49)
 (And
 (ForX true H30 fun H31 =>
 Pu (storeE (some 1) x3 (.int .i64 0) H31) fun H32 =>
 And
 (Pu (loadE (some none) x14 H32) fun x37 =>
 ForX true H32 fun H38 =>
 Pu (storeE (some 1) x5 (.int .i64 0) H38) fun H39 =>
 ForX true H39 fun H40 =>
 Pu (storeE (some 1) x7 x37 H40) fun H41 =>
 ForX true H41 fun H42 =>
 Pu (loadE (some none) x3 H42) fun x38 =>
 Pu (loadE (some none) x5 H42) fun x39 =>
 Pu (loadE (some none) x7 H42) fun x40 =>
 R (.tuple #[x38, x39, x40]) H42)
 (And
 (ForX true H32 fun H33 =>
 Pu (storeE (some 1) x5 (.int .i64 0) H33) fun H34 =>
 Pu (loadE (some none) x14 H34) fun x33 =>
 ForX true H34 fun H35 =>
 Pu (storeE (some 1) x7 x33 H35) fun H36 =>
 ForX true H36 fun H37 =>
 Pu (loadE (some none) x3 H37) fun x34 =>
 Pu (loadE (some none) x5 H37) fun x35 =>
 Pu (loadE (some none) x7 H37) fun x36 =>
 R (.tuple #[x34, x35, x36]) H37)
 (True)))
 (True)))
 (Pu (loadE (some (some 16)) x12 H30) fun x45 =>
 Fc Tryz.prog 67 #[v0, v1, x45, x14] H30 fun x46 H50 =>
 RangeF Tryz.prog x46 2 H50 (fun s46 H51 B47 K48 =>
 Pu (zeroE Tryz.prog 68) fun x50 => Box 68 x50 H51 fun x51 H52 =>
 Pu (storeE (some 2) x51 s46.2.1 H52) fun H53 =>
 B47 H53 fun H54 =>
 Join (n := 1) (fun s51 H55 => Any fun _ =>
 Ite s51.1
 (Pu (addrE (some 0) x51) fun x54 =>
 And
 (Pu (loadE (some none) x54 H55) fun x57 =>
 Pu (convE (some (.int .u16)) (some (.int .i64)) x57) fun x58 =>
 ForX true H55 fun H63 =>
 Pu (storeE (some 1) x3 s46.1 H63) fun H64 =>
 ForX true H64 fun H65 =>
 Pu (storeE (some 1) x5 x58 H65) fun H66 =>
 ForX true H66 fun H67 =>
 Pu (storeE (some 1) x7 (.int .i64 0) H67) fun H68 =>
 ForX true H68 fun H69 =>
 K48 (some none) H69)
 (And
 (ForX true H55 fun H56 =>
 Pu (storeE (some 1) x3 s46.1 H56) fun H57 =>
 Pu (loadE (some none) x54 H57) fun x55 =>
 Pu (convE (some (.int .u16)) (some (.int .i64)) x55) fun x56 =>
 ForX true H57 fun H58 =>
 Pu (storeE (some 1) x5 x56 H58) fun H59 =>
 ForX true H59 fun H60 =>
 Pu (storeE (some 1) x7 (.int .i64 0) H60) fun H61 =>
 ForX true H61 fun H62 =>
 K48 (some none) H62)
 (True)))
 (K48 none H55))
 (fun K58 => Pu (addrE (some 0) x51) fun x60 =>
 Pu (loadE (some none) x60 H54) fun x61 =>
 Pu (binE (some (.int .u16)) .neq x61 (.int .u16 0)) fun x62 =>
 Ite x62
 (Pu (addrE (some 1) x51) fun x63 =>
 Pu (loadE (some none) x63 H54) fun x64 =>
 Pu (loadE (some none) x1 H54) fun x65 =>
 Pu (binE (some .string) .eql x64 x65) fun x66 =>
 K58 (x66, ()) H54)
 (K58 ((.bool false), ()) H54)))
 (fun j66 D67 H70 => onJ j66
 (Pu (loadE (some none) x14 H70) fun x70 =>
 Pu (binE (some (.int .i64)) .neq x70 (.int .i64 0)) fun x71 =>
 Ite x71
 (And
 (Pu (loadE (some none) x14 H70) fun x80 =>
 ForX true H70 fun H85 =>
 Pu (storeE (some 1) x3 (.int .i64 0) H85) fun H86 =>
 ForX true H86 fun H87 =>
 Pu (storeE (some 1) x5 (.int .i64 0) H87) fun H88 =>
 ForX true H88 fun H89 =>
 Pu (storeE (some 1) x7 x80 H89) fun H90 =>
 ForX true H90 fun H91 =>
 TakeD D67 H91 fun H92 =>
 Pu (loadE (some none) x3 H92) fun x81 =>
 Pu (loadE (some none) x5 H92) fun x82 =>
 Pu (loadE (some none) x7 H92) fun x83 =>
 R (.tuple #[x81, x82, x83]) H92)
 (And
 (ForX true H70 fun H71 =>
 Pu (storeE (some 1) x3 (.int .i64 0) H71) fun H72 =>
 And
 (Pu (loadE (some none) x14 H72) fun x76 =>
 ForX true H72 fun H79 =>
 Pu (storeE (some 1) x5 (.int .i64 0) H79) fun H80 =>
 ForX true H80 fun H81 =>
 Pu (storeE (some 1) x7 x76 H81) fun H82 =>
 ForX true H82 fun H83 =>
 TakeD D67 H83 fun H84 =>
 Pu (loadE (some none) x3 H84) fun x77 =>
 Pu (loadE (some none) x5 H84) fun x78 =>
 Pu (loadE (some none) x7 H84) fun x79 =>
 R (.tuple #[x77, x78, x79]) H84)
 (And
 (ForX true H72 fun H73 =>
 Pu (storeE (some 1) x5 (.int .i64 0) H73) fun H74 =>
 Pu (loadE (some none) x14 H74) fun x72 =>
 ForX true H74 fun H75 =>
 Pu (storeE (some 1) x7 x72 H75) fun H76 =>
 ForX true H76 fun H77 =>
 TakeD D67 H77 fun H78 =>
 Pu (loadE (some none) x3 H78) fun x73 =>
 Pu (loadE (some none) x5 H78) fun x74 =>
 Pu (loadE (some none) x7 H78) fun x75 =>
 R (.tuple #[x73, x74, x75]) H78)
 (True)))
 (True)))
 (Pu (storeE (some 1) x3 (.int .i64 0) H70) fun H93 =>
 Pu (storeE (some 1) x5 (.int .i64 0) H93) fun H94 =>
 Pu (storeE (some 1) x7 (.int .i64 5) H94) fun H95 =>
 TakeD D67 H95 fun H96 =>
 Pu (loadE (some none) x3 H96) fun x84 =>
 Pu (loadE (some none) x5 H96) fun x85 =>
 Pu (loadE (some none) x7 H96) fun x86 =>
 R (.tuple #[x84, x85, x86]) H96))
 (TakeD D67 H70 fun H97 =>
 Pu (loadE (some none) x3 H97) fun x87 =>
 Pu (loadE (some none) x5 H97) fun x88 =>
 Pu (loadE (some none) x7 H97) fun x89 =>
 R (.tuple #[x87, x88, x89]) H97)
 (fun id68 => isX id68 0 (Pu (loadE (some none) x14 H70) fun x90 =>
 Pu (binE (some (.int .i64)) .neq x90 (.int .i64 0)) fun x91 =>
 Ite x91
 (And
 (Pu (loadE (some none) x14 H70) fun x100 =>
 ForX true H70 fun H112 =>
 Pu (storeE (some 1) x3 (.int .i64 0) H112) fun H113 =>
 ForX true H113 fun H114 =>
 Pu (storeE (some 1) x5 (.int .i64 0) H114) fun H115 =>
 ForX true H115 fun H116 =>
 Pu (storeE (some 1) x7 x100 H116) fun H117 =>
 ForX true H117 fun H118 =>
 TakeD D67 H118 fun H119 =>
 Pu (loadE (some none) x3 H119) fun x101 =>
 Pu (loadE (some none) x5 H119) fun x102 =>
 Pu (loadE (some none) x7 H119) fun x103 =>
 R (.tuple #[x101, x102, x103]) H119)
 (And
 (ForX true H70 fun H98 =>
 Pu (storeE (some 1) x3 (.int .i64 0) H98) fun H99 =>
 And
 (Pu (loadE (some none) x14 H99) fun x96 =>
 ForX true H99 fun H106 =>
 Pu (storeE (some 1) x5 (.int .i64 0) H106) fun H107 =>
 ForX true H107 fun H108 =>
 Pu (storeE (some 1) x7 x96 H108) fun H109 =>
 ForX true H109 fun H110 =>
 TakeD D67 H110 fun H111 =>
 Pu (loadE (some none) x3 H111) fun x97 =>
 Pu (loadE (some none) x5 H111) fun x98 =>
 Pu (loadE (some none) x7 H111) fun x99 =>
 R (.tuple #[x97, x98, x99]) H111)
 (And
 (ForX true H99 fun H100 =>
 Pu (storeE (some 1) x5 (.int .i64 0) H100) fun H101 =>
 Pu (loadE (some none) x14 H101) fun x92 =>
 ForX true H101 fun H102 =>
 Pu (storeE (some 1) x7 x92 H102) fun H103 =>
 ForX true H103 fun H104 =>
 TakeD D67 H104 fun H105 =>
 Pu (loadE (some none) x3 H105) fun x93 =>
 Pu (loadE (some none) x5 H105) fun x94 =>
 Pu (loadE (some none) x7 H105) fun x95 =>
 R (.tuple #[x93, x94, x95]) H105)
 (True)))
 (True)))
 (Pu (storeE (some 1) x3 (.int .i64 0) H70) fun H120 =>
 Pu (storeE (some 1) x5 (.int .i64 0) H120) fun H121 =>
 Pu (storeE (some 1) x7 (.int .i64 5) H121) fun H122 =>
 TakeD D67 H122 fun H123 =>
 Pu (loadE (some none) x3 H123) fun x104 =>
 Pu (loadE (some none) x5 H123) fun x105 =>
 Pu (loadE (some none) x7 H123) fun x106 =>
 R (.tuple #[x104, x105, x106]) H123)) (False)))))
set_option maxRecDepth 100000 in
theorem fn29 {v0 v1 v2 : Value} {H : Hp} {R : Value → Hp → Prop} (h : sh29 v0 v1 v2 H R) : Fc Tryz.prog 29 #[v0, v1, v2] H R :=
 fn_of_vcp (fun f => [].contains f) [(3, (.fork [] (.cons 0 (.line [1, 2, 3]) (.cons 1 (.fork [] (.cons 0 (.line [2, 3]) (.cons 2 (.line [0, 3]) .nil))) .nil)))), (6, (.fork [] (.cons 0 (.line [1, 2, 3]) (.cons 1 (.fork [] (.cons 0 (.line [2, 3]) (.cons 2 (.line [0, 3]) .nil))) .nil)))), (11, (.fork [0, 1] (.cons 2 (.line [3, 4, 5, 6]) (.cons 4 (.line [2, 3, 5, 6]) .nil)))), (13, (.fork [] (.cons 0 (.line [1, 2, 3]) (.cons 1 (.fork [] (.cons 0 (.line [2, 3]) (.cons 2 (.line [0, 3]) .nil))) .nil))))] (.seq .nil (.seq .nil (.seq .nil (.seq .nil (.seq (.seq .nil (.seq .nil (.join [41] [33, 34, 35, 36, 37, 38, 39, 40] .nil .nil))) .nil))))) Tryz.func29 (args := [v0, v1, v2]) (Eq.mp (by kernel_rfl : sh29 v0 v1 v2 H R = _) h)

/- undercroft/undercroftlaw19.DirNone -/
def sh8 (v0 : Value) (H : Hp) (R : Value → Hp → Prop) : Prop :=
 Box 95 v0 H fun x1 H1 =>
 Fc Tryz.prog 34 #[] H1 fun x2 H2 =>
 Pu (addrE (some 1) x1) fun x3 =>
 Pu (loadE (some none) x3 H2) fun x4 =>
 Pu (addrE (some 4) x1) fun x5 =>
 Pu (loadE (some none) x5 H2) fun x6 =>
 Fc Tryz.prog 29 #[(.pointer none), x4, x6] H2 fun x7 H3 =>
 Pu (extractE x7 0) fun x8 =>
 Pu (extractE x7 1) fun x9 =>
 Pu (extractE x7 2) fun x10 =>
 Pu (addrE (some 1) x1) fun x11 =>
 Pu (loadE (some none) x11 H3) fun x12 =>
 Fc Tryz.prog 30 #[(.pointer none), x12] H3 fun x13 H4 =>
 Pu (extractE x13 0) fun x14 =>
 Pu (extractE x13 1) fun x15 =>
 Pu (addrE (some 1) x1) fun x16 =>
 Pu (loadE (some none) x16 H4) fun x17 =>
 Fc Tryz.prog 28 #[(.pointer none), x17] H4 fun x18 H5 =>
 Pu (extractE x18 0) fun x19 =>
 Pu (extractE x18 1) fun x20 =>
 Pu (extractE x18 2) fun x21 =>
 Pu (addrE (some 1) x1) fun x22 =>
 Pu (loadE (some none) x22 H5) fun x23 =>
 Pu (addrE (some 2) x1) fun x24 =>
 Pu (loadE (some none) x24 H5) fun x25 =>
 Pu (addrE (some 3) x1) fun x26 =>
 Pu (loadE (some none) x26 H5) fun x27 =>
 Pu (convE (some (.int .i64)) (some (.int .u16)) x27) fun x28 =>
 Pu (addrE (some 4) x1) fun x29 =>
 Pu (loadE (some none) x29 H5) fun x30 =>
 Pu (buildE Tryz.prog 68 [(0, x28), (1, x30)]) fun x31 =>
 Fc Tryz.prog 31 #[(.pointer none), x23, x25, x31] H5 fun x32 H6 =>
 Pu (addrE (some 1) x1) fun x33 =>
 Pu (loadE (some none) x33 H6) fun x34 =>
 Fc Tryz.prog 36 #[(.pointer none), x34] H6 fun x35 H7 =>
 Pu (extractE x35 0) fun x36 =>
 Pu (extractE x35 1) fun x37 =>
 Ite x2
 (Pu (binE (some (.int .i64)) .eql x8 (.int .i64 0)) fun x38 =>
 Ite x38
 (Pu (binE (some (.int .i64)) .eql x9 (.int .i64 0)) fun x39 =>
 Ite x39
 (Pu (binE (some (.int .i64)) .eql x10 (.int .i64 1)) fun x40 =>
 Ite x40
 (Pu (lenE Tryz.prog 64 x14) fun x41 =>
 Pu (binE (some (.int .i64)) .eql x41 (.int .i64 0)) fun x42 =>
 Ite x42
 (Pu (binE (some (.int .i64)) .eql x15 (.int .i64 1)) fun x43 =>
 Ite x43
 (Pu (binE (some (.int .i64)) .eql x19 (.int .i64 0)) fun x44 =>
 Ite x44
 (Pu (binE (some (.int .i64)) .eql x20 (.int .i64 0)) fun x45 =>
 Ite x45
 (Pu (binE (some (.int .i64)) .eql x21 (.int .i64 1)) fun x46 =>
 Ite x46
 (Pu (binE (some (.int .i64)) .eql x32 (.int .i64 1)) fun x47 =>
 Ite x47
 (Pu (unE .not x36) fun x48 =>
 Ite x48
 (Pu (binE (some (.int .i64)) .eql x37 (.int .i64 1)) fun x49 =>
 R x49 H7)
 (R (.bool false) H7))
 (R (.bool false) H7))
 (R (.bool false) H7))
 (R (.bool false) H7))
 (R (.bool false) H7))
 (R (.bool false) H7))
 (R (.bool false) H7))
 (R (.bool false) H7))
 (R (.bool false) H7))
 (R (.bool false) H7))
 (R (.bool false) H7)
set_option maxRecDepth 100000 in
theorem fn8 {v0 : Value} {H : Hp} {R : Value → Hp → Prop} (h : sh8 v0 H R) : Fc Tryz.prog 8 #[v0] H R :=
 fn_of_vc (fun f => [].contains f) .nil Tryz.func8 (args := [v0]) (Eq.mp (by kernel_rfl : sh8 v0 H R = _) h)
end Go.Proofs
