/- Functions, run; each tied to the program. -/
import Derived.Test.YtkbbonhbihmbcaaGreatRRZ21x21
set_option linter.unusedVariables false
set_option linter.unusedSimpArgs false
namespace Go.Proofs
open Go.Vc Go.Xc

/- undercroft/undercroftlaw21.WalkNil -/
noncomputable abbrev c3_1 (x29 : CV) (K32 : TupC 1 → CH → Bool) (h9 : CH) (x19 : CV) (x25 : CV) (x30 : CV) : Bool :=
 xIte x29
  (K32 ((.bool true), ()) h9)
  (xBin (some (.int .i64)) .neq x19 (.int .i64 (.ofNat 1)) fun x37 =>
  xIte x37
   (K32 ((.bool true), ()) h9)
   (xBin (some (.int .i64)) .neq x25 (.int .i64 (.ofNat 1)) fun x38 =>
   xIte x38
    (K32 ((.bool true), ()) h9)
    (xBin (some (.int .i64)) .neq x30 (.int .i64 (.ofNat 1)) fun x39 =>
    K32 (x39, ()) h9)))
noncomputable abbrev c3_2 (k : CV → CH → Bool) (s11 : TupC 1) (K12 : TupC 1 → CH → Bool) (x18 : CV) (h9 : CH) (x23 : CV) (x24 : CV) (x29 : CV) (x19 : CV) (x25 : CV) (x30 : CV) : Bool :=
 xJoin (n := 1) (fun s30 h10 =>
  xIte s30.1
   (k (.bool false) h10)
   (xBin (some (.int .i64)) .add s11.1 (.int .i64 (.ofNat 1)) fun x32 =>
   K12 (x32, ()) h10))
 (fun K32 => xBin (some (.int .i64)) .neq x18 (.int .i64 (.ofNat 0)) fun x34 =>
 xIte x34
  (K32 ((.bool true), ()) h9)
  (xBin (some (.int .i64)) .neq x23 (.int .i64 (.ofNat 0)) fun x35 =>
  xIte x35
   (K32 ((.bool true), ()) h9)
   (xBin (some .string) .neq x24 (.str ⟨#[]⟩) fun x36 =>
   xIte x36
    (K32 ((.bool true), ()) h9)
    (c3_1 x29 K32 h9 x19 x25 x30))))
noncomputable abbrev c3_3 (x20 : CV) (h7 : CH) (v0 : CV) (x11 : CV) (s11 : TupC 1) (v1 : CV) (v2 : CV) (k : CV → CH → Bool) (K12 : TupC 1 → CH → Bool) (x18 : CV) (x19 : CV) : Bool :=
 xLoad (some none) x20 h7 fun x21 =>
 bd14 x21 v0 h7 fun x22 h8 =>
 xExtract x22 0 fun x23 =>
 xExtract x22 1 fun x24 =>
 xExtract x22 2 fun x25 =>
 xIdx (some (none, 1)) x11 s11.1 fun x26 =>
 xLoad (some none) x26 h8 fun x27 =>
 bd15 x27 v1 v2 h8 fun x28 h9 =>
 xExtract x28 0 fun x29 =>
 xExtract x28 1 fun x30 =>
 c3_2 k s11 K12 x18 h9 x23 x24 x29 x19 x25 x30
noncomputable abbrev c3_4 (s11 : TupC 1) (x11 : CV) (h6 : CH) (v0 : CV) (v1 : CV) (v2 : CV) (k : CV → CH → Bool) (K12 : TupC 1 → CH → Bool) : Bool :=
 xBin (some (.int .i64)) .lss s11.1 (.int .i64 (.ofNat 3)) fun x14 =>
 xIte x14
  (xIdx (some (none, 1)) x11 s11.1 fun x15 =>
  xLoad (some none) x15 h6 fun x16 =>
  bd13 x16 v0 h6 fun x17 h7 =>
  xExtract x17 0 fun x18 =>
  xExtract x17 1 fun x19 =>
  xIdx (some (none, 1)) x11 s11.1 fun x20 =>
  c3_3 x20 h7 v0 x11 s11 v1 v2 k K12 x18 x19)
  (k (.bool true) h6)
noncomputable abbrev c3_5 (h3 : CH) (x3 : CV) (v0 : CV) (v1 : CV) (v2 : CV) (k : CV → CH → Bool) : Bool :=
 xBoxP 51 [.nils, .nilm, .nilp, .nilp, (.int .i64 (.ofNat 0)), (.int .i64 (.ofNat 0)), (.int .i64 (.ofNat 0)), (.int .i64 (.ofNat 0)), (.int .i64 (.ofNat 0)), (.int .i64 (.ofNat 0)), (.int .i64 (.ofNat 0)), (.int .i64 (.ofNat 0)), (.int .i64 (.ofNat 0)), (.int .i64 (.ofNat 0)), (.bool false), (.int .i64 (.ofNat 0)), .nilm, (.int .i64 (.ofNat 0)), (.int .i64 (.ofNat 0))] h3 fun x7 h4 =>
 xNilCheck x3 fun x8 =>
 xAddr (some 1) x8 fun x9 =>
 xLoad (some none) x9 h4 fun x10 =>
 xNewS (some (37, 1, 8, false)) (some [.nilp]) 3 [(0, .nilp), (1, x7), (2, x10)] h4 fun x11 h5 =>
 xLoop (n := 1) (fun K12 s11 h6 =>
  c3_4 s11 x11 h6 v0 v1 v2 k K12) 1000000 ((.int .i64 (.ofNat 0)), ()) h5
noncomputable abbrev c3_6 (x42 : CV) (K39 : TupC 1 → CH → Bool) (h2 : CH) (x3 : CV) : Bool :=
 xIte x42
  (K39 ((.bool true), ()) h2)
  (ex11 [] h2 fun x43 h11 =>
  xUn .not x43 fun x44 =>
  xIte x44
   (K39 ((.bool true), ()) h11)
   (xNilCheck x3 fun x45 =>
   xAddr (some 1) x45 fun x46 =>
   xLoad (some none) x46 h11 fun x47 =>
   bd12 x47 h11 fun x48 h12 =>
   xBin (some (.int .i64)) .neq x48 (.int .i64 (.ofNat 0)) fun x49 =>
   K39 (x49, ()) h12))
noncomputable def bd3 (v0 v1 v2 : CV) (h : CH) (k : CV → CH → Bool) : Bool :=
 bd10 h fun x1 h1 =>
 bd9 x1 h1 fun x2 h2 =>
 xExtract x2 0 fun x3 =>
 xExtract x2 1 fun x4 =>
 xExtract x2 2 fun x5 =>
 xJoin (n := 1) (fun s5 h3 =>
  xIte s5.1
   (k (.bool false) h3)
   (c3_5 h3 x3 v0 v1 v2 k))
 (fun K39 => xUn .not x4 fun x41 =>
 xIte x41
  (K39 ((.bool true), ()) h2)
  (xUn .not x5 fun x42 =>
  c3_6 x42 K39 h2 x3))
noncomputable abbrev ex3 : Ex := fun args h k => a3 args fun v0 v1 v2 => bd3 v0 v1 v2 h k
set_option maxRecDepth 100000 in
theorem sim3 : SimF Tryz.prog 3 ex3 := fun args h k hk => by
  obtain ⟨v0, v1, v2, rfl, hk⟩ := a3_ok hk
  exact sim_of (qf := (fun f => [83, 84, 97, 101, 102, 103, 115, 122, 138, 144, 154, 161, 162, 175, 185, 214].contains f)) (Z := zs) (C := [(10, ex10), (9, ex9), (13, ex13), (14, ex14), (15, ex15), (11, ex11), (12, ex12)]) (T := []) ⟨zerosB_ok zsOk, (exCons (by kernel_rfl) sim10 (exCons (by kernel_rfl) sim9 (exCons (by kernel_rfl) sim13 (exCons (by kernel_rfl) sim14 (exCons (by kernel_rfl) sim15 (exCons (by kernel_rfl) sim11 (exCons (by kernel_rfl) sim12 exNil)))))))⟩ (.seq .nil (.seq .nil (.seq (.join [43] [26, 27, 28, 29, 30, 31, 32, 33, 34, 35, 36, 37, 38, 39, 40, 41, 42] .nil .nil) (.seq .nil (.seq .nil (.seq (.seq .nil (.loop [12] [49, 50, 54, 55, 56, 57, 58, 59, 53, 60, 61, 13, 14, 63, 64, 65, 66, 67, 68, 62, 69, 70, 71, 15, 16, 17, 73, 74, 75, 76, 77, 78, 79, 72, 80, 81, 18, 19, 82, 83, 84, 85, 86, 87, 88, 89, 90, 91, 92, 93, 94, 95, 96, 97, 98, 99, 100, 101, 102, 103, 104, 105, 106, 6, 51, 52] (.seq .nil (.seq (.seq .nil (.seq .nil (.seq .nil (.join [106] [82, 83, 84, 85, 86, 87, 88, 89, 90, 91, 92, 93, 94, 95, 96, 97, 98, 99, 100, 101, 102, 103, 104, 105] .nil .nil)))) .nil)))) .nil)))))) Tryz.func3 _ h k (Eq.mp (by kernel_rfl : (bd3 v0 v1 v2 h k = true) = (xFn Tryz.prog (fun f => [83, 84, 97, 101, 102, 103, 115, 122, 138, 144, 154, 161, 162, 175, 185, 214].contains f) zs [(10, ex10), (9, ex9), (13, ex13), (14, ex14), (15, ex15), (11, ex11), (12, ex12)] [] Tryz.f3 (.seq .nil (.seq .nil (.seq (.join [43] [26, 27, 28, 29, 30, 31, 32, 33, 34, 35, 36, 37, 38, 39, 40, 41, 42] .nil .nil) (.seq .nil (.seq .nil (.seq (.seq .nil (.loop [12] [49, 50, 54, 55, 56, 57, 58, 59, 53, 60, 61, 13, 14, 63, 64, 65, 66, 67, 68, 62, 69, 70, 71, 15, 16, 17, 73, 74, 75, 76, 77, 78, 79, 72, 80, 81, 18, 19, 82, 83, 84, 85, 86, 87, 88, 89, 90, 91, 92, 93, 94, 95, 96, 97, 98, 99, 100, 101, 102, 103, 104, 105, 106, 6, 51, 52] (.seq .nil (.seq (.seq .nil (.seq .nil (.seq .nil (.join [106] [82, 83, 84, 85, 86, 87, 88, 89, 90, 91, 92, 93, 94, 95, 96, 97, 98, 99, 100, 101, 102, 103, 104, 105] .nil .nil)))) .nil)))) .nil)))))) [v0, v1, v2] h k = true)) hk)
set_option maxHeartbeats 4000000 in
theorem okn3 : ex3 [.nils, .junk, .junk] h0 (fun z _ => isTrue z) = true := by kernel_rfl
set_option maxHeartbeats 4000000 in
theorem oks3 (o n c : Nat) : ex3 [.sl 0 o n c, .junk, .junk] hS (fun z _ => isTrue z) = true := by kernel_rfl
end Go.Proofs
