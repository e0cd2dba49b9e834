/-
  No cell of these rows narrows 'for every input' (looked for: loops, veiled, ifaces, maps, wideKeys, modest, calm, conditions, laid).
  DERIVED. THE GIVEN ROWS OF THIS SEAT. 6 by the template 'for every input the law returns true; each argument reads behind the call as it read before'; 0 by the template 'total and deterministic' (their statements: YtkbbonhbihmbcaaGreatRRTotals.lean).
  GIVEN WITH THE SEED: the statements are not yours to turn. If you find one false, say at which input.
  Laid BY PROGRAM, IN A SANDBOX (cutbox-rows.mjs): the forced cells as the released guide's own fill.sh prints them over the translation dc18875a64aa3085… (all of the seat's roots in one cut). By AI agents, Wed Nov 11 2026. No macro, syntax, notation, axiom, sorry.
-/
import Derived.Test.YtkbbonhbihmbcaaGreatRRChecked
import GoSem.Claim
import GoSem.ClaimJoined
import GoSem.ClaimMapViews
import Derived.JoinedTies
import Derived.KernelRfl
namespace Go.Proofs.YtkbbonhbihmbcaaGreatRR
/- THE CELL 'sum', in the pinned program and in every row, IS THE sha256 OF THE DUMP (.gsa) THAT YtkbbonhbihmbcaaGreatRRProg.lean LOADS. Nothing in Lean hashes anything: it is a label: what it is worth is what the hold of that sum in a sandbox is worth. -/
noncomputable def Tryz.pinned : Pinned := { name := "ytkbbonhbihmbcaagreatrr", sum := "dc18875a64aa30858084a498dc0d8e295b84895eb45ea38dee350326cd804462", checked := Tryz.checked }
namespace Rows
def none {H : Type} : Left H := { results := [], args := [] }

/-- 'undercroftlaw21.WalkNil': WHATEVER THE INPUT: true; the input reads as it did. -/
def walkNilSpec : ChangeSpec := { name := "walkNil", fn := fun _ => fun
  | [d1, d2, d3] => { results := [.lit (.bool true)], args := [d1, d2, d3] }
  | _ => none }
def walkNilRow : OpenClaim := { program := "ytkbbonhbihmbcaagreatrr", sum := "dc18875a64aa30858084a498dc0d8e295b84895eb45ea38dee350326cd804462", func := "undercroft/undercroftlaw21.WalkNil", spec := "walkNil", unfollowed := true, recurses := true, plainKeys := false, apart := false }
def WalkNilSaid : Prop := walkNilRow.holds Tryz.pinned (OpenSpec.ofChange walkNilSpec)

/-- ITS FALSE NEIGHBOUR: 'it returns false'. Refute it at one input. -/
def walkNilWrong : ChangeSpec := { name := "walkNil", fn := fun _ => fun
  | [d1, d2, d3] => { results := [.lit (.bool false)], args := [d1, d2, d3] }
  | _ => none }
def WalkNilWrongFalsely : Prop := walkNilRow.holds Tryz.pinned (OpenSpec.ofChange walkNilWrong)

/-- 'undercroftlaw15.LayFull': WHATEVER THE INPUT: true; the input reads as it did. -/
def layFullSpec : ChangeSpec := { name := "layFull", fn := fun _ => fun
  | [] => { results := [.lit (.bool true)], args := [] }
  | _ => none }
def layFullRow : OpenClaim := { program := "ytkbbonhbihmbcaagreatrr", sum := "dc18875a64aa30858084a498dc0d8e295b84895eb45ea38dee350326cd804462", func := "undercroft/undercroftlaw15.LayFull", spec := "layFull", unfollowed := true, recurses := true, plainKeys := false, apart := false }
def LayFullSaid : Prop := layFullRow.holds Tryz.pinned (OpenSpec.ofChange layFullSpec)

/-- ITS FALSE NEIGHBOUR: 'it returns false'. Refute it at one input. -/
def layFullWrong : ChangeSpec := { name := "layFull", fn := fun _ => fun
  | [] => { results := [.lit (.bool false)], args := [] }
  | _ => none }
def LayFullWrongFalsely : Prop := layFullRow.holds Tryz.pinned (OpenSpec.ofChange layFullWrong)

/-- 'undercroftlaw15.LayNil': WHATEVER THE INPUT: true; the input reads as it did. -/
def layNilSpec : ChangeSpec := { name := "layNil", fn := fun _ => fun
  | [d1, d2, d3] => { results := [.lit (.bool true)], args := [d1, d2, d3] }
  | _ => none }
def layNilRow : OpenClaim := { program := "ytkbbonhbihmbcaagreatrr", sum := "dc18875a64aa30858084a498dc0d8e295b84895eb45ea38dee350326cd804462", func := "undercroft/undercroftlaw15.LayNil", spec := "layNil", unfollowed := true, recurses := true, plainKeys := false, apart := false }
def LayNilSaid : Prop := layNilRow.holds Tryz.pinned (OpenSpec.ofChange layNilSpec)

/-- ITS FALSE NEIGHBOUR: 'it returns false'. Refute it at one input. -/
def layNilWrong : ChangeSpec := { name := "layNil", fn := fun _ => fun
  | [d1, d2, d3] => { results := [.lit (.bool false)], args := [d1, d2, d3] }
  | _ => none }
def LayNilWrongFalsely : Prop := layNilRow.holds Tryz.pinned (OpenSpec.ofChange layNilWrong)

/-- 'undercroftlaw15.LayNames': WHATEVER THE INPUT: true; the input reads as it did. -/
def layNamesSpec : ChangeSpec := { name := "layNames", fn := fun _ => fun
  | [] => { results := [.lit (.bool true)], args := [] }
  | _ => none }
def layNamesRow : OpenClaim := { program := "ytkbbonhbihmbcaagreatrr", sum := "dc18875a64aa30858084a498dc0d8e295b84895eb45ea38dee350326cd804462", func := "undercroft/undercroftlaw15.LayNames", spec := "layNames", unfollowed := true, recurses := true, plainKeys := false, apart := false }
def LayNamesSaid : Prop := layNamesRow.holds Tryz.pinned (OpenSpec.ofChange layNamesSpec)

/-- ITS FALSE NEIGHBOUR: 'it returns false'. Refute it at one input. -/
def layNamesWrong : ChangeSpec := { name := "layNames", fn := fun _ => fun
  | [] => { results := [.lit (.bool false)], args := [] }
  | _ => none }
def LayNamesWrongFalsely : Prop := layNamesRow.holds Tryz.pinned (OpenSpec.ofChange layNamesWrong)

/-- 'undercroftlaw19.DirKnown': WHATEVER THE INPUT: true; the input reads as it did. -/
def dirKnownSpec : ChangeSpec := { name := "dirKnown", fn := fun _ => fun
  | [] => { results := [.lit (.bool true)], args := [] }
  | _ => none }
def dirKnownRow : OpenClaim := { program := "ytkbbonhbihmbcaagreatrr", sum := "dc18875a64aa30858084a498dc0d8e295b84895eb45ea38dee350326cd804462", func := "undercroft/undercroftlaw19.DirKnown", spec := "dirKnown", unfollowed := true, recurses := true, plainKeys := false, apart := false }
def DirKnownSaid : Prop := dirKnownRow.holds Tryz.pinned (OpenSpec.ofChange dirKnownSpec)

/-- ITS FALSE NEIGHBOUR: 'it returns false'. Refute it at one input. -/
def dirKnownWrong : ChangeSpec := { name := "dirKnown", fn := fun _ => fun
  | [] => { results := [.lit (.bool false)], args := [] }
  | _ => none }
def DirKnownWrongFalsely : Prop := dirKnownRow.holds Tryz.pinned (OpenSpec.ofChange dirKnownWrong)

/-- 'undercroftlaw19.DirNone': WHATEVER THE INPUT: true; the input reads as it did. -/
def dirNoneSpec : ChangeSpec := { name := "dirNone", fn := fun _ => fun
  | [d] => { results := [.lit (.bool true)], args := [d] }
  | _ => none }
def dirNoneRow : OpenClaim := { program := "ytkbbonhbihmbcaagreatrr", sum := "dc18875a64aa30858084a498dc0d8e295b84895eb45ea38dee350326cd804462", func := "undercroft/undercroftlaw19.DirNone", spec := "dirNone", unfollowed := true, recurses := true, plainKeys := false, apart := false }
def DirNoneSaid : Prop := dirNoneRow.holds Tryz.pinned (OpenSpec.ofChange dirNoneSpec)

/-- ITS FALSE NEIGHBOUR: 'it returns false'. Refute it at one input. -/
def dirNoneWrong : ChangeSpec := { name := "dirNone", fn := fun _ => fun
  | [d] => { results := [.lit (.bool false)], args := [d] }
  | _ => none }
def DirNoneWrongFalsely : Prop := dirNoneRow.holds Tryz.pinned (OpenSpec.ofChange dirNoneWrong)

/- THE SECOND FORM. 'bulk': how many values and letters a reading holds, each counted each time it is reached (what is shared counts as often as it is met; a slice's spare places count too). A statement '..UptoSaid' is the law's where the arguments, and the package variables that the reading takes, are together of bulk at most 1048576: NARROWER than '..Said'. Prove '..Said' where nothing that the law and all that it calls make is longer than what came in: it says more and counts as full. Else prove '..UptoSaid'. A law counts once. -/
mutual
def uptoBulk {H : Type} : DataW H → Nat
  | .lit (.string bytes) => bytes.length + 1
  | .lit _ => 1
  | .nil => 1
  | .ptr d => uptoBulk d + 1
  | .slice elems spare => uptoBulkAll elems + uptoBulkAll spare + 1
  | .agg parts => uptoBulkAll parts + 1
  | .iface _ d => uptoBulk d + 1
  | .map entries => uptoBulkEntries entries + 1
  | .held _ => 1
def uptoBulkAll {H : Type} : List (DataW H) → Nat
  | [] => 0
  | d :: r => uptoBulk d + uptoBulkAll r
def uptoBulkEntries {H : Type} : List (Lit × DataW H) → Nat
  | [] => 0
  | x :: r => uptoBulkEntry x + uptoBulkEntries r
def uptoBulkEntry {H : Type} : Lit × DataW H → Nat
  | (.string bytes, d) => bytes.length + uptoBulk d + 1
  | (_, d) => uptoBulk d + 1
 end
def uptoSmall : (H : Type) → List (DataW H) → Bool := fun _ ds => decide (uptoBulkAll ds ≤ 1048576)
def OpenSpec.upto (s : _root_.Go.ChangeSpec) : _root_.Go.OpenSpec := { _root_.Go.OpenSpec.ofChange s with cond := some uptoSmall }

/-- 'undercroftlaw21.WalkNil', WHERE WHAT IT READS IS OF BULK AT MOST 1048576: true; the input reads as it did. -/
def walkNilUptoRow : OpenClaim := { program := "ytkbbonhbihmbcaagreatrr", sum := "dc18875a64aa30858084a498dc0d8e295b84895eb45ea38dee350326cd804462", func := "undercroft/undercroftlaw21.WalkNil", spec := "walkNil", unfollowed := true, recurses := true, plainKeys := false, apart := false, narrowed := true }
def WalkNilUptoSaid : Prop := walkNilUptoRow.holds Tryz.pinned (OpenSpec.upto walkNilSpec)

/-- 'undercroftlaw15.LayFull', WHERE WHAT IT READS IS OF BULK AT MOST 1048576: true; the input reads as it did. -/
def layFullUptoRow : OpenClaim := { program := "ytkbbonhbihmbcaagreatrr", sum := "dc18875a64aa30858084a498dc0d8e295b84895eb45ea38dee350326cd804462", func := "undercroft/undercroftlaw15.LayFull", spec := "layFull", unfollowed := true, recurses := true, plainKeys := false, apart := false, narrowed := true }
def LayFullUptoSaid : Prop := layFullUptoRow.holds Tryz.pinned (OpenSpec.upto layFullSpec)

/-- 'undercroftlaw15.LayNil', WHERE WHAT IT READS IS OF BULK AT MOST 1048576: true; the input reads as it did. -/
def layNilUptoRow : OpenClaim := { program := "ytkbbonhbihmbcaagreatrr", sum := "dc18875a64aa30858084a498dc0d8e295b84895eb45ea38dee350326cd804462", func := "undercroft/undercroftlaw15.LayNil", spec := "layNil", unfollowed := true, recurses := true, plainKeys := false, apart := false, narrowed := true }
def LayNilUptoSaid : Prop := layNilUptoRow.holds Tryz.pinned (OpenSpec.upto layNilSpec)

/-- 'undercroftlaw15.LayNames', WHERE WHAT IT READS IS OF BULK AT MOST 1048576: true; the input reads as it did. -/
def layNamesUptoRow : OpenClaim := { program := "ytkbbonhbihmbcaagreatrr", sum := "dc18875a64aa30858084a498dc0d8e295b84895eb45ea38dee350326cd804462", func := "undercroft/undercroftlaw15.LayNames", spec := "layNames", unfollowed := true, recurses := true, plainKeys := false, apart := false, narrowed := true }
def LayNamesUptoSaid : Prop := layNamesUptoRow.holds Tryz.pinned (OpenSpec.upto layNamesSpec)

/-- 'undercroftlaw19.DirKnown', WHERE WHAT IT READS IS OF BULK AT MOST 1048576: true; the input reads as it did. -/
def dirKnownUptoRow : OpenClaim := { program := "ytkbbonhbihmbcaagreatrr", sum := "dc18875a64aa30858084a498dc0d8e295b84895eb45ea38dee350326cd804462", func := "undercroft/undercroftlaw19.DirKnown", spec := "dirKnown", unfollowed := true, recurses := true, plainKeys := false, apart := false, narrowed := true }
def DirKnownUptoSaid : Prop := dirKnownUptoRow.holds Tryz.pinned (OpenSpec.upto dirKnownSpec)

/-- 'undercroftlaw19.DirNone', WHERE WHAT IT READS IS OF BULK AT MOST 1048576: true; the input reads as it did. -/
def dirNoneUptoRow : OpenClaim := { program := "ytkbbonhbihmbcaagreatrr", sum := "dc18875a64aa30858084a498dc0d8e295b84895eb45ea38dee350326cd804462", func := "undercroft/undercroftlaw19.DirNone", spec := "dirNone", unfollowed := true, recurses := true, plainKeys := false, apart := false, narrowed := true }
def DirNoneUptoSaid : Prop := dirNoneUptoRow.holds Tryz.pinned (OpenSpec.upto dirNoneSpec)

end Rows
end Go.Proofs.YtkbbonhbihmbcaaGreatRR
