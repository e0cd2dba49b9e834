/-
  No cell of these rows narrows 'for every input' (looked for: loops, veiled, ifaces, maps, wideKeys, modest, calm, conditions, laid).
  DERIVED. THE GIVEN ROWS OF THIS SEAT. 12 by the template 'for every input the law returns true; each argument reads behind the call as it read before'; 0 by the template 'total and deterministic' (their statements: YtmjngdocmilolaaGreatTotals.lean).
  GIVEN WITH THE SEED: the statements are not yours to turn. If you find one false, say at which input.
  Laid BY PROGRAM, IN A SANDBOX (cutbox-rows.mjs): the forced cells as the released guide's own fill.sh prints them over the translation db1b22a866311a18… (all of the seat's roots in one cut). By AI agents, Wed Nov 11 2026. No macro, syntax, notation, axiom, sorry.
-/
import Derived.Test.YtmjngdocmilolaaGreatChecked
import GoSem.Claim
import GoSem.ClaimJoined
import GoSem.ClaimMapViews
import Derived.JoinedTies
import Derived.KernelRfl
namespace Go.Proofs.YtmjngdocmilolaaGreat
/- THE CELL 'sum', in the pinned program and in every row, IS THE sha256 OF THE DUMP (.gsa) THAT YtmjngdocmilolaaGreatProg.lean LOADS. Nothing in Lean hashes anything: it is a label: what it is worth is what the hold of that sum in a sandbox is worth. -/
noncomputable def Tryz.pinned : Pinned := { name := "ytmjngdocmilolaagreat", sum := "db1b22a866311a18a608b42fe56777dbd543db65f2920134dd2c32610d022155", checked := Tryz.checked }
namespace Rows
def none {H : Type} : Left H := { results := [], args := [] }

/-- 'undercroftlaw14.FetchNames': WHATEVER THE INPUT: true; the input reads as it did. -/
def fetchNamesSpec : ChangeSpec := { name := "fetchNames", fn := fun _ => fun
  | [] => { results := [.lit (.bool true)], args := [] }
  | _ => none }
def fetchNamesRow : OpenClaim := { program := "ytmjngdocmilolaagreat", sum := "db1b22a866311a18a608b42fe56777dbd543db65f2920134dd2c32610d022155", func := "undercroft/undercroftlaw14.FetchNames", spec := "fetchNames", recurses := true, plainKeys := false, apart := false }
def FetchNamesSaid : Prop := fetchNamesRow.holds Tryz.pinned (OpenSpec.ofChange fetchNamesSpec)

/-- ITS FALSE NEIGHBOUR: 'it returns false'. Refute it at one input. -/
def fetchNamesWrong : ChangeSpec := { name := "fetchNames", fn := fun _ => fun
  | [] => { results := [.lit (.bool false)], args := [] }
  | _ => none }
def FetchNamesWrongFalsely : Prop := fetchNamesRow.holds Tryz.pinned (OpenSpec.ofChange fetchNamesWrong)

/-- 'undercroftlaw09.RoomNames': WHATEVER THE INPUT: true; the input reads as it did. -/
def roomNamesSpec : ChangeSpec := { name := "roomNames", fn := fun _ => fun
  | [] => { results := [.lit (.bool true)], args := [] }
  | _ => none }
def roomNamesRow : OpenClaim := { program := "ytmjngdocmilolaagreat", sum := "db1b22a866311a18a608b42fe56777dbd543db65f2920134dd2c32610d022155", func := "undercroft/undercroftlaw09.RoomNames", spec := "roomNames", unfollowed := true, recurses := true, plainKeys := false, apart := false }
def RoomNamesSaid : Prop := roomNamesRow.holds Tryz.pinned (OpenSpec.ofChange roomNamesSpec)

/-- ITS FALSE NEIGHBOUR: 'it returns false'. Refute it at one input. -/
def roomNamesWrong : ChangeSpec := { name := "roomNames", fn := fun _ => fun
  | [] => { results := [.lit (.bool false)], args := [] }
  | _ => none }
def RoomNamesWrongFalsely : Prop := roomNamesRow.holds Tryz.pinned (OpenSpec.ofChange roomNamesWrong)

/-- 'undercroftlaw11.RackNames': WHATEVER THE INPUT: true; the input reads as it did. -/
def rackNamesSpec : ChangeSpec := { name := "rackNames", fn := fun _ => fun
  | [] => { results := [.lit (.bool true)], args := [] }
  | _ => none }
def rackNamesRow : OpenClaim := { program := "ytmjngdocmilolaagreat", sum := "db1b22a866311a18a608b42fe56777dbd543db65f2920134dd2c32610d022155", func := "undercroft/undercroftlaw11.RackNames", spec := "rackNames", unfollowed := true, recurses := true, plainKeys := false, apart := false }
def RackNamesSaid : Prop := rackNamesRow.holds Tryz.pinned (OpenSpec.ofChange rackNamesSpec)

/-- ITS FALSE NEIGHBOUR: 'it returns false'. Refute it at one input. -/
def rackNamesWrong : ChangeSpec := { name := "rackNames", fn := fun _ => fun
  | [] => { results := [.lit (.bool false)], args := [] }
  | _ => none }
def RackNamesWrongFalsely : Prop := rackNamesRow.holds Tryz.pinned (OpenSpec.ofChange rackNamesWrong)

/-- 'undercroftlaw21.WalkNames': WHATEVER THE INPUT: true; the input reads as it did. -/
def walkNamesSpec : ChangeSpec := { name := "walkNames", fn := fun _ => fun
  | [] => { results := [.lit (.bool true)], args := [] }
  | _ => none }
def walkNamesRow : OpenClaim := { program := "ytmjngdocmilolaagreat", sum := "db1b22a866311a18a608b42fe56777dbd543db65f2920134dd2c32610d022155", func := "undercroft/undercroftlaw21.WalkNames", spec := "walkNames", unfollowed := true, recurses := true, plainKeys := false, apart := false }
def WalkNamesSaid : Prop := walkNamesRow.holds Tryz.pinned (OpenSpec.ofChange walkNamesSpec)

/-- ITS FALSE NEIGHBOUR: 'it returns false'. Refute it at one input. -/
def walkNamesWrong : ChangeSpec := { name := "walkNames", fn := fun _ => fun
  | [] => { results := [.lit (.bool false)], args := [] }
  | _ => none }
def WalkNamesWrongFalsely : Prop := walkNamesRow.holds Tryz.pinned (OpenSpec.ofChange walkNamesWrong)

/-- 'undercroftlaw09.RoomNil': WHATEVER THE INPUT: true; the input reads as it did. -/
def roomNilSpec : ChangeSpec := { name := "roomNil", fn := fun _ => fun
  | [d] => { results := [.lit (.bool true)], args := [d] }
  | _ => none }
def roomNilRow : OpenClaim := { program := "ytmjngdocmilolaagreat", sum := "db1b22a866311a18a608b42fe56777dbd543db65f2920134dd2c32610d022155", func := "undercroft/undercroftlaw09.RoomNil", spec := "roomNil", unfollowed := true, recurses := true, plainKeys := false, apart := false }
def RoomNilSaid : Prop := roomNilRow.holds Tryz.pinned (OpenSpec.ofChange roomNilSpec)

/-- ITS FALSE NEIGHBOUR: 'it returns false'. Refute it at one input. -/
def roomNilWrong : ChangeSpec := { name := "roomNil", fn := fun _ => fun
  | [d] => { results := [.lit (.bool false)], args := [d] }
  | _ => none }
def RoomNilWrongFalsely : Prop := roomNilRow.holds Tryz.pinned (OpenSpec.ofChange roomNilWrong)

/-- 'undercroftlaw21.WalkNil': WHATEVER THE INPUT: true; the input reads as it did. -/
def walkNilSpec : ChangeSpec := { name := "walkNil", fn := fun _ => fun
  | [d1, d2, d3] => { results := [.lit (.bool true)], args := [d1, d2, d3] }
  | _ => none }
def walkNilRow : OpenClaim := { program := "ytmjngdocmilolaagreat", sum := "db1b22a866311a18a608b42fe56777dbd543db65f2920134dd2c32610d022155", func := "undercroft/undercroftlaw21.WalkNil", spec := "walkNil", unfollowed := true, recurses := true, plainKeys := false, apart := false }
def WalkNilSaid : Prop := walkNilRow.holds Tryz.pinned (OpenSpec.ofChange walkNilSpec)

/-- ITS FALSE NEIGHBOUR: 'it returns false'. Refute it at one input. -/
def walkNilWrong : ChangeSpec := { name := "walkNil", fn := fun _ => fun
  | [d1, d2, d3] => { results := [.lit (.bool false)], args := [d1, d2, d3] }
  | _ => none }
def WalkNilWrongFalsely : Prop := walkNilRow.holds Tryz.pinned (OpenSpec.ofChange walkNilWrong)

/-- 'undercroftlaw16.TrimNone': WHATEVER THE INPUT: true; the input reads as it did. -/
def trimNoneSpec : ChangeSpec := { name := "trimNone", fn := fun _ => fun
  | [d1, d2] => { results := [.lit (.bool true)], args := [d1, d2] }
  | _ => none }
def trimNoneRow : OpenClaim := { program := "ytmjngdocmilolaagreat", sum := "db1b22a866311a18a608b42fe56777dbd543db65f2920134dd2c32610d022155", func := "undercroft/undercroftlaw16.TrimNone", spec := "trimNone", unfollowed := true, recurses := true, plainKeys := false, apart := false }
def TrimNoneSaid : Prop := trimNoneRow.holds Tryz.pinned (OpenSpec.ofChange trimNoneSpec)

/-- ITS FALSE NEIGHBOUR: 'it returns false'. Refute it at one input. -/
def trimNoneWrong : ChangeSpec := { name := "trimNone", fn := fun _ => fun
  | [d1, d2] => { results := [.lit (.bool false)], args := [d1, d2] }
  | _ => none }
def TrimNoneWrongFalsely : Prop := trimNoneRow.holds Tryz.pinned (OpenSpec.ofChange trimNoneWrong)

/-- 'undercroftlaw16.TrimKnown': WHATEVER THE INPUT: true; the input reads as it did. -/
def trimKnownSpec : ChangeSpec := { name := "trimKnown", fn := fun _ => fun
  | [] => { results := [.lit (.bool true)], args := [] }
  | _ => none }
def trimKnownRow : OpenClaim := { program := "ytmjngdocmilolaagreat", sum := "db1b22a866311a18a608b42fe56777dbd543db65f2920134dd2c32610d022155", func := "undercroft/undercroftlaw16.TrimKnown", spec := "trimKnown", unfollowed := true, recurses := true, plainKeys := false, apart := false }
def TrimKnownSaid : Prop := trimKnownRow.holds Tryz.pinned (OpenSpec.ofChange trimKnownSpec)

/-- ITS FALSE NEIGHBOUR: 'it returns false'. Refute it at one input. -/
def trimKnownWrong : ChangeSpec := { name := "trimKnown", fn := fun _ => fun
  | [] => { results := [.lit (.bool false)], args := [] }
  | _ => none }
def TrimKnownWrongFalsely : Prop := trimKnownRow.holds Tryz.pinned (OpenSpec.ofChange trimKnownWrong)

/-- 'undercroftlaw15.LayFull': WHATEVER THE INPUT: true; the input reads as it did. -/
def layFullSpec : ChangeSpec := { name := "layFull", fn := fun _ => fun
  | [] => { results := [.lit (.bool true)], args := [] }
  | _ => none }
def layFullRow : OpenClaim := { program := "ytmjngdocmilolaagreat", sum := "db1b22a866311a18a608b42fe56777dbd543db65f2920134dd2c32610d022155", func := "undercroft/undercroftlaw15.LayFull", spec := "layFull", unfollowed := true, recurses := true, plainKeys := false, apart := false }
def LayFullSaid : Prop := layFullRow.holds Tryz.pinned (OpenSpec.ofChange layFullSpec)

/-- ITS FALSE NEIGHBOUR: 'it returns false'. Refute it at one input. -/
def layFullWrong : ChangeSpec := { name := "layFull", fn := fun _ => fun
  | [] => { results := [.lit (.bool false)], args := [] }
  | _ => none }
def LayFullWrongFalsely : Prop := layFullRow.holds Tryz.pinned (OpenSpec.ofChange layFullWrong)

/-- 'undercroftlaw12.ChartNames': WHATEVER THE INPUT: true; the input reads as it did. -/
def chartNamesSpec : ChangeSpec := { name := "chartNames", fn := fun _ => fun
  | [] => { results := [.lit (.bool true)], args := [] }
  | _ => none }
def chartNamesRow : OpenClaim := { program := "ytmjngdocmilolaagreat", sum := "db1b22a866311a18a608b42fe56777dbd543db65f2920134dd2c32610d022155", func := "undercroft/undercroftlaw12.ChartNames", spec := "chartNames", unfollowed := true, recurses := true, plainKeys := false, apart := false }
def ChartNamesSaid : Prop := chartNamesRow.holds Tryz.pinned (OpenSpec.ofChange chartNamesSpec)

/-- ITS FALSE NEIGHBOUR: 'it returns false'. Refute it at one input. -/
def chartNamesWrong : ChangeSpec := { name := "chartNames", fn := fun _ => fun
  | [] => { results := [.lit (.bool false)], args := [] }
  | _ => none }
def ChartNamesWrongFalsely : Prop := chartNamesRow.holds Tryz.pinned (OpenSpec.ofChange chartNamesWrong)

/-- 'undercroftlaw15.LayNil': WHATEVER THE INPUT: true; the input reads as it did. -/
def layNilSpec : ChangeSpec := { name := "layNil", fn := fun _ => fun
  | [d1, d2, d3] => { results := [.lit (.bool true)], args := [d1, d2, d3] }
  | _ => none }
def layNilRow : OpenClaim := { program := "ytmjngdocmilolaagreat", sum := "db1b22a866311a18a608b42fe56777dbd543db65f2920134dd2c32610d022155", func := "undercroft/undercroftlaw15.LayNil", spec := "layNil", unfollowed := true, recurses := true, plainKeys := false, apart := false }
def LayNilSaid : Prop := layNilRow.holds Tryz.pinned (OpenSpec.ofChange layNilSpec)

/-- ITS FALSE NEIGHBOUR: 'it returns false'. Refute it at one input. -/
def layNilWrong : ChangeSpec := { name := "layNil", fn := fun _ => fun
  | [d1, d2, d3] => { results := [.lit (.bool false)], args := [d1, d2, d3] }
  | _ => none }
def LayNilWrongFalsely : Prop := layNilRow.holds Tryz.pinned (OpenSpec.ofChange layNilWrong)

/-- 'undercroftlaw15.LayNames': WHATEVER THE INPUT: true; the input reads as it did. -/
def layNamesSpec : ChangeSpec := { name := "layNames", fn := fun _ => fun
  | [] => { results := [.lit (.bool true)], args := [] }
  | _ => none }
def layNamesRow : OpenClaim := { program := "ytmjngdocmilolaagreat", sum := "db1b22a866311a18a608b42fe56777dbd543db65f2920134dd2c32610d022155", func := "undercroft/undercroftlaw15.LayNames", spec := "layNames", unfollowed := true, recurses := true, plainKeys := false, apart := false }
def LayNamesSaid : Prop := layNamesRow.holds Tryz.pinned (OpenSpec.ofChange layNamesSpec)

/-- ITS FALSE NEIGHBOUR: 'it returns false'. Refute it at one input. -/
def layNamesWrong : ChangeSpec := { name := "layNames", fn := fun _ => fun
  | [] => { results := [.lit (.bool false)], args := [] }
  | _ => none }
def LayNamesWrongFalsely : Prop := layNamesRow.holds Tryz.pinned (OpenSpec.ofChange layNamesWrong)

/- THE SECOND FORM. 'bulk': how many values and letters a reading holds, each counted each time it is reached (what is shared counts as often as it is met; a slice's spare places count too). A statement '..UptoSaid' is the law's where the arguments, and the package variables that the reading takes, are together of bulk at most 1048576: NARROWER than '..Said'. Prove '..Said' where nothing that the law and all that it calls make is longer than what came in: it says more and counts as full. Else prove '..UptoSaid'. A law counts once. -/
mutual
def uptoBulk {H : Type} : DataW H → Nat
  | .lit (.string bytes) => bytes.length + 1
  | .lit _ => 1
  | .nil => 1
  | .ptr d => uptoBulk d + 1
  | .slice elems spare => uptoBulkAll elems + uptoBulkAll spare + 1
  | .agg parts => uptoBulkAll parts + 1
  | .iface _ d => uptoBulk d + 1
  | .map entries => uptoBulkEntries entries + 1
  | .held _ => 1
def uptoBulkAll {H : Type} : List (DataW H) → Nat
  | [] => 0
  | d :: r => uptoBulk d + uptoBulkAll r
def uptoBulkEntries {H : Type} : List (Lit × DataW H) → Nat
  | [] => 0
  | x :: r => uptoBulkEntry x + uptoBulkEntries r
def uptoBulkEntry {H : Type} : Lit × DataW H → Nat
  | (.string bytes, d) => bytes.length + uptoBulk d + 1
  | (_, d) => uptoBulk d + 1
 end
def uptoSmall : (H : Type) → List (DataW H) → Bool := fun _ ds => decide (uptoBulkAll ds ≤ 1048576)
def OpenSpec.upto (s : _root_.Go.ChangeSpec) : _root_.Go.OpenSpec := { _root_.Go.OpenSpec.ofChange s with cond := some uptoSmall }

/-- 'undercroftlaw14.FetchNames', WHERE WHAT IT READS IS OF BULK AT MOST 1048576: true; the input reads as it did. -/
def fetchNamesUptoRow : OpenClaim := { program := "ytmjngdocmilolaagreat", sum := "db1b22a866311a18a608b42fe56777dbd543db65f2920134dd2c32610d022155", func := "undercroft/undercroftlaw14.FetchNames", spec := "fetchNames", recurses := true, plainKeys := false, apart := false, narrowed := true }
def FetchNamesUptoSaid : Prop := fetchNamesUptoRow.holds Tryz.pinned (OpenSpec.upto fetchNamesSpec)

/-- 'undercroftlaw09.RoomNames', WHERE WHAT IT READS IS OF BULK AT MOST 1048576: true; the input reads as it did. -/
def roomNamesUptoRow : OpenClaim := { program := "ytmjngdocmilolaagreat", sum := "db1b22a866311a18a608b42fe56777dbd543db65f2920134dd2c32610d022155", func := "undercroft/undercroftlaw09.RoomNames", spec := "roomNames", unfollowed := true, recurses := true, plainKeys := false, apart := false, narrowed := true }
def RoomNamesUptoSaid : Prop := roomNamesUptoRow.holds Tryz.pinned (OpenSpec.upto roomNamesSpec)

/-- 'undercroftlaw11.RackNames', WHERE WHAT IT READS IS OF BULK AT MOST 1048576: true; the input reads as it did. -/
def rackNamesUptoRow : OpenClaim := { program := "ytmjngdocmilolaagreat", sum := "db1b22a866311a18a608b42fe56777dbd543db65f2920134dd2c32610d022155", func := "undercroft/undercroftlaw11.RackNames", spec := "rackNames", unfollowed := true, recurses := true, plainKeys := false, apart := false, narrowed := true }
def RackNamesUptoSaid : Prop := rackNamesUptoRow.holds Tryz.pinned (OpenSpec.upto rackNamesSpec)

/-- 'undercroftlaw21.WalkNames', WHERE WHAT IT READS IS OF BULK AT MOST 1048576: true; the input reads as it did. -/
def walkNamesUptoRow : OpenClaim := { program := "ytmjngdocmilolaagreat", sum := "db1b22a866311a18a608b42fe56777dbd543db65f2920134dd2c32610d022155", func := "undercroft/undercroftlaw21.WalkNames", spec := "walkNames", unfollowed := true, recurses := true, plainKeys := false, apart := false, narrowed := true }
def WalkNamesUptoSaid : Prop := walkNamesUptoRow.holds Tryz.pinned (OpenSpec.upto walkNamesSpec)

/-- 'undercroftlaw09.RoomNil', WHERE WHAT IT READS IS OF BULK AT MOST 1048576: true; the input reads as it did. -/
def roomNilUptoRow : OpenClaim := { program := "ytmjngdocmilolaagreat", sum := "db1b22a866311a18a608b42fe56777dbd543db65f2920134dd2c32610d022155", func := "undercroft/undercroftlaw09.RoomNil", spec := "roomNil", unfollowed := true, recurses := true, plainKeys := false, apart := false, narrowed := true }
def RoomNilUptoSaid : Prop := roomNilUptoRow.holds Tryz.pinned (OpenSpec.upto roomNilSpec)

/-- 'undercroftlaw21.WalkNil', WHERE WHAT IT READS IS OF BULK AT MOST 1048576: true; the input reads as it did. -/
def walkNilUptoRow : OpenClaim := { program := "ytmjngdocmilolaagreat", sum := "db1b22a866311a18a608b42fe56777dbd543db65f2920134dd2c32610d022155", func := "undercroft/undercroftlaw21.WalkNil", spec := "walkNil", unfollowed := true, recurses := true, plainKeys := false, apart := false, narrowed := true }
def WalkNilUptoSaid : Prop := walkNilUptoRow.holds Tryz.pinned (OpenSpec.upto walkNilSpec)

/-- 'undercroftlaw16.TrimNone', WHERE WHAT IT READS IS OF BULK AT MOST 1048576: true; the input reads as it did. -/
def trimNoneUptoRow : OpenClaim := { program := "ytmjngdocmilolaagreat", sum := "db1b22a866311a18a608b42fe56777dbd543db65f2920134dd2c32610d022155", func := "undercroft/undercroftlaw16.TrimNone", spec := "trimNone", unfollowed := true, recurses := true, plainKeys := false, apart := false, narrowed := true }
def TrimNoneUptoSaid : Prop := trimNoneUptoRow.holds Tryz.pinned (OpenSpec.upto trimNoneSpec)

/-- 'undercroftlaw16.TrimKnown', WHERE WHAT IT READS IS OF BULK AT MOST 1048576: true; the input reads as it did. -/
def trimKnownUptoRow : OpenClaim := { program := "ytmjngdocmilolaagreat", sum := "db1b22a866311a18a608b42fe56777dbd543db65f2920134dd2c32610d022155", func := "undercroft/undercroftlaw16.TrimKnown", spec := "trimKnown", unfollowed := true, recurses := true, plainKeys := false, apart := false, narrowed := true }
def TrimKnownUptoSaid : Prop := trimKnownUptoRow.holds Tryz.pinned (OpenSpec.upto trimKnownSpec)

/-- 'undercroftlaw15.LayFull', WHERE WHAT IT READS IS OF BULK AT MOST 1048576: true; the input reads as it did. -/
def layFullUptoRow : OpenClaim := { program := "ytmjngdocmilolaagreat", sum := "db1b22a866311a18a608b42fe56777dbd543db65f2920134dd2c32610d022155", func := "undercroft/undercroftlaw15.LayFull", spec := "layFull", unfollowed := true, recurses := true, plainKeys := false, apart := false, narrowed := true }
def LayFullUptoSaid : Prop := layFullUptoRow.holds Tryz.pinned (OpenSpec.upto layFullSpec)

/-- 'undercroftlaw12.ChartNames', WHERE WHAT IT READS IS OF BULK AT MOST 1048576: true; the input reads as it did. -/
def chartNamesUptoRow : OpenClaim := { program := "ytmjngdocmilolaagreat", sum := "db1b22a866311a18a608b42fe56777dbd543db65f2920134dd2c32610d022155", func := "undercroft/undercroftlaw12.ChartNames", spec := "chartNames", unfollowed := true, recurses := true, plainKeys := false, apart := false, narrowed := true }
def ChartNamesUptoSaid : Prop := chartNamesUptoRow.holds Tryz.pinned (OpenSpec.upto chartNamesSpec)

/-- 'undercroftlaw15.LayNil', WHERE WHAT IT READS IS OF BULK AT MOST 1048576: true; the input reads as it did. -/
def layNilUptoRow : OpenClaim := { program := "ytmjngdocmilolaagreat", sum := "db1b22a866311a18a608b42fe56777dbd543db65f2920134dd2c32610d022155", func := "undercroft/undercroftlaw15.LayNil", spec := "layNil", unfollowed := true, recurses := true, plainKeys := false, apart := false, narrowed := true }
def LayNilUptoSaid : Prop := layNilUptoRow.holds Tryz.pinned (OpenSpec.upto layNilSpec)

/-- 'undercroftlaw15.LayNames', WHERE WHAT IT READS IS OF BULK AT MOST 1048576: true; the input reads as it did. -/
def layNamesUptoRow : OpenClaim := { program := "ytmjngdocmilolaagreat", sum := "db1b22a866311a18a608b42fe56777dbd543db65f2920134dd2c32610d022155", func := "undercroft/undercroftlaw15.LayNames", spec := "layNames", unfollowed := true, recurses := true, plainKeys := false, apart := false, narrowed := true }
def LayNamesUptoSaid : Prop := layNamesUptoRow.holds Tryz.pinned (OpenSpec.upto layNamesSpec)

end Rows
end Go.Proofs.YtmjngdocmilolaaGreat
