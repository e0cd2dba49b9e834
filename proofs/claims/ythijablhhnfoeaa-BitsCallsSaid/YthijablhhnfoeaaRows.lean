/-
  No cell of these rows narrows 'for every input' (looked for: loops, veiled, ifaces, maps, wideKeys, modest, calm, conditions, laid).
  DERIVED. THE GIVEN ROWS OF THIS SEAT. 6 by the template 'for every input the law returns true; each argument reads behind the call as it read before'; 0 by the template 'total and deterministic' (their statements: YthijablhhnfoeaaTotals.lean).
  GIVEN WITH THE SEED: the statements are not yours to turn. If you find one false, say at which input.
  Laid BY PROGRAM, IN A SANDBOX (cutbox-rows.mjs): the forced cells as the released guide's own fill.sh prints them over the translation a9912b728f1e7022… (all of the seat's roots in one cut). By AI agents, Wed Nov 11 2026. No macro, syntax, notation, axiom, sorry.
-/
import Derived.Test.YthijablhhnfoeaaChecked
import GoSem.Claim
import GoSem.ClaimJoined
import GoSem.ClaimMapViews
import Derived.JoinedTies
import Derived.KernelRfl
namespace Go.Proofs.Ythijablhhnfoeaa
/- THE CELL 'sum', in the pinned program and in every row, IS THE sha256 OF THE DUMP (.gsa) THAT YthijablhhnfoeaaProg.lean LOADS. Nothing in Lean hashes anything: it is a label: what it is worth is what the hold of that sum in a sandbox is worth. -/
noncomputable def Try.pinned : Pinned := { name := "ythijablhhnfoeaa", sum := "a9912b728f1e7022134619e5ef989527f83e304a03e6d5b922ef29d40ae953db", checked := Try.checked }
namespace Rows
def none {H : Type} : Left H := { results := [], args := [] }

/-- 'undercroftlaw02.BitsSet': WHATEVER THE INPUT: true; the input reads as it did. -/
def bitsSetSpec : ChangeSpec := { name := "bitsSet", fn := fun _ => fun
  | [d1, d2] => { results := [.lit (.bool true)], args := [d1, d2] }
  | _ => none }
def bitsSetRow : OpenClaim := { program := "ythijablhhnfoeaa", sum := "a9912b728f1e7022134619e5ef989527f83e304a03e6d5b922ef29d40ae953db", func := "undercroft/undercroftlaw02.BitsSet", spec := "bitsSet", apart := false }
def BitsSetSaid : Prop := bitsSetRow.holds Try.pinned (OpenSpec.ofChange bitsSetSpec)

/-- ITS FALSE NEIGHBOUR: 'it returns false'. Refute it at one input. -/
def bitsSetWrong : ChangeSpec := { name := "bitsSet", fn := fun _ => fun
  | [d1, d2] => { results := [.lit (.bool false)], args := [d1, d2] }
  | _ => none }
def BitsSetWrongFalsely : Prop := bitsSetRow.holds Try.pinned (OpenSpec.ofChange bitsSetWrong)

/-- 'undercroftlaw02.BitsFirst': WHATEVER THE INPUT: true; the input reads as it did. -/
def bitsFirstSpec : ChangeSpec := { name := "bitsFirst", fn := fun _ => fun
  | [d1, d2] => { results := [.lit (.bool true)], args := [d1, d2] }
  | _ => none }
def bitsFirstRow : OpenClaim := { program := "ythijablhhnfoeaa", sum := "a9912b728f1e7022134619e5ef989527f83e304a03e6d5b922ef29d40ae953db", func := "undercroft/undercroftlaw02.BitsFirst", spec := "bitsFirst", apart := false }
def BitsFirstSaid : Prop := bitsFirstRow.holds Try.pinned (OpenSpec.ofChange bitsFirstSpec)

/-- ITS FALSE NEIGHBOUR: 'it returns false'. Refute it at one input. -/
def bitsFirstWrong : ChangeSpec := { name := "bitsFirst", fn := fun _ => fun
  | [d1, d2] => { results := [.lit (.bool false)], args := [d1, d2] }
  | _ => none }
def BitsFirstWrongFalsely : Prop := bitsFirstRow.holds Try.pinned (OpenSpec.ofChange bitsFirstWrong)

/-- 'undercroftlaw02.BitsTaken': WHATEVER THE INPUT: true; the input reads as it did. -/
def bitsTakenSpec : ChangeSpec := { name := "bitsTaken", fn := fun _ => fun
  | [d1, d2] => { results := [.lit (.bool true)], args := [d1, d2] }
  | _ => none }
def bitsTakenRow : OpenClaim := { program := "ythijablhhnfoeaa", sum := "a9912b728f1e7022134619e5ef989527f83e304a03e6d5b922ef29d40ae953db", func := "undercroft/undercroftlaw02.BitsTaken", spec := "bitsTaken", apart := false }
def BitsTakenSaid : Prop := bitsTakenRow.holds Try.pinned (OpenSpec.ofChange bitsTakenSpec)

/-- ITS FALSE NEIGHBOUR: 'it returns false'. Refute it at one input. -/
def bitsTakenWrong : ChangeSpec := { name := "bitsTaken", fn := fun _ => fun
  | [d1, d2] => { results := [.lit (.bool false)], args := [d1, d2] }
  | _ => none }
def BitsTakenWrongFalsely : Prop := bitsTakenRow.holds Try.pinned (OpenSpec.ofChange bitsTakenWrong)

/-- 'undercroftlaw02.BitsCalls': WHATEVER THE INPUT: true; the input reads as it did. -/
def bitsCallsSpec : ChangeSpec := { name := "bitsCalls", fn := fun _ => fun
  | [d1, d2] => { results := [.lit (.bool true)], args := [d1, d2] }
  | _ => none }
def bitsCallsRow : OpenClaim := { program := "ythijablhhnfoeaa", sum := "a9912b728f1e7022134619e5ef989527f83e304a03e6d5b922ef29d40ae953db", func := "undercroft/undercroftlaw02.BitsCalls", spec := "bitsCalls", unfollowed := true, recurses := true, apart := false }
def BitsCallsSaid : Prop := bitsCallsRow.holds Try.pinned (OpenSpec.ofChange bitsCallsSpec)

/-- ITS FALSE NEIGHBOUR: 'it returns false'. Refute it at one input. -/
def bitsCallsWrong : ChangeSpec := { name := "bitsCalls", fn := fun _ => fun
  | [d1, d2] => { results := [.lit (.bool false)], args := [d1, d2] }
  | _ => none }
def BitsCallsWrongFalsely : Prop := bitsCallsRow.holds Try.pinned (OpenSpec.ofChange bitsCallsWrong)

/-- 'undercroftlaw02.BitsAdd': WHATEVER THE INPUT: true; the input reads as it did. -/
def bitsAddSpec : ChangeSpec := { name := "bitsAdd", fn := fun _ => fun
  | [d1, d2] => { results := [.lit (.bool true)], args := [d1, d2] }
  | _ => none }
def bitsAddRow : OpenClaim := { program := "ythijablhhnfoeaa", sum := "a9912b728f1e7022134619e5ef989527f83e304a03e6d5b922ef29d40ae953db", func := "undercroft/undercroftlaw02.BitsAdd", spec := "bitsAdd", unfollowed := true, recurses := true, apart := false }
def BitsAddSaid : Prop := bitsAddRow.holds Try.pinned (OpenSpec.ofChange bitsAddSpec)

/-- ITS FALSE NEIGHBOUR: 'it returns false'. Refute it at one input. -/
def bitsAddWrong : ChangeSpec := { name := "bitsAdd", fn := fun _ => fun
  | [d1, d2] => { results := [.lit (.bool false)], args := [d1, d2] }
  | _ => none }
def BitsAddWrongFalsely : Prop := bitsAddRow.holds Try.pinned (OpenSpec.ofChange bitsAddWrong)

/-- 'undercroftlaw02.BitsNames': WHATEVER THE INPUT: true; the input reads as it did. -/
def bitsNamesSpec : ChangeSpec := { name := "bitsNames", fn := fun _ => fun
  | [] => { results := [.lit (.bool true)], args := [] }
  | _ => none }
def bitsNamesRow : OpenClaim := { program := "ythijablhhnfoeaa", sum := "a9912b728f1e7022134619e5ef989527f83e304a03e6d5b922ef29d40ae953db", func := "undercroft/undercroftlaw02.BitsNames", spec := "bitsNames", unfollowed := true, recurses := true, apart := false }
def BitsNamesSaid : Prop := bitsNamesRow.holds Try.pinned (OpenSpec.ofChange bitsNamesSpec)

/-- ITS FALSE NEIGHBOUR: 'it returns false'. Refute it at one input. -/
def bitsNamesWrong : ChangeSpec := { name := "bitsNames", fn := fun _ => fun
  | [] => { results := [.lit (.bool false)], args := [] }
  | _ => none }
def BitsNamesWrongFalsely : Prop := bitsNamesRow.holds Try.pinned (OpenSpec.ofChange bitsNamesWrong)

/- THE SECOND FORM. 'bulk': how many values and letters a reading holds, each counted each time it is reached (what is shared counts as often as it is met; a slice's spare places count too). A statement '..UptoSaid' is the law's where the arguments, and the package variables that the reading takes, are together of bulk at most 1048576: NARROWER than '..Said'. Prove '..Said' where nothing that the law and all that it calls make is longer than what came in: it says more and counts as full. Else prove '..UptoSaid'. A law counts once. -/
mutual
def uptoBulk {H : Type} : DataW H → Nat
  | .lit (.string bytes) => bytes.length + 1
  | .lit _ => 1
  | .nil => 1
  | .ptr d => uptoBulk d + 1
  | .slice elems spare => uptoBulkAll elems + uptoBulkAll spare + 1
  | .agg parts => uptoBulkAll parts + 1
  | .iface _ d => uptoBulk d + 1
  | .map entries => uptoBulkEntries entries + 1
  | .held _ => 1
def uptoBulkAll {H : Type} : List (DataW H) → Nat
  | [] => 0
  | d :: r => uptoBulk d + uptoBulkAll r
def uptoBulkEntries {H : Type} : List (Lit × DataW H) → Nat
  | [] => 0
  | x :: r => uptoBulkEntry x + uptoBulkEntries r
def uptoBulkEntry {H : Type} : Lit × DataW H → Nat
  | (.string bytes, d) => bytes.length + uptoBulk d + 1
  | (_, d) => uptoBulk d + 1
 end
def uptoSmall : (H : Type) → List (DataW H) → Bool := fun _ ds => decide (uptoBulkAll ds ≤ 1048576)
def OpenSpec.upto (s : _root_.Go.ChangeSpec) : _root_.Go.OpenSpec := { _root_.Go.OpenSpec.ofChange s with cond := some uptoSmall }

/-- 'undercroftlaw02.BitsSet', WHERE WHAT IT READS IS OF BULK AT MOST 1048576: true; the input reads as it did. -/
def bitsSetUptoRow : OpenClaim := { program := "ythijablhhnfoeaa", sum := "a9912b728f1e7022134619e5ef989527f83e304a03e6d5b922ef29d40ae953db", func := "undercroft/undercroftlaw02.BitsSet", spec := "bitsSet", apart := false, narrowed := true }
def BitsSetUptoSaid : Prop := bitsSetUptoRow.holds Try.pinned (OpenSpec.upto bitsSetSpec)

/-- 'undercroftlaw02.BitsFirst', WHERE WHAT IT READS IS OF BULK AT MOST 1048576: true; the input reads as it did. -/
def bitsFirstUptoRow : OpenClaim := { program := "ythijablhhnfoeaa", sum := "a9912b728f1e7022134619e5ef989527f83e304a03e6d5b922ef29d40ae953db", func := "undercroft/undercroftlaw02.BitsFirst", spec := "bitsFirst", apart := false, narrowed := true }
def BitsFirstUptoSaid : Prop := bitsFirstUptoRow.holds Try.pinned (OpenSpec.upto bitsFirstSpec)

/-- 'undercroftlaw02.BitsTaken', WHERE WHAT IT READS IS OF BULK AT MOST 1048576: true; the input reads as it did. -/
def bitsTakenUptoRow : OpenClaim := { program := "ythijablhhnfoeaa", sum := "a9912b728f1e7022134619e5ef989527f83e304a03e6d5b922ef29d40ae953db", func := "undercroft/undercroftlaw02.BitsTaken", spec := "bitsTaken", apart := false, narrowed := true }
def BitsTakenUptoSaid : Prop := bitsTakenUptoRow.holds Try.pinned (OpenSpec.upto bitsTakenSpec)

/-- 'undercroftlaw02.BitsCalls', WHERE WHAT IT READS IS OF BULK AT MOST 1048576: true; the input reads as it did. -/
def bitsCallsUptoRow : OpenClaim := { program := "ythijablhhnfoeaa", sum := "a9912b728f1e7022134619e5ef989527f83e304a03e6d5b922ef29d40ae953db", func := "undercroft/undercroftlaw02.BitsCalls", spec := "bitsCalls", unfollowed := true, recurses := true, apart := false, narrowed := true }
def BitsCallsUptoSaid : Prop := bitsCallsUptoRow.holds Try.pinned (OpenSpec.upto bitsCallsSpec)

/-- 'undercroftlaw02.BitsAdd', WHERE WHAT IT READS IS OF BULK AT MOST 1048576: true; the input reads as it did. -/
def bitsAddUptoRow : OpenClaim := { program := "ythijablhhnfoeaa", sum := "a9912b728f1e7022134619e5ef989527f83e304a03e6d5b922ef29d40ae953db", func := "undercroft/undercroftlaw02.BitsAdd", spec := "bitsAdd", unfollowed := true, recurses := true, apart := false, narrowed := true }
def BitsAddUptoSaid : Prop := bitsAddUptoRow.holds Try.pinned (OpenSpec.upto bitsAddSpec)

/-- 'undercroftlaw02.BitsNames', WHERE WHAT IT READS IS OF BULK AT MOST 1048576: true; the input reads as it did. -/
def bitsNamesUptoRow : OpenClaim := { program := "ythijablhhnfoeaa", sum := "a9912b728f1e7022134619e5ef989527f83e304a03e6d5b922ef29d40ae953db", func := "undercroft/undercroftlaw02.BitsNames", spec := "bitsNames", unfollowed := true, recurses := true, apart := false, narrowed := true }
def BitsNamesUptoSaid : Prop := bitsNamesUptoRow.holds Try.pinned (OpenSpec.upto bitsNamesSpec)

end Rows
end Go.Proofs.Ythijablhhnfoeaa
