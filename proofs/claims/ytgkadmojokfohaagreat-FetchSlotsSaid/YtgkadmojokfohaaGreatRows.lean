/-
  No cell of these rows narrows 'for every input' (looked for: loops, veiled, ifaces, maps, wideKeys, modest, calm, conditions, laid).
  DERIVED. THE GIVEN ROWS OF THIS SEAT. 3 by the template 'for every input the law returns true; each argument reads behind the call as it read before'; 0 by the template 'total and deterministic' (their statements: YtgkadmojokfohaaGreatTotals.lean).
  GIVEN WITH THE SEED: the statements are not yours to turn. If you find one false, say at which input.
  Laid BY PROGRAM, IN A SANDBOX (cutbox-rows.mjs): the forced cells as the released guide's own fill.sh prints them over the translation 64a0cc9caa5b9b3d… (all of the seat's roots in one cut). By AI agents, Wed Nov 11 2026. No macro, syntax, notation, axiom, sorry.
-/
import Derived.Test.YtgkadmojokfohaaGreatChecked
import GoSem.Claim
import GoSem.ClaimJoined
import GoSem.ClaimMapViews
import Derived.JoinedTies
import Derived.KernelRfl
namespace Go.Proofs.YtgkadmojokfohaaGreat
/- THE CELL 'sum', in the pinned program and in every row, IS THE sha256 OF THE DUMP (.gsa) THAT YtgkadmojokfohaaGreatProg.lean LOADS. Nothing in Lean hashes anything: it is a label: what it is worth is what the hold of that sum in a sandbox is worth. -/
noncomputable def Tryz.pinned : Pinned := { name := "ytgkadmojokfohaagreat", sum := "64a0cc9caa5b9b3df82875fb0f1cfabf92290a7daff8f09625ce99e9744d2360", checked := Tryz.checked }
namespace Rows
def none {H : Type} : Left H := { results := [], args := [] }

/-- 'undercroftlaw14.FetchHolds': WHATEVER THE INPUT: true; the input reads as it did. -/
def fetchHoldsSpec : ChangeSpec := { name := "fetchHolds", fn := fun _ => fun
  | [d1, d2, d3] => { results := [.lit (.bool true)], args := [d1, d2, d3] }
  | _ => none }
def fetchHoldsRow : OpenClaim := { program := "ytgkadmojokfohaagreat", sum := "64a0cc9caa5b9b3df82875fb0f1cfabf92290a7daff8f09625ce99e9744d2360", func := "undercroft/undercroftlaw14.FetchHolds", spec := "fetchHolds", recurses := true, apart := false }
def FetchHoldsSaid : Prop := fetchHoldsRow.holds Tryz.pinned (OpenSpec.ofChange fetchHoldsSpec)

/-- ITS FALSE NEIGHBOUR: 'it returns false'. Refute it at one input. -/
def fetchHoldsWrong : ChangeSpec := { name := "fetchHolds", fn := fun _ => fun
  | [d1, d2, d3] => { results := [.lit (.bool false)], args := [d1, d2, d3] }
  | _ => none }
def FetchHoldsWrongFalsely : Prop := fetchHoldsRow.holds Tryz.pinned (OpenSpec.ofChange fetchHoldsWrong)

/-- 'undercroftlaw14.FetchSlots': WHATEVER THE INPUT: true; the input reads as it did. -/
def fetchSlotsSpec : ChangeSpec := { name := "fetchSlots", fn := fun _ => fun
  | [d1, d2] => { results := [.lit (.bool true)], args := [d1, d2] }
  | _ => none }
def fetchSlotsRow : OpenClaim := { program := "ytgkadmojokfohaagreat", sum := "64a0cc9caa5b9b3df82875fb0f1cfabf92290a7daff8f09625ce99e9744d2360", func := "undercroft/undercroftlaw14.FetchSlots", spec := "fetchSlots", recurses := true, apart := false }
def FetchSlotsSaid : Prop := fetchSlotsRow.holds Tryz.pinned (OpenSpec.ofChange fetchSlotsSpec)

/-- ITS FALSE NEIGHBOUR: 'it returns false'. Refute it at one input. -/
def fetchSlotsWrong : ChangeSpec := { name := "fetchSlots", fn := fun _ => fun
  | [d1, d2] => { results := [.lit (.bool false)], args := [d1, d2] }
  | _ => none }
def FetchSlotsWrongFalsely : Prop := fetchSlotsRow.holds Tryz.pinned (OpenSpec.ofChange fetchSlotsWrong)

/-- 'undercroftlaw14.FetchCalls': WHATEVER THE INPUT: true; the input reads as it did. -/
def fetchCallsSpec : ChangeSpec := { name := "fetchCalls", fn := fun _ => fun
  | [d1, d2] => { results := [.lit (.bool true)], args := [d1, d2] }
  | _ => none }
def fetchCallsRow : OpenClaim := { program := "ytgkadmojokfohaagreat", sum := "64a0cc9caa5b9b3df82875fb0f1cfabf92290a7daff8f09625ce99e9744d2360", func := "undercroft/undercroftlaw14.FetchCalls", spec := "fetchCalls", recurses := true, apart := false }
def FetchCallsSaid : Prop := fetchCallsRow.holds Tryz.pinned (OpenSpec.ofChange fetchCallsSpec)

/-- ITS FALSE NEIGHBOUR: 'it returns false'. Refute it at one input. -/
def fetchCallsWrong : ChangeSpec := { name := "fetchCalls", fn := fun _ => fun
  | [d1, d2] => { results := [.lit (.bool false)], args := [d1, d2] }
  | _ => none }
def FetchCallsWrongFalsely : Prop := fetchCallsRow.holds Tryz.pinned (OpenSpec.ofChange fetchCallsWrong)

/- THE SECOND FORM. 'bulk': how many values and letters a reading holds, each counted each time it is reached (what is shared counts as often as it is met; a slice's spare places count too). A statement '..UptoSaid' is the law's where the arguments, and the package variables that the reading takes, are together of bulk at most 1048576: NARROWER than '..Said'. Prove '..Said' where nothing that the law and all that it calls make is longer than what came in: it says more and counts as full. Else prove '..UptoSaid'. A law counts once. -/
mutual
def uptoBulk {H : Type} : DataW H → Nat
  | .lit (.string bytes) => bytes.length + 1
  | .lit _ => 1
  | .nil => 1
  | .ptr d => uptoBulk d + 1
  | .slice elems spare => uptoBulkAll elems + uptoBulkAll spare + 1
  | .agg parts => uptoBulkAll parts + 1
  | .iface _ d => uptoBulk d + 1
  | .map entries => uptoBulkEntries entries + 1
  | .held _ => 1
def uptoBulkAll {H : Type} : List (DataW H) → Nat
  | [] => 0
  | d :: r => uptoBulk d + uptoBulkAll r
def uptoBulkEntries {H : Type} : List (Lit × DataW H) → Nat
  | [] => 0
  | x :: r => uptoBulkEntry x + uptoBulkEntries r
def uptoBulkEntry {H : Type} : Lit × DataW H → Nat
  | (.string bytes, d) => bytes.length + uptoBulk d + 1
  | (_, d) => uptoBulk d + 1
 end
def uptoSmall : (H : Type) → List (DataW H) → Bool := fun _ ds => decide (uptoBulkAll ds ≤ 1048576)
def OpenSpec.upto (s : _root_.Go.ChangeSpec) : _root_.Go.OpenSpec := { _root_.Go.OpenSpec.ofChange s with cond := some uptoSmall }

/-- 'undercroftlaw14.FetchHolds', WHERE WHAT IT READS IS OF BULK AT MOST 1048576: true; the input reads as it did. -/
def fetchHoldsUptoRow : OpenClaim := { program := "ytgkadmojokfohaagreat", sum := "64a0cc9caa5b9b3df82875fb0f1cfabf92290a7daff8f09625ce99e9744d2360", func := "undercroft/undercroftlaw14.FetchHolds", spec := "fetchHolds", recurses := true, apart := false, narrowed := true }
def FetchHoldsUptoSaid : Prop := fetchHoldsUptoRow.holds Tryz.pinned (OpenSpec.upto fetchHoldsSpec)

/-- 'undercroftlaw14.FetchSlots', WHERE WHAT IT READS IS OF BULK AT MOST 1048576: true; the input reads as it did. -/
def fetchSlotsUptoRow : OpenClaim := { program := "ytgkadmojokfohaagreat", sum := "64a0cc9caa5b9b3df82875fb0f1cfabf92290a7daff8f09625ce99e9744d2360", func := "undercroft/undercroftlaw14.FetchSlots", spec := "fetchSlots", recurses := true, apart := false, narrowed := true }
def FetchSlotsUptoSaid : Prop := fetchSlotsUptoRow.holds Tryz.pinned (OpenSpec.upto fetchSlotsSpec)

/-- 'undercroftlaw14.FetchCalls', WHERE WHAT IT READS IS OF BULK AT MOST 1048576: true; the input reads as it did. -/
def fetchCallsUptoRow : OpenClaim := { program := "ytgkadmojokfohaagreat", sum := "64a0cc9caa5b9b3df82875fb0f1cfabf92290a7daff8f09625ce99e9744d2360", func := "undercroft/undercroftlaw14.FetchCalls", spec := "fetchCalls", recurses := true, apart := false, narrowed := true }
def FetchCallsUptoSaid : Prop := fetchCallsUptoRow.holds Tryz.pinned (OpenSpec.upto fetchCallsSpec)

end Rows
end Go.Proofs.YtgkadmojokfohaaGreat
