/-
  No cell of these rows narrows 'for every input' (looked for: loops, veiled, ifaces, maps, wideKeys, modest, calm, conditions, laid).
  DERIVED. THE GIVEN ROWS OF THIS SEAT. 8 by the template 'for every input the law returns true; each argument reads behind the call as it read before'; 0 by the template 'total and deterministic' (their statements: YtpacglkopelfiaaTotals.lean).
  GIVEN WITH THE SEED: the statements are not yours to turn. If you find one false, say at which input.
  Laid BY PROGRAM, IN A SANDBOX (cutbox-rows.mjs): the forced cells as the released guide's own fill.sh prints them over the translation 7a45d4f65ec59e8d… (all of the seat's roots in one cut). By AI agents, Wed Nov 11 2026. No macro, syntax, notation, axiom, sorry.
-/
import Derived.Test.YtpacglkopelfiaaChecked
import GoSem.Claim
import GoSem.ClaimJoined
import GoSem.ClaimMapViews
import Derived.JoinedTies
import Derived.KernelRfl
namespace Go.Proofs.Ytpacglkopelfiaa
/- THE CELL 'sum', in the pinned program and in every row, IS THE sha256 OF THE DUMP (.gsa) THAT YtpacglkopelfiaaProg.lean LOADS. Nothing in Lean hashes anything: it is a label: what it is worth is what the hold of that sum in a sandbox is worth. -/
noncomputable def Try.pinned : Pinned := { name := "ytpacglkopelfiaa", sum := "7a45d4f65ec59e8d036b081e7d7b287c8c0501f243cbca0418a2d5c49266acc1", checked := Try.checked }
namespace Rows
def none {H : Type} : Left H := { results := [], args := [] }

/-- 'undercroftlaw06.CacheNil': WHATEVER THE INPUT: true; the input reads as it did. -/
def cacheNilSpec : ChangeSpec := { name := "cacheNil", fn := fun _ => fun
  | [d1, d2, d3] => { results := [.lit (.bool true)], args := [d1, d2, d3] }
  | _ => none }
def cacheNilRow : OpenClaim := { program := "ytpacglkopelfiaa", sum := "7a45d4f65ec59e8d036b081e7d7b287c8c0501f243cbca0418a2d5c49266acc1", func := "undercroft/undercroftlaw06.CacheNil", spec := "cacheNil", apart := false }
def CacheNilSaid : Prop := cacheNilRow.holds Try.pinned (OpenSpec.ofChange cacheNilSpec)

/-- ITS FALSE NEIGHBOUR: 'it returns false'. Refute it at one input. -/
def cacheNilWrong : ChangeSpec := { name := "cacheNil", fn := fun _ => fun
  | [d1, d2, d3] => { results := [.lit (.bool false)], args := [d1, d2, d3] }
  | _ => none }
def CacheNilWrongFalsely : Prop := cacheNilRow.holds Try.pinned (OpenSpec.ofChange cacheNilWrong)

/-- 'undercroftlaw06.CacheFew': WHATEVER THE INPUT: true; the input reads as it did. -/
def cacheFewSpec : ChangeSpec := { name := "cacheFew", fn := fun _ => fun
  | [d1, d2] => { results := [.lit (.bool true)], args := [d1, d2] }
  | _ => none }
def cacheFewRow : OpenClaim := { program := "ytpacglkopelfiaa", sum := "7a45d4f65ec59e8d036b081e7d7b287c8c0501f243cbca0418a2d5c49266acc1", func := "undercroft/undercroftlaw06.CacheFew", spec := "cacheFew", apart := false }
def CacheFewSaid : Prop := cacheFewRow.holds Try.pinned (OpenSpec.ofChange cacheFewSpec)

/-- ITS FALSE NEIGHBOUR: 'it returns false'. Refute it at one input. -/
def cacheFewWrong : ChangeSpec := { name := "cacheFew", fn := fun _ => fun
  | [d1, d2] => { results := [.lit (.bool false)], args := [d1, d2] }
  | _ => none }
def CacheFewWrongFalsely : Prop := cacheFewRow.holds Try.pinned (OpenSpec.ofChange cacheFewWrong)

/-- 'undercroftlaw06.CacheNames': WHATEVER THE INPUT: true; the input reads as it did. -/
def cacheNamesSpec : ChangeSpec := { name := "cacheNames", fn := fun _ => fun
  | [] => { results := [.lit (.bool true)], args := [] }
  | _ => none }
def cacheNamesRow : OpenClaim := { program := "ytpacglkopelfiaa", sum := "7a45d4f65ec59e8d036b081e7d7b287c8c0501f243cbca0418a2d5c49266acc1", func := "undercroft/undercroftlaw06.CacheNames", spec := "cacheNames", apart := false }
def CacheNamesSaid : Prop := cacheNamesRow.holds Try.pinned (OpenSpec.ofChange cacheNamesSpec)

/-- ITS FALSE NEIGHBOUR: 'it returns false'. Refute it at one input. -/
def cacheNamesWrong : ChangeSpec := { name := "cacheNames", fn := fun _ => fun
  | [] => { results := [.lit (.bool false)], args := [] }
  | _ => none }
def CacheNamesWrongFalsely : Prop := cacheNamesRow.holds Try.pinned (OpenSpec.ofChange cacheNamesWrong)

/-- 'undercroftlaw06.CacheTrue': WHATEVER THE INPUT: true; the input reads as it did. -/
def cacheTrueSpec : ChangeSpec := { name := "cacheTrue", fn := fun _ => fun
  | [d1, d2, d3] => { results := [.lit (.bool true)], args := [d1, d2, d3] }
  | _ => none }
def cacheTrueRow : OpenClaim := { program := "ytpacglkopelfiaa", sum := "7a45d4f65ec59e8d036b081e7d7b287c8c0501f243cbca0418a2d5c49266acc1", func := "undercroft/undercroftlaw06.CacheTrue", spec := "cacheTrue", apart := false }
def CacheTrueSaid : Prop := cacheTrueRow.holds Try.pinned (OpenSpec.ofChange cacheTrueSpec)

/-- ITS FALSE NEIGHBOUR: 'it returns false'. Refute it at one input. -/
def cacheTrueWrong : ChangeSpec := { name := "cacheTrue", fn := fun _ => fun
  | [d1, d2, d3] => { results := [.lit (.bool false)], args := [d1, d2, d3] }
  | _ => none }
def CacheTrueWrongFalsely : Prop := cacheTrueRow.holds Try.pinned (OpenSpec.ofChange cacheTrueWrong)

/-- 'undercroftlaw06.CacheHeld': WHATEVER THE INPUT: true; the input reads as it did. -/
def cacheHeldSpec : ChangeSpec := { name := "cacheHeld", fn := fun _ => fun
  | [d1, d2, d3, d4] => { results := [.lit (.bool true)], args := [d1, d2, d3, d4] }
  | _ => none }
def cacheHeldRow : OpenClaim := { program := "ytpacglkopelfiaa", sum := "7a45d4f65ec59e8d036b081e7d7b287c8c0501f243cbca0418a2d5c49266acc1", func := "undercroft/undercroftlaw06.CacheHeld", spec := "cacheHeld", apart := false }
def CacheHeldSaid : Prop := cacheHeldRow.holds Try.pinned (OpenSpec.ofChange cacheHeldSpec)

/-- ITS FALSE NEIGHBOUR: 'it returns false'. Refute it at one input. -/
def cacheHeldWrong : ChangeSpec := { name := "cacheHeld", fn := fun _ => fun
  | [d1, d2, d3, d4] => { results := [.lit (.bool false)], args := [d1, d2, d3, d4] }
  | _ => none }
def CacheHeldWrongFalsely : Prop := cacheHeldRow.holds Try.pinned (OpenSpec.ofChange cacheHeldWrong)

/-- 'undercroftlaw06.CachePlays': WHATEVER THE INPUT: true; the input reads as it did. -/
def cachePlaysSpec : ChangeSpec := { name := "cachePlays", fn := fun _ => fun
  | [d1, d2, d3, d4] => { results := [.lit (.bool true)], args := [d1, d2, d3, d4] }
  | _ => none }
def cachePlaysRow : OpenClaim := { program := "ytpacglkopelfiaa", sum := "7a45d4f65ec59e8d036b081e7d7b287c8c0501f243cbca0418a2d5c49266acc1", func := "undercroft/undercroftlaw06.CachePlays", spec := "cachePlays", apart := false }
def CachePlaysSaid : Prop := cachePlaysRow.holds Try.pinned (OpenSpec.ofChange cachePlaysSpec)

/-- ITS FALSE NEIGHBOUR: 'it returns false'. Refute it at one input. -/
def cachePlaysWrong : ChangeSpec := { name := "cachePlays", fn := fun _ => fun
  | [d1, d2, d3, d4] => { results := [.lit (.bool false)], args := [d1, d2, d3, d4] }
  | _ => none }
def CachePlaysWrongFalsely : Prop := cachePlaysRow.holds Try.pinned (OpenSpec.ofChange cachePlaysWrong)

/-- 'undercroftlaw14.FetchNil': WHATEVER THE INPUT: true; the input reads as it did. -/
def fetchNilSpec : ChangeSpec := { name := "fetchNil", fn := fun _ => fun
  | [d] => { results := [.lit (.bool true)], args := [d] }
  | _ => none }
def fetchNilRow : OpenClaim := { program := "ytpacglkopelfiaa", sum := "7a45d4f65ec59e8d036b081e7d7b287c8c0501f243cbca0418a2d5c49266acc1", func := "undercroft/undercroftlaw14.FetchNil", spec := "fetchNil", recurses := true, apart := false }
def FetchNilSaid : Prop := fetchNilRow.holds Try.pinned (OpenSpec.ofChange fetchNilSpec)

/-- ITS FALSE NEIGHBOUR: 'it returns false'. Refute it at one input. -/
def fetchNilWrong : ChangeSpec := { name := "fetchNil", fn := fun _ => fun
  | [d] => { results := [.lit (.bool false)], args := [d] }
  | _ => none }
def FetchNilWrongFalsely : Prop := fetchNilRow.holds Try.pinned (OpenSpec.ofChange fetchNilWrong)

/-- 'undercroftlaw11.RackNil': WHATEVER THE INPUT: true; the input reads as it did. -/
def rackNilSpec : ChangeSpec := { name := "rackNil", fn := fun _ => fun
  | [d1, d2] => { results := [.lit (.bool true)], args := [d1, d2] }
  | _ => none }
def rackNilRow : OpenClaim := { program := "ytpacglkopelfiaa", sum := "7a45d4f65ec59e8d036b081e7d7b287c8c0501f243cbca0418a2d5c49266acc1", func := "undercroft/undercroftlaw11.RackNil", spec := "rackNil", unfollowed := true, recurses := true, apart := false }
def RackNilSaid : Prop := rackNilRow.holds Try.pinned (OpenSpec.ofChange rackNilSpec)

/-- ITS FALSE NEIGHBOUR: 'it returns false'. Refute it at one input. -/
def rackNilWrong : ChangeSpec := { name := "rackNil", fn := fun _ => fun
  | [d1, d2] => { results := [.lit (.bool false)], args := [d1, d2] }
  | _ => none }
def RackNilWrongFalsely : Prop := rackNilRow.holds Try.pinned (OpenSpec.ofChange rackNilWrong)

/- THE SECOND FORM. 'bulk': how many values and letters a reading holds, each counted each time it is reached (what is shared counts as often as it is met; a slice's spare places count too). A statement '..UptoSaid' is the law's where the arguments, and the package variables that the reading takes, are together of bulk at most 1048576: NARROWER than '..Said'. Prove '..Said' where nothing that the law and all that it calls make is longer than what came in: it says more and counts as full. Else prove '..UptoSaid'. A law counts once. -/
mutual
def uptoBulk {H : Type} : DataW H → Nat
  | .lit (.string bytes) => bytes.length + 1
  | .lit _ => 1
  | .nil => 1
  | .ptr d => uptoBulk d + 1
  | .slice elems spare => uptoBulkAll elems + uptoBulkAll spare + 1
  | .agg parts => uptoBulkAll parts + 1
  | .iface _ d => uptoBulk d + 1
  | .map entries => uptoBulkEntries entries + 1
  | .held _ => 1
def uptoBulkAll {H : Type} : List (DataW H) → Nat
  | [] => 0
  | d :: r => uptoBulk d + uptoBulkAll r
def uptoBulkEntries {H : Type} : List (Lit × DataW H) → Nat
  | [] => 0
  | x :: r => uptoBulkEntry x + uptoBulkEntries r
def uptoBulkEntry {H : Type} : Lit × DataW H → Nat
  | (.string bytes, d) => bytes.length + uptoBulk d + 1
  | (_, d) => uptoBulk d + 1
 end
def uptoSmall : (H : Type) → List (DataW H) → Bool := fun _ ds => decide (uptoBulkAll ds ≤ 1048576)
def OpenSpec.upto (s : _root_.Go.ChangeSpec) : _root_.Go.OpenSpec := { _root_.Go.OpenSpec.ofChange s with cond := some uptoSmall }

/-- 'undercroftlaw06.CacheNil', WHERE WHAT IT READS IS OF BULK AT MOST 1048576: true; the input reads as it did. -/
def cacheNilUptoRow : OpenClaim := { program := "ytpacglkopelfiaa", sum := "7a45d4f65ec59e8d036b081e7d7b287c8c0501f243cbca0418a2d5c49266acc1", func := "undercroft/undercroftlaw06.CacheNil", spec := "cacheNil", apart := false, narrowed := true }
def CacheNilUptoSaid : Prop := cacheNilUptoRow.holds Try.pinned (OpenSpec.upto cacheNilSpec)

/-- 'undercroftlaw06.CacheFew', WHERE WHAT IT READS IS OF BULK AT MOST 1048576: true; the input reads as it did. -/
def cacheFewUptoRow : OpenClaim := { program := "ytpacglkopelfiaa", sum := "7a45d4f65ec59e8d036b081e7d7b287c8c0501f243cbca0418a2d5c49266acc1", func := "undercroft/undercroftlaw06.CacheFew", spec := "cacheFew", apart := false, narrowed := true }
def CacheFewUptoSaid : Prop := cacheFewUptoRow.holds Try.pinned (OpenSpec.upto cacheFewSpec)

/-- 'undercroftlaw06.CacheNames', WHERE WHAT IT READS IS OF BULK AT MOST 1048576: true; the input reads as it did. -/
def cacheNamesUptoRow : OpenClaim := { program := "ytpacglkopelfiaa", sum := "7a45d4f65ec59e8d036b081e7d7b287c8c0501f243cbca0418a2d5c49266acc1", func := "undercroft/undercroftlaw06.CacheNames", spec := "cacheNames", apart := false, narrowed := true }
def CacheNamesUptoSaid : Prop := cacheNamesUptoRow.holds Try.pinned (OpenSpec.upto cacheNamesSpec)

/-- 'undercroftlaw06.CacheTrue', WHERE WHAT IT READS IS OF BULK AT MOST 1048576: true; the input reads as it did. -/
def cacheTrueUptoRow : OpenClaim := { program := "ytpacglkopelfiaa", sum := "7a45d4f65ec59e8d036b081e7d7b287c8c0501f243cbca0418a2d5c49266acc1", func := "undercroft/undercroftlaw06.CacheTrue", spec := "cacheTrue", apart := false, narrowed := true }
def CacheTrueUptoSaid : Prop := cacheTrueUptoRow.holds Try.pinned (OpenSpec.upto cacheTrueSpec)

/-- 'undercroftlaw06.CacheHeld', WHERE WHAT IT READS IS OF BULK AT MOST 1048576: true; the input reads as it did. -/
def cacheHeldUptoRow : OpenClaim := { program := "ytpacglkopelfiaa", sum := "7a45d4f65ec59e8d036b081e7d7b287c8c0501f243cbca0418a2d5c49266acc1", func := "undercroft/undercroftlaw06.CacheHeld", spec := "cacheHeld", apart := false, narrowed := true }
def CacheHeldUptoSaid : Prop := cacheHeldUptoRow.holds Try.pinned (OpenSpec.upto cacheHeldSpec)

/-- 'undercroftlaw06.CachePlays', WHERE WHAT IT READS IS OF BULK AT MOST 1048576: true; the input reads as it did. -/
def cachePlaysUptoRow : OpenClaim := { program := "ytpacglkopelfiaa", sum := "7a45d4f65ec59e8d036b081e7d7b287c8c0501f243cbca0418a2d5c49266acc1", func := "undercroft/undercroftlaw06.CachePlays", spec := "cachePlays", apart := false, narrowed := true }
def CachePlaysUptoSaid : Prop := cachePlaysUptoRow.holds Try.pinned (OpenSpec.upto cachePlaysSpec)

/-- 'undercroftlaw14.FetchNil', WHERE WHAT IT READS IS OF BULK AT MOST 1048576: true; the input reads as it did. -/
def fetchNilUptoRow : OpenClaim := { program := "ytpacglkopelfiaa", sum := "7a45d4f65ec59e8d036b081e7d7b287c8c0501f243cbca0418a2d5c49266acc1", func := "undercroft/undercroftlaw14.FetchNil", spec := "fetchNil", recurses := true, apart := false, narrowed := true }
def FetchNilUptoSaid : Prop := fetchNilUptoRow.holds Try.pinned (OpenSpec.upto fetchNilSpec)

/-- 'undercroftlaw11.RackNil', WHERE WHAT IT READS IS OF BULK AT MOST 1048576: true; the input reads as it did. -/
def rackNilUptoRow : OpenClaim := { program := "ytpacglkopelfiaa", sum := "7a45d4f65ec59e8d036b081e7d7b287c8c0501f243cbca0418a2d5c49266acc1", func := "undercroft/undercroftlaw11.RackNil", spec := "rackNil", unfollowed := true, recurses := true, apart := false, narrowed := true }
def RackNilUptoSaid : Prop := rackNilUptoRow.holds Try.pinned (OpenSpec.upto rackNilSpec)

end Rows
end Go.Proofs.Ytpacglkopelfiaa
