/-
  No cell of these rows narrows 'for every input' (looked for: loops, veiled, ifaces, maps, wideKeys, modest, calm, conditions, laid).
  DERIVED. THE GIVEN ROWS OF THIS SEAT. 5 by the template 'for every input the law returns true; each argument reads behind the call as it read before'; 0 by the template 'total and deterministic' (their statements: YtkmehmgocelkiaaTotals.lean).
  GIVEN WITH THE SEED: the statements are not yours to turn. If you find one false, say at which input.
  Laid BY PROGRAM, IN A SANDBOX (cutbox-rows.mjs): the forced cells as the released guide's own fill.sh prints them over the translation d891c8c76b134aa2… (all of the seat's roots in one cut). By AI agents, Wed Nov 11 2026. No macro, syntax, notation, axiom, sorry.
-/
import Derived.Test.YtkmehmgocelkiaaChecked
import GoSem.Claim
import GoSem.ClaimJoined
import GoSem.ClaimMapViews
import Derived.JoinedTies
import Derived.KernelRfl
namespace Go.Proofs.Ytkmehmgocelkiaa
/- THE CELL 'sum', in the pinned program and in every row, IS THE sha256 OF THE DUMP (.gsa) THAT YtkmehmgocelkiaaProg.lean LOADS. Nothing in Lean hashes anything: it is a label: what it is worth is what the hold of that sum in a sandbox is worth. -/
noncomputable def Try.pinned : Pinned := { name := "ytkmehmgocelkiaa", sum := "d891c8c76b134aa2bf0c725d21b1cf9c91f9ea2ba5ab8fa20b3c34d4f055771f", checked := Try.checked }
namespace Rows
def none {H : Type} : Left H := { results := [], args := [] }

/-- 'regraterlaw08.BagTurns': WHATEVER THE INPUT: true; the input reads as it did. -/
def bagTurnsSpec : ChangeSpec := { name := "bagTurns", fn := fun _ => fun
  | [d1, d2, d3] => { results := [.lit (.bool true)], args := [d1, d2, d3] }
  | _ => none }
def bagTurnsRow : OpenClaim := { program := "ytkmehmgocelkiaa", sum := "d891c8c76b134aa2bf0c725d21b1cf9c91f9ea2ba5ab8fa20b3c34d4f055771f", func := "regrater/regraterlaw08.BagTurns", spec := "bagTurns", unfollowed := true, recurses := true, apart := false }
def BagTurnsSaid : Prop := bagTurnsRow.holds Try.pinned (OpenSpec.ofChange bagTurnsSpec)

/-- ITS FALSE NEIGHBOUR: 'it returns false'. Refute it at one input. -/
def bagTurnsWrong : ChangeSpec := { name := "bagTurns", fn := fun _ => fun
  | [d1, d2, d3] => { results := [.lit (.bool false)], args := [d1, d2, d3] }
  | _ => none }
def BagTurnsWrongFalsely : Prop := bagTurnsRow.holds Try.pinned (OpenSpec.ofChange bagTurnsWrong)

/-- 'regraterlaw08.BagReads': WHATEVER THE INPUT: true; the input reads as it did. -/
def bagReadsSpec : ChangeSpec := { name := "bagReads", fn := fun _ => fun
  | [d1, d2] => { results := [.lit (.bool true)], args := [d1, d2] }
  | _ => none }
def bagReadsRow : OpenClaim := { program := "ytkmehmgocelkiaa", sum := "d891c8c76b134aa2bf0c725d21b1cf9c91f9ea2ba5ab8fa20b3c34d4f055771f", func := "regrater/regraterlaw08.BagReads", spec := "bagReads", unfollowed := true, recurses := true, apart := false }
def BagReadsSaid : Prop := bagReadsRow.holds Try.pinned (OpenSpec.ofChange bagReadsSpec)

/-- ITS FALSE NEIGHBOUR: 'it returns false'. Refute it at one input. -/
def bagReadsWrong : ChangeSpec := { name := "bagReads", fn := fun _ => fun
  | [d1, d2] => { results := [.lit (.bool false)], args := [d1, d2] }
  | _ => none }
def BagReadsWrongFalsely : Prop := bagReadsRow.holds Try.pinned (OpenSpec.ofChange bagReadsWrong)

/-- 'regraterlaw08.BagHolds': WHATEVER THE INPUT: true; the input reads as it did. -/
def bagHoldsSpec : ChangeSpec := { name := "bagHolds", fn := fun _ => fun
  | [d1, d2] => { results := [.lit (.bool true)], args := [d1, d2] }
  | _ => none }
def bagHoldsRow : OpenClaim := { program := "ytkmehmgocelkiaa", sum := "d891c8c76b134aa2bf0c725d21b1cf9c91f9ea2ba5ab8fa20b3c34d4f055771f", func := "regrater/regraterlaw08.BagHolds", spec := "bagHolds", unfollowed := true, recurses := true, apart := false }
def BagHoldsSaid : Prop := bagHoldsRow.holds Try.pinned (OpenSpec.ofChange bagHoldsSpec)

/-- ITS FALSE NEIGHBOUR: 'it returns false'. Refute it at one input. -/
def bagHoldsWrong : ChangeSpec := { name := "bagHolds", fn := fun _ => fun
  | [d1, d2] => { results := [.lit (.bool false)], args := [d1, d2] }
  | _ => none }
def BagHoldsWrongFalsely : Prop := bagHoldsRow.holds Try.pinned (OpenSpec.ofChange bagHoldsWrong)

/-- 'regraterlaw23.AggTurns': WHATEVER THE INPUT: true; the input reads as it did. -/
def aggTurnsSpec : ChangeSpec := { name := "aggTurns", fn := fun _ => fun
  | [d] => { results := [.lit (.bool true)], args := [d] }
  | _ => none }
def aggTurnsRow : OpenClaim := { program := "ytkmehmgocelkiaa", sum := "d891c8c76b134aa2bf0c725d21b1cf9c91f9ea2ba5ab8fa20b3c34d4f055771f", func := "regrater/regraterlaw23.AggTurns", spec := "aggTurns", inPlace := ["math/bits.Add64"], unfollowed := true, recurses := true, apart := false }
def AggTurnsSaid : Prop := aggTurnsRow.holds Try.pinned (OpenSpec.ofChange aggTurnsSpec)

/-- ITS FALSE NEIGHBOUR: 'it returns false'. Refute it at one input. -/
def aggTurnsWrong : ChangeSpec := { name := "aggTurns", fn := fun _ => fun
  | [d] => { results := [.lit (.bool false)], args := [d] }
  | _ => none }
def AggTurnsWrongFalsely : Prop := aggTurnsRow.holds Try.pinned (OpenSpec.ofChange aggTurnsWrong)

/-- 'regraterlaw23.AggGroups': WHATEVER THE INPUT: true; the input reads as it did. -/
def aggGroupsSpec : ChangeSpec := { name := "aggGroups", fn := fun _ => fun
  | [d1, d2] => { results := [.lit (.bool true)], args := [d1, d2] }
  | _ => none }
def aggGroupsRow : OpenClaim := { program := "ytkmehmgocelkiaa", sum := "d891c8c76b134aa2bf0c725d21b1cf9c91f9ea2ba5ab8fa20b3c34d4f055771f", func := "regrater/regraterlaw23.AggGroups", spec := "aggGroups", inPlace := ["math/bits.Add64"], unfollowed := true, recurses := true, apart := false }
def AggGroupsSaid : Prop := aggGroupsRow.holds Try.pinned (OpenSpec.ofChange aggGroupsSpec)

/-- ITS FALSE NEIGHBOUR: 'it returns false'. Refute it at one input. -/
def aggGroupsWrong : ChangeSpec := { name := "aggGroups", fn := fun _ => fun
  | [d1, d2] => { results := [.lit (.bool false)], args := [d1, d2] }
  | _ => none }
def AggGroupsWrongFalsely : Prop := aggGroupsRow.holds Try.pinned (OpenSpec.ofChange aggGroupsWrong)

/- THE SECOND FORM. 'bulk': how many values and letters a reading holds, each counted each time it is reached (what is shared counts as often as it is met; a slice's spare places count too). A statement '..UptoSaid' is the law's where the arguments, and the package variables that the reading takes, are together of bulk at most 1048576: NARROWER than '..Said'. Prove '..Said' where nothing that the law and all that it calls make is longer than what came in: it says more and counts as full. Else prove '..UptoSaid'. A law counts once. -/
mutual
def uptoBulk {H : Type} : DataW H → Nat
  | .lit (.string bytes) => bytes.length + 1
  | .lit _ => 1
  | .nil => 1
  | .ptr d => uptoBulk d + 1
  | .slice elems spare => uptoBulkAll elems + uptoBulkAll spare + 1
  | .agg parts => uptoBulkAll parts + 1
  | .iface _ d => uptoBulk d + 1
  | .map entries => uptoBulkEntries entries + 1
  | .held _ => 1
def uptoBulkAll {H : Type} : List (DataW H) → Nat
  | [] => 0
  | d :: r => uptoBulk d + uptoBulkAll r
def uptoBulkEntries {H : Type} : List (Lit × DataW H) → Nat
  | [] => 0
  | x :: r => uptoBulkEntry x + uptoBulkEntries r
def uptoBulkEntry {H : Type} : Lit × DataW H → Nat
  | (.string bytes, d) => bytes.length + uptoBulk d + 1
  | (_, d) => uptoBulk d + 1
 end
def uptoSmall : (H : Type) → List (DataW H) → Bool := fun _ ds => decide (uptoBulkAll ds ≤ 1048576)
def OpenSpec.upto (s : _root_.Go.ChangeSpec) : _root_.Go.OpenSpec := { _root_.Go.OpenSpec.ofChange s with cond := some uptoSmall }

/-- 'regraterlaw08.BagTurns', WHERE WHAT IT READS IS OF BULK AT MOST 1048576: true; the input reads as it did. -/
def bagTurnsUptoRow : OpenClaim := { program := "ytkmehmgocelkiaa", sum := "d891c8c76b134aa2bf0c725d21b1cf9c91f9ea2ba5ab8fa20b3c34d4f055771f", func := "regrater/regraterlaw08.BagTurns", spec := "bagTurns", unfollowed := true, recurses := true, apart := false, narrowed := true }
def BagTurnsUptoSaid : Prop := bagTurnsUptoRow.holds Try.pinned (OpenSpec.upto bagTurnsSpec)

/-- 'regraterlaw08.BagReads', WHERE WHAT IT READS IS OF BULK AT MOST 1048576: true; the input reads as it did. -/
def bagReadsUptoRow : OpenClaim := { program := "ytkmehmgocelkiaa", sum := "d891c8c76b134aa2bf0c725d21b1cf9c91f9ea2ba5ab8fa20b3c34d4f055771f", func := "regrater/regraterlaw08.BagReads", spec := "bagReads", unfollowed := true, recurses := true, apart := false, narrowed := true }
def BagReadsUptoSaid : Prop := bagReadsUptoRow.holds Try.pinned (OpenSpec.upto bagReadsSpec)

/-- 'regraterlaw08.BagHolds', WHERE WHAT IT READS IS OF BULK AT MOST 1048576: true; the input reads as it did. -/
def bagHoldsUptoRow : OpenClaim := { program := "ytkmehmgocelkiaa", sum := "d891c8c76b134aa2bf0c725d21b1cf9c91f9ea2ba5ab8fa20b3c34d4f055771f", func := "regrater/regraterlaw08.BagHolds", spec := "bagHolds", unfollowed := true, recurses := true, apart := false, narrowed := true }
def BagHoldsUptoSaid : Prop := bagHoldsUptoRow.holds Try.pinned (OpenSpec.upto bagHoldsSpec)

/-- 'regraterlaw23.AggTurns', WHERE WHAT IT READS IS OF BULK AT MOST 1048576: true; the input reads as it did. -/
def aggTurnsUptoRow : OpenClaim := { program := "ytkmehmgocelkiaa", sum := "d891c8c76b134aa2bf0c725d21b1cf9c91f9ea2ba5ab8fa20b3c34d4f055771f", func := "regrater/regraterlaw23.AggTurns", spec := "aggTurns", inPlace := ["math/bits.Add64"], unfollowed := true, recurses := true, apart := false, narrowed := true }
def AggTurnsUptoSaid : Prop := aggTurnsUptoRow.holds Try.pinned (OpenSpec.upto aggTurnsSpec)

/-- 'regraterlaw23.AggGroups', WHERE WHAT IT READS IS OF BULK AT MOST 1048576: true; the input reads as it did. -/
def aggGroupsUptoRow : OpenClaim := { program := "ytkmehmgocelkiaa", sum := "d891c8c76b134aa2bf0c725d21b1cf9c91f9ea2ba5ab8fa20b3c34d4f055771f", func := "regrater/regraterlaw23.AggGroups", spec := "aggGroups", inPlace := ["math/bits.Add64"], unfollowed := true, recurses := true, apart := false, narrowed := true }
def AggGroupsUptoSaid : Prop := aggGroupsUptoRow.holds Try.pinned (OpenSpec.upto aggGroupsSpec)

end Rows
end Go.Proofs.Ytkmehmgocelkiaa
