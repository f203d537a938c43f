/-
  No cell of these rows narrows 'for every input' (looked for: loops, veiled, ifaces, maps, wideKeys, modest, calm, conditions, laid).
  DERIVED. THE GIVEN ROWS OF THIS SEAT. 10 by the template 'for every input the law returns true; each argument reads behind the call as it read before'; 0 by the template 'total and deterministic' (their statements: YtneigplmgellcaaTotals.lean).
  GIVEN WITH THE SEED: the statements are not yours to turn. If you find one false, say at which input.
  Laid BY PROGRAM, IN A SANDBOX (cutbox-rows.mjs): the forced cells as the released guide's own fill.sh prints them over the translation b8387f6944da73ec… (all of the seat's roots in one cut). By AI agents, Wed Nov 11 2026. No macro, syntax, notation, axiom, sorry.
-/
import Derived.Test.YtneigplmgellcaaChecked
import GoSem.Claim
import GoSem.ClaimJoined
import GoSem.ClaimMapViews
import Derived.JoinedTies
import Derived.KernelRfl
namespace Go.Proofs.Ytneigplmgellcaa
/- THE CELL 'sum', in the pinned program and in every row, IS THE sha256 OF THE DUMP (.gsa) THAT YtneigplmgellcaaProg.lean LOADS. Nothing in Lean hashes anything: it is a label: what it is worth is what the hold of that sum in a sandbox is worth. -/
noncomputable def Try.pinned : Pinned := { name := "ytneigplmgellcaa", sum := "b8387f6944da73ece8047fb708b401d434bddd71d452f86b00c262a32c507e86", checked := Try.checked }
namespace Rows
def none {H : Type} : Left H := { results := [], args := [] }

/-- 'thronglaw22.CommandBytes': WHATEVER THE INPUT: true; the input reads as it did. -/
def commandBytesSpec : ChangeSpec := { name := "commandBytes", fn := fun _ => fun
  | [d] => { results := [.lit (.bool true)], args := [d] }
  | _ => none }
def commandBytesRow : OpenClaim := { program := "ytneigplmgellcaa", sum := "b8387f6944da73ece8047fb708b401d434bddd71d452f86b00c262a32c507e86", func := "throng/thronglaw22.CommandBytes", spec := "commandBytes", unfollowed := true, recurses := true, apart := false }
def CommandBytesSaid : Prop := commandBytesRow.holds Try.pinned (OpenSpec.ofChange commandBytesSpec)

/-- ITS FALSE NEIGHBOUR: 'it returns false'. Refute it at one input. -/
def commandBytesWrong : ChangeSpec := { name := "commandBytes", fn := fun _ => fun
  | [d] => { results := [.lit (.bool false)], args := [d] }
  | _ => none }
def CommandBytesWrongFalsely : Prop := commandBytesRow.holds Try.pinned (OpenSpec.ofChange commandBytesWrong)

/-- 'thronglaw22.CommandParses': WHATEVER THE INPUT: true; the input reads as it did. -/
def commandParsesSpec : ChangeSpec := { name := "commandParses", fn := fun _ => fun
  | [d] => { results := [.lit (.bool true)], args := [d] }
  | _ => none }
def commandParsesRow : OpenClaim := { program := "ytneigplmgellcaa", sum := "b8387f6944da73ece8047fb708b401d434bddd71d452f86b00c262a32c507e86", func := "throng/thronglaw22.CommandParses", spec := "commandParses", unfollowed := true, recurses := true, apart := false }
def CommandParsesSaid : Prop := commandParsesRow.holds Try.pinned (OpenSpec.ofChange commandParsesSpec)

/-- ITS FALSE NEIGHBOUR: 'it returns false'. Refute it at one input. -/
def commandParsesWrong : ChangeSpec := { name := "commandParses", fn := fun _ => fun
  | [d] => { results := [.lit (.bool false)], args := [d] }
  | _ => none }
def CommandParsesWrongFalsely : Prop := commandParsesRow.holds Try.pinned (OpenSpec.ofChange commandParsesWrong)

/-- 'thronglaw22.CommandBack': WHATEVER THE INPUT: true; the input reads as it did. -/
def commandBackSpec : ChangeSpec := { name := "commandBack", fn := fun _ => fun
  | [d] => { results := [.lit (.bool true)], args := [d] }
  | _ => none }
def commandBackRow : OpenClaim := { program := "ytneigplmgellcaa", sum := "b8387f6944da73ece8047fb708b401d434bddd71d452f86b00c262a32c507e86", func := "throng/thronglaw22.CommandBack", spec := "commandBack", unfollowed := true, recurses := true, apart := false }
def CommandBackSaid : Prop := commandBackRow.holds Try.pinned (OpenSpec.ofChange commandBackSpec)

/-- ITS FALSE NEIGHBOUR: 'it returns false'. Refute it at one input. -/
def commandBackWrong : ChangeSpec := { name := "commandBack", fn := fun _ => fun
  | [d] => { results := [.lit (.bool false)], args := [d] }
  | _ => none }
def CommandBackWrongFalsely : Prop := commandBackRow.holds Try.pinned (OpenSpec.ofChange commandBackWrong)

/-- 'thronglaw22.CommandSpawns': WHATEVER THE INPUT: true; the input reads as it did. -/
def commandSpawnsSpec : ChangeSpec := { name := "commandSpawns", fn := fun _ => fun
  | [d] => { results := [.lit (.bool true)], args := [d] }
  | _ => none }
def commandSpawnsRow : OpenClaim := { program := "ytneigplmgellcaa", sum := "b8387f6944da73ece8047fb708b401d434bddd71d452f86b00c262a32c507e86", func := "throng/thronglaw22.CommandSpawns", spec := "commandSpawns", unfollowed := true, recurses := true, apart := false }
def CommandSpawnsSaid : Prop := commandSpawnsRow.holds Try.pinned (OpenSpec.ofChange commandSpawnsSpec)

/-- ITS FALSE NEIGHBOUR: 'it returns false'. Refute it at one input. -/
def commandSpawnsWrong : ChangeSpec := { name := "commandSpawns", fn := fun _ => fun
  | [d] => { results := [.lit (.bool false)], args := [d] }
  | _ => none }
def CommandSpawnsWrongFalsely : Prop := commandSpawnsRow.holds Try.pinned (OpenSpec.ofChange commandSpawnsWrong)

/-- 'thronglaw22.CommandMoves': WHATEVER THE INPUT: true; the input reads as it did. -/
def commandMovesSpec : ChangeSpec := { name := "commandMoves", fn := fun _ => fun
  | [d] => { results := [.lit (.bool true)], args := [d] }
  | _ => none }
def commandMovesRow : OpenClaim := { program := "ytneigplmgellcaa", sum := "b8387f6944da73ece8047fb708b401d434bddd71d452f86b00c262a32c507e86", func := "throng/thronglaw22.CommandMoves", spec := "commandMoves", unfollowed := true, recurses := true, apart := false }
def CommandMovesSaid : Prop := commandMovesRow.holds Try.pinned (OpenSpec.ofChange commandMovesSpec)

/-- ITS FALSE NEIGHBOUR: 'it returns false'. Refute it at one input. -/
def commandMovesWrong : ChangeSpec := { name := "commandMoves", fn := fun _ => fun
  | [d] => { results := [.lit (.bool false)], args := [d] }
  | _ => none }
def CommandMovesWrongFalsely : Prop := commandMovesRow.holds Try.pinned (OpenSpec.ofChange commandMovesWrong)

/-- 'thronglaw22.CommandStops': WHATEVER THE INPUT: true; the input reads as it did. -/
def commandStopsSpec : ChangeSpec := { name := "commandStops", fn := fun _ => fun
  | [d] => { results := [.lit (.bool true)], args := [d] }
  | _ => none }
def commandStopsRow : OpenClaim := { program := "ytneigplmgellcaa", sum := "b8387f6944da73ece8047fb708b401d434bddd71d452f86b00c262a32c507e86", func := "throng/thronglaw22.CommandStops", spec := "commandStops", unfollowed := true, recurses := true, apart := false }
def CommandStopsSaid : Prop := commandStopsRow.holds Try.pinned (OpenSpec.ofChange commandStopsSpec)

/-- ITS FALSE NEIGHBOUR: 'it returns false'. Refute it at one input. -/
def commandStopsWrong : ChangeSpec := { name := "commandStops", fn := fun _ => fun
  | [d] => { results := [.lit (.bool false)], args := [d] }
  | _ => none }
def CommandStopsWrongFalsely : Prop := commandStopsRow.holds Try.pinned (OpenSpec.ofChange commandStopsWrong)

/-- 'thronglaw22.CommandBuilds': WHATEVER THE INPUT: true; the input reads as it did. -/
def commandBuildsSpec : ChangeSpec := { name := "commandBuilds", fn := fun _ => fun
  | [d] => { results := [.lit (.bool true)], args := [d] }
  | _ => none }
def commandBuildsRow : OpenClaim := { program := "ytneigplmgellcaa", sum := "b8387f6944da73ece8047fb708b401d434bddd71d452f86b00c262a32c507e86", func := "throng/thronglaw22.CommandBuilds", spec := "commandBuilds", unfollowed := true, recurses := true, apart := false }
def CommandBuildsSaid : Prop := commandBuildsRow.holds Try.pinned (OpenSpec.ofChange commandBuildsSpec)

/-- ITS FALSE NEIGHBOUR: 'it returns false'. Refute it at one input. -/
def commandBuildsWrong : ChangeSpec := { name := "commandBuilds", fn := fun _ => fun
  | [d] => { results := [.lit (.bool false)], args := [d] }
  | _ => none }
def CommandBuildsWrongFalsely : Prop := commandBuildsRow.holds Try.pinned (OpenSpec.ofChange commandBuildsWrong)

/-- 'thronglaw22.CommandDrops': WHATEVER THE INPUT: true; the input reads as it did. -/
def commandDropsSpec : ChangeSpec := { name := "commandDrops", fn := fun _ => fun
  | [d] => { results := [.lit (.bool true)], args := [d] }
  | _ => none }
def commandDropsRow : OpenClaim := { program := "ytneigplmgellcaa", sum := "b8387f6944da73ece8047fb708b401d434bddd71d452f86b00c262a32c507e86", func := "throng/thronglaw22.CommandDrops", spec := "commandDrops", unfollowed := true, recurses := true, apart := false }
def CommandDropsSaid : Prop := commandDropsRow.holds Try.pinned (OpenSpec.ofChange commandDropsSpec)

/-- ITS FALSE NEIGHBOUR: 'it returns false'. Refute it at one input. -/
def commandDropsWrong : ChangeSpec := { name := "commandDrops", fn := fun _ => fun
  | [d] => { results := [.lit (.bool false)], args := [d] }
  | _ => none }
def CommandDropsWrongFalsely : Prop := commandDropsRow.holds Try.pinned (OpenSpec.ofChange commandDropsWrong)

/-- 'thronglaw22.CommandLoads': WHATEVER THE INPUT: true; the input reads as it did. -/
def commandLoadsSpec : ChangeSpec := { name := "commandLoads", fn := fun _ => fun
  | [d] => { results := [.lit (.bool true)], args := [d] }
  | _ => none }
def commandLoadsRow : OpenClaim := { program := "ytneigplmgellcaa", sum := "b8387f6944da73ece8047fb708b401d434bddd71d452f86b00c262a32c507e86", func := "throng/thronglaw22.CommandLoads", spec := "commandLoads", unfollowed := true, recurses := true, apart := false }
def CommandLoadsSaid : Prop := commandLoadsRow.holds Try.pinned (OpenSpec.ofChange commandLoadsSpec)

/-- ITS FALSE NEIGHBOUR: 'it returns false'. Refute it at one input. -/
def commandLoadsWrong : ChangeSpec := { name := "commandLoads", fn := fun _ => fun
  | [d] => { results := [.lit (.bool false)], args := [d] }
  | _ => none }
def CommandLoadsWrongFalsely : Prop := commandLoadsRow.holds Try.pinned (OpenSpec.ofChange commandLoadsWrong)

/-- 'thronglaw22.CommandUnloads': WHATEVER THE INPUT: true; the input reads as it did. -/
def commandUnloadsSpec : ChangeSpec := { name := "commandUnloads", fn := fun _ => fun
  | [d] => { results := [.lit (.bool true)], args := [d] }
  | _ => none }
def commandUnloadsRow : OpenClaim := { program := "ytneigplmgellcaa", sum := "b8387f6944da73ece8047fb708b401d434bddd71d452f86b00c262a32c507e86", func := "throng/thronglaw22.CommandUnloads", spec := "commandUnloads", unfollowed := true, recurses := true, apart := false }
def CommandUnloadsSaid : Prop := commandUnloadsRow.holds Try.pinned (OpenSpec.ofChange commandUnloadsSpec)

/-- ITS FALSE NEIGHBOUR: 'it returns false'. Refute it at one input. -/
def commandUnloadsWrong : ChangeSpec := { name := "commandUnloads", fn := fun _ => fun
  | [d] => { results := [.lit (.bool false)], args := [d] }
  | _ => none }
def CommandUnloadsWrongFalsely : Prop := commandUnloadsRow.holds Try.pinned (OpenSpec.ofChange commandUnloadsWrong)

/- THE SECOND FORM. 'bulk': how many values and letters a reading holds, each counted each time it is reached (what is shared counts as often as it is met; a slice's spare places count too). A statement '..UptoSaid' is the law's where the arguments, and the package variables that the reading takes, are together of bulk at most 1048576: NARROWER than '..Said'. Prove '..Said' where nothing that the law and all that it calls make is longer than what came in: it says more and counts as full. Else prove '..UptoSaid'. A law counts once. -/
mutual
def uptoBulk {H : Type} : DataW H → Nat
  | .lit (.string bytes) => bytes.length + 1
  | .lit _ => 1
  | .nil => 1
  | .ptr d => uptoBulk d + 1
  | .slice elems spare => uptoBulkAll elems + uptoBulkAll spare + 1
  | .agg parts => uptoBulkAll parts + 1
  | .iface _ d => uptoBulk d + 1
  | .map entries => uptoBulkEntries entries + 1
  | .held _ => 1
def uptoBulkAll {H : Type} : List (DataW H) → Nat
  | [] => 0
  | d :: r => uptoBulk d + uptoBulkAll r
def uptoBulkEntries {H : Type} : List (Lit × DataW H) → Nat
  | [] => 0
  | x :: r => uptoBulkEntry x + uptoBulkEntries r
def uptoBulkEntry {H : Type} : Lit × DataW H → Nat
  | (.string bytes, d) => bytes.length + uptoBulk d + 1
  | (_, d) => uptoBulk d + 1
 end
def uptoSmall : (H : Type) → List (DataW H) → Bool := fun _ ds => decide (uptoBulkAll ds ≤ 1048576)
def OpenSpec.upto (s : _root_.Go.ChangeSpec) : _root_.Go.OpenSpec := { _root_.Go.OpenSpec.ofChange s with cond := some uptoSmall }

/-- 'thronglaw22.CommandBytes', WHERE WHAT IT READS IS OF BULK AT MOST 1048576: true; the input reads as it did. -/
def commandBytesUptoRow : OpenClaim := { program := "ytneigplmgellcaa", sum := "b8387f6944da73ece8047fb708b401d434bddd71d452f86b00c262a32c507e86", func := "throng/thronglaw22.CommandBytes", spec := "commandBytes", unfollowed := true, recurses := true, apart := false, narrowed := true }
def CommandBytesUptoSaid : Prop := commandBytesUptoRow.holds Try.pinned (OpenSpec.upto commandBytesSpec)

/-- 'thronglaw22.CommandParses', WHERE WHAT IT READS IS OF BULK AT MOST 1048576: true; the input reads as it did. -/
def commandParsesUptoRow : OpenClaim := { program := "ytneigplmgellcaa", sum := "b8387f6944da73ece8047fb708b401d434bddd71d452f86b00c262a32c507e86", func := "throng/thronglaw22.CommandParses", spec := "commandParses", unfollowed := true, recurses := true, apart := false, narrowed := true }
def CommandParsesUptoSaid : Prop := commandParsesUptoRow.holds Try.pinned (OpenSpec.upto commandParsesSpec)

/-- 'thronglaw22.CommandBack', WHERE WHAT IT READS IS OF BULK AT MOST 1048576: true; the input reads as it did. -/
def commandBackUptoRow : OpenClaim := { program := "ytneigplmgellcaa", sum := "b8387f6944da73ece8047fb708b401d434bddd71d452f86b00c262a32c507e86", func := "throng/thronglaw22.CommandBack", spec := "commandBack", unfollowed := true, recurses := true, apart := false, narrowed := true }
def CommandBackUptoSaid : Prop := commandBackUptoRow.holds Try.pinned (OpenSpec.upto commandBackSpec)

/-- 'thronglaw22.CommandSpawns', WHERE WHAT IT READS IS OF BULK AT MOST 1048576: true; the input reads as it did. -/
def commandSpawnsUptoRow : OpenClaim := { program := "ytneigplmgellcaa", sum := "b8387f6944da73ece8047fb708b401d434bddd71d452f86b00c262a32c507e86", func := "throng/thronglaw22.CommandSpawns", spec := "commandSpawns", unfollowed := true, recurses := true, apart := false, narrowed := true }
def CommandSpawnsUptoSaid : Prop := commandSpawnsUptoRow.holds Try.pinned (OpenSpec.upto commandSpawnsSpec)

/-- 'thronglaw22.CommandMoves', WHERE WHAT IT READS IS OF BULK AT MOST 1048576: true; the input reads as it did. -/
def commandMovesUptoRow : OpenClaim := { program := "ytneigplmgellcaa", sum := "b8387f6944da73ece8047fb708b401d434bddd71d452f86b00c262a32c507e86", func := "throng/thronglaw22.CommandMoves", spec := "commandMoves", unfollowed := true, recurses := true, apart := false, narrowed := true }
def CommandMovesUptoSaid : Prop := commandMovesUptoRow.holds Try.pinned (OpenSpec.upto commandMovesSpec)

/-- 'thronglaw22.CommandStops', WHERE WHAT IT READS IS OF BULK AT MOST 1048576: true; the input reads as it did. -/
def commandStopsUptoRow : OpenClaim := { program := "ytneigplmgellcaa", sum := "b8387f6944da73ece8047fb708b401d434bddd71d452f86b00c262a32c507e86", func := "throng/thronglaw22.CommandStops", spec := "commandStops", unfollowed := true, recurses := true, apart := false, narrowed := true }
def CommandStopsUptoSaid : Prop := commandStopsUptoRow.holds Try.pinned (OpenSpec.upto commandStopsSpec)

/-- 'thronglaw22.CommandBuilds', WHERE WHAT IT READS IS OF BULK AT MOST 1048576: true; the input reads as it did. -/
def commandBuildsUptoRow : OpenClaim := { program := "ytneigplmgellcaa", sum := "b8387f6944da73ece8047fb708b401d434bddd71d452f86b00c262a32c507e86", func := "throng/thronglaw22.CommandBuilds", spec := "commandBuilds", unfollowed := true, recurses := true, apart := false, narrowed := true }
def CommandBuildsUptoSaid : Prop := commandBuildsUptoRow.holds Try.pinned (OpenSpec.upto commandBuildsSpec)

/-- 'thronglaw22.CommandDrops', WHERE WHAT IT READS IS OF BULK AT MOST 1048576: true; the input reads as it did. -/
def commandDropsUptoRow : OpenClaim := { program := "ytneigplmgellcaa", sum := "b8387f6944da73ece8047fb708b401d434bddd71d452f86b00c262a32c507e86", func := "throng/thronglaw22.CommandDrops", spec := "commandDrops", unfollowed := true, recurses := true, apart := false, narrowed := true }
def CommandDropsUptoSaid : Prop := commandDropsUptoRow.holds Try.pinned (OpenSpec.upto commandDropsSpec)

/-- 'thronglaw22.CommandLoads', WHERE WHAT IT READS IS OF BULK AT MOST 1048576: true; the input reads as it did. -/
def commandLoadsUptoRow : OpenClaim := { program := "ytneigplmgellcaa", sum := "b8387f6944da73ece8047fb708b401d434bddd71d452f86b00c262a32c507e86", func := "throng/thronglaw22.CommandLoads", spec := "commandLoads", unfollowed := true, recurses := true, apart := false, narrowed := true }
def CommandLoadsUptoSaid : Prop := commandLoadsUptoRow.holds Try.pinned (OpenSpec.upto commandLoadsSpec)

/-- 'thronglaw22.CommandUnloads', WHERE WHAT IT READS IS OF BULK AT MOST 1048576: true; the input reads as it did. -/
def commandUnloadsUptoRow : OpenClaim := { program := "ytneigplmgellcaa", sum := "b8387f6944da73ece8047fb708b401d434bddd71d452f86b00c262a32c507e86", func := "throng/thronglaw22.CommandUnloads", spec := "commandUnloads", unfollowed := true, recurses := true, apart := false, narrowed := true }
def CommandUnloadsUptoSaid : Prop := commandUnloadsUptoRow.holds Try.pinned (OpenSpec.upto commandUnloadsSpec)

end Rows
end Go.Proofs.Ytneigplmgellcaa
