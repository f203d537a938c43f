/-
  No cell of these rows narrows 'for every input' (looked for: loops, veiled, ifaces, maps, wideKeys, modest, calm, conditions, laid).
  DERIVED. THE GIVEN ROWS OF THIS SEAT. 8 by the template 'for every input the law returns true; each argument reads behind the call as it read before'; 0 by the template 'total and deterministic' (their statements: YtfgjiaakoacomaaTotals.lean).
  GIVEN WITH THE SEED: the statements are not yours to turn. If you find one false, say at which input.
  Laid BY PROGRAM, IN A SANDBOX (cutbox-rows.mjs): the forced cells as the released guide's own fill.sh prints them over the translation f8283a9ff509f20d… (all of the seat's roots in one cut). By AI agents, Wed Nov 11 2026. No macro, syntax, notation, axiom, sorry.
-/
import Derived.Test.YtfgjiaakoacomaaChecked
import GoSem.Claim
import GoSem.ClaimJoined
import GoSem.ClaimMapViews
import Derived.JoinedTies
import Derived.KernelRfl
namespace Go.Proofs.Ytfgjiaakoacomaa
/- THE CELL 'sum', in the pinned program and in every row, IS THE sha256 OF THE DUMP (.gsa) THAT YtfgjiaakoacomaaProg.lean LOADS. Nothing in Lean hashes anything: it is a label: what it is worth is what the hold of that sum in a sandbox is worth. -/
noncomputable def Try.pinned : Pinned := { name := "ytfgjiaakoacomaa", sum := "f8283a9ff509f20d80303c19a5a7c57b6693e906f30d398310b32a3fbc183273", checked := Try.checked }
namespace Rows
def none {H : Type} : Left H := { results := [], args := [] }

/-- 'thronglaw9.ClearGrids': WHATEVER THE INPUT: true; the input reads as it did. -/
def clearGridsSpec : ChangeSpec := { name := "clearGrids", fn := fun _ => fun
  | [d] => { results := [.lit (.bool true)], args := [d] }
  | _ => none }
def clearGridsRow : OpenClaim := { program := "ytfgjiaakoacomaa", sum := "f8283a9ff509f20d80303c19a5a7c57b6693e906f30d398310b32a3fbc183273", func := "throng/thronglaw9.ClearGrids", spec := "clearGrids", unfollowed := true, recurses := true, apart := false }
def ClearGridsSaid : Prop := clearGridsRow.holds Try.pinned (OpenSpec.ofChange clearGridsSpec)

/-- ITS FALSE NEIGHBOUR: 'it returns false'. Refute it at one input. -/
def clearGridsWrong : ChangeSpec := { name := "clearGrids", fn := fun _ => fun
  | [d] => { results := [.lit (.bool false)], args := [d] }
  | _ => none }
def ClearGridsWrongFalsely : Prop := clearGridsRow.holds Try.pinned (OpenSpec.ofChange clearGridsWrong)

/-- 'thronglaw9.ClearBuilt': WHATEVER THE INPUT: true; the input reads as it did. -/
def clearBuiltSpec : ChangeSpec := { name := "clearBuilt", fn := fun _ => fun
  | [d] => { results := [.lit (.bool true)], args := [d] }
  | _ => none }
def clearBuiltRow : OpenClaim := { program := "ytfgjiaakoacomaa", sum := "f8283a9ff509f20d80303c19a5a7c57b6693e906f30d398310b32a3fbc183273", func := "throng/thronglaw9.ClearBuilt", spec := "clearBuilt", unfollowed := true, recurses := true, apart := false }
def ClearBuiltSaid : Prop := clearBuiltRow.holds Try.pinned (OpenSpec.ofChange clearBuiltSpec)

/-- ITS FALSE NEIGHBOUR: 'it returns false'. Refute it at one input. -/
def clearBuiltWrong : ChangeSpec := { name := "clearBuilt", fn := fun _ => fun
  | [d] => { results := [.lit (.bool false)], args := [d] }
  | _ => none }
def ClearBuiltWrongFalsely : Prop := clearBuiltRow.holds Try.pinned (OpenSpec.ofChange clearBuiltWrong)

/-- 'thronglaw9.ClearWalls': WHATEVER THE INPUT: true; the input reads as it did. -/
def clearWallsSpec : ChangeSpec := { name := "clearWalls", fn := fun _ => fun
  | [d] => { results := [.lit (.bool true)], args := [d] }
  | _ => none }
def clearWallsRow : OpenClaim := { program := "ytfgjiaakoacomaa", sum := "f8283a9ff509f20d80303c19a5a7c57b6693e906f30d398310b32a3fbc183273", func := "throng/thronglaw9.ClearWalls", spec := "clearWalls", unfollowed := true, recurses := true, apart := false }
def ClearWallsSaid : Prop := clearWallsRow.holds Try.pinned (OpenSpec.ofChange clearWallsSpec)

/-- ITS FALSE NEIGHBOUR: 'it returns false'. Refute it at one input. -/
def clearWallsWrong : ChangeSpec := { name := "clearWalls", fn := fun _ => fun
  | [d] => { results := [.lit (.bool false)], args := [d] }
  | _ => none }
def ClearWallsWrongFalsely : Prop := clearWallsRow.holds Try.pinned (OpenSpec.ofChange clearWallsWrong)

/-- 'thronglaw9.ClearOpens': WHATEVER THE INPUT: true; the input reads as it did. -/
def clearOpensSpec : ChangeSpec := { name := "clearOpens", fn := fun _ => fun
  | [d] => { results := [.lit (.bool true)], args := [d] }
  | _ => none }
def clearOpensRow : OpenClaim := { program := "ytfgjiaakoacomaa", sum := "f8283a9ff509f20d80303c19a5a7c57b6693e906f30d398310b32a3fbc183273", func := "throng/thronglaw9.ClearOpens", spec := "clearOpens", unfollowed := true, recurses := true, apart := false }
def ClearOpensSaid : Prop := clearOpensRow.holds Try.pinned (OpenSpec.ofChange clearOpensSpec)

/-- ITS FALSE NEIGHBOUR: 'it returns false'. Refute it at one input. -/
def clearOpensWrong : ChangeSpec := { name := "clearOpens", fn := fun _ => fun
  | [d] => { results := [.lit (.bool false)], args := [d] }
  | _ => none }
def ClearOpensWrongFalsely : Prop := clearOpensRow.holds Try.pinned (OpenSpec.ofChange clearOpensWrong)

/-- 'thronglaw9.ClearSquares': WHATEVER THE INPUT: true; the input reads as it did. -/
def clearSquaresSpec : ChangeSpec := { name := "clearSquares", fn := fun _ => fun
  | [d] => { results := [.lit (.bool true)], args := [d] }
  | _ => none }
def clearSquaresRow : OpenClaim := { program := "ytfgjiaakoacomaa", sum := "f8283a9ff509f20d80303c19a5a7c57b6693e906f30d398310b32a3fbc183273", func := "throng/thronglaw9.ClearSquares", spec := "clearSquares", unfollowed := true, recurses := true, apart := false }
def ClearSquaresSaid : Prop := clearSquaresRow.holds Try.pinned (OpenSpec.ofChange clearSquaresSpec)

/-- ITS FALSE NEIGHBOUR: 'it returns false'. Refute it at one input. -/
def clearSquaresWrong : ChangeSpec := { name := "clearSquares", fn := fun _ => fun
  | [d] => { results := [.lit (.bool false)], args := [d] }
  | _ => none }
def ClearSquaresWrongFalsely : Prop := clearSquaresRow.holds Try.pinned (OpenSpec.ofChange clearSquaresWrong)

/-- 'thronglaw20.SlotsFinds': WHATEVER THE INPUT: true; the input reads as it did. -/
def slotsFindsSpec : ChangeSpec := { name := "slotsFinds", fn := fun _ => fun
  | [d] => { results := [.lit (.bool true)], args := [d] }
  | _ => none }
def slotsFindsRow : OpenClaim := { program := "ytfgjiaakoacomaa", sum := "f8283a9ff509f20d80303c19a5a7c57b6693e906f30d398310b32a3fbc183273", func := "throng/thronglaw20.SlotsFinds", spec := "slotsFinds", unfollowed := true, recurses := true, apart := false }
def SlotsFindsSaid : Prop := slotsFindsRow.holds Try.pinned (OpenSpec.ofChange slotsFindsSpec)

/-- ITS FALSE NEIGHBOUR: 'it returns false'. Refute it at one input. -/
def slotsFindsWrong : ChangeSpec := { name := "slotsFinds", fn := fun _ => fun
  | [d] => { results := [.lit (.bool false)], args := [d] }
  | _ => none }
def SlotsFindsWrongFalsely : Prop := slotsFindsRow.holds Try.pinned (OpenSpec.ofChange slotsFindsWrong)

/-- 'thronglaw20.SlotsApart': WHATEVER THE INPUT: true; the input reads as it did. -/
def slotsApartSpec : ChangeSpec := { name := "slotsApart", fn := fun _ => fun
  | [d] => { results := [.lit (.bool true)], args := [d] }
  | _ => none }
def slotsApartRow : OpenClaim := { program := "ytfgjiaakoacomaa", sum := "f8283a9ff509f20d80303c19a5a7c57b6693e906f30d398310b32a3fbc183273", func := "throng/thronglaw20.SlotsApart", spec := "slotsApart", unfollowed := true, recurses := true, apart := false }
def SlotsApartSaid : Prop := slotsApartRow.holds Try.pinned (OpenSpec.ofChange slotsApartSpec)

/-- ITS FALSE NEIGHBOUR: 'it returns false'. Refute it at one input. -/
def slotsApartWrong : ChangeSpec := { name := "slotsApart", fn := fun _ => fun
  | [d] => { results := [.lit (.bool false)], args := [d] }
  | _ => none }
def SlotsApartWrongFalsely : Prop := slotsApartRow.holds Try.pinned (OpenSpec.ofChange slotsApartWrong)

/-- 'thronglaw20.SlotsRings': WHATEVER THE INPUT: true; the input reads as it did. -/
def slotsRingsSpec : ChangeSpec := { name := "slotsRings", fn := fun _ => fun
  | [d] => { results := [.lit (.bool true)], args := [d] }
  | _ => none }
def slotsRingsRow : OpenClaim := { program := "ytfgjiaakoacomaa", sum := "f8283a9ff509f20d80303c19a5a7c57b6693e906f30d398310b32a3fbc183273", func := "throng/thronglaw20.SlotsRings", spec := "slotsRings", unfollowed := true, recurses := true, apart := false }
def SlotsRingsSaid : Prop := slotsRingsRow.holds Try.pinned (OpenSpec.ofChange slotsRingsSpec)

/-- ITS FALSE NEIGHBOUR: 'it returns false'. Refute it at one input. -/
def slotsRingsWrong : ChangeSpec := { name := "slotsRings", fn := fun _ => fun
  | [d] => { results := [.lit (.bool false)], args := [d] }
  | _ => none }
def SlotsRingsWrongFalsely : Prop := slotsRingsRow.holds Try.pinned (OpenSpec.ofChange slotsRingsWrong)

/- THE SECOND FORM. 'bulk': how many values and letters a reading holds, each counted each time it is reached (what is shared counts as often as it is met; a slice's spare places count too). A statement '..UptoSaid' is the law's where the arguments, and the package variables that the reading takes, are together of bulk at most 1048576: NARROWER than '..Said'. Prove '..Said' where nothing that the law and all that it calls make is longer than what came in: it says more and counts as full. Else prove '..UptoSaid'. A law counts once. -/
mutual
def uptoBulk {H : Type} : DataW H → Nat
  | .lit (.string bytes) => bytes.length + 1
  | .lit _ => 1
  | .nil => 1
  | .ptr d => uptoBulk d + 1
  | .slice elems spare => uptoBulkAll elems + uptoBulkAll spare + 1
  | .agg parts => uptoBulkAll parts + 1
  | .iface _ d => uptoBulk d + 1
  | .map entries => uptoBulkEntries entries + 1
  | .held _ => 1
def uptoBulkAll {H : Type} : List (DataW H) → Nat
  | [] => 0
  | d :: r => uptoBulk d + uptoBulkAll r
def uptoBulkEntries {H : Type} : List (Lit × DataW H) → Nat
  | [] => 0
  | x :: r => uptoBulkEntry x + uptoBulkEntries r
def uptoBulkEntry {H : Type} : Lit × DataW H → Nat
  | (.string bytes, d) => bytes.length + uptoBulk d + 1
  | (_, d) => uptoBulk d + 1
 end
def uptoSmall : (H : Type) → List (DataW H) → Bool := fun _ ds => decide (uptoBulkAll ds ≤ 1048576)
def OpenSpec.upto (s : _root_.Go.ChangeSpec) : _root_.Go.OpenSpec := { _root_.Go.OpenSpec.ofChange s with cond := some uptoSmall }

/-- 'thronglaw9.ClearGrids', WHERE WHAT IT READS IS OF BULK AT MOST 1048576: true; the input reads as it did. -/
def clearGridsUptoRow : OpenClaim := { program := "ytfgjiaakoacomaa", sum := "f8283a9ff509f20d80303c19a5a7c57b6693e906f30d398310b32a3fbc183273", func := "throng/thronglaw9.ClearGrids", spec := "clearGrids", unfollowed := true, recurses := true, apart := false, narrowed := true }
def ClearGridsUptoSaid : Prop := clearGridsUptoRow.holds Try.pinned (OpenSpec.upto clearGridsSpec)

/-- 'thronglaw9.ClearBuilt', WHERE WHAT IT READS IS OF BULK AT MOST 1048576: true; the input reads as it did. -/
def clearBuiltUptoRow : OpenClaim := { program := "ytfgjiaakoacomaa", sum := "f8283a9ff509f20d80303c19a5a7c57b6693e906f30d398310b32a3fbc183273", func := "throng/thronglaw9.ClearBuilt", spec := "clearBuilt", unfollowed := true, recurses := true, apart := false, narrowed := true }
def ClearBuiltUptoSaid : Prop := clearBuiltUptoRow.holds Try.pinned (OpenSpec.upto clearBuiltSpec)

/-- 'thronglaw9.ClearWalls', WHERE WHAT IT READS IS OF BULK AT MOST 1048576: true; the input reads as it did. -/
def clearWallsUptoRow : OpenClaim := { program := "ytfgjiaakoacomaa", sum := "f8283a9ff509f20d80303c19a5a7c57b6693e906f30d398310b32a3fbc183273", func := "throng/thronglaw9.ClearWalls", spec := "clearWalls", unfollowed := true, recurses := true, apart := false, narrowed := true }
def ClearWallsUptoSaid : Prop := clearWallsUptoRow.holds Try.pinned (OpenSpec.upto clearWallsSpec)

/-- 'thronglaw9.ClearOpens', WHERE WHAT IT READS IS OF BULK AT MOST 1048576: true; the input reads as it did. -/
def clearOpensUptoRow : OpenClaim := { program := "ytfgjiaakoacomaa", sum := "f8283a9ff509f20d80303c19a5a7c57b6693e906f30d398310b32a3fbc183273", func := "throng/thronglaw9.ClearOpens", spec := "clearOpens", unfollowed := true, recurses := true, apart := false, narrowed := true }
def ClearOpensUptoSaid : Prop := clearOpensUptoRow.holds Try.pinned (OpenSpec.upto clearOpensSpec)

/-- 'thronglaw9.ClearSquares', WHERE WHAT IT READS IS OF BULK AT MOST 1048576: true; the input reads as it did. -/
def clearSquaresUptoRow : OpenClaim := { program := "ytfgjiaakoacomaa", sum := "f8283a9ff509f20d80303c19a5a7c57b6693e906f30d398310b32a3fbc183273", func := "throng/thronglaw9.ClearSquares", spec := "clearSquares", unfollowed := true, recurses := true, apart := false, narrowed := true }
def ClearSquaresUptoSaid : Prop := clearSquaresUptoRow.holds Try.pinned (OpenSpec.upto clearSquaresSpec)

/-- 'thronglaw20.SlotsFinds', WHERE WHAT IT READS IS OF BULK AT MOST 1048576: true; the input reads as it did. -/
def slotsFindsUptoRow : OpenClaim := { program := "ytfgjiaakoacomaa", sum := "f8283a9ff509f20d80303c19a5a7c57b6693e906f30d398310b32a3fbc183273", func := "throng/thronglaw20.SlotsFinds", spec := "slotsFinds", unfollowed := true, recurses := true, apart := false, narrowed := true }
def SlotsFindsUptoSaid : Prop := slotsFindsUptoRow.holds Try.pinned (OpenSpec.upto slotsFindsSpec)

/-- 'thronglaw20.SlotsApart', WHERE WHAT IT READS IS OF BULK AT MOST 1048576: true; the input reads as it did. -/
def slotsApartUptoRow : OpenClaim := { program := "ytfgjiaakoacomaa", sum := "f8283a9ff509f20d80303c19a5a7c57b6693e906f30d398310b32a3fbc183273", func := "throng/thronglaw20.SlotsApart", spec := "slotsApart", unfollowed := true, recurses := true, apart := false, narrowed := true }
def SlotsApartUptoSaid : Prop := slotsApartUptoRow.holds Try.pinned (OpenSpec.upto slotsApartSpec)

/-- 'thronglaw20.SlotsRings', WHERE WHAT IT READS IS OF BULK AT MOST 1048576: true; the input reads as it did. -/
def slotsRingsUptoRow : OpenClaim := { program := "ytfgjiaakoacomaa", sum := "f8283a9ff509f20d80303c19a5a7c57b6693e906f30d398310b32a3fbc183273", func := "throng/thronglaw20.SlotsRings", spec := "slotsRings", unfollowed := true, recurses := true, apart := false, narrowed := true }
def SlotsRingsUptoSaid : Prop := slotsRingsUptoRow.holds Try.pinned (OpenSpec.upto slotsRingsSpec)

end Rows
end Go.Proofs.Ytfgjiaakoacomaa
