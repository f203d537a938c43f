/-
  No cell of these rows narrows 'for every input' (looked for: loops, veiled, ifaces, maps, wideKeys, modest, calm, conditions, laid).
  DERIVED. THE GIVEN ROWS OF THIS SEAT. 18 by the template 'for every input the law returns true; each argument reads behind the call as it read before'; 0 by the template 'total and deterministic' (their statements: YtpkdkkbmmkhhhaaTotals.lean).
  GIVEN WITH THE SEED: the statements are not yours to turn. If you find one false, say at which input.
  Laid BY PROGRAM, IN A SANDBOX (cutbox-rows.mjs): the forced cells as the released guide's own fill.sh prints them over the translation ef7df39d63e0e08e… (all of the seat's roots in one cut). By AI agents, Wed Nov 11 2026. No macro, syntax, notation, axiom, sorry.
-/
import Derived.Test.YtpkdkkbmmkhhhaaChecked
import GoSem.Claim
import GoSem.ClaimJoined
import GoSem.ClaimMapViews
import Derived.JoinedTies
import Derived.KernelRfl
namespace Go.Proofs.Ytpkdkkbmmkhhhaa
/- THE CELL 'sum', in the pinned program and in every row, IS THE sha256 OF THE DUMP (.gsa) THAT YtpkdkkbmmkhhhaaProg.lean LOADS. Nothing in Lean hashes anything: it is a label: what it is worth is what the hold of that sum in a sandbox is worth. -/
noncomputable def Try.pinned : Pinned := { name := "ytpkdkkbmmkhhhaa", sum := "ef7df39d63e0e08eb976719b5a3970c665860d6a44daf48599787d6fb60367a7", checked := Try.checked }
namespace Rows
def none {H : Type} : Left H := { results := [], args := [] }

/-- 'thronglaw2.VecLens': WHATEVER THE INPUT: true; the input reads as it did. -/
def vecLensSpec : ChangeSpec := { name := "vecLens", fn := fun _ => fun
  | [d] => { results := [.lit (.bool true)], args := [d] }
  | _ => none }
def vecLensRow : OpenClaim := { program := "ytpkdkkbmmkhhhaa", sum := "ef7df39d63e0e08eb976719b5a3970c665860d6a44daf48599787d6fb60367a7", func := "throng/thronglaw2.VecLens", spec := "vecLens", inPlace := ["math/bits.Add64"], apart := false }
def VecLensSaid : Prop := vecLensRow.holds Try.pinned (OpenSpec.ofChange vecLensSpec)

/-- ITS FALSE NEIGHBOUR: 'it returns false'. Refute it at one input. -/
def vecLensWrong : ChangeSpec := { name := "vecLens", fn := fun _ => fun
  | [d] => { results := [.lit (.bool false)], args := [d] }
  | _ => none }
def VecLensWrongFalsely : Prop := vecLensRow.holds Try.pinned (OpenSpec.ofChange vecLensWrong)

/-- 'thronglaw2.VecLess': WHATEVER THE INPUT: true; the input reads as it did. -/
def vecLessSpec : ChangeSpec := { name := "vecLess", fn := fun _ => fun
  | [d] => { results := [.lit (.bool true)], args := [d] }
  | _ => none }
def vecLessRow : OpenClaim := { program := "ytpkdkkbmmkhhhaa", sum := "ef7df39d63e0e08eb976719b5a3970c665860d6a44daf48599787d6fb60367a7", func := "throng/thronglaw2.VecLess", spec := "vecLess", inPlace := ["math/bits.Add64"], apart := false }
def VecLessSaid : Prop := vecLessRow.holds Try.pinned (OpenSpec.ofChange vecLessSpec)

/-- ITS FALSE NEIGHBOUR: 'it returns false'. Refute it at one input. -/
def vecLessWrong : ChangeSpec := { name := "vecLess", fn := fun _ => fun
  | [d] => { results := [.lit (.bool false)], args := [d] }
  | _ => none }
def VecLessWrongFalsely : Prop := vecLessRow.holds Try.pinned (OpenSpec.ofChange vecLessWrong)

/-- 'thronglaw1.FixedProducts': WHATEVER THE INPUT: true; the input reads as it did. -/
def fixedProductsSpec : ChangeSpec := { name := "fixedProducts", fn := fun _ => fun
  | [d] => { results := [.lit (.bool true)], args := [d] }
  | _ => none }
def fixedProductsRow : OpenClaim := { program := "ytpkdkkbmmkhhhaa", sum := "ef7df39d63e0e08eb976719b5a3970c665860d6a44daf48599787d6fb60367a7", func := "throng/thronglaw1.FixedProducts", spec := "fixedProducts", apart := false }
def FixedProductsSaid : Prop := fixedProductsRow.holds Try.pinned (OpenSpec.ofChange fixedProductsSpec)

/-- ITS FALSE NEIGHBOUR: 'it returns false'. Refute it at one input. -/
def fixedProductsWrong : ChangeSpec := { name := "fixedProducts", fn := fun _ => fun
  | [d] => { results := [.lit (.bool false)], args := [d] }
  | _ => none }
def FixedProductsWrongFalsely : Prop := fixedProductsRow.holds Try.pinned (OpenSpec.ofChange fixedProductsWrong)

/-- 'thronglaw1.FixedRoots': WHATEVER THE INPUT: true; the input reads as it did. -/
def fixedRootsSpec : ChangeSpec := { name := "fixedRoots", fn := fun _ => fun
  | [d] => { results := [.lit (.bool true)], args := [d] }
  | _ => none }
def fixedRootsRow : OpenClaim := { program := "ytpkdkkbmmkhhhaa", sum := "ef7df39d63e0e08eb976719b5a3970c665860d6a44daf48599787d6fb60367a7", func := "throng/thronglaw1.FixedRoots", spec := "fixedRoots", apart := false }
def FixedRootsSaid : Prop := fixedRootsRow.holds Try.pinned (OpenSpec.ofChange fixedRootsSpec)

/-- ITS FALSE NEIGHBOUR: 'it returns false'. Refute it at one input. -/
def fixedRootsWrong : ChangeSpec := { name := "fixedRoots", fn := fun _ => fun
  | [d] => { results := [.lit (.bool false)], args := [d] }
  | _ => none }
def FixedRootsWrongFalsely : Prop := fixedRootsRow.holds Try.pinned (OpenSpec.ofChange fixedRootsWrong)

/-- 'thronglaw2.VecWithin': WHATEVER THE INPUT: true; the input reads as it did. -/
def vecWithinSpec : ChangeSpec := { name := "vecWithin", fn := fun _ => fun
  | [d] => { results := [.lit (.bool true)], args := [d] }
  | _ => none }
def vecWithinRow : OpenClaim := { program := "ytpkdkkbmmkhhhaa", sum := "ef7df39d63e0e08eb976719b5a3970c665860d6a44daf48599787d6fb60367a7", func := "throng/thronglaw2.VecWithin", spec := "vecWithin", inPlace := ["math/bits.Add64"], apart := false }
def VecWithinSaid : Prop := vecWithinRow.holds Try.pinned (OpenSpec.ofChange vecWithinSpec)

/-- ITS FALSE NEIGHBOUR: 'it returns false'. Refute it at one input. -/
def vecWithinWrong : ChangeSpec := { name := "vecWithin", fn := fun _ => fun
  | [d] => { results := [.lit (.bool false)], args := [d] }
  | _ => none }
def VecWithinWrongFalsely : Prop := vecWithinRow.holds Try.pinned (OpenSpec.ofChange vecWithinWrong)

/-- 'thronglaw2.VecSquares': WHATEVER THE INPUT: true; the input reads as it did. -/
def vecSquaresSpec : ChangeSpec := { name := "vecSquares", fn := fun _ => fun
  | [d] => { results := [.lit (.bool true)], args := [d] }
  | _ => none }
def vecSquaresRow : OpenClaim := { program := "ytpkdkkbmmkhhhaa", sum := "ef7df39d63e0e08eb976719b5a3970c665860d6a44daf48599787d6fb60367a7", func := "throng/thronglaw2.VecSquares", spec := "vecSquares", inPlace := ["math/bits.Add64"], apart := false }
def VecSquaresSaid : Prop := vecSquaresRow.holds Try.pinned (OpenSpec.ofChange vecSquaresSpec)

/-- ITS FALSE NEIGHBOUR: 'it returns false'. Refute it at one input. -/
def vecSquaresWrong : ChangeSpec := { name := "vecSquares", fn := fun _ => fun
  | [d] => { results := [.lit (.bool false)], args := [d] }
  | _ => none }
def VecSquaresWrongFalsely : Prop := vecSquaresRow.holds Try.pinned (OpenSpec.ofChange vecSquaresWrong)

/-- 'thronglaw2.VecTriangles': WHATEVER THE INPUT: true; the input reads as it did. -/
def vecTrianglesSpec : ChangeSpec := { name := "vecTriangles", fn := fun _ => fun
  | [d] => { results := [.lit (.bool true)], args := [d] }
  | _ => none }
def vecTrianglesRow : OpenClaim := { program := "ytpkdkkbmmkhhhaa", sum := "ef7df39d63e0e08eb976719b5a3970c665860d6a44daf48599787d6fb60367a7", func := "throng/thronglaw2.VecTriangles", spec := "vecTriangles", inPlace := ["math/bits.Add64"], apart := false }
def VecTrianglesSaid : Prop := vecTrianglesRow.holds Try.pinned (OpenSpec.ofChange vecTrianglesSpec)

/-- ITS FALSE NEIGHBOUR: 'it returns false'. Refute it at one input. -/
def vecTrianglesWrong : ChangeSpec := { name := "vecTriangles", fn := fun _ => fun
  | [d] => { results := [.lit (.bool false)], args := [d] }
  | _ => none }
def VecTrianglesWrongFalsely : Prop := vecTrianglesRow.holds Try.pinned (OpenSpec.ofChange vecTrianglesWrong)

/-- 'thronglaw1.FixedSums': WHATEVER THE INPUT: true; the input reads as it did. -/
def fixedSumsSpec : ChangeSpec := { name := "fixedSums", fn := fun _ => fun
  | [d] => { results := [.lit (.bool true)], args := [d] }
  | _ => none }
def fixedSumsRow : OpenClaim := { program := "ytpkdkkbmmkhhhaa", sum := "ef7df39d63e0e08eb976719b5a3970c665860d6a44daf48599787d6fb60367a7", func := "throng/thronglaw1.FixedSums", spec := "fixedSums", apart := false }
def FixedSumsSaid : Prop := fixedSumsRow.holds Try.pinned (OpenSpec.ofChange fixedSumsSpec)

/-- ITS FALSE NEIGHBOUR: 'it returns false'. Refute it at one input. -/
def fixedSumsWrong : ChangeSpec := { name := "fixedSums", fn := fun _ => fun
  | [d] => { results := [.lit (.bool false)], args := [d] }
  | _ => none }
def FixedSumsWrongFalsely : Prop := fixedSumsRow.holds Try.pinned (OpenSpec.ofChange fixedSumsWrong)

/-- 'thronglaw2.VecSums': WHATEVER THE INPUT: true; the input reads as it did. -/
def vecSumsSpec : ChangeSpec := { name := "vecSums", fn := fun _ => fun
  | [d] => { results := [.lit (.bool true)], args := [d] }
  | _ => none }
def vecSumsRow : OpenClaim := { program := "ytpkdkkbmmkhhhaa", sum := "ef7df39d63e0e08eb976719b5a3970c665860d6a44daf48599787d6fb60367a7", func := "throng/thronglaw2.VecSums", spec := "vecSums", inPlace := ["math/bits.Add64"], apart := false }
def VecSumsSaid : Prop := vecSumsRow.holds Try.pinned (OpenSpec.ofChange vecSumsSpec)

/-- ITS FALSE NEIGHBOUR: 'it returns false'. Refute it at one input. -/
def vecSumsWrong : ChangeSpec := { name := "vecSums", fn := fun _ => fun
  | [d] => { results := [.lit (.bool false)], args := [d] }
  | _ => none }
def VecSumsWrongFalsely : Prop := vecSumsRow.holds Try.pinned (OpenSpec.ofChange vecSumsWrong)

/-- 'thronglaw2.VecTurns': WHATEVER THE INPUT: true; the input reads as it did. -/
def vecTurnsSpec : ChangeSpec := { name := "vecTurns", fn := fun _ => fun
  | [d] => { results := [.lit (.bool true)], args := [d] }
  | _ => none }
def vecTurnsRow : OpenClaim := { program := "ytpkdkkbmmkhhhaa", sum := "ef7df39d63e0e08eb976719b5a3970c665860d6a44daf48599787d6fb60367a7", func := "throng/thronglaw2.VecTurns", spec := "vecTurns", inPlace := ["math/bits.Add64"], apart := false }
def VecTurnsSaid : Prop := vecTurnsRow.holds Try.pinned (OpenSpec.ofChange vecTurnsSpec)

/-- ITS FALSE NEIGHBOUR: 'it returns false'. Refute it at one input. -/
def vecTurnsWrong : ChangeSpec := { name := "vecTurns", fn := fun _ => fun
  | [d] => { results := [.lit (.bool false)], args := [d] }
  | _ => none }
def VecTurnsWrongFalsely : Prop := vecTurnsRow.holds Try.pinned (OpenSpec.ofChange vecTurnsWrong)

/-- 'thronglaw2.VecClamps': WHATEVER THE INPUT: true; the input reads as it did. -/
def vecClampsSpec : ChangeSpec := { name := "vecClamps", fn := fun _ => fun
  | [d] => { results := [.lit (.bool true)], args := [d] }
  | _ => none }
def vecClampsRow : OpenClaim := { program := "ytpkdkkbmmkhhhaa", sum := "ef7df39d63e0e08eb976719b5a3970c665860d6a44daf48599787d6fb60367a7", func := "throng/thronglaw2.VecClamps", spec := "vecClamps", inPlace := ["math/bits.Add64"], named := ["math/bits.divideError", "math/bits.overflowError"], apart := false }
def VecClampsSaid : Prop := vecClampsRow.holds Try.pinned (OpenSpec.ofChange vecClampsSpec)

/-- ITS FALSE NEIGHBOUR: 'it returns false'. Refute it at one input. -/
def vecClampsWrong : ChangeSpec := { name := "vecClamps", fn := fun _ => fun
  | [d] => { results := [.lit (.bool false)], args := [d] }
  | _ => none }
def VecClampsWrongFalsely : Prop := vecClampsRow.holds Try.pinned (OpenSpec.ofChange vecClampsWrong)

/-- 'thronglaw2.VecShort': WHATEVER THE INPUT: true; the input reads as it did. -/
def vecShortSpec : ChangeSpec := { name := "vecShort", fn := fun _ => fun
  | [d] => { results := [.lit (.bool true)], args := [d] }
  | _ => none }
def vecShortRow : OpenClaim := { program := "ytpkdkkbmmkhhhaa", sum := "ef7df39d63e0e08eb976719b5a3970c665860d6a44daf48599787d6fb60367a7", func := "throng/thronglaw2.VecShort", spec := "vecShort", inPlace := ["math/bits.Add64"], named := ["math/bits.divideError", "math/bits.overflowError"], apart := false }
def VecShortSaid : Prop := vecShortRow.holds Try.pinned (OpenSpec.ofChange vecShortSpec)

/-- ITS FALSE NEIGHBOUR: 'it returns false'. Refute it at one input. -/
def vecShortWrong : ChangeSpec := { name := "vecShort", fn := fun _ => fun
  | [d] => { results := [.lit (.bool false)], args := [d] }
  | _ => none }
def VecShortWrongFalsely : Prop := vecShortRow.holds Try.pinned (OpenSpec.ofChange vecShortWrong)

/-- 'thronglaw1.FixedQuotients': WHATEVER THE INPUT: true; the input reads as it did. -/
def fixedQuotientsSpec : ChangeSpec := { name := "fixedQuotients", fn := fun _ => fun
  | [d] => { results := [.lit (.bool true)], args := [d] }
  | _ => none }
def fixedQuotientsRow : OpenClaim := { program := "ytpkdkkbmmkhhhaa", sum := "ef7df39d63e0e08eb976719b5a3970c665860d6a44daf48599787d6fb60367a7", func := "throng/thronglaw1.FixedQuotients", spec := "fixedQuotients", named := ["math/bits.divideError", "math/bits.overflowError"], apart := false }
def FixedQuotientsSaid : Prop := fixedQuotientsRow.holds Try.pinned (OpenSpec.ofChange fixedQuotientsSpec)

/-- ITS FALSE NEIGHBOUR: 'it returns false'. Refute it at one input. -/
def fixedQuotientsWrong : ChangeSpec := { name := "fixedQuotients", fn := fun _ => fun
  | [d] => { results := [.lit (.bool false)], args := [d] }
  | _ => none }
def FixedQuotientsWrongFalsely : Prop := fixedQuotientsRow.holds Try.pinned (OpenSpec.ofChange fixedQuotientsWrong)

/-- 'thronglaw1.FixedDowns': WHATEVER THE INPUT: true; the input reads as it did. -/
def fixedDownsSpec : ChangeSpec := { name := "fixedDowns", fn := fun _ => fun
  | [d] => { results := [.lit (.bool true)], args := [d] }
  | _ => none }
def fixedDownsRow : OpenClaim := { program := "ytpkdkkbmmkhhhaa", sum := "ef7df39d63e0e08eb976719b5a3970c665860d6a44daf48599787d6fb60367a7", func := "throng/thronglaw1.FixedDowns", spec := "fixedDowns", named := ["math/bits.divideError", "math/bits.overflowError"], apart := false }
def FixedDownsSaid : Prop := fixedDownsRow.holds Try.pinned (OpenSpec.ofChange fixedDownsSpec)

/-- ITS FALSE NEIGHBOUR: 'it returns false'. Refute it at one input. -/
def fixedDownsWrong : ChangeSpec := { name := "fixedDowns", fn := fun _ => fun
  | [d] => { results := [.lit (.bool false)], args := [d] }
  | _ => none }
def FixedDownsWrongFalsely : Prop := fixedDownsRow.holds Try.pinned (OpenSpec.ofChange fixedDownsWrong)

/-- 'thronglaw1.FixedHalves': WHATEVER THE INPUT: true; the input reads as it did. -/
def fixedHalvesSpec : ChangeSpec := { name := "fixedHalves", fn := fun _ => fun
  | [d] => { results := [.lit (.bool true)], args := [d] }
  | _ => none }
def fixedHalvesRow : OpenClaim := { program := "ytpkdkkbmmkhhhaa", sum := "ef7df39d63e0e08eb976719b5a3970c665860d6a44daf48599787d6fb60367a7", func := "throng/thronglaw1.FixedHalves", spec := "fixedHalves", named := ["math/bits.divideError", "math/bits.overflowError"], apart := false }
def FixedHalvesSaid : Prop := fixedHalvesRow.holds Try.pinned (OpenSpec.ofChange fixedHalvesSpec)

/-- ITS FALSE NEIGHBOUR: 'it returns false'. Refute it at one input. -/
def fixedHalvesWrong : ChangeSpec := { name := "fixedHalves", fn := fun _ => fun
  | [d] => { results := [.lit (.bool false)], args := [d] }
  | _ => none }
def FixedHalvesWrongFalsely : Prop := fixedHalvesRow.holds Try.pinned (OpenSpec.ofChange fixedHalvesWrong)

/-- 'thronglaw1.FixedMost': WHATEVER THE INPUT: true; the input reads as it did. -/
def fixedMostSpec : ChangeSpec := { name := "fixedMost", fn := fun _ => fun
  | [d] => { results := [.lit (.bool true)], args := [d] }
  | _ => none }
def fixedMostRow : OpenClaim := { program := "ytpkdkkbmmkhhhaa", sum := "ef7df39d63e0e08eb976719b5a3970c665860d6a44daf48599787d6fb60367a7", func := "throng/thronglaw1.FixedMost", spec := "fixedMost", named := ["math/bits.divideError", "math/bits.overflowError"], apart := false }
def FixedMostSaid : Prop := fixedMostRow.holds Try.pinned (OpenSpec.ofChange fixedMostSpec)

/-- ITS FALSE NEIGHBOUR: 'it returns false'. Refute it at one input. -/
def fixedMostWrong : ChangeSpec := { name := "fixedMost", fn := fun _ => fun
  | [d] => { results := [.lit (.bool false)], args := [d] }
  | _ => none }
def FixedMostWrongFalsely : Prop := fixedMostRow.holds Try.pinned (OpenSpec.ofChange fixedMostWrong)

/-- 'thronglaw1.FixedOrders': WHATEVER THE INPUT: true; the input reads as it did. -/
def fixedOrdersSpec : ChangeSpec := { name := "fixedOrders", fn := fun _ => fun
  | [d] => { results := [.lit (.bool true)], args := [d] }
  | _ => none }
def fixedOrdersRow : OpenClaim := { program := "ytpkdkkbmmkhhhaa", sum := "ef7df39d63e0e08eb976719b5a3970c665860d6a44daf48599787d6fb60367a7", func := "throng/thronglaw1.FixedOrders", spec := "fixedOrders", named := ["math/bits.divideError", "math/bits.overflowError"], apart := false }
def FixedOrdersSaid : Prop := fixedOrdersRow.holds Try.pinned (OpenSpec.ofChange fixedOrdersSpec)

/-- ITS FALSE NEIGHBOUR: 'it returns false'. Refute it at one input. -/
def fixedOrdersWrong : ChangeSpec := { name := "fixedOrders", fn := fun _ => fun
  | [d] => { results := [.lit (.bool false)], args := [d] }
  | _ => none }
def FixedOrdersWrongFalsely : Prop := fixedOrdersRow.holds Try.pinned (OpenSpec.ofChange fixedOrdersWrong)

/-- 'thronglaw1.FixedBounds': WHATEVER THE INPUT: true; the input reads as it did. -/
def fixedBoundsSpec : ChangeSpec := { name := "fixedBounds", fn := fun _ => fun
  | [d] => { results := [.lit (.bool true)], args := [d] }
  | _ => none }
def fixedBoundsRow : OpenClaim := { program := "ytpkdkkbmmkhhhaa", sum := "ef7df39d63e0e08eb976719b5a3970c665860d6a44daf48599787d6fb60367a7", func := "throng/thronglaw1.FixedBounds", spec := "fixedBounds", named := ["math/bits.divideError", "math/bits.overflowError"], apart := false }
def FixedBoundsSaid : Prop := fixedBoundsRow.holds Try.pinned (OpenSpec.ofChange fixedBoundsSpec)

/-- ITS FALSE NEIGHBOUR: 'it returns false'. Refute it at one input. -/
def fixedBoundsWrong : ChangeSpec := { name := "fixedBounds", fn := fun _ => fun
  | [d] => { results := [.lit (.bool false)], args := [d] }
  | _ => none }
def FixedBoundsWrongFalsely : Prop := fixedBoundsRow.holds Try.pinned (OpenSpec.ofChange fixedBoundsWrong)

/- THE SECOND FORM. 'bulk': how many values and letters a reading holds, each counted each time it is reached (what is shared counts as often as it is met; a slice's spare places count too). A statement '..UptoSaid' is the law's where the arguments, and the package variables that the reading takes, are together of bulk at most 1048576: NARROWER than '..Said'. Prove '..Said' where nothing that the law and all that it calls make is longer than what came in: it says more and counts as full. Else prove '..UptoSaid'. A law counts once. -/
mutual
def uptoBulk {H : Type} : DataW H → Nat
  | .lit (.string bytes) => bytes.length + 1
  | .lit _ => 1
  | .nil => 1
  | .ptr d => uptoBulk d + 1
  | .slice elems spare => uptoBulkAll elems + uptoBulkAll spare + 1
  | .agg parts => uptoBulkAll parts + 1
  | .iface _ d => uptoBulk d + 1
  | .map entries => uptoBulkEntries entries + 1
  | .held _ => 1
def uptoBulkAll {H : Type} : List (DataW H) → Nat
  | [] => 0
  | d :: r => uptoBulk d + uptoBulkAll r
def uptoBulkEntries {H : Type} : List (Lit × DataW H) → Nat
  | [] => 0
  | x :: r => uptoBulkEntry x + uptoBulkEntries r
def uptoBulkEntry {H : Type} : Lit × DataW H → Nat
  | (.string bytes, d) => bytes.length + uptoBulk d + 1
  | (_, d) => uptoBulk d + 1
 end
def uptoSmall : (H : Type) → List (DataW H) → Bool := fun _ ds => decide (uptoBulkAll ds ≤ 1048576)
def OpenSpec.upto (s : _root_.Go.ChangeSpec) : _root_.Go.OpenSpec := { _root_.Go.OpenSpec.ofChange s with cond := some uptoSmall }

/-- 'thronglaw2.VecLens', WHERE WHAT IT READS IS OF BULK AT MOST 1048576: true; the input reads as it did. -/
def vecLensUptoRow : OpenClaim := { program := "ytpkdkkbmmkhhhaa", sum := "ef7df39d63e0e08eb976719b5a3970c665860d6a44daf48599787d6fb60367a7", func := "throng/thronglaw2.VecLens", spec := "vecLens", inPlace := ["math/bits.Add64"], apart := false, narrowed := true }
def VecLensUptoSaid : Prop := vecLensUptoRow.holds Try.pinned (OpenSpec.upto vecLensSpec)

/-- 'thronglaw2.VecLess', WHERE WHAT IT READS IS OF BULK AT MOST 1048576: true; the input reads as it did. -/
def vecLessUptoRow : OpenClaim := { program := "ytpkdkkbmmkhhhaa", sum := "ef7df39d63e0e08eb976719b5a3970c665860d6a44daf48599787d6fb60367a7", func := "throng/thronglaw2.VecLess", spec := "vecLess", inPlace := ["math/bits.Add64"], apart := false, narrowed := true }
def VecLessUptoSaid : Prop := vecLessUptoRow.holds Try.pinned (OpenSpec.upto vecLessSpec)

/-- 'thronglaw1.FixedProducts', WHERE WHAT IT READS IS OF BULK AT MOST 1048576: true; the input reads as it did. -/
def fixedProductsUptoRow : OpenClaim := { program := "ytpkdkkbmmkhhhaa", sum := "ef7df39d63e0e08eb976719b5a3970c665860d6a44daf48599787d6fb60367a7", func := "throng/thronglaw1.FixedProducts", spec := "fixedProducts", apart := false, narrowed := true }
def FixedProductsUptoSaid : Prop := fixedProductsUptoRow.holds Try.pinned (OpenSpec.upto fixedProductsSpec)

/-- 'thronglaw1.FixedRoots', WHERE WHAT IT READS IS OF BULK AT MOST 1048576: true; the input reads as it did. -/
def fixedRootsUptoRow : OpenClaim := { program := "ytpkdkkbmmkhhhaa", sum := "ef7df39d63e0e08eb976719b5a3970c665860d6a44daf48599787d6fb60367a7", func := "throng/thronglaw1.FixedRoots", spec := "fixedRoots", apart := false, narrowed := true }
def FixedRootsUptoSaid : Prop := fixedRootsUptoRow.holds Try.pinned (OpenSpec.upto fixedRootsSpec)

/-- 'thronglaw2.VecWithin', WHERE WHAT IT READS IS OF BULK AT MOST 1048576: true; the input reads as it did. -/
def vecWithinUptoRow : OpenClaim := { program := "ytpkdkkbmmkhhhaa", sum := "ef7df39d63e0e08eb976719b5a3970c665860d6a44daf48599787d6fb60367a7", func := "throng/thronglaw2.VecWithin", spec := "vecWithin", inPlace := ["math/bits.Add64"], apart := false, narrowed := true }
def VecWithinUptoSaid : Prop := vecWithinUptoRow.holds Try.pinned (OpenSpec.upto vecWithinSpec)

/-- 'thronglaw2.VecSquares', WHERE WHAT IT READS IS OF BULK AT MOST 1048576: true; the input reads as it did. -/
def vecSquaresUptoRow : OpenClaim := { program := "ytpkdkkbmmkhhhaa", sum := "ef7df39d63e0e08eb976719b5a3970c665860d6a44daf48599787d6fb60367a7", func := "throng/thronglaw2.VecSquares", spec := "vecSquares", inPlace := ["math/bits.Add64"], apart := false, narrowed := true }
def VecSquaresUptoSaid : Prop := vecSquaresUptoRow.holds Try.pinned (OpenSpec.upto vecSquaresSpec)

/-- 'thronglaw2.VecTriangles', WHERE WHAT IT READS IS OF BULK AT MOST 1048576: true; the input reads as it did. -/
def vecTrianglesUptoRow : OpenClaim := { program := "ytpkdkkbmmkhhhaa", sum := "ef7df39d63e0e08eb976719b5a3970c665860d6a44daf48599787d6fb60367a7", func := "throng/thronglaw2.VecTriangles", spec := "vecTriangles", inPlace := ["math/bits.Add64"], apart := false, narrowed := true }
def VecTrianglesUptoSaid : Prop := vecTrianglesUptoRow.holds Try.pinned (OpenSpec.upto vecTrianglesSpec)

/-- 'thronglaw1.FixedSums', WHERE WHAT IT READS IS OF BULK AT MOST 1048576: true; the input reads as it did. -/
def fixedSumsUptoRow : OpenClaim := { program := "ytpkdkkbmmkhhhaa", sum := "ef7df39d63e0e08eb976719b5a3970c665860d6a44daf48599787d6fb60367a7", func := "throng/thronglaw1.FixedSums", spec := "fixedSums", apart := false, narrowed := true }
def FixedSumsUptoSaid : Prop := fixedSumsUptoRow.holds Try.pinned (OpenSpec.upto fixedSumsSpec)

/-- 'thronglaw2.VecSums', WHERE WHAT IT READS IS OF BULK AT MOST 1048576: true; the input reads as it did. -/
def vecSumsUptoRow : OpenClaim := { program := "ytpkdkkbmmkhhhaa", sum := "ef7df39d63e0e08eb976719b5a3970c665860d6a44daf48599787d6fb60367a7", func := "throng/thronglaw2.VecSums", spec := "vecSums", inPlace := ["math/bits.Add64"], apart := false, narrowed := true }
def VecSumsUptoSaid : Prop := vecSumsUptoRow.holds Try.pinned (OpenSpec.upto vecSumsSpec)

/-- 'thronglaw2.VecTurns', WHERE WHAT IT READS IS OF BULK AT MOST 1048576: true; the input reads as it did. -/
def vecTurnsUptoRow : OpenClaim := { program := "ytpkdkkbmmkhhhaa", sum := "ef7df39d63e0e08eb976719b5a3970c665860d6a44daf48599787d6fb60367a7", func := "throng/thronglaw2.VecTurns", spec := "vecTurns", inPlace := ["math/bits.Add64"], apart := false, narrowed := true }
def VecTurnsUptoSaid : Prop := vecTurnsUptoRow.holds Try.pinned (OpenSpec.upto vecTurnsSpec)

/-- 'thronglaw2.VecClamps', WHERE WHAT IT READS IS OF BULK AT MOST 1048576: true; the input reads as it did. -/
def vecClampsUptoRow : OpenClaim := { program := "ytpkdkkbmmkhhhaa", sum := "ef7df39d63e0e08eb976719b5a3970c665860d6a44daf48599787d6fb60367a7", func := "throng/thronglaw2.VecClamps", spec := "vecClamps", inPlace := ["math/bits.Add64"], named := ["math/bits.divideError", "math/bits.overflowError"], apart := false, narrowed := true }
def VecClampsUptoSaid : Prop := vecClampsUptoRow.holds Try.pinned (OpenSpec.upto vecClampsSpec)

/-- 'thronglaw2.VecShort', WHERE WHAT IT READS IS OF BULK AT MOST 1048576: true; the input reads as it did. -/
def vecShortUptoRow : OpenClaim := { program := "ytpkdkkbmmkhhhaa", sum := "ef7df39d63e0e08eb976719b5a3970c665860d6a44daf48599787d6fb60367a7", func := "throng/thronglaw2.VecShort", spec := "vecShort", inPlace := ["math/bits.Add64"], named := ["math/bits.divideError", "math/bits.overflowError"], apart := false, narrowed := true }
def VecShortUptoSaid : Prop := vecShortUptoRow.holds Try.pinned (OpenSpec.upto vecShortSpec)

/-- 'thronglaw1.FixedQuotients', WHERE WHAT IT READS IS OF BULK AT MOST 1048576: true; the input reads as it did. -/
def fixedQuotientsUptoRow : OpenClaim := { program := "ytpkdkkbmmkhhhaa", sum := "ef7df39d63e0e08eb976719b5a3970c665860d6a44daf48599787d6fb60367a7", func := "throng/thronglaw1.FixedQuotients", spec := "fixedQuotients", named := ["math/bits.divideError", "math/bits.overflowError"], apart := false, narrowed := true }
def FixedQuotientsUptoSaid : Prop := fixedQuotientsUptoRow.holds Try.pinned (OpenSpec.upto fixedQuotientsSpec)

/-- 'thronglaw1.FixedDowns', WHERE WHAT IT READS IS OF BULK AT MOST 1048576: true; the input reads as it did. -/
def fixedDownsUptoRow : OpenClaim := { program := "ytpkdkkbmmkhhhaa", sum := "ef7df39d63e0e08eb976719b5a3970c665860d6a44daf48599787d6fb60367a7", func := "throng/thronglaw1.FixedDowns", spec := "fixedDowns", named := ["math/bits.divideError", "math/bits.overflowError"], apart := false, narrowed := true }
def FixedDownsUptoSaid : Prop := fixedDownsUptoRow.holds Try.pinned (OpenSpec.upto fixedDownsSpec)

/-- 'thronglaw1.FixedHalves', WHERE WHAT IT READS IS OF BULK AT MOST 1048576: true; the input reads as it did. -/
def fixedHalvesUptoRow : OpenClaim := { program := "ytpkdkkbmmkhhhaa", sum := "ef7df39d63e0e08eb976719b5a3970c665860d6a44daf48599787d6fb60367a7", func := "throng/thronglaw1.FixedHalves", spec := "fixedHalves", named := ["math/bits.divideError", "math/bits.overflowError"], apart := false, narrowed := true }
def FixedHalvesUptoSaid : Prop := fixedHalvesUptoRow.holds Try.pinned (OpenSpec.upto fixedHalvesSpec)

/-- 'thronglaw1.FixedMost', WHERE WHAT IT READS IS OF BULK AT MOST 1048576: true; the input reads as it did. -/
def fixedMostUptoRow : OpenClaim := { program := "ytpkdkkbmmkhhhaa", sum := "ef7df39d63e0e08eb976719b5a3970c665860d6a44daf48599787d6fb60367a7", func := "throng/thronglaw1.FixedMost", spec := "fixedMost", named := ["math/bits.divideError", "math/bits.overflowError"], apart := false, narrowed := true }
def FixedMostUptoSaid : Prop := fixedMostUptoRow.holds Try.pinned (OpenSpec.upto fixedMostSpec)

/-- 'thronglaw1.FixedOrders', WHERE WHAT IT READS IS OF BULK AT MOST 1048576: true; the input reads as it did. -/
def fixedOrdersUptoRow : OpenClaim := { program := "ytpkdkkbmmkhhhaa", sum := "ef7df39d63e0e08eb976719b5a3970c665860d6a44daf48599787d6fb60367a7", func := "throng/thronglaw1.FixedOrders", spec := "fixedOrders", named := ["math/bits.divideError", "math/bits.overflowError"], apart := false, narrowed := true }
def FixedOrdersUptoSaid : Prop := fixedOrdersUptoRow.holds Try.pinned (OpenSpec.upto fixedOrdersSpec)

/-- 'thronglaw1.FixedBounds', WHERE WHAT IT READS IS OF BULK AT MOST 1048576: true; the input reads as it did. -/
def fixedBoundsUptoRow : OpenClaim := { program := "ytpkdkkbmmkhhhaa", sum := "ef7df39d63e0e08eb976719b5a3970c665860d6a44daf48599787d6fb60367a7", func := "throng/thronglaw1.FixedBounds", spec := "fixedBounds", named := ["math/bits.divideError", "math/bits.overflowError"], apart := false, narrowed := true }
def FixedBoundsUptoSaid : Prop := fixedBoundsUptoRow.holds Try.pinned (OpenSpec.upto fixedBoundsSpec)

end Rows
end Go.Proofs.Ytpkdkkbmmkhhhaa
