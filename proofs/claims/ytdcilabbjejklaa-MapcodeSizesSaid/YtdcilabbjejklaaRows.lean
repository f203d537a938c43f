/-
  No cell of these rows narrows 'for every input' (looked for: loops, veiled, ifaces, maps, wideKeys, modest, calm, conditions, laid).
  DERIVED. THE GIVEN ROWS OF THIS SEAT. 12 by the template 'for every input the law returns true; each argument reads behind the call as it read before'; 0 by the template 'total and deterministic' (their statements: YtdcilabbjejklaaTotals.lean).
  GIVEN WITH THE SEED: the statements are not yours to turn. If you find one false, say at which input.
  Laid BY PROGRAM, IN A SANDBOX (cutbox-rows.mjs): the forced cells as the released guide's own fill.sh prints them over the translation f590b275205be5d8… (all of the seat's roots in one cut). By AI agents, Wed Nov 11 2026. No macro, syntax, notation, axiom, sorry.
-/
import Derived.Test.YtdcilabbjejklaaChecked
import GoSem.Claim
import GoSem.ClaimJoined
import GoSem.ClaimMapViews
import Derived.JoinedTies
import Derived.KernelRfl
namespace Go.Proofs.Ytdcilabbjejklaa
/- THE CELL 'sum', in the pinned program and in every row, IS THE sha256 OF THE DUMP (.gsa) THAT YtdcilabbjejklaaProg.lean LOADS. Nothing in Lean hashes anything: it is a label: what it is worth is what the hold of that sum in a sandbox is worth. -/
noncomputable def Try.pinned : Pinned := { name := "ytdcilabbjejklaa", sum := "f590b275205be5d84e296a7c2029891ec5a0d532e17727455fa87d3bf5ac5fa8", checked := Try.checked }
namespace Rows
def none {H : Type} : Left H := { results := [], args := [] }

/-- 'thronglaw5.KindTables': WHATEVER THE INPUT: true; the input reads as it did. -/
def kindTablesSpec : ChangeSpec := { name := "kindTables", fn := fun _ => fun
  | [d] => { results := [.lit (.bool true)], args := [d] }
  | _ => none }
def kindTablesRow : OpenClaim := { program := "ytdcilabbjejklaa", sum := "f590b275205be5d84e296a7c2029891ec5a0d532e17727455fa87d3bf5ac5fa8", func := "throng/thronglaw5.KindTables", spec := "kindTables", apart := false }
def KindTablesSaid : Prop := kindTablesRow.holds Try.pinned (OpenSpec.ofChange kindTablesSpec)

/-- ITS FALSE NEIGHBOUR: 'it returns false'. Refute it at one input. -/
def kindTablesWrong : ChangeSpec := { name := "kindTables", fn := fun _ => fun
  | [d] => { results := [.lit (.bool false)], args := [d] }
  | _ => none }
def KindTablesWrongFalsely : Prop := kindTablesRow.holds Try.pinned (OpenSpec.ofChange kindTablesWrong)

/-- 'thronglaw5.KindFits': WHATEVER THE INPUT: true; the input reads as it did. -/
def kindFitsSpec : ChangeSpec := { name := "kindFits", fn := fun _ => fun
  | [d] => { results := [.lit (.bool true)], args := [d] }
  | _ => none }
def kindFitsRow : OpenClaim := { program := "ytdcilabbjejklaa", sum := "f590b275205be5d84e296a7c2029891ec5a0d532e17727455fa87d3bf5ac5fa8", func := "throng/thronglaw5.KindFits", spec := "kindFits", apart := false }
def KindFitsSaid : Prop := kindFitsRow.holds Try.pinned (OpenSpec.ofChange kindFitsSpec)

/-- ITS FALSE NEIGHBOUR: 'it returns false'. Refute it at one input. -/
def kindFitsWrong : ChangeSpec := { name := "kindFits", fn := fun _ => fun
  | [d] => { results := [.lit (.bool false)], args := [d] }
  | _ => none }
def KindFitsWrongFalsely : Prop := kindFitsRow.holds Try.pinned (OpenSpec.ofChange kindFitsWrong)

/-- 'thronglaw5.KindOrders': WHATEVER THE INPUT: true; the input reads as it did. -/
def kindOrdersSpec : ChangeSpec := { name := "kindOrders", fn := fun _ => fun
  | [d] => { results := [.lit (.bool true)], args := [d] }
  | _ => none }
def kindOrdersRow : OpenClaim := { program := "ytdcilabbjejklaa", sum := "f590b275205be5d84e296a7c2029891ec5a0d532e17727455fa87d3bf5ac5fa8", func := "throng/thronglaw5.KindOrders", spec := "kindOrders", apart := false }
def KindOrdersSaid : Prop := kindOrdersRow.holds Try.pinned (OpenSpec.ofChange kindOrdersSpec)

/-- ITS FALSE NEIGHBOUR: 'it returns false'. Refute it at one input. -/
def kindOrdersWrong : ChangeSpec := { name := "kindOrders", fn := fun _ => fun
  | [d] => { results := [.lit (.bool false)], args := [d] }
  | _ => none }
def KindOrdersWrongFalsely : Prop := kindOrdersRow.holds Try.pinned (OpenSpec.ofChange kindOrdersWrong)

/-- 'thronglaw6.GroundNears': WHATEVER THE INPUT: true; the input reads as it did. -/
def groundNearsSpec : ChangeSpec := { name := "groundNears", fn := fun _ => fun
  | [d] => { results := [.lit (.bool true)], args := [d] }
  | _ => none }
def groundNearsRow : OpenClaim := { program := "ytdcilabbjejklaa", sum := "f590b275205be5d84e296a7c2029891ec5a0d532e17727455fa87d3bf5ac5fa8", func := "throng/thronglaw6.GroundNears", spec := "groundNears", apart := false }
def GroundNearsSaid : Prop := groundNearsRow.holds Try.pinned (OpenSpec.ofChange groundNearsSpec)

/-- ITS FALSE NEIGHBOUR: 'it returns false'. Refute it at one input. -/
def groundNearsWrong : ChangeSpec := { name := "groundNears", fn := fun _ => fun
  | [d] => { results := [.lit (.bool false)], args := [d] }
  | _ => none }
def GroundNearsWrongFalsely : Prop := groundNearsRow.holds Try.pinned (OpenSpec.ofChange groundNearsWrong)

/-- 'thronglaw6.GroundCounts': WHATEVER THE INPUT: true; the input reads as it did. -/
def groundCountsSpec : ChangeSpec := { name := "groundCounts", fn := fun _ => fun
  | [d] => { results := [.lit (.bool true)], args := [d] }
  | _ => none }
def groundCountsRow : OpenClaim := { program := "ytdcilabbjejklaa", sum := "f590b275205be5d84e296a7c2029891ec5a0d532e17727455fa87d3bf5ac5fa8", func := "throng/thronglaw6.GroundCounts", spec := "groundCounts", apart := false }
def GroundCountsSaid : Prop := groundCountsRow.holds Try.pinned (OpenSpec.ofChange groundCountsSpec)

/-- ITS FALSE NEIGHBOUR: 'it returns false'. Refute it at one input. -/
def groundCountsWrong : ChangeSpec := { name := "groundCounts", fn := fun _ => fun
  | [d] => { results := [.lit (.bool false)], args := [d] }
  | _ => none }
def GroundCountsWrongFalsely : Prop := groundCountsRow.holds Try.pinned (OpenSpec.ofChange groundCountsWrong)

/-- 'thronglaw6.GroundPlaces': WHATEVER THE INPUT: true; the input reads as it did. -/
def groundPlacesSpec : ChangeSpec := { name := "groundPlaces", fn := fun _ => fun
  | [d] => { results := [.lit (.bool true)], args := [d] }
  | _ => none }
def groundPlacesRow : OpenClaim := { program := "ytdcilabbjejklaa", sum := "f590b275205be5d84e296a7c2029891ec5a0d532e17727455fa87d3bf5ac5fa8", func := "throng/thronglaw6.GroundPlaces", spec := "groundPlaces", apart := false }
def GroundPlacesSaid : Prop := groundPlacesRow.holds Try.pinned (OpenSpec.ofChange groundPlacesSpec)

/-- ITS FALSE NEIGHBOUR: 'it returns false'. Refute it at one input. -/
def groundPlacesWrong : ChangeSpec := { name := "groundPlaces", fn := fun _ => fun
  | [d] => { results := [.lit (.bool false)], args := [d] }
  | _ => none }
def GroundPlacesWrongFalsely : Prop := groundPlacesRow.holds Try.pinned (OpenSpec.ofChange groundPlacesWrong)

/-- 'thronglaw6.GroundTiles': WHATEVER THE INPUT: true; the input reads as it did. -/
def groundTilesSpec : ChangeSpec := { name := "groundTiles", fn := fun _ => fun
  | [d] => { results := [.lit (.bool true)], args := [d] }
  | _ => none }
def groundTilesRow : OpenClaim := { program := "ytdcilabbjejklaa", sum := "f590b275205be5d84e296a7c2029891ec5a0d532e17727455fa87d3bf5ac5fa8", func := "throng/thronglaw6.GroundTiles", spec := "groundTiles", apart := false }
def GroundTilesSaid : Prop := groundTilesRow.holds Try.pinned (OpenSpec.ofChange groundTilesSpec)

/-- ITS FALSE NEIGHBOUR: 'it returns false'. Refute it at one input. -/
def groundTilesWrong : ChangeSpec := { name := "groundTiles", fn := fun _ => fun
  | [d] => { results := [.lit (.bool false)], args := [d] }
  | _ => none }
def GroundTilesWrongFalsely : Prop := groundTilesRow.holds Try.pinned (OpenSpec.ofChange groundTilesWrong)

/-- 'thronglaw6.GroundBack': WHATEVER THE INPUT: true; the input reads as it did. -/
def groundBackSpec : ChangeSpec := { name := "groundBack", fn := fun _ => fun
  | [d] => { results := [.lit (.bool true)], args := [d] }
  | _ => none }
def groundBackRow : OpenClaim := { program := "ytdcilabbjejklaa", sum := "f590b275205be5d84e296a7c2029891ec5a0d532e17727455fa87d3bf5ac5fa8", func := "throng/thronglaw6.GroundBack", spec := "groundBack", apart := false }
def GroundBackSaid : Prop := groundBackRow.holds Try.pinned (OpenSpec.ofChange groundBackSpec)

/-- ITS FALSE NEIGHBOUR: 'it returns false'. Refute it at one input. -/
def groundBackWrong : ChangeSpec := { name := "groundBack", fn := fun _ => fun
  | [d] => { results := [.lit (.bool false)], args := [d] }
  | _ => none }
def GroundBackWrongFalsely : Prop := groundBackRow.holds Try.pinned (OpenSpec.ofChange groundBackWrong)

/-- 'thronglaw7.MapcodeBytes': WHATEVER THE INPUT: true; the input reads as it did. -/
def mapcodeBytesSpec : ChangeSpec := { name := "mapcodeBytes", fn := fun _ => fun
  | [d] => { results := [.lit (.bool true)], args := [d] }
  | _ => none }
def mapcodeBytesRow : OpenClaim := { program := "ytdcilabbjejklaa", sum := "f590b275205be5d84e296a7c2029891ec5a0d532e17727455fa87d3bf5ac5fa8", func := "throng/thronglaw7.MapcodeBytes", spec := "mapcodeBytes", apart := false }
def MapcodeBytesSaid : Prop := mapcodeBytesRow.holds Try.pinned (OpenSpec.ofChange mapcodeBytesSpec)

/-- ITS FALSE NEIGHBOUR: 'it returns false'. Refute it at one input. -/
def mapcodeBytesWrong : ChangeSpec := { name := "mapcodeBytes", fn := fun _ => fun
  | [d] => { results := [.lit (.bool false)], args := [d] }
  | _ => none }
def MapcodeBytesWrongFalsely : Prop := mapcodeBytesRow.holds Try.pinned (OpenSpec.ofChange mapcodeBytesWrong)

/-- 'thronglaw7.MapcodeParses': WHATEVER THE INPUT: true; the input reads as it did. -/
def mapcodeParsesSpec : ChangeSpec := { name := "mapcodeParses", fn := fun _ => fun
  | [d] => { results := [.lit (.bool true)], args := [d] }
  | _ => none }
def mapcodeParsesRow : OpenClaim := { program := "ytdcilabbjejklaa", sum := "f590b275205be5d84e296a7c2029891ec5a0d532e17727455fa87d3bf5ac5fa8", func := "throng/thronglaw7.MapcodeParses", spec := "mapcodeParses", apart := false }
def MapcodeParsesSaid : Prop := mapcodeParsesRow.holds Try.pinned (OpenSpec.ofChange mapcodeParsesSpec)

/-- ITS FALSE NEIGHBOUR: 'it returns false'. Refute it at one input. -/
def mapcodeParsesWrong : ChangeSpec := { name := "mapcodeParses", fn := fun _ => fun
  | [d] => { results := [.lit (.bool false)], args := [d] }
  | _ => none }
def MapcodeParsesWrongFalsely : Prop := mapcodeParsesRow.holds Try.pinned (OpenSpec.ofChange mapcodeParsesWrong)

/-- 'thronglaw7.MapcodeBack': WHATEVER THE INPUT: true; the input reads as it did. -/
def mapcodeBackSpec : ChangeSpec := { name := "mapcodeBack", fn := fun _ => fun
  | [d] => { results := [.lit (.bool true)], args := [d] }
  | _ => none }
def mapcodeBackRow : OpenClaim := { program := "ytdcilabbjejklaa", sum := "f590b275205be5d84e296a7c2029891ec5a0d532e17727455fa87d3bf5ac5fa8", func := "throng/thronglaw7.MapcodeBack", spec := "mapcodeBack", apart := false }
def MapcodeBackSaid : Prop := mapcodeBackRow.holds Try.pinned (OpenSpec.ofChange mapcodeBackSpec)

/-- ITS FALSE NEIGHBOUR: 'it returns false'. Refute it at one input. -/
def mapcodeBackWrong : ChangeSpec := { name := "mapcodeBack", fn := fun _ => fun
  | [d] => { results := [.lit (.bool false)], args := [d] }
  | _ => none }
def MapcodeBackWrongFalsely : Prop := mapcodeBackRow.holds Try.pinned (OpenSpec.ofChange mapcodeBackWrong)

/-- 'thronglaw7.MapcodeSizes': WHATEVER THE INPUT: true; the input reads as it did. -/
def mapcodeSizesSpec : ChangeSpec := { name := "mapcodeSizes", fn := fun _ => fun
  | [d] => { results := [.lit (.bool true)], args := [d] }
  | _ => none }
def mapcodeSizesRow : OpenClaim := { program := "ytdcilabbjejklaa", sum := "f590b275205be5d84e296a7c2029891ec5a0d532e17727455fa87d3bf5ac5fa8", func := "throng/thronglaw7.MapcodeSizes", spec := "mapcodeSizes", apart := false }
def MapcodeSizesSaid : Prop := mapcodeSizesRow.holds Try.pinned (OpenSpec.ofChange mapcodeSizesSpec)

/-- ITS FALSE NEIGHBOUR: 'it returns false'. Refute it at one input. -/
def mapcodeSizesWrong : ChangeSpec := { name := "mapcodeSizes", fn := fun _ => fun
  | [d] => { results := [.lit (.bool false)], args := [d] }
  | _ => none }
def MapcodeSizesWrongFalsely : Prop := mapcodeSizesRow.holds Try.pinned (OpenSpec.ofChange mapcodeSizesWrong)

/- THE SECOND FORM. 'bulk': how many values and letters a reading holds, each counted each time it is reached (what is shared counts as often as it is met; a slice's spare places count too). A statement '..UptoSaid' is the law's where the arguments, and the package variables that the reading takes, are together of bulk at most 1048576: NARROWER than '..Said'. Prove '..Said' where nothing that the law and all that it calls make is longer than what came in: it says more and counts as full. Else prove '..UptoSaid'. A law counts once. -/
mutual
def uptoBulk {H : Type} : DataW H → Nat
  | .lit (.string bytes) => bytes.length + 1
  | .lit _ => 1
  | .nil => 1
  | .ptr d => uptoBulk d + 1
  | .slice elems spare => uptoBulkAll elems + uptoBulkAll spare + 1
  | .agg parts => uptoBulkAll parts + 1
  | .iface _ d => uptoBulk d + 1
  | .map entries => uptoBulkEntries entries + 1
  | .held _ => 1
def uptoBulkAll {H : Type} : List (DataW H) → Nat
  | [] => 0
  | d :: r => uptoBulk d + uptoBulkAll r
def uptoBulkEntries {H : Type} : List (Lit × DataW H) → Nat
  | [] => 0
  | x :: r => uptoBulkEntry x + uptoBulkEntries r
def uptoBulkEntry {H : Type} : Lit × DataW H → Nat
  | (.string bytes, d) => bytes.length + uptoBulk d + 1
  | (_, d) => uptoBulk d + 1
 end
def uptoSmall : (H : Type) → List (DataW H) → Bool := fun _ ds => decide (uptoBulkAll ds ≤ 1048576)
def OpenSpec.upto (s : _root_.Go.ChangeSpec) : _root_.Go.OpenSpec := { _root_.Go.OpenSpec.ofChange s with cond := some uptoSmall }

/-- 'thronglaw5.KindTables', WHERE WHAT IT READS IS OF BULK AT MOST 1048576: true; the input reads as it did. -/
def kindTablesUptoRow : OpenClaim := { program := "ytdcilabbjejklaa", sum := "f590b275205be5d84e296a7c2029891ec5a0d532e17727455fa87d3bf5ac5fa8", func := "throng/thronglaw5.KindTables", spec := "kindTables", apart := false, narrowed := true }
def KindTablesUptoSaid : Prop := kindTablesUptoRow.holds Try.pinned (OpenSpec.upto kindTablesSpec)

/-- 'thronglaw5.KindFits', WHERE WHAT IT READS IS OF BULK AT MOST 1048576: true; the input reads as it did. -/
def kindFitsUptoRow : OpenClaim := { program := "ytdcilabbjejklaa", sum := "f590b275205be5d84e296a7c2029891ec5a0d532e17727455fa87d3bf5ac5fa8", func := "throng/thronglaw5.KindFits", spec := "kindFits", apart := false, narrowed := true }
def KindFitsUptoSaid : Prop := kindFitsUptoRow.holds Try.pinned (OpenSpec.upto kindFitsSpec)

/-- 'thronglaw5.KindOrders', WHERE WHAT IT READS IS OF BULK AT MOST 1048576: true; the input reads as it did. -/
def kindOrdersUptoRow : OpenClaim := { program := "ytdcilabbjejklaa", sum := "f590b275205be5d84e296a7c2029891ec5a0d532e17727455fa87d3bf5ac5fa8", func := "throng/thronglaw5.KindOrders", spec := "kindOrders", apart := false, narrowed := true }
def KindOrdersUptoSaid : Prop := kindOrdersUptoRow.holds Try.pinned (OpenSpec.upto kindOrdersSpec)

/-- 'thronglaw6.GroundNears', WHERE WHAT IT READS IS OF BULK AT MOST 1048576: true; the input reads as it did. -/
def groundNearsUptoRow : OpenClaim := { program := "ytdcilabbjejklaa", sum := "f590b275205be5d84e296a7c2029891ec5a0d532e17727455fa87d3bf5ac5fa8", func := "throng/thronglaw6.GroundNears", spec := "groundNears", apart := false, narrowed := true }
def GroundNearsUptoSaid : Prop := groundNearsUptoRow.holds Try.pinned (OpenSpec.upto groundNearsSpec)

/-- 'thronglaw6.GroundCounts', WHERE WHAT IT READS IS OF BULK AT MOST 1048576: true; the input reads as it did. -/
def groundCountsUptoRow : OpenClaim := { program := "ytdcilabbjejklaa", sum := "f590b275205be5d84e296a7c2029891ec5a0d532e17727455fa87d3bf5ac5fa8", func := "throng/thronglaw6.GroundCounts", spec := "groundCounts", apart := false, narrowed := true }
def GroundCountsUptoSaid : Prop := groundCountsUptoRow.holds Try.pinned (OpenSpec.upto groundCountsSpec)

/-- 'thronglaw6.GroundPlaces', WHERE WHAT IT READS IS OF BULK AT MOST 1048576: true; the input reads as it did. -/
def groundPlacesUptoRow : OpenClaim := { program := "ytdcilabbjejklaa", sum := "f590b275205be5d84e296a7c2029891ec5a0d532e17727455fa87d3bf5ac5fa8", func := "throng/thronglaw6.GroundPlaces", spec := "groundPlaces", apart := false, narrowed := true }
def GroundPlacesUptoSaid : Prop := groundPlacesUptoRow.holds Try.pinned (OpenSpec.upto groundPlacesSpec)

/-- 'thronglaw6.GroundTiles', WHERE WHAT IT READS IS OF BULK AT MOST 1048576: true; the input reads as it did. -/
def groundTilesUptoRow : OpenClaim := { program := "ytdcilabbjejklaa", sum := "f590b275205be5d84e296a7c2029891ec5a0d532e17727455fa87d3bf5ac5fa8", func := "throng/thronglaw6.GroundTiles", spec := "groundTiles", apart := false, narrowed := true }
def GroundTilesUptoSaid : Prop := groundTilesUptoRow.holds Try.pinned (OpenSpec.upto groundTilesSpec)

/-- 'thronglaw6.GroundBack', WHERE WHAT IT READS IS OF BULK AT MOST 1048576: true; the input reads as it did. -/
def groundBackUptoRow : OpenClaim := { program := "ytdcilabbjejklaa", sum := "f590b275205be5d84e296a7c2029891ec5a0d532e17727455fa87d3bf5ac5fa8", func := "throng/thronglaw6.GroundBack", spec := "groundBack", apart := false, narrowed := true }
def GroundBackUptoSaid : Prop := groundBackUptoRow.holds Try.pinned (OpenSpec.upto groundBackSpec)

/-- 'thronglaw7.MapcodeBytes', WHERE WHAT IT READS IS OF BULK AT MOST 1048576: true; the input reads as it did. -/
def mapcodeBytesUptoRow : OpenClaim := { program := "ytdcilabbjejklaa", sum := "f590b275205be5d84e296a7c2029891ec5a0d532e17727455fa87d3bf5ac5fa8", func := "throng/thronglaw7.MapcodeBytes", spec := "mapcodeBytes", apart := false, narrowed := true }
def MapcodeBytesUptoSaid : Prop := mapcodeBytesUptoRow.holds Try.pinned (OpenSpec.upto mapcodeBytesSpec)

/-- 'thronglaw7.MapcodeParses', WHERE WHAT IT READS IS OF BULK AT MOST 1048576: true; the input reads as it did. -/
def mapcodeParsesUptoRow : OpenClaim := { program := "ytdcilabbjejklaa", sum := "f590b275205be5d84e296a7c2029891ec5a0d532e17727455fa87d3bf5ac5fa8", func := "throng/thronglaw7.MapcodeParses", spec := "mapcodeParses", apart := false, narrowed := true }
def MapcodeParsesUptoSaid : Prop := mapcodeParsesUptoRow.holds Try.pinned (OpenSpec.upto mapcodeParsesSpec)

/-- 'thronglaw7.MapcodeBack', WHERE WHAT IT READS IS OF BULK AT MOST 1048576: true; the input reads as it did. -/
def mapcodeBackUptoRow : OpenClaim := { program := "ytdcilabbjejklaa", sum := "f590b275205be5d84e296a7c2029891ec5a0d532e17727455fa87d3bf5ac5fa8", func := "throng/thronglaw7.MapcodeBack", spec := "mapcodeBack", apart := false, narrowed := true }
def MapcodeBackUptoSaid : Prop := mapcodeBackUptoRow.holds Try.pinned (OpenSpec.upto mapcodeBackSpec)

/-- 'thronglaw7.MapcodeSizes', WHERE WHAT IT READS IS OF BULK AT MOST 1048576: true; the input reads as it did. -/
def mapcodeSizesUptoRow : OpenClaim := { program := "ytdcilabbjejklaa", sum := "f590b275205be5d84e296a7c2029891ec5a0d532e17727455fa87d3bf5ac5fa8", func := "throng/thronglaw7.MapcodeSizes", spec := "mapcodeSizes", apart := false, narrowed := true }
def MapcodeSizesUptoSaid : Prop := mapcodeSizesUptoRow.holds Try.pinned (OpenSpec.upto mapcodeSizesSpec)

end Rows
end Go.Proofs.Ytdcilabbjejklaa
