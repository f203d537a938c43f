/-
  No cell of these rows narrows 'for every input' (looked for: loops, veiled, ifaces, maps, wideKeys, modest, calm, conditions, laid).
  DERIVED. THE GIVEN ROWS OF THIS SEAT. 9 by the template 'for every input the law returns true; each argument reads behind the call as it read before'; 0 by the template 'total and deterministic' (their statements: YtpklgghppmlklaaTotals.lean).
  GIVEN WITH THE SEED: the statements are not yours to turn. If you find one false, say at which input.
  Laid BY PROGRAM, IN A SANDBOX (cutbox-rows.mjs): the forced cells as the released guide's own fill.sh prints them over the translation a6ca445b1ac4da60… (all of the seat's roots in one cut). By AI agents, Wed Nov 11 2026. No macro, syntax, notation, axiom, sorry.
-/
import Derived.Test.YtpklgghppmlklaaChecked
import GoSem.Claim
import GoSem.ClaimJoined
import GoSem.ClaimMapViews
import Derived.JoinedTies
import Derived.KernelRfl
namespace Go.Proofs.Ytpklgghppmlklaa
/- THE CELL 'sum', in the pinned program and in every row, IS THE sha256 OF THE DUMP (.gsa) THAT YtpklgghppmlklaaProg.lean LOADS. Nothing in Lean hashes anything: it is a label: what it is worth is what the hold of that sum in a sandbox is worth. -/
noncomputable def Try.pinned : Pinned := { name := "ytpklgghppmlklaa", sum := "a6ca445b1ac4da606c7c3627ffa3af235901f852f8f37d2d0c78211c98420b8c", checked := Try.checked }
namespace Rows
def none {H : Type} : Left H := { results := [], args := [] }

/-- 'thronglaw3.FnvSums': WHATEVER THE INPUT: true; the input reads as it did. -/
def fnvSumsSpec : ChangeSpec := { name := "fnvSums", fn := fun _ => fun
  | [d] => { results := [.lit (.bool true)], args := [d] }
  | _ => none }
def fnvSumsRow : OpenClaim := { program := "ytpklgghppmlklaa", sum := "a6ca445b1ac4da606c7c3627ffa3af235901f852f8f37d2d0c78211c98420b8c", func := "throng/thronglaw3.FnvSums", spec := "fnvSums", apart := false }
def FnvSumsSaid : Prop := fnvSumsRow.holds Try.pinned (OpenSpec.ofChange fnvSumsSpec)

/-- ITS FALSE NEIGHBOUR: 'it returns false'. Refute it at one input. -/
def fnvSumsWrong : ChangeSpec := { name := "fnvSums", fn := fun _ => fun
  | [d] => { results := [.lit (.bool false)], args := [d] }
  | _ => none }
def FnvSumsWrongFalsely : Prop := fnvSumsRow.holds Try.pinned (OpenSpec.ofChange fnvSumsWrong)

/-- 'thronglaw3.FnvParts': WHATEVER THE INPUT: true; the input reads as it did. -/
def fnvPartsSpec : ChangeSpec := { name := "fnvParts", fn := fun _ => fun
  | [d] => { results := [.lit (.bool true)], args := [d] }
  | _ => none }
def fnvPartsRow : OpenClaim := { program := "ytpklgghppmlklaa", sum := "a6ca445b1ac4da606c7c3627ffa3af235901f852f8f37d2d0c78211c98420b8c", func := "throng/thronglaw3.FnvParts", spec := "fnvParts", apart := false }
def FnvPartsSaid : Prop := fnvPartsRow.holds Try.pinned (OpenSpec.ofChange fnvPartsSpec)

/-- ITS FALSE NEIGHBOUR: 'it returns false'. Refute it at one input. -/
def fnvPartsWrong : ChangeSpec := { name := "fnvParts", fn := fun _ => fun
  | [d] => { results := [.lit (.bool false)], args := [d] }
  | _ => none }
def FnvPartsWrongFalsely : Prop := fnvPartsRow.holds Try.pinned (OpenSpec.ofChange fnvPartsWrong)

/-- 'thronglaw3.FnvOnes': WHATEVER THE INPUT: true; the input reads as it did. -/
def fnvOnesSpec : ChangeSpec := { name := "fnvOnes", fn := fun _ => fun
  | [d] => { results := [.lit (.bool true)], args := [d] }
  | _ => none }
def fnvOnesRow : OpenClaim := { program := "ytpklgghppmlklaa", sum := "a6ca445b1ac4da606c7c3627ffa3af235901f852f8f37d2d0c78211c98420b8c", func := "throng/thronglaw3.FnvOnes", spec := "fnvOnes", apart := false }
def FnvOnesSaid : Prop := fnvOnesRow.holds Try.pinned (OpenSpec.ofChange fnvOnesSpec)

/-- ITS FALSE NEIGHBOUR: 'it returns false'. Refute it at one input. -/
def fnvOnesWrong : ChangeSpec := { name := "fnvOnes", fn := fun _ => fun
  | [d] => { results := [.lit (.bool false)], args := [d] }
  | _ => none }
def FnvOnesWrongFalsely : Prop := fnvOnesRow.holds Try.pinned (OpenSpec.ofChange fnvOnesWrong)

/-- 'thronglaw4.WireNums': WHATEVER THE INPUT: true; the input reads as it did. -/
def wireNumsSpec : ChangeSpec := { name := "wireNums", fn := fun _ => fun
  | [d] => { results := [.lit (.bool true)], args := [d] }
  | _ => none }
def wireNumsRow : OpenClaim := { program := "ytpklgghppmlklaa", sum := "a6ca445b1ac4da606c7c3627ffa3af235901f852f8f37d2d0c78211c98420b8c", func := "throng/thronglaw4.WireNums", spec := "wireNums", apart := false }
def WireNumsSaid : Prop := wireNumsRow.holds Try.pinned (OpenSpec.ofChange wireNumsSpec)

/-- ITS FALSE NEIGHBOUR: 'it returns false'. Refute it at one input. -/
def wireNumsWrong : ChangeSpec := { name := "wireNums", fn := fun _ => fun
  | [d] => { results := [.lit (.bool false)], args := [d] }
  | _ => none }
def WireNumsWrongFalsely : Prop := wireNumsRow.holds Try.pinned (OpenSpec.ofChange wireNumsWrong)

/-- 'thronglaw4.WireSigns': WHATEVER THE INPUT: true; the input reads as it did. -/
def wireSignsSpec : ChangeSpec := { name := "wireSigns", fn := fun _ => fun
  | [d] => { results := [.lit (.bool true)], args := [d] }
  | _ => none }
def wireSignsRow : OpenClaim := { program := "ytpklgghppmlklaa", sum := "a6ca445b1ac4da606c7c3627ffa3af235901f852f8f37d2d0c78211c98420b8c", func := "throng/thronglaw4.WireSigns", spec := "wireSigns", apart := false }
def WireSignsSaid : Prop := wireSignsRow.holds Try.pinned (OpenSpec.ofChange wireSignsSpec)

/-- ITS FALSE NEIGHBOUR: 'it returns false'. Refute it at one input. -/
def wireSignsWrong : ChangeSpec := { name := "wireSigns", fn := fun _ => fun
  | [d] => { results := [.lit (.bool false)], args := [d] }
  | _ => none }
def WireSignsWrongFalsely : Prop := wireSignsRow.holds Try.pinned (OpenSpec.ofChange wireSignsWrong)

/-- 'thronglaw4.WireReads': WHATEVER THE INPUT: true; the input reads as it did. -/
def wireReadsSpec : ChangeSpec := { name := "wireReads", fn := fun _ => fun
  | [d] => { results := [.lit (.bool true)], args := [d] }
  | _ => none }
def wireReadsRow : OpenClaim := { program := "ytpklgghppmlklaa", sum := "a6ca445b1ac4da606c7c3627ffa3af235901f852f8f37d2d0c78211c98420b8c", func := "throng/thronglaw4.WireReads", spec := "wireReads", apart := false }
def WireReadsSaid : Prop := wireReadsRow.holds Try.pinned (OpenSpec.ofChange wireReadsSpec)

/-- ITS FALSE NEIGHBOUR: 'it returns false'. Refute it at one input. -/
def wireReadsWrong : ChangeSpec := { name := "wireReads", fn := fun _ => fun
  | [d] => { results := [.lit (.bool false)], args := [d] }
  | _ => none }
def WireReadsWrongFalsely : Prop := wireReadsRow.holds Try.pinned (OpenSpec.ofChange wireReadsWrong)

/-- 'thronglaw4.WireRaws': WHATEVER THE INPUT: true; the input reads as it did. -/
def wireRawsSpec : ChangeSpec := { name := "wireRaws", fn := fun _ => fun
  | [d] => { results := [.lit (.bool true)], args := [d] }
  | _ => none }
def wireRawsRow : OpenClaim := { program := "ytpklgghppmlklaa", sum := "a6ca445b1ac4da606c7c3627ffa3af235901f852f8f37d2d0c78211c98420b8c", func := "throng/thronglaw4.WireRaws", spec := "wireRaws", apart := false }
def WireRawsSaid : Prop := wireRawsRow.holds Try.pinned (OpenSpec.ofChange wireRawsSpec)

/-- ITS FALSE NEIGHBOUR: 'it returns false'. Refute it at one input. -/
def wireRawsWrong : ChangeSpec := { name := "wireRaws", fn := fun _ => fun
  | [d] => { results := [.lit (.bool false)], args := [d] }
  | _ => none }
def WireRawsWrongFalsely : Prop := wireRawsRow.holds Try.pinned (OpenSpec.ofChange wireRawsWrong)

/-- 'thronglaw4.WireBounds': WHATEVER THE INPUT: true; the input reads as it did. -/
def wireBoundsSpec : ChangeSpec := { name := "wireBounds", fn := fun _ => fun
  | [d] => { results := [.lit (.bool true)], args := [d] }
  | _ => none }
def wireBoundsRow : OpenClaim := { program := "ytpklgghppmlklaa", sum := "a6ca445b1ac4da606c7c3627ffa3af235901f852f8f37d2d0c78211c98420b8c", func := "throng/thronglaw4.WireBounds", spec := "wireBounds", apart := false }
def WireBoundsSaid : Prop := wireBoundsRow.holds Try.pinned (OpenSpec.ofChange wireBoundsSpec)

/-- ITS FALSE NEIGHBOUR: 'it returns false'. Refute it at one input. -/
def wireBoundsWrong : ChangeSpec := { name := "wireBounds", fn := fun _ => fun
  | [d] => { results := [.lit (.bool false)], args := [d] }
  | _ => none }
def WireBoundsWrongFalsely : Prop := wireBoundsRow.holds Try.pinned (OpenSpec.ofChange wireBoundsWrong)

/-- 'thronglaw4.WireBack': WHATEVER THE INPUT: true; the input reads as it did. -/
def wireBackSpec : ChangeSpec := { name := "wireBack", fn := fun _ => fun
  | [d] => { results := [.lit (.bool true)], args := [d] }
  | _ => none }
def wireBackRow : OpenClaim := { program := "ytpklgghppmlklaa", sum := "a6ca445b1ac4da606c7c3627ffa3af235901f852f8f37d2d0c78211c98420b8c", func := "throng/thronglaw4.WireBack", spec := "wireBack", apart := false }
def WireBackSaid : Prop := wireBackRow.holds Try.pinned (OpenSpec.ofChange wireBackSpec)

/-- ITS FALSE NEIGHBOUR: 'it returns false'. Refute it at one input. -/
def wireBackWrong : ChangeSpec := { name := "wireBack", fn := fun _ => fun
  | [d] => { results := [.lit (.bool false)], args := [d] }
  | _ => none }
def WireBackWrongFalsely : Prop := wireBackRow.holds Try.pinned (OpenSpec.ofChange wireBackWrong)

/- THE SECOND FORM. 'bulk': how many values and letters a reading holds, each counted each time it is reached (what is shared counts as often as it is met; a slice's spare places count too). A statement '..UptoSaid' is the law's where the arguments, and the package variables that the reading takes, are together of bulk at most 1048576: NARROWER than '..Said'. Prove '..Said' where nothing that the law and all that it calls make is longer than what came in: it says more and counts as full. Else prove '..UptoSaid'. A law counts once. -/
mutual
def uptoBulk {H : Type} : DataW H → Nat
  | .lit (.string bytes) => bytes.length + 1
  | .lit _ => 1
  | .nil => 1
  | .ptr d => uptoBulk d + 1
  | .slice elems spare => uptoBulkAll elems + uptoBulkAll spare + 1
  | .agg parts => uptoBulkAll parts + 1
  | .iface _ d => uptoBulk d + 1
  | .map entries => uptoBulkEntries entries + 1
  | .held _ => 1
def uptoBulkAll {H : Type} : List (DataW H) → Nat
  | [] => 0
  | d :: r => uptoBulk d + uptoBulkAll r
def uptoBulkEntries {H : Type} : List (Lit × DataW H) → Nat
  | [] => 0
  | x :: r => uptoBulkEntry x + uptoBulkEntries r
def uptoBulkEntry {H : Type} : Lit × DataW H → Nat
  | (.string bytes, d) => bytes.length + uptoBulk d + 1
  | (_, d) => uptoBulk d + 1
 end
def uptoSmall : (H : Type) → List (DataW H) → Bool := fun _ ds => decide (uptoBulkAll ds ≤ 1048576)
def OpenSpec.upto (s : _root_.Go.ChangeSpec) : _root_.Go.OpenSpec := { _root_.Go.OpenSpec.ofChange s with cond := some uptoSmall }

/-- 'thronglaw3.FnvSums', WHERE WHAT IT READS IS OF BULK AT MOST 1048576: true; the input reads as it did. -/
def fnvSumsUptoRow : OpenClaim := { program := "ytpklgghppmlklaa", sum := "a6ca445b1ac4da606c7c3627ffa3af235901f852f8f37d2d0c78211c98420b8c", func := "throng/thronglaw3.FnvSums", spec := "fnvSums", apart := false, narrowed := true }
def FnvSumsUptoSaid : Prop := fnvSumsUptoRow.holds Try.pinned (OpenSpec.upto fnvSumsSpec)

/-- 'thronglaw3.FnvParts', WHERE WHAT IT READS IS OF BULK AT MOST 1048576: true; the input reads as it did. -/
def fnvPartsUptoRow : OpenClaim := { program := "ytpklgghppmlklaa", sum := "a6ca445b1ac4da606c7c3627ffa3af235901f852f8f37d2d0c78211c98420b8c", func := "throng/thronglaw3.FnvParts", spec := "fnvParts", apart := false, narrowed := true }
def FnvPartsUptoSaid : Prop := fnvPartsUptoRow.holds Try.pinned (OpenSpec.upto fnvPartsSpec)

/-- 'thronglaw3.FnvOnes', WHERE WHAT IT READS IS OF BULK AT MOST 1048576: true; the input reads as it did. -/
def fnvOnesUptoRow : OpenClaim := { program := "ytpklgghppmlklaa", sum := "a6ca445b1ac4da606c7c3627ffa3af235901f852f8f37d2d0c78211c98420b8c", func := "throng/thronglaw3.FnvOnes", spec := "fnvOnes", apart := false, narrowed := true }
def FnvOnesUptoSaid : Prop := fnvOnesUptoRow.holds Try.pinned (OpenSpec.upto fnvOnesSpec)

/-- 'thronglaw4.WireNums', WHERE WHAT IT READS IS OF BULK AT MOST 1048576: true; the input reads as it did. -/
def wireNumsUptoRow : OpenClaim := { program := "ytpklgghppmlklaa", sum := "a6ca445b1ac4da606c7c3627ffa3af235901f852f8f37d2d0c78211c98420b8c", func := "throng/thronglaw4.WireNums", spec := "wireNums", apart := false, narrowed := true }
def WireNumsUptoSaid : Prop := wireNumsUptoRow.holds Try.pinned (OpenSpec.upto wireNumsSpec)

/-- 'thronglaw4.WireSigns', WHERE WHAT IT READS IS OF BULK AT MOST 1048576: true; the input reads as it did. -/
def wireSignsUptoRow : OpenClaim := { program := "ytpklgghppmlklaa", sum := "a6ca445b1ac4da606c7c3627ffa3af235901f852f8f37d2d0c78211c98420b8c", func := "throng/thronglaw4.WireSigns", spec := "wireSigns", apart := false, narrowed := true }
def WireSignsUptoSaid : Prop := wireSignsUptoRow.holds Try.pinned (OpenSpec.upto wireSignsSpec)

/-- 'thronglaw4.WireReads', WHERE WHAT IT READS IS OF BULK AT MOST 1048576: true; the input reads as it did. -/
def wireReadsUptoRow : OpenClaim := { program := "ytpklgghppmlklaa", sum := "a6ca445b1ac4da606c7c3627ffa3af235901f852f8f37d2d0c78211c98420b8c", func := "throng/thronglaw4.WireReads", spec := "wireReads", apart := false, narrowed := true }
def WireReadsUptoSaid : Prop := wireReadsUptoRow.holds Try.pinned (OpenSpec.upto wireReadsSpec)

/-- 'thronglaw4.WireRaws', WHERE WHAT IT READS IS OF BULK AT MOST 1048576: true; the input reads as it did. -/
def wireRawsUptoRow : OpenClaim := { program := "ytpklgghppmlklaa", sum := "a6ca445b1ac4da606c7c3627ffa3af235901f852f8f37d2d0c78211c98420b8c", func := "throng/thronglaw4.WireRaws", spec := "wireRaws", apart := false, narrowed := true }
def WireRawsUptoSaid : Prop := wireRawsUptoRow.holds Try.pinned (OpenSpec.upto wireRawsSpec)

/-- 'thronglaw4.WireBounds', WHERE WHAT IT READS IS OF BULK AT MOST 1048576: true; the input reads as it did. -/
def wireBoundsUptoRow : OpenClaim := { program := "ytpklgghppmlklaa", sum := "a6ca445b1ac4da606c7c3627ffa3af235901f852f8f37d2d0c78211c98420b8c", func := "throng/thronglaw4.WireBounds", spec := "wireBounds", apart := false, narrowed := true }
def WireBoundsUptoSaid : Prop := wireBoundsUptoRow.holds Try.pinned (OpenSpec.upto wireBoundsSpec)

/-- 'thronglaw4.WireBack', WHERE WHAT IT READS IS OF BULK AT MOST 1048576: true; the input reads as it did. -/
def wireBackUptoRow : OpenClaim := { program := "ytpklgghppmlklaa", sum := "a6ca445b1ac4da606c7c3627ffa3af235901f852f8f37d2d0c78211c98420b8c", func := "throng/thronglaw4.WireBack", spec := "wireBack", apart := false, narrowed := true }
def WireBackUptoSaid : Prop := wireBackUptoRow.holds Try.pinned (OpenSpec.upto wireBackSpec)

end Rows
end Go.Proofs.Ytpklgghppmlklaa
