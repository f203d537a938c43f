/-
  No cell of these rows narrows 'for every input' (looked for: loops, veiled, ifaces, maps, wideKeys, modest, calm, conditions, laid).
  DERIVED. THE GIVEN ROWS OF THIS SEAT. 11 by the template 'for every input the law returns true; each argument reads behind the call as it read before'; 0 by the template 'total and deterministic' (their statements: YtjbnpgjndohjcaaTotals.lean).
  GIVEN WITH THE SEED: the statements are not yours to turn. If you find one false, say at which input.
  Laid BY PROGRAM, IN A SANDBOX (cutbox-rows.mjs): the forced cells as the released guide's own fill.sh prints them over the translation 10b52842b71e5823… (all of the seat's roots in one cut). By AI agents, Wed Nov 11 2026. No macro, syntax, notation, axiom, sorry.
-/
import Derived.Test.YtjbnpgjndohjcaaChecked
import GoSem.Claim
import GoSem.ClaimJoined
import GoSem.ClaimMapViews
import Derived.JoinedTies
import Derived.KernelRfl
namespace Go.Proofs.Ytjbnpgjndohjcaa
/- THE CELL 'sum', in the pinned program and in every row, IS THE sha256 OF THE DUMP (.gsa) THAT YtjbnpgjndohjcaaProg.lean LOADS. Nothing in Lean hashes anything: it is a label: what it is worth is what the hold of that sum in a sandbox is worth. -/
noncomputable def Try.pinned : Pinned := { name := "ytjbnpgjndohjcaa", sum := "10b52842b71e582344f937638a45e8cf0207d40b78e680454acfc428d16e9804", checked := Try.checked }
namespace Rows
def none {H : Type} : Left H := { results := [], args := [] }

/-- 'thronglaw17.DiscMeets': WHATEVER THE INPUT: true; the input reads as it did. -/
def discMeetsSpec : ChangeSpec := { name := "discMeets", fn := fun _ => fun
  | [d] => { results := [.lit (.bool true)], args := [d] }
  | _ => none }
def discMeetsRow : OpenClaim := { program := "ytjbnpgjndohjcaa", sum := "10b52842b71e582344f937638a45e8cf0207d40b78e680454acfc428d16e9804", func := "throng/thronglaw17.DiscMeets", spec := "discMeets", inPlace := ["math/bits.Add64"], apart := false }
def DiscMeetsSaid : Prop := discMeetsRow.holds Try.pinned (OpenSpec.ofChange discMeetsSpec)

/-- ITS FALSE NEIGHBOUR: 'it returns false'. Refute it at one input. -/
def discMeetsWrong : ChangeSpec := { name := "discMeets", fn := fun _ => fun
  | [d] => { results := [.lit (.bool false)], args := [d] }
  | _ => none }
def DiscMeetsWrongFalsely : Prop := discMeetsRow.holds Try.pinned (OpenSpec.ofChange discMeetsWrong)

/-- 'thronglaw17.DiscAparts': WHATEVER THE INPUT: true; the input reads as it did. -/
def discApartsSpec : ChangeSpec := { name := "discAparts", fn := fun _ => fun
  | [d] => { results := [.lit (.bool true)], args := [d] }
  | _ => none }
def discApartsRow : OpenClaim := { program := "ytjbnpgjndohjcaa", sum := "10b52842b71e582344f937638a45e8cf0207d40b78e680454acfc428d16e9804", func := "throng/thronglaw17.DiscAparts", spec := "discAparts", inPlace := ["math/bits.Add64"], apart := false }
def DiscApartsSaid : Prop := discApartsRow.holds Try.pinned (OpenSpec.ofChange discApartsSpec)

/-- ITS FALSE NEIGHBOUR: 'it returns false'. Refute it at one input. -/
def discApartsWrong : ChangeSpec := { name := "discAparts", fn := fun _ => fun
  | [d] => { results := [.lit (.bool false)], args := [d] }
  | _ => none }
def DiscApartsWrongFalsely : Prop := discApartsRow.holds Try.pinned (OpenSpec.ofChange discApartsWrong)

/-- 'thronglaw17.DiscTouches': WHATEVER THE INPUT: true; the input reads as it did. -/
def discTouchesSpec : ChangeSpec := { name := "discTouches", fn := fun _ => fun
  | [d] => { results := [.lit (.bool true)], args := [d] }
  | _ => none }
def discTouchesRow : OpenClaim := { program := "ytjbnpgjndohjcaa", sum := "10b52842b71e582344f937638a45e8cf0207d40b78e680454acfc428d16e9804", func := "throng/thronglaw17.DiscTouches", spec := "discTouches", inPlace := ["math/bits.Add64"], apart := false }
def DiscTouchesSaid : Prop := discTouchesRow.holds Try.pinned (OpenSpec.ofChange discTouchesSpec)

/-- ITS FALSE NEIGHBOUR: 'it returns false'. Refute it at one input. -/
def discTouchesWrong : ChangeSpec := { name := "discTouches", fn := fun _ => fun
  | [d] => { results := [.lit (.bool false)], args := [d] }
  | _ => none }
def DiscTouchesWrongFalsely : Prop := discTouchesRow.holds Try.pinned (OpenSpec.ofChange discTouchesWrong)

/-- 'thronglaw19.SteerTowards': WHATEVER THE INPUT: true; the input reads as it did. -/
def steerTowardsSpec : ChangeSpec := { name := "steerTowards", fn := fun _ => fun
  | [d] => { results := [.lit (.bool true)], args := [d] }
  | _ => none }
def steerTowardsRow : OpenClaim := { program := "ytjbnpgjndohjcaa", sum := "10b52842b71e582344f937638a45e8cf0207d40b78e680454acfc428d16e9804", func := "throng/thronglaw19.SteerTowards", spec := "steerTowards", inPlace := ["math/bits.Add64"], named := ["math/bits.divideError", "math/bits.overflowError"], apart := false }
def SteerTowardsSaid : Prop := steerTowardsRow.holds Try.pinned (OpenSpec.ofChange steerTowardsSpec)

/-- ITS FALSE NEIGHBOUR: 'it returns false'. Refute it at one input. -/
def steerTowardsWrong : ChangeSpec := { name := "steerTowards", fn := fun _ => fun
  | [d] => { results := [.lit (.bool false)], args := [d] }
  | _ => none }
def SteerTowardsWrongFalsely : Prop := steerTowardsRow.holds Try.pinned (OpenSpec.ofChange steerTowardsWrong)

/-- 'thronglaw19.SteerCoheres': WHATEVER THE INPUT: true; the input reads as it did. -/
def steerCoheresSpec : ChangeSpec := { name := "steerCoheres", fn := fun _ => fun
  | [d] => { results := [.lit (.bool true)], args := [d] }
  | _ => none }
def steerCoheresRow : OpenClaim := { program := "ytjbnpgjndohjcaa", sum := "10b52842b71e582344f937638a45e8cf0207d40b78e680454acfc428d16e9804", func := "throng/thronglaw19.SteerCoheres", spec := "steerCoheres", inPlace := ["math/bits.Add64"], named := ["math/bits.divideError", "math/bits.overflowError"], apart := false }
def SteerCoheresSaid : Prop := steerCoheresRow.holds Try.pinned (OpenSpec.ofChange steerCoheresSpec)

/-- ITS FALSE NEIGHBOUR: 'it returns false'. Refute it at one input. -/
def steerCoheresWrong : ChangeSpec := { name := "steerCoheres", fn := fun _ => fun
  | [d] => { results := [.lit (.bool false)], args := [d] }
  | _ => none }
def SteerCoheresWrongFalsely : Prop := steerCoheresRow.holds Try.pinned (OpenSpec.ofChange steerCoheresWrong)

/-- 'thronglaw19.SteerAparts': WHATEVER THE INPUT: true; the input reads as it did. -/
def steerApartsSpec : ChangeSpec := { name := "steerAparts", fn := fun _ => fun
  | [d] => { results := [.lit (.bool true)], args := [d] }
  | _ => none }
def steerApartsRow : OpenClaim := { program := "ytjbnpgjndohjcaa", sum := "10b52842b71e582344f937638a45e8cf0207d40b78e680454acfc428d16e9804", func := "throng/thronglaw19.SteerAparts", spec := "steerAparts", inPlace := ["math/bits.Add64"], named := ["math/bits.divideError", "math/bits.overflowError"], apart := false }
def SteerApartsSaid : Prop := steerApartsRow.holds Try.pinned (OpenSpec.ofChange steerApartsSpec)

/-- ITS FALSE NEIGHBOUR: 'it returns false'. Refute it at one input. -/
def steerApartsWrong : ChangeSpec := { name := "steerAparts", fn := fun _ => fun
  | [d] => { results := [.lit (.bool false)], args := [d] }
  | _ => none }
def SteerApartsWrongFalsely : Prop := steerApartsRow.holds Try.pinned (OpenSpec.ofChange steerApartsWrong)

/-- 'thronglaw19.SteerStill': WHATEVER THE INPUT: true; the input reads as it did. -/
def steerStillSpec : ChangeSpec := { name := "steerStill", fn := fun _ => fun
  | [d] => { results := [.lit (.bool true)], args := [d] }
  | _ => none }
def steerStillRow : OpenClaim := { program := "ytjbnpgjndohjcaa", sum := "10b52842b71e582344f937638a45e8cf0207d40b78e680454acfc428d16e9804", func := "throng/thronglaw19.SteerStill", spec := "steerStill", inPlace := ["math/bits.Add64"], named := ["math/bits.divideError", "math/bits.overflowError"], apart := false }
def SteerStillSaid : Prop := steerStillRow.holds Try.pinned (OpenSpec.ofChange steerStillSpec)

/-- ITS FALSE NEIGHBOUR: 'it returns false'. Refute it at one input. -/
def steerStillWrong : ChangeSpec := { name := "steerStill", fn := fun _ => fun
  | [d] => { results := [.lit (.bool false)], args := [d] }
  | _ => none }
def SteerStillWrongFalsely : Prop := steerStillRow.holds Try.pinned (OpenSpec.ofChange steerStillWrong)

/-- 'thronglaw19.SteerShort': WHATEVER THE INPUT: true; the input reads as it did. -/
def steerShortSpec : ChangeSpec := { name := "steerShort", fn := fun _ => fun
  | [d] => { results := [.lit (.bool true)], args := [d] }
  | _ => none }
def steerShortRow : OpenClaim := { program := "ytjbnpgjndohjcaa", sum := "10b52842b71e582344f937638a45e8cf0207d40b78e680454acfc428d16e9804", func := "throng/thronglaw19.SteerShort", spec := "steerShort", inPlace := ["math/bits.Add64"], named := ["math/bits.divideError", "math/bits.overflowError"], apart := false }
def SteerShortSaid : Prop := steerShortRow.holds Try.pinned (OpenSpec.ofChange steerShortSpec)

/-- ITS FALSE NEIGHBOUR: 'it returns false'. Refute it at one input. -/
def steerShortWrong : ChangeSpec := { name := "steerShort", fn := fun _ => fun
  | [d] => { results := [.lit (.bool false)], args := [d] }
  | _ => none }
def SteerShortWrongFalsely : Prop := steerShortRow.holds Try.pinned (OpenSpec.ofChange steerShortWrong)

/-- 'thronglaw17.DiscFrees': WHATEVER THE INPUT: true; the input reads as it did. -/
def discFreesSpec : ChangeSpec := { name := "discFrees", fn := fun _ => fun
  | [d] => { results := [.lit (.bool true)], args := [d] }
  | _ => none }
def discFreesRow : OpenClaim := { program := "ytjbnpgjndohjcaa", sum := "10b52842b71e582344f937638a45e8cf0207d40b78e680454acfc428d16e9804", func := "throng/thronglaw17.DiscFrees", spec := "discFrees", inPlace := ["math/bits.Add64"], unfollowed := true, recurses := true, apart := false }
def DiscFreesSaid : Prop := discFreesRow.holds Try.pinned (OpenSpec.ofChange discFreesSpec)

/-- ITS FALSE NEIGHBOUR: 'it returns false'. Refute it at one input. -/
def discFreesWrong : ChangeSpec := { name := "discFrees", fn := fun _ => fun
  | [d] => { results := [.lit (.bool false)], args := [d] }
  | _ => none }
def DiscFreesWrongFalsely : Prop := discFreesRow.holds Try.pinned (OpenSpec.ofChange discFreesWrong)

/-- 'thronglaw17.DiscFits': WHATEVER THE INPUT: true; the input reads as it did. -/
def discFitsSpec : ChangeSpec := { name := "discFits", fn := fun _ => fun
  | [d] => { results := [.lit (.bool true)], args := [d] }
  | _ => none }
def discFitsRow : OpenClaim := { program := "ytjbnpgjndohjcaa", sum := "10b52842b71e582344f937638a45e8cf0207d40b78e680454acfc428d16e9804", func := "throng/thronglaw17.DiscFits", spec := "discFits", inPlace := ["math/bits.Add64"], unfollowed := true, recurses := true, apart := false }
def DiscFitsSaid : Prop := discFitsRow.holds Try.pinned (OpenSpec.ofChange discFitsSpec)

/-- ITS FALSE NEIGHBOUR: 'it returns false'. Refute it at one input. -/
def discFitsWrong : ChangeSpec := { name := "discFits", fn := fun _ => fun
  | [d] => { results := [.lit (.bool false)], args := [d] }
  | _ => none }
def DiscFitsWrongFalsely : Prop := discFitsRow.holds Try.pinned (OpenSpec.ofChange discFitsWrong)

/-- 'thronglaw17.DiscGrows': WHATEVER THE INPUT: true; the input reads as it did. -/
def discGrowsSpec : ChangeSpec := { name := "discGrows", fn := fun _ => fun
  | [d] => { results := [.lit (.bool true)], args := [d] }
  | _ => none }
def discGrowsRow : OpenClaim := { program := "ytjbnpgjndohjcaa", sum := "10b52842b71e582344f937638a45e8cf0207d40b78e680454acfc428d16e9804", func := "throng/thronglaw17.DiscGrows", spec := "discGrows", inPlace := ["math/bits.Add64"], unfollowed := true, recurses := true, apart := false }
def DiscGrowsSaid : Prop := discGrowsRow.holds Try.pinned (OpenSpec.ofChange discGrowsSpec)

/-- ITS FALSE NEIGHBOUR: 'it returns false'. Refute it at one input. -/
def discGrowsWrong : ChangeSpec := { name := "discGrows", fn := fun _ => fun
  | [d] => { results := [.lit (.bool false)], args := [d] }
  | _ => none }
def DiscGrowsWrongFalsely : Prop := discGrowsRow.holds Try.pinned (OpenSpec.ofChange discGrowsWrong)

/- THE SECOND FORM. 'bulk': how many values and letters a reading holds, each counted each time it is reached (what is shared counts as often as it is met; a slice's spare places count too). A statement '..UptoSaid' is the law's where the arguments, and the package variables that the reading takes, are together of bulk at most 1048576: NARROWER than '..Said'. Prove '..Said' where nothing that the law and all that it calls make is longer than what came in: it says more and counts as full. Else prove '..UptoSaid'. A law counts once. -/
mutual
def uptoBulk {H : Type} : DataW H → Nat
  | .lit (.string bytes) => bytes.length + 1
  | .lit _ => 1
  | .nil => 1
  | .ptr d => uptoBulk d + 1
  | .slice elems spare => uptoBulkAll elems + uptoBulkAll spare + 1
  | .agg parts => uptoBulkAll parts + 1
  | .iface _ d => uptoBulk d + 1
  | .map entries => uptoBulkEntries entries + 1
  | .held _ => 1
def uptoBulkAll {H : Type} : List (DataW H) → Nat
  | [] => 0
  | d :: r => uptoBulk d + uptoBulkAll r
def uptoBulkEntries {H : Type} : List (Lit × DataW H) → Nat
  | [] => 0
  | x :: r => uptoBulkEntry x + uptoBulkEntries r
def uptoBulkEntry {H : Type} : Lit × DataW H → Nat
  | (.string bytes, d) => bytes.length + uptoBulk d + 1
  | (_, d) => uptoBulk d + 1
 end
def uptoSmall : (H : Type) → List (DataW H) → Bool := fun _ ds => decide (uptoBulkAll ds ≤ 1048576)
def OpenSpec.upto (s : _root_.Go.ChangeSpec) : _root_.Go.OpenSpec := { _root_.Go.OpenSpec.ofChange s with cond := some uptoSmall }

/-- 'thronglaw17.DiscMeets', WHERE WHAT IT READS IS OF BULK AT MOST 1048576: true; the input reads as it did. -/
def discMeetsUptoRow : OpenClaim := { program := "ytjbnpgjndohjcaa", sum := "10b52842b71e582344f937638a45e8cf0207d40b78e680454acfc428d16e9804", func := "throng/thronglaw17.DiscMeets", spec := "discMeets", inPlace := ["math/bits.Add64"], apart := false, narrowed := true }
def DiscMeetsUptoSaid : Prop := discMeetsUptoRow.holds Try.pinned (OpenSpec.upto discMeetsSpec)

/-- 'thronglaw17.DiscAparts', WHERE WHAT IT READS IS OF BULK AT MOST 1048576: true; the input reads as it did. -/
def discApartsUptoRow : OpenClaim := { program := "ytjbnpgjndohjcaa", sum := "10b52842b71e582344f937638a45e8cf0207d40b78e680454acfc428d16e9804", func := "throng/thronglaw17.DiscAparts", spec := "discAparts", inPlace := ["math/bits.Add64"], apart := false, narrowed := true }
def DiscApartsUptoSaid : Prop := discApartsUptoRow.holds Try.pinned (OpenSpec.upto discApartsSpec)

/-- 'thronglaw17.DiscTouches', WHERE WHAT IT READS IS OF BULK AT MOST 1048576: true; the input reads as it did. -/
def discTouchesUptoRow : OpenClaim := { program := "ytjbnpgjndohjcaa", sum := "10b52842b71e582344f937638a45e8cf0207d40b78e680454acfc428d16e9804", func := "throng/thronglaw17.DiscTouches", spec := "discTouches", inPlace := ["math/bits.Add64"], apart := false, narrowed := true }
def DiscTouchesUptoSaid : Prop := discTouchesUptoRow.holds Try.pinned (OpenSpec.upto discTouchesSpec)

/-- 'thronglaw19.SteerTowards', WHERE WHAT IT READS IS OF BULK AT MOST 1048576: true; the input reads as it did. -/
def steerTowardsUptoRow : OpenClaim := { program := "ytjbnpgjndohjcaa", sum := "10b52842b71e582344f937638a45e8cf0207d40b78e680454acfc428d16e9804", func := "throng/thronglaw19.SteerTowards", spec := "steerTowards", inPlace := ["math/bits.Add64"], named := ["math/bits.divideError", "math/bits.overflowError"], apart := false, narrowed := true }
def SteerTowardsUptoSaid : Prop := steerTowardsUptoRow.holds Try.pinned (OpenSpec.upto steerTowardsSpec)

/-- 'thronglaw19.SteerCoheres', WHERE WHAT IT READS IS OF BULK AT MOST 1048576: true; the input reads as it did. -/
def steerCoheresUptoRow : OpenClaim := { program := "ytjbnpgjndohjcaa", sum := "10b52842b71e582344f937638a45e8cf0207d40b78e680454acfc428d16e9804", func := "throng/thronglaw19.SteerCoheres", spec := "steerCoheres", inPlace := ["math/bits.Add64"], named := ["math/bits.divideError", "math/bits.overflowError"], apart := false, narrowed := true }
def SteerCoheresUptoSaid : Prop := steerCoheresUptoRow.holds Try.pinned (OpenSpec.upto steerCoheresSpec)

/-- 'thronglaw19.SteerAparts', WHERE WHAT IT READS IS OF BULK AT MOST 1048576: true; the input reads as it did. -/
def steerApartsUptoRow : OpenClaim := { program := "ytjbnpgjndohjcaa", sum := "10b52842b71e582344f937638a45e8cf0207d40b78e680454acfc428d16e9804", func := "throng/thronglaw19.SteerAparts", spec := "steerAparts", inPlace := ["math/bits.Add64"], named := ["math/bits.divideError", "math/bits.overflowError"], apart := false, narrowed := true }
def SteerApartsUptoSaid : Prop := steerApartsUptoRow.holds Try.pinned (OpenSpec.upto steerApartsSpec)

/-- 'thronglaw19.SteerStill', WHERE WHAT IT READS IS OF BULK AT MOST 1048576: true; the input reads as it did. -/
def steerStillUptoRow : OpenClaim := { program := "ytjbnpgjndohjcaa", sum := "10b52842b71e582344f937638a45e8cf0207d40b78e680454acfc428d16e9804", func := "throng/thronglaw19.SteerStill", spec := "steerStill", inPlace := ["math/bits.Add64"], named := ["math/bits.divideError", "math/bits.overflowError"], apart := false, narrowed := true }
def SteerStillUptoSaid : Prop := steerStillUptoRow.holds Try.pinned (OpenSpec.upto steerStillSpec)

/-- 'thronglaw19.SteerShort', WHERE WHAT IT READS IS OF BULK AT MOST 1048576: true; the input reads as it did. -/
def steerShortUptoRow : OpenClaim := { program := "ytjbnpgjndohjcaa", sum := "10b52842b71e582344f937638a45e8cf0207d40b78e680454acfc428d16e9804", func := "throng/thronglaw19.SteerShort", spec := "steerShort", inPlace := ["math/bits.Add64"], named := ["math/bits.divideError", "math/bits.overflowError"], apart := false, narrowed := true }
def SteerShortUptoSaid : Prop := steerShortUptoRow.holds Try.pinned (OpenSpec.upto steerShortSpec)

/-- 'thronglaw17.DiscFrees', WHERE WHAT IT READS IS OF BULK AT MOST 1048576: true; the input reads as it did. -/
def discFreesUptoRow : OpenClaim := { program := "ytjbnpgjndohjcaa", sum := "10b52842b71e582344f937638a45e8cf0207d40b78e680454acfc428d16e9804", func := "throng/thronglaw17.DiscFrees", spec := "discFrees", inPlace := ["math/bits.Add64"], unfollowed := true, recurses := true, apart := false, narrowed := true }
def DiscFreesUptoSaid : Prop := discFreesUptoRow.holds Try.pinned (OpenSpec.upto discFreesSpec)

/-- 'thronglaw17.DiscFits', WHERE WHAT IT READS IS OF BULK AT MOST 1048576: true; the input reads as it did. -/
def discFitsUptoRow : OpenClaim := { program := "ytjbnpgjndohjcaa", sum := "10b52842b71e582344f937638a45e8cf0207d40b78e680454acfc428d16e9804", func := "throng/thronglaw17.DiscFits", spec := "discFits", inPlace := ["math/bits.Add64"], unfollowed := true, recurses := true, apart := false, narrowed := true }
def DiscFitsUptoSaid : Prop := discFitsUptoRow.holds Try.pinned (OpenSpec.upto discFitsSpec)

/-- 'thronglaw17.DiscGrows', WHERE WHAT IT READS IS OF BULK AT MOST 1048576: true; the input reads as it did. -/
def discGrowsUptoRow : OpenClaim := { program := "ytjbnpgjndohjcaa", sum := "10b52842b71e582344f937638a45e8cf0207d40b78e680454acfc428d16e9804", func := "throng/thronglaw17.DiscGrows", spec := "discGrows", inPlace := ["math/bits.Add64"], unfollowed := true, recurses := true, apart := false, narrowed := true }
def DiscGrowsUptoSaid : Prop := discGrowsUptoRow.holds Try.pinned (OpenSpec.upto discGrowsSpec)

end Rows
end Go.Proofs.Ytjbnpgjndohjcaa
