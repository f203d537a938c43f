/- The walk of the law CommandUnloads. -/
import Derived.Test.YtneigplmgellcaaCmdKindWalk
namespace Go.Proofs.Ytneigplmgellcaa
set_option maxRecDepth 20000
open Go.RowKit Go.WideShapes Go.ChangeShapes

namespace lawCommandUnloads
set_option maxHeartbeats 6400000 in
set_option maxRecDepth 100000 in
theorem walk {H : Type} {enc : TypeId × Value → H} (w : World) {base : Nat} (v : Value) (d : DataW H) (p : List MemPlace) (hv : Value.okWide Try.prog w .any base 22 v)
    (ht : DataW.Trod enc Try.prog w 0 (fun _ => true) true 22 v d p) : Calls Try.prog 12 #[v] w fun e w' => e = .returned (.bool true) ∧ Below w.heap.size w w' := by
  obtain ⟨A, n, c, rfl, hnc, hcm, ha⟩ := open_asks22 hv ht
  unfold maxLen at hcm
  clear hv ht
  go_enter Try.func12, Try.ntmps12
  go_wp2_with fail
  refine Calls.mono (kind_walk 7 A n c w hnc (by omega) ha) ?_
  rintro e w1 ⟨rfl, hb1⟩
  go_wp2_with fail
  go_ret
  exact ⟨rfl, hb1⟩
end lawCommandUnloads
end Go.Proofs.Ytneigplmgellcaa
