/- What tiles cost: the page's own. -/
import Derived.Test.YtfgjiaakoacomaaKindPrice
namespace Go.Proofs.Ytfgjiaakoacomaa
set_option maxRecDepth 20000
open Go.RowKit

set_option maxHeartbeats 4000000 in
theorem ref_cost (c t : Int) (w : World) (hc0 : 0 ≤ c) (hc : c ≤ 2) (ht0 : 0 ≤ t) (ht : t ≤ 5) : Calls Try.prog 43 #[.int .i64 c, .int .u8 t] w fun e w' => e = .returned (.int .i64 (price c t)) ∧ Below w.heap.size w w' := by
  rcases (by omega : c = 0 ∨ c = 1 ∨ c = 2) with rfl | rfl | rfl <;> rcases (by omega : t = 0 ∨ t = 1 ∨ t = 2 ∨ t = 3 ∨ t = 4 ∨ t = 5) with rfl | rfl | rfl | rfl | rfl | rfl
  all_goals
    go_enter Try.func43, Try.ntmps43
    go_wp2
    go_ret
    exact ⟨rfl, below_one _ _⟩

end Go.Proofs.Ytfgjiaakoacomaa
