/- May a disc be? The page's way. -/
import Derived.Test.YtjbnpgjndohjcaaDiscMeet
namespace Go.Proofs.Ytjbnpgjndohjcaa
set_option maxRecDepth 20000
open Go.RowKit Go.WideShapes Go.ChangeShapes

set_option maxRecDepth 20000 in
theorem ref_may (x y r : Int) (w : World) : Calls Try.prog 16 #[.agg #[.int .i64 x, .int .i64 y], .int .i64 r] w fun e w' => e = .returned (.bool (formB x y r)) ∧ Below w.heap.size w w' := by
  have one := (Below.refl w.heap.size w).alloc (Nat.le_refl _) (.cells #[.int .i64 x, .int .i64 y] 35)
  have hf : formB x y r = decide (0 ≤ r ∧ r ≤ 262144 ∧ -1099511627776 ≤ x ∧ x ≤ 1099511627776 ∧ -1099511627776 ≤ y ∧ y ≤ 1099511627776) := by
    unfold formB placeB
    rw [← Bool.decide_and]
    exact decide_eq_decide.2 ⟨fun h => ⟨h.1.1, h.1.2, h.2⟩, fun h => ⟨⟨h.1, h.2.1⟩, h.2.2⟩⟩
  have hf2 := Lib.hid hf
  clear hf
  have hf := hf2
  clear hf2
  rcases (show r < 0 ∨ (0 ≤ r ∧ 262144 < r) ∨ (0 ≤ r ∧ r ≤ 262144 ∧ x < -1099511627776) ∨ (0 ≤ r ∧ r ≤ 262144 ∧ -1099511627776 ≤ x ∧ 1099511627776 < x) ∨ (0 ≤ r ∧ r ≤ 262144 ∧ -1099511627776 ≤ x ∧ x ≤ 1099511627776 ∧ y < -1099511627776) ∨ (0 ≤ r ∧ r ≤ 262144 ∧ -1099511627776 ≤ x ∧ x ≤ 1099511627776 ∧ -1099511627776 ≤ y) by omega) with d1 | ⟨d1, d2⟩ | ⟨d1, d2, d3⟩ | ⟨d1, d2, d3, d4⟩ | ⟨d1, d2, d3, d4, d5⟩ | ⟨d1, d2, d3, d4, d5⟩
  case inr.inr.inr.inr.inr =>
    have HR : Hid (formB x y r = decide (y ≤ 1099511627776)) := hf.out.trans <| decide_eq_decide.2 ⟨fun h => h.2.2.2.2.2, fun h => ⟨d1, d2, d3, d4, d5, h⟩⟩
    clear hf
    go_enter Try.func16, Try.ntmps16
    go_wp2
    go_ret
    exact ⟨by rw [HR.out]; rfl, one⟩
  all_goals
    have HR : Hid (formB x y r = false) := hf.out.trans (decide_eq_false (by omega))
    clear hf
    go_enter Try.func16, Try.ntmps16
    go_wp2
    go_ret
    exact ⟨by rw [HR.out]; rfl, one⟩

end Go.Proofs.Ytjbnpgjndohjcaa
