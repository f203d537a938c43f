/- Square roots and the page's products. -/
import Derived.Test.YtjbnpgjndohjcaaSqrt
namespace Go.Proofs.Ytjbnpgjndohjcaa
set_option maxRecDepth 20000
open Go.RowKit

/-- The root of a number. -/
def fsqrt (a : Int) : Int := if a ≤ 0 then 0 else rootF (a * 65536)
theorem fsqrt_range (a : Int) : 0 ≤ fsqrt a ∧ fsqrt a ≤ 9223372036854775807 := by
  unfold fsqrt
  by_cases h : a ≤ 0
  · rw [if_pos h]; omega
  · rw [if_neg h]; exact rootF_range (by omega)

theorem sqrt_hi (a : Int) : a / 281474976710656 * 18446744073709551616 + IntKind.u64.wrap (a * 65536) = a * 65536 := by
  rw [u64_wrap]; omega

theorem rootM_forty {a R : Int} (h1 : a ≤ 9223372036854775807) (h : RootM (a * 65536) 1099511627776 R) : rootF (a * 65536) = R := by
  obtain ⟨h2, h3, h4, h5⟩ := h
  refine rootF_eq ⟨h2, by omega, h4, ?_⟩
  rcases h5 with h5 | h5
  · subst h5; omega
  · exact .inr h5

end Go.Proofs.Ytjbnpgjndohjcaa
