/- fixed's quotients, and the page's: what each computes. -/
import Derived.Test.YtjbnpgjndohjcaaFixLaw
import Derived.Test.YtjbnpgjndohjcaaDiv2
namespace Go.Proofs.Ytjbnpgjndohjcaa
set_option maxRecDepth 20000
open Go.RowKit

/-- A quotient, rounded down, within the bounds; by nothing: the greatest, the least, or nothing. -/
def fdiv (a b : Int) : Int := if mag b = 0 then sg 0 (decide (0 < mag a)) (isNeg a) else sg (dn (mag a * 65536 / mag b) (mag a * 65536 % mag b) (isNeg a != isNeg b)) false (isNeg a != isNeg b)

theorem sg_range (n : Int) (h s : Bool) (h0 : 0 ≤ n) : -9223372036854775807 ≤ sg n h s ∧ sg n h s ≤ 9223372036854775807 := by
  unfold sg sgn
  split <;> split <;> omega
theorem dn_nonneg {n r : Int} {s : Bool} (h0 : 0 ≤ n) : 0 ≤ dn n r s := by unfold dn; split <;> omega
theorem fdiv_range {a b : Int} (ha : a ≤ 9223372036854775807) (hb : b ≤ 9223372036854775807) : -9223372036854775807 ≤ fdiv a b ∧ fdiv a b ≤ 9223372036854775807 := by
  have h1 := mag_range ha
  have h2 := mag_range hb
  unfold fdiv
  split
  · exact sg_range _ _ _ (by omega)
  · exact sg_range _ _ _ (dn_nonneg (Int.ediv_nonneg (by omega) (by omega)))
theorem fdiv_zero {a b : Int} (h : mag b = 0) : fdiv a b = sg 0 (decide (0 < mag a)) (isNeg a) := by unfold fdiv; rw [if_pos h]
theorem fdiv_some {a b : Int} (h : mag b ≠ 0) : fdiv a b = sg (dn (mag a * 65536 / mag b) (mag a * 65536 % mag b) (isNeg a != isNeg b)) false (isNeg a != isNeg b) := by unfold fdiv; rw [if_neg h]
theorem fdiv_great {a b : Int} (h : mag b ≠ 0) (hq : 9223372036854775807 < mag a * 65536 / mag b) : fdiv a b = sg 0 true (isNeg a != isNeg b) := by
  rw [fdiv_some h, (sg_val _ _).1 (by unfold dn; split <;> omega)]
  unfold sg; rw [if_pos (.inl rfl)]

end Go.Proofs.Ytjbnpgjndohjcaa
