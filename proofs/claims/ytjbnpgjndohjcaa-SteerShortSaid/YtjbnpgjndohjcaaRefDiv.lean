/- The page's quotients: what they compute. -/
import Derived.Test.YtjbnpgjndohjcaaFixDiv
namespace Go.Proofs.Ytjbnpgjndohjcaa
set_option maxRecDepth 20000
open Go.RowKit

theorem fdiv_ref (a b : Int) (ha : a ≤ 9223372036854775807) (h : mag b ≠ 0) (hb : b ≤ 9223372036854775807) :
    fdiv a b = sgr (overQ (mag a * 65536) (mag b)) (isNeg a != isNeg b) (decide (0 < mag a * 65536 % mag b)) := by
  rw [fdiv_some h]
  have h1 := mag_range ha
  have h2 := mag_range hb
  have hP : 0 ≤ mag a * 65536 / mag b := Int.ediv_nonneg (by omega) (by omega)
  generalize (isNeg a != isNeg b) = s at *
  unfold sgr overQ dn
  generalize mag a * 65536 / mag b = Q at *
  generalize mag a * 65536 % mag b = R at *
  by_cases hg : 18446744073709551616 ≤ Q
  · rw [if_pos hg, (sg_val _ s).1 (by split <;> omega), (sg_val _ s).1 (by split <;> omega)]
  · rw [if_neg hg]
    cases s
    · simp
    · by_cases hr : 0 < R
      · rw [if_pos ⟨rfl, hr⟩, if_pos ⟨rfl, decide_eq_true hr⟩]
      · rw [if_neg (fun h => hr h.2), if_neg (fun h => hr (of_decide_eq_true h.2))]

theorem mag_zero {b : Int} : mag b = 0 ↔ nrm b = 0 := by unfold mag; split <;> omega
theorem fdiv_nothing {a b : Int} (h : nrm b = 0) : (0 < nrm a → fdiv a b = 9223372036854775807) ∧ (nrm a < 0 → fdiv a b = -9223372036854775807) ∧ (nrm a = 0 → fdiv a b = 0) := by
  rw [fdiv_zero (mag_zero.2 h)]
  unfold sg sgn mag isNeg
  refine ⟨fun h1 => ?_, fun h1 => ?_, fun h1 => ?_⟩
  · rw [if_neg (by omega : ¬ nrm a < 0), decide_eq_true h1, decide_eq_false (by omega : ¬ nrm a < 0)]; simp
  · rw [if_pos h1, decide_eq_true (show 0 < -nrm a by omega), decide_eq_true h1]; simp
  · rw [h1]; simp

end Go.Proofs.Ytjbnpgjndohjcaa
