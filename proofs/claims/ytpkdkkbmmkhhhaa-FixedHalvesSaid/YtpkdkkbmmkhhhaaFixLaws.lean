/- Plain mathematics of the laws of layer 1: orders, quotients rounded down. -/
import Derived.Test.YtpkdkkbmmkhhhaaRefDiv
namespace Go.Proofs.Ytpkdkkbmmkhhhaa
open Go.RowKit

theorem fcmp_self (a : Int) : fcmp a a = 0 := by unfold fcmp; rw [if_neg (by omega), if_neg (by omega)]
theorem fcmp_turn (a b : Int) : fcmp b a = -(fcmp a b) := by unfold fcmp; split <;> (try split) <;> (try split) <;> omega
theorem fcmp_cases (a b : Int) : (fcmp a b = -1 ∧ nrm a < nrm b) ∨ (fcmp a b = 0 ∧ nrm a = nrm b) ∨ (fcmp a b = 1 ∧ nrm b < nrm a) := by
  unfold fcmp; split <;> (try split) <;> omega
theorem fcmp_le {a b : Int} : fcmp a b ≤ 0 ↔ nrm a ≤ nrm b := by rcases fcmp_cases a b with h | h | h <;> omega
theorem fcmp_eq {a b : Int} (h : nrm a = nrm b) : fcmp a b = 0 := by rcases fcmp_cases a b with h' | h' | h' <;> omega
theorem clp_mono {x y : Int} (h : x ≤ y) : clp x ≤ clp y := by unfold clp; split <;> split <;> (try split) <;> (try split) <;> omega
theorem fadd_mono {a b c : Int} (h : nrm a ≤ nrm b) : fcmp (fadd a c) (fadd b c) ≤ 0 := by
  rw [fcmp_le, nrm_id (fadd_range a c).1, nrm_id (fadd_range b c).1]
  exact clp_mono (by omega)
theorem fneg_mono {a b : Int} (ha : a ≤ 9223372036854775807) (hb : b ≤ 9223372036854775807) (h : nrm a ≤ nrm b) : 0 ≤ fcmp (fneg a) (fneg b) := by
  have h1 := nrm_id (fneg_range ha).1
  have h2 := nrm_id (fneg_range hb).1
  unfold fneg at h1 h2
  rcases fcmp_cases (fneg a) (fneg b) with ⟨_, h'⟩ | h' | h'
  · unfold fneg at h'; omega
  · omega
  · omega
theorem fadd_comm (a b : Int) : fadd a b = fadd b a := by unfold fadd; rw [Int.add_comm]
theorem fmul_comm (a b : Int) : fmul a b = fmul b a := by unfold fmul; rw [Int.mul_comm]
theorem fmul_unit {a : Int} (ha : a ≤ 9223372036854775807) : fmul a 65536 = nrm a := by
  have := nrm_range ha
  unfold fmul; rw [show nrm 65536 = 65536 from rfl, Int.mul_ediv_cancel _ (by omega), clp_id this.1 this.2]

/-- A quotient, by what it is without signs. -/
theorem fdiv_clp {a b : Int} (ha : a ≤ 9223372036854775807) (hb : b ≤ 9223372036854775807) (h : mag b ≠ 0) : fdiv a b = clp (sgn (mag a * 65536) (isNeg a != isNeg b) / mag b) := by
  have h1 := mag_range ha
  have h2 := mag_range hb
  rw [fdiv_some h, sgn_div _ _ _ (by omega), clp_sgn _ _ (dn_nonneg (Int.ediv_nonneg (by omega) (by omega)))]
  unfold sg
  simp
theorem sgn_scale (x k : Int) (s : Bool) : sgn (x * k) s = sgn x s * k := by
  unfold sgn; split
  · rw [Int.neg_mul]
  · rfl
/-- By a divisor above nothing it is rounded down. -/
theorem fdiv_pos {a b : Int} (ha : a ≤ 9223372036854775807) (hb : b ≤ 9223372036854775807) (h : 0 < nrm b) : fdiv a b = clp (nrm a * 65536 / nrm b) := by
  have e1 : mag b = nrm b := by unfold mag; rw [if_neg (by omega)]
  have e2 : isNeg b = false := decide_eq_false (by omega)
  rw [fdiv_clp ha hb (by omega), e2, e1, Bool.bne_false, sgn_scale, mag_sgn]
theorem fdiv_neg {a b : Int} (ha : a ≤ 9223372036854775807) (hb : b ≤ 9223372036854775807) (h : nrm b < 0) : fdiv a b = clp (-(nrm a) * 65536 / -(nrm b)) := by
  have e1 : mag b = -(nrm b) := by unfold mag; rw [if_pos h]
  have e2 : isNeg b = true := decide_eq_true h
  have e3 : sgn (mag a) (!isNeg a) = -(nrm a) := by
    rw [← mag_sgn a]; unfold sgn; cases isNeg a <;> simp
  rw [fdiv_clp ha hb (by omega), e2, e1, Bool.bne_true, sgn_scale, e3]
theorem fdiv_unit {a : Int} (ha : a ≤ 9223372036854775807) : fdiv a 65536 = nrm a := by
  have := nrm_range ha
  rw [fdiv_pos ha (by omega) (by decide), show nrm 65536 = 65536 from rfl, Int.mul_ediv_cancel _ (by omega), clp_id this.1 this.2]
theorem nrm_nrm' {a : Int} : fcmp (nrm a) a = 0 := fcmp_eq (nrm_nrm a)

theorem fmul_mono {a b k : Int} (h : nrm a ≤ nrm b) (hk : 0 < k) : fcmp (fmul a k) (fmul b k) ≤ 0 := by
  rw [fcmp_le, nrm_id (fmul_range a k).1, nrm_id (fmul_range b k).1]
  refine clp_mono (Int.ediv_le_ediv (by omega) ?_)
  exact Int.mul_le_mul_of_nonneg_right h (by rw [nrm_id (by omega)]; omega)
theorem fdiv_mono {a b k : Int} (ha : a ≤ 9223372036854775807) (hb : b ≤ 9223372036854775807) (hk1 : k ≤ 9223372036854775807) (h : nrm a ≤ nrm b) (hk : 0 < k) : fcmp (fdiv a k) (fdiv b k) ≤ 0 := by
  have hn : nrm k = k := nrm_id (by omega)
  rw [fcmp_le, nrm_id (fdiv_range ha hk1).1, nrm_id (fdiv_range hb hk1).1, fdiv_pos ha hk1 (by omega), fdiv_pos hb hk1 (by omega)]
  exact clp_mono (Int.ediv_le_ediv (by omega) (by omega))
theorem nrm_le {a b : Int} (h : nrm a ≤ nrm b) : a ≤ b ∨ (a ≤ 0 ∧ b ≤ 0) := by unfold nrm at h; split at h <;> split at h <;> omega
end Go.Proofs.Ytpkdkkbmmkhhhaa
