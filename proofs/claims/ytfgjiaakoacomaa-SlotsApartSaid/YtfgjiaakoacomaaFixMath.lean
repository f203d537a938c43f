/- Plain mathematics of fixed numbers: what each operation gives, as integers. No program. -/
import Derived.WalkKit
namespace Go.Proofs.Ytfgjiaakoacomaa
set_option maxRecDepth 20000

/-- A number as it counts. -/
def nrm (a : Int) : Int := if a < -9223372036854775807 then -9223372036854775807 else a
/-- Within the bounds. -/
def clp (x : Int) : Int := if 9223372036854775807 < x then 9223372036854775807 else if x < -9223372036854775807 then -9223372036854775807 else x
def fadd (a b : Int) : Int := clp (nrm a + nrm b)
def fneg (a : Int) : Int := -(nrm a)
def fsub (a b : Int) : Int := fadd a (fneg b)
def fcmp (a b : Int) : Int := if nrm a < nrm b then -1 else if nrm b < nrm a then 1 else 0
/-- How great, and whether below 0. -/
def mag (a : Int) : Int := if nrm a < 0 then -(nrm a) else nrm a
def isNeg (a : Int) : Bool := decide (nrm a < 0)
/-- A number of so great, with a sign. -/
def sgn (n : Int) (below : Bool) : Int := if below then -n else n

theorem nrm_range {a : Int} (h1 : a ≤ 9223372036854775807) : -9223372036854775807 ≤ nrm a ∧ nrm a ≤ 9223372036854775807 := by unfold nrm; split <;> omega
theorem nrm_id {a : Int} (h : -9223372036854775807 ≤ a) : nrm a = a := by unfold nrm; rw [if_neg (by omega)]
theorem nrm_ge (a : Int) : -9223372036854775807 ≤ nrm a := by unfold nrm; split <;> omega
theorem nrm_nrm (a : Int) : nrm (nrm a) = nrm a := nrm_id (nrm_ge a)
theorem mag_range {a : Int} (h1 : a ≤ 9223372036854775807) : 0 ≤ mag a ∧ mag a ≤ 9223372036854775807 := by have := nrm_range h1; unfold mag; split <;> omega
theorem clp_range (x : Int) : -9223372036854775807 ≤ clp x ∧ clp x ≤ 9223372036854775807 := by unfold clp; split <;> (try split) <;> omega
theorem clp_id {x : Int} (h : -9223372036854775807 ≤ x) (h' : x ≤ 9223372036854775807) : clp x = x := by unfold clp; rw [if_neg (by omega), if_neg (by omega)]
theorem fadd_range (a b : Int) : -9223372036854775807 ≤ fadd a b ∧ fadd a b ≤ 9223372036854775807 := clp_range _
theorem fneg_range {a : Int} (h1 : a ≤ 9223372036854775807) : -9223372036854775807 ≤ fneg a ∧ fneg a ≤ 9223372036854775807 := by have := nrm_range h1; unfold fneg; omega
theorem mag_sgn (a : Int) : sgn (mag a) (isNeg a) = nrm a := by
  unfold sgn mag isNeg
  by_cases h : nrm a < 0
  · simp [h]
  · simp [h]
theorem fadd_hi {a b : Int} (h : 9223372036854775807 < nrm a + nrm b) : fadd a b = 9223372036854775807 := by unfold fadd clp; rw [if_pos h]
theorem fadd_lo {a b : Int} (h : nrm a + nrm b < -9223372036854775807) : fadd a b = -9223372036854775807 := by unfold fadd clp; rw [if_neg (by omega), if_pos h]
theorem fadd_in {a b : Int} (h : -9223372036854775807 ≤ nrm a + nrm b) (h' : nrm a + nrm b ≤ 9223372036854775807) : fadd a b = nrm a + nrm b := clp_id h h'

/-- What 'signed' gives. -/
def sg (n : Int) (high below : Bool) : Int := sgn (if high = true ∨ 9223372036854775807 < n then 9223372036854775807 else n) below
def dn (n rest : Int) (below : Bool) : Int := if below = true ∧ 0 < rest then n + 1 else n

/-- A product, rounded down, within the bounds. -/
def fmul (a b : Int) : Int := clp (nrm a * nrm b / 65536)
theorem fmul_range (a b : Int) : -9223372036854775807 ≤ fmul a b ∧ fmul a b ≤ 9223372036854775807 := clp_range _

theorem mag_mul (a b : Int) : nrm a * nrm b = sgn (mag a * mag b) (isNeg a != isNeg b) := by
  have ha := mag_sgn a
  have hb := mag_sgn b
  rw [← ha, ← hb]
  cases isNeg a <;> cases isNeg b <;> simp [sgn, Int.neg_mul, Int.mul_neg]

/-- A magnitude over a divisor, with a sign, rounded down. -/
theorem sgn_div (P d : Int) (s : Bool) (hd : 0 < d) : sgn P s / d = sgn (dn (P / d) (P % d) s) s := by
  have h1 := Int.mul_ediv_add_emod P d
  have h2 := Int.emod_nonneg P (show d ≠ 0 by omega)
  have h3 := Int.emod_lt_of_pos P hd
  cases s
  · simp [sgn, dn]
  · simp only [sgn, dn, if_true, true_and]
    rw [Int.ediv_eq_iff_of_pos hd]
    by_cases hr : 0 < P % d
    · rw [if_pos hr, Int.neg_mul, Int.add_mul, Int.one_mul, Int.mul_comm]
      generalize d * (P / d) = z at *
      omega
    · rw [if_neg hr, Int.neg_mul, Int.mul_comm]
      generalize d * (P / d) = z at *
      omega

theorem clp_sgn (n : Int) (s : Bool) (h : 0 ≤ n) : clp (sgn n s) = sgn (if 9223372036854775807 < n then 9223372036854775807 else n) s := by
  unfold clp sgn
  cases s
  · simp only [Bool.false_eq_true, if_false]
    split <;> (try split) <;> omega
  · simp only [if_true]
    by_cases h1 : 9223372036854775807 < n
    · rw [if_neg (by omega), if_pos (by omega), if_pos h1]
    · rw [if_neg (by omega), if_neg (by omega), if_neg h1]

/-- The product as the program makes it. -/
theorem fmul_eq (a b : Int) (ha : a ≤ 9223372036854775807) (hb : b ≤ 9223372036854775807) :
    fmul a b = sg (dn (mag a * mag b / 65536) (mag a * mag b % 65536) (isNeg a != isNeg b)) false (isNeg a != isNeg b) := by
  have h1 := mag_range ha
  have h2 := mag_range hb
  have hP : 0 ≤ mag a * mag b := Int.mul_nonneg h1.1 h2.1
  unfold fmul sg
  rw [mag_mul, sgn_div _ _ _ (by omega), clp_sgn]
  · simp
  · unfold dn; split <;> omega
/-- .. where it is too great. -/
theorem fmul_great (a b : Int) (h : 9223372036854775808 * 65536 ≤ mag a * mag b) : fmul a b = sg 0 true (isNeg a != isNeg b) := by
  unfold fmul sg
  rw [mag_mul, sgn_div _ _ _ (by omega), clp_sgn]
  · rw [if_pos (by unfold dn; split <;> omega)]
    simp
  · unfold dn; split <;> omega

end Go.Proofs.Ytfgjiaakoacomaa
