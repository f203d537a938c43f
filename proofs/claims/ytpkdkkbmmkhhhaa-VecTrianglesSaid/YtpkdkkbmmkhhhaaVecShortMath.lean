/- What was clamped is not longer than it should be. -/
import Derived.Test.YtpkdkkbmmkhhhaaVecClamp2
import Derived.Test.YtpkdkkbmmkhhhaaVecSquaresWalk
namespace Go.Proofs.Ytpkdkkbmmkhhhaa
set_option maxRecDepth 20000
open Go.RowKit

theorem sq_sum_lt {a b m L q r : Int} (m0 : 0 ≤ m) (mL : m < L) (hS : a * a + b * b < (L + 1) * (L + 1)) (hq : 0 ≤ q) (hr : 0 ≤ r) (h1 : q * L ≤ a * m) (h2 : r * L ≤ b * m) :
    q * q + r * r < (m + 1) * (m + 1) := by
  have k1 : (q * L) * (q * L) ≤ (a * m) * (a * m) := sq_le (Int.mul_nonneg hq (by omega)) h1
  have k2 : (r * L) * (r * L) ≤ (b * m) * (b * m) := sq_le (Int.mul_nonneg hr (by omega)) h2
  have k3 : (m * m) * (a * a + b * b) ≤ (m * m) * ((L + 1) * (L + 1)) := Int.mul_le_mul_of_nonneg_left (by omega) (Int.mul_nonneg m0 m0)
  have u0 : 0 ≤ m * (L + 1) := Int.mul_nonneg m0 (by omega)
  have uv : m * (L + 1) + 1 ≤ L * (m + 1) := by
    rw [Int.mul_add, Int.mul_add, Int.mul_comm L m]; omega
  have k4 : (m * (L + 1) + 1) * (m * (L + 1) + 1) ≤ (L * (m + 1)) * (L * (m + 1)) := sq_le (by omega) uv
  have k5 : (m * (L + 1) + 1) * (m * (L + 1) + 1) = (m * (L + 1)) * (m * (L + 1)) + 2 * (m * (L + 1)) + 1 := by
    generalize m * (L + 1) = u
    rw [Int.add_mul, Int.mul_add]; omega
  have e1 : (q * L) * (q * L) = (L * L) * (q * q) := by ac_rfl
  have e2 : (r * L) * (r * L) = (L * L) * (r * r) := by ac_rfl
  have e3 : (a * m) * (a * m) = (m * m) * (a * a) := by ac_rfl
  have e4 : (b * m) * (b * m) = (m * m) * (b * b) := by ac_rfl
  have e5 : (m * m) * ((L + 1) * (L + 1)) = (m * (L + 1)) * (m * (L + 1)) := by ac_rfl
  have e6 : (L * L) * ((m + 1) * (m + 1)) = (L * (m + 1)) * (L * (m + 1)) := by ac_rfl
  have e7 : (m * m) * (a * a + b * b) = (m * m) * (a * a) + (m * m) * (b * b) := Int.mul_add _ _ _
  have e8 : (L * L) * (q * q + r * r) = (L * L) * (q * q) + (L * L) * (r * r) := Int.mul_add _ _ _
  by_cases hc : q * q + r * r < (m + 1) * (m + 1)
  · exact hc
  · have k6 : (L * L) * ((m + 1) * (m + 1)) ≤ (L * L) * (q * q + r * r) := Int.mul_le_mul_of_nonneg_left (by omega) (Int.mul_nonneg (by omega) (by omega))
    rw [e6, e8] at k6
    rw [e1, e3] at k1
    rw [e2, e4] at k2
    rw [e7, e5] at k3
    generalize (m * (L + 1)) * (m * (L + 1)) = g1 at *
    generalize (L * (m + 1)) * (L * (m + 1)) = g2 at *
    generalize (L * L) * (q * q) = g3 at *
    generalize (L * L) * (r * r) = g4 at *
    generalize (m * m) * (a * a) = g5 at *
    generalize (m * m) * (b * b) = g6 at *
    omega

theorem mag_sgn2 {q : Int} {s : Bool} (h0 : 0 ≤ q) (h1 : q ≤ 9223372036854775807) : mag (sgn q s) = q ∧ nrm (sgn q s) = sgn q s := by
  have hn : nrm (sgn q s) = sgn q s := nrm_id (by unfold sgn; split <;> omega)
  refine ⟨?_, hn⟩
  unfold mag
  rw [hn]
  unfold sgn
  cases s
  · simp; omega
  · simp; omega

/-- The length of a way whose parts are not great. -/
theorem len_mid {x y : Int} (hx0 : -2305843009213693952 ≤ x) (hx1 : x ≤ 2305843009213693952) (hy0 : -2305843009213693952 ≤ y) (hy1 : y ≤ 2305843009213693952) :
    0 ≤ vlen x y ∧ vlen x y ≤ 4611686018427387904 ∧ vlen x y * vlen x y ≤ x * x + y * y ∧ x * x + y * y < (vlen x y + 1) * (vlen x y + 1) := by
  obtain ⟨a0, a1⟩ := sq_small hx0 hx1
  obtain ⟨b0, b1⟩ := sq_small hy0 hy1
  have e : sq2 x y = x * x + y * y := by unfold sq2; rw [mag_sq (by omega), mag_sq (by omega)]
  have h := root_spec (W := sq2 x y) (by omega)
  unfold vlen
  rw [e] at h ⊢
  obtain ⟨h0, h1, h2, h3⟩ := h
  have h4 : rootF (x * x + y * y) ≤ 4611686018427387904 := by
    by_cases hc : rootF (x * x + y * y) ≤ 4611686018427387904
    · exact hc
    · have := sq_le (a := 4611686018427387905) (b := rootF (x * x + y * y)) (by omega) (by omega)
      omega
  refine ⟨h0, h4, h2, ?_⟩
  rcases h3 with h3 | h3
  · omega
  · exact h3

/-- A shortened way: not longer than most; each part on its side; clamped again the same. -/
theorem short_is {X Y m : Int} (hx0 : -2305843009213693952 ≤ X) (hx1 : X ≤ 2305843009213693952) (hy0 : -2305843009213693952 ≤ Y) (hy1 : Y ≤ 2305843009213693952) (m0 : 0 ≤ m) (mL : m < vlen X Y) :
    vlen (partV X m (vlen X Y)) (partV Y m (vlen X Y)) ≤ m ∧
    (partV X m (vlen X Y) < 0 → X < 0) ∧ (0 < partV X m (vlen X Y) → 0 < X) ∧ (partV Y m (vlen X Y) < 0 → Y < 0) ∧ (0 < partV Y m (vlen X Y) → 0 < Y) ∧
    -2305843009213693952 ≤ partV X m (vlen X Y) ∧ partV X m (vlen X Y) ≤ 2305843009213693952 ∧ -2305843009213693952 ≤ partV Y m (vlen X Y) ∧ partV Y m (vlen X Y) ≤ 2305843009213693952 := by
  obtain ⟨l0, l1, l2, l3⟩ := len_mid hx0 hx1 hy0 hy1
  have nX : nrm X = X := nrm_id (by omega)
  have nY : nrm Y = Y := nrm_id (by omega)
  have aX : 0 ≤ mag X ∧ mag X ≤ 2305843009213693952 ∧ (isNeg X = true → X < 0 ∧ mag X = -X) ∧ (isNeg X = false → 0 ≤ X ∧ mag X = X) := by
    unfold mag isNeg; rw [nX]
    refine ⟨by split <;> omega, by split <;> omega, fun h => ?_, fun h => ?_⟩
    · have := of_decide_eq_true h; exact ⟨this, if_pos this⟩
    · have := of_decide_eq_false h; exact ⟨by omega, if_neg this⟩
  have aY : 0 ≤ mag Y ∧ mag Y ≤ 2305843009213693952 ∧ (isNeg Y = true → Y < 0 ∧ mag Y = -Y) ∧ (isNeg Y = false → 0 ≤ Y ∧ mag Y = Y) := by
    unfold mag isNeg; rw [nY]
    refine ⟨by split <;> omega, by split <;> omega, fun h => ?_, fun h => ?_⟩
    · have := of_decide_eq_true h; exact ⟨this, if_pos this⟩
    · have := of_decide_eq_false h; exact ⟨by omega, if_neg this⟩
  have sX : mag X * mag X = X * X := mag_sq (by omega)
  have sY : mag Y * mag Y = Y * Y := mag_sq (by omega)
  generalize vlen X Y = L at *
  obtain ⟨_, p0, p1, _⟩ := part_range (x := mag X) aX.1 (by omega) m0 mL
  obtain ⟨_, r0, r1, _⟩ := part_range (x := mag Y) aY.1 (by omega) m0 mL
  have d1 : mag X * m / L * L ≤ mag X * m := Int.ediv_mul_le _ (by omega)
  have d2 : mag Y * m / L * L ≤ mag Y * m := Int.ediv_mul_le _ (by omega)
  have hS := sq_sum_lt m0 mL (by rw [sX, sY]; exact l3) p0 r0 d1 d2
  have zX : mag X = 0 → mag X * m / L = 0 := fun h => by rw [h, Int.zero_mul, Int.zero_ediv]
  unfold partV
  generalize mag X * m / L = q at *
  generalize mag Y * m / L = r at *
  have hv : vlen (sgn q (isNeg X)) (sgn r (isNeg Y)) ≤ m := by
    have h := root_spec (W := q * q + r * r) (by have := Int.mul_nonneg p0 p0; have := Int.mul_nonneg r0 r0; omega)
    unfold vlen sq2
    rw [(mag_sgn2 p0 (by omega)).1, (mag_sgn2 r0 (by omega)).1]
    obtain ⟨h0, h1, h2, h3⟩ := h
    by_cases hc : rootF (q * q + r * r) ≤ m
    · exact hc
    · have := sq_le (a := m + 1) (b := rootF (q * q + r * r)) (by omega) (by omega)
      omega
  refine ⟨hv, ?_⟩
  unfold sgn
  rcases hnx : isNeg X with _ | _ <;> rcases hny : isNeg Y with _ | _
  all_goals
    have bX := aX.2.2
    have bY := aY.2.2
    rw [hnx] at bX
    rw [hny] at bY
    simp only [if_true, if_false, Bool.false_eq_true]
    first
      | (have b1 := bX.1 rfl; have b2 := bY.1 rfl; omega)
      | (have b1 := bX.2 rfl; have b2 := bY.1 rfl; omega)
      | (have b1 := bX.1 rfl; have b2 := bY.2 rfl; omega)
      | (have b1 := bX.2 rfl; have b2 := bY.2 rfl; omega)
end Go.Proofs.Ytpkdkkbmmkhhhaa
