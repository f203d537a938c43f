/- A way over a third place is not shorter, but for the rounding; who is within a way of another one. -/
import Derived.Test.YtpkdkkbmmkhhhaaVecShortMath
namespace Go.Proofs.Ytpkdkkbmmkhhhaa
set_option maxRecDepth 20000
open Go.RowKit

theorem cauchy_id (a b c d : Int) : (a * c + b * d) * (a * c + b * d) + (a * d - b * c) * (a * d - b * c) = (a * a + b * b) * (c * c + d * d) := by grind
theorem sq_pos (z : Int) : 0 ≤ z * z := by
  rcases Int.le_total 0 z with h | h
  · exact Int.mul_nonneg h h
  · have := Int.mul_nonneg (a := -z) (b := -z) (by omega) (by omega)
    rwa [Int.neg_mul_neg] at this
theorem way_over {a b c d L M N : Int} (L0 : 0 ≤ L) (M0 : 0 ≤ M) (N0 : 0 ≤ N)
    (hL : L * L ≤ (a + c) * (a + c) + (b + d) * (b + d)) (hM : a * a + b * b < (M + 1) * (M + 1)) (hN : c * c + d * d < (N + 1) * (N + 1)) : L ≤ M + N + 1 := by
  have hc := cauchy_id a b c d
  have q0 := sq_pos (a * d - b * c)
  have a0 := sq_pos a
  have b0 := sq_pos b
  have c0 := sq_pos c
  have d0 := sq_pos d
  generalize hP : M + 1 = P at *
  generalize hQ : N + 1 = Q at *
  have PQ : 0 ≤ P * Q := Int.mul_nonneg (by omega) (by omega)
  have hprod : (a * a + b * b) * (c * c + d * d) < (P * P) * (Q * Q) := Int.lt_of_le_of_lt (Int.mul_le_mul_of_nonneg_left (show c * c + d * d ≤ Q * Q by omega) (by omega)) (Int.mul_lt_mul_of_pos_right hM (by have := sq_pos Q; omega))
  have hin : a * c + b * d < P * Q := by
    by_cases h : a * c + b * d < P * Q
    · exact h
    · have := Int.mul_le_mul (a := P * Q) (b := P * Q) (c := a * c + b * d) (d := a * c + b * d) (by omega) (by omega) PQ (by omega)
      have e : (P * Q) * (P * Q) = (P * P) * (Q * Q) := by ac_rfl
      omega
  have e1 : (a + c) * (a + c) = a * a + 2 * (a * c) + c * c := by grind
  have e2 : (b + d) * (b + d) = b * b + 2 * (b * d) + d * d := by grind
  by_cases h : L ≤ M + N + 1
  · exact h
  · have := Int.mul_le_mul (a := P + Q) (b := P + Q) (c := L) (d := L) (by omega) (by omega) (by omega) (by omega)
    have e3 : (P + Q) * (P + Q) = P * P + 2 * (P * Q) + Q * Q := by grind
    omega

theorem fsub_mid {x y : Int} (hx0 : -576460752303423488 ≤ x) (hx1 : x ≤ 576460752303423488) (hy0 : -576460752303423488 ≤ y) (hy1 : y ≤ 576460752303423488) : fsub x y = x - y := by
  unfold fsub fneg fadd
  rw [nrm_id (a := y) (by omega), nrm_id (a := x) (by omega), nrm_id (a := -y) (by omega), clp_id (by omega) (by omega)]
  omega
theorem len_third {x y : Int} (hx0 : -1152921504606846976 ≤ x) (hx1 : x ≤ 1152921504606846976) (hy0 : -1152921504606846976 ≤ y) (hy1 : y ≤ 1152921504606846976) :
    0 ≤ vlen x y ∧ vlen x y ≤ 2305843009213693952 ∧ vlen x y * vlen x y ≤ x * x + y * y ∧ x * x + y * y < (vlen x y + 1) * (vlen x y + 1) := by
  obtain ⟨h0, h1, h2, h3⟩ := len_mid (x := x) (y := y) (by omega) (by omega) (by omega) (by omega)
  obtain ⟨_, a1⟩ := sq_small hx0 hx1
  obtain ⟨_, b1⟩ := sq_small hy0 hy1
  refine ⟨h0, ?_, h2, h3⟩
  by_cases hc : vlen x y ≤ 2305843009213693952
  · exact hc
  · have := sq_le (a := 2305843009213693953) (b := vlen x y) (by omega) (by omega)
    omega
theorem sq2_mid {x y : Int} (hx0 : -1152921504606846976 ≤ x) (hy0 : -1152921504606846976 ≤ y) : sq2 x y = x * x + y * y := by
  unfold sq2; rw [mag_sq (by omega), mag_sq (by omega)]
theorem tri_all {x y p q s t r : Int} (hx0 : -576460752303423488 ≤ x) (hx1 : x ≤ 576460752303423488) (hy0 : -576460752303423488 ≤ y) (hy1 : y ≤ 576460752303423488)
    (hp0 : -576460752303423488 ≤ p) (hp1 : p ≤ 576460752303423488) (hq0 : -576460752303423488 ≤ q) (hq1 : q ≤ 576460752303423488)
    (hs0 : -576460752303423488 ≤ s) (hs1 : s ≤ 576460752303423488) (ht0 : -576460752303423488 ≤ t) (ht1 : t ≤ 576460752303423488) :
    (0 ≤ vlen (fsub x p) (fsub y q) ∧ vlen (fsub x p) (fsub y q) ≤ 2305843009213693952) ∧ (0 ≤ vlen (fsub x s) (fsub y t) ∧ vlen (fsub x s) (fsub y t) ≤ 2305843009213693952) ∧ (0 ≤ vlen (fsub s p) (fsub t q) ∧ vlen (fsub s p) (fsub t q) ≤ 2305843009213693952) ∧
    vlen (fsub x p) (fsub y q) ≤ vlen (fsub x s) (fsub y t) + vlen (fsub s p) (fsub t q) + 1 ∧ vwithin p q x y r = vwithin x y p q r ∧ (0 < r → vwithin x y p q r = decide (vlen (fsub x p) (fsub y q) < r)) := by
  unfold vwithin
  rw [fsub_mid hx0 hx1 hp0 hp1, fsub_mid hy0 hy1 hq0 hq1, fsub_mid hx0 hx1 hs0 hs1, fsub_mid hy0 hy1 ht0 ht1, fsub_mid hs0 hs1 hp0 hp1, fsub_mid ht0 ht1 hq0 hq1, fsub_mid hp0 hp1 hx0 hx1, fsub_mid hq0 hq1 hy0 hy1]
  obtain ⟨l0, l1, l2, l3⟩ := len_third (x := x - p) (y := y - q) (by omega) (by omega) (by omega) (by omega)
  obtain ⟨m0, m1, m2, m3⟩ := len_third (x := x - s) (y := y - t) (by omega) (by omega) (by omega) (by omega)
  obtain ⟨n0, n1, n2, n3⟩ := len_third (x := s - p) (y := t - q) (by omega) (by omega) (by omega) (by omega)
  rw [sq2_mid (x := p - x) (y := q - y) (by omega) (by omega), sq2_mid (x := x - p) (y := y - q) (by omega) (by omega)]
  refine ⟨⟨l0, l1⟩, ⟨m0, m1⟩, ⟨n0, n1⟩, ?_, ?_, ?_⟩
  · refine way_over (a := x - s) (b := y - t) (c := s - p) (d := t - q) l0 m0 n0 ?_ m3 n3
    rw [show x - s + (s - p) = x - p by omega, show y - t + (t - q) = y - q by omega]
    exact l2
  · rw [show (p - x) * (p - x) + (q - y) * (q - y) = (x - p) * (x - p) + (y - q) * (y - q) by grind]
  · intro h
    generalize vlen (x - p) (y - q) = L at *
    generalize (x - p) * (x - p) + (y - q) * (y - q) = S at *
    refine decide_eq_decide.2 ⟨fun g => ?_, fun g => ⟨h, ?_⟩⟩
    · by_cases hc : L < r
      · exact hc
      · have := sq_le (a := r) (b := L) (by omega) (by omega)
        omega
    · have := sq_le (a := L + 1) (b := r) (by omega) (by omega)
      omega
end Go.Proofs.Ytpkdkkbmmkhhhaa
