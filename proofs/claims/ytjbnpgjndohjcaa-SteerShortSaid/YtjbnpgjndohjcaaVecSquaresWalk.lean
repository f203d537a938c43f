/- The walk of the law VecSquares. -/
import Derived.Test.YtjbnpgjndohjcaaVecWithin
import Derived.Test.YtjbnpgjndohjcaaVecLaw
namespace Go.Proofs.Ytjbnpgjndohjcaa
set_option maxRecDepth 20000
open Go.RowKit Go.WideShapes Go.ChangeShapes

theorem mag_sq {x : Int} (h : -9223372036854775807 ≤ x) : mag x * mag x = x * x := by
  unfold mag
  rw [nrm_id h]
  split
  · rw [Int.neg_mul_neg]
  · rfl
theorem sq_small {x : Int} {m : Int} (h0 : -m ≤ x) (h1 : x ≤ m) : 0 ≤ x * x ∧ x * x ≤ m * m := by
  by_cases hx : 0 ≤ x
  · exact ⟨Int.mul_nonneg hx hx, sq_le hx h1⟩
  · have := sq_le (a := -x) (b := m) (by omega) (by omega)
    rw [Int.neg_mul_neg] at this
    have h3 := Int.mul_nonneg (a := -x) (b := -x) (by omega) (by omega)
    rw [Int.neg_mul_neg] at h3
    exact ⟨h3, this⟩
theorem len_small {x y : Int} (hx0 : -1073741824 ≤ x) (hx1 : x ≤ 1073741824) (hy0 : -1073741824 ≤ y) (hy1 : y ≤ 1073741824) :
    0 ≤ vlen x y ∧ vlen x y ≤ 2147483647 ∧ vlen x y * vlen x y ≤ x * x + y * y ∧ x * x + y * y < (vlen x y + 1) * (vlen x y + 1) ∧ (vlen x y + 1) * (vlen x y + 1) ≤ 4611686018427387904 := by
  obtain ⟨a0, a1⟩ := sq_small hx0 hx1
  obtain ⟨b0, b1⟩ := sq_small hy0 hy1
  have e : sq2 x y = x * x + y * y := by unfold sq2; rw [mag_sq (by omega), mag_sq (by omega)]
  have h := root_spec (W := sq2 x y) (by omega)
  unfold vlen
  rw [e] at h ⊢
  obtain ⟨h0, h1, h2, h3⟩ := h
  have h4 : rootF (x * x + y * y) ≤ 2147483647 := by
    by_cases hc : rootF (x * x + y * y) ≤ 2147483647
    · exact hc
    · have := sq_le (a := 2147483648) (b := rootF (x * x + y * y)) (by omega) (by omega)
      omega
  have h5 := sq_le (a := rootF (x * x + y * y) + 1) (b := 2147483648) (by omega) (by omega)
  refine ⟨h0, h4, h2, ?_, by omega⟩
  rcases h3 with h3 | h3
  · omega
  · exact h3
theorem wake_len2 : vlen (-3) (-4) = 5 := by decide +kernel
theorem wake_len3 : vlen 9223372036854775807 9223372036854775807 = 9223372036854775807 := by decide +kernel
theorem fsub_small {x y : Int} (hx0 : -1073741824 ≤ x) (hx1 : x ≤ 1073741824) (hy0 : -1073741824 ≤ y) (hy1 : y ≤ 1073741824) : fsub x y = x - y := by
  unfold fsub fneg fadd
  rw [nrm_id (a := y) (by omega), nrm_id (a := x) (by omega), nrm_id (a := -y) (by omega), clp_id (by omega) (by omega)]
  omega
theorem within_small {x y k : Int} (hx0 : -1073741824 ≤ x) (hx1 : x ≤ 1073741824) (hy0 : -1073741824 ≤ y) (hy1 : y ≤ 1073741824) :
    vwithin x 0 0 y k = decide (0 ≤ k ∧ x * x + y * y < k * k) := by
  have e : sq2 (fsub x 0) (fsub 0 y) = x * x + y * y := by
    rw [fsub_small hx0 hx1 (by omega) (by omega), fsub_small (by omega) (by omega) hy0 hy1]
    unfold sq2; rw [mag_sq (by omega), mag_sq (by omega), Int.sub_zero, Int.zero_sub, Int.neg_mul_neg]
  unfold vwithin
  rw [e]
  obtain ⟨a0, _⟩ := sq_small hx0 hx1
  obtain ⟨b0, _⟩ := sq_small hy0 hy1
  refine decide_eq_decide.2 ⟨fun h => ⟨by omega, h.2⟩, fun h => ⟨?_, h.2⟩⟩
  by_cases hk : k = 0
  · subst hk; omega
  · omega
theorem rem_small (x : Int) : -1073741824 ≤ x.tmod 1073741824 ∧ x.tmod 1073741824 ≤ 1073741824 := by
  have h1 := Int.tmod_lt_of_pos x (b := 1073741824) (by omega)
  have h2 := Int.lt_tmod_of_pos x (b := 1073741824) (by omega)
  omega

namespace lawVecSquares
end lawVecSquares
end Go.Proofs.Ytjbnpgjndohjcaa
