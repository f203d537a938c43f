/- How many bytes a number has. -/
import Derived.Test.YtpklgghppmlklaaWireBackMath
namespace Go.Proofs.Ytpklgghppmlklaa
open Go.RowKit

theorem put_ge {j : Nat} : ∀ {n : Nat}, 128 ^ j ≤ n → j + 1 ≤ (put n).length := by
  induction j with
  | zero => intro n _; exact put_pos n
  | succ j ih =>
    intro n h
    have hp : 0 < 128 ^ j := Nat.pow_pos (by omega)
    rw [Nat.pow_succ] at h
    rw [put_great (by omega)]
    have := ih (n := n / 128) (by rw [Nat.le_div_iff_mul_le (by omega)]; exact h)
    simp only [List.length_cons]; omega
theorem put_len_is {n j : Nat} (h0 : 128 ^ j ≤ n) (h1 : n < 128 ^ (j + 1)) : (put n).length = j + 1 := by
  have := put_ge h0
  have := put_length h1 (by omega)
  omega
theorem pow_seven (j : Nat) : (128 : Nat) ^ j = 2 ^ (7 * j) := by rw [Nat.pow_mul]
theorem put_pow {k : Nat} : (put (2 ^ k)).length = k / 7 + 1 := by
  refine put_len_is ?_ ?_
  · rw [pow_seven]; exact Nat.pow_le_pow_right (by omega) (by omega)
  · rw [pow_seven]; exact Nat.pow_lt_pow_right (by omega) (by omega)
theorem put_pow1 {k : Nat} : (put (2 ^ k - 1)).length = max 1 ((k + 6) / 7) := by
  cases k with
  | zero => rw [show 2 ^ 0 - 1 = 0 from rfl, put_small (by omega)]; rfl
  | succ k =>
    rw [show max 1 ((k + 1 + 6) / 7) = k / 7 + 1 by omega]
    have hp : 0 < 2 ^ k := Nat.pow_pos (by omega)
    have e : 2 ^ (k + 1) = 2 ^ k * 2 := Nat.pow_succ ..
    refine put_len_is ?_ ?_
    · rw [pow_seven]
      have : 2 ^ (7 * (k / 7)) ≤ 2 ^ k := Nat.pow_le_pow_right (by omega) (by omega)
      omega
    · rw [pow_seven]
      have : 2 ^ (k + 1) ≤ 2 ^ (7 * (k / 7 + 1)) := Nat.pow_le_pow_right (by omega) (by omega)
      have : 0 < 2 ^ (k + 1) := Nat.pow_pos (by omega)
      omega
theorem pow63 {k : Nat} (h : k < 63) : 1 ≤ (2 : Int) ^ k ∧ (2 : Int) ^ k ≤ 4611686018427387904 ∧ ((2 : Int) ^ k).toNat = 2 ^ k ∧ ((2 : Int) ^ k - 1).toNat = 2 ^ k - 1 := by
  have e : (2 : Int) ^ k = ((2 ^ k : Nat) : Int) := by simp
  have h0 : 0 < 2 ^ k := Nat.pow_pos (by omega)
  have h1 : (2 : Int) ^ k ≤ (2 : Int) ^ 62 := by
    rw [e, show (2 : Int) ^ 62 = ((2 ^ 62 : Nat) : Int) by simp]
    exact Int.ofNat_le.2 (Nat.pow_le_pow_right (by omega) (by omega))
  refine ⟨by rw [e]; omega, h1, by rw [e, Int.toNat_natCast], ?_⟩
  rw [e]
  generalize 2 ^ k = z at *
  omega

/-- The least and the greatest numbers, and some between. -/
def lowsL : List Int := [-4611686018427387904, 4611686018427387903, -1, 0, 1, 1099511627776, -1099511627776]
theorem lows_in : ∀ k : Fin 7, -4611686018427387904 ≤ lowsL.getD k.val 0 ∧ lowsL.getD k.val 0 < 4611686018427387904 := by decide +kernel
theorem get_long : get 0 0 [128, 0] = (0, 0, 1) := by
  rw [get_more (by omega) (by omega), get_bad (by omega)]
theorem get_nine : get 0 0 [255, 255, 255, 255, 255, 255, 255, 255, 255] = (0, 0, 1) := by
  rw [get_more (by omega) (by omega), get_more (by omega) (by omega), get_more (by omega) (by omega), get_more (by omega) (by omega), get_more (by omega) (by omega), get_more (by omega) (by omega), get_more (by omega) (by omega), get_more (by omega) (by omega), get_bad (by omega)]
theorem get_eight : get 0 0 [255, 255, 255, 255, 255, 255, 255, 255] = (0, 0, 11) := by
  rw [get_more (by omega) (by omega), get_more (by omega) (by omega), get_more (by omega) (by omega), get_more (by omega) (by omega), get_more (by omega) (by omega), get_more (by omega) (by omega), get_more (by omega) (by omega), get_more (by omega) (by omega)]
  rfl
theorem getRaw_big : getRawR (put 1048577) = ([], 0, 1) := by
  have h := get_put0 (n := 1048577) (by omega) []
  rw [List.append_nil] at h
  unfold getRawR
  rw [h]
  rfl
theorem getI_all {x : Int} (h0 : -4611686018427387904 ≤ x) (h1 : x < 4611686018427387904) : getI (put (zig x)) = (x, ((put (zig x)).length : Int), 0) := by
  have := getI_put h0 h1 []
  rwa [List.append_nil] at this
end Go.Proofs.Ytpklgghppmlklaa
