/- Plain mathematics of a division bit by bit. No program. -/
import Derived.WalkKit
namespace Go.Proofs.Ytfgjiaakoacomaa
set_option maxRecDepth 20000

theorem div_step {T b R D be : Int} (hR : R = T % b) (hD : D = T / b) (hb : 0 < b) (h0 : 0 ≤ be) (h1 : be ≤ 1) :
    (2 * R + be < b → (2 * T + be) % b = 2 * R + be ∧ (2 * T + be) / b = 2 * D) ∧ (b ≤ 2 * R + be → (2 * T + be) % b = 2 * R + be - b ∧ (2 * T + be) / b = 2 * D + 1) := by
  have e := Int.mul_ediv_add_emod T b
  have r0 := Int.emod_nonneg T (show b ≠ 0 by omega)
  have r1 := Int.emod_lt_of_pos T hb
  subst hR; subst hD
  refine ⟨fun h => ?_, fun h => ?_⟩
  · have := (Int.ediv_emod_unique (a := 2 * T + be) (b := b) (r := 2 * (T % b) + be) (q := 2 * (T / b)) hb).2 ⟨by rw [Int.mul_left_comm]; generalize b * (T / b) = z at *; omega, by omega, h⟩
    exact ⟨this.2, this.1⟩
  · have := (Int.ediv_emod_unique (a := 2 * T + be) (b := b) (r := 2 * (T % b) + be - b) (q := 2 * (T / b) + 1) hb).2 ⟨by rw [Int.mul_add, Int.mul_left_comm, Int.mul_one]; generalize b * (T / b) = z at *; omega, by omega, by omega⟩
    exact ⟨this.2, this.1⟩

/-- What the loop holds when the k lowest bits of W are still to come. -/
def OverInv (W b : Int) (k : Nat) (R Q : Int) (g : Bool) : Prop :=
  R = W / 2 ^ k % b ∧ Q = W / 2 ^ k / b % 18446744073709551616 ∧ g = decide (18446744073709551616 ≤ W / 2 ^ k / b)

theorem two_pos (k : Nat) : (0 : Int) < 2 ^ k := Int.pow_pos (by omega)
theorem half_step (W : Int) (j : Nat) : W / 2 ^ j = 2 * (W / 2 ^ (j + 1)) + W / 2 ^ j % 2 := by
  have e : W / 2 ^ (j + 1) = W / 2 ^ j / 2 := by rw [Int.pow_succ, Int.ediv_ediv_of_nonneg (Int.le_of_lt (two_pos j))]
  rw [e]; omega

theorem OverInv.start {W b : Int} (h0 : 0 ≤ W) (h : W < 2 ^ 128) : OverInv W b 128 0 0 false := by
  have e : W / 2 ^ 128 = 0 := Int.ediv_eq_zero_of_lt h0 h
  unfold OverInv
  rw [e]
  simp

theorem OverInv.no {W b R Q be : Int} {j : Nat} {g : Bool} (h : OverInv W b (j + 1) R Q g) (hb : 0 < b) (hW : 0 ≤ W) (hbe : be = W / 2 ^ j % 2) (hc : 2 * R + be < b) :
    OverInv W b j (2 * R + be) (Q * 2 % 18446744073709551616) (g || decide (9223372036854775808 ≤ Q)) := by
  obtain ⟨hR, hQ, hg⟩ := h
  have hs := half_step W j
  rw [← hbe] at hs
  have h2 := (div_step (T := W / 2 ^ (j + 1)) (b := b) (be := be) hR rfl hb (by omega) (by omega)).1 hc
  have hD : 0 ≤ W / 2 ^ (j + 1) / b := Int.ediv_nonneg (Int.ediv_nonneg hW (Int.le_of_lt (two_pos _))) (Int.le_of_lt hb)
  unfold OverInv
  rw [hs, h2.1, h2.2]
  generalize W / 2 ^ (j + 1) / b = D at *
  refine ⟨rfl, by omega, ?_⟩
  rw [hg, Bool.eq_iff_iff]
  simp only [Bool.or_eq_true, decide_eq_true_eq]
  omega
theorem OverInv.yes {W b R Q be : Int} {j : Nat} {g : Bool} (h : OverInv W b (j + 1) R Q g) (hb : 0 < b) (hW : 0 ≤ W) (hbe : be = W / 2 ^ j % 2) (hc : b ≤ 2 * R + be) :
    OverInv W b j (2 * R + be - b) (Q * 2 % 18446744073709551616 + 1) (g || decide (9223372036854775808 ≤ Q)) := by
  obtain ⟨hR, hQ, hg⟩ := h
  have hs := half_step W j
  rw [← hbe] at hs
  have h2 := (div_step (T := W / 2 ^ (j + 1)) (b := b) (be := be) hR rfl hb (by omega) (by omega)).2 hc
  have hD : 0 ≤ W / 2 ^ (j + 1) / b := Int.ediv_nonneg (Int.ediv_nonneg hW (Int.le_of_lt (two_pos _))) (Int.le_of_lt hb)
  unfold OverInv
  rw [hs, h2.1, h2.2]
  generalize W / 2 ^ (j + 1) / b = D at *
  refine ⟨rfl, by omega, ?_⟩
  rw [hg, Bool.eq_iff_iff]
  simp only [Bool.or_eq_true, decide_eq_true_eq]
  omega

theorem bit_hi (hi lo : Int) (j : Nat) (h0 : 0 ≤ lo) (h1 : lo < 18446744073709551616) : (hi * 18446744073709551616 + lo) / 2 ^ (64 + j) % 2 = hi / 2 ^ j % 2 := by
  have e : (hi * 18446744073709551616 + lo) / 2 ^ (64 + j) = hi / 2 ^ j := by
    rw [Int.pow_add, ← Int.ediv_ediv_of_nonneg (by decide)]
    congr 1
    have : (2 : Int) ^ 64 = 18446744073709551616 := by decide
    rw [this]
    omega
  rw [e]
theorem bit_lo (hi lo : Int) (j : Nat) (hj : j < 64) : (hi * 18446744073709551616 + lo) / 2 ^ j % 2 = lo / 2 ^ j % 2 := by
  have e : hi * 18446744073709551616 = (hi * 2 ^ (63 - j) * 2) * 2 ^ j := by
    have : (18446744073709551616 : Int) = 2 ^ (63 - j) * 2 * 2 ^ j := by
      rw [← Int.pow_succ, ← Int.pow_add, show 63 - j + 1 + j = 64 by omega]
      decide
    rw [this]
    simp only [Int.mul_assoc]
  rw [e, Int.add_comm, Int.add_mul_ediv_right _ _ (by have := two_pos j; omega)]
  omega
end Go.Proofs.Ytfgjiaakoacomaa
