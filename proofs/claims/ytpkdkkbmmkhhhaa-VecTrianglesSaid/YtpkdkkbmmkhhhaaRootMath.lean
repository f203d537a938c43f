/- Plain mathematics of roots. No program. -/
import Derived.WalkKit
namespace Go.Proofs.Ytpkdkkbmmkhhhaa
set_option maxRecDepth 20000

/-- The root of W, bit by bit, k bits still to come. -/
def rb : Nat → Int → Int → Int
  | 0, _, R => R
  | k + 1, W, R => if (R + 2 ^ k) * (R + 2 ^ k) ≤ W then rb k W (R + 2 ^ k) else rb k W R
def rootF (W : Int) : Int := rb 63 W 0

/-- The greatest number, at most the greatest there is, whose square is not above W. -/
def IsRoot (W R : Int) : Prop := 0 ≤ R ∧ R ≤ 9223372036854775807 ∧ R * R ≤ W ∧ (R = 9223372036854775807 ∨ W < (R + 1) * (R + 1))

theorem rb_yes {k : Nat} {W R : Int} (h : (R + 2 ^ k) * (R + 2 ^ k) ≤ W) : rb (k + 1) W R = rb k W (R + 2 ^ k) := by rw [rb, if_pos h]
theorem rb_no {k : Nat} {W R : Int} (h : ¬ (R + 2 ^ k) * (R + 2 ^ k) ≤ W) : rb (k + 1) W R = rb k W R := by rw [rb, if_neg h]
theorem pow2_pos (k : Nat) : (0 : Int) < 2 ^ k := Int.pow_pos (by omega)

theorem sq_le {a b : Int} (h0 : 0 ≤ a) (h : a ≤ b) : a * a ≤ b * b := Int.mul_le_mul h h h0 (by omega)
theorem sq_lt {a b : Int} (h0 : 0 ≤ a) (h : a < b) : a * a < b * b := by
  have h1 : a * a ≤ a * b := Int.mul_le_mul_of_nonneg_left (by omega) h0
  have h2 : a * b < b * b := Int.mul_lt_mul_of_pos_right h (by omega)
  omega

theorem rb_spec : ∀ (k : Nat) (W R : Int), 0 ≤ R → R + 2 ^ k ≤ 9223372036854775808 → R * R ≤ W → (R + 2 ^ k = 9223372036854775808 ∨ W < (R + 2 ^ k) * (R + 2 ^ k)) → IsRoot W (rb k W R) := by
  intro k
  induction k with
  | zero =>
    intro W R h0 h1 h2 h3
    rw [Int.pow_zero] at h1 h3
    refine ⟨h0, by show R ≤ _; omega, h2, ?_⟩
    rcases h3 with h3 | h3
    · left; show R = _; omega
    · right; exact h3
  | succ k ih =>
    intro W R h0 h1 h2 h3
    have hp := pow2_pos k
    have e : (2 : Int) ^ (k + 1) = 2 ^ k + 2 ^ k := by rw [Int.pow_succ]; omega
    rw [e] at h1 h3
    by_cases h : (R + 2 ^ k) * (R + 2 ^ k) ≤ W
    · rw [rb_yes h]
      refine ih W (R + 2 ^ k) (by omega) (by omega) h ?_
      rw [Int.add_assoc]
      exact h3
    · rw [rb_no h]
      exact ih W R h0 (by omega) h2 (.inr (by omega))

theorem root_spec {W : Int} (h : 0 ≤ W) : IsRoot W (rootF W) := by
  have e : (2 : Int) ^ 63 = 9223372036854775808 := by decide
  exact rb_spec 63 W 0 (by omega) (by rw [e]; omega) (by omega) (.inl (by rw [e]; omega))
theorem IsRoot.le {W W' R R' : Int} (h : IsRoot W R) (h' : IsRoot W' R') (hW : W ≤ W') : R ≤ R' := by
  obtain ⟨h0, h1, h2, h3⟩ := h
  obtain ⟨g0, g1, g2, g3⟩ := h'
  rcases Int.lt_or_le R' R with hlt | hge
  · have : (R' + 1) * (R' + 1) ≤ R * R := sq_le (by omega) (by omega)
    rcases g3 with g3 | g3 <;> omega
  · exact hge
theorem IsRoot.eq {W R R' : Int} (h : IsRoot W R) (h' : IsRoot W R') : R = R' := Int.le_antisymm (h.le h' (Int.le_refl _)) (h'.le h (Int.le_refl _))
theorem rootF_eq {W R : Int} (h : IsRoot W R) : rootF W = R := by
  have h0 : 0 ≤ W := by have := Int.mul_nonneg h.1 h.1; have := h.2.2.1; omega
  exact (root_spec h0).eq h
theorem rootF_range {W : Int} (h : 0 ≤ W) : 0 ≤ rootF W ∧ rootF W ≤ 9223372036854775807 := ⟨(root_spec h).1, (root_spec h).2.1⟩

/-- What the program's loop holds. -/
def RootInv (W : Int) (k : Nat) (R : Int) : Prop := rootF W = rb k W R ∧ 0 ≤ R ∧ R + 2 ^ k ≤ 9223372036854775808 ∧ ∃ m : Nat, R = m * 2 ^ k
theorem RootInv.start (W : Int) : RootInv W 63 0 := ⟨rfl, by omega, by decide, 0, by simp⟩
theorem RootInv.step {W R : Int} {j : Nat} (h : RootInv W (j + 1) R) : (∃ m : Nat, R = m * 2 ^ (j + 1)) ∧ R + 2 ^ j ≤ 9223372036854775807 ∧ ((R + 2 ^ j) * (R + 2 ^ j) ≤ W → RootInv W j (R + 2 ^ j)) ∧ (¬ (R + 2 ^ j) * (R + 2 ^ j) ≤ W → RootInv W j R) := by
  obtain ⟨h1, h2, h3, m, h4⟩ := h
  have hp := pow2_pos j
  have e : (2 : Int) ^ (j + 1) = 2 ^ j + 2 ^ j := by rw [Int.pow_succ]; omega
  rw [e] at h3 h4
  refine ⟨⟨m, by rw [e]; exact h4⟩, by omega, fun h => ⟨by rw [h1, rb_yes h], by omega, by omega, 2 * m + 1, ?_⟩, fun h => ⟨by rw [h1, rb_no h], h2, by omega, 2 * m, ?_⟩⟩
  · rw [h4]
    generalize (2 : Int) ^ j = p at *
    rw [Int.mul_add, Int.natCast_add, Int.natCast_mul, Int.add_mul]
    have : ((2 : Nat) : Int) * (m : Int) * p = (m : Int) * p + (m : Int) * p := by rw [Int.mul_assoc]; generalize (m : Int) * p = z; omega
    rw [this]; simp
  · rw [h4]
    generalize (2 : Int) ^ j = p at *
    rw [Int.mul_add, Int.natCast_mul, Int.mul_assoc]
    generalize (m : Int) * p = z; omega
end Go.Proofs.Ytpkdkkbmmkhhhaa
