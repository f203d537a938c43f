/- Plain mathematics of a long division by two digits (base 2^32), as math/bits makes it. No program. -/
import Derived.WalkKit
namespace Go.Proofs.Ytpkdkkbmmkhhhaa
set_option maxRecDepth 20000

/-- One digit: N, a number of two digits below D, and the next digit a, by D = y1 * B + y0, y1 at least half the base. -/
structure Digit (N D y1 y0 a : Int) : Prop where
  hD : D = y1 * 4294967296 + y0
  a1 : 2147483648 ≤ y1
  b1 : y1 < 4294967296
  a0 : 0 ≤ y0
  b0 : y0 < 4294967296
  hN : 0 ≤ N
  hlt : N < D
  ha : 0 ≤ a
  hb : a < 4294967296
/-- What is guessed, and what is left then. -/
def Guess (N D y1 a q r : Int) : Prop := N = q * y1 + r ∧ (N * 4294967296 + a) / D ≤ q ∧ 0 ≤ r ∧ 0 ≤ q ∧ q ≤ 4294967297

section
variable {N D y1 y0 a q r : Int}
theorem Digit.pos (h : Digit N D y1 y0 a) : 0 < D := by have := h.hD; have := h.a1; have := h.a0; omega
theorem Digit.quo (h : Digit N D y1 y0 a) : (N * 4294967296 + a) / D * D ≤ N * 4294967296 + a ∧ N * 4294967296 + a < (N * 4294967296 + a) / D * D + D ∧ 0 ≤ (N * 4294967296 + a) / D ∧ (N * 4294967296 + a) / D < 4294967296 := by
  have hp := h.pos
  have h1 := Int.ediv_mul_add_emod (N * 4294967296 + a) D
  have h2 := Int.emod_nonneg (N * 4294967296 + a) (show D ≠ 0 by omega)
  have h3 := Int.emod_lt_of_pos (N * 4294967296 + a) hp
  refine ⟨by omega, by omega, Int.ediv_nonneg (by have := h.hN; have := h.ha; omega) (by omega), ?_⟩
  refine Int.ediv_lt_of_lt_mul hp ?_
  have := h.hlt; have := h.hb
  omega
theorem digit_rest (N D a : Int) : N * 4294967296 + a - (N * 4294967296 + a) / D * D = (N * 4294967296 + a) % D := by
  have h1 := Int.ediv_mul_add_emod (N * 4294967296 + a) D
  omega
theorem Digit.mul_split (h : Digit N D y1 y0 a) (q : Int) : q * D = q * y1 * 4294967296 + q * y0 := by
  rw [h.hD, Int.mul_add, Int.mul_assoc]

theorem Guess.start (h : Digit N D y1 y0 a) : Guess N D y1 a (N / y1) (N % y1) ∧ N % y1 < 4294967296 := by
  have h1 := Int.ediv_mul_add_emod N y1
  have hy := h.a1
  have h2 := Int.emod_nonneg N (show y1 ≠ 0 by omega)
  have h3 := Int.emod_lt_of_pos N (show 0 < y1 by omega)
  have h4 : 0 ≤ N / y1 := Int.ediv_nonneg h.hN (by omega)
  obtain ⟨q1, q2, q3, q4⟩ := h.quo
  refine ⟨⟨by omega, ?_, h2, h4, ?_⟩, by have := h.b1; omega⟩
  · refine Int.le_ediv_of_mul_le (by omega) ?_
    have e := h.mul_split ((N * 4294967296 + a) / D)
    have := Int.mul_nonneg q3 h.a0
    have := h.hb
    omega
  · by_cases hc : N / y1 ≤ 4294967297
    · exact hc
    · have h5 := Int.mul_le_mul_of_nonneg_right (show (4294967298 : Int) ≤ N / y1 by omega) (show 0 ≤ y1 by omega)
      have := h.hlt; have := h.hD; have := h.b0
      omega

/-- The guess is right. -/
theorem Guess.done (h : Digit N D y1 y0 a) (g : Guess N D y1 a q r) (hle : q * y0 ≤ 4294967296 * r + a) : q = (N * 4294967296 + a) / D := by
  obtain ⟨g1, g2, g3, g4, g5⟩ := g
  refine Int.le_antisymm ?_ g2
  refine Int.le_ediv_of_mul_le h.pos ?_
  have e := h.mul_split q
  omega
/-- It is too great. -/
theorem Guess.step (h : Digit N D y1 y0 a) (g : Guess N D y1 a q r) (hgt : 4294967296 ≤ q ∨ 4294967296 * r + a < q * y0) : Guess N D y1 a (q - 1) (r + y1) ∧ 1 ≤ q := by
  obtain ⟨g1, g2, g3, g4, g5⟩ := g
  obtain ⟨q1, q2, q3, q4⟩ := h.quo
  have hlt : (N * 4294967296 + a) / D < q := by
    rcases hgt with hgt | hgt
    · omega
    · by_cases hc : (N * 4294967296 + a) / D < q
      · exact hc
      · have heq : (N * 4294967296 + a) / D = q := by omega
        have e := h.mul_split q
        rw [heq] at q1
        omega
  have e1 : (q - 1) * y1 = q * y1 - y1 := by rw [Int.sub_mul, Int.one_mul]
  exact ⟨⟨by omega, by omega, by have := h.a1; omega, by omega, by omega⟩, by omega⟩
/-- Where what is left is too great, the guess is right. -/
theorem Guess.great (h : Digit N D y1 y0 a) (g : Guess N D y1 a q r) (hq : q ≤ 4294967296) (hr : 4294967296 ≤ r) : q = (N * 4294967296 + a) / D := by
  refine g.done h ?_
  obtain ⟨g1, g2, g3, g4, g5⟩ := g
  have h1 := Int.mul_le_mul hq (show y0 ≤ 4294967295 by have := h.b0; omega) h.a0 (by omega)
  have := h.ha
  omega
/-- What is left of the digit, as it is reckoned modulo 2^64. -/
theorem Digit.wrap (h : Digit N D y1 y0 a) (hD : D ≤ 18446744073709551615) :
    ((N * 4294967296 % 18446744073709551616 + a) % 18446744073709551616 - (N * 4294967296 + a) / D * D % 18446744073709551616) % 18446744073709551616 = (N * 4294967296 + a) % D := by
  have h1 := digit_rest N D a
  have h2 := Int.emod_nonneg (N * 4294967296 + a) (show D ≠ 0 by have := h.pos; omega)
  have h3 := Int.emod_lt_of_pos (N * 4294967296 + a) h.pos
  rw [← h1] at h2 h3 ⊢
  generalize (N * 4294967296 + a) / D * D = z at *
  omega
theorem Digit.next (h : Digit N D y1 y0 a) {b : Int} (hb : 0 ≤ b) (hb' : b < 4294967296) : Digit ((N * 4294967296 + a) % D) D y1 y0 b :=
  ⟨h.hD, h.a1, h.b1, h.a0, h.b0, Int.emod_nonneg _ (by have := h.pos; omega), Int.emod_lt_of_pos _ h.pos, hb, hb'⟩
end

/-- Two digits, one behind the other. -/
theorem two_digits {N D a b : Int} (hD : 0 < D) : (N * 4294967296 + a) / D * 4294967296 + ((N * 4294967296 + a) % D * 4294967296 + b) / D = (N * 18446744073709551616 + (a * 4294967296 + b)) / D ∧
    ((N * 4294967296 + a) % D * 4294967296 + b) % D = (N * 18446744073709551616 + (a * 4294967296 + b)) % D := by
  have h1 := Int.ediv_mul_add_emod (N * 4294967296 + a) D
  have e : N * 18446744073709551616 + (a * 4294967296 + b) = ((N * 4294967296 + a) % D * 4294967296 + b) + (N * 4294967296 + a) / D * 4294967296 * D := by
    have : (N * 4294967296 + a) / D * 4294967296 * D = (N * 4294967296 + a) / D * D * 4294967296 := by rw [Int.mul_assoc, Int.mul_comm 4294967296, ← Int.mul_assoc]
    omega
  rw [e, Int.add_mul_ediv_right _ _ (by omega), Int.add_mul_emod_self_right]
  exact ⟨by omega, rfl⟩
theorem shifted {V y p : Int} (hp : 0 < p) : V * p / (y * p) = V / y ∧ V * p % (y * p) / p = V % y := by
  refine ⟨Int.mul_ediv_mul_of_pos_left _ _ hp, ?_⟩
  rw [Int.mul_comm V p, Int.mul_comm y p, Int.mul_emod_mul_of_pos _ _ hp, Int.mul_comm p]
  exact Int.mul_ediv_cancel _ (by omega)
end Go.Proofs.Ytpkdkkbmmkhhhaa
