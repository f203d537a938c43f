/- The page's wide numbers: products by halves, sums, order. -/
import Derived.Test.YtfgjiaakoacomaaRefMul
import Derived.WalkKit
namespace Go.Proofs.Ytfgjiaakoacomaa
set_option maxRecDepth 20000
open Go.RowKit

theorem times_join (u x0 : Int) (h0 : 0 ≤ x0) (h1 : x0 ≤ 4294967295) : bits .or .u64 (IntKind.u64.wrap (u * 4294967296)) x0 = u * 4294967296 % 18446744073709551616 + x0 := by
  rw [u64_wrap]
  have e : u * 4294967296 % 18446744073709551616 = (((u % 4294967296).toNat * 2 ^ 32 : Nat) : Int) := by omega
  obtain ⟨x, rfl⟩ := Int.eq_ofNat_of_zero_le h0
  rw [e, u64_or_nat _ _ (by omega) (by omega), Nat.mul_comm, ← Nat.two_pow_add_eq_or_of_lt (by omega)]
  simp

set_option maxHeartbeats 800000 in
set_option maxRecDepth 20000 in
theorem ref_times (a b : Int) (w : World) (h0 : 0 ≤ a) (h1 : a ≤ 18446744073709551615) (l0 : 0 ≤ b) (l1 : b ≤ 18446744073709551615) :
    Calls Try.prog 67 #[.int .u64 a, .int .u64 b] w fun e w' => e = .returned (.agg #[.int .u64 (a * b / 18446744073709551616), .int .u64 (a * b % 18446744073709551616)]) ∧ Below w.heap.size w w' := by
  have ha0 : bits .and .u64 a 4294967295 = a % 4294967296 := and_low32 a h0 (by omega)
  have hb0 : bits .and .u64 b 4294967295 = b % 4294967296 := and_low32 b l0 (by omega)
  obtain ⟨a0, ea0⟩ : ∃ x, a % 4294967296 = x := ⟨_, rfl⟩
  obtain ⟨b0, eb0⟩ : ∃ x, b % 4294967296 = x := ⟨_, rfl⟩
  obtain ⟨a1, ea1⟩ : ∃ x, a / 4294967296 = x := ⟨_, rfl⟩
  obtain ⟨b1, eb1⟩ : ∃ x, b / 4294967296 = x := ⟨_, rfl⟩
  have r1 : 0 ≤ a0 ∧ a0 ≤ 4294967295 := by omega
  have r2 : 0 ≤ b0 ∧ b0 ≤ 4294967295 := by omega
  have r3 : 0 ≤ a1 ∧ a1 ≤ 4294967295 := by omega
  have r4 : 0 ≤ b1 ∧ b1 ≤ 4294967295 := by omega
  have p1 := prod_bound a0 b0 r1.1 r1.2 r2.1 r2.2
  have p2 := prod_bound a1 b0 r3.1 r3.2 r2.1 r2.2
  have p3 := prod_bound a0 b1 r1.1 r1.2 r4.1 r4.2
  have p4 := prod_bound a1 b1 r3.1 r3.2 r4.1 r4.2
  have ea : a = a1 * 4294967296 + a0 := by omega
  have eb : b = b1 * 4294967296 + b0 := by omega
  have HAB : Hid (a * b = a1 * b1 * 18446744073709551616 + (a1 * b0 + a0 * b1) * 4294967296 + a0 * b0) := by
    show _ = _
    rw [ea, eb]; exact split_mul a1 a0 b1 b0
  rw [ea0] at ha0
  rw [eb0] at hb0
  clear ea eb
  have hx0 := and_low32 (a0 * b0) p1.1 (by omega)
  have hy0 := and_low32 (a1 * b0 + a0 * b0 / 4294967296) (by omega) (by omega)
  obtain ⟨x0, ex0⟩ : ∃ x, a0 * b0 % 4294967296 = x := ⟨_, rfl⟩
  obtain ⟨y0, ey0⟩ : ∃ x, (a1 * b0 + a0 * b0 / 4294967296) % 4294967296 = x := ⟨_, rfl⟩
  rw [ex0] at hx0
  rw [ey0] at hy0
  have rx : 0 ≤ x0 ∧ x0 ≤ 4294967295 := by omega
  have ry : 0 ≤ y0 ∧ y0 ≤ 4294967295 := by omega
  have hL := times_join (a0 * b1 + y0) x0 rx.1 rx.2
  have HB : a1 * b1 + (a1 * b0 + a0 * b0 / 4294967296) / 4294967296 + (a0 * b1 + y0) / 4294967296 ≤ 18446744073709551615 := by omega
  have HHI : Hid (a * b / 18446744073709551616 = a1 * b1 + (a1 * b0 + a0 * b0 / 4294967296) / 4294967296 + (a0 * b1 + y0) / 4294967296) := by
    show _ = _
    have := HAB.out
    omega
  have HLO : Hid (a * b % 18446744073709551616 = (a0 * b1 + y0) * 4294967296 % 18446744073709551616 + x0) := by
    show _ = _
    have := HAB.out
    omega
  clear ex0 ey0 ea0 eb0
  obtain ⟨LL, eL⟩ : ∃ x, (a0 * b1 + y0) * 4294967296 % 18446744073709551616 + x0 = x := ⟨_, rfl⟩
  rw [eL] at hL HLO
  clear eL
  go_enter Try.func67, Try.ntmps67
  go_wp2
  refine bodyPost_ret (v := .agg #[.int .u64 (a1 * b1 + (a1 * b0 + a0 * b0 / 4294967296) / 4294967296 + (a0 * b1 + y0) / 4294967296), .int .u64 LL]) (by simp [results, Try.results67, go_sem]) rfl ⟨?_, ?_⟩
  · rw [HHI.out, HLO.out]
  · exact (Below.refl _ _).alloc (Nat.le_refl _) _
end Go.Proofs.Ytfgjiaakoacomaa
namespace Go.Proofs.Ytfgjiaakoacomaa
set_option maxRecDepth 20000

/-- The root of W, bit by bit, k bits still to come. -/
def rb : Nat → Int → Int → Int
  | 0, _, R => R
  | k + 1, W, R => if (R + 2 ^ k) * (R + 2 ^ k) ≤ W then rb k W (R + 2 ^ k) else rb k W R
def rootF (W : Int) : Int := rb 63 W 0

/-- The greatest number, at most the greatest there is, whose square is not above W. -/
def IsRoot (W R : Int) : Prop := 0 ≤ R ∧ R ≤ 9223372036854775807 ∧ R * R ≤ W ∧ (R = 9223372036854775807 ∨ W < (R + 1) * (R + 1))

theorem rb_yes {k : Nat} {W R : Int} (h : (R + 2 ^ k) * (R + 2 ^ k) ≤ W) : rb (k + 1) W R = rb k W (R + 2 ^ k) := by rw [rb, if_pos h]
theorem rb_no {k : Nat} {W R : Int} (h : ¬ (R + 2 ^ k) * (R + 2 ^ k) ≤ W) : rb (k + 1) W R = rb k W R := by rw [rb, if_neg h]
theorem pow2_pos (k : Nat) : (0 : Int) < 2 ^ k := Int.pow_pos (by omega)

theorem sq_le {a b : Int} (h0 : 0 ≤ a) (h : a ≤ b) : a * a ≤ b * b := Int.mul_le_mul h h h0 (by omega)
theorem sq_lt {a b : Int} (h0 : 0 ≤ a) (h : a < b) : a * a < b * b := by
  have h1 : a * a ≤ a * b := Int.mul_le_mul_of_nonneg_left (by omega) h0
  have h2 : a * b < b * b := Int.mul_lt_mul_of_pos_right h (by omega)
  omega

theorem rb_spec : ∀ (k : Nat) (W R : Int), 0 ≤ R → R + 2 ^ k ≤ 9223372036854775808 → R * R ≤ W → (R + 2 ^ k = 9223372036854775808 ∨ W < (R + 2 ^ k) * (R + 2 ^ k)) → IsRoot W (rb k W R) := by
  intro k
  induction k with
  | zero =>
    intro W R h0 h1 h2 h3
    rw [Int.pow_zero] at h1 h3
    refine ⟨h0, by show R ≤ _; omega, h2, ?_⟩
    rcases h3 with h3 | h3
    · left; show R = _; omega
    · right; exact h3
  | succ k ih =>
    intro W R h0 h1 h2 h3
    have hp := pow2_pos k
    have e : (2 : Int) ^ (k + 1) = 2 ^ k + 2 ^ k := by rw [Int.pow_succ]; omega
    rw [e] at h1 h3
    by_cases h : (R + 2 ^ k) * (R + 2 ^ k) ≤ W
    · rw [rb_yes h]
      refine ih W (R + 2 ^ k) (by omega) (by omega) h ?_
      rw [Int.add_assoc]
      exact h3
    · rw [rb_no h]
      exact ih W R h0 (by omega) h2 (.inr (by omega))

theorem root_spec {W : Int} (h : 0 ≤ W) : IsRoot W (rootF W) := by
  have e : (2 : Int) ^ 63 = 9223372036854775808 := by decide
  exact rb_spec 63 W 0 (by omega) (by rw [e]; omega) (by omega) (.inl (by rw [e]; omega))
theorem IsRoot.le {W W' R R' : Int} (h : IsRoot W R) (h' : IsRoot W' R') (hW : W ≤ W') : R ≤ R' := by
  obtain ⟨h0, h1, h2, h3⟩ := h
  obtain ⟨g0, g1, g2, g3⟩ := h'
  rcases Int.lt_or_le R' R with hlt | hge
  · have : (R' + 1) * (R' + 1) ≤ R * R := sq_le (by omega) (by omega)
    rcases g3 with g3 | g3 <;> omega
  · exact hge
theorem IsRoot.eq {W R R' : Int} (h : IsRoot W R) (h' : IsRoot W R') : R = R' := Int.le_antisymm (h.le h' (Int.le_refl _)) (h'.le h (Int.le_refl _))
theorem rootF_eq {W R : Int} (h : IsRoot W R) : rootF W = R := by
  have h0 : 0 ≤ W := by have := Int.mul_nonneg h.1 h.1; have := h.2.2.1; omega
  exact (root_spec h0).eq h
theorem rootF_range {W : Int} (h : 0 ≤ W) : 0 ≤ rootF W ∧ rootF W ≤ 9223372036854775807 := ⟨(root_spec h).1, (root_spec h).2.1⟩

/-- What the program's loop holds. -/
def RootInv (W : Int) (k : Nat) (R : Int) : Prop := rootF W = rb k W R ∧ 0 ≤ R ∧ R + 2 ^ k ≤ 9223372036854775808 ∧ ∃ m : Nat, R = m * 2 ^ k
theorem RootInv.start (W : Int) : RootInv W 63 0 := ⟨rfl, by omega, by decide, 0, by simp⟩
theorem RootInv.step {W R : Int} {j : Nat} (h : RootInv W (j + 1) R) : (∃ m : Nat, R = m * 2 ^ (j + 1)) ∧ R + 2 ^ j ≤ 9223372036854775807 ∧ ((R + 2 ^ j) * (R + 2 ^ j) ≤ W → RootInv W j (R + 2 ^ j)) ∧ (¬ (R + 2 ^ j) * (R + 2 ^ j) ≤ W → RootInv W j R) := by
  obtain ⟨h1, h2, h3, m, h4⟩ := h
  have hp := pow2_pos j
  have e : (2 : Int) ^ (j + 1) = 2 ^ j + 2 ^ j := by rw [Int.pow_succ]; omega
  rw [e] at h3 h4
  refine ⟨⟨m, by rw [e]; exact h4⟩, by omega, fun h => ⟨by rw [h1, rb_yes h], by omega, by omega, 2 * m + 1, ?_⟩, fun h => ⟨by rw [h1, rb_no h], h2, by omega, 2 * m, ?_⟩⟩
  · rw [h4]
    generalize (2 : Int) ^ j = p at *
    rw [Int.mul_add, Int.natCast_add, Int.natCast_mul, Int.add_mul]
    have : ((2 : Nat) : Int) * (m : Int) * p = (m : Int) * p + (m : Int) * p := by rw [Int.mul_assoc]; generalize (m : Int) * p = z; omega
    rw [this]; simp
  · rw [h4]
    generalize (2 : Int) ^ j = p at *
    rw [Int.mul_add, Int.natCast_mul, Int.mul_assoc]
    generalize (m : Int) * p = z; omega
end Go.Proofs.Ytfgjiaakoacomaa
namespace Go.Proofs.Ytfgjiaakoacomaa
set_option maxRecDepth 20000
open Go.RowKit

/-- Which of two wide numbers is below the other one. -/
def lessW (h1 l1 h2 l2 : Int) : Bool := decide (h1 < h2 ∨ (h1 = h2 ∧ l1 < l2))
theorem lessW_eq {h1 l1 h2 l2 : Int} (a : 0 ≤ l1) (b : l1 < 18446744073709551616) (c : 0 ≤ l2) (d : l2 < 18446744073709551616) :
    lessW h1 l1 h2 l2 = decide (h1 * 18446744073709551616 + l1 < h2 * 18446744073709551616 + l2) := by
  unfold lessW
  rw [Bool.eq_iff_iff, decide_eq_true_iff, decide_eq_true_iff]
  omega

theorem or_bit (R : Int) (j m : Nat) (hR : R = m * 2 ^ (j + 1)) (h : R + 2 ^ j ≤ 9223372036854775807) : bits .or .u64 R (2 ^ j) = R + 2 ^ j := by
  have hp := pow2_pos j
  have e1 : ((2 ^ j : Nat) : Int) = (2 : Int) ^ j := by simp
  have e2 : R = ((2 ^ (j + 1) * m : Nat) : Int) := by rw [hR]; simp [Int.mul_comm]
  rw [e2, ← e1] at h ⊢
  have hlt : 2 ^ j < 2 ^ (j + 1) := Nat.pow_lt_pow_right (by omega) (by omega)
  rw [u64_or_nat _ _ (by omega) (by omega), ← Nat.two_pow_add_eq_or_of_lt hlt]
  simp

end Go.Proofs.Ytfgjiaakoacomaa
