/- math/bits.Div64 at every input that it is made for. -/
import Derived.Test.YtpkdkkbmmkhhhaaDiv
import Derived.Lib.ItoaNum
namespace Go.Proofs.Ytpkdkkbmmkhhhaa
set_option maxRecDepth 20000
open Go.RowKit

theorem u64_low32 (D : Int) (h0 : 0 ≤ D) (h1 : D < 18446744073709551616) : bits .and .u64 D 4294967295 = D % 4294967296 := by
  obtain ⟨p, rfl⟩ := Int.eq_ofNat_of_zero_le h0
  have e2 : (4294967295 : Int) = ((4294967295 : Nat) : Int) := rfl
  rw [e2, u64_and_nat _ _ (by omega) (by omega), show (4294967295 : Nat) = 2 ^ 32 - 1 from rfl, Nat.and_two_pow_sub_one_eq_mod]
  omega

theorem pow_split {s : Nat} (hs : s ≤ 63) : (18446744073709551616 : Int) = 2 ^ s * 2 ^ (64 - s) := by
  rw [← Int.pow_add, show s + (64 - s) = 64 by omega]; rfl
theorem join_shift (hi lo : Int) (s : Nat) (hs : s ≤ 63) (h0 : 0 ≤ hi) (h1 : hi * 2 ^ s < 18446744073709551616) (l0 : 0 ≤ lo) (l1 : lo ≤ 18446744073709551615) :
    bits .or .u64 (IntKind.u64.wrap (hi * 2 ^ s)) (lo / 2 ^ (64 - s)) = hi * 2 ^ s + lo / 2 ^ (64 - s) := by
  obtain ⟨a, rfl⟩ := Int.eq_ofNat_of_zero_le h0
  obtain ⟨b, rfl⟩ := Int.eq_ofNat_of_zero_le l0
  have hp : ((2 ^ s : Nat) : Int) = (2 : Int) ^ s := by simp
  have hq : ((2 ^ (64 - s) : Nat) : Int) = (2 : Int) ^ (64 - s) := by simp
  rw [← hp] at h1 ⊢
  rw [← hq]
  have e1 : (a : Int) * ((2 ^ s : Nat) : Int) = ((a * 2 ^ s : Nat) : Int) := by simp
  have e2 : (b : Int) / ((2 ^ (64 - s) : Nat) : Int) = ((b / 2 ^ (64 - s) : Nat) : Int) := by simp
  rw [e1] at h1 ⊢
  rw [e2]
  have hsplit : 2 ^ s * 2 ^ (64 - s) = 18446744073709551616 := by rw [← Nat.pow_add, show s + (64 - s) = 64 by omega]
  have hb : b / 2 ^ (64 - s) < 2 ^ s := by
    refine Nat.div_lt_of_lt_mul ?_
    rw [Nat.mul_comm, hsplit]; omega
  have hs64 : 2 ^ s ≤ 2 ^ 63 := Nat.pow_le_pow_right (by omega) hs
  have hw : IntKind.u64.wrap ((a * 2 ^ s : Nat) : Int) = ((a * 2 ^ s : Nat) : Int) := by rw [u64_wrap]; omega
  rw [hw, u64_or_nat _ _ (by omega) (by omega), Nat.mul_comm a, ← Nat.two_pow_add_eq_or_of_lt hb]
  simp

theorem norm_bits {y : Int} (h0 : 0 < y) (h1 : y ≤ 18446744073709551615) : ∃ s : Nat, s ≤ 63 ∧ (s : Int) = 64 - (Lib.bitLen y.toNat : Int) ∧ 9223372036854775808 ≤ y * 2 ^ s ∧ y * 2 ^ s < 18446744073709551616 := by
  obtain ⟨n, rfl⟩ := Int.eq_ofNat_of_zero_le (show 0 ≤ y by omega)
  rw [Int.toNat_natCast]
  obtain ⟨k1, k2, k3⟩ := Lib.bitLenAux_bounds 64 n (by omega) (by omega)
  have k4 := Lib.bitLen_le n 64 (by omega) (by omega)
  unfold Lib.bitLen at k4 ⊢
  generalize Lib.bitLenAux 64 n = m at *
  have hp : ((2 ^ (64 - m) : Nat) : Int) = (2 : Int) ^ (64 - m) := by simp
  refine ⟨64 - m, by omega, by omega, ?_, ?_⟩
  · have h2 : 2 ^ (m - 1) * 2 ^ (64 - m) ≤ n * 2 ^ (64 - m) := Nat.mul_le_mul_right _ k2
    rw [← Nat.pow_add, show m - 1 + (64 - m) = 63 by omega] at h2
    rw [← hp]
    have e1 : (n : Int) * ((2 ^ (64 - m) : Nat) : Int) = ((n * 2 ^ (64 - m) : Nat) : Int) := by simp
    rw [e1]; omega
  · have h2 : n * 2 ^ (64 - m) < 2 ^ m * 2 ^ (64 - m) := Nat.mul_lt_mul_of_pos_right k3 (Nat.pow_pos (by omega))
    rw [← Nat.pow_add, show m + (64 - m) = 64 by omega] at h2
    rw [← hp]
    have e1 : (n : Int) * ((2 ^ (64 - m) : Nat) : Int) = ((n * 2 ^ (64 - m) : Nat) : Int) := by simp
    rw [e1]; omega

theorem div64 (hi lo y : Int) (w : World) (h0 : 0 ≤ hi) (h1 : hi < y) (l0 : 0 ≤ lo) (l1 : lo ≤ 18446744073709551615) (y1 : y ≤ 18446744073709551615) :
    Calls Try.prog 76 #[.int .u64 hi, .int .u64 lo, .int .u64 y] w fun e w' => e = .returned (.tuple #[.int .u64 ((hi * 18446744073709551616 + lo) / y), .int .u64 ((hi * 18446744073709551616 + lo) % y)]) ∧ Below w.heap.size w w' := by
  by_cases hz : hi = 0
  · subst hz
    have := div64_zero lo y w l0 l1 (by omega) y1
    simpa using this
  · obtain ⟨s, hs, hs2, d0, d1⟩ := norm_bits (y := y) (by omega) y1
    have C : ∀ W, Calls Try.prog 79 #[.int .u64 y] W fun e w' => e = .returned (.int .i64 (s : Int)) ∧ W = w' := fun W => (Try.bits_LeadingZeros64 y W (by omega) y1).mono fun e w' ⟨he, hw⟩ => ⟨by rw [he, hs2], hw.symm⟩
    have hP : (0 : Int) < 2 ^ s := Int.pow_pos (by omega)
    have hQ : (0 : Int) < 2 ^ (64 - s) := Int.pow_pos (by omega)
    have hsp := pow_split hs
    have hh : hi * 2 ^ s ≤ y * 2 ^ s := Int.mul_le_mul_of_nonneg_right (by omega) (by omega)
    have hh2 : hi * 2 ^ s + 2 ^ s ≤ y * 2 ^ s := by
      have := Int.mul_le_mul_of_nonneg_right (show hi + 1 ≤ y by omega) (show (0 : Int) ≤ 2 ^ s by omega)
      rw [Int.add_mul, Int.one_mul] at this; exact this
    have hl2 : lo / 2 ^ (64 - s) < 2 ^ s := Int.ediv_lt_of_lt_mul hQ (by rw [← hsp]; omega)
    have hl3 : 0 ≤ lo / 2 ^ (64 - s) := Int.ediv_nonneg l0 (by omega)
    have hlo : lo * 2 ^ s = lo / 2 ^ (64 - s) * 18446744073709551616 + lo * 2 ^ s % 18446744073709551616 := by
      have k1 := Int.ediv_mul_add_emod (lo * 2 ^ s) 18446744073709551616
      have k2 : lo * 2 ^ s / 18446744073709551616 = lo / 2 ^ (64 - s) := by
        rw [hsp, Int.mul_comm lo, Int.mul_ediv_mul_of_pos _ _ hP]
      rw [k2] at k1
      omega
    have hL0 := Int.emod_nonneg (lo * 2 ^ s) (show (18446744073709551616 : Int) ≠ 0 by omega)
    have hL1 := Int.emod_lt_of_pos (lo * 2 ^ s) (show (0 : Int) < 18446744073709551616 by omega)
    have hh3 : 0 ≤ hi * 2 ^ s := Int.mul_nonneg h0 (by omega)
    have W := div64_walk hi lo y (y * 2 ^ s) (y * 2 ^ s / 4294967296) (y * 2 ^ s % 4294967296) (hi * 2 ^ s + lo / 2 ^ (64 - s)) (lo * 2 ^ s % 18446744073709551616) (lo * 2 ^ s % 18446744073709551616 / 4294967296) (lo * 2 ^ s % 18446744073709551616 % 4294967296) s w (by omega) h1 hs C
      (by rw [u64_wrap]; omega) rfl (u64_low32 _ (by omega) (by omega)) (join_shift hi lo s hs h0 (by omega) l0 l1) (u64_wrap _) rfl (u64_low32 _ hL0 hL1)
      ⟨by omega, by omega, by omega, by omega, by omega, by omega, by omega, by omega, by omega⟩ (by omega) (by omega) (by omega)
    have hN : (hi * 2 ^ s + lo / 2 ^ (64 - s)) * 18446744073709551616 + (lo * 2 ^ s % 18446744073709551616 / 4294967296 * 4294967296 + lo * 2 ^ s % 18446744073709551616 % 4294967296) = (hi * 18446744073709551616 + lo) * 2 ^ s := by
      have e : (hi * 18446744073709551616 + lo) * 2 ^ s = hi * 2 ^ s * 18446744073709551616 + lo * 2 ^ s := by
        rw [Int.add_mul, Int.mul_assoc, Int.mul_comm 18446744073709551616, ← Int.mul_assoc]
      omega
    obtain ⟨t1, t2⟩ := two_digits (N := hi * 2 ^ s + lo / 2 ^ (64 - s)) (D := y * 2 ^ s) (a := lo * 2 ^ s % 18446744073709551616 / 4294967296) (b := lo * 2 ^ s % 18446744073709551616 % 4294967296) (by omega)
    rw [t1, t2, hN] at W
    obtain ⟨s1, s2⟩ := shifted (V := hi * 18446744073709551616 + lo) (y := y) hP
    rw [s1, s2] at W
    exact W.mono fun e w' ⟨he, hw⟩ => ⟨he, by rw [← hw]; exact Below.refl _ _⟩
end Go.Proofs.Ytpkdkkbmmkhhhaa
