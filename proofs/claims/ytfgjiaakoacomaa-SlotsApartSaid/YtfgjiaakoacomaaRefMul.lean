/- The page's products and quotients: what each computes. -/
import Derived.Test.YtfgjiaakoacomaaFixMul
import Derived.Test.YtfgjiaakoacomaaOverMath
namespace Go.Proofs.Ytfgjiaakoacomaa
set_option maxRecDepth 20000
open Go.RowKit

theorem u64_and1 (x : Int) (h0 : 0 ≤ x) (h1 : x ≤ 18446744073709551615) : bits .and .u64 x 1 = x % 2 := by
  obtain ⟨p, rfl⟩ := Int.eq_ofNat_of_zero_le h0
  have e2 : (1 : Int) = ((1 : Nat) : Int) := rfl
  rw [e2, u64_and_nat _ _ (by omega) (by omega), Nat.and_one_is_mod]
  omega
theorem u64_or1 (x be : Int) (h0 : 0 ≤ x) (h1 : x ≤ 18446744073709551615) (he : x % 2 = 0) (b0 : 0 ≤ be) (b1 : be ≤ 1) : bits .or .u64 x be = x + be := by
  obtain ⟨p, rfl⟩ := Int.eq_ofNat_of_zero_le h0
  obtain ⟨q, rfl⟩ := Int.eq_ofNat_of_zero_le b0
  rw [u64_or_nat _ _ (by omega) (by omega)]
  have h := Nat.two_pow_add_eq_or_of_lt (i := 1) (b := q) (by omega) (p / 2)
  have e : 2 ^ 1 * (p / 2) = p := by omega
  rw [e] at h
  rw [← h]; simp
theorem div_range (x : Int) (k : Nat) (h0 : 0 ≤ x) (h1 : x ≤ 18446744073709551615) : 0 ≤ x / 2 ^ k ∧ x / 2 ^ k ≤ 18446744073709551615 := by
  have hp := two_pos k
  have h2 := Int.ediv_nonneg h0 (Int.le_of_lt hp)
  have h3 : x / 2 ^ k ≤ x := Int.ediv_le_self _ h0
  omega
theorem bit_of (hi lo z : Int) (j : Nat) (h0 : 0 ≤ hi) (h1 : hi ≤ 18446744073709551615) (l0 : 0 ≤ lo) (l1 : lo ≤ 18446744073709551615) (hz : z = (j : Int)) (hj : j < 128) :
    (64 ≤ z → bits .and .u64 (hi / 2 ^ (z % 64).toNat) 1 = (hi * 18446744073709551616 + lo) / 2 ^ j % 2) ∧ (z < 64 → bits .and .u64 (lo / 2 ^ (z % 64).toNat) 1 = (hi * 18446744073709551616 + lo) / 2 ^ j % 2) := by
  subst hz
  refine ⟨fun h => ?_, fun h => ?_⟩
  · have e : ((j : Int) % 64).toNat = j - 64 := by omega
    have e2 : j = 64 + (j - 64) := by omega
    have hd := div_range hi (j - 64) h0 h1
    rw [e, u64_and1 _ hd.1 hd.2]
    conv => rhs; rw [e2]
    rw [bit_hi _ _ _ l0 (by omega)]
  · have e : ((j : Int) % 64).toNat = j := by omega
    have hd := div_range lo j l0 l1
    rw [e, u64_and1 _ hd.1 hd.2, bit_lo _ _ _ (by omega)]

def overQ (W b : Int) : Int := if 18446744073709551616 ≤ W / b then 18446744073709551615 else W / b

end Go.Proofs.Ytfgjiaakoacomaa
