/- fixed's products, and the page's: what each computes. -/
import Derived.Test.YtjbnpgjndohjcaaFix
import Derived.Test.YtjbnpgjndohjcaaShelf
namespace Go.Proofs.Ytjbnpgjndohjcaa
set_option maxRecDepth 20000
open Go.RowKit

theorem mul64 (x y : Int) (w : World) (hx : 0 ≤ x) (hx' : x ≤ 18446744073709551615) (hy : 0 ≤ y) (hy' : y ≤ 18446744073709551615) :
    Calls Try.prog 103 #[.int .u64 x, .int .u64 y] w fun e w' => e = .returned (.tuple #[.int .u64 (x * y / 18446744073709551616), .int .u64 (x * y % 18446744073709551616)]) ∧ w = w' := by
  obtain ⟨a, rfl⟩ := Int.eq_ofNat_of_zero_le hx
  obtain ⟨b, rfl⟩ := Int.eq_ofNat_of_zero_le hy
  refine (Try.bits_Mul64 a b (by omega) (by omega) w).mono fun e w' ⟨he, hw⟩ => ⟨?_, hw.symm⟩
  rw [he]
  simp

theorem fix_abs (a : Int) (w : World) (ha : a ≤ 9223372036854775807) : Calls Try.prog 101 #[.int .i64 a] w fun e w' => e = .returned (.tuple #[.int .u64 (mag a), .bool (isNeg a)]) ∧ w = w' := by
  have NA := Lib.hid (fun W => fix_norm a W)
  have h1 : nrm a < 0 → mag a = -(nrm a) ∧ isNeg a = true := fun h => by unfold mag isNeg; rw [if_pos h]; simp [h]
  have h2 : ¬ nrm a < 0 → mag a = nrm a ∧ isNeg a = false := fun h => by unfold mag isNeg; rw [if_neg h]; simp; omega
  obtain ⟨r1, r2⟩ := nrm_range ha
  generalize nrm a = A at *
  clear ha
  by_cases h : A < 0
  · have H := Lib.hid (h1 h)
    clear h1 h2
    go_enter Try.func101, Try.ntmps101
    go_wp2_with fail
    refine Calls.mono (NA.out _) ?_
    rintro e w1 ⟨rfl, rfl⟩
    go_wp2
    go_ret2
    exact ⟨by rw [H.out.1, H.out.2]; rfl, rfl⟩
  · have H := Lib.hid (h2 h)
    have h' : 0 ≤ A := by omega
    clear h1 h2
    go_enter Try.func101, Try.ntmps101
    go_wp2_with fail
    refine Calls.mono (NA.out _) ?_
    rintro e w1 ⟨rfl, rfl⟩
    go_wp2
    go_ret2
    exact ⟨by rw [H.out.1, H.out.2]; rfl, rfl⟩

theorem ofInt_u64 (a : Nat) (ha : a < 18446744073709551616) : (BitVec.ofInt 64 (a : Int)).toNat = a := by
  rw [BitVec.ofInt_natCast, BitVec.toNat_ofNat]; exact Nat.mod_eq_of_lt (by omega)
theorem u64_or_nat (a b : Nat) (ha : a < 18446744073709551616) (hb : b < 18446744073709551616) : bits .or .u64 (a : Int) (b : Int) = ((a ||| b : Nat) : Int) := by
  have hx : a ||| b < 2 ^ 64 := Nat.or_lt_two_pow (by omega) (by omega)
  show IntKind.u64.wrap ((BitVec.ofInt 64 (a : Int) ||| BitVec.ofInt 64 (b : Int)).toNat : Int) = _
  rw [BitVec.toNat_or, ofInt_u64 a ha, ofInt_u64 b hb]
  generalize a ||| b = z at *
  simp only [IntKind.wrap, IntKind.signed, IntKind.bits]
  simp
  omega
theorem u64_and_nat (a b : Nat) (ha : a < 18446744073709551616) (hb : b < 18446744073709551616) : bits .and .u64 (a : Int) (b : Int) = ((a &&& b : Nat) : Int) := by
  have hx : a &&& b < 2 ^ 64 := Nat.and_lt_two_pow _ (by omega)
  show IntKind.u64.wrap ((BitVec.ofInt 64 (a : Int) &&& BitVec.ofInt 64 (b : Int)).toNat : Int) = _
  rw [BitVec.toNat_and, ofInt_u64 a ha, ofInt_u64 b hb]
  generalize a &&& b = z at *
  simp only [IntKind.wrap, IntKind.signed, IntKind.bits]
  simp
  omega
theorem u64_wrap (x : Int) : IntKind.u64.wrap x = x % 18446744073709551616 := by simp [IntKind.wrap, IntKind.signed, IntKind.bits]
theorem mul_join (P : Int) (h0 : 0 ≤ P) (h : P < 9223372036854775808 * 65536) :
    bits .or .u64 (IntKind.u64.wrap (P / 18446744073709551616 * 281474976710656)) (P % 18446744073709551616 / 65536) = P / 65536 := by
  obtain ⟨p, rfl⟩ := Int.eq_ofNat_of_zero_le h0
  rw [u64_wrap]
  have e1 : ((p : Int) / 18446744073709551616 * 281474976710656) % 18446744073709551616 = ((p / 18446744073709551616 * 2 ^ 48 : Nat) : Int) := by omega
  have e2 : (p : Int) % 18446744073709551616 / 65536 = ((p % 18446744073709551616 / 65536 : Nat) : Int) := by omega
  rw [e1, e2, u64_or_nat _ _ (by omega) (by omega), Nat.mul_comm, ← Nat.two_pow_add_eq_or_of_lt (by omega)]
  omega
theorem mul_rest (P : Int) (h0 : 0 ≤ P) : bits .and .u64 (P % 18446744073709551616) 65535 = P % 65536 := by
  obtain ⟨p, rfl⟩ := Int.eq_ofNat_of_zero_le h0
  have e1 : (p : Int) % 18446744073709551616 = ((p % 18446744073709551616 : Nat) : Int) := by omega
  have e2 : (65535 : Int) = ((65535 : Nat) : Int) := rfl
  rw [e1, e2, u64_and_nat _ _ (by omega) (by omega), show (65535 : Nat) = 2 ^ 16 - 1 from rfl, Nat.and_two_pow_sub_one_eq_mod]
  omega

end Go.Proofs.Ytjbnpgjndohjcaa
