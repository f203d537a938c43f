/- fixed's products, and the page's: what each computes. -/
import Derived.Test.YtpkdkkbmmkhhhaaFix
import Derived.Test.YtpkdkkbmmkhhhaaShelf
namespace Go.Proofs.Ytpkdkkbmmkhhhaa
set_option maxRecDepth 20000
open Go.RowKit

theorem mul64 (x y : Int) (w : World) (hx : 0 ≤ x) (hx' : x ≤ 18446744073709551615) (hy : 0 ≤ y) (hy' : y ≤ 18446744073709551615) :
    Calls Try.prog 62 #[.int .u64 x, .int .u64 y] w fun e w' => e = .returned (.tuple #[.int .u64 (x * y / 18446744073709551616), .int .u64 (x * y % 18446744073709551616)]) ∧ w = w' := by
  obtain ⟨a, rfl⟩ := Int.eq_ofNat_of_zero_le hx
  obtain ⟨b, rfl⟩ := Int.eq_ofNat_of_zero_le hy
  refine (Try.bits_Mul64 a b (by omega) (by omega) w).mono fun e w' ⟨he, hw⟩ => ⟨?_, hw.symm⟩
  rw [he]
  simp

theorem fix_abs (a : Int) (w : World) (ha : a ≤ 9223372036854775807) : Calls Try.prog 61 #[.int .i64 a] w fun e w' => e = .returned (.tuple #[.int .u64 (mag a), .bool (isNeg a)]) ∧ w = w' := by
  have NA := Lib.hid (fun W => fix_norm a W)
  have h1 : nrm a < 0 → mag a = -(nrm a) ∧ isNeg a = true := fun h => by unfold mag isNeg; rw [if_pos h]; simp [h]
  have h2 : ¬ nrm a < 0 → mag a = nrm a ∧ isNeg a = false := fun h => by unfold mag isNeg; rw [if_neg h]; simp; omega
  obtain ⟨r1, r2⟩ := nrm_range ha
  generalize nrm a = A at *
  clear ha
  by_cases h : A < 0
  · have H := Lib.hid (h1 h)
    clear h1 h2
    go_enter Try.func61, Try.ntmps61
    go_wp2_with fail
    refine Calls.mono (NA.out _) ?_
    rintro e w1 ⟨rfl, rfl⟩
    go_wp2
    go_ret2
    exact ⟨by rw [H.out.1, H.out.2]; rfl, rfl⟩
  · have H := Lib.hid (h2 h)
    have h' : 0 ≤ A := by omega
    clear h1 h2
    go_enter Try.func61, Try.ntmps61
    go_wp2_with fail
    refine Calls.mono (NA.out _) ?_
    rintro e w1 ⟨rfl, rfl⟩
    go_wp2
    go_ret2
    exact ⟨by rw [H.out.1, H.out.2]; rfl, rfl⟩

theorem fix_signed (n : Int) (high below : Bool) (w : World) (h0 : 0 ≤ n) : Calls Try.prog 63 #[.int .u64 n, .bool high, .bool below] w fun e w' => e = .returned (.int .i64 (sg n high below)) ∧ w = w' := by
  by_cases hc : 9223372036854775807 < n
  · have H : ∀ high, Hid (sg n high below = sgn 9223372036854775807 below) := fun high => by
      show _ = _; unfold sg; rw [if_pos (.inr hc)]
    cases high <;> cases below <;>
    (go_enter Try.func63, Try.ntmps63
     go_wp2
     go_ret
     exact ⟨by rw [(H _).out]; rfl, rfl⟩)
  · have H : Hid (sg n true below = sgn 9223372036854775807 below ∧ sg n false below = sgn n below) := by
      refine ⟨?_, ?_⟩
      · unfold sg; rw [if_pos (.inl rfl)]
      · unfold sg; rw [if_neg (by simp; omega)]
    have hc' : n ≤ 9223372036854775807 := by omega
    cases high <;> cases below <;>
    (go_enter Try.func63, Try.ntmps63
     go_wp2
     go_ret
     exact ⟨by first | (rw [H.out.1]; rfl) | (rw [H.out.2]; rfl), rfl⟩)

theorem fix_down (n rest : Int) (below : Bool) (w : World) (h0 : 0 ≤ n) (h1 : n ≤ 9223372036854775807) : Calls Try.prog 64 #[.int .u64 n, .int .u64 rest, .bool below] w fun e w' => e = .returned (.int .u64 (dn n rest below)) ∧ w = w' := by
  have H : Hid (dn n rest false = n ∧ (0 < rest → dn n rest true = n + 1) ∧ (¬ 0 < rest → dn n rest true = n)) := by
    refine ⟨?_, fun h => ?_, fun h => ?_⟩
    · unfold dn; rw [if_neg (by simp)]
    · unfold dn; rw [if_pos ⟨rfl, h⟩]
    · unfold dn; rw [if_neg (fun h' => h h'.2)]
  cases below
  · go_enter Try.func64, Try.ntmps64
    go_wp2
    go_ret
    exact ⟨by rw [H.out.1]; rfl, rfl⟩
  · by_cases hc : 0 < rest
    · have H2 := Lib.hid (H.out.2.1 hc)
      go_enter Try.func64, Try.ntmps64
      go_wp2
      go_ret
      exact ⟨by rw [H2.out]; rfl, rfl⟩
    · have H2 := Lib.hid (H.out.2.2 hc)
      go_enter Try.func64, Try.ntmps64
      go_wp2
      go_ret
      exact ⟨by rw [H2.out]; rfl, rfl⟩

theorem ofInt_u64 (a : Nat) (ha : a < 18446744073709551616) : (BitVec.ofInt 64 (a : Int)).toNat = a := by
  rw [BitVec.ofInt_natCast, BitVec.toNat_ofNat]; exact Nat.mod_eq_of_lt (by omega)
theorem u64_or_nat (a b : Nat) (ha : a < 18446744073709551616) (hb : b < 18446744073709551616) : bits .or .u64 (a : Int) (b : Int) = ((a ||| b : Nat) : Int) := by
  have hx : a ||| b < 2 ^ 64 := Nat.or_lt_two_pow (by omega) (by omega)
  show IntKind.u64.wrap ((BitVec.ofInt 64 (a : Int) ||| BitVec.ofInt 64 (b : Int)).toNat : Int) = _
  rw [BitVec.toNat_or, ofInt_u64 a ha, ofInt_u64 b hb]
  generalize a ||| b = z at *
  simp only [IntKind.wrap, IntKind.signed, IntKind.bits]
  simp
  omega
theorem u64_and_nat (a b : Nat) (ha : a < 18446744073709551616) (hb : b < 18446744073709551616) : bits .and .u64 (a : Int) (b : Int) = ((a &&& b : Nat) : Int) := by
  have hx : a &&& b < 2 ^ 64 := Nat.and_lt_two_pow _ (by omega)
  show IntKind.u64.wrap ((BitVec.ofInt 64 (a : Int) &&& BitVec.ofInt 64 (b : Int)).toNat : Int) = _
  rw [BitVec.toNat_and, ofInt_u64 a ha, ofInt_u64 b hb]
  generalize a &&& b = z at *
  simp only [IntKind.wrap, IntKind.signed, IntKind.bits]
  simp
  omega
theorem u64_wrap (x : Int) : IntKind.u64.wrap x = x % 18446744073709551616 := by simp [IntKind.wrap, IntKind.signed, IntKind.bits]
theorem mul_join (P : Int) (h0 : 0 ≤ P) (h : P < 9223372036854775808 * 65536) :
    bits .or .u64 (IntKind.u64.wrap (P / 18446744073709551616 * 281474976710656)) (P % 18446744073709551616 / 65536) = P / 65536 := by
  obtain ⟨p, rfl⟩ := Int.eq_ofNat_of_zero_le h0
  rw [u64_wrap]
  have e1 : ((p : Int) / 18446744073709551616 * 281474976710656) % 18446744073709551616 = ((p / 18446744073709551616 * 2 ^ 48 : Nat) : Int) := by omega
  have e2 : (p : Int) % 18446744073709551616 / 65536 = ((p % 18446744073709551616 / 65536 : Nat) : Int) := by omega
  rw [e1, e2, u64_or_nat _ _ (by omega) (by omega), Nat.mul_comm, ← Nat.two_pow_add_eq_or_of_lt (by omega)]
  omega
theorem mul_rest (P : Int) (h0 : 0 ≤ P) : bits .and .u64 (P % 18446744073709551616) 65535 = P % 65536 := by
  obtain ⟨p, rfl⟩ := Int.eq_ofNat_of_zero_le h0
  have e1 : (p : Int) % 18446744073709551616 = ((p % 18446744073709551616 : Nat) : Int) := by omega
  have e2 : (65535 : Int) = ((65535 : Nat) : Int) := rfl
  rw [e1, e2, u64_and_nat _ _ (by omega) (by omega), show (65535 : Nat) = 2 ^ 16 - 1 from rfl, Nat.and_two_pow_sub_one_eq_mod]
  omega

set_option maxHeartbeats 400000 in
theorem fix_mul (a b : Int) (w : World) (ha : a ≤ 9223372036854775807) (hb : b ≤ 9223372036854775807) : Calls Try.prog 26 #[.int .i64 a, .int .i64 b] w fun e w' => e = .returned (.int .i64 (fmul a b)) ∧ w = w' := by
  have NA := Lib.hid (fun W => fix_abs a W ha)
  have NB := Lib.hid (fun W => fix_abs b W hb)
  have h1 := fmul_eq a b ha hb
  have h2 := fmul_great a b
  obtain ⟨x0, x1⟩ := mag_range ha
  obtain ⟨y0, y1⟩ := mag_range hb
  generalize isNeg a = p at *
  generalize isNeg b = q at *
  generalize mag a = x at *
  generalize mag b = y at *
  generalize fmul a b = F at *
  clear ha hb
  have M := Lib.hid (fun W => mul64 x y W x0 (by omega) y0 (by omega))
  have hP : 0 ≤ x * y := Int.mul_nonneg x0 y0
  have hPm : x * y ≤ 9223372036854775807 * 9223372036854775807 := Int.mul_le_mul x1 y1 y0 (by omega)
  generalize x * y = P at *
  have h3 : (p != q) = !(p == q) := rfl
  rw [h3] at h1 h2
  by_cases hg : 9223372036854775808 * 65536 ≤ P
  · have HF := Lib.hid (h2 hg)
    have d1 : (P / 18446744073709551616 / 32768 != 0) = true := by rw [bne_iff_ne]; omega
    have S := Lib.hid (fun W => fix_signed 0 true (!(p == q)) W (by omega))
    clear h1 h2 h3 hg
    go_enter Try.func26, Try.ntmps26
    go_wp2_with fail
    refine Calls.mono (NA.out _) ?_
    rintro e w1 ⟨rfl, rfl⟩
    go_wp2_with fail
    refine Calls.mono (NB.out _) ?_
    rintro e w1 ⟨rfl, rfl⟩
    go_wp2_with fail
    refine Calls.mono (M.out _) ?_
    rintro e w1 ⟨rfl, rfl⟩
    go_wp2_with fail
    refine Calls.mono (S.out _) ?_
    rintro e w1 ⟨rfl, rfl⟩
    go_wp2
    go_ret
    exact ⟨by rw [HF.out]; rfl, rfl⟩
  · have HF := Lib.hid h1
    have d1 : (P / 18446744073709551616 / 32768 != 0) = false := by rw [bne_eq_false_iff_eq]; omega
    have D := fun W => fix_down (P / 65536) (P % 65536) (!(p == q)) W (by omega) (by omega)
    rw [← mul_rest P hP] at D
    have HJ := Lib.hid (mul_join P hP (by omega))
    rw [← HJ.out] at D
    have D := Lib.hid D
    have S := fun W => fix_signed (dn (P / 65536) (P % 65536) (!(p == q))) false (!(p == q)) W (by unfold dn; split <;> omega)
    rw [← mul_rest P hP, ← HJ.out] at S HF
    have S := Lib.hid S
    clear h1 h2 h3 hg HJ
    go_enter Try.func26, Try.ntmps26
    go_wp2_with fail
    refine Calls.mono (NA.out _) ?_
    rintro e w1 ⟨rfl, rfl⟩
    go_wp2_with fail
    refine Calls.mono (NB.out _) ?_
    rintro e w1 ⟨rfl, rfl⟩
    go_wp2_with fail
    refine Calls.mono (M.out _) ?_
    rintro e w1 ⟨rfl, rfl⟩
    go_wp2_with fail
    refine Calls.mono (D.out _) ?_
    rintro e w1 ⟨rfl, rfl⟩
    go_wp2_with fail
    refine Calls.mono (S.out _) ?_
    rintro e w1 ⟨rfl, rfl⟩
    go_wp2
    go_ret
    exact ⟨by rw [HF.out]; rfl, rfl⟩
end Go.Proofs.Ytpkdkkbmmkhhhaa
