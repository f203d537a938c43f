/- The page's wide numbers: products by halves, sums, order. -/
import Derived.Test.YtpkdkkbmmkhhhaaRefMul
namespace Go.Proofs.Ytpkdkkbmmkhhhaa
set_option maxRecDepth 20000
open Go.RowKit

theorem times_join (u x0 : Int) (h0 : 0 ≤ x0) (h1 : x0 ≤ 4294967295) : bits .or .u64 (IntKind.u64.wrap (u * 4294967296)) x0 = u * 4294967296 % 18446744073709551616 + x0 := by
  rw [u64_wrap]
  have e : u * 4294967296 % 18446744073709551616 = (((u % 4294967296).toNat * 2 ^ 32 : Nat) : Int) := by omega
  obtain ⟨x, rfl⟩ := Int.eq_ofNat_of_zero_le h0
  rw [e, u64_or_nat _ _ (by omega) (by omega), Nat.mul_comm, ← Nat.two_pow_add_eq_or_of_lt (by omega)]
  simp

set_option maxHeartbeats 800000 in
set_option maxRecDepth 20000 in
theorem ref_times (a b : Int) (w : World) (h0 : 0 ≤ a) (h1 : a ≤ 18446744073709551615) (l0 : 0 ≤ b) (l1 : b ≤ 18446744073709551615) :
    Calls Try.prog 67 #[.int .u64 a, .int .u64 b] w fun e w' => e = .returned (.agg #[.int .u64 (a * b / 18446744073709551616), .int .u64 (a * b % 18446744073709551616)]) ∧ Below w.heap.size w w' := by
  have ha0 : bits .and .u64 a 4294967295 = a % 4294967296 := and_low32 a h0 (by omega)
  have hb0 : bits .and .u64 b 4294967295 = b % 4294967296 := and_low32 b l0 (by omega)
  obtain ⟨a0, ea0⟩ : ∃ x, a % 4294967296 = x := ⟨_, rfl⟩
  obtain ⟨b0, eb0⟩ : ∃ x, b % 4294967296 = x := ⟨_, rfl⟩
  obtain ⟨a1, ea1⟩ : ∃ x, a / 4294967296 = x := ⟨_, rfl⟩
  obtain ⟨b1, eb1⟩ : ∃ x, b / 4294967296 = x := ⟨_, rfl⟩
  have r1 : 0 ≤ a0 ∧ a0 ≤ 4294967295 := by omega
  have r2 : 0 ≤ b0 ∧ b0 ≤ 4294967295 := by omega
  have r3 : 0 ≤ a1 ∧ a1 ≤ 4294967295 := by omega
  have r4 : 0 ≤ b1 ∧ b1 ≤ 4294967295 := by omega
  have p1 := prod_bound a0 b0 r1.1 r1.2 r2.1 r2.2
  have p2 := prod_bound a1 b0 r3.1 r3.2 r2.1 r2.2
  have p3 := prod_bound a0 b1 r1.1 r1.2 r4.1 r4.2
  have p4 := prod_bound a1 b1 r3.1 r3.2 r4.1 r4.2
  have ea : a = a1 * 4294967296 + a0 := by omega
  have eb : b = b1 * 4294967296 + b0 := by omega
  have HAB : Hid (a * b = a1 * b1 * 18446744073709551616 + (a1 * b0 + a0 * b1) * 4294967296 + a0 * b0) := by
    show _ = _
    rw [ea, eb]; exact split_mul a1 a0 b1 b0
  rw [ea0] at ha0
  rw [eb0] at hb0
  clear ea eb
  have hx0 := and_low32 (a0 * b0) p1.1 (by omega)
  have hy0 := and_low32 (a1 * b0 + a0 * b0 / 4294967296) (by omega) (by omega)
  obtain ⟨x0, ex0⟩ : ∃ x, a0 * b0 % 4294967296 = x := ⟨_, rfl⟩
  obtain ⟨y0, ey0⟩ : ∃ x, (a1 * b0 + a0 * b0 / 4294967296) % 4294967296 = x := ⟨_, rfl⟩
  rw [ex0] at hx0
  rw [ey0] at hy0
  have rx : 0 ≤ x0 ∧ x0 ≤ 4294967295 := by omega
  have ry : 0 ≤ y0 ∧ y0 ≤ 4294967295 := by omega
  have hL := times_join (a0 * b1 + y0) x0 rx.1 rx.2
  have HB : a1 * b1 + (a1 * b0 + a0 * b0 / 4294967296) / 4294967296 + (a0 * b1 + y0) / 4294967296 ≤ 18446744073709551615 := by omega
  have HHI : Hid (a * b / 18446744073709551616 = a1 * b1 + (a1 * b0 + a0 * b0 / 4294967296) / 4294967296 + (a0 * b1 + y0) / 4294967296) := by
    show _ = _
    have := HAB.out
    omega
  have HLO : Hid (a * b % 18446744073709551616 = (a0 * b1 + y0) * 4294967296 % 18446744073709551616 + x0) := by
    show _ = _
    have := HAB.out
    omega
  clear ex0 ey0 ea0 eb0
  obtain ⟨LL, eL⟩ : ∃ x, (a0 * b1 + y0) * 4294967296 % 18446744073709551616 + x0 = x := ⟨_, rfl⟩
  rw [eL] at hL HLO
  clear eL
  go_enter Try.func67, Try.ntmps67
  go_wp2
  refine bodyPost_ret (v := .agg #[.int .u64 (a1 * b1 + (a1 * b0 + a0 * b0 / 4294967296) / 4294967296 + (a0 * b1 + y0) / 4294967296), .int .u64 LL]) (by simp [results, Try.results67, go_sem]) rfl ⟨?_, ?_⟩
  · rw [HHI.out, HLO.out]
  · exact (Below.refl _ _).alloc (Nat.le_refl _) _
end Go.Proofs.Ytpkdkkbmmkhhhaa
