/- fixed's quotients, and the page's: what each computes. -/
import Derived.Test.YtpkdkkbmmkhhhaaFixLaw
import Derived.Test.YtpkdkkbmmkhhhaaDiv2
namespace Go.Proofs.Ytpkdkkbmmkhhhaa
set_option maxRecDepth 20000
open Go.RowKit

/-- A quotient, rounded down, within the bounds; by nothing: the greatest, the least, or nothing. -/
def fdiv (a b : Int) : Int := if mag b = 0 then sg 0 (decide (0 < mag a)) (isNeg a) else sg (dn (mag a * 65536 / mag b) (mag a * 65536 % mag b) (isNeg a != isNeg b)) false (isNeg a != isNeg b)

theorem sg_range (n : Int) (h s : Bool) (h0 : 0 ≤ n) : -9223372036854775807 ≤ sg n h s ∧ sg n h s ≤ 9223372036854775807 := by
  unfold sg sgn
  split <;> split <;> omega
theorem dn_nonneg {n r : Int} {s : Bool} (h0 : 0 ≤ n) : 0 ≤ dn n r s := by unfold dn; split <;> omega
theorem fdiv_range {a b : Int} (ha : a ≤ 9223372036854775807) (hb : b ≤ 9223372036854775807) : -9223372036854775807 ≤ fdiv a b ∧ fdiv a b ≤ 9223372036854775807 := by
  have h1 := mag_range ha
  have h2 := mag_range hb
  unfold fdiv
  split
  · exact sg_range _ _ _ (by omega)
  · exact sg_range _ _ _ (dn_nonneg (Int.ediv_nonneg (by omega) (by omega)))
theorem fdiv_zero {a b : Int} (h : mag b = 0) : fdiv a b = sg 0 (decide (0 < mag a)) (isNeg a) := by unfold fdiv; rw [if_pos h]
theorem fdiv_some {a b : Int} (h : mag b ≠ 0) : fdiv a b = sg (dn (mag a * 65536 / mag b) (mag a * 65536 % mag b) (isNeg a != isNeg b)) false (isNeg a != isNeg b) := by unfold fdiv; rw [if_neg h]
theorem fdiv_great {a b : Int} (h : mag b ≠ 0) (hq : 9223372036854775807 < mag a * 65536 / mag b) : fdiv a b = sg 0 true (isNeg a != isNeg b) := by
  rw [fdiv_some h, (sg_val _ _).1 (by unfold dn; split <;> omega)]
  unfold sg; rw [if_pos (.inl rfl)]

set_option maxHeartbeats 800000 in
theorem fix_div (a b : Int) (w : World) (ha : a ≤ 9223372036854775807) (hb : b ≤ 9223372036854775807) : Calls Try.prog 52 #[.int .i64 a, .int .i64 b] w fun e w' => e = .returned (.int .i64 (fdiv a b)) ∧ Below w.heap.size w w' := by
  have NA := Lib.hid (fun W => fix_abs a W ha)
  have NB := Lib.hid (fun W => fix_abs b W hb)
  have h0 := @fdiv_zero a b
  have h1 := @fdiv_some a b
  have h2 := @fdiv_great a b
  obtain ⟨x0, x1⟩ := mag_range ha
  obtain ⟨y0, y1⟩ := mag_range hb
  have h3 : (isNeg a != isNeg b) = !(isNeg a == isNeg b) := rfl
  rw [h3] at h1 h2
  clear h3
  generalize isNeg a = p at *
  generalize isNeg b = q at *
  generalize mag a = x at *
  generalize mag b = y at *
  generalize fdiv a b = F at *
  clear ha hb
  by_cases hy : y = 0
  · have HF := Lib.hid (h0 hy)
    have S := Lib.hid (fun W => fix_signed 0 (decide (0 < x)) p W (by omega))
    have d0 : (y == 0) = true := by rw [hy]; rfl
    clear h0 h1 h2 hy
    go_enter Try.func52, Try.ntmps52
    go_wp2_with fail
    refine Calls.mono (NA.out _) ?_
    rintro e w1 ⟨rfl, rfl⟩
    go_wp2_with fail
    refine Calls.mono (NB.out _) ?_
    rintro e w1 ⟨rfl, rfl⟩
    go_wp2_with fail
    refine Calls.mono (S.out _) ?_
    rintro e w1 ⟨rfl, rfl⟩
    go_wp2
    go_ret
    exact ⟨by rw [HF.out]; rfl, Below.refl _ _⟩
  · have h1 := h1 hy
    have h2 := h2 hy
    have d0 : (y == 0) = false := beq_eq_false_iff_ne.2 hy
    have hy' : 0 < y := by omega
    have he : x / 281474976710656 * 18446744073709551616 + IntKind.u64.wrap (x * 65536) = x * 65536 := sqrt_hi x
    have hlo0 : 0 ≤ IntKind.u64.wrap (x * 65536) := by rw [u64_wrap]; omega
    have hlo1 : IntKind.u64.wrap (x * 65536) ≤ 18446744073709551615 := by rw [u64_wrap]; omega
    have hqm := Int.ediv_mul_add_emod (x * 65536) y
    have hr0 := Int.emod_nonneg (x * 65536) (show y ≠ 0 by omega)
    have hr1 := Int.emod_lt_of_pos (x * 65536) hy'
    have hq0 : 0 ≤ x * 65536 / y := Int.ediv_nonneg (by omega) (by omega)
    clear h0 hy
    by_cases hg : y ≤ x / 281474976710656
    · have hbig : 9223372036854775807 < x * 65536 / y := by
        by_cases hc : 9223372036854775807 < x * 65536 / y
        · exact hc
        · have := Int.mul_le_mul_of_nonneg_right (show x * 65536 / y ≤ 9223372036854775807 by omega) (show 0 ≤ y by omega)
          omega
      have HF := Lib.hid (h2 hbig)
      have S := Lib.hid (fun W => fix_signed 0 true (!(p == q)) W (by omega))
      clear h1 h2 he hqm hr0 hr1 hq0 hbig hlo0 hlo1
      go_enter Try.func52, Try.ntmps52
      go_wp2_with fail
      refine Calls.mono (NA.out _) ?_
      rintro e w1 ⟨rfl, rfl⟩
      go_wp2_with fail
      refine Calls.mono (NB.out _) ?_
      rintro e w1 ⟨rfl, rfl⟩
      go_wp2_with fail
      refine Calls.mono (S.out _) ?_
      rintro e w1 ⟨rfl, rfl⟩
      go_wp2
      go_ret
      exact ⟨by rw [HF.out]; rfl, Below.refl _ _⟩
    · have hx48 : 0 ≤ x / 281474976710656 := by omega
      have DV := fun W => div64 (x / 281474976710656) (IntKind.u64.wrap (x * 65536)) y W hx48 (by omega) hlo0 hlo1 (by omega)
      rw [he] at DV
      have DV := Lib.hid DV
      clear he hqm hlo0 hlo1
      generalize x * 65536 / y = Q at *
      generalize x * 65536 % y = R at *
      by_cases hbig : 9223372036854775807 < Q
      · have HF := Lib.hid (h2 hbig)
        have S := Lib.hid (fun W => fix_signed 0 true (!(p == q)) W (by omega))
        clear h1 h2
        go_enter Try.func52, Try.ntmps52
        go_wp2_with fail
        refine Calls.mono (NA.out _) ?_
        rintro e w1 ⟨rfl, rfl⟩
        go_wp2_with fail
        refine Calls.mono (NB.out _) ?_
        rintro e w1 ⟨rfl, rfl⟩
        go_wp2_with fail
        refine Calls.mono (DV.out _) ?_
        rintro e w1 ⟨rfl, hb1⟩
        go_wp2_with fail
        refine Calls.mono (S.out _) ?_
        rintro e w1 ⟨rfl, rfl⟩
        go_wp2
        go_ret
        exact ⟨by rw [HF.out]; rfl, hb1⟩
      · have HF := Lib.hid h1
        have D := Lib.hid (fun W => fix_down Q R (!(p == q)) W hq0 (by omega))
        have S := Lib.hid (fun W => fix_signed (dn Q R (!(p == q))) false (!(p == q)) W (dn_nonneg hq0))
        clear h1 h2
        generalize dn Q R (!(p == q)) = Z at *
        go_enter Try.func52, Try.ntmps52
        go_wp2_with fail
        refine Calls.mono (NA.out _) ?_
        rintro e w1 ⟨rfl, rfl⟩
        go_wp2_with fail
        refine Calls.mono (NB.out _) ?_
        rintro e w1 ⟨rfl, rfl⟩
        go_wp2_with fail
        refine Calls.mono (DV.out _) ?_
        rintro e w1 ⟨rfl, hb1⟩
        go_wp2_with fail
        refine Calls.mono (D.out _) ?_
        rintro e w1 ⟨rfl, rfl⟩
        go_wp2_with fail
        refine Calls.mono (S.out _) ?_
        rintro e w1 ⟨rfl, rfl⟩
        go_wp2
        go_ret
        exact ⟨by rw [HF.out]; rfl, hb1⟩
end Go.Proofs.Ytpkdkkbmmkhhhaa
