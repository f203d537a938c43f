/- A way made not longer than most: vec's and the page's. -/
import Derived.Test.YtpkdkkbmmkhhhaaVecOps
import Derived.Test.YtpkdkkbmmkhhhaaMem
import Derived.Test.YtpkdkkbmmkhhhaaFixDiv
import Derived.Test.YtpkdkkbmmkhhhaaRefDiv
import Derived.StillTailTactics
namespace Go.Proofs.Ytpkdkkbmmkhhhaa
set_option maxRecDepth 20000
open Go.RowKit Go.WideShapes Go.ChangeShapes

/-- A part times m, divided by n. -/
def partV (c m n : Int) : Int := sgn (mag c * m / n) (isNeg c)
theorem part_range {x m n : Int} (x0 : 0 ≤ x) (x1 : x ≤ 9223372036854775807) (m0 : 0 ≤ m) (m1 : m < n) : 0 ≤ x * m ∧ 0 ≤ x * m / n ∧ x * m / n ≤ x ∧ x * m / 18446744073709551616 < n := by
  have h0 : 0 ≤ x * m := Int.mul_nonneg x0 m0
  have h1 : x * m ≤ x * n := Int.mul_le_mul_of_nonneg_left (by omega) x0
  have h2 : x * m ≤ 9223372036854775807 * m := Int.mul_le_mul_of_nonneg_right x1 m0
  refine ⟨h0, Int.ediv_nonneg h0 (by omega), ?_, by omega⟩
  have h3 := Int.ediv_le_ediv (show 0 < n by omega) h1
  rwa [Int.mul_ediv_cancel _ (show n ≠ 0 by omega)] at h3

set_option maxHeartbeats 800000 in
theorem vec_part (c m n : Int) (w : World) (hc : c ≤ 9223372036854775807) (m0 : 0 ≤ m) (m1 : m < n) (n1 : n ≤ 9223372036854775807) :
    Calls Try.prog 74 #[.int .i64 c, .int .i64 m, .int .i64 n] w fun e w' => e = .returned (.int .i64 (partV c m n)) ∧ Below w.heap.size w w' := by
  have NA := Lib.hid (fun W => fix_abs c W hc)
  obtain ⟨x0, x1⟩ := mag_range hc
  obtain ⟨p0, q0, q1, hh⟩ := part_range x0 x1 m0 m1
  have HR : Hid (partV c m n = sgn (mag c * m / n) (isNeg c)) := rfl
  have M := Lib.hid (fun W => mul64 (mag c) m W x0 (by omega) m0 (by omega))
  have D := fun W => div64 (mag c * m / 18446744073709551616) (mag c * m % 18446744073709551616) n W (by omega) hh (by omega) (by omega) (by omega)
  rw [show mag c * m / 18446744073709551616 * 18446744073709551616 + mag c * m % 18446744073709551616 = mag c * m by omega] at D
  have D := Lib.hid D
  have q2 : mag c * m / n ≤ 9223372036854775807 := by omega
  generalize partV c m n = F at *
  generalize isNeg c = p at *
  generalize mag c = x at *
  generalize x * m / n = Q at *
  generalize x * m % n = R at *
  have hi0 : 0 ≤ x * m / 18446744073709551616 := by omega
  have hi1 : x * m / 18446744073709551616 ≤ 18446744073709551615 := by omega
  have lo0 : 0 ≤ x * m % 18446744073709551616 := by omega
  have lo1 : x * m % 18446744073709551616 ≤ 18446744073709551615 := by omega
  generalize x * m / 18446744073709551616 = PH at *
  generalize x * m % 18446744073709551616 = PL at *
  clear p0 hh q1
  cases p
  all_goals
    go_enter Try.func74, Try.ntmps74
    go_wp2_with fail
    refine Calls.mono (NA.out _) ?_
    rintro e w1 ⟨rfl, rfl⟩
    go_wp2_with fail
    refine Calls.mono (M.out _) ?_
    rintro e w1 ⟨rfl, rfl⟩
    go_wp2_with fail
    refine Calls.mono (D.out _) ?_
    rintro e w1 ⟨rfl, hb1⟩
    go_wp2
    go_ret
    exact ⟨by rw [HR.out]; rfl, hb1⟩

set_option maxRecDepth 20000 in
set_option maxHeartbeats 800000 in
theorem ref_part (c m n : Int) (w : World) (hc0 : -9223372036854775807 ≤ c) (hc : c ≤ 9223372036854775807) (m0 : 0 ≤ m) (m1 : m < n) (n1 : n ≤ 9223372036854775807) :
    Calls Try.prog 75 #[.int .i64 c, .int .i64 m, .int .i64 n] w fun e w' => e = .returned (.int .i64 (partV c m n)) ∧ Below w.heap.size w w' := by
  have hn : nrm c = c := nrm_id hc0
  have NA := fun W => ref_size c W hc0 hc
  rw [show (if c < 0 then -c else c) = mag c by unfold mag; rw [hn]] at NA
  obtain ⟨x0, x1⟩ := mag_range hc
  obtain ⟨p0, q0, q1, hh⟩ := part_range x0 x1 m0 m1
  have T := Lib.hid (fun W => ref_times (mag c) m W x0 (by omega) m0 (by omega))
  have O := fun W => ref_over (mag c * m / 18446744073709551616) (mag c * m % 18446744073709551616) n W (by omega) (by omega) (by omega) (by omega) (by omega) (by omega)
  rw [show mag c * m / 18446744073709551616 * 18446744073709551616 + mag c * m % 18446744073709551616 = mag c * m by omega, show overQ (mag c * m) n = mag c * m / n by unfold overQ; rw [if_neg (by omega)]] at O
  have O := Lib.hid O
  have S := fun W => ref_signed (mag c * m / n) (isNeg c) false W q0 (by omega)
  rw [show sgr (mag c * m / n) (isNeg c) false = partV c m n by unfold sgr partV; rw [if_neg (by simp), (sg_val _ _).2 (by omega)]] at S
  have S := Lib.hid S
  have NA := Lib.hid NA
  have hneg : decide (c < 0) = isNeg c := by unfold isNeg; rw [hn]
  generalize partV c m n = F at *
  generalize isNeg c = p at *
  generalize mag c = x at *
  generalize x * m / n = Q at *
  generalize decide (0 < x * m % n) = R at *
  generalize x * m / 18446744073709551616 = PH at *
  generalize x * m % 18446744073709551616 = PL at *
  clear p0 hh q1 hn
  cases p
  all_goals
    go_enter Try.func75, Try.ntmps75
    go_wp2_with fail
    refine Calls.mono (NA.out _) ?_
    rintro e w1 ⟨rfl, rfl⟩
    go_wp2_with fail
    refine Calls.mono (T.out _) ?_
    rintro e w1 ⟨rfl, hb1⟩
    go_wp2_with fail
    refine Calls.mono (O.out _) ?_
    rintro e w2 ⟨rfl, hb2⟩
    go_wp2_with fail
    refine Calls.mono (S.out _) ?_
    rintro e w3 ⟨rfl, rfl⟩
    go_wp2
    go_ret
    exact ⟨rfl, hb1.trans (hb2.mono hb1.size)⟩
end Go.Proofs.Ytpkdkkbmmkhhhaa
