/- Whether two places are nearer than a number: vec.Within and the page's own. -/
import Derived.Test.YtpkdkkbmmkhhhaaVecLaw
namespace Go.Proofs.Ytpkdkkbmmkhhhaa
set_option maxRecDepth 20000
open Go.RowKit

/-- Whether two places are nearer than r. -/
def vwithin (x y p q r : Int) : Bool := decide (0 < r ∧ sq2 (fsub x p) (fsub y q) < r * r)
theorem fsub_range (x p : Int) : -9223372036854775807 ≤ fsub x p ∧ fsub x p ≤ 9223372036854775807 := fadd_range _ _
theorem sq_below {r : Int} (h0 : 0 ≤ r) (h1 : r ≤ 9223372036854775807) : 0 ≤ r * r ∧ r * r ≤ 85070591730234615847396907784232501249 :=
  ⟨Int.mul_nonneg h0 h0, Int.le_trans (sq_le h0 h1) (by decide)⟩
theorem less_split {S R : Int} : lessW (S / 18446744073709551616) (S % 18446744073709551616) (R / 18446744073709551616) (R % 18446744073709551616) = decide (S < R) := by
  rw [lessW_eq (by omega) (by omega) (by omega) (by omega), show S / 18446744073709551616 * 18446744073709551616 + S % 18446744073709551616 = S by omega, show R / 18446744073709551616 * 18446744073709551616 + R % 18446744073709551616 = R by omega]

set_option maxHeartbeats 800000 in
theorem vec_within (x y p q r : Int) (w : World) (hx : x ≤ 9223372036854775807) (hy : y ≤ 9223372036854775807) (hp : p ≤ 9223372036854775807) (hq : q ≤ 9223372036854775807) (hr : r ≤ 9223372036854775807) :
    Calls Try.prog 31 #[.agg #[.int .i64 x, .int .i64 y], .agg #[.int .i64 p, .int .i64 q], .int .i64 r] w fun e w' => e = .returned (.bool (vwithin x y p q r)) ∧ Below w.heap.size w w' := by
  by_cases h0 : r ≤ 0
  · have HV : Hid (vwithin x y p q r = false) := decide_eq_false (by omega)
    generalize vwithin x y p q r = V at *
    go_enter Try.func31, Try.ntmps31
    go_wp2
    go_ret
    exact ⟨by rw [HV.out]; rfl, two_below _ _ _⟩
  · have h1 : 0 < r := by omega
    have HV : Hid (vwithin x y p q r = lessW (sq2 (fsub x p) (fsub y q) / 18446744073709551616) (sq2 (fsub x p) (fsub y q) % 18446744073709551616) (r * r / 18446744073709551616) (r * r % 18446744073709551616)) := by
      show _ = _
      rw [less_split]; unfold vwithin; exact decide_eq_decide.2 ⟨fun h => h.2, fun h => ⟨h1, h⟩⟩
    have S1 := Lib.hid (fun W => vec_sub x y p q W hx hy hp hq)
    have S2 := Lib.hid (fun W => vec_square (fsub x p) (fsub y q) W (fsub_range x p).2 (fsub_range y q).2)
    have S3 := Lib.hid (fun W => fix_square r W (by omega) (by omega))
    generalize vwithin x y p q r = V at *
    generalize sq2 (fsub x p) (fsub y q) / 18446744073709551616 = SH at *
    generalize sq2 (fsub x p) (fsub y q) % 18446744073709551616 = SL at *
    generalize r * r / 18446744073709551616 = RH at *
    generalize r * r % 18446744073709551616 = RL at *
    have S4 := Lib.hid (fun W => fix_below SH SL RH RL W)
    generalize lessW SH SL RH RL = LW at *
    generalize fsub x p = a at *
    generalize fsub y q = b at *
    clear h0
    go_enter Try.func31, Try.ntmps31
    go_wp2_with fail
    refine Calls.mono (S1.out _) ?_
    rintro e w1 ⟨rfl, hb1⟩
    go_wp2_with fail
    refine Calls.mono (S2.out _) ?_
    rintro e w2 ⟨rfl, hb2⟩
    go_wp2_with fail
    refine Calls.mono (S3.out _) ?_
    rintro e w3 ⟨rfl, hb3⟩
    go_wp2_with fail
    refine Calls.mono (S4.out _) ?_
    rintro e w4 ⟨rfl, hb4⟩
    go_wp2
    go_ret
    have z1 := hb1.size
    have z2 := hb2.size
    have z3 := hb3.size
    have hb := hb1.trans ((hb2.trans ((hb3.trans (hb4.mono z3)).mono z2)).mono z1)
    exact ⟨by rw [HV.out]; rfl, (two_below _ _ _).trans (hb.mono (by simp; omega))⟩

set_option maxHeartbeats 800000 in
theorem ref_within (x y p q r : Int) (w : World) (hx : x ≤ 9223372036854775807) (hy : y ≤ 9223372036854775807) (hp : p ≤ 9223372036854775807) (hq : q ≤ 9223372036854775807) (hr : r ≤ 9223372036854775807) :
    Calls Try.prog 32 #[.agg #[.int .i64 x, .int .i64 y], .agg #[.int .i64 p, .int .i64 q], .int .i64 r] w fun e w' => e = .returned (.bool (vwithin x y p q r)) ∧ Below w.heap.size w w' := by
  have N0 := Lib.hid (fun W => ref_of r W)
  by_cases h0 : r < 0
  · have HV : Hid (vwithin x y p q r = false) := decide_eq_false (by omega)
    have hn : nrm r < 0 := by unfold nrm; split <;> omega
    generalize vwithin x y p q r = V at *
    generalize nrm r = R at *
    go_enter Try.func32, Try.ntmps32
    go_wp2_with fail
    refine Calls.mono (N0.out _) ?_
    rintro e w1 ⟨rfl, rfl⟩
    go_wp2
    go_ret
    exact ⟨by rw [HV.out]; rfl, two_below _ _ _⟩
  · have h1 : 0 ≤ r := by omega
    have hS : 0 ≤ sq2 (fsub x p) (fsub y q) := (sq2_range (fsub_range x p).2 (fsub_range y q).2).1
    have HV : Hid (vwithin x y p q r = lessW (sq2 (fsub x p) (fsub y q) / 18446744073709551616) (sq2 (fsub x p) (fsub y q) % 18446744073709551616) (r * r / 18446744073709551616) (r * r % 18446744073709551616)) := by
      show _ = _
      rw [less_split]; unfold vwithin
      refine decide_eq_decide.2 ⟨fun h => h.2, fun h => ⟨?_, h⟩⟩
      by_cases hz : r = 0
      · subst hz; omega
      · omega
    rw [nrm_id (by omega)] at N0
    have S1 := Lib.hid (fun W => ref_vsub x y p q W hx hy hp hq)
    have S2 := Lib.hid (fun W => ref_squares (fsub x p) (fsub y q) W (fsub_range x p).2 (fsub_range y q).2)
    have S3 := Lib.hid (fun W => ref_times r r W (by omega) (by omega) (by omega) (by omega))
    generalize vwithin x y p q r = V at *
    generalize sq2 (fsub x p) (fsub y q) / 18446744073709551616 = SH at *
    generalize sq2 (fsub x p) (fsub y q) % 18446744073709551616 = SL at *
    generalize r * r / 18446744073709551616 = RH at *
    generalize r * r % 18446744073709551616 = RL at *
    have S4 := Lib.hid (fun W => ref_less SH SL RH RL W)
    generalize lessW SH SL RH RL = LW at *
    clear hS
    generalize fsub x p = a at *
    generalize fsub y q = b at *
    clear h0
    go_enter Try.func32, Try.ntmps32
    go_wp2_with fail
    refine Calls.mono (N0.out _) ?_
    rintro e w1 ⟨rfl, rfl⟩
    go_wp2_with fail
    refine Calls.mono (S1.out _) ?_
    rintro e w1 ⟨rfl, hb1⟩
    go_wp2_with fail
    refine Calls.mono (S2.out _) ?_
    rintro e w2 ⟨rfl, hb2⟩
    go_wp2_with fail
    refine Calls.mono (S3.out _) ?_
    rintro e w3 ⟨rfl, hb3⟩
    go_wp2_with fail
    refine Calls.mono (S4.out _) ?_
    rintro e w4 ⟨rfl, hb4⟩
    go_wp2
    go_ret
    have z1 := hb1.size
    have z2 := hb2.size
    have z3 := hb3.size
    have hb := hb1.trans ((hb2.trans ((hb3.trans (hb4.mono z3)).mono z2)).mono z1)
    exact ⟨by rw [HV.out]; rfl, (two_below _ _ _).trans (hb.mono (by simp; omega))⟩
theorem vwithin_no (x y p q : Int) : vwithin x y p q 0 = false := decide_eq_false (by omega)
theorem fsub_self {x : Int} (hx : x ≤ 9223372036854775807) : fsub x x = 0 := by
  have := nrm_range hx
  unfold fsub fneg fadd
  rw [nrm_id (a := -(nrm x)) (by omega), show nrm x + -(nrm x) = 0 by omega]
  rfl
theorem vwithin_yes {x y : Int} (hx : x ≤ 9223372036854775807) (hy : y ≤ 9223372036854775807) : vwithin x y x y 1 = true := decide_eq_true (by
  rw [fsub_self hx, fsub_self hy]
  exact ⟨by omega, by decide⟩)
theorem vec_within_no (x y p q : Int) (w : World) (hx : x ≤ 9223372036854775807) (hy : y ≤ 9223372036854775807) (hp : p ≤ 9223372036854775807) (hq : q ≤ 9223372036854775807) :
    Calls Try.prog 31 #[.agg #[.int .i64 x, .int .i64 y], .agg #[.int .i64 p, .int .i64 q], .int .i64 0] w fun e w' => e = .returned (.bool false) ∧ Below w.heap.size w w' := by
  have := vec_within x y p q 0 w hx hy hp hq (by omega)
  rw [vwithin_no] at this
  exact this
theorem vec_within_yes (x y : Int) (w : World) (hx : x ≤ 9223372036854775807) (hy : y ≤ 9223372036854775807) :
    Calls Try.prog 31 #[.agg #[.int .i64 x, .int .i64 y], .agg #[.int .i64 x, .int .i64 y], .int .i64 1] w fun e w' => e = .returned (.bool true) ∧ Below w.heap.size w w' := by
  have := vec_within x y x y 1 w hx hy hx hy (by omega)
  rw [vwithin_yes hx hy] at this
  exact this
end Go.Proofs.Ytpkdkkbmmkhhhaa
