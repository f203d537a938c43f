/- Whether a disc meets a tile: the page's answer, and that it is the code's. -/
import Derived.Test.YtjbnpgjndohjcaaDiscMeet
namespace Go.Proofs.Ytjbnpgjndohjcaa
set_option maxRecDepth 20000
set_option maxRecDepth 20000
open Go.RowKit

/-- How far a number is from a span. -/
def offV (x low high : Int) : Int := if x < low then low - x else if high < x then x - high else 0
theorem ref_off (x low high : Int) (w : World) (hx0 : -1099511627776 ≤ x) (hx : x ≤ 1099511627776) (h0 : 0 ≤ low) (h1 : low ≤ high) (h2 : high ≤ 1099511627776) :
    Calls Try.prog 49 #[.int .i64 x, .int .i64 low, .int .i64 high] w fun e w' => e = .returned (.int .i64 (offV x low high)) ∧ w = w' := by
  by_cases c1 : x < low
  · have HR : Hid (offV x low high = low - x) := if_pos c1
    go_enter Try.func49, Try.ntmps49
    go_wp2
    go_ret
    exact ⟨by rw [HR.out]; rfl, rfl⟩
  by_cases c2 : high < x
  · have HR : Hid (offV x low high = x - high) := by show _ = _; unfold offV; rw [if_neg c1, if_pos c2]
    go_enter Try.func49, Try.ntmps49
    go_wp2
    go_ret
    exact ⟨by rw [HR.out]; rfl, rfl⟩
  have HR : Hid (offV x low high = 0) := by show _ = _; unfold offV; rw [if_neg c1, if_neg c2]
  go_enter Try.func49, Try.ntmps49
  go_wp2
  go_ret
  exact ⟨by rw [HR.out]; rfl, rfl⟩
theorem offV_range {x low : Int} (hx0 : -1099511627776 ≤ x) (hx : x ≤ 1099511627776) (h0 : 0 ≤ low) (h2 : low ≤ 1073741824) : 0 ≤ offV x low (low + 65536) ∧ offV x low (low + 65536) ≤ 1100585369600 := by
  unfold offV; split
  · omega
  · split <;> omega
theorem off_sq {x low : Int} : (x - min (max x low) (low + 65536)) * (x - min (max x low) (low + 65536)) = offV x low (low + 65536) * offV x low (low + 65536) := by
  unfold offV
  by_cases c1 : x < low
  · rw [if_pos c1, show min (max x low) (low + 65536) = low by omega, ← Int.neg_mul_neg, show -(x - low) = low - x by omega]
  · rw [if_neg c1]
    by_cases c2 : low + 65536 < x
    · rw [if_pos c2, show min (max x low) (low + 65536) = low + 65536 by omega]
    · rw [if_neg c2, show min (max x low) (low + 65536) = x by omega, Int.sub_self]
theorem mag_sq17 {x : Int} (h : -9223372036854775807 ≤ x) : mag x * mag x = x * x := by
  unfold mag
  rw [nrm_id h]
  split
  · rw [Int.neg_mul_neg]
  · rfl
theorem fsub17 {x y : Int} (hx0 : -1099511627776 ≤ x) (hx1 : x ≤ 1099511627776) (hy0 : -1099511627776 ≤ y) (hy1 : y ≤ 1099511627776) : fsub x y = x - y := by
  unfold fsub fneg fadd
  rw [nrm_id (a := y) (by omega), nrm_id (a := x) (by omega), nrm_id (a := -y) (by omega), clp_id (by omega) (by omega)]
  omega
/-- Whether a disc meets a tile, the page's way. -/
def refB (W t x y r : Int) : Bool := decide (offV x (t % W * 65536) (t % W * 65536 + 65536) < r ∧ offV y (t / W * 65536) (t / W * 65536 + 65536) < r ∧ offV x (t % W * 65536) (t % W * 65536 + 65536) * offV x (t % W * 65536) (t % W * 65536 + 65536) + offV y (t / W * 65536) (t / W * 65536 + 65536) * offV y (t / W * 65536) (t / W * 65536 + 65536) < r * r)
theorem hits_ref {W t x y r : Int} (h1 : 1 ≤ W) (h2 : W ≤ 128) (t0 : 0 ≤ t) (t1 : t < 16384) (hx0 : -1099511627776 ≤ x) (hx : x ≤ 1099511627776) (hy0 : -1099511627776 ≤ y) (hy : y ≤ 1099511627776) : hitsB W t x y r = refB W t x y r := by
  have x0 : 0 ≤ t % W := Int.emod_nonneg _ (by omega)
  have x1 : t % W < W := Int.emod_lt_of_pos _ (by omega)
  have y0 : 0 ≤ t / W := Int.ediv_nonneg t0 (by omega)
  have y1 : t / W ≤ t := Int.ediv_le_self _ t0
  unfold hitsB refB vwithin
  generalize t % W = tx at *
  generalize t / W = ty at *
  rw [fsub17 hx0 hx (by omega) (by omega), fsub17 hy0 hy (by omega) (by omega)]
  unfold sq2
  rw [mag_sq17 (by omega), mag_sq17 (by omega), off_sq, off_sq]
  obtain ⟨a0, a1⟩ := offV_range (x := x) (low := tx * 65536) hx0 hx (by omega) (by omega)
  obtain ⟨b0, b1⟩ := offV_range (x := y) (low := ty * 65536) hy0 hy (by omega) (by omega)
  generalize offV x (tx * 65536) (tx * 65536 + 65536) = a at *
  generalize offV y (ty * 65536) (ty * 65536 + 65536) = b at *
  have aa : 0 ≤ a * a := Int.mul_nonneg a0 a0
  have bb : 0 ≤ b * b := Int.mul_nonneg b0 b0
  refine decide_eq_decide.2 ⟨fun ⟨g1, g2⟩ => ⟨?_, ?_, g2⟩, fun ⟨g1, g2, g3⟩ => ⟨by omega, g3⟩⟩
  · by_cases hc : a < r
    · exact hc
    · have := sq_le (a := r) (b := a) (by omega) (by omega)
      omega
  · by_cases hc : b < r
    · exact hc
    · have := sq_le (a := r) (b := b) (by omega) (by omega)
      omega

set_option maxHeartbeats 1600000 in
theorem ref_meets (W H t x y r : Int) (A : Option Addr) (n c : Nat) (w : World) (h1 : 1 ≤ W) (h2 : W ≤ 128) (t0 : 0 ≤ t) (t1 : t < 16384) (hx0 : -1099511627776 ≤ x) (hx : x ≤ 1099511627776) (hy0 : -1099511627776 ≤ y) (hy : y ≤ 1099511627776) (hr0 : 0 ≤ r) (hr : r ≤ 262144) :
    Calls Try.prog 18 #[.agg #[.int .i64 W, .int .i64 H, .slice A n c], .int .i64 t, .agg #[.int .i64 x, .int .i64 y], .int .i64 r] w fun e w' => e = .returned (.bool (refB W t x y r)) ∧ Below w.heap.size w w' := by
  have x0 : 0 ≤ t % W := Int.emod_nonneg _ (by omega)
  have x1 : t % W < W := Int.emod_lt_of_pos _ (by omega)
  have y0 : 0 ≤ t / W := Int.ediv_nonneg t0 (by omega)
  have y1 : t / W ≤ t := Int.ediv_le_self _ t0
  have O1 := fun W' => ref_off x (t % W * 65536) (t % W * 65536 + 65536) W' hx0 hx (by omega) (by omega) (by omega)
  have O2 := fun W' => ref_off y (t / W * 65536) (t / W * 65536 + 65536) W' hy0 hy (by omega) (by omega) (by omega)
  have HR : refB W t x y r = decide (offV x (t % W * 65536) (t % W * 65536 + 65536) < r ∧ offV y (t / W * 65536) (t / W * 65536 + 65536) < r ∧ offV x (t % W * 65536) (t % W * 65536 + 65536) * offV x (t % W * 65536) (t % W * 65536 + 65536) + offV y (t / W * 65536) (t / W * 65536 + 65536) * offV y (t / W * 65536) (t / W * 65536 + 65536) < r * r) := rfl
  obtain ⟨a0, a1⟩ := offV_range (x := x) (low := t % W * 65536) hx0 hx (by omega) (by omega)
  obtain ⟨b0, b1⟩ := offV_range (x := y) (low := t / W * 65536) hy0 hy (by omega) (by omega)
  generalize offV x (t % W * 65536) (t % W * 65536 + 65536) = a at *
  generalize offV y (t / W * 65536) (t / W * 65536 + 65536) = b at *
  generalize refB W t x y r = B at *
  have HRR := Lib.hid HR
  clear HR
  have hw0 : ¬ W = 0 := by omega
  have e1 : IntKind.i64.wrap (t % W * 65536) = t % W * 65536 := IntWalk.i64_in _ (by omega)
  have e2 : IntKind.i64.wrap (t / W * 65536) = t / W * 65536 := IntWalk.i64_in _ (by omega)
  have e3 : wrap64 (t % W * 65536) = t % W * 65536 := IntWalk.wrap64_in _ (by omega)
  have e4 : wrap64 (t / W * 65536) = t / W * 65536 := IntWalk.wrap64_in _ (by omega)
  have B0 : Below w.heap.size w ((w.alloc (.cells #[.int .i64 W, .int .i64 H, .slice A n c] 24)).alloc (.cells #[.int .i64 x, .int .i64 y] 35)) := two_below _ _ _
  have Qp := BoxQ.start (w.alloc (.cells #[.int .i64 W, .int .i64 H, .slice A n c] 24)) x y
  rw [show (w.alloc (.cells #[.int .i64 W, .int .i64 H, .slice A n c] 24)).heap.size = w.heap.size + 1 by simp] at Qp
  go_enter Try.func18, Try.ntmps18
  go_wp2_with fail
  go_quiet (fail)
  have Qp2 := Qp.next (below_drewN (Below.refl _ _) nq)
  have B1 := below_drewN B0 nq
  clear Qp B0
  go_wp2_with fail
  generalize ((w.alloc (.cells #[.int .i64 W, .int .i64 H, .slice A n c] 24)).alloc (.cells #[.int .i64 x, .int .i64 y] 35)).drewN nq = w1 at *
  obtain ⟨p0, p1, p2, p3⟩ := id Qp2
  have e5 : IntKind.i64.wrap (t % W * 65536 + 65536) = t % W * 65536 + 65536 := IntWalk.i64_in _ (by omega)
  have e6 : IntKind.i64.wrap (t / W * 65536 + 65536) = t / W * 65536 + 65536 := IntWalk.i64_in _ (by omega)
  have e7 : wrap64 (t % W * 65536 + 65536) = t % W * 65536 + 65536 := IntWalk.wrap64_in _ (by omega)
  have e8 : wrap64 (t / W * 65536 + 65536) = t / W * 65536 + 65536 := IntWalk.wrap64_in _ (by omega)
  have O1 := Lib.hid (fun u => calls_over_same (x := u) (O1 (over w1 u)))
  have O2 := Lib.hid (fun u => calls_over_same (x := u) (O2 (over w1 u)))
  refine wp_region_over (by kernel_rfl) (by kernel_rfl) ?_
  repeat (go_big_quiet_step (first | (go_at_call 49; (try simp only [e7, e8]); with_reducible (first | exact O1.out _ | exact O2.out _))))
  refine wpQuiet_nil ?_
  rintro wq ⟨xq, rfl⟩
  have hq := over_below w1 xq
  generalize over w1 xq = wq at *
  have B2 := B1.trans (hq.mono B1.size)
  clear e1 e2 e3 e4 e5 e6 e7 e8 p0 p1 p2 p3 Qp2 hq O1 O2
  by_cases ha : a < r
  · by_cases hb : b < r
    · have q1 := sq_le (a := a) (b := 262144) a0 (by omega)
      have q2 := sq_le (a := b) (b := 262144) b0 (by omega)
      have q3 := sq_le (a := r) (b := 262144) hr0 hr
      have q4 : 0 ≤ a * a := Int.mul_nonneg a0 a0
      have q5 : 0 ≤ b * b := Int.mul_nonneg b0 b0
      have q6 : 0 ≤ r * r := Int.mul_nonneg hr0 hr0
      have f1 : wrap64 (a * a) = a * a := IntWalk.wrap64_in _ (by omega)
      have f2 : wrap64 (b * b) = b * b := IntWalk.wrap64_in _ (by omega)
      have f3 : wrap64 (r * r) = r * r := IntWalk.wrap64_in _ (by omega)
      have f4 : wrap64 (a * a + b * b) = a * a + b * b := IntWalk.wrap64_in _ (by omega)
      have HB : Hid (B = decide (a * a + b * b < r * r)) := by
        show _ = _
        rw [HRR.out]
        exact decide_eq_decide.2 ⟨fun h => h.2.2, fun h => ⟨ha, hb, h⟩⟩
      go_wp2
      go_ret
      exact ⟨by rw [HB.out]; rfl, B2⟩
    · have HB : Hid (B = false) := by show _ = _; rw [HRR.out]; exact decide_eq_false (fun h => hb h.2.1)
      have d : decide (b < r) = false := decide_eq_false hb
      go_wp2
      go_ret
      exact ⟨by rw [HB.out]; rfl, B2⟩
  · have HB : Hid (B = false) := by show _ = _; rw [HRR.out]; exact decide_eq_false (fun h => ha h.1)
    go_wp2
    go_ret
    exact ⟨by rw [HB.out]; rfl, B2⟩
end Go.Proofs.Ytjbnpgjndohjcaa
