/- Who is there stays there; by no speed nobody goes; two alike on both sides push nothing: plain mathematics. -/
import Derived.Test.YtjbnpgjndohjcaaApart
namespace Go.Proofs.Ytjbnpgjndohjcaa
set_option maxRecDepth 20000
set_option maxRecDepth 20000
open Go.RowKit

theorem fsub_mid17 {x y : Int} (hx0 : -576460752303423488 ≤ x) (hx1 : x ≤ 576460752303423488) (hy0 : -576460752303423488 ≤ y) (hy1 : y ≤ 576460752303423488) : fsub x y = x - y := by
  unfold fsub fneg fadd
  rw [nrm_id (a := y) (by omega), nrm_id (a := x) (by omega), nrm_id (a := -y) (by omega), clp_id (by omega) (by omega)]
  omega
theorem mag_sq18 {x : Int} (h : -9223372036854775807 ≤ x) : mag x * mag x = x * x := by
  unfold mag
  rw [nrm_id h]
  split
  · rw [Int.neg_mul_neg]
  · rfl
theorem sq_small17 {x : Int} (h0 : -65536 ≤ x) (h1 : x ≤ 65536) : 0 ≤ x * x ∧ x * x ≤ 4294967296 := by
  by_cases hx : 0 ≤ x
  · have := sq_le hx h1
    exact ⟨Int.mul_nonneg hx hx, by omega⟩
  · have := sq_le (a := -x) (b := 65536) (by omega) (by omega)
    have h3 := Int.mul_nonneg (a := -x) (b := -x) (by omega) (by omega)
    rw [Int.neg_mul_neg] at this h3
    exact ⟨h3, by omega⟩
theorem sq2_small {x y : Int} (hx0 : -65536 ≤ x) (hy0 : -65536 ≤ y) : sq2 x y = x * x + y * y := by
  unfold sq2; rw [mag_sq18 (by omega), mag_sq18 (by omega)]
theorem len_small17 {x y : Int} (hx0 : -65536 ≤ x) (hx1 : x ≤ 65536) (hy0 : -65536 ≤ y) (hy1 : y ≤ 65536) :
    0 ≤ vlen x y ∧ vlen x y ≤ 131072 ∧ x * x + y * y < (vlen x y + 1) * (vlen x y + 1) := by
  obtain ⟨a0, a1⟩ := sq_small17 hx0 hx1
  obtain ⟨b0, b1⟩ := sq_small17 hy0 hy1
  have e := sq2_small hx0 hy0
  have h := root_spec (W := sq2 x y) (by omega)
  unfold vlen
  rw [e] at h ⊢
  obtain ⟨h0, h1, h2, h3⟩ := h
  have h4 : rootF (x * x + y * y) ≤ 131072 := by
    by_cases hc : rootF (x * x + y * y) ≤ 131072
    · exact hc
    · have := sq_le (a := 131073) (b := rootF (x * x + y * y)) (by omega) (by omega)
      omega
  refine ⟨h0, h4, ?_⟩
  rcases h3 with h3 | h3
  · omega
  · exact h3
theorem clamp_none {x y : Int} (hx0 : -65536 ≤ x) (hx1 : x ≤ 65536) (hy0 : -65536 ≤ y) (hy1 : y ≤ 65536) {k : Int} (hk : k ≤ 0) : clampV x y k = (0, 0) := by
  have nx : nrm x = x := nrm_id (by omega)
  have ny : nrm y = y := nrm_id (by omega)
  have hm : mostV k = 0 := by unfold mostV; omega
  obtain ⟨l0, l1, l2⟩ := len_small17 hx0 hx1 hy0 hy1
  unfold clampV
  rw [nx, ny, hm]
  by_cases hl : vlen x y ≤ 0
  · rw [if_pos hl]
    have e : vlen x y = 0 := by omega
    rw [e] at l2
    obtain ⟨a0, _⟩ := sq_small17 hx0 hx1
    obtain ⟨b0, _⟩ := sq_small17 hy0 hy1
    have hx : x * x = 0 := by omega
    have hy : y * y = 0 := by omega
    rw [show x = 0 by rcases Int.mul_eq_zero.1 hx with h | h <;> exact h, show y = 0 by rcases Int.mul_eq_zero.1 hy with h | h <;> exact h]
  · rw [if_neg hl]
    unfold partV
    rw [Int.mul_zero, Int.mul_zero, Int.zero_ediv]
    unfold sgn
    refine Prod.ext ?_ ?_
    · show (if isNeg x = true then -(0 : Int) else 0) = 0; split <;> rfl
    · show (if isNeg y = true then -(0 : Int) else 0) = 0; split <;> rfl
theorem mag_neg17 {x : Int} (h0 : -9223372036854775807 ≤ x) (h1 : x ≤ 9223372036854775807) : mag (-x) = mag x := by
  unfold mag
  rw [nrm_id h0, nrm_id (a := -x) (by omega)]
  split <;> split <;> omega
theorem part_neg {c m n : Int} (h0 : -65536 ≤ c) (h1 : c ≤ 65536) : partV (-c) m n = -partV c m n := by
  unfold partV
  rw [mag_neg17 (by omega) (by omega)]
  by_cases hz : c = 0
  · subst hz
    have : mag 0 = 0 := rfl
    rw [this, Int.zero_mul, Int.zero_ediv]
    rfl
  · generalize mag c * m / n = q
    unfold sgn isNeg
    rw [nrm_id (a := -c) (by omega), nrm_id (a := c) (by omega)]
    by_cases hn : c < 0
    · rw [decide_eq_true hn, decide_eq_false (show ¬ -c < 0 by omega)]; simp
    · rw [decide_eq_false hn, decide_eq_true (show -c < 0 by omega)]; simp
theorem clamp_neg {x y k : Int} (hx0 : -65536 ≤ x) (hx1 : x ≤ 65536) (hy0 : -65536 ≤ y) (hy1 : y ≤ 65536) : clampV (-x) (-y) k = (-(clampV x y k).1, -(clampV x y k).2) := by
  have nx : nrm x = x := nrm_id (by omega)
  have ny : nrm y = y := nrm_id (by omega)
  have mx : nrm (-x) = -x := nrm_id (by omega)
  have my : nrm (-y) = -y := nrm_id (by omega)
  have hl : vlen (-x) (-y) = vlen x y := by
    unfold vlen sq2; rw [mag_neg17 (by omega) (by omega), mag_neg17 (by omega) (by omega)]
  unfold clampV
  rw [nx, ny, mx, my, hl]
  split
  · rfl
  · rw [part_neg hx0 hx1, part_neg hy0 hy1]
theorem still_tow {x y k : Int} (hx0 : -288230376151711744 ≤ x) (hx1 : x ≤ 288230376151711744) (hy0 : -288230376151711744 ≤ y) (hy1 : y ≤ 288230376151711744) : towV x y x y k = (0, 0) := by
  unfold towV
  rw [fsub_mid17 (by omega) (by omega) (by omega) (by omega), fsub_mid17 (by omega) (by omega) (by omega) (by omega), Int.sub_self, Int.sub_self]
  unfold clampV
  have hv : vlen (nrm 0) (nrm 0) = 0 := by decide +kernel
  rw [hv, if_pos (by unfold mostV; omega)]
  rfl
theorem slow_tow {x y dx dy k : Int} (hx0 : -288230376151711744 ≤ x) (hx1 : x ≤ 288230376151711744) (hy0 : -288230376151711744 ≤ y) (hy1 : y ≤ 288230376151711744) (a0 : -65536 ≤ dx) (a1 : dx ≤ 65536) (b0 : -65536 ≤ dy) (b1 : dy ≤ 65536) (hk : k ≤ 0) : towV x y (x + dx) (y + dy) k = (0, 0) := by
  unfold towV
  rw [fsub_mid17 (by omega) (by omega) (by omega) (by omega), fsub_mid17 (by omega) (by omega) (by omega) (by omega), show x + dx - x = dx by omega, show y + dy - y = dy by omega]
  exact clamp_none a0 a1 b0 b1 hk
theorem near_yes17 {x y dx dy : Int} (hx0 : -288230376151711744 ≤ x) (hx1 : x ≤ 288230376151711744) (hy0 : -288230376151711744 ≤ y) (hy1 : y ≤ 288230376151711744) (a0 : -65536 ≤ dx) (a1 : dx ≤ 65536) (b0 : -65536 ≤ dy) (b1 : dy ≤ 65536) : vwithin x y (x + dx) (y + dy) 262144 = true := by
  unfold vwithin
  rw [fsub_mid17 (by omega) (by omega) (by omega) (by omega), fsub_mid17 (by omega) (by omega) (by omega) (by omega), show x - (x + dx) = -dx by omega, show y - (y + dy) = -dy by omega, sq2_small (by omega) (by omega)]
  obtain ⟨c0, c1⟩ := sq_small17 (x := -dx) (by omega) (by omega)
  obtain ⟨d0, d1⟩ := sq_small17 (x := -dy) (by omega) (by omega)
  exact decide_eq_true ⟨by omega, by omega⟩
theorem push_is {x y dx dy : Int} (hx0 : -288230376151711744 ≤ x) (hx1 : x ≤ 288230376151711744) (hy0 : -288230376151711744 ≤ y) (hy1 : y ≤ 288230376151711744) (a0 : -65536 ≤ dx) (a1 : dx ≤ 65536) (b0 : -65536 ≤ dy) (b1 : dy ≤ 65536) (hd : ¬ (dx = 0 ∧ dy = 0)) : pushV x y 262144 (x + dx) (y + dy) = clampV (-dx) (-dy) (fsub 262144 (vlen dx dy)) := by
  have hl : vlen (-dx) (-dy) = vlen dx dy := by
    unfold vlen sq2; rw [mag_neg17 (by omega) (by omega), mag_neg17 (by omega) (by omega)]
  unfold pushV
  rw [fsub_mid17 (by omega) (by omega) (by omega) (by omega), fsub_mid17 (by omega) (by omega) (by omega) (by omega), show x - (x + dx) = -dx by omega, show y - (y + dy) = -dy by omega, if_neg (by omega), hl]
theorem fadd_zero17 {z : Int} (h0 : -9223372036854775807 ≤ z) (h1 : z ≤ 9223372036854775807) : fadd 0 z = z := by
  unfold fadd; rw [nrm_id h0, show nrm 0 = 0 from rfl, Int.zero_add, clp_id h0 h1]
theorem fadd_back17 {z : Int} (h0 : -9223372036854775807 ≤ z) (h1 : z ≤ 9223372036854775807) : fadd (-z) z = 0 := by
  unfold fadd; rw [nrm_id h0, nrm_id (a := -z) (by omega), show -z + z = 0 by omega]; rfl
/-- Two that stand alike on both sides push nothing. -/
theorem pair_none {x y dx dy : Int} (hx0 : -288230376151711744 ≤ x) (hx1 : x ≤ 288230376151711744) (hy0 : -288230376151711744 ≤ y) (hy1 : y ≤ 288230376151711744) (a0 : -65536 ≤ dx) (a1 : dx ≤ 65536) (b0 : -65536 ≤ dy) (b1 : dy ≤ 65536) (hd : ¬ (dx = 0 ∧ dy = 0)) :
    apV x y 262144 [(x + dx, y + dy), (x - dx, y - dy)] = (0, 0) := by
  have p1 := push_is hx0 hx1 hy0 hy1 a0 a1 b0 b1 hd
  have p2 := push_is (dx := -dx) (dy := -dy) hx0 hx1 hy0 hy1 (by omega) (by omega) (by omega) (by omega) (by omega)
  have w1 := near_yes17 hx0 hx1 hy0 hy1 a0 a1 b0 b1
  have w2 := near_yes17 (dx := -dx) (dy := -dy) hx0 hx1 hy0 hy1 (by omega) (by omega) (by omega) (by omega)
  have hl : vlen (-dx) (-dy) = vlen dx dy := by
    unfold vlen sq2; rw [mag_neg17 (by omega) (by omega), mag_neg17 (by omega) (by omega)]
  rw [hl, Int.neg_neg, Int.neg_neg] at p2
  rw [clamp_neg a0 a1 b0 b1] at p1
  rw [show x + -dx = x - dx by omega, show y + -dy = y - dy by omega] at p2 w2
  have r1 := clampV_range (x := dx) (y := dy) (k := fsub 262144 (vlen dx dy)) (by omega) (by omega) (fsub_range _ _).2
  have r2 := clampV_range (x := -dx) (y := -dy) (k := fsub 262144 (vlen dx dy)) (by omega) (by omega) (fsub_range _ _).2
  rw [clamp_neg a0 a1 b0 b1] at r2
  generalize clampV dx dy (fsub 262144 (vlen dx dy)) = C at *
  obtain ⟨c1, c2⟩ := C
  simp only at r1 r2 p1 p2
  show stepV x y 262144 (stepV x y 262144 (0, 0) (x + dx, y + dy)) (x - dx, y - dy) = (0, 0)
  have s1 : stepV x y 262144 (0, 0) (x + dx, y + dy) = (-c1, -c2) := by
    unfold stepV
    rw [if_pos w1, p1]
    exact Prod.ext (fadd_zero17 (by omega) (by omega)) (fadd_zero17 (by omega) (by omega))
  rw [s1]
  unfold stepV
  rw [if_pos w2, p2]
  exact Prod.ext (fadd_back17 (by omega) (by omega)) (fadd_back17 (by omega) (by omega))
/-- Two on one spot are pushed the same way. -/
theorem spot_is {x y : Int} (hx0 : -288230376151711744 ≤ x) (hx1 : x ≤ 288230376151711744) (hy0 : -288230376151711744 ≤ y) (hy1 : y ≤ 288230376151711744) : apV x y 262144 [(x, y)] = (65536, 0) := by
  have w1 := near_yes17 (dx := 0) (dy := 0) hx0 hx1 hy0 hy1 (by omega) (by omega) (by omega) (by omega)
  rw [Int.add_zero, Int.add_zero] at w1
  have p1 : pushV x y 262144 x y = (65536, 0) := by
    unfold pushV
    rw [fsub_mid17 (by omega) (by omega) (by omega) (by omega), fsub_mid17 (by omega) (by omega) (by omega) (by omega), Int.sub_self, Int.sub_self, if_pos ⟨rfl, rfl⟩]
    decide +kernel
  show stepV x y 262144 (0, 0) (x, y) = (65536, 0)
  unfold stepV
  rw [if_pos w1, p1]
  rfl
end Go.Proofs.Ytjbnpgjndohjcaa
