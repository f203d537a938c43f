/- Is all within r steps on the ground, and open? -/
import Derived.Test.YtfgjiaakoacomaaWallMath
import Derived.Test.YtfgjiaakoacomaaBoolEq
namespace Go.Proofs.Ytfgjiaakoacomaa
set_option maxRecDepth 20000
open Go.RowKit

set_option maxHeartbeats 3200000 in
set_option maxRecDepth 20000 in
theorem full9 (W H x y r : Int) (A A2 : Option Addr) (n0 c n c2 B : Nat) (f : Nat → Bool) (b : Bool) (w : World) (hr : Reads w B 1 A2 n (bools n f)) (hB : B ≤ w.heap.size) (hW0 : 1 ≤ W) (hW1 : W ≤ 128) (hH0 : 1 ≤ H) (hH1 : H ≤ 128) (hn : (n : Int) = W * H)
    (ho : onG W H x y) (hr0 : -1 ≤ r) (hr1 : r ≤ 128) (hb : b = true ↔ (r < 0 ∨ Full W H (opP W f) x y r)) :
    Calls Try.prog 23 #[.agg #[.int .i64 W, .int .i64 H, .slice A n0 c], .slice A2 n c2, .int .i64 x, .int .i64 y, .int .i64 r] w fun e w' => e = .returned (.bool b) ∧ Below w.heap.size w w' := by
  obtain ⟨hx0, hx1, hy0, hy1⟩ := ho
  have hp := prod_range hW0 hW1 hH0 hH1
  have hG := Blk.new w #[.int .i64 W, .int .i64 H, .slice A n0 c] 24
  have hbl := (Below.refl w.heap.size w).alloc (Nat.le_refl _) (.cells #[.int .i64 W, .int .i64 H, .slice A n0 c] 24)
  have hr2 := hr.below (hbl.mono hB)
  have z0 := hG.cell (i := 0) rfl
  have z1 := hG.cell (i := 1) rfl
  by_cases h0 : r < 0
  · obtain rfl : r = -1 := by omega
    obtain rfl : b = true := hb.2 (.inl h0)
    have d1 : decide (y + 1 ≤ y + -1) = false := by simp <;> omega
    clear hb hp hn hr hr2 hG
    go_enter Try.func23, Try.ntmps23
    go_wp2_with fail
    go_loopw [11] (fun bv wr => bv = .int .i64 (y + 1) ∧ wr = w.alloc (.cells #[.int .i64 W, .int .i64 H, .slice A n0 c] 24)) (fun bv _ => 0)
    case atStart => exact ⟨by first | rfl | simp, rfl⟩
    case round =>
      obtain ⟨rfl, rfl⟩ := hrel
      have d2 : decide (y + 1 ≤ y - 1) = false := by simp; omega
      go_wp2_with fail
      go_ret
      exact ⟨rfl, hbl⟩
  have e0 : decide (0 ≤ r) = true := by simp; omega
  by_cases h1 : x - r < 0
  · obtain rfl : b = false := Bool.eq_false_iff.2 fun h => by
      rcases hb.1 h with h | h
      · omega
      · have := (h (-r) 0 (by omega) (by omega) (by omega) (by omega)).1.1; omega
    have d1 : decide (x - r < 0) = true := by simp; omega
    clear hb hp hn hr hr2 hG
    go_enter Try.func23, Try.ntmps23
    go_wp2_with fail
    go_ret
    exact ⟨rfl, hbl⟩
  have d1 : decide (x - r < 0) = false := by simp; omega
  by_cases h2 : y - r < 0
  · obtain rfl : b = false := Bool.eq_false_iff.2 fun h => by
      rcases hb.1 h with h | h
      · omega
      · have := (h 0 (-r) (by omega) (by omega) (by omega) (by omega)).1.2.2.1; omega
    have d2 : decide (y - r < 0) = true := by simp; omega
    clear hb hp hn hr hr2 hG
    go_enter Try.func23, Try.ntmps23
    go_wp2_with fail
    go_ret
    exact ⟨rfl, hbl⟩
  have d2 : decide (y - r < 0) = false := by simp; omega
  by_cases h3 : W ≤ x + r
  · obtain rfl : b = false := Bool.eq_false_iff.2 fun h => by
      rcases hb.1 h with h | h
      · omega
      · have := (h r 0 (by omega) (by omega) (by omega) (by omega)).1.2.1; omega
    have d3 : decide (W ≤ x + r) = true := by simp; omega
    clear hb hp hn hr hr2 hG
    go_enter Try.func23, Try.ntmps23
    go_wp2_with fail
    go_ret
    exact ⟨rfl, hbl⟩
  have d3 : decide (W ≤ x + r) = false := by simp; omega
  by_cases h4 : H ≤ y + r
  · obtain rfl : b = false := Bool.eq_false_iff.2 fun h => by
      rcases hb.1 h with h | h
      · omega
      · have := (h 0 r (by omega) (by omega) (by omega) (by omega)).1.2.2.2; omega
    have d4 : decide (H ≤ y + r) = true := by simp; omega
    clear hb hp hn hr hr2 hG
    go_enter Try.func23, Try.ntmps23
    go_wp2_with fail
    go_ret
    exact ⟨rfl, hbl⟩
  have d4 : decide (H ≤ y + r) = false := by simp; omega
  have HBT := Lib.hid hb
  replace hn := Lib.hid hn
  replace hp := Lib.hid hp
  have HR := Lib.hid hr2
  clear hb hr hr2 hG
  go_enter Try.func23, Try.ntmps23
  go_wp2_with fail
  generalize w.alloc (.cells #[.int .i64 W, .int .i64 H, .slice A n0 c] 24) = w1 at *
  clear e0 d1 d2 d3 d4
  go_loopw [11] (fun bv wr => ∃ j : Nat, (j : Int) ≤ 2 * r + 1 ∧ bv = .int .i64 (y - r + (j : Int)) ∧ Hid (∀ dx dy : Int, -r ≤ dx → dx ≤ r → -r ≤ dy → dy < -r + (j : Int) → opP W f (x + dx) (y + dy)) ∧ wr = w1) (fun bv _ => (y + r + 1 - intOf bv).toNat)
  case atStart => exact ⟨0, by omega, by simp, Lib.hid (fun dx dy _ _ h1 h2 => absurd h2 (by omega)), rfl⟩
  case round =>
    obtain ⟨j, hj, rfl, hrows, rfl⟩ := hrel
    by_cases hjr : (j : Int) = 2 * r + 1
    · have d1 : decide (y - r + (j : Int) ≤ y + r) = false := by simp; omega
      obtain rfl : b = true := HBT.out.2 (.inr fun dx dy a1 a2 a3 a4 => ⟨⟨by omega, by omega, by omega, by omega⟩, hrows.out dx dy a1 a2 a3 (by omega)⟩)
      clear HBT hrows
      go_wp2_with fail
      go_ret
      exact ⟨rfl, hbl⟩
    have d1 : decide (y - r + (j : Int) ≤ y + r) = true := by simp; omega
    go_wp2_with fail
    clear d1
    go_loopw [12] (fun av wq => ∃ i : Nat, (i : Int) ≤ 2 * r + 1 ∧ av = .int .i64 (x - r + (i : Int)) ∧ Hid (∀ dx : Int, -r ≤ dx → dx < -r + (i : Int) → opP W f (x + dx) (y + (-r + (j : Int)))) ∧ wq = wr) (fun av _ => (x + r + 1 - intOf av).toNat)
    case atStart => exact ⟨0, by omega, by simp, Lib.hid (fun dx h1 h2 => absurd h2 (by omega)), rfl⟩
    case round =>
      obtain ⟨i, hi, rfl, hcols, rfl⟩ := hrel
      by_cases hir : (i : Int) = 2 * r + 1
      · have d1 : decide (x - r + (i : Int) ≤ x + r) = false := by simp; omega
        have hrows2 : Hid (∀ dx dy : Int, -r ≤ dx → dx ≤ r → -r ≤ dy → dy < -r + ((j + 1 : Nat) : Int) → opP W f (x + dx) (y + dy)) := Lib.hid (fun dx dy a1 a2 a3 a4 => by
          by_cases e : dy < -r + (j : Int)
          · exact hrows.out dx dy a1 a2 a3 e
          · obtain rfl : dy = -r + (j : Int) := by omega
            exact hcols.out dx a1 (by omega))
        clear hrows hcols
        go_wp2_with fail
        go_roundw
        case rel => exact ⟨j + 1, by omega, by go_num, hrows2, by first | trivial | rfl⟩
        case measure => simp [intOf]; omega
      have d1 : decide (x - r + (i : Int) ≤ x + r) = true := by simp; omega
      have hon : onG W H (x - r + (i : Int)) (y - r + (j : Int)) := ⟨by omega, by omega, by omega, by omega⟩
      obtain ⟨t1, t2, t3, t4⟩ := xy_tile hn.out hon
      have hpp := hp.out
      have hm0 : 0 ≤ W * (y - r + (j : Int)) := Int.mul_nonneg (by omega) (by omega)
      have hm1 : W * (y - r + (j : Int)) ≤ W * H := Int.mul_le_mul_of_nonneg_left (by omega) (by omega)
      have hop : opP W f (x + (-r + (i : Int))) (y + (-r + (j : Int))) ↔ f (x - r + (i : Int) + W * (y - r + (j : Int))).toNat = true := by
        rw [show x + (-r + (i : Int)) = x - r + (i : Int) by omega, show y + (-r + (j : Int)) = y - r + (j : Int) by omega]; exact Iff.rfl
      have w1 : wrap64 (x - r + (i : Int) + wrap64 (W * (y - r + (j : Int)))) = x - r + (i : Int) + W * (y - r + (j : Int)) := by
        clear hop t1 t2 t3 t4 hon
        generalize W * (y - r + (j : Int)) = m at *
        unfold wrap64
        omega
      generalize (x - r + (i : Int) + W * (y - r + (j : Int))).toNat = z at *
      rw [← t4] at w1
      have hzn : (z : Int) < (n : Int) := by omega
      obtain ⟨b2, o2, rfl, hbb, hcz⟩ := reads_bool HR.out t1
      have HOP := Lib.hid hop
      clear hop hm0 hm1 hpp t2 t3 t4 hon
      cases hf : f z with
      | false =>
        rw [hf] at hcz
        obtain rfl : b = false := Bool.eq_false_iff.2 fun h => by
          rcases HBT.out.1 h with h | h
          · omega
          · have := HOP.out.1 (h (-r + (i : Int)) (-r + (j : Int)) (by omega) (by omega) (by omega) (by omega)).2
            rw [hf] at this; cases this
        clear HOP HBT hf hrows hcols
        go_wp2_with fail
        go_ret
        exact ⟨rfl, hbl⟩
      | true =>
        rw [hf] at hcz
        have hcols2 : Hid (∀ dx : Int, -r ≤ dx → dx < -r + ((i + 1 : Nat) : Int) → opP W f (x + dx) (y + (-r + (j : Int)))) := Lib.hid (fun dx a1 a2 => by
          by_cases e : dx < -r + (i : Int)
          · exact hcols.out dx a1 e
          · obtain rfl : dx = -r + (i : Int) := by omega
            exact HOP.out.2 hf)
        clear HOP hf hrows hcols
        go_wp2_with fail
        go_roundw
        case rel => exact ⟨i + 1, by omega, by go_num, hcols2, by first | trivial | rfl⟩
        case measure => simp [intOf]; omega
end Go.Proofs.Ytfgjiaakoacomaa
