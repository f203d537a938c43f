/- A disc at a tile's centre: where it is free. Plain mathematics. -/
import Derived.Test.YtjbnpgjndohjcaaBuildMathM
import Derived.Test.YtjbnpgjndohjcaaClearMathM
namespace Go.Proofs.Ytjbnpgjndohjcaa
set_option maxRecDepth 20000

section
variable {W H r s : Int} {n : Nat} {f : Nat → Bool}
theorem mid_form {a b : Int} (ha : 0 ≤ a ∧ a < 128) (hb : 0 ≤ b ∧ b < 128) (h0 : 0 ≤ r) (h1 : r ≤ 262144) : formB (a * 65536 + 32768) (b * 65536 + 32768) r = true := by
  unfold formB placeB
  rw [Bool.and_eq_true, decide_eq_true_eq, decide_eq_true_eq]
  omega
/-- What a disc at a centre meets lies near. -/
theorem mid_hits (h1 : 1 ≤ W) (h2 : W ≤ 128) {a b : Int} (ha : 0 ≤ a ∧ a < 128) (hb : 0 ≤ b ∧ b < 128) {u : Nat} (hu : u < 16384) (hs : 0 ≤ s) (hr : r ≤ s * 65536 + 32768) (hh : hitsB W (u : Int) (a * 65536 + 32768) (b * 65536 + 32768) r = true) :
    -s ≤ tX W u - a ∧ tX W u - a ≤ s ∧ -s ≤ tY W u - b ∧ tY W u - b ≤ s := by
  rw [hits_ref h1 h2 (by omega) (by omega) (by omega) (by omega) (by omega) (by omega)] at hh
  unfold refB at hh
  rw [decide_eq_true_eq] at hh
  obtain ⟨k1, k2, _⟩ := hh
  show -s ≤ (u : Int) % W - a ∧ (u : Int) % W - a ≤ s ∧ -s ≤ (u : Int) / W - b ∧ (u : Int) / W - b ≤ s
  generalize (u : Int) % W = x at *
  generalize (u : Int) / W = y at *
  unfold offV at k1 k2
  refine ⟨?_, ?_, ?_, ?_⟩
  · split at k1 <;> (try split at k1) <;> omega
  · split at k1 <;> (try split at k1) <;> omega
  · split at k2 <;> (try split at k2) <;> omega
  · split at k2 <;> (try split at k2) <;> omega
/-- At a good tile's centre a disc of the size is free. -/
theorem mid_free (h1 : 1 ≤ W) (h2 : W ≤ 128) (h4 : H ≤ 128) (hn : (n : Int) = W * H) (hn4 : n ≤ 16384) {ml : List Int} (hR : RoomL W H n f ml) {t : Nat} (ht : t < n) (hs : 0 ≤ s) (hg : s < ml.getD t 0) :
    freeB W H n f ((t : Int) % W * 65536 + 32768) ((t : Int) / W * 65536 + 32768) (s * 65536 + 32768) = true := by
  obtain ⟨⟨x0, x1, y0, y1⟩, e⟩ := tile_xy h1 hn ht
  have hat : atK W H ml (tX W t) (tY W t) = ml.getD t 0 := by
    rw [show atK W H ml (tX W t) (tY W t) = ml.getD (tX W t + W * tY W t).toNat 0 from if_pos ⟨x0, x1, y0, y1⟩, e]
  obtain ⟨m, rfl⟩ := Int.eq_ofNat_of_zero_le hs
  have hF := (hR.2.full m (tX W t) (tY W t)).1 (by rw [hat]; exact hg)
  show freeB W H n f (tX W t * 65536 + 32768) (tY W t * 65536 + 32768) _ = true
  rw [free_iff]
  refine ⟨?_, fun u hu hfu => ?_⟩
  · obtain ⟨⟨a1, a2, a3, a4⟩, _⟩ := hF (-(m : Int)) (-(m : Int)) (by omega) (by omega) (by omega) (by omega)
    obtain ⟨⟨b1, b2, b3, b4⟩, _⟩ := hF (m : Int) (m : Int) (by omega) (by omega) (by omega) (by omega)
    exact ⟨by omega, by omega, by omega, by omega⟩
  · cases hh : hitsB W (u : Int) (tX W t * 65536 + 32768) (tY W t * 65536 + 32768) ((m : Int) * 65536 + 32768) with
    | false => rfl
    | true =>
      have hk := mid_hits h1 h2 ⟨x0, by omega⟩ ⟨y0, by omega⟩ (show u < 16384 by omega) hs (Int.le_refl _) hh
      obtain ⟨_, e2⟩ := tile_xy h1 hn hu
      have := (hF (tX W u - tX W t) (tY W u - tY W t) (by omega) (by omega) (by omega) (by omega)).2
      rw [show tX W t + (tX W u - tX W t) = tX W u by omega, show tY W t + (tY W u - tY W t) = tY W u by omega] at this
      unfold opP at this
      rw [e2, hfu] at this
      cases this
/-- At a centre the least disc is free just where the tile is open. -/
theorem mid_low (h1 : 1 ≤ W) (h2 : W ≤ 128) (h4 : H ≤ 128) (hn : (n : Int) = W * H) (hn4 : n ≤ 16384) {t : Nat} (ht : t < n) :
    freeB W H n f ((t : Int) % W * 65536 + 32768) ((t : Int) / W * 65536 + 32768) 1 = f t := by
  obtain ⟨⟨x0, x1, y0, y1⟩, e⟩ := tile_xy h1 hn ht
  show freeB W H n f (tX W t * 65536 + 32768) (tY W t * 65536 + 32768) 1 = f t
  cases hf : f t with
  | true =>
    rw [free_iff]
    refine ⟨⟨by omega, by omega, by omega, by omega⟩, fun u hu hfu => ?_⟩
    cases hh : hitsB W (u : Int) (tX W t * 65536 + 32768) (tY W t * 65536 + 32768) 1 with
    | false => rfl
    | true =>
      have hk := mid_hits (s := 0) h1 h2 ⟨x0, by omega⟩ ⟨y0, by omega⟩ (show u < 16384 by omega) (by omega) (by omega) hh
      obtain ⟨_, e2⟩ := tile_xy h1 hn hu
      rw [show tX W u = tX W t by omega, show tY W u = tY W t by omega] at e2
      have : t = u := by omega
      subst this
      rw [hf] at hfu
      cases hfu
  | false =>
    refine free_hit ht hf ?_
    rw [hits_ref h1 h2 (by omega) (by omega) (by omega) (by omega) (by omega) (by omega)]
    unfold refB
    rw [decide_eq_true_eq]
    show offV (tX W t * 65536 + 32768) (tX W t * 65536) (tX W t * 65536 + 65536) < 1 ∧ offV (tY W t * 65536 + 32768) (tY W t * 65536) (tY W t * 65536 + 65536) < 1 ∧ offV (tX W t * 65536 + 32768) (tX W t * 65536) (tX W t * 65536 + 65536) * offV (tX W t * 65536 + 32768) (tX W t * 65536) (tX W t * 65536 + 65536) + offV (tY W t * 65536 + 32768) (tY W t * 65536) (tY W t * 65536 + 65536) * offV (tY W t * 65536 + 32768) (tY W t * 65536) (tY W t * 65536 + 65536) < 1 * 1
    have o1 : offV (tX W t * 65536 + 32768) (tX W t * 65536) (tX W t * 65536 + 65536) = 0 := by unfold offV; rw [if_neg (by omega), if_neg (by omega)]
    have o2 : offV (tY W t * 65536 + 32768) (tY W t * 65536) (tY W t * 65536 + 65536) = 0 := by unfold offV; rw [if_neg (by omega), if_neg (by omega)]
    rw [o1, o2]
    omega
end
end Go.Proofs.Ytjbnpgjndohjcaa
