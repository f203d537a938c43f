/- Whose tile stands beside another one has it beside itself; places and numbers of tiles undo each other. -/
import Derived.Test.YtdcilabbjejklaaGroundTile
namespace Go.Proofs.Ytdcilabbjejklaa
open Go.RowKit

/-- The way back. -/
def opp (i : Nat) : Nat := [2, 3, 0, 1, 6, 7, 4, 5].getD i 0
theorem opp_fin : ∀ i : Fin 8, wayX (opp i.val) = -wayX i.val ∧ wayY (opp i.val) = -wayY i.val ∧ opp i.val < 8 ∧ ¬ (wayX i.val = 0 ∧ wayY i.val = 0) := by decide +kernel
theorem way_fin : ∀ i j : Fin 8, wayX i.val = wayX j.val → wayY i.val = wayY j.val → i = j := by decide +kernel

theorem cell_parts {W x y : Int} (h1 : 1 ≤ W) (x0 : 0 ≤ x) (x1 : x < W) : (x + W * y) % W = x ∧ (x + W * y) / W = y := by
  refine ⟨?_, ?_⟩
  · rw [Int.add_mul_emod_self_left, Int.emod_eq_of_lt x0 x1]
  · rw [Int.add_mul_ediv_left _ _ (by omega), Int.ediv_eq_zero_of_lt x0 x1, Int.zero_add]

theorem near_on {W H t : Int} {i : Nat} (hn : 0 ≤ nearI W H t i) : (0 ≤ t % W + wayX i ∧ t % W + wayX i < W ∧ 0 ≤ t / W + wayY i ∧ t / W + wayY i < H) ∧ nearI W H t i = t % W + wayX i + W * (t / W + wayY i) := by
  by_cases h : onB W H (t % W + wayX i) (t / W + wayY i) = true
  · exact ⟨of_decide_eq_true h, by unfold nearI; rw [if_pos h]⟩
  · exfalso
    revert hn
    unfold nearI
    rw [if_neg h]
    omega
theorem near_parts {W H t : Int} {i : Nat} (h1 : 1 ≤ W) (hn : 0 ≤ nearI W H t i) : nearI W H t i % W = t % W + wayX i ∧ nearI W H t i / W = t / W + wayY i := by
  obtain ⟨⟨a, b, _, _⟩, e⟩ := near_on hn
  rw [e]
  exact cell_parts h1 a b
theorem near_tile {W H t : Int} {i : Nat} (h1 : 1 ≤ W) (hn : 0 ≤ nearI W H t i) : tileB W H (nearI W H t i) = true := by
  obtain ⟨⟨a, b, c, d⟩, e⟩ := near_on hn
  refine decide_eq_true ⟨hn, ?_⟩
  rw [e]
  have h : W * (t / W + wayY i) ≤ W * (H - 1) := Int.mul_le_mul_of_nonneg_left (by omega) (by omega)
  rw [Int.mul_sub] at h
  omega
theorem near_back {W H t : Int} {i : Nat} (h1 : 1 ≤ W) (hi : i < 8) (t0 : 0 ≤ t) (t1 : t / W < H) (hn : 0 ≤ nearI W H t i) : nearI W H (nearI W H t i) (opp i) = t := by
  obtain ⟨e1, e2⟩ := near_parts h1 hn
  obtain ⟨o1, o2, _, _⟩ := opp_fin ⟨i, hi⟩
  simp only at o1 o2
  have a : ∀ y : Int, y % W = t % W + wayX i → y / W = t / W + wayY i → nearI W H y (opp i) = t := fun y f1 f2 => by
    unfold nearI
    rw [f1, f2, o1, o2, show t % W + wayX i + -wayX i = t % W by omega, show t / W + wayY i + -wayY i = t / W by omega]
    rw [if_pos (show onB W H (t % W) (t / W) = true from decide_eq_true ⟨Int.emod_nonneg _ (by omega), Int.emod_lt_of_pos _ (by omega), Int.ediv_nonneg t0 (by omega), t1⟩)]
    exact Int.emod_add_mul_ediv t W
  exact a _ e1 e2
theorem near_ne {W H t : Int} {i : Nat} (h1 : 1 ≤ W) (hi : i < 8) (hn : 0 ≤ nearI W H t i) : ¬ nearI W H t i = t := fun h => by
  obtain ⟨e1, e2⟩ := near_parts h1 hn
  rw [h] at e1 e2
  have := (opp_fin ⟨i, hi⟩).2.2.2
  simp only at this
  omega
theorem near_apart {W H t : Int} {i j : Nat} (h1 : 1 ≤ W) (hi : i < 8) (hj : j < i) (hn : 0 ≤ nearI W H t i) : ¬ nearI W H t j = nearI W H t i := fun h => by
  obtain ⟨e1, e2⟩ := near_parts h1 hn
  obtain ⟨f1, f2⟩ := near_parts (i := j) h1 (by rw [h]; exact hn)
  rw [h] at f1 f2
  have := way_fin ⟨i, hi⟩ ⟨j, by omega⟩ (by simp only; omega) (by simp only; omega)
  simp at this
  omega

/-- A place within a tile. -/
theorem at_in {W H t d : Int} (h1 : 1 ≤ W) (t0 : 0 ≤ t) (t1 : t / W < H) (d0 : 0 ≤ d) (d1 : d < 65536) : atV W H (t % W * 65536 + d) (t / W * 65536 + d) = t := by
  have x0 : 0 ≤ t % W := Int.emod_nonneg _ (by omega)
  have x1 : t % W < W := Int.emod_lt_of_pos _ (by omega)
  have y0 : 0 ≤ t / W := Int.ediv_nonneg t0 (by omega)
  have e := Int.emod_add_mul_ediv t W
  generalize t % W = x at *
  generalize t / W = y at *
  unfold atV
  rw [if_neg (by omega), show (x * 65536 + d) / 65536 = x by omega, show (y * 65536 + d) / 65536 = y by omega]
  exact e
end Go.Proofs.Ytdcilabbjejklaa
