/- How many tiles stand beside those of small grounds; bytes made new. -/
import Derived.Test.YtdcilabbjejklaaGroundTile
namespace Go.Proofs.Ytdcilabbjejklaa
open Go.RowKit

/-- How many of the first k directions hold a tile. -/
def cntI (W H t : Int) : Nat → Int
  | 0 => 0
  | k + 1 => cntI W H t k + (if 0 ≤ nearI W H t k then 1 else 0)
/-- How many there are in all beside the first k tiles. -/
def cntT (W H : Int) : Nat → Int
  | 0 => 0
  | k + 1 => cntT W H k + cntI W H k 8

theorem cntI_range (W H t : Int) : ∀ k : Nat, 0 ≤ cntI W H t k ∧ cntI W H t k ≤ k
  | 0 => by simp [cntI]
  | k + 1 => by
    have := cntI_range W H t k
    unfold cntI
    split <;> omega
theorem cntT_range (W H : Int) : ∀ k : Nat, 0 ≤ cntT W H k ∧ cntT W H k ≤ 8 * k
  | 0 => by simp [cntT]
  | k + 1 => by
    have := cntT_range W H k
    have := cntI_range W H k 8
    unfold cntT
    omega

theorem small_sides {W : Int} (h1 : 1 ≤ W) (h4 : W ≤ 4) : ∃ a : Fin 4, W = (a.val : Int) + 1 :=
  ⟨⟨(W - 1).toNat, by omega⟩, by show W = ((W - 1).toNat : Int) + 1; omega⟩
theorem total_fin : ∀ a b : Fin 4, cntT ((a.val : Int) + 1) ((b.val : Int) + 1) ((a.val + 1) * (b.val + 1)) = 2 * (((a.val : Int) + 1 - 1) * ((b.val : Int) + 1) + ((a.val : Int) + 1) * ((b.val : Int) + 1 - 1) + 2 * ((a.val : Int) + 1 - 1) * ((b.val : Int) + 1 - 1)) := by decide +kernel
theorem beside_fin : ∀ a b : Fin 4, ∀ t : Fin 16, ∀ i : Fin 8, 0 ≤ nearI ((a.val : Int) + 1) ((b.val : Int) + 1) (t.val : Int) i.val →
    nearI ((a.val : Int) + 1) ((b.val : Int) + 1) (t.val : Int) i.val % ((a.val : Int) + 1) - (t.val : Int) % ((a.val : Int) + 1) = wayX i.val ∧
    nearI ((a.val : Int) + 1) ((b.val : Int) + 1) (t.val : Int) i.val / ((a.val : Int) + 1) - (t.val : Int) / ((a.val : Int) + 1) = wayY i.val := by decide +kernel
theorem ways_fin : ∀ i : Fin 8, (wayX i.val = 0 ∨ wayY i.val = 0) ↔ i.val < 4 := by decide +kernel
theorem total_is {W H : Int} (h1 : 1 ≤ W) (h2 : W ≤ 4) (h3 : 1 ≤ H) (h4 : H ≤ 4) {n : Nat} (hn : (n : Int) = W * H) :
    cntT W H n = 2 * ((W - 1) * H + W * (H - 1) + 2 * (W - 1) * (H - 1)) := by
  obtain ⟨a, rfl⟩ := small_sides h1 h2
  obtain ⟨b, rfl⟩ := small_sides h3 h4
  have e : n = (a.val + 1) * (b.val + 1) := by
    have : (n : Int) = (((a.val + 1) * (b.val + 1) : Nat) : Int) := by rw [hn]; push_cast; rfl
    exact_mod_cast this
  rw [e]
  exact total_fin a b
theorem beside_is {W H t : Int} {i : Nat} (h1 : 1 ≤ W) (h2 : W ≤ 4) (h3 : 1 ≤ H) (h4 : H ≤ 4) (t0 : 0 ≤ t) (t1 : t < 16) (hi : i < 8) (hn : 0 ≤ nearI W H t i) :
    nearI W H t i % W - t % W = wayX i ∧ nearI W H t i / W - t / W = wayY i := by
  obtain ⟨a, rfl⟩ := small_sides h1 h2
  obtain ⟨b, rfl⟩ := small_sides h3 h4
  have := beside_fin a b ⟨t.toNat, by omega⟩ ⟨i, hi⟩
  simp only [show ((t.toNat : Nat) : Int) = t by omega] at this
  exact this hn
end Go.Proofs.Ytdcilabbjejklaa
