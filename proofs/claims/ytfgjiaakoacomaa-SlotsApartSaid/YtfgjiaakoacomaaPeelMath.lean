/- Taking away in rounds: what room it leaves. -/
import Derived.Test.YtfgjiaakoacomaaClearRoomM
import Derived.Test.YtfgjiaakoacomaaGroundNearM
namespace Go.Proofs.Ytfgjiaakoacomaa
set_option maxRecDepth 20000
open Go.RowKit

theorem fwd_ex {W H : Int} {n : Nat} {l0 : List Int} (hW : 1 ≤ W) (hn : (n : Int) = W * H) (h : okK n l0) : ∀ k, k ≤ n → ∃ l, Fwd W H n l0 k l
  | 0, _ => ⟨l0, Fwd.start h⟩
  | k + 1, hk => by
    obtain ⟨l, hl⟩ := fwd_ex hW hn h k (by omega)
    exact ⟨_, hl.step hW hn (by omega)⟩
theorem bwd_ex {W H : Int} {n : Nat} {l1 : List Int} (hW : 1 ≤ W) (hn : (n : Int) = W * H) (h : okK n l1) : ∀ j, j ≤ n → ∃ l, Bwd W H n l1 (n - j) l
  | 0, _ => ⟨l1, by simpa using Bwd.start h⟩
  | j + 1, hj => by
    obtain ⟨l, hl⟩ := bwd_ex hW hn h j (by omega)
    rw [show n - j = n - (j + 1) + 1 by omega] at hl
    exact ⟨_, hl.step hW hn (by omega)⟩
/-- There is a list of room. -/
theorem room_ex {W H : Int} {n : Nat} (f : Nat → Bool) (hW : 1 ≤ W) (hW2 : W ≤ 128) (hn : (n : Int) = W * H) : ∃ l, RoomL W H n f l ∧ okK n l := by
  have h0 : okK n (intsOf n fun t => if f t then 128 else 0) := ⟨intsOf_len _ _, fun v hv => by
    obtain ⟨t, _, rfl⟩ := List.mem_map.1 hv
    show 0 ≤ (if f t = true then (128 : Int) else 0) ∧ _
    split <;> omega⟩
  obtain ⟨l1, h1⟩ := fwd_ex hW hn h0 n (Nat.le_refl _)
  obtain ⟨l2, h2⟩ := bwd_ex hW hn h1.ok n (Nat.le_refl _)
  rw [Nat.sub_self] at h2
  exact ⟨l2, passes_room hW2 hn (fun t ht => by rw [intsOf_at ht]) h1 h2, h2.ok⟩
theorem room_at {W H : Int} {n t : Nat} {l : List Int} (hW : 1 ≤ W) (hn : (n : Int) = W * H) (ht : t < n) : atK W H l (tX W t) (tY W t) = l.getD t 0 := by
  obtain ⟨ho, e⟩ := tile_xy hW hn ht
  rw [show atK W H l (tX W t) (tY W t) = l.getD (tX W t + W * tY W t).toNat 0 from if_pos ho, e]
theorem room_open {W H : Int} {n t : Nat} {f : Nat → Bool} {l : List Int} (hW : 1 ≤ W) (hn : (n : Int) = W * H) (ht : t < n) (h : RoomL W H n f l) : f t = decide (0 < l.getD t 0) := by
  obtain ⟨ho, e⟩ := tile_xy hW hn ht
  have ha := room_at (l := l) hW hn ht
  have hop : opP W f (tX W t) (tY W t) ↔ f t = true := by unfold opP; rw [e]
  cases hf : f t with
  | true => have := h.2.pos _ _ ho (hop.2 hf); rw [ha] at this; symm; rw [decide_eq_true_eq]; omega
  | false => have := h.2.shut _ _ ho (fun hc => by rw [hop.1 hc] at hf; cases hf); rw [ha] at this; symm; rw [decide_eq_false_iff_not]; omega
/-- The eight ways, and none. -/
theorem way_all {dx dy : Int} (h1 : -1 ≤ dx) (h2 : dx ≤ 1) (h3 : -1 ≤ dy) (h4 : dy ≤ 1) : (dx = 0 ∧ dy = 0) ∨ ∃ q, q < 8 ∧ wayX q = dx ∧ wayY q = dy := by
  rcases (show dx = -1 ∨ dx = 0 ∨ dx = 1 by omega) with rfl | rfl | rfl <;> rcases (show dy = -1 ∨ dy = 0 ∨ dy = 1 by omega) with rfl | rfl | rfl
  · exact .inr ⟨7, by omega, rfl, rfl⟩
  · exact .inr ⟨3, by omega, rfl, rfl⟩
  · exact .inr ⟨6, by omega, rfl, rfl⟩
  · exact .inr ⟨0, by omega, rfl, rfl⟩
  · exact .inl ⟨rfl, rfl⟩
  · exact .inr ⟨2, by omega, rfl, rfl⟩
  · exact .inr ⟨4, by omega, rfl, rfl⟩
  · exact .inr ⟨1, by omega, rfl, rfl⟩
  · exact .inr ⟨5, by omega, rfl, rfl⟩
theorem way_small {q : Nat} (hq : q < 8) : -1 ≤ wayX q ∧ wayX q ≤ 1 ∧ -1 ≤ wayY q ∧ wayY q ≤ 1 := by
  rcases (show q = 0 ∨ q = 1 ∨ q = 2 ∨ q = 3 ∨ q = 4 ∨ q = 5 ∨ q = 6 ∨ q = 7 by omega) with rfl | rfl | rfl | rfl | rfl | rfl | rfl | rfl <;> decide
/-- A tile beside one: its number, and its room. -/
theorem near_at {W H : Int} {n t q : Nat} {l : List Int} (hn : (n : Int) = W * H) : (0 ≤ nearI W H t q ↔ onG W H (tX W t + wayX q) (tY W t + wayY q)) ∧ (0 ≤ nearI W H t q → (nearI W H t q).toNat < n ∧ ((nearI W H t q).toNat : Int) = nearI W H t q ∧ l.getD (nearI W H t q).toNat 0 = atK W H l (tX W t + wayX q) (tY W t + wayY q)) ∧ -1 ≤ nearI W H t q := by
  unfold nearI tX tY onB onG
  by_cases ho : 0 ≤ (t : Int) % W + wayX q ∧ (t : Int) % W + wayX q < W ∧ 0 ≤ (t : Int) / W + wayY q ∧ (t : Int) / W + wayY q < H
  · rw [if_pos (decide_eq_true ho)]
    obtain ⟨h1, _, _, h4⟩ := xy_tile hn (show onG W H _ _ from ho)
    exact ⟨⟨fun _ => ho, fun _ => by rw [← h4]; omega⟩, fun _ => ⟨h1, h4, (if_pos (show onG W H _ _ from ho)).symm⟩, by rw [← h4]; omega⟩
  · rw [if_neg (by simpa using ho)]
    exact ⟨⟨fun h => absurd h (by omega), fun h => absurd h ho⟩, fun h => absurd h (by omega), by omega⟩
theorem near_peel {W H : Int} {n t : Nat} {f : Nat → Bool} {l : List Int} (hW : 1 ≤ W) (hn : (n : Int) = W * H) (ht : t < n) (h : RoomL W H n f l) {r : Nat} (hr : (r : Int) < l.getD t 0) :
    (r : Int) + 1 < l.getD t 0 ↔ ∀ q, q < 8 → 0 ≤ nearI W H t q ∧ (r : Int) < l.getD (nearI W H t q).toNat 0 := by
  obtain ⟨ho, _⟩ := tile_xy hW hn ht
  have ha := room_at (l := l) hW hn ht
  have hp := h.2.peel (r := (r : Int)) (by omega) ho
  rw [ha] at hp
  rw [hp]
  constructor
  · rintro ⟨_, h2⟩ q hq
    obtain ⟨a, b, c, d⟩ := way_small hq
    have h3 := h2 _ _ a b c d
    obtain ⟨h4, h5, _⟩ := near_at (l := l) (t := t) (q := q) hn
    have hon : onG W H (tX W t + wayX q) (tY W t + wayY q) := by
      by_cases hc : onG W H (tX W t + wayX q) (tY W t + wayY q)
      · exact hc
      · rw [h.2.out _ _ hc] at h3; omega
    have h6 := h4.2 hon
    exact ⟨h6, by rw [(h5 h6).2.2]; exact h3⟩
  · intro h2
    refine ⟨hr, fun dx dy a b c d => ?_⟩
    rcases way_all a b c d with ⟨rfl, rfl⟩ | ⟨q, hq, rfl, rfl⟩
    · rw [Int.add_zero, Int.add_zero, ha]; exact hr
    · obtain ⟨h3, h4⟩ := h2 q hq
      obtain ⟨_, h5, _⟩ := near_at (l := l) (t := t) (q := q) hn
      rwa [(h5 h3).2.2] at h4

/-- Sums, for measures. -/
def sumTo (f : Nat → Nat) : Nat → Nat
  | 0 => 0
  | n + 1 => sumTo f n + f n
theorem sumTo_le {f g : Nat → Nat} : ∀ n, (∀ t, t < n → f t ≤ g t) → sumTo f n ≤ sumTo g n
  | 0, _ => Nat.le_refl _
  | n + 1, h => by have := sumTo_le n (fun t ht => h t (by omega)); have := h n (by omega); simp only [sumTo]; omega
theorem sumTo_lt {f g : Nat → Nat} : ∀ n, (∀ t, t < n → f t ≤ g t) → (∃ t, t < n ∧ f t < g t) → sumTo f n < sumTo g n
  | 0, _, ⟨t, ht, _⟩ => absurd ht (by omega)
  | n + 1, h, ⟨t, ht, hlt⟩ => by
    have h1 := sumTo_le n (fun t ht => h t (by omega))
    have h2 := h n (by omega)
    simp only [sumTo]
    by_cases e : t = n
    · subst e; omega
    · have := sumTo_lt n (fun t ht => h t (by omega)) ⟨t, by omega, hlt⟩; omega
theorem sumTo_congr {f g : Nat → Nat} (n : Nat) (h : ∀ t, t < n → f t = g t) : sumTo f n = sumTo g n :=
  Nat.le_antisymm (sumTo_le n fun t ht => Nat.le_of_eq (h t ht)) (sumTo_le n fun t ht => Nat.le_of_eq (h t ht).symm)
/-- What is lacking to 128 in a row of numbers. -/
def lackW (w : World) (g n : Nat) : Nat := sumTo (fun t => 128 - (intOf ((w.cell? ⟨g, t, none⟩).getD (.bool false))).toNat) n
theorem lack_own {w : World} {base g n c : Nat} {e : TypeId} {f : Nat → Int} (h : w.ownsRow base e 1 (.slice (some ⟨g, 0, none⟩) n c) n (nums .i64 (intsOf n f))) : lackW w g n = sumTo (fun t => 128 - (f t).toNat) n := by
  refine sumTo_congr n fun t ht => ?_
  obtain ⟨g', hg', _, _, hc, _⟩ := own_at h ht
  cases hg'
  rw [hc, intsOf_at ht]
  rfl
theorem own_off {w : World} {base : Nat} {e : TypeId} {size n c g : Nat} {xs : List Value} (h : w.ownsRow base e size (.slice (some ⟨g, 0, none⟩) n c) n xs) {b o : Nat} (hb : g ≠ b) (u : Value) : (w.setCell ⟨b, o, none⟩ u).ownsRow base e size (.slice (some ⟨g, 0, none⟩) n c) n xs := by
  refine ⟨h.1, ?_⟩
  rcases h.2 with hn | ⟨g', cap, cur, hv, hg, hh, r⟩
  · exact .inl hn
  · have e1 : g = g' := by injection hv with hv; injection hv with hv; injection hv
    exact .inr ⟨g', cap, cur, hv, hg, by rw [Below.heap_setCell _ _ _ _ (by show g' ≠ b; omega)]; exact hh, r⟩
end Go.Proofs.Ytfgjiaakoacomaa
