/- Two passes over all tiles leave the room that each has. Plain mathematics. -/
import Derived.Test.YtfgjiaakoacomaaClearPass
namespace Go.Proofs.Ytfgjiaakoacomaa
set_option maxRecDepth 20000
open Go.RowKit

def upW : List (Int × Int) := [(-1, 0), (-1, -1), (0, -1), (1, -1)]
def dnW : List (Int × Int) := [(1, 0), (1, 1), (0, 1), (-1, 1)]
def tX (W : Int) (t : Nat) : Int := (t : Int) % W
def tY (W : Int) (t : Nat) : Int := (t : Int) / W
theorem tile_xy {W H : Int} {n t : Nat} (hW : 1 ≤ W) (hn : (n : Int) = W * H) (ht : t < n) : onG W H (tX W t) (tY W t) ∧ (tX W t + W * tY W t).toNat = t := by
  have h0 : 0 ≤ (t : Int) % W := Int.emod_nonneg _ (by omega)
  have h1 : (t : Int) % W < W := Int.emod_lt_of_pos _ (by omega)
  have h2 : 0 ≤ (t : Int) / W := Int.ediv_nonneg (by omega) (by omega)
  have h3 : (t : Int) / W < H := Int.ediv_lt_of_lt_mul (by omega) (by rw [Int.mul_comm]; omega)
  refine ⟨⟨h0, h1, h2, h3⟩, ?_⟩
  have := Int.emod_add_mul_ediv (t : Int) W
  unfold tX tY
  omega
theorem xy_tile {W H : Int} {n : Nat} (hn : (n : Int) = W * H) {x y : Int} (ho : onG W H x y) : (x + W * y).toNat < n ∧ tX W (x + W * y).toNat = x ∧ tY W (x + W * y).toNat = y ∧ ((x + W * y).toNat : Int) = x + W * y := by
  obtain ⟨h0, h1, h2, h3⟩ := ho
  have m0 : 0 ≤ W * y := Int.mul_nonneg (by omega) h2
  have m1 : W * (y + 1) ≤ W * H := Int.mul_le_mul_of_nonneg_left (by omega) (by omega)
  rw [Int.mul_add, Int.mul_one] at m1
  have e : ((x + W * y).toNat : Int) = x + W * y := by omega
  obtain ⟨e1, e2⟩ := place_div (W := W) (X := x) (Y := y) h0 h1
  unfold tX tY
  rw [e, e1, e2]
  exact ⟨by omega, rfl, rfl, rfl⟩
theorem atK_set {W H : Int} {ks : List Int} {t : Nat} {v x y : Int} (h : onG W H x y → (x + W * y).toNat ≠ t) : atK W H (ks.set t v) x y = atK W H ks x y := by
  unfold atK
  split
  · rename_i ho
    simp only [List.getD]
    rw [List.getElem?_set_ne (fun e => h ho e.symm)]
  · rfl
/-- Tiles that come ahead of one; those that come behind it. -/
theorem ahead {W H : Int} {n t : Nat} (hW : 1 ≤ W) (hn : (n : Int) = W * H) (ht : t < n) {d : Int × Int} (hd : d ∈ upW) : onG W H (tX W t + d.1) (tY W t + d.2) → (tX W t + d.1 + W * (tY W t + d.2)).toNat < t := fun ho => by
  obtain ⟨⟨a0, a1, a2, a3⟩, e⟩ := tile_xy hW hn ht
  obtain ⟨b0, b1, b2, b3⟩ := ho
  have m0 : 0 ≤ W * tY W t := Int.mul_nonneg (by omega) a2
  unfold upW at hd
  simp only [List.mem_cons, List.not_mem_nil, or_false] at hd
  by_cases hy : 1 ≤ tY W t
  · have m2 := Int.mul_le_mul_of_nonneg_left hy (show 0 ≤ W by omega)
    rcases hd with rfl | rfl | rfl | rfl <;> simp only [Int.mul_add, Int.mul_neg, Int.mul_one, Int.mul_zero] at * <;> omega
  · rcases hd with rfl | rfl | rfl | rfl <;> simp only [Int.mul_add, Int.mul_neg, Int.mul_one, Int.mul_zero] at * <;> omega
theorem behind {W H : Int} {n t : Nat} (hW : 1 ≤ W) (hn : (n : Int) = W * H) (ht : t < n) {d : Int × Int} (hd : d ∈ dnW) : onG W H (tX W t + d.1) (tY W t + d.2) → t < (tX W t + d.1 + W * (tY W t + d.2)).toNat := fun ho => by
  obtain ⟨⟨a0, a1, a2, a3⟩, e⟩ := tile_xy hW hn ht
  obtain ⟨b0, b1, b2, b3⟩ := ho
  have m0 : 0 ≤ W * tY W t := Int.mul_nonneg (by omega) a2
  unfold dnW at hd
  simp only [List.mem_cons, List.not_mem_nil, or_false] at hd
  rcases hd with rfl | rfl | rfl | rfl <;> simp only [Int.mul_add, Int.mul_neg, Int.mul_one, Int.mul_zero] at * <;> omega
def min5K (W H : Int) (ks : List Int) (t : Nat) (v : Int) : List (Int × Int) → Int
  | [] => v
  | d :: ds => min5K W H ks t (min v (atK W H ks (tX W t + d.1) (tY W t + d.2) + 1)) ds
theorem set_getD {l : List Int} {t : Nat} (h : t < l.length) (v : Int) : (l.set t v).getD t 0 = v := by simp [List.getD, h]
theorem fold_pass {W H : Int} {t : Nat} {ks : List Int} (hk : t < ks.length) : ∀ (ds : List (Int × Int)) (v : Int), (∀ d ∈ ds, onG W H (tX W t + d.1) (tY W t + d.2) → (tX W t + d.1 + W * (tY W t + d.2)).toNat ≠ t) →
    ds.foldl (pass1 W H t) (ks.set t v) = ks.set t (min5K W H ks t v ds)
  | [], v, _ => rfl
  | d :: ds, v, h => by
    rw [List.foldl_cons, min5K]
    have e : pass1 W H t (ks.set t v) d = ks.set t (min v (atK W H ks (tX W t + d.1) (tY W t + d.2) + 1)) := by
      unfold pass1
      rw [set_getD hk, List.set_set]
      have := atK_set (ks := ks) (v := v) (h d (List.mem_cons_self ..))
      unfold tX tY at this ⊢
      rw [this]
    rw [e]
    exact fold_pass hk ds _ fun d' hd' => h d' (List.mem_cons_of_mem _ hd')
theorem set_same {l : List Int} {t : Nat} : l.set t (l.getD t 0) = l := by
  by_cases h : t < l.length
  · simp [List.getD, h]
  · rw [List.set_eq_of_length_le (by omega)]
theorem fold_all {W H : Int} {t : Nat} {ks : List Int} (hk : t < ks.length) (ds : List (Int × Int)) (h : ∀ d ∈ ds, onG W H (tX W t + d.1) (tY W t + d.2) → (tX W t + d.1 + W * (tY W t + d.2)).toNat ≠ t) :
    ds.foldl (pass1 W H t) ks = ks.set t (min5K W H ks t (ks.getD t 0) ds) := by
  have := fold_pass hk ds (ks.getD t 0) h
  rwa [set_same] at this

/-- The first k tiles have been passed, forward. -/
structure Fwd (W H : Int) (n : Nat) (l0 : List Int) (k : Nat) (l : List Int) : Prop where
  ok : okK n l
  done : ∀ j, j < n → j < k → l.getD j 0 = min5K W H l j (l0.getD j 0) upW
  left : ∀ j, k ≤ j → l.getD j 0 = l0.getD j 0
structure Bwd (W H : Int) (n : Nat) (l1 : List Int) (k : Nat) (l : List Int) : Prop where
  ok : okK n l
  done : ∀ j, j < n → k ≤ j → l.getD j 0 = min5K W H l j (l1.getD j 0) dnW
  left : ∀ j, j < k → l.getD j 0 = l1.getD j 0
theorem min5K_set {W H : Int} {ks : List Int} {t j : Nat} {u : Int} : ∀ (ds : List (Int × Int)) (v : Int), (∀ d ∈ ds, onG W H (tX W j + d.1) (tY W j + d.2) → (tX W j + d.1 + W * (tY W j + d.2)).toNat ≠ t) → min5K W H (ks.set t u) j v ds = min5K W H ks j v ds
  | [], v, _ => rfl
  | d :: ds, v, h => by
    rw [min5K, min5K, atK_set (h d (List.mem_cons_self ..))]
    exact min5K_set ds _ fun d' hd' => h d' (List.mem_cons_of_mem _ hd')
theorem getD_set_ne' {l : List Int} {t j : Nat} {u : Int} (h : j ≠ t) : (l.set t u).getD j 0 = l.getD j 0 := by
  simp only [List.getD]; rw [List.getElem?_set_ne (fun e => h e.symm)]
theorem Fwd.step {W H : Int} {n k : Nat} {l0 l : List Int} (h : Fwd W H n l0 k l) (hW : 1 ≤ W) (hn : (n : Int) = W * H) (hk : k < n) : Fwd W H n l0 (k + 1) (upW.foldl (pass1 W H k) l) := by
  have hkl : k < l.length := by rw [h.ok.1]; exact hk
  refine ⟨okK_fold W H k upW l h.ok, ?_, ?_⟩
  all_goals rw [fold_all hkl upW fun d hd ho => Nat.ne_of_lt (ahead hW hn hk hd ho)]
  · intro j hj hjk
    rw [min5K_set upW _ fun d hd ho => by have := ahead hW hn hj hd ho; omega]
    by_cases e : j = k
    · subst e
      rw [set_getD hkl, h.left j (Nat.le_refl _)]
    · rw [getD_set_ne' e]
      exact h.done j hj (by omega)
  · intro j hj
    rw [getD_set_ne' (by omega)]
    exact h.left j (by omega)
theorem Bwd.step {W H : Int} {n k : Nat} {l1 l : List Int} (h : Bwd W H n l1 (k + 1) l) (hW : 1 ≤ W) (hn : (n : Int) = W * H) (hk : k < n) : Bwd W H n l1 k (dnW.foldl (pass1 W H k) l) := by
  have hkl : k < l.length := by rw [h.ok.1]; exact hk
  refine ⟨okK_fold W H k dnW l h.ok, ?_, ?_⟩
  all_goals rw [fold_all hkl dnW fun d hd ho => Nat.ne_of_gt (behind hW hn hk hd ho)]
  · intro j hj hjk
    rw [min5K_set dnW _ fun d hd ho => by have := behind hW hn hj hd ho; omega]
    by_cases e : j = k
    · subst e
      rw [set_getD hkl, h.left j (by omega)]
    · rw [getD_set_ne' e]
      exact h.done j hj (by omega)
  · intro j hj
    rw [getD_set_ne' (by omega)]
    exact h.left j (by omega)
theorem Fwd.start {W H : Int} {n : Nat} {l : List Int} (h : okK n l) : Fwd W H n l 0 l := ⟨h, fun j _ hj => absurd hj (by omega), fun _ _ => rfl⟩
theorem Bwd.start {W H : Int} {n : Nat} {l : List Int} (h : okK n l) : Bwd W H n l n l := ⟨h, fun j h1 h2 => absurd h1 (by omega), fun _ _ => rfl⟩
/-- Both passes together. -/
theorem passes_cham {W H : Int} {n : Nat} {l0 l1 l2 : List Int} (hn : (n : Int) = W * H) (h1 : Fwd W H n l0 n l1) (h2 : Bwd W H n l1 0 l2) : Cham W H (atK W H l0) (atK W H l1) (atK W H l2) := by
  have out : ∀ l x y, ¬ onG W H x y → atK W H l x y = 0 := fun l x y h => if_neg h
  refine ⟨out l1, out l2, fun x y => (atK_range h1.ok W H x y).1, fun x y => (atK_range h2.ok W H x y).1, fun x y ho => ?_, fun x y ho => ?_⟩
  · obtain ⟨e1, e2, e3, _⟩ := xy_tile hn ho
    have := h1.done _ e1 e1
    rw [show atK W H l1 x y = l1.getD (x + W * y).toNat 0 from if_pos ho, show atK W H l0 x y = l0.getD (x + W * y).toNat 0 from if_pos ho, this]
    simp only [min5K, upW, e2, e3]
    rw [show x + -1 = x - 1 by omega, show y + -1 = y - 1 by omega, Int.add_zero, Int.add_zero]
  · obtain ⟨e1, e2, e3, _⟩ := xy_tile hn ho
    have := h2.done _ e1 (Nat.zero_le _)
    rw [show atK W H l2 x y = l2.getD (x + W * y).toNat 0 from if_pos ho, show atK W H l1 x y = l1.getD (x + W * y).toNat 0 from if_pos ho, this]
    simp only [min5K, dnW, e2, e3]
    rw [show x + -1 = x - 1 by omega, Int.add_zero, Int.add_zero]
/-- A tile is open. -/
def opP (W : Int) (f : Nat → Bool) (x y : Int) : Prop := f (x + W * y).toNat = true
/-- A list of numbers is the room that each tile has. -/
def RoomL (W H : Int) (n : Nat) (f : Nat → Bool) (l : List Int) : Prop := l.length = n ∧ Room W H (opP W f) (atK W H l)
theorem passes_room {W H : Int} {n : Nat} {f : Nat → Bool} {l0 l1 l2 : List Int} (hW : W ≤ 128) (hn : (n : Int) = W * H) (h0 : ∀ t, t < n → l0.getD t 0 = if f t then 128 else 0) (h1 : Fwd W H n l0 n l1) (h2 : Bwd W H n l1 0 l2) : RoomL W H n f l2 := by
  refine ⟨h2.ok.1, (passes_cham hn h1 h2).room hW (fun x y ho hop => ?_) (fun x y ho hop => ?_)⟩
  · rw [show atK W H l0 x y = l0.getD (x + W * y).toNat 0 from if_pos ho, h0 _ (xy_tile hn ho).1, if_pos (show f (x + W * y).toNat = true from hop)]
  · rw [show atK W H l0 x y = l0.getD (x + W * y).toNat 0 from if_pos ho, h0 _ (xy_tile hn ho).1, if_neg (show ¬ f (x + W * y).toNat = true from hop)]
/-- There is one such list only. -/
theorem roomL_same {W H : Int} {n : Nat} {f : Nat → Bool} {l m : List Int} (hW : 1 ≤ W) (hn : (n : Int) = W * H) (h : RoomL W H n f l) (h' : RoomL W H n f m) : l = m := by
  refine List.ext_getElem (by rw [h.1, h'.1]) fun i h1 h2 => ?_
  obtain ⟨ho, e⟩ := tile_xy hW hn (show i < n by rw [← h.1]; exact h1)
  have := h.2.same h'.2 (tX W i) (tY W i)
  rw [show atK W H l (tX W i) (tY W i) = l.getD (tX W i + W * tY W i).toNat 0 from if_pos ho, show atK W H m (tX W i) (tY W i) = m.getD (tX W i + W * tY W i).toNat 0 from if_pos ho, e] at this
  simpa [List.getD, h1, h2] using this
end Go.Proofs.Ytfgjiaakoacomaa
