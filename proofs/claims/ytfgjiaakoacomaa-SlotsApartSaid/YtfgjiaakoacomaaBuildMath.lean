/- Buildings on a ground: which tiles they have, and whether they may be. Plain mathematics. -/
import Derived.Test.YtfgjiaakoacomaaBuildTiles
namespace Go.Proofs.Ytfgjiaakoacomaa
set_option maxRecDepth 20000
open Go.RowKit

structure Bd where
  id : Int
  ow : Int
  x : Int
  y : Int
  w : Int
  h : Int
def d0 : Bd := ⟨0, 0, 0, 0, 0, 0⟩
def bdV (b : Bd) : Value := .agg #[.int .i64 b.id, .int .i64 b.ow, .int .i64 b.x, .int .i64 b.y, .int .i64 b.w, .int .i64 b.h]
def bdAt (l : List Bd) (i : Nat) : Bd := l.getD i d0
def formP (b : Bd) : Prop := 1 ≤ b.id ∧ b.id ≤ 1099511627776 ∧ 1 ≤ b.ow ∧ b.ow ≤ 8 ∧ 1 ≤ b.w ∧ b.w ≤ 4 ∧ 1 ≤ b.h ∧ b.h ≤ 4
def onP (W H : Int) (b : Bd) : Prop := 0 ≤ b.x ∧ b.x ≤ W - b.w ∧ 0 ≤ b.y ∧ b.y ≤ H - b.h
def covP (W : Int) (b : Bd) (t : Int) : Prop := b.x ≤ t % W ∧ t % W < b.x + b.w ∧ b.y ≤ t / W ∧ t / W < b.y + b.h
instance (W : Int) (b : Bd) (t : Int) : Decidable (covP W b t) := by unfold covP; exact inferInstance
instance (b : Bd) : Decidable (formP b) := by unfold formP; exact inferInstance
instance (W H : Int) (b : Bd) : Decidable (onP W H b) := by unfold onP; exact inferInstance
def firmP (n : Nat) (W : Int) (ts : List Int) (b : Bd) : Prop := ∀ t : Nat, t < n → covP W b (t : Int) → ts.getD t 0 ≤ 1
def meetP (a b : Bd) : Prop := a.x < b.x + b.w ∧ b.x < a.x + a.w ∧ a.y < b.y + b.h ∧ b.y < a.y + a.h
instance (a b : Bd) : Decidable (meetP a b) := by unfold meetP; exact inferInstance
instance (n : Nat) (W : Int) (ts : List Int) (b : Bd) : Decidable (firmP n W ts b) := by unfold firmP; exact inferInstance
def apartP (l : List Bd) (i : Nat) : Prop := ∀ k, k < i → ¬ meetP (bdAt l i) (bdAt l k)
instance (l : List Bd) (i : Nat) : Decidable (apartP l i) := by unfold apartP; exact inferInstance
def okAt (n : Nat) (W H : Int) (ts : List Int) (l : List Bd) (i : Nat) : Prop := formP (bdAt l i) ∧ onP W H (bdAt l i) ∧ firmP n W ts (bdAt l i) ∧ apartP l i
instance (n : Nat) (W H : Int) (ts : List Int) (l : List Bd) (i : Nat) : Decidable (okAt n W H ts l i) := by unfold okAt; exact inferInstance
def risesP (l : List Bd) : Prop := ∀ i, i < l.length → 0 < i → (bdAt l (i - 1)).id < (bdAt l i).id
instance (l : List Bd) : Decidable (risesP l) := by unfold risesP; exact inferInstance
def mayP (n : Nat) (W H : Int) (ts : List Int) (l : List Bd) : Prop := l.length ≤ 256 ∧ risesP l ∧ ∀ i, i < l.length → okAt n W H ts l i
instance (n : Nat) (W H : Int) (ts : List Int) (l : List Bd) : Decidable (mayP n W H ts l) := by unfold mayP; exact inferInstance

theorem place_div {W X Y : Int} (h0 : 0 ≤ X) (h1 : X < W) : (X + W * Y) % W = X ∧ (X + W * Y) / W = Y := by
  refine ⟨by rw [Int.add_mul_emod_self_left, Int.emod_eq_of_lt h0 h1], ?_⟩
  rw [Int.add_mul_ediv_left _ _ (by omega), Int.ediv_eq_zero_of_lt h0 h1]; omega
theorem mem_row {W x y : Int} {j i : Nat} {z : Int} : z ∈ rowT W x y j i ↔ ∃ a : Nat, a < i ∧ z = x + (a : Int) + W * (y + (j : Int)) := by
  unfold rowT
  simp only [List.mem_map, List.mem_range]
  exact ⟨fun ⟨a, h1, h2⟩ => ⟨a, h1, h2.symm⟩, fun ⟨a, h1, h2⟩ => ⟨a, h1, h2.symm⟩⟩
theorem mem_tilesR {W x y : Int} {b : Nat} {z : Int} : ∀ {q : Nat}, z ∈ tilesR W x y b q ↔ ∃ j a : Nat, j < q ∧ a < b ∧ z = x + (a : Int) + W * (y + (j : Int))
  | 0 => by simp [tilesR]
  | q + 1 => by
    rw [tilesR, List.mem_append, mem_tilesR, mem_row]
    constructor
    · rintro (⟨j, a, h1, h2, h3⟩ | ⟨a, h1, h2⟩)
      · exact ⟨j, a, by omega, h2, h3⟩
      · exact ⟨q, a, by omega, h1, h2⟩
    · rintro ⟨j, a, h1, h2, h3⟩
      by_cases hj : j < q
      · exact .inl ⟨j, a, hj, h2, h3⟩
      · obtain rfl : j = q := by omega
        exact .inr ⟨a, h2, h3⟩
/-- A building's tiles are those that it covers. -/
theorem mem_tiles {W H : Int} {b : Bd} (hf : formP b) (ho : onP W H b) {z : Int} : z ∈ tilesL W b.x b.y b.w b.h ↔ 0 ≤ z ∧ z < W * H ∧ covP W b z := by
  obtain ⟨_, _, _, _, w0, w1, h0, h1⟩ := hf
  obtain ⟨x0, x1, y0, y1⟩ := ho
  unfold tilesL
  rw [mem_tilesR]
  constructor
  · rintro ⟨j, a, hj, ha, rfl⟩
    obtain ⟨e1, e2⟩ := place_div (W := W) (X := b.x + (a : Int)) (Y := b.y + (j : Int)) (by omega) (by omega)
    have m0 : 0 ≤ W * (b.y + (j : Int)) := Int.mul_nonneg (by omega) (by omega)
    have m1 : W * (b.y + (j : Int) + 1) ≤ W * H := Int.mul_le_mul_of_nonneg_left (by omega) (by omega)
    rw [Int.mul_add, Int.mul_one] at m1
    refine ⟨by omega, by omega, ?_⟩
    unfold covP
    rw [e1, e2]
    omega
  · rintro ⟨z0, z1, c0, c1, c2, c3⟩
    refine ⟨(z / W - b.y).toNat, (z % W - b.x).toNat, by omega, by omega, ?_⟩
    have e := Int.emod_add_mul_ediv z W
    rw [show b.x + ((z % W - b.x).toNat : Int) = z % W by omega, show b.y + ((z / W - b.y).toNat : Int) = z / W by omega]
    exact e.symm
theorem tiles_rise {W x y : Int} {b : Nat} (hx : 0 ≤ x) (hb : x + b ≤ W) : ∀ q : Nat, (tilesR W x y b q).Pairwise (· < ·)
  | 0 => List.Pairwise.nil
  | q + 1 => by
    rw [tilesR, List.pairwise_append]
    refine ⟨tiles_rise hx hb q, ?_, fun u hu v hv => ?_⟩
    · unfold rowT
      rw [List.pairwise_map]
      exact List.pairwise_lt_range.imp fun h => by omega
    · obtain ⟨j, a, hj, ha, rfl⟩ := mem_tilesR.1 hu
      obtain ⟨a2, ha2, rfl⟩ := mem_row.1 hv
      have : W * (y + (j : Int) + 1) ≤ W * (y + (q : Int)) := Int.mul_le_mul_of_nonneg_left (by omega) (by omega)
      rw [Int.mul_add, Int.mul_one] at this
      omega
/-- No tile comes twice. -/
theorem tiles_fresh {W H : Int} {b : Bd} (hf : formP b) (ho : onP W H b) {q : Nat} (hq : q < (tilesL W b.x b.y b.w b.h).length) : (tilesL W b.x b.y b.w b.h).getD q 0 ∉ (tilesL W b.x b.y b.w b.h).take q := by
  obtain ⟨_, _, _, _, w0, w1, h0, h1⟩ := hf
  obtain ⟨x0, x1, y0, y1⟩ := ho
  have hp := tiles_rise (W := W) (x := b.x) (y := b.y) (b := b.w.toNat) x0 (by omega) b.h.toNat
  rw [show tilesR W b.x b.y b.w.toNat b.h.toNat = tilesL W b.x b.y b.w b.h from rfl] at hp
  intro hm
  obtain ⟨i, hi, e⟩ := List.mem_iff_getElem.1 hm
  rw [List.getElem_take] at e
  have hi2 : i < q := by simp at hi; omega
  have := List.pairwise_iff_getElem.1 hp i q (by omega) hq hi2
  simp only [List.getD, List.getElem?_eq_getElem hq, Option.getD_some] at e
  omega
theorem firm_iff {n : Nat} {W H : Int} {ts : List Int} {b : Bd} (hf : formP b) (ho : onP W H b) (hn : (n : Int) = W * H) : (∀ z ∈ tilesL W b.x b.y b.w b.h, ts.getD z.toNat 0 ≤ 1) ↔ firmP n W ts b := by
  constructor
  · intro h t ht hc
    have := h (t : Int) ((mem_tiles hf ho).2 ⟨by omega, by omega, hc⟩)
    simpa using this
  · intro h z hz
    obtain ⟨z0, z1, hc⟩ := (mem_tiles hf ho).1 hz
    obtain ⟨t, rfl⟩ := Int.eq_ofNat_of_zero_le z0
    have := h t (by omega) hc
    simpa using this
/-- Two meet where they have a tile in common. -/
theorem meet_iff {W H : Int} {a b : Bd} (hf : formP a) (ho : onP W H a) (hf' : formP b) (ho' : onP W H b) : meetP a b ↔ ∃ z ∈ tilesL W a.x a.y a.w a.h, covP W b z := by
  obtain ⟨_, _, _, _, w0, w1, h0, h1⟩ := id hf
  obtain ⟨x0, x1, y0, y1⟩ := id ho
  obtain ⟨_, _, _, _, w0', w1', h0', h1'⟩ := hf'
  obtain ⟨x0', x1', y0', y1'⟩ := ho'
  constructor
  · rintro ⟨m1, m2, m3, m4⟩
    obtain ⟨e1, e2⟩ := place_div (W := W) (X := max a.x b.x) (Y := max a.y b.y) (by omega) (by omega)
    have p0 : 0 ≤ W * max a.y b.y := Int.mul_nonneg (by omega) (by omega)
    have p1 : W * (max a.y b.y + 1) ≤ W * H := Int.mul_le_mul_of_nonneg_left (by omega) (by omega)
    rw [Int.mul_add, Int.mul_one] at p1
    refine ⟨max a.x b.x + W * max a.y b.y, (mem_tiles hf ho).2 ⟨by omega, by omega, ?_⟩, ?_⟩
    · unfold covP; rw [e1, e2]; omega
    · unfold covP; rw [e1, e2]; omega
  · rintro ⟨z, hz, hc⟩
    obtain ⟨_, _, hc'⟩ := (mem_tiles hf ho).1 hz
    unfold covP at hc hc'
    unfold meetP
    omega
/-- Has one of the first k the tile? -/
def covK (W : Int) (l : List Bd) (k : Nat) (t : Int) : Bool := decide (∃ i, i < k ∧ covP W (bdAt l i) t)
theorem covK_succ (W : Int) (l : List Bd) (k : Nat) (t : Int) : covK W l (k + 1) t = (covK W l k t || decide (covP W (bdAt l k) t)) := by
  unfold covK
  rw [Bool.eq_iff_iff]
  simp only [decide_eq_true_eq, Bool.or_eq_true]
  constructor
  · rintro ⟨i, h1, h2⟩
    by_cases hi : i < k
    · exact .inl ⟨i, hi, h2⟩
    · obtain rfl : i = k := by omega
      exact .inr h2
  · rintro (⟨i, h1, h2⟩ | h)
    · exact ⟨i, by omega, h2⟩
    · exact ⟨k, by omega, h⟩
theorem apart_iff {n : Nat} {W H : Int} {ts : List Int} {l : List Bd} {i : Nat} (hf : formP (bdAt l i)) (ho : onP W H (bdAt l i)) (hall : ∀ k, k < i → okAt n W H ts l k) :
    apartP l i ↔ ∀ z ∈ tilesL W (bdAt l i).x (bdAt l i).y (bdAt l i).w (bdAt l i).h, covK W l i z = false := by
  unfold apartP covK
  constructor
  · intro h z hz
    simp only [decide_eq_false_iff_not]
    rintro ⟨k, hk, hc⟩
    exact h k hk ((meet_iff hf ho (hall k hk).1 (hall k hk).2.1).2 ⟨z, hz, hc⟩)
  · intro h k hk hm
    obtain ⟨z, hz, hc⟩ := (meet_iff hf ho (hall k hk).1 (hall k hk).2.1).1 hm
    have := h z hz
    simp only [decide_eq_false_iff_not] at this
    exact this ⟨k, hk, hc⟩
end Go.Proofs.Ytfgjiaakoacomaa
