/- Buildings on a ground: which tiles they have, and whether they may be. Plain mathematics. -/
import Derived.Test.YtjbnpgjndohjcaaBuildTiles
import Derived.Test.YtjbnpgjndohjcaaDiscMeetRef
namespace Go.Proofs.Ytjbnpgjndohjcaa
set_option maxRecDepth 20000
open Go.RowKit

structure Bd where
  id : Int
  ow : Int
  x : Int
  y : Int
  w : Int
  h : Int
def d0 : Bd := ⟨0, 0, 0, 0, 0, 0⟩
def bdV (b : Bd) : Value := .agg #[.int .i64 b.id, .int .i64 b.ow, .int .i64 b.x, .int .i64 b.y, .int .i64 b.w, .int .i64 b.h]
def bdAt (l : List Bd) (i : Nat) : Bd := l.getD i d0
def formP (b : Bd) : Prop := 1 ≤ b.id ∧ b.id ≤ 1099511627776 ∧ 1 ≤ b.ow ∧ b.ow ≤ 8 ∧ 1 ≤ b.w ∧ b.w ≤ 4 ∧ 1 ≤ b.h ∧ b.h ≤ 4
def onP (W H : Int) (b : Bd) : Prop := 0 ≤ b.x ∧ b.x ≤ W - b.w ∧ 0 ≤ b.y ∧ b.y ≤ H - b.h
def covP (W : Int) (b : Bd) (t : Int) : Prop := b.x ≤ t % W ∧ t % W < b.x + b.w ∧ b.y ≤ t / W ∧ t / W < b.y + b.h
instance (W : Int) (b : Bd) (t : Int) : Decidable (covP W b t) := by unfold covP; exact inferInstance
instance (b : Bd) : Decidable (formP b) := by unfold formP; exact inferInstance
instance (W H : Int) (b : Bd) : Decidable (onP W H b) := by unfold onP; exact inferInstance
def firmP (n : Nat) (W : Int) (ts : List Int) (b : Bd) : Prop := ∀ t : Nat, t < n → covP W b (t : Int) → ts.getD t 0 ≤ 1
def meetP (a b : Bd) : Prop := a.x < b.x + b.w ∧ b.x < a.x + a.w ∧ a.y < b.y + b.h ∧ b.y < a.y + a.h
instance (a b : Bd) : Decidable (meetP a b) := by unfold meetP; exact inferInstance
instance (n : Nat) (W : Int) (ts : List Int) (b : Bd) : Decidable (firmP n W ts b) := by unfold firmP; exact inferInstance
def apartP (l : List Bd) (i : Nat) : Prop := ∀ k, k < i → ¬ meetP (bdAt l i) (bdAt l k)
instance (l : List Bd) (i : Nat) : Decidable (apartP l i) := by unfold apartP; exact inferInstance
def okAt (n : Nat) (W H : Int) (ts : List Int) (l : List Bd) (i : Nat) : Prop := formP (bdAt l i) ∧ onP W H (bdAt l i) ∧ firmP n W ts (bdAt l i) ∧ apartP l i
instance (n : Nat) (W H : Int) (ts : List Int) (l : List Bd) (i : Nat) : Decidable (okAt n W H ts l i) := by unfold okAt; exact inferInstance
def risesP (l : List Bd) : Prop := ∀ i, i < l.length → 0 < i → (bdAt l (i - 1)).id < (bdAt l i).id
instance (l : List Bd) : Decidable (risesP l) := by unfold risesP; exact inferInstance
def mayP (n : Nat) (W H : Int) (ts : List Int) (l : List Bd) : Prop := l.length ≤ 256 ∧ risesP l ∧ ∀ i, i < l.length → okAt n W H ts l i
instance (n : Nat) (W H : Int) (ts : List Int) (l : List Bd) : Decidable (mayP n W H ts l) := by unfold mayP; exact inferInstance

theorem place_div {W X Y : Int} (h0 : 0 ≤ X) (h1 : X < W) : (X + W * Y) % W = X ∧ (X + W * Y) / W = Y := by
  refine ⟨by rw [Int.add_mul_emod_self_left, Int.emod_eq_of_lt h0 h1], ?_⟩
  rw [Int.add_mul_ediv_left _ _ (by omega), Int.ediv_eq_zero_of_lt h0 h1]; omega
theorem mem_row {W x y : Int} {j i : Nat} {z : Int} : z ∈ rowT W x y j i ↔ ∃ a : Nat, a < i ∧ z = x + (a : Int) + W * (y + (j : Int)) := by
  unfold rowT
  simp only [List.mem_map, List.mem_range]
  exact ⟨fun ⟨a, h1, h2⟩ => ⟨a, h1, h2.symm⟩, fun ⟨a, h1, h2⟩ => ⟨a, h1, h2.symm⟩⟩
theorem mem_tilesR {W x y : Int} {b : Nat} {z : Int} : ∀ {q : Nat}, z ∈ tilesR W x y b q ↔ ∃ j a : Nat, j < q ∧ a < b ∧ z = x + (a : Int) + W * (y + (j : Int))
  | 0 => by simp [tilesR]
  | q + 1 => by
    rw [tilesR, List.mem_append, mem_tilesR, mem_row]
    constructor
    · rintro (⟨j, a, h1, h2, h3⟩ | ⟨a, h1, h2⟩)
      · exact ⟨j, a, by omega, h2, h3⟩
      · exact ⟨q, a, by omega, h1, h2⟩
    · rintro ⟨j, a, h1, h2, h3⟩
      by_cases hj : j < q
      · exact .inl ⟨j, a, hj, h2, h3⟩
      · obtain rfl : j = q := by omega
        exact .inr ⟨a, h2, h3⟩
/-- A building's tiles are those that it covers. -/
theorem mem_tiles {W H : Int} {b : Bd} (hf : formP b) (ho : onP W H b) {z : Int} : z ∈ tilesL W b.x b.y b.w b.h ↔ 0 ≤ z ∧ z < W * H ∧ covP W b z := by
  obtain ⟨_, _, _, _, w0, w1, h0, h1⟩ := hf
  obtain ⟨x0, x1, y0, y1⟩ := ho
  unfold tilesL
  rw [mem_tilesR]
  constructor
  · rintro ⟨j, a, hj, ha, rfl⟩
    obtain ⟨e1, e2⟩ := place_div (W := W) (X := b.x + (a : Int)) (Y := b.y + (j : Int)) (by omega) (by omega)
    have m0 : 0 ≤ W * (b.y + (j : Int)) := Int.mul_nonneg (by omega) (by omega)
    have m1 : W * (b.y + (j : Int) + 1) ≤ W * H := Int.mul_le_mul_of_nonneg_left (by omega) (by omega)
    rw [Int.mul_add, Int.mul_one] at m1
    refine ⟨by omega, by omega, ?_⟩
    unfold covP
    rw [e1, e2]
    omega
  · rintro ⟨z0, z1, c0, c1, c2, c3⟩
    refine ⟨(z / W - b.y).toNat, (z % W - b.x).toNat, by omega, by omega, ?_⟩
    have e := Int.emod_add_mul_ediv z W
    rw [show b.x + ((z % W - b.x).toNat : Int) = z % W by omega, show b.y + ((z / W - b.y).toNat : Int) = z / W by omega]
    exact e.symm
theorem tiles_rise {W x y : Int} {b : Nat} (hx : 0 ≤ x) (hb : x + b ≤ W) : ∀ q : Nat, (tilesR W x y b q).Pairwise (· < ·)
  | 0 => List.Pairwise.nil
  | q + 1 => by
    rw [tilesR, List.pairwise_append]
    refine ⟨tiles_rise hx hb q, ?_, fun u hu v hv => ?_⟩
    · unfold rowT
      rw [List.pairwise_map]
      exact List.pairwise_lt_range.imp fun h => by omega
    · obtain ⟨j, a, hj, ha, rfl⟩ := mem_tilesR.1 hu
      obtain ⟨a2, ha2, rfl⟩ := mem_row.1 hv
      have : W * (y + (j : Int) + 1) ≤ W * (y + (q : Int)) := Int.mul_le_mul_of_nonneg_left (by omega) (by omega)
      rw [Int.mul_add, Int.mul_one] at this
      omega
/-- No tile comes twice. -/
theorem tiles_fresh {W H : Int} {b : Bd} (hf : formP b) (ho : onP W H b) {q : Nat} (hq : q < (tilesL W b.x b.y b.w b.h).length) : (tilesL W b.x b.y b.w b.h).getD q 0 ∉ (tilesL W b.x b.y b.w b.h).take q := by
  obtain ⟨_, _, _, _, w0, w1, h0, h1⟩ := hf
  obtain ⟨x0, x1, y0, y1⟩ := ho
  have hp := tiles_rise (W := W) (x := b.x) (y := b.y) (b := b.w.toNat) x0 (by omega) b.h.toNat
  rw [show tilesR W b.x b.y b.w.toNat b.h.toNat = tilesL W b.x b.y b.w b.h from rfl] at hp
  intro hm
  obtain ⟨i, hi, e⟩ := List.mem_iff_getElem.1 hm
  rw [List.getElem_take] at e
  have hi2 : i < q := by simp at hi; omega
  have := List.pairwise_iff_getElem.1 hp i q (by omega) hq hi2
  simp only [List.getD, List.getElem?_eq_getElem hq, Option.getD_some] at e
  omega
theorem firm_iff {n : Nat} {W H : Int} {ts : List Int} {b : Bd} (hf : formP b) (ho : onP W H b) (hn : (n : Int) = W * H) : (∀ z ∈ tilesL W b.x b.y b.w b.h, ts.getD z.toNat 0 ≤ 1) ↔ firmP n W ts b := by
  constructor
  · intro h t ht hc
    have := h (t : Int) ((mem_tiles hf ho).2 ⟨by omega, by omega, hc⟩)
    simpa using this
  · intro h z hz
    obtain ⟨z0, z1, hc⟩ := (mem_tiles hf ho).1 hz
    obtain ⟨t, rfl⟩ := Int.eq_ofNat_of_zero_le z0
    have := h t (by omega) hc
    simpa using this
/-- Two meet where they have a tile in common. -/
theorem meet_iff {W H : Int} {a b : Bd} (hf : formP a) (ho : onP W H a) (hf' : formP b) (ho' : onP W H b) : meetP a b ↔ ∃ z ∈ tilesL W a.x a.y a.w a.h, covP W b z := by
  obtain ⟨_, _, _, _, w0, w1, h0, h1⟩ := id hf
  obtain ⟨x0, x1, y0, y1⟩ := id ho
  obtain ⟨_, _, _, _, w0', w1', h0', h1'⟩ := hf'
  obtain ⟨x0', x1', y0', y1'⟩ := ho'
  constructor
  · rintro ⟨m1, m2, m3, m4⟩
    obtain ⟨e1, e2⟩ := place_div (W := W) (X := max a.x b.x) (Y := max a.y b.y) (by omega) (by omega)
    have p0 : 0 ≤ W * max a.y b.y := Int.mul_nonneg (by omega) (by omega)
    have p1 : W * (max a.y b.y + 1) ≤ W * H := Int.mul_le_mul_of_nonneg_left (by omega) (by omega)
    rw [Int.mul_add, Int.mul_one] at p1
    refine ⟨max a.x b.x + W * max a.y b.y, (mem_tiles hf ho).2 ⟨by omega, by omega, ?_⟩, ?_⟩
    · unfold covP; rw [e1, e2]; omega
    · unfold covP; rw [e1, e2]; omega
  · rintro ⟨z, hz, hc⟩
    obtain ⟨_, _, hc'⟩ := (mem_tiles hf ho).1 hz
    unfold covP at hc hc'
    unfold meetP
    omega
/-- Has one of the first k the tile? -/
def covK (W : Int) (l : List Bd) (k : Nat) (t : Int) : Bool := decide (∃ i, i < k ∧ covP W (bdAt l i) t)
theorem covK_succ (W : Int) (l : List Bd) (k : Nat) (t : Int) : covK W l (k + 1) t = (covK W l k t || decide (covP W (bdAt l k) t)) := by
  unfold covK
  rw [Bool.eq_iff_iff]
  simp only [decide_eq_true_eq, Bool.or_eq_true]
  constructor
  · rintro ⟨i, h1, h2⟩
    by_cases hi : i < k
    · exact .inl ⟨i, hi, h2⟩
    · obtain rfl : i = k := by omega
      exact .inr h2
  · rintro (⟨i, h1, h2⟩ | h)
    · exact ⟨i, by omega, h2⟩
    · exact ⟨k, by omega, h⟩
theorem apart_iff {n : Nat} {W H : Int} {ts : List Int} {l : List Bd} {i : Nat} (hf : formP (bdAt l i)) (ho : onP W H (bdAt l i)) (hall : ∀ k, k < i → okAt n W H ts l k) :
    apartP l i ↔ ∀ z ∈ tilesL W (bdAt l i).x (bdAt l i).y (bdAt l i).w (bdAt l i).h, covK W l i z = false := by
  unfold apartP covK
  constructor
  · intro h z hz
    simp only [decide_eq_false_iff_not]
    rintro ⟨k, hk, hc⟩
    exact h k hk ((meet_iff hf ho (hall k hk).1 (hall k hk).2.1).2 ⟨z, hz, hc⟩)
  · intro h k hk hm
    obtain ⟨z, hz, hc⟩ := (meet_iff hf ho (hall k hk).1 (hall k hk).2.1).1 hm
    have := h z hz
    simp only [decide_eq_false_iff_not] at this
    exact this ⟨k, hk, hc⟩
end Go.Proofs.Ytjbnpgjndohjcaa
namespace Go.Proofs.Ytjbnpgjndohjcaa
set_option maxRecDepth 20000

/-- Is there such a place? -/
def onG (W H x y : Int) : Prop := 0 ≤ x ∧ x < W ∧ 0 ≤ y ∧ y < H
instance (W H x y : Int) : Decidable (onG W H x y) := by unfold onG; exact inferInstance
def tX (W : Int) (t : Nat) : Int := (t : Int) % W
def tY (W : Int) (t : Nat) : Int := (t : Int) / W
theorem tile_xy {W H : Int} {n t : Nat} (hW : 1 ≤ W) (hn : (n : Int) = W * H) (ht : t < n) : onG W H (tX W t) (tY W t) ∧ (tX W t + W * tY W t).toNat = t := by
  have h0 : 0 ≤ (t : Int) % W := Int.emod_nonneg _ (by omega)
  have h1 : (t : Int) % W < W := Int.emod_lt_of_pos _ (by omega)
  have h2 : 0 ≤ (t : Int) / W := Int.ediv_nonneg (by omega) (by omega)
  have h3 : (t : Int) / W < H := Int.ediv_lt_of_lt_mul (by omega) (by rw [Int.mul_comm]; omega)
  refine ⟨⟨h0, h1, h2, h3⟩, ?_⟩
  have := Int.emod_add_mul_ediv (t : Int) W
  unfold tX tY
  omega
theorem xy_tile {W H : Int} {n : Nat} (hn : (n : Int) = W * H) {x y : Int} (ho : onG W H x y) : (x + W * y).toNat < n ∧ tX W (x + W * y).toNat = x ∧ tY W (x + W * y).toNat = y ∧ ((x + W * y).toNat : Int) = x + W * y := by
  obtain ⟨h0, h1, h2, h3⟩ := ho
  have m0 : 0 ≤ W * y := Int.mul_nonneg (by omega) h2
  have m1 : W * (y + 1) ≤ W * H := Int.mul_le_mul_of_nonneg_left (by omega) (by omega)
  rw [Int.mul_add, Int.mul_one] at m1
  have e : ((x + W * y).toNat : Int) = x + W * y := by omega
  obtain ⟨e1, e2⟩ := place_div (W := W) (X := x) (Y := y) h0 h1
  unfold tX tY
  rw [e, e1, e2]
  exact ⟨by omega, rfl, rfl, rfl⟩
end Go.Proofs.Ytjbnpgjndohjcaa
namespace Go.Proofs.Ytjbnpgjndohjcaa
set_option maxRecDepth 20000

/-- Is a disc on the ground? -/
def onD (W H x y r : Int) : Prop := 0 ≤ x - r ∧ x + r ≤ W * 65536 ∧ 0 ≤ y - r ∧ y + r ≤ H * 65536
instance (W H x y r : Int) : Decidable (onD W H x y r) := by unfold onD; exact inferInstance
/-- Does it meet none of the first m tiles that is closed? -/
def noneB (W : Int) (f : Nat → Bool) (x y r : Int) (m : Nat) : Bool := (List.range m).all fun t => f t || !hitsB W t x y r
/-- Is it free? -/
def freeB (W H : Int) (n : Nat) (f : Nat → Bool) (x y r : Int) : Bool := decide (onD W H x y r) && noneB W f x y r n
section
variable {W H x y r : Int} {n : Nat} {f : Nat → Bool}
theorem none_iff {m : Nat} : noneB W f x y r m = true ↔ ∀ t, t < m → f t = false → hitsB W (t : Int) x y r = false := by
  unfold noneB
  rw [List.all_eq_true]
  constructor
  · intro h t ht hf
    have := h t (List.mem_range.2 ht)
    rw [hf] at this
    simpa using this
  · intro h t ht
    have := h t (List.mem_range.1 ht)
    cases hf : f t with
    | true => rfl
    | false => rw [this hf]; rfl
theorem free_iff : freeB W H n f x y r = true ↔ onD W H x y r ∧ ∀ t, t < n → f t = false → hitsB W (t : Int) x y r = false := by
  unfold freeB
  rw [Bool.and_eq_true, decide_eq_true_eq, none_iff]
theorem free_off (h : ¬ onD W H x y r) : freeB W H n f x y r = false := by unfold freeB; rw [decide_eq_false h]; rfl
theorem free_on (h : onD W H x y r) : freeB W H n f x y r = noneB W f x y r n := by unfold freeB; rw [decide_eq_true h]; rfl
theorem free_hit {t : Nat} (ht : t < n) (hf : f t = false) (hh : hitsB W (t : Int) x y r = true) : freeB W H n f x y r = false := by
  rw [← Bool.not_eq_true, free_iff]
  rintro ⟨_, h⟩
  rw [h t ht hf] at hh
  cases hh
theorem none_hit {t m : Nat} (ht : t < m) (hf : f t = false) (hh : hitsB W (t : Int) x y r = true) : noneB W f x y r m = false := by
  rw [← Bool.not_eq_true, none_iff]
  intro h
  rw [h t ht hf] at hh
  cases hh
/-- Tiles off a disc's rows and columns are not met. -/
theorem hits_near (h1 : 1 ≤ W) (h2 : W ≤ 128) {t : Nat} (t1 : t < 16384) (hx0 : -1099511627776 ≤ x) (hx : x ≤ 1099511627776) (hy0 : -1099511627776 ≤ y) (hy : y ≤ 1099511627776) (hh : hitsB W (t : Int) x y r = true) :
    (x - r) / 65536 ≤ tX W t ∧ tX W t ≤ (x + r) / 65536 ∧ (y - r) / 65536 ≤ tY W t ∧ tY W t ≤ (y + r) / 65536 := by
  rw [hits_ref h1 h2 (by omega) (by omega) hx0 hx hy0 hy] at hh
  unfold refB at hh
  rw [decide_eq_true_eq] at hh
  obtain ⟨k1, k2, _⟩ := hh
  show (x - r) / 65536 ≤ (t : Int) % W ∧ (t : Int) % W ≤ (x + r) / 65536 ∧ (y - r) / 65536 ≤ (t : Int) / W ∧ (t : Int) / W ≤ (y + r) / 65536
  generalize (t : Int) % W = a at *
  generalize (t : Int) / W = b at *
  unfold offV at k1 k2
  refine ⟨?_, ?_, ?_, ?_⟩
  · split at k1 <;> (try split at k1) <;> omega
  · split at k1 <;> (try split at k1) <;> omega
  · split at k2 <;> (try split at k2) <;> omega
  · split at k2 <;> (try split at k2) <;> omega
/-- Nothing closed is met ahead of a place, row by row. -/
def upTo (W : Int) (n : Nat) (f : Nat → Bool) (x y r : Int) (j i : Int) : Prop := ∀ t, t < n → (tY W t < j ∨ (tY W t = j ∧ tX W t < i)) → f t = false → hitsB W (t : Int) x y r = false
end
end Go.Proofs.Ytjbnpgjndohjcaa
