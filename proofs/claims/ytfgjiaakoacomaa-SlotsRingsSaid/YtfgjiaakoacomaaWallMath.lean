/- Room on a plain ground with one rock. Plain mathematics. -/
import Derived.Test.YtfgjiaakoacomaaClearAsk
namespace Go.Proofs.Ytfgjiaakoacomaa
set_option maxRecDepth 20000
open Go.RowKit

def wallF (W H rx ry x y : Int) : Int := if onG W H x y then min (max (max (x - rx) (rx - x)) (max (y - ry) (ry - y))) (min (min (x + 1) (W - x)) (min (y + 1) (H - y))) else 0
theorem wall_on {W H rx ry x y : Int} (h : onG W H x y) : wallF W H rx ry x y = min (max (max (x - rx) (rx - x)) (max (y - ry) (ry - y))) (min (min (x + 1) (W - x)) (min (y + 1) (H - y))) := if_pos h
theorem wall_off {W H rx ry x y : Int} (h : ¬ onG W H x y) : wallF W H rx ry x y = 0 := if_neg h
theorem wall_lip {W H rx ry x y dx dy : Int} (ho : onG W H x y) (h1 : -1 ≤ dx) (h2 : dx ≤ 1) (h3 : -1 ≤ dy) (h4 : dy ≤ 1) : wallF W H rx ry x y ≤ wallF W H rx ry (x + dx) (y + dy) + 1 := by
  rw [wall_on ho]
  by_cases hn : onG W H (x + dx) (y + dy)
  · rw [wall_on hn]
    have a1 : max (x - rx) (rx - x) ≤ max (x + dx - rx) (rx - (x + dx)) + 1 := by omega
    have a2 : max (y - ry) (ry - y) ≤ max (y + dy - ry) (ry - (y + dy)) + 1 := by omega
    have a3 : min (x + 1) (W - x) ≤ min (x + dx + 1) (W - (x + dx)) + 1 := by omega
    have a4 : min (y + 1) (H - y) ≤ min (y + dy + 1) (H - (y + dy)) + 1 := by omega
    generalize max (x - rx) (rx - x) = b1 at *
    generalize max (y - ry) (ry - y) = b2 at *
    generalize min (x + 1) (W - x) = b3 at *
    generalize min (y + 1) (H - y) = b4 at *
    generalize max (x + dx - rx) (rx - (x + dx)) = c1 at *
    generalize max (y + dy - ry) (ry - (y + dy)) = c2 at *
    generalize min (x + dx + 1) (W - (x + dx)) = c3 at *
    generalize min (y + dy + 1) (H - (y + dy)) = c4 at *
    clear hn ho
    omega
  · rw [wall_off hn]
    have a3 : min (min (x + 1) (W - x)) (min (y + 1) (H - y)) ≤ 1 := by unfold onG at ho hn; omega
    generalize min (min (x + 1) (W - x)) (min (y + 1) (H - y)) = m at *
    generalize max (max (x - rx) (rx - x)) (max (y - ry) (ry - y)) = k at *
    omega
theorem wall_room (W H rx ry : Int) : Room W H (fun x y => ¬ (x = rx ∧ y = ry)) (wallF W H rx ry) := by
  refine ⟨fun x y h => wall_off h, fun x y => ?_, fun x y ho hs => ?_, fun x y ho hs => ?_, fun x y dx dy ho h1 h2 h3 h4 => wall_lip ho h1 h2 h3 h4, fun x y ho hs => ?_⟩
  · by_cases ho : onG W H x y
    · rw [wall_on ho]; unfold onG at ho; omega
    · rw [wall_off ho]; omega
  · rw [wall_on ho]; unfold onG at ho; omega
  · rw [wall_on ho]; unfold onG at ho; omega
  · have key : ∀ dx dy : Int, -1 ≤ dx → dx ≤ 1 → -1 ≤ dy → dy ≤ 1 → wallF W H rx ry (x + dx) (y + dy) ≤ wallF W H rx ry x y - 1 → ∃ dx dy, -1 ≤ dx ∧ dx ≤ 1 ∧ -1 ≤ dy ∧ dy ≤ 1 ∧ wallF W H rx ry x y = wallF W H rx ry (x + dx) (y + dy) + 1 := fun dx dy h1 h2 h3 h4 h5 =>
      ⟨dx, dy, h1, h2, h3, h4, by have := wall_lip (rx := rx) (ry := ry) ho h1 h2 h3 h4; omega⟩
    have hv := wall_on (rx := rx) (ry := ry) ho
    have h1 : 1 ≤ wallF W H rx ry x y := by rw [hv]; unfold onG at ho; omega
    have off : ∀ a b, ¬ onG W H a b → wallF W H rx ry a b ≤ wallF W H rx ry x y - 1 := fun a b h => by rw [wall_off h]; omega
    by_cases e1 : wallF W H rx ry x y = x + 1
    · refine key (-1) 0 (by omega) (by omega) (by omega) (by omega) ?_
      by_cases hn : onG W H (x + -1) (y + 0)
      · rw [e1, wall_on hn]; unfold onG at ho hn; omega
      · exact off _ _ hn
    by_cases e2 : wallF W H rx ry x y = W - x
    · refine key 1 0 (by omega) (by omega) (by omega) (by omega) ?_
      by_cases hn : onG W H (x + 1) (y + 0)
      · rw [e2, wall_on hn]; unfold onG at ho hn; omega
      · exact off _ _ hn
    by_cases e3 : wallF W H rx ry x y = y + 1
    · refine key 0 (-1) (by omega) (by omega) (by omega) (by omega) ?_
      by_cases hn : onG W H (x + 0) (y + -1)
      · rw [e3, wall_on hn]; unfold onG at ho hn; omega
      · exact off _ _ hn
    by_cases e4 : wallF W H rx ry x y = H - y
    · refine key 0 1 (by omega) (by omega) (by omega) (by omega) ?_
      by_cases hn : onG W H (x + 0) (y + 1)
      · rw [e4, wall_on hn]; unfold onG at ho hn; omega
      · exact off _ _ hn
    have e5 : wallF W H rx ry x y = max (max (x - rx) (rx - x)) (max (y - ry) (ry - y)) := by rw [hv] at e1 e2 e3 e4 ⊢; omega
    refine key (sgw (rx - x)) (sgw (ry - y)) (by unfold sgw; split <;> (try split) <;> omega) (by unfold sgw; split <;> (try split) <;> omega) (by unfold sgw; split <;> (try split) <;> omega) (by unfold sgw; split <;> (try split) <;> omega) ?_
    by_cases hn : onG W H (x + sgw (rx - x)) (y + sgw (ry - y))
    · have hx : max (x + sgw (rx - x) - rx) (rx - (x + sgw (rx - x))) = max (max (x - rx) (rx - x) - 1) 0 := by unfold sgw; split <;> (try split) <;> omega
      have hy : max (y + sgw (ry - y) - ry) (ry - (y + sgw (ry - y))) = max (max (y - ry) (ry - y) - 1) 0 := by unfold sgw; split <;> (try split) <;> omega
      rw [e5, wall_on hn, hx, hy]
      generalize min (min (x + sgw (rx - x) + 1) (W - (x + sgw (rx - x)))) (min (y + sgw (ry - y) + 1) (H - (y + sgw (ry - y)))) = m
      omega
    · exact off _ _ hn
/-- A list of room, from a function. -/
theorem roomL_of {W H : Int} {n : Nat} {f : Nat → Bool} {F : Int → Int → Int} (hn : (n : Int) = W * H) (h : Room W H (opP W f) F) : RoomL W H n f (intsOf n fun t => F (tX W t) (tY W t)) := by
  refine ⟨intsOf_len _ _, ?_⟩
  have e : atK W H (intsOf n fun t => F (tX W t) (tY W t)) = F := by
    funext x y
    by_cases ho : onG W H x y
    · obtain ⟨e1, e2, e3, _⟩ := xy_tile hn ho
      rw [show atK W H (intsOf n fun t => F (tX W t) (tY W t)) x y = (intsOf n fun t => F (tX W t) (tY W t)).getD (x + W * y).toNat 0 from if_pos ho, intsOf_at e1, e2, e3]
    · rw [h.out x y ho]; exact if_neg ho
  rw [e]; exact h
theorem room_congr {W H : Int} {op op' : Int → Int → Prop} {F : Int → Int → Int} (h : Room W H op F) (he : ∀ x y, onG W H x y → (op x y ↔ op' x y)) : Room W H op' F :=
  ⟨h.out, h.nn, fun x y ho hs => h.shut x y ho fun k => hs ((he x y ho).1 k), fun x y ho hs => h.pos x y ho ((he x y ho).2 hs), h.lip, fun x y ho hs => h.got x y ho ((he x y ho).2 hs)⟩
/-- Where all but one tile is open. -/
theorem wall_list {W H : Int} {n : Nat} {f : Nat → Bool} {r : Nat} {l : List Int} (hW : 1 ≤ W) (hn : (n : Int) = W * H) (hf : ∀ t, t < n → f t = !decide (t = r)) (hr : r < n) (h : RoomL W H n f l) : l = intsOf n fun t => wallF W H (tX W r) (tY W r) (tX W t) (tY W t) := by
  refine roomL_same hW hn h (roomL_of hn (room_congr (wall_room W H (tX W r) (tY W r)) fun x y ho => ?_))
  obtain ⟨e1, e2, e3, e4⟩ := xy_tile hn ho
  unfold opP
  rw [hf _ e1, Bool.not_eq_true', decide_eq_false_iff_not]
  constructor
  · intro h e
    exact h ⟨by rw [← e, e2], by rw [← e, e3]⟩
  · rintro h ⟨rfl, rfl⟩
    exact h (tile_xy hW hn hr).2
theorem plain_list {W H : Int} {n : Nat} {f : Nat → Bool} {l : List Int} (hW : 1 ≤ W) (hn : (n : Int) = W * H) (hf : ∀ t, t < n → f t = true) (h : RoomL W H n f l) : l = intsOf n fun t => wallF W H (-1) (-1) (tX W t) (tY W t) := by
  refine roomL_same hW hn h (roomL_of hn (room_congr (wall_room W H (-1) (-1)) fun x y ho => ?_))
  obtain ⟨e1, _, _, _⟩ := xy_tile hn ho
  unfold opP
  rw [hf _ e1]
  unfold onG at ho
  exact ⟨fun _ => rfl, fun _ h => by omega⟩
theorem three_list : (intsOf 9 fun t => wallF 3 3 (-1) (-1) (tX 3 t) (tY 3 t)) = [1, 1, 1, 1, 2, 1, 1, 1, 1] := by decide +kernel
end Go.Proofs.Ytfgjiaakoacomaa
