/- How much room has each tile? The game's own way. -/
import Derived.Test.YtjbnpgjndohjcaaClearMathM
import Derived.Test.YtjbnpgjndohjcaaBuildRise
import Derived.Test.YtjbnpgjndohjcaaOpen
namespace Go.Proofs.Ytjbnpgjndohjcaa
set_option maxRecDepth 20000
open Go.RowKit

def intsOf (n : Nat) (f : Nat → Int) : List Int := (List.range n).map f
theorem intsOf_len (n : Nat) (f : Nat → Int) : (intsOf n f).length = n := by simp [intsOf]
theorem intsOf_at {n : Nat} {f : Nat → Int} {t : Nat} (h : t < n) : (intsOf n f).getD t 0 = f t := by simp [intsOf, List.getD, h]
theorem intsOf_congr {n : Nat} {f g : Nat → Int} (h : ∀ t, t < n → f t = g t) : intsOf n f = intsOf n g := List.map_congr_left fun t ht => h t (List.mem_range.1 ht)
theorem intsOf_set (n : Nat) (f : Nat → Int) (k : Nat) (v : Int) : (intsOf n f).set k v = intsOf n (fun t => if t = k then v else f t) := by
  refine List.ext_getElem (by simp [intsOf]) fun i h1 h2 => ?_
  simp only [intsOf, List.getElem_set, List.getElem_map, List.getElem_range]
  by_cases e : k = i
  · subst e; simp
  · rw [if_neg e, if_neg (fun h => e h.symm)]
theorem intsOf_zero (n : Nat) : List.replicate n (0 : Int) = intsOf n (fun _ => 0) := List.ext_getElem (by simp [intsOf]) fun i h1 h2 => by simp [intsOf]

theorem upW_small : ∀ d ∈ upW, (-1 ≤ d.1 ∧ d.1 ≤ 1) ∧ (-1 ≤ d.2 ∧ d.2 ≤ 1) := by unfold upW; simp
theorem dnW_small : ∀ d ∈ dnW, (-1 ≤ d.1 ∧ d.1 ≤ 1) ∧ (-1 ≤ d.2 ∧ d.2 ≤ 1) := by unfold dnW; simp
def GivesRoom (W H : Int) (w : World) (n : Nat) (f : Nat → Bool) (e : Ending) (w' : World) : Prop :=
  ∃ A c l, e = .returned (.slice A n c) ∧ w'.ownsRow w.heap.size 3 1 (.slice A n c) n (nums .i64 l) ∧ RoomL W H n f l ∧ okK n l ∧ Below w.heap.size w w'

end Go.Proofs.Ytjbnpgjndohjcaa
namespace Go.Proofs.Ytjbnpgjndohjcaa
set_option maxRecDepth 20000
open Go.RowKit

def Gives2R (W H : Int) (w : World) (n : Nat) (f : Nat → Bool) (e : Ending) (w' : World) : Prop :=
  ∃ A c l, e = .returned (.tuple #[.slice A n c, .int .i64 0]) ∧ w'.ownsRow w.heap.size 3 1 (.slice A n c) n (nums .i64 l) ∧ RoomL W H n f l ∧ okK n l ∧ Below w.heap.size w w'

end Go.Proofs.Ytjbnpgjndohjcaa
namespace Go.Proofs.Ytjbnpgjndohjcaa
set_option maxRecDepth 20000
open Go.RowKit Go.WideShapes Go.ChangeShapes Go.ChangeAt

theorem bd_list {P : Nat → Bd → Prop} : ∀ n : Nat, (∀ i, i < n → ∃ z, P i z) → ∃ l : List Bd, l.length = n ∧ ∀ i, i < n → P i (bdAt l i)
  | 0, _ => ⟨[], rfl, fun i hi => absurd hi (by omega)⟩
  | n + 1, h => by
    obtain ⟨l, hl, hp⟩ := bd_list n (fun i hi => h i (by omega))
    obtain ⟨z, hz⟩ := h n (by omega)
    refine ⟨l ++ [z], by simp [hl], fun i hi => ?_⟩
    by_cases hin : i = n
    · subst hin
      have : bdAt (l ++ [z]) i = z := by simp [bdAt, List.getD, ← hl]
      rw [this]; exact hz
    · have : bdAt (l ++ [z]) i = bdAt l i := by simp [bdAt, List.getD, List.getElem?_append, hl, show i < n by omega]
      rw [this]; exact hp i (by omega)
set_option maxHeartbeats 800000 in
set_option maxRecDepth 20000 in
theorem open_bds {H : Type} {enc : TypeId × Value → H} {w : World} {fuel : Nat} {u : Value} {x : DataW H × List MemPlace} (hf : DataW.trod enc Try.prog w 0 (fun _ => true) true fuel 25 [u] = some x) :
    ∃ A n c l, u = .slice A n c ∧ n ≤ c ∧ c ≤ maxLen ∧ BdsL w A n l := by
  obtain ⟨A, n, c, he, hl, hm, hi⟩ := open_rows Try.underlying25 hf
  simp only [List.cons.injEq, and_true] at he
  have hC : Try.prog.cellsOf 86 = 6 := by kernel_rfl
  obtain ⟨l, hl1, hl2⟩ := bd_list (P := fun i z => ∃ b o : Nat, A = some ⟨b, o, none⟩ ∧ b < w.heap.size ∧ (w.cell? ⟨b, o + i * 6, none⟩ = some (.int .i64 z.id) ∧ w.cell? ⟨b, o + i * 6 + 1, none⟩ = some (.int .i64 z.ow) ∧ w.cell? ⟨b, o + i * 6 + 2, none⟩ = some (.int .i64 z.x) ∧ w.cell? ⟨b, o + i * 6 + 3, none⟩ = some (.int .i64 z.y) ∧ w.cell? ⟨b, o + i * 6 + 4, none⟩ = some (.int .i64 z.w) ∧ w.cell? ⟨b, o + i * 6 + 5, none⟩ = some (.int .i64 z.h)) ∧ i64P z.id ∧ i64P z.ow ∧ i64P z.x ∧ i64P z.y ∧ i64P z.w ∧ i64P z.h) n (fun i hlt => by
    obtain ⟨b0, o0, u0, x0, y0, e0, hb, hc0, ht0⟩ := hi i hlt 0 3 (Leaf.field Try.underlying86 0 _ rfl (of_decide_eq_true (by kernel_rfl))) (by kernel_rfl)
    obtain ⟨b1, o1, u1, x1, y1, e1, _, hc1, ht1⟩ := hi i hlt 1 3 (Leaf.field Try.underlying86 1 _ rfl (of_decide_eq_true (by kernel_rfl))) (by kernel_rfl)
    obtain ⟨b2, o2, u2, x2, y2, e2, _, hc2, ht2⟩ := hi i hlt 2 3 (Leaf.field Try.underlying86 2 _ rfl (of_decide_eq_true (by kernel_rfl))) (by kernel_rfl)
    obtain ⟨b3, o3, u3, x3, y3, e3, _, hc3, ht3⟩ := hi i hlt 3 3 (Leaf.field Try.underlying86 3 _ rfl (of_decide_eq_true (by kernel_rfl))) (by kernel_rfl)
    obtain ⟨b4, o4, u4, x4, y4, e4, _, hc4, ht4⟩ := hi i hlt 4 3 (Leaf.field Try.underlying86 4 _ rfl (of_decide_eq_true (by kernel_rfl))) (by kernel_rfl)
    obtain ⟨b5, o5, u5, x5, y5, e5, _, hc5, ht5⟩ := hi i hlt 5 3 (Leaf.field Try.underlying86 5 _ rfl (of_decide_eq_true (by kernel_rfl))) (by kernel_rfl)
    subst e0
    simp only [Option.some.injEq, Addr.mk.injEq, and_true] at e1
    obtain ⟨rfl, rfl⟩ := e1
    simp only [Option.some.injEq, Addr.mk.injEq, and_true] at e2
    obtain ⟨rfl, rfl⟩ := e2
    simp only [Option.some.injEq, Addr.mk.injEq, and_true] at e3
    obtain ⟨rfl, rfl⟩ := e3
    simp only [Option.some.injEq, Addr.mk.injEq, and_true] at e4
    obtain ⟨rfl, rfl⟩ := e4
    simp only [Option.some.injEq, Addr.mk.injEq, and_true] at e5
    obtain ⟨rfl, rfl⟩ := e5
    rw [hC] at hc0 hc1 hc2 hc3 hc4 hc5
    obtain ⟨v0, h0, w0⟩ := open_num Try.underlying3 ht0
    obtain ⟨v1, h1, w1⟩ := open_num Try.underlying3 ht1
    obtain ⟨v2, h2, w2⟩ := open_num Try.underlying3 ht2
    obtain ⟨v3, h3, w3⟩ := open_num Try.underlying3 ht3
    obtain ⟨v4, h4, w4⟩ := open_num Try.underlying3 ht4
    obtain ⟨v5, h5, w5⟩ := open_num Try.underlying3 ht5
    simp only [List.cons.injEq, and_true] at h0 h1 h2 h3 h4 h5
    subst h0; subst h1; subst h2; subst h3; subst h4; subst h5
    exact ⟨⟨v0, v1, v2, v3, v4, v5⟩, _, _, rfl, hb, ⟨hc0, by rw [Nat.add_assoc]; exact hc1, by rw [Nat.add_assoc]; exact hc2, by rw [Nat.add_assoc]; exact hc3, by rw [Nat.add_assoc]; exact hc4, by rw [Nat.add_assoc]; exact hc5⟩, i64_of_wf w0, i64_of_wf w1, i64_of_wf w2, i64_of_wf w3, i64_of_wf w4, i64_of_wf w5⟩)
  exact ⟨A, n, c, l, he, hl, hm, hl1, hl2⟩
end Go.Proofs.Ytjbnpgjndohjcaa
namespace Go.Proofs.Ytjbnpgjndohjcaa
set_option maxRecDepth 20000
open Go.RowKit Go.WideShapes Go.ChangeShapes Go.ChangeAt

theorem Leaf.one9 {H : Type} {enc : TypeId × Value → H} {P : Program} {w : World} {fuel : Nat} {t l : TypeId} {off : Nat} {cs : List Value} {x : DataW H × List MemPlace} (h : Leaf P t off l) (h1 : P.cellsOf l = 1) (hlen : cs.length = P.cellsOf t)
    (hf : DataW.trod enc P w 0 (fun _ => true) true fuel t cs = some x) : ∃ (u : Value) (m : Nat) (y : DataW H × List MemPlace), cs[off]? = some u ∧ DataW.trod enc P w 0 (fun _ => true) true m l [u] = some y := by
  obtain ⟨n, y, hy⟩ := h.2 H enc w 0 _ true fuel cs x hf
  have hoff : off < cs.length := by have := h.1; omega
  refine ⟨cs[off], n, y, List.getElem?_eq_getElem hoff, ?_⟩
  rw [← hy, h1, List.drop_eq_getElem_cons hoff]
  rfl
theorem arr_of9 {cs : Array Value} {a b c d e : Value} (h : cs.size = 5) (h0 : cs.toList[0]? = some a) (h1 : cs.toList[1]? = some b) (h2 : cs.toList[2]? = some c) (h3 : cs.toList[3]? = some d) (h4 : cs.toList[4]? = some e) : cs = #[a, b, c, d, e] := by
  apply Array.ext_getElem?
  intro i
  rw [← Array.getElem?_toList]
  rcases (show i = 0 ∨ i = 1 ∨ i = 2 ∨ i = 3 ∨ i = 4 ∨ 5 ≤ i by omega) with rfl | rfl | rfl | rfl | rfl | hi
  · exact h0
  · exact h1
  · exact h2
  · exact h3
  · exact h4
  · rw [List.getElem?_eq_none (by simpa [h] using hi), Array.getElem?_eq_none (by simpa using hi)]
set_option maxHeartbeats 800000 in
set_option maxRecDepth 20000 in
theorem great_is (W H : Int) (A A1 : Option Addr) (n c n1 c1 : Nat) (w : World) (hn : (n : Int) ≤ 9223372036854775807) (hn1 : (n1 : Int) ≤ 9223372036854775807) :
    Calls Try.prog 48 #[.agg #[.int .i64 W, .int .i64 H, .slice A n c], .slice A1 n1 c1] w fun e w' => e = .returned (.bool (decide (700 < n ∨ 30 < n1))) ∧ Below w.heap.size w w' := by
  have hb := (Below.refl w.heap.size w).alloc (Nat.le_refl _) (.cells #[.int .i64 W, .int .i64 H, .slice A n c] 24)
  by_cases h1 : 700 < n
  · have d1 : decide ((700 : Int) < (n : Int)) = true := by simp; omega
    rw [decide_eq_true (show 700 < n ∨ 30 < n1 from .inl h1)]
    go_enter Try.func48, Try.ntmps48
    go_wp2_with fail
    go_ret
    exact ⟨rfl, hb⟩
  · have d1 : decide ((700 : Int) < (n : Int)) = false := by simp; omega
    by_cases h2 : 30 < n1
    · have d2 : decide ((30 : Int) < (n1 : Int)) = true := by simp; omega
      rw [decide_eq_true (show 700 < n ∨ 30 < n1 from .inr h2)]
      go_enter Try.func48, Try.ntmps48
      go_wp2_with fail
      go_ret
      exact ⟨rfl, hb⟩
    · have d2 : decide ((30 : Int) < (n1 : Int)) = false := by simp; omega
      rw [decide_eq_false (show ¬ (700 < n ∨ 30 < n1) by omega)]
      go_enter Try.func48, Try.ntmps48
      go_wp2_with fail
      go_ret
      exact ⟨rfl, hb⟩
end Go.Proofs.Ytjbnpgjndohjcaa
namespace Go.Proofs.Ytjbnpgjndohjcaa
set_option maxRecDepth 20000
open Go.RowKit

def wallF (W H rx ry x y : Int) : Int := if onG W H x y then min (max (max (x - rx) (rx - x)) (max (y - ry) (ry - y))) (min (min (x + 1) (W - x)) (min (y + 1) (H - y))) else 0
theorem wall_on {W H rx ry x y : Int} (h : onG W H x y) : wallF W H rx ry x y = min (max (max (x - rx) (rx - x)) (max (y - ry) (ry - y))) (min (min (x + 1) (W - x)) (min (y + 1) (H - y))) := if_pos h
theorem wall_off {W H rx ry x y : Int} (h : ¬ onG W H x y) : wallF W H rx ry x y = 0 := if_neg h
theorem wall_lip {W H rx ry x y dx dy : Int} (ho : onG W H x y) (h1 : -1 ≤ dx) (h2 : dx ≤ 1) (h3 : -1 ≤ dy) (h4 : dy ≤ 1) : wallF W H rx ry x y ≤ wallF W H rx ry (x + dx) (y + dy) + 1 := by
  rw [wall_on ho]
  by_cases hn : onG W H (x + dx) (y + dy)
  · rw [wall_on hn]
    have a1 : max (x - rx) (rx - x) ≤ max (x + dx - rx) (rx - (x + dx)) + 1 := by omega
    have a2 : max (y - ry) (ry - y) ≤ max (y + dy - ry) (ry - (y + dy)) + 1 := by omega
    have a3 : min (x + 1) (W - x) ≤ min (x + dx + 1) (W - (x + dx)) + 1 := by omega
    have a4 : min (y + 1) (H - y) ≤ min (y + dy + 1) (H - (y + dy)) + 1 := by omega
    generalize max (x - rx) (rx - x) = b1 at *
    generalize max (y - ry) (ry - y) = b2 at *
    generalize min (x + 1) (W - x) = b3 at *
    generalize min (y + 1) (H - y) = b4 at *
    generalize max (x + dx - rx) (rx - (x + dx)) = c1 at *
    generalize max (y + dy - ry) (ry - (y + dy)) = c2 at *
    generalize min (x + dx + 1) (W - (x + dx)) = c3 at *
    generalize min (y + dy + 1) (H - (y + dy)) = c4 at *
    clear hn ho
    omega
  · rw [wall_off hn]
    have a3 : min (min (x + 1) (W - x)) (min (y + 1) (H - y)) ≤ 1 := by unfold onG at ho hn; omega
    generalize min (min (x + 1) (W - x)) (min (y + 1) (H - y)) = m at *
    generalize max (max (x - rx) (rx - x)) (max (y - ry) (ry - y)) = k at *
    omega
theorem wall_room (W H rx ry : Int) : Room W H (fun x y => ¬ (x = rx ∧ y = ry)) (wallF W H rx ry) := by
  refine ⟨fun x y h => wall_off h, fun x y => ?_, fun x y ho hs => ?_, fun x y ho hs => ?_, fun x y dx dy ho h1 h2 h3 h4 => wall_lip ho h1 h2 h3 h4, fun x y ho hs => ?_⟩
  · by_cases ho : onG W H x y
    · rw [wall_on ho]; unfold onG at ho; omega
    · rw [wall_off ho]; omega
  · rw [wall_on ho]; unfold onG at ho; omega
  · rw [wall_on ho]; unfold onG at ho; omega
  · have key : ∀ dx dy : Int, -1 ≤ dx → dx ≤ 1 → -1 ≤ dy → dy ≤ 1 → wallF W H rx ry (x + dx) (y + dy) ≤ wallF W H rx ry x y - 1 → ∃ dx dy, -1 ≤ dx ∧ dx ≤ 1 ∧ -1 ≤ dy ∧ dy ≤ 1 ∧ wallF W H rx ry x y = wallF W H rx ry (x + dx) (y + dy) + 1 := fun dx dy h1 h2 h3 h4 h5 =>
      ⟨dx, dy, h1, h2, h3, h4, by have := wall_lip (rx := rx) (ry := ry) ho h1 h2 h3 h4; omega⟩
    have hv := wall_on (rx := rx) (ry := ry) ho
    have h1 : 1 ≤ wallF W H rx ry x y := by rw [hv]; unfold onG at ho; omega
    have off : ∀ a b, ¬ onG W H a b → wallF W H rx ry a b ≤ wallF W H rx ry x y - 1 := fun a b h => by rw [wall_off h]; omega
    by_cases e1 : wallF W H rx ry x y = x + 1
    · refine key (-1) 0 (by omega) (by omega) (by omega) (by omega) ?_
      by_cases hn : onG W H (x + -1) (y + 0)
      · rw [e1, wall_on hn]; unfold onG at ho hn; omega
      · exact off _ _ hn
    by_cases e2 : wallF W H rx ry x y = W - x
    · refine key 1 0 (by omega) (by omega) (by omega) (by omega) ?_
      by_cases hn : onG W H (x + 1) (y + 0)
      · rw [e2, wall_on hn]; unfold onG at ho hn; omega
      · exact off _ _ hn
    by_cases e3 : wallF W H rx ry x y = y + 1
    · refine key 0 (-1) (by omega) (by omega) (by omega) (by omega) ?_
      by_cases hn : onG W H (x + 0) (y + -1)
      · rw [e3, wall_on hn]; unfold onG at ho hn; omega
      · exact off _ _ hn
    by_cases e4 : wallF W H rx ry x y = H - y
    · refine key 0 1 (by omega) (by omega) (by omega) (by omega) ?_
      by_cases hn : onG W H (x + 0) (y + 1)
      · rw [e4, wall_on hn]; unfold onG at ho hn; omega
      · exact off _ _ hn
    have e5 : wallF W H rx ry x y = max (max (x - rx) (rx - x)) (max (y - ry) (ry - y)) := by rw [hv] at e1 e2 e3 e4 ⊢; omega
    refine key (sgw (rx - x)) (sgw (ry - y)) (by unfold sgw; split <;> (try split) <;> omega) (by unfold sgw; split <;> (try split) <;> omega) (by unfold sgw; split <;> (try split) <;> omega) (by unfold sgw; split <;> (try split) <;> omega) ?_
    by_cases hn : onG W H (x + sgw (rx - x)) (y + sgw (ry - y))
    · have hx : max (x + sgw (rx - x) - rx) (rx - (x + sgw (rx - x))) = max (max (x - rx) (rx - x) - 1) 0 := by unfold sgw; split <;> (try split) <;> omega
      have hy : max (y + sgw (ry - y) - ry) (ry - (y + sgw (ry - y))) = max (max (y - ry) (ry - y) - 1) 0 := by unfold sgw; split <;> (try split) <;> omega
      rw [e5, wall_on hn, hx, hy]
      generalize min (min (x + sgw (rx - x) + 1) (W - (x + sgw (rx - x)))) (min (y + sgw (ry - y) + 1) (H - (y + sgw (ry - y)))) = m
      omega
    · exact off _ _ hn
/-- A list of room, from a function. -/
theorem roomL_of {W H : Int} {n : Nat} {f : Nat → Bool} {F : Int → Int → Int} (hn : (n : Int) = W * H) (h : Room W H (opP W f) F) : RoomL W H n f (intsOf n fun t => F (tX W t) (tY W t)) := by
  refine ⟨intsOf_len _ _, ?_⟩
  have e : atK W H (intsOf n fun t => F (tX W t) (tY W t)) = F := by
    funext x y
    by_cases ho : onG W H x y
    · obtain ⟨e1, e2, e3, _⟩ := xy_tile hn ho
      rw [show atK W H (intsOf n fun t => F (tX W t) (tY W t)) x y = (intsOf n fun t => F (tX W t) (tY W t)).getD (x + W * y).toNat 0 from if_pos ho, intsOf_at e1, e2, e3]
    · rw [h.out x y ho]; exact if_neg ho
  rw [e]; exact h
theorem room_congr {W H : Int} {op op' : Int → Int → Prop} {F : Int → Int → Int} (h : Room W H op F) (he : ∀ x y, onG W H x y → (op x y ↔ op' x y)) : Room W H op' F :=
  ⟨h.out, h.nn, fun x y ho hs => h.shut x y ho fun k => hs ((he x y ho).1 k), fun x y ho hs => h.pos x y ho ((he x y ho).2 hs), h.lip, fun x y ho hs => h.got x y ho ((he x y ho).2 hs)⟩
/-- Where all but one tile is open. -/
theorem wall_list {W H : Int} {n : Nat} {f : Nat → Bool} {r : Nat} {l : List Int} (hW : 1 ≤ W) (hn : (n : Int) = W * H) (hf : ∀ t, t < n → f t = !decide (t = r)) (hr : r < n) (h : RoomL W H n f l) : l = intsOf n fun t => wallF W H (tX W r) (tY W r) (tX W t) (tY W t) := by
  refine roomL_same hW hn h (roomL_of hn (room_congr (wall_room W H (tX W r) (tY W r)) fun x y ho => ?_))
  obtain ⟨e1, e2, e3, e4⟩ := xy_tile hn ho
  unfold opP
  rw [hf _ e1, Bool.not_eq_true', decide_eq_false_iff_not]
  constructor
  · intro h e
    exact h ⟨by rw [← e, e2], by rw [← e, e3]⟩
  · rintro h ⟨rfl, rfl⟩
    exact h (tile_xy hW hn hr).2
theorem plain_list {W H : Int} {n : Nat} {f : Nat → Bool} {l : List Int} (hW : 1 ≤ W) (hn : (n : Int) = W * H) (hf : ∀ t, t < n → f t = true) (h : RoomL W H n f l) : l = intsOf n fun t => wallF W H (-1) (-1) (tX W t) (tY W t) := by
  refine roomL_same hW hn h (roomL_of hn (room_congr (wall_room W H (-1) (-1)) fun x y ho => ?_))
  obtain ⟨e1, _, _, _⟩ := xy_tile hn ho
  unfold opP
  rw [hf _ e1]
  unfold onG at ho
  exact ⟨fun _ => rfl, fun _ h => by omega⟩
theorem three_list : (intsOf 9 fun t => wallF 3 3 (-1) (-1) (tX 3 t) (tY 3 t)) = [1, 1, 1, 1, 2, 1, 1, 1, 1] := by decide +kernel
end Go.Proofs.Ytjbnpgjndohjcaa
