/- Places about a goal, nearer ones first. Plain mathematics. -/
import Derived.Test.YtfgjiaakoacomaaTileMathM
namespace Go.Proofs.Ytfgjiaakoacomaa
set_option maxRecDepth 20000

def cheb (dx dy : Int) : Int := max (max dx (-dx)) (max dy (-dy))
/-- Is a tile just d steps from g, in steps of s? -/
def ringB (W : Int) (g : Nat) (s d : Int) (t : Nat) : Bool := decide (cheb (tX W t - tX W g) (tY W t - tY W g) = d ∧ (tX W t - tX W g) % s = 0 ∧ (tY W t - tY W g) % s = 0)
def ringT (W : Int) (n g : Nat) (s d : Int) : List Nat := (List.range n).filter (ringB W g s d)
def lvl (W : Int) (n g : Nat) (s : Int) (good : Nat → Bool) (d : Nat) : List Nat := (ringT W n g s (d : Int)).filter good
def lvls (f : Nat → List Nat) : Nat → List Nat
  | 0 => []
  | m + 1 => lvls f m ++ f m
def asI (l : List Nat) : List Int := l.map Int.ofNat
theorem asI_len (l : List Nat) : (asI l).length = l.length := by simp [asI]
theorem asI_app (l m : List Nat) : asI (l ++ m) = asI l ++ asI m := by simp [asI]
/-- The places: the first N of all levels. -/
def slotsN (W H : Int) (n g : Nat) (s : Int) (good : Nat → Bool) (N : Nat) : List Nat := (lvls (lvl W n g s good) (W + H + 1).toNat).take N

theorem take_more {X Y : List Nat} {N : Nat} (h : N ≤ X.length) : (X ++ Y).take N = X.take N := List.take_append_of_le_length h
theorem take_step {X : List Nat} {N : Nat} {t : Nat} (h : (X.take N).length < N) : (X ++ [t]).take N = X.take N ++ [t] := by
  have hx : X.length < N := by rw [List.length_take] at h; omega
  rw [List.take_of_length_le (by simp; omega), List.take_of_length_le (by omega)]
theorem lvls_le {f : Nat → List Nat} {a : Nat} : ∀ b, a ≤ b → ∃ Y, lvls f b = lvls f a ++ Y
  | 0, h => ⟨[], by rw [show a = 0 by omega]; simp⟩
  | b + 1, h => by
    by_cases e : a = b + 1
    · exact ⟨[], by rw [e]; simp⟩
    · obtain ⟨Y, hY⟩ := lvls_le (f := f) b (show a ≤ b by omega)
      exact ⟨Y ++ f b, by rw [lvls, hY, List.append_assoc]⟩
theorem lvls_empty {f : Nat → List Nat} {a : Nat} : ∀ b, a ≤ b → (∀ m, a ≤ m → m < b → f m = []) → lvls f b = lvls f a
  | 0, h, _ => by rw [show a = 0 by omega]
  | b + 1, h, hf => by
    by_cases e : a = b + 1
    · rw [e]
    · rw [lvls, lvls_empty b (by omega) (fun m h1 h2 => hf m h1 (by omega)), hf b (by omega) (by omega), List.append_nil]
theorem cheb_or (dx dy : Int) : cheb dx dy = dx ∨ cheb dx dy = -dx ∨ cheb dx dy = dy ∨ cheb dx dy = -dy := by unfold cheb; omega
theorem cheb_le {dx dy d : Int} (h : cheb dx dy = d) : -d ≤ dx ∧ dx ≤ d ∧ -d ≤ dy ∧ dy ≤ d := by unfold cheb at h; omega
section
variable {W H : Int} {n g : Nat} {s : Int} {good : Nat → Bool}
theorem lvl_none {d : Nat} (h : ¬ (d : Int) % s = 0) : lvl W n g s good d = [] := by
  unfold lvl ringT
  rw [show (List.range n).filter (ringB W g s d) = [] from List.filter_eq_nil_iff.2 fun t _ hc => by
    unfold ringB at hc
    rw [decide_eq_true_eq] at hc
    obtain ⟨h1, h2, h3⟩ := hc
    apply h
    rcases cheb_or (tX W t - tX W g) (tY W t - tY W g) with e | e | e | e <;> rw [← h1, e]
    · exact h2
    · rw [← Int.dvd_iff_emod_eq_zero]; exact Int.dvd_neg.2 (Int.dvd_iff_emod_eq_zero.2 h2)
    · exact h3
    · rw [← Int.dvd_iff_emod_eq_zero]; exact Int.dvd_neg.2 (Int.dvd_iff_emod_eq_zero.2 h3)]
  rfl
theorem lvl_far {d : Nat} (hW : 1 ≤ W) (hn : (n : Int) = W * H) (hg : g < n) (h1 : W ≤ d) (h2 : H ≤ d) : lvl W n g s good d = [] := by
  unfold lvl ringT
  rw [show (List.range n).filter (ringB W g s d) = [] from List.filter_eq_nil_iff.2 fun t ht hc => by
    unfold ringB at hc
    rw [decide_eq_true_eq] at hc
    obtain ⟨⟨a1, a2, a3, a4⟩, _⟩ := tile_xy hW hn hg
    obtain ⟨⟨b1, b2, b3, b4⟩, _⟩ := tile_xy hW hn (List.mem_range.1 ht)
    have := cheb_le hc.1
    have := cheb_or (tX W t - tX W g) (tY W t - tY W g)
    omega]
  rfl
/-- A level, as far as tile t. -/
def segT (W : Int) (g : Nat) (s : Int) (good : Nat → Bool) (d t : Nat) : List Nat := ((List.range t).filter (ringB W g s d)).filter good
theorem seg_none (d : Nat) : segT W g s good d 0 = [] := rfl
theorem seg_yes {d t : Nat} (h1 : ringB W g s d t = true) (h2 : good t = true) : segT W g s good d (t + 1) = segT W g s good d t ++ [t] := by
  unfold segT; rw [List.range_succ, List.filter_append, List.filter_append]; simp [h1, h2]
theorem seg_no {d t : Nat} (h : ringB W g s d t = true → good t = false) : segT W g s good d (t + 1) = segT W g s good d t := by
  unfold segT; rw [List.range_succ, List.filter_append, List.filter_append]
  cases h1 : ringB W g s d t with
  | false => simp [h1]
  | true => simp [h1, h h1]
theorem seg_more {d : Nat} : ∀ b a, a ≤ b → ∃ Y, segT W g s good d b = segT W g s good d a ++ Y
  | 0, a, h => ⟨[], by rw [show a = 0 by omega]; simp⟩
  | b + 1, a, h => by
    by_cases e : a = b + 1
    · exact ⟨[], by rw [e]; simp⟩
    · obtain ⟨Y, hY⟩ := seg_more b a (by omega)
      cases h1 : ringB W g s d b with
      | false => exact ⟨Y, by rw [seg_no (fun h => by rw [h1] at h; cases h), hY]⟩
      | true =>
        cases h2 : good b with
        | false => exact ⟨Y, by rw [seg_no (fun _ => h2), hY]⟩
        | true => exact ⟨Y ++ [b], by rw [seg_yes h1 h2, hY, List.append_assoc]⟩
theorem lvls_stop {d t N : Nat} (ht : t ≤ n) (h : N ≤ ((lvls (lvl W n g s good) d ++ segT W g s good d t).take N).length) : (lvls (lvl W n g s good) d ++ segT W g s good d t).take N = (lvls (lvl W n g s good) (d + 1)).take N := by
  have hl : N ≤ (lvls (lvl W n g s good) d ++ segT W g s good d t).length := by rw [List.length_take] at h; omega
  obtain ⟨Y, hY⟩ := seg_more (W := W) (g := g) (s := s) (good := good) (d := d) n t ht
  rw [show lvls (lvl W n g s good) (d + 1) = (lvls (lvl W n g s good) d ++ segT W g s good d t) ++ Y by
    rw [lvls, List.append_assoc, ← hY]; rfl]
  exact (take_more hl).symm
theorem slots_stop {d N : Nat} (hd : d ≤ (W + H + 1).toNat) (h : N ≤ ((lvls (lvl W n g s good) d).take N).length) : (lvls (lvl W n g s good) d).take N = slotsN W H n g s good N := by
  have hl : N ≤ (lvls (lvl W n g s good) d).length := by rw [List.length_take] at h; omega
  obtain ⟨Y, hY⟩ := lvls_le (f := lvl W n g s good) _ hd
  unfold slotsN
  rw [hY, take_more hl]
/-- Levels beyond the ground are empty. -/
theorem lvls_end {a : Nat} (hW : 1 ≤ W) (hn : (n : Int) = W * H) (hg : g < n) (h1 : W ≤ a) (h2 : H ≤ a) {b : Nat} (hb : W ≤ b) (hb2 : H ≤ b) : lvls (lvl W n g s good) a = lvls (lvl W n g s good) b := by
  by_cases h : a ≤ b
  · exact (lvls_empty b h (fun m k1 k2 => lvl_far hW hn hg (by omega) (by omega))).symm
  · exact lvls_empty a (by omega) (fun m k1 k2 => lvl_far hW hn hg (by omega) (by omega))
theorem filter_to {p : Nat → Bool} {a b n : Nat} (ha : a ≤ n) (hb : b ≤ n) (h : ∀ t, t < n → p t = true → (t < a ↔ t < b)) : (List.range a).filter p = (List.range b).filter p := by
  have key : ∀ a, a ≤ n → (List.range a).filter p = (List.range n).filter (fun t => decide (t < a) && p t) := fun a ha => by
    obtain ⟨c, rfl⟩ : ∃ c, n = a + c := ⟨n - a, by omega⟩
    rw [List.range_add, List.filter_append]
    rw [show List.filter (fun t => decide (t < a) && p t) (List.map (fun x => a + x) (List.range c)) = [] from List.filter_eq_nil_iff.2 fun t ht => by
      obtain ⟨u, _, rfl⟩ := List.mem_map.1 ht
      simp; omega]
    rw [List.append_nil]
    exact List.filter_congr fun t ht => by simp [List.mem_range.1 ht]
  rw [key a ha, key b hb]
  refine List.filter_congr fun t ht => ?_
  cases hp : p t with
  | false => simp
  | true => simp [h t (List.mem_range.1 ht) hp]
end
end Go.Proofs.Ytfgjiaakoacomaa
namespace Go.Proofs.Ytfgjiaakoacomaa
set_option maxRecDepth 20000

theorem filter_one {p q : Nat → Bool} {n a : Nat} (h0 : a < n) (h1 : ∀ t, t < n → (q t = true ↔ p t = true ∨ t = a)) (h2 : ∀ t, t < n → p t = true → t < a) : (List.range n).filter q = (List.range n).filter p ++ [a] := by
  obtain ⟨m, rfl⟩ : ∃ m, n = a + 1 + m := ⟨n - (a + 1), by omega⟩
  rw [List.range_add, List.filter_append, List.filter_append, List.range_succ, List.filter_append, List.filter_append]
  have e1 : List.filter q (List.range a) = List.filter p (List.range a) := List.filter_congr fun t ht => by
    have ht := List.mem_range.1 ht
    rw [Bool.eq_iff_iff, h1 t (by omega)]
    exact ⟨fun h => h.resolve_right (by omega), .inl⟩
  have e2 : List.filter q [a] = [a] := by rw [List.filter_cons_of_pos ((h1 a (by omega)).2 (.inr rfl))]; rfl
  have e3 : List.filter p [a] = [] := List.filter_eq_nil_iff.2 fun t ht hc => by
    rw [List.mem_singleton] at ht
    subst ht
    have := h2 t (by omega) hc
    omega
  have e4 : List.filter q (List.map (fun x => a + 1 + x) (List.range m)) = [] := List.filter_eq_nil_iff.2 fun t ht hc => by
    obtain ⟨u, hu, rfl⟩ := List.mem_map.1 ht
    have hu := List.mem_range.1 hu
    rcases (h1 _ (by omega)).1 hc with h | h
    · have := h2 _ (by omega) h
      omega
    · omega
  have e5 : List.filter p (List.map (fun x => a + 1 + x) (List.range m)) = [] := List.filter_eq_nil_iff.2 fun t ht hc => by
    obtain ⟨u, hu, rfl⟩ := List.mem_map.1 ht
    have hu := List.mem_range.1 hu
    have := h2 _ (by omega) hc
    omega
  rw [e1, e2, e3, e4, e5]
  simp

def befB (W : Int) (g : Nat) (j i : Int) (t : Nat) : Bool := decide (tY W t - tY W g < j ∨ (tY W t - tY W g = j ∧ tX W t - tX W g < i))
/-- The ring's tiles ahead of a place. -/
def ringP (W : Int) (n g : Nat) (s d j i : Int) : List Nat := (List.range n).filter (fun t => ringB W g s d t && befB W g j i t)
section
variable {W H : Int} {n g : Nat} {s d j i : Int}
theorem ringB_le {t : Nat} (h : ringB W g s d t = true) : -d ≤ tX W t - tX W g ∧ tX W t - tX W g ≤ d ∧ -d ≤ tY W t - tY W g ∧ tY W t - tY W g ≤ d := by
  unfold ringB at h
  rw [decide_eq_true_eq] at h
  exact cheb_le h.1
theorem ring_start : ringP W n g s d (-d) (-d) = [] := List.filter_eq_nil_iff.2 fun t _ hc => by
  rw [Bool.and_eq_true] at hc
  have := ringB_le hc.1
  have := hc.2
  unfold befB at this
  rw [decide_eq_true_eq] at this
  omega
theorem ring_same {j' i' : Int} (h : ∀ t, t < n → ringB W g s d t = true → (befB W g j i t = befB W g j' i' t)) : ringP W n g s d j i = ringP W n g s d j' i' := by
  unfold ringP
  refine List.filter_congr fun t ht => ?_
  cases hr : ringB W g s d t with
  | false => rfl
  | true => rw [h t (List.mem_range.1 ht) hr]
theorem ring_row : ringP W n g s d j (d + 1) = ringP W n g s d (j + 1) (-d) := ring_same fun t _ hr => by
  have := ringB_le hr
  unfold befB
  exact decide_eq_decide.2 (by omega)
theorem ring_end : ringP W n g s d (d + 1) (-d) = ringT W n g s d := by
  unfold ringP ringT
  refine List.filter_congr fun t ht => ?_
  cases hr : ringB W g s d t with
  | false => rfl
  | true =>
    have := ringB_le hr
    have : befB W g (d + 1) (-d) t = true := decide_eq_true (by omega)
    rw [this]
    rfl
theorem ring_no (hW : 1 ≤ W) (hn : (n : Int) = W * H) (h : ¬ (cheb i j = d ∧ i % s = 0 ∧ j % s = 0 ∧ onG W H (tX W g + i) (tY W g + j))) : ringP W n g s d j i = ringP W n g s d j (i + 1) := ring_same fun t ht hr => by
  unfold befB
  refine decide_eq_decide.2 ⟨fun h => by omega, fun h1 => ?_⟩
  by_cases e : tY W t - tY W g = j ∧ tX W t - tX W g = i
  · exfalso
    apply h
    unfold ringB at hr
    rw [decide_eq_true_eq, e.1, e.2] at hr
    obtain ⟨o, _⟩ := tile_xy hW hn ht
    refine ⟨hr.1, hr.2.1, hr.2.2, ?_⟩
    rw [show tX W g + i = tX W t by omega, show tY W g + j = tY W t by omega]
    exact o
  · omega
theorem ring_yes (hW : 1 ≤ W) (hn : (n : Int) = W * H) (h : cheb i j = d ∧ i % s = 0 ∧ j % s = 0) (ho : onG W H (tX W g + i) (tY W g + j)) : ringP W n g s d j (i + 1) = ringP W n g s d j i ++ [(tX W g + i + W * (tY W g + j)).toNat] := by
  obtain ⟨a1, a2, a3, a4⟩ := xy_tile hn ho
  refine filter_one a1 (fun t ht => ?_) (fun t ht hc => ?_)
  · rw [Bool.and_eq_true, Bool.and_eq_true]
    constructor
    · rintro ⟨h1, h2⟩
      unfold befB at h2
      rw [decide_eq_true_eq] at h2
      by_cases e : tY W t - tY W g = j ∧ tX W t - tX W g = i
      · right
        obtain ⟨_, e2⟩ := tile_xy hW hn ht
        rw [show tX W g + i = tX W t by omega, show tY W g + j = tY W t by omega]
        exact e2.symm
      · left
        refine ⟨h1, decide_eq_true (by omega)⟩
    · rintro (⟨h1, h2⟩ | rfl)
      · unfold befB at h2
        rw [decide_eq_true_eq] at h2
        exact ⟨h1, decide_eq_true (by omega)⟩
      · refine ⟨?_, decide_eq_true (by omega)⟩
        unfold ringB
        rw [a2, a3, show tX W g + i - tX W g = i by omega, show tY W g + j - tY W g = j by omega]
        exact decide_eq_true h
  · rw [Bool.and_eq_true] at hc
    have h2 := hc.2
    unfold befB at h2
    rw [decide_eq_true_eq] at h2
    obtain ⟨⟨b1, b2, b3, b4⟩, e2⟩ := tile_xy hW hn ht
    obtain ⟨c1, c2, c3, c4⟩ := ho
    have hm : 0 ≤ W * tY W t := Int.mul_nonneg (by omega) b3
    have hm2 : 0 ≤ W * (tY W g + j) := Int.mul_nonneg (by omega) c3
    rcases h2 with h2 | ⟨h2, h3⟩
    · have : W * (tY W t + 1) ≤ W * (tY W g + j) := Int.mul_le_mul_of_nonneg_left (by omega) (by omega)
      rw [Int.mul_add, Int.mul_one] at this
      omega
    · rw [show tY W t = tY W g + j by omega] at e2
      omega
end
end Go.Proofs.Ytfgjiaakoacomaa
