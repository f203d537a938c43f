/- The tiles that stand so many steps away, row by row. Plain mathematics. -/
import Derived.Test.YtfgjiaakoacomaaSlotMath
namespace Go.Proofs.Ytfgjiaakoacomaa
set_option maxRecDepth 20000

theorem filter_one {p q : Nat → Bool} {n a : Nat} (h0 : a < n) (h1 : ∀ t, t < n → (q t = true ↔ p t = true ∨ t = a)) (h2 : ∀ t, t < n → p t = true → t < a) : (List.range n).filter q = (List.range n).filter p ++ [a] := by
  obtain ⟨m, rfl⟩ : ∃ m, n = a + 1 + m := ⟨n - (a + 1), by omega⟩
  rw [List.range_add, List.filter_append, List.filter_append, List.range_succ, List.filter_append, List.filter_append]
  have e1 : List.filter q (List.range a) = List.filter p (List.range a) := List.filter_congr fun t ht => by
    have ht := List.mem_range.1 ht
    rw [Bool.eq_iff_iff, h1 t (by omega)]
    exact ⟨fun h => h.resolve_right (by omega), .inl⟩
  have e2 : List.filter q [a] = [a] := by rw [List.filter_cons_of_pos ((h1 a (by omega)).2 (.inr rfl))]; rfl
  have e3 : List.filter p [a] = [] := List.filter_eq_nil_iff.2 fun t ht hc => by
    rw [List.mem_singleton] at ht
    subst ht
    have := h2 t (by omega) hc
    omega
  have e4 : List.filter q (List.map (fun x => a + 1 + x) (List.range m)) = [] := List.filter_eq_nil_iff.2 fun t ht hc => by
    obtain ⟨u, hu, rfl⟩ := List.mem_map.1 ht
    have hu := List.mem_range.1 hu
    rcases (h1 _ (by omega)).1 hc with h | h
    · have := h2 _ (by omega) h
      omega
    · omega
  have e5 : List.filter p (List.map (fun x => a + 1 + x) (List.range m)) = [] := List.filter_eq_nil_iff.2 fun t ht hc => by
    obtain ⟨u, hu, rfl⟩ := List.mem_map.1 ht
    have hu := List.mem_range.1 hu
    have := h2 _ (by omega) hc
    omega
  rw [e1, e2, e3, e4, e5]
  simp

def befB (W : Int) (g : Nat) (j i : Int) (t : Nat) : Bool := decide (tY W t - tY W g < j ∨ (tY W t - tY W g = j ∧ tX W t - tX W g < i))
/-- The ring's tiles ahead of a place. -/
def ringP (W : Int) (n g : Nat) (s d j i : Int) : List Nat := (List.range n).filter (fun t => ringB W g s d t && befB W g j i t)
section
variable {W H : Int} {n g : Nat} {s d j i : Int}
theorem ringB_le {t : Nat} (h : ringB W g s d t = true) : -d ≤ tX W t - tX W g ∧ tX W t - tX W g ≤ d ∧ -d ≤ tY W t - tY W g ∧ tY W t - tY W g ≤ d := by
  unfold ringB at h
  rw [decide_eq_true_eq] at h
  exact cheb_le h.1
theorem ring_start : ringP W n g s d (-d) (-d) = [] := List.filter_eq_nil_iff.2 fun t _ hc => by
  rw [Bool.and_eq_true] at hc
  have := ringB_le hc.1
  have := hc.2
  unfold befB at this
  rw [decide_eq_true_eq] at this
  omega
theorem ring_same {j' i' : Int} (h : ∀ t, t < n → ringB W g s d t = true → (befB W g j i t = befB W g j' i' t)) : ringP W n g s d j i = ringP W n g s d j' i' := by
  unfold ringP
  refine List.filter_congr fun t ht => ?_
  cases hr : ringB W g s d t with
  | false => rfl
  | true => rw [h t (List.mem_range.1 ht) hr]
theorem ring_row : ringP W n g s d j (d + 1) = ringP W n g s d (j + 1) (-d) := ring_same fun t _ hr => by
  have := ringB_le hr
  unfold befB
  exact decide_eq_decide.2 (by omega)
theorem ring_end : ringP W n g s d (d + 1) (-d) = ringT W n g s d := by
  unfold ringP ringT
  refine List.filter_congr fun t ht => ?_
  cases hr : ringB W g s d t with
  | false => rfl
  | true =>
    have := ringB_le hr
    have : befB W g (d + 1) (-d) t = true := decide_eq_true (by omega)
    rw [this]
    rfl
theorem ring_no (hW : 1 ≤ W) (hn : (n : Int) = W * H) (h : ¬ (cheb i j = d ∧ i % s = 0 ∧ j % s = 0 ∧ onG W H (tX W g + i) (tY W g + j))) : ringP W n g s d j i = ringP W n g s d j (i + 1) := ring_same fun t ht hr => by
  unfold befB
  refine decide_eq_decide.2 ⟨fun h => by omega, fun h1 => ?_⟩
  by_cases e : tY W t - tY W g = j ∧ tX W t - tX W g = i
  · exfalso
    apply h
    unfold ringB at hr
    rw [decide_eq_true_eq, e.1, e.2] at hr
    obtain ⟨o, _⟩ := tile_xy hW hn ht
    refine ⟨hr.1, hr.2.1, hr.2.2, ?_⟩
    rw [show tX W g + i = tX W t by omega, show tY W g + j = tY W t by omega]
    exact o
  · omega
theorem ring_yes (hW : 1 ≤ W) (hn : (n : Int) = W * H) (h : cheb i j = d ∧ i % s = 0 ∧ j % s = 0) (ho : onG W H (tX W g + i) (tY W g + j)) : ringP W n g s d j (i + 1) = ringP W n g s d j i ++ [(tX W g + i + W * (tY W g + j)).toNat] := by
  obtain ⟨a1, a2, a3, a4⟩ := xy_tile hn ho
  refine filter_one a1 (fun t ht => ?_) (fun t ht hc => ?_)
  · rw [Bool.and_eq_true, Bool.and_eq_true]
    constructor
    · rintro ⟨h1, h2⟩
      unfold befB at h2
      rw [decide_eq_true_eq] at h2
      by_cases e : tY W t - tY W g = j ∧ tX W t - tX W g = i
      · right
        obtain ⟨_, e2⟩ := tile_xy hW hn ht
        rw [show tX W g + i = tX W t by omega, show tY W g + j = tY W t by omega]
        exact e2.symm
      · left
        refine ⟨h1, decide_eq_true (by omega)⟩
    · rintro (⟨h1, h2⟩ | rfl)
      · unfold befB at h2
        rw [decide_eq_true_eq] at h2
        exact ⟨h1, decide_eq_true (by omega)⟩
      · refine ⟨?_, decide_eq_true (by omega)⟩
        unfold ringB
        rw [a2, a3, show tX W g + i - tX W g = i by omega, show tY W g + j - tY W g = j by omega]
        exact decide_eq_true h
  · rw [Bool.and_eq_true] at hc
    have h2 := hc.2
    unfold befB at h2
    rw [decide_eq_true_eq] at h2
    obtain ⟨⟨b1, b2, b3, b4⟩, e2⟩ := tile_xy hW hn ht
    obtain ⟨c1, c2, c3, c4⟩ := ho
    have hm : 0 ≤ W * tY W t := Int.mul_nonneg (by omega) b3
    have hm2 : 0 ≤ W * (tY W g + j) := Int.mul_nonneg (by omega) c3
    rcases h2 with h2 | ⟨h2, h3⟩
    · have : W * (tY W t + 1) ≤ W * (tY W g + j) := Int.mul_le_mul_of_nonneg_left (by omega) (by omega)
      rw [Int.mul_add, Int.mul_one] at this
      omega
    · rw [show tY W t = tY W g + j by omega] at e2
      omega
end
end Go.Proofs.Ytfgjiaakoacomaa
