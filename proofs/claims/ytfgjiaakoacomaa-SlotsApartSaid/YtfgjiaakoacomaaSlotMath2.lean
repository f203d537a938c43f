/- Places about a goal stand apart, nearer ones first. Plain mathematics. -/
import Derived.Test.YtfgjiaakoacomaaSlotMathM
namespace Go.Proofs.Ytfgjiaakoacomaa
set_option maxRecDepth 20000

def stepsT (W : Int) (g t : Nat) : Int := cheb (tX W t - tX W g) (tY W t - tY W g)
section
variable {W H : Int} {n g : Nat} {s : Int} {good : Nat → Bool}
theorem mem_lvl {d t : Nat} (h : t ∈ lvl W n g s good d) : t < n ∧ good t = true ∧ stepsT W g t = (d : Int) ∧ (tX W t - tX W g) % s = 0 ∧ (tY W t - tY W g) % s = 0 := by
  unfold lvl ringT at h
  obtain ⟨h1, h2⟩ := List.mem_filter.1 h
  obtain ⟨h3, h4⟩ := List.mem_filter.1 h1
  unfold ringB at h4
  rw [decide_eq_true_eq] at h4
  exact ⟨List.mem_range.1 h3, h2, h4⟩
theorem mem_lvls {t : Nat} : ∀ m, t ∈ lvls (lvl W n g s good) m → ∃ d, d < m ∧ t ∈ lvl W n g s good d
  | 0, h => by cases h
  | m + 1, h => by
    rcases List.mem_append.1 h with h | h
    · obtain ⟨d, h1, h2⟩ := mem_lvls m h
      exact ⟨d, by omega, h2⟩
    · exact ⟨m, by omega, h⟩
def befT (W : Int) (g a b : Nat) : Prop := stepsT W g a ≤ stepsT W g b ∧ a ≠ b
theorem pair_lvls : ∀ m, (lvls (lvl W n g s good) m).Pairwise (befT W g)
  | 0 => List.Pairwise.nil
  | m + 1 => by
    refine List.pairwise_append.2 ⟨pair_lvls m, ?_, fun a ha b hb => ?_⟩
    · have h0 : (lvl W n g s good m).Pairwise (· ≠ ·) := (List.nodup_range.sublist (List.filter_sublist.trans List.filter_sublist))
      exact h0.imp_of_mem fun {a b} ha hb hab => ⟨by rw [(mem_lvl ha).2.2.1, (mem_lvl hb).2.2.1]; exact Int.le_refl _, hab⟩
    · obtain ⟨d, hd, ha⟩ := mem_lvls m ha
      have e1 := (mem_lvl ha).2.2.1
      have e2 := (mem_lvl hb).2.2.1
      refine ⟨by rw [e1, e2]; omega, ?_⟩
      rintro rfl
      omega
theorem slots_mem {N t : Nat} (h : t ∈ slotsN W H n g s good N) : t < n ∧ good t = true ∧ (tX W t - tX W g) % s = 0 ∧ (tY W t - tY W g) % s = 0 := by
  obtain ⟨d, _, h2⟩ := mem_lvls _ (List.mem_of_mem_take h)
  have := mem_lvl h2
  exact ⟨this.1, this.2.1, this.2.2.2⟩
theorem slots_pair (N : Nat) : (slotsN W H n g s good N).Pairwise (befT W g) := (pair_lvls _).sublist (List.take_sublist _ _)
theorem slots_len (N : Nat) : (slotsN W H n g s good N).length ≤ N := by unfold slotsN; rw [List.length_take]; omega
theorem slots_few {M N : Nat} (h : M ≤ N) : slotsN W H n g s good M = (slotsN W H n g s good N).take M := by
  unfold slotsN
  rw [List.take_take, Nat.min_eq_left h]
theorem lvl_zero (hW : 1 ≤ W) (hn : (n : Int) = W * H) (hg : g < n) (hgood : good g = true) : lvl W n g s good 0 = [g] := by
  have e : (List.range n).filter (ringB W g s 0) = [g] := by
    have h := filter_one (p := fun _ => false) (q := ringB W g s 0) hg (fun t ht => ?_) (fun t ht h => by cases h)
    · rw [h, List.filter_eq_nil_iff.2 (fun _ _ h => by cases h)]
      rfl
    · unfold ringB
      rw [decide_eq_true_eq]
      constructor
      · rintro ⟨h, _⟩
        right
        have := cheb_le h
        have e1 := (tile_xy hW hn ht).2
        have e2 := (tile_xy hW hn hg).2
        rw [show tX W t = tX W g by omega, show tY W t = tY W g by omega] at e1
        omega
      · rintro (h | rfl)
        · cases h
        · refine ⟨by unfold cheb; omega, by simp, by simp⟩
  unfold lvl ringT
  rw [show ((0 : Nat) : Int) = 0 from rfl, e, List.filter_cons_of_pos hgood]
  rfl
theorem slots_head (hW : 1 ≤ W) (hH : 0 ≤ H) (hn : (n : Int) = W * H) (hg : g < n) (hgood : good g = true) (N : Nat) : ∃ Y, slotsN W H n g s good (N + 1) = g :: Y := by
  obtain ⟨Y, hY⟩ := lvls_le (f := lvl W n g s good) (a := 1) (W + H + 1).toNat (by omega)
  refine ⟨Y.take N, ?_⟩
  unfold slotsN
  rw [hY, show lvls (lvl W n g s good) 1 = [] ++ lvl W n g s good 0 from rfl, lvl_zero hW hn hg hgood]
  rfl
/-- Two places are a whole gap apart. -/
theorem slots_apart (hW : 1 ≤ W) (hn : (n : Int) = W * H) (hs : 0 < s) {t u : Nat} (ht : t < n) (hu : u < n) (hne : t ≠ u) (h1 : (tX W t - tX W g) % s = 0) (h2 : (tY W t - tY W g) % s = 0) (h3 : (tX W u - tX W g) % s = 0) (h4 : (tY W u - tY W g) % s = 0) :
    s ≤ tX W t - tX W u ∨ s ≤ tX W u - tX W t ∨ s ≤ tY W t - tY W u ∨ s ≤ tY W u - tY W t := by
  have key : ∀ a b : Int, a % s = 0 → b % s = 0 → a = b ∨ s ≤ a - b ∨ s ≤ b - a := fun a b ha hb => by
    obtain ⟨x, rfl⟩ := Int.dvd_of_emod_eq_zero ha
    obtain ⟨y, rfl⟩ := Int.dvd_of_emod_eq_zero hb
    rcases (show x = y ∨ y + 1 ≤ x ∨ x + 1 ≤ y by omega) with h | h | h
    · exact .inl (by rw [h])
    · have := Int.mul_le_mul_of_nonneg_left h (Int.le_of_lt hs)
      rw [Int.mul_add, Int.mul_one] at this
      exact .inr (.inl (by omega))
    · have := Int.mul_le_mul_of_nonneg_left h (Int.le_of_lt hs)
      rw [Int.mul_add, Int.mul_one] at this
      exact .inr (.inr (by omega))
  have e1 := (tile_xy hW hn ht).2
  have e2 := (tile_xy hW hn hu).2
  rcases key _ _ h1 h3 with k1 | k1 | k1
  · rcases key _ _ h2 h4 with k2 | k2 | k2
    · exfalso
      rw [show tX W t = tX W u by omega, show tY W t = tY W u by omega] at e1
      omega
    · omega
    · omega
  · omega
  · omega
end
end Go.Proofs.Ytfgjiaakoacomaa
