/- Roots of numbers, and the page's. -/
import Derived.Test.YtfgjiaakoacomaaRefTimesM
namespace Go.Proofs.Ytfgjiaakoacomaa
set_option maxRecDepth 20000
open Go.RowKit

theorem ref_less (h1 l1 h2 l2 : Int) (w : World) : Calls Try.prog 64 #[.agg #[.int .u64 h1, .int .u64 l1], .agg #[.int .u64 h2, .int .u64 l2]] w fun e w' => e = .returned (.bool (lessW h1 l1 h2 l2)) ∧ Below w.heap.size w w' := by
  by_cases hc : h1 < h2
  · have H : Hid (lessW h1 l1 h2 l2 = true) := decide_eq_true (.inl hc)
    go_enter Try.func64, Try.ntmps64
    go_wp2
    go_ret
    exact ⟨by rw [H.out]; rfl, ((Below.refl _ _).alloc (Nat.le_refl _) _).alloc (by simp) _⟩
  · have d1 : decide (h1 < h2) = false := decide_eq_false hc
    by_cases he : h1 = h2
    · have d2 : (h1 == h2) = true := by rw [beq_iff_eq]; exact he
      by_cases hl : l1 < l2
      · have H : Hid (lessW h1 l1 h2 l2 = true) := decide_eq_true (.inr ⟨he, hl⟩)
        clear he hc
        go_enter Try.func64, Try.ntmps64
        go_wp2
        go_ret
        exact ⟨by rw [H.out]; rfl, ((Below.refl _ _).alloc (Nat.le_refl _) _).alloc (by simp) _⟩
      · have H : Hid (lessW h1 l1 h2 l2 = false) := decide_eq_false (by omega)
        have d3 : decide (l1 < l2) = false := decide_eq_false hl
        clear he hc
        go_enter Try.func64, Try.ntmps64
        go_wp2
        go_ret
        exact ⟨by rw [H.out]; rfl, ((Below.refl _ _).alloc (Nat.le_refl _) _).alloc (by simp) _⟩
    · have H : Hid (lessW h1 l1 h2 l2 = false) := decide_eq_false (by omega)
      have d2 : (h1 == h2) = false := by rw [beq_eq_false_iff_ne]; exact he
      clear he hc
      go_enter Try.func64, Try.ntmps64
      go_wp2
      go_ret
      exact ⟨by rw [H.out]; rfl, ((Below.refl _ _).alloc (Nat.le_refl _) _).alloc (by simp) _⟩


/-- The greatest number, at most 'most', whose square is not above W. -/
def RootM (W most R : Int) : Prop := 0 ≤ R ∧ R ≤ most ∧ R * R ≤ W ∧ (R = most ∨ W < (R + 1) * (R + 1))
def GivesRoot (W most : Int) (w : World) (e : Ending) (w' : World) : Prop := ∃ R, e = .returned (.int .u64 R) ∧ RootM W most R ∧ Below w.heap.size w w'

/-- What the page's search holds. -/
def SearchInv (W most L H : Int) : Prop := 0 ≤ L ∧ L ≤ H ∧ H ≤ most ∧ L * L ≤ W ∧ (H = most ∨ W < (H + 1) * (H + 1))
theorem SearchInv.mid {W most L H : Int} (h : SearchInv W most L H) (hlt : L < H) : L < L + (H - L + 1) / 2 ∧ L + (H - L + 1) / 2 ≤ H ∧
    (W < (L + (H - L + 1) / 2) * (L + (H - L + 1) / 2) → SearchInv W most L (L + (H - L + 1) / 2 - 1)) ∧ (¬ W < (L + (H - L + 1) / 2) * (L + (H - L + 1) / 2) → SearchInv W most (L + (H - L + 1) / 2) H) := by
  obtain ⟨h0, h1, h2, h3, h4⟩ := h
  have e1 : L < L + (H - L + 1) / 2 := by omega
  have e2 : L + (H - L + 1) / 2 ≤ H := by omega
  generalize L + (H - L + 1) / 2 = m at *
  exact ⟨e1, e2, fun h => ⟨h0, by omega, by omega, h3, .inr (by rw [show m - 1 + 1 = m by omega]; exact h)⟩, fun h => ⟨by omega, e2, h2, by omega, h4⟩⟩

end Go.Proofs.Ytfgjiaakoacomaa
namespace Go.Proofs.Ytfgjiaakoacomaa
set_option maxRecDepth 20000
open Go.RowKit

/-- The root of a number. -/
def fsqrt (a : Int) : Int := if a ≤ 0 then 0 else rootF (a * 65536)
theorem fsqrt_range (a : Int) : 0 ≤ fsqrt a ∧ fsqrt a ≤ 9223372036854775807 := by
  unfold fsqrt
  by_cases h : a ≤ 0
  · rw [if_pos h]; omega
  · rw [if_neg h]; exact rootF_range (by omega)

theorem sqrt_hi (a : Int) : a / 281474976710656 * 18446744073709551616 + IntKind.u64.wrap (a * 65536) = a * 65536 := by
  rw [u64_wrap]; omega

theorem rootM_forty {a R : Int} (h1 : a ≤ 9223372036854775807) (h : RootM (a * 65536) 1099511627776 R) : rootF (a * 65536) = R := by
  obtain ⟨h2, h3, h4, h5⟩ := h
  refine rootF_eq ⟨h2, by omega, h4, ?_⟩
  rcases h5 with h5 | h5
  · subst h5; omega
  · exact .inr h5

end Go.Proofs.Ytfgjiaakoacomaa
