/- What tiles cost: kind.Cost. -/
import Derived.Test.YtdcilabbjejklaaKindRef
namespace Go.Proofs.Ytdcilabbjejklaa
open Go.RowKit

theorem kind_cost_yes (c t : Int) (w : World) (hc0 : 0 ≤ c) (hc : c ≤ 2) (ht0 : 0 ≤ t) (ht : t ≤ 5) : Calls Try.prog 18 #[.int .i64 c, .int .u8 t] w fun e w' => e = .returned (.tuple #[.int .i64 (price c t), .int .i64 0]) ∧ Below w.heap.size w w' := by
  have K := Lib.hid (fun W => kind_class c W)
  rw [decide_eq_true (show 0 ≤ c ∧ c ≤ 2 from ⟨hc0, hc⟩)] at K
  have K2 := Lib.hid (fun W => kind_price c t W hc0 hc ht0 ht)
  generalize price c t = pr at *
  go_enter Try.func18, Try.ntmps18
  go_wp2_with fail
  refine (K.out _).mono ?_
  rintro e w1 ⟨rfl, rfl⟩
  go_wp2_with fail
  refine (K2.out _).mono ?_
  rintro e w1 ⟨rfl, hb⟩
  go_wp2
  go_ret2
  exact ⟨rfl, hb⟩
theorem kind_cost_no (c t : Int) (w : World) (h : ¬ (0 ≤ c ∧ c ≤ 2) ∨ 5 < t) : Calls Try.prog 18 #[.int .i64 c, .int .u8 t] w fun e w' => e = .returned (.tuple #[.int .i64 0, .int .i64 1]) ∧ Below w.heap.size w w' := by
  have K := Lib.hid (fun W => kind_class c W)
  by_cases hc : 0 ≤ c ∧ c ≤ 2
  · rw [decide_eq_true hc] at K
    have ht : 5 < t := h.resolve_left (fun h => h hc)
    clear h hc
    go_enter Try.func18, Try.ntmps18
    go_wp2_with fail
    refine (K.out _).mono ?_
    rintro e w1 ⟨rfl, rfl⟩
    go_wp2
    go_ret2
    exact ⟨rfl, Below.refl _ _⟩
  · rw [decide_eq_false hc] at K
    clear h hc
    go_enter Try.func18, Try.ntmps18
    go_wp2_with fail
    refine (K.out _).mono ?_
    rintro e w1 ⟨rfl, rfl⟩
    go_wp2
    go_ret2
    exact ⟨rfl, Below.refl _ _⟩

end Go.Proofs.Ytdcilabbjejklaa
