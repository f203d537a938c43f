/- fixed's sums, and the page's: what each computes. -/
import Derived.Test.YtfgjiaakoacomaaRows
import Derived.Test.YtfgjiaakoacomaaBase
import Derived.Test.YtfgjiaakoacomaaFixMath
import Derived.Outline
namespace Go.Proofs.Ytfgjiaakoacomaa
set_option maxRecDepth 20000
open Go.RowKit

theorem ref_of (a : Int) (w : World) : Calls Try.prog 63 #[.int .i64 a] w fun e w' => e = .returned (.int .i64 (nrm a)) ∧ w = w' := by
  by_cases h : a < -9223372036854775807
  · have H : Hid (nrm a = -9223372036854775807) := by show _ = _; unfold nrm; rw [if_pos h]
    go_enter Try.func63, Try.ntmps63
    go_wp2
    go_ret
    exact ⟨by rw [H.out]; rfl, rfl⟩
  · have H : Hid (nrm a = a) := by show _ = _; unfold nrm; rw [if_neg h]
    have h' : -9223372036854775807 ≤ a := by omega
    go_enter Try.func63, Try.ntmps63
    go_wp2
    go_ret
    exact ⟨by rw [H.out]; rfl, rfl⟩


/-- A sum of two numbers that count as A and B. -/
theorem ref_add (a b : Int) (w : World) (ha : a ≤ 9223372036854775807) (hb : b ≤ 9223372036854775807) : Calls Try.prog 82 #[.int .i64 a, .int .i64 b] w fun e w' => e = .returned (.int .i64 (fadd a b)) ∧ w = w' := by
  have NA := Lib.hid (fun W => ref_of a W)
  have NB := Lib.hid (fun W => ref_of b W)
  have h1 := @fadd_hi a b
  have h2 := @fadd_lo a b
  have h3 := @fadd_in a b
  have ra := nrm_range ha
  have rb := nrm_range hb
  generalize nrm a = A at *
  generalize nrm b = B at *
  generalize fadd a b = F at *
  obtain ⟨ra1, ra2⟩ := ra
  obtain ⟨rb1, rb2⟩ := rb
  by_cases hp : 0 < B
  · have hn : ¬ B < 0 := by omega
    by_cases hc : 9223372036854775807 - B < A
    · have H : Hid (F = 9223372036854775807) := h1 (by omega)
      clear h1 h2 h3
      go_enter Try.func82, Try.ntmps82
      go_wp2_with fail
      refine Calls.mono (NA.out _) ?_
      rintro e w1 ⟨rfl, rfl⟩
      go_wp2_with fail
      refine Calls.mono (NB.out _) ?_
      rintro e w1 ⟨rfl, rfl⟩
      go_wp2
      go_ret
      exact ⟨by rw [H.out]; rfl, rfl⟩
    · have H : Hid (F = A + B) := h3 (by omega) (by omega)
      clear h1 h2 h3
      go_enter Try.func82, Try.ntmps82
      go_wp2_with fail
      refine Calls.mono (NA.out _) ?_
      rintro e w1 ⟨rfl, rfl⟩
      go_wp2_with fail
      refine Calls.mono (NB.out _) ?_
      rintro e w1 ⟨rfl, rfl⟩
      go_wp2
      go_ret
      exact ⟨by rw [H.out]; rfl, rfl⟩
  · by_cases hn : B < 0
    · by_cases hc : A < -9223372036854775807 - B
      · have H : Hid (F = -9223372036854775807) := h2 (by omega)
        clear h1 h2 h3
        go_enter Try.func82, Try.ntmps82
        go_wp2_with fail
        refine Calls.mono (NA.out _) ?_
        rintro e w1 ⟨rfl, rfl⟩
        go_wp2_with fail
        refine Calls.mono (NB.out _) ?_
        rintro e w1 ⟨rfl, rfl⟩
        go_wp2
        go_ret
        exact ⟨by rw [H.out]; rfl, rfl⟩
      · have H : Hid (F = A + B) := h3 (by omega) (by omega)
        clear h1 h2 h3
        go_enter Try.func82, Try.ntmps82
        go_wp2_with fail
        refine Calls.mono (NA.out _) ?_
        rintro e w1 ⟨rfl, rfl⟩
        go_wp2_with fail
        refine Calls.mono (NB.out _) ?_
        rintro e w1 ⟨rfl, rfl⟩
        go_wp2
        go_ret
        exact ⟨by rw [H.out]; rfl, rfl⟩
    · have H : Hid (F = A + B) := h3 (by omega) (by omega)
      have hB : B ≤ 0 := by omega
      clear h1 h2 h3
      go_enter Try.func82, Try.ntmps82
      go_wp2_with fail
      refine Calls.mono (NA.out _) ?_
      rintro e w1 ⟨rfl, rfl⟩
      go_wp2_with fail
      refine Calls.mono (NB.out _) ?_
      rintro e w1 ⟨rfl, rfl⟩
      go_wp2
      go_ret
      exact ⟨by rw [H.out]; rfl, rfl⟩

theorem ref_neg (a : Int) (w : World) (ha : a ≤ 9223372036854775807) : Calls Try.prog 83 #[.int .i64 a] w fun e w' => e = .returned (.int .i64 (fneg a)) ∧ w = w' := by
  have NA := Lib.hid (fun W => ref_of a W)
  have H : Hid (fneg a = -(nrm a)) := rfl
  have ra := nrm_range ha
  generalize nrm a = A at *
  obtain ⟨ra1, ra2⟩ := ra
  go_enter Try.func83, Try.ntmps83
  go_wp2_with fail
  refine Calls.mono (NA.out _) ?_
  rintro e w1 ⟨rfl, rfl⟩
  go_wp2
  go_ret
  exact ⟨by rw [H.out]; rfl, rfl⟩

theorem ref_sub (a b : Int) (w : World) (ha : a ≤ 9223372036854775807) (hb : b ≤ 9223372036854775807) : Calls Try.prog 79 #[.int .i64 a, .int .i64 b] w fun e w' => e = .returned (.int .i64 (fsub a b)) ∧ w = w' := by
  have NB := Lib.hid (fun W => ref_neg b W hb)
  have NA := Lib.hid (fun W => ref_add a (fneg b) W ha (fneg_range hb).2)
  go_enter Try.func79, Try.ntmps79
  go_wp2_with fail
  refine Calls.mono (NB.out _) ?_
  rintro e w1 ⟨rfl, rfl⟩
  go_wp2_with fail
  refine Calls.mono (NA.out _) ?_
  rintro e w1 ⟨rfl, rfl⟩
  go_wp2
  go_ret
  exact ⟨rfl, rfl⟩

end Go.Proofs.Ytfgjiaakoacomaa
