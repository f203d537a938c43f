/- fixed's sums, and the page's: what each computes. -/
import Derived.Test.YtjbnpgjndohjcaaRows
import Derived.Test.YtjbnpgjndohjcaaBase
import Derived.Test.YtjbnpgjndohjcaaFixMath
import Derived.Outline
namespace Go.Proofs.Ytjbnpgjndohjcaa
set_option maxRecDepth 20000
open Go.RowKit

theorem fix_norm (a : Int) (w : World) : Calls Try.prog 104 #[.int .i64 a] w fun e w' => e = .returned (.int .i64 (nrm a)) ∧ w = w' := by
  by_cases h : a < -9223372036854775807
  · have H : Hid (nrm a = -9223372036854775807) := by show _ = _; unfold nrm; rw [if_pos h]
    go_enter Try.func104, Try.ntmps104
    go_wp2
    go_ret
    exact ⟨by rw [H.out]; rfl, rfl⟩
  · have H : Hid (nrm a = a) := by show _ = _; unfold nrm; rw [if_neg h]
    have h' : -9223372036854775807 ≤ a := by omega
    clear h
    go_enter Try.func104, Try.ntmps104
    go_wp2
    go_ret
    exact ⟨by rw [H.out]; rfl, rfl⟩

theorem ref_of (a : Int) (w : World) : Calls Try.prog 47 #[.int .i64 a] w fun e w' => e = .returned (.int .i64 (nrm a)) ∧ w = w' := by
  by_cases h : a < -9223372036854775807
  · have H : Hid (nrm a = -9223372036854775807) := by show _ = _; unfold nrm; rw [if_pos h]
    go_enter Try.func47, Try.ntmps47
    go_wp2
    go_ret
    exact ⟨by rw [H.out]; rfl, rfl⟩
  · have H : Hid (nrm a = a) := by show _ = _; unfold nrm; rw [if_neg h]
    have h' : -9223372036854775807 ≤ a := by omega
    go_enter Try.func47, Try.ntmps47
    go_wp2
    go_ret
    exact ⟨by rw [H.out]; rfl, rfl⟩


/-- A sum of two numbers that count as A and B. -/
theorem fix_add (a b : Int) (w : World) (ha : a ≤ 9223372036854775807) (hb : b ≤ 9223372036854775807) : Calls Try.prog 90 #[.int .i64 a, .int .i64 b] w fun e w' => e = .returned (.int .i64 (fadd a b)) ∧ w = w' := by
  have NA := Lib.hid (fun W => fix_norm a W)
  have NB := Lib.hid (fun W => fix_norm b W)
  have h1 := @fadd_hi a b
  have h2 := @fadd_lo a b
  have h3 := @fadd_in a b
  have ra := nrm_range ha
  have rb := nrm_range hb
  generalize nrm a = A at *
  generalize nrm b = B at *
  generalize fadd a b = F at *
  obtain ⟨ra1, ra2⟩ := ra
  obtain ⟨rb1, rb2⟩ := rb
  by_cases hp : 0 < B
  · have hn : ¬ B < 0 := by omega
    by_cases hc : 9223372036854775807 - B < A
    · have H : Hid (F = 9223372036854775807) := h1 (by omega)
      clear h1 h2 h3
      go_enter Try.func90, Try.ntmps90
      go_wp2_with fail
      refine Calls.mono (NA.out _) ?_
      rintro e w1 ⟨rfl, rfl⟩
      go_wp2_with fail
      refine Calls.mono (NB.out _) ?_
      rintro e w1 ⟨rfl, rfl⟩
      go_wp2
      go_ret
      exact ⟨by rw [H.out]; rfl, rfl⟩
    · have H : Hid (F = A + B) := h3 (by omega) (by omega)
      clear h1 h2 h3
      go_enter Try.func90, Try.ntmps90
      go_wp2_with fail
      refine Calls.mono (NA.out _) ?_
      rintro e w1 ⟨rfl, rfl⟩
      go_wp2_with fail
      refine Calls.mono (NB.out _) ?_
      rintro e w1 ⟨rfl, rfl⟩
      go_wp2
      go_ret
      exact ⟨by rw [H.out]; rfl, rfl⟩
  · by_cases hn : B < 0
    · by_cases hc : A < -9223372036854775807 - B
      · have H : Hid (F = -9223372036854775807) := h2 (by omega)
        clear h1 h2 h3
        go_enter Try.func90, Try.ntmps90
        go_wp2_with fail
        refine Calls.mono (NA.out _) ?_
        rintro e w1 ⟨rfl, rfl⟩
        go_wp2_with fail
        refine Calls.mono (NB.out _) ?_
        rintro e w1 ⟨rfl, rfl⟩
        go_wp2
        go_ret
        exact ⟨by rw [H.out]; rfl, rfl⟩
      · have H : Hid (F = A + B) := h3 (by omega) (by omega)
        clear h1 h2 h3
        go_enter Try.func90, Try.ntmps90
        go_wp2_with fail
        refine Calls.mono (NA.out _) ?_
        rintro e w1 ⟨rfl, rfl⟩
        go_wp2_with fail
        refine Calls.mono (NB.out _) ?_
        rintro e w1 ⟨rfl, rfl⟩
        go_wp2
        go_ret
        exact ⟨by rw [H.out]; rfl, rfl⟩
    · have H : Hid (F = A + B) := h3 (by omega) (by omega)
      have hB : B ≤ 0 := by omega
      clear h1 h2 h3
      go_enter Try.func90, Try.ntmps90
      go_wp2_with fail
      refine Calls.mono (NA.out _) ?_
      rintro e w1 ⟨rfl, rfl⟩
      go_wp2_with fail
      refine Calls.mono (NB.out _) ?_
      rintro e w1 ⟨rfl, rfl⟩
      go_wp2
      go_ret
      exact ⟨by rw [H.out]; rfl, rfl⟩

/-- A sum of two numbers that count as A and B. -/
theorem ref_add (a b : Int) (w : World) (ha : a ≤ 9223372036854775807) (hb : b ≤ 9223372036854775807) : Calls Try.prog 91 #[.int .i64 a, .int .i64 b] w fun e w' => e = .returned (.int .i64 (fadd a b)) ∧ w = w' := by
  have NA := Lib.hid (fun W => ref_of a W)
  have NB := Lib.hid (fun W => ref_of b W)
  have h1 := @fadd_hi a b
  have h2 := @fadd_lo a b
  have h3 := @fadd_in a b
  have ra := nrm_range ha
  have rb := nrm_range hb
  generalize nrm a = A at *
  generalize nrm b = B at *
  generalize fadd a b = F at *
  obtain ⟨ra1, ra2⟩ := ra
  obtain ⟨rb1, rb2⟩ := rb
  by_cases hp : 0 < B
  · have hn : ¬ B < 0 := by omega
    by_cases hc : 9223372036854775807 - B < A
    · have H : Hid (F = 9223372036854775807) := h1 (by omega)
      clear h1 h2 h3
      go_enter Try.func91, Try.ntmps91
      go_wp2_with fail
      refine Calls.mono (NA.out _) ?_
      rintro e w1 ⟨rfl, rfl⟩
      go_wp2_with fail
      refine Calls.mono (NB.out _) ?_
      rintro e w1 ⟨rfl, rfl⟩
      go_wp2
      go_ret
      exact ⟨by rw [H.out]; rfl, rfl⟩
    · have H : Hid (F = A + B) := h3 (by omega) (by omega)
      clear h1 h2 h3
      go_enter Try.func91, Try.ntmps91
      go_wp2_with fail
      refine Calls.mono (NA.out _) ?_
      rintro e w1 ⟨rfl, rfl⟩
      go_wp2_with fail
      refine Calls.mono (NB.out _) ?_
      rintro e w1 ⟨rfl, rfl⟩
      go_wp2
      go_ret
      exact ⟨by rw [H.out]; rfl, rfl⟩
  · by_cases hn : B < 0
    · by_cases hc : A < -9223372036854775807 - B
      · have H : Hid (F = -9223372036854775807) := h2 (by omega)
        clear h1 h2 h3
        go_enter Try.func91, Try.ntmps91
        go_wp2_with fail
        refine Calls.mono (NA.out _) ?_
        rintro e w1 ⟨rfl, rfl⟩
        go_wp2_with fail
        refine Calls.mono (NB.out _) ?_
        rintro e w1 ⟨rfl, rfl⟩
        go_wp2
        go_ret
        exact ⟨by rw [H.out]; rfl, rfl⟩
      · have H : Hid (F = A + B) := h3 (by omega) (by omega)
        clear h1 h2 h3
        go_enter Try.func91, Try.ntmps91
        go_wp2_with fail
        refine Calls.mono (NA.out _) ?_
        rintro e w1 ⟨rfl, rfl⟩
        go_wp2_with fail
        refine Calls.mono (NB.out _) ?_
        rintro e w1 ⟨rfl, rfl⟩
        go_wp2
        go_ret
        exact ⟨by rw [H.out]; rfl, rfl⟩
    · have H : Hid (F = A + B) := h3 (by omega) (by omega)
      have hB : B ≤ 0 := by omega
      clear h1 h2 h3
      go_enter Try.func91, Try.ntmps91
      go_wp2_with fail
      refine Calls.mono (NA.out _) ?_
      rintro e w1 ⟨rfl, rfl⟩
      go_wp2_with fail
      refine Calls.mono (NB.out _) ?_
      rintro e w1 ⟨rfl, rfl⟩
      go_wp2
      go_ret
      exact ⟨by rw [H.out]; rfl, rfl⟩

theorem fix_neg (a : Int) (w : World) (ha : a ≤ 9223372036854775807) : Calls Try.prog 107 #[.int .i64 a] w fun e w' => e = .returned (.int .i64 (fneg a)) ∧ w = w' := by
  have NA := Lib.hid (fun W => fix_norm a W)
  have H : Hid (fneg a = -(nrm a)) := rfl
  have ra := nrm_range ha
  generalize nrm a = A at *
  obtain ⟨ra1, ra2⟩ := ra
  go_enter Try.func107, Try.ntmps107
  go_wp2_with fail
  refine Calls.mono (NA.out _) ?_
  rintro e w1 ⟨rfl, rfl⟩
  go_wp2
  go_ret
  exact ⟨by rw [H.out]; rfl, rfl⟩

theorem ref_neg (a : Int) (w : World) (ha : a ≤ 9223372036854775807) : Calls Try.prog 94 #[.int .i64 a] w fun e w' => e = .returned (.int .i64 (fneg a)) ∧ w = w' := by
  have NA := Lib.hid (fun W => ref_of a W)
  have H : Hid (fneg a = -(nrm a)) := rfl
  have ra := nrm_range ha
  generalize nrm a = A at *
  obtain ⟨ra1, ra2⟩ := ra
  go_enter Try.func94, Try.ntmps94
  go_wp2_with fail
  refine Calls.mono (NA.out _) ?_
  rintro e w1 ⟨rfl, rfl⟩
  go_wp2
  go_ret
  exact ⟨by rw [H.out]; rfl, rfl⟩

theorem fix_sub (a b : Int) (w : World) (ha : a ≤ 9223372036854775807) (hb : b ≤ 9223372036854775807) : Calls Try.prog 88 #[.int .i64 a, .int .i64 b] w fun e w' => e = .returned (.int .i64 (fsub a b)) ∧ w = w' := by
  have NB := Lib.hid (fun W => fix_neg b W hb)
  have NA := Lib.hid (fun W => fix_add a (fneg b) W ha (fneg_range hb).2)
  go_enter Try.func88, Try.ntmps88
  go_wp2_with fail
  refine Calls.mono (NB.out _) ?_
  rintro e w1 ⟨rfl, rfl⟩
  go_wp2_with fail
  refine Calls.mono (NA.out _) ?_
  rintro e w1 ⟨rfl, rfl⟩
  go_wp2
  go_ret
  exact ⟨rfl, rfl⟩

theorem ref_sub (a b : Int) (w : World) (ha : a ≤ 9223372036854775807) (hb : b ≤ 9223372036854775807) : Calls Try.prog 64 #[.int .i64 a, .int .i64 b] w fun e w' => e = .returned (.int .i64 (fsub a b)) ∧ w = w' := by
  have NB := Lib.hid (fun W => ref_neg b W hb)
  have NA := Lib.hid (fun W => ref_add a (fneg b) W ha (fneg_range hb).2)
  go_enter Try.func64, Try.ntmps64
  go_wp2_with fail
  refine Calls.mono (NB.out _) ?_
  rintro e w1 ⟨rfl, rfl⟩
  go_wp2_with fail
  refine Calls.mono (NA.out _) ?_
  rintro e w1 ⟨rfl, rfl⟩
  go_wp2
  go_ret
  exact ⟨rfl, rfl⟩

end Go.Proofs.Ytjbnpgjndohjcaa
