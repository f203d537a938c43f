/- fixed's sums, and the page's: what each computes. -/
import Derived.Test.YtpkdkkbmmkhhhaaRows
import Derived.Test.YtpkdkkbmmkhhhaaBase
import Derived.Test.YtpkdkkbmmkhhhaaFixMath
import Derived.Outline
namespace Go.Proofs.Ytpkdkkbmmkhhhaa
set_option maxRecDepth 20000
open Go.RowKit

theorem fix_norm (a : Int) (w : World) : Calls Try.prog 73 #[.int .i64 a] w fun e w' => e = .returned (.int .i64 (nrm a)) ∧ w = w' := by
  by_cases h : a < -9223372036854775807
  · have H : Hid (nrm a = -9223372036854775807) := by show _ = _; unfold nrm; rw [if_pos h]
    go_enter Try.func73, Try.ntmps73
    go_wp2
    go_ret
    exact ⟨by rw [H.out]; rfl, rfl⟩
  · have H : Hid (nrm a = a) := by show _ = _; unfold nrm; rw [if_neg h]
    have h' : -9223372036854775807 ≤ a := by omega
    clear h
    go_enter Try.func73, Try.ntmps73
    go_wp2
    go_ret
    exact ⟨by rw [H.out]; rfl, rfl⟩

theorem ref_of (a : Int) (w : World) : Calls Try.prog 65 #[.int .i64 a] w fun e w' => e = .returned (.int .i64 (nrm a)) ∧ w = w' := by
  by_cases h : a < -9223372036854775807
  · have H : Hid (nrm a = -9223372036854775807) := by show _ = _; unfold nrm; rw [if_pos h]
    go_enter Try.func65, Try.ntmps65
    go_wp2
    go_ret
    exact ⟨by rw [H.out]; rfl, rfl⟩
  · have H : Hid (nrm a = a) := by show _ = _; unfold nrm; rw [if_neg h]
    have h' : -9223372036854775807 ≤ a := by omega
    go_enter Try.func65, Try.ntmps65
    go_wp2
    go_ret
    exact ⟨by rw [H.out]; rfl, rfl⟩


/-- A sum of two numbers that count as A and B. -/
theorem fix_add (a b : Int) (w : World) (ha : a ≤ 9223372036854775807) (hb : b ≤ 9223372036854775807) : Calls Try.prog 35 #[.int .i64 a, .int .i64 b] w fun e w' => e = .returned (.int .i64 (fadd a b)) ∧ w = w' := by
  have NA := Lib.hid (fun W => fix_norm a W)
  have NB := Lib.hid (fun W => fix_norm b W)
  have h1 := @fadd_hi a b
  have h2 := @fadd_lo a b
  have h3 := @fadd_in a b
  have ra := nrm_range ha
  have rb := nrm_range hb
  generalize nrm a = A at *
  generalize nrm b = B at *
  generalize fadd a b = F at *
  obtain ⟨ra1, ra2⟩ := ra
  obtain ⟨rb1, rb2⟩ := rb
  by_cases hp : 0 < B
  · have hn : ¬ B < 0 := by omega
    by_cases hc : 9223372036854775807 - B < A
    · have H : Hid (F = 9223372036854775807) := h1 (by omega)
      clear h1 h2 h3
      go_enter Try.func35, Try.ntmps35
      go_wp2_with fail
      refine Calls.mono (NA.out _) ?_
      rintro e w1 ⟨rfl, rfl⟩
      go_wp2_with fail
      refine Calls.mono (NB.out _) ?_
      rintro e w1 ⟨rfl, rfl⟩
      go_wp2
      go_ret
      exact ⟨by rw [H.out]; rfl, rfl⟩
    · have H : Hid (F = A + B) := h3 (by omega) (by omega)
      clear h1 h2 h3
      go_enter Try.func35, Try.ntmps35
      go_wp2_with fail
      refine Calls.mono (NA.out _) ?_
      rintro e w1 ⟨rfl, rfl⟩
      go_wp2_with fail
      refine Calls.mono (NB.out _) ?_
      rintro e w1 ⟨rfl, rfl⟩
      go_wp2
      go_ret
      exact ⟨by rw [H.out]; rfl, rfl⟩
  · by_cases hn : B < 0
    · by_cases hc : A < -9223372036854775807 - B
      · have H : Hid (F = -9223372036854775807) := h2 (by omega)
        clear h1 h2 h3
        go_enter Try.func35, Try.ntmps35
        go_wp2_with fail
        refine Calls.mono (NA.out _) ?_
        rintro e w1 ⟨rfl, rfl⟩
        go_wp2_with fail
        refine Calls.mono (NB.out _) ?_
        rintro e w1 ⟨rfl, rfl⟩
        go_wp2
        go_ret
        exact ⟨by rw [H.out]; rfl, rfl⟩
      · have H : Hid (F = A + B) := h3 (by omega) (by omega)
        clear h1 h2 h3
        go_enter Try.func35, Try.ntmps35
        go_wp2_with fail
        refine Calls.mono (NA.out _) ?_
        rintro e w1 ⟨rfl, rfl⟩
        go_wp2_with fail
        refine Calls.mono (NB.out _) ?_
        rintro e w1 ⟨rfl, rfl⟩
        go_wp2
        go_ret
        exact ⟨by rw [H.out]; rfl, rfl⟩
    · have H : Hid (F = A + B) := h3 (by omega) (by omega)
      have hB : B ≤ 0 := by omega
      clear h1 h2 h3
      go_enter Try.func35, Try.ntmps35
      go_wp2_with fail
      refine Calls.mono (NA.out _) ?_
      rintro e w1 ⟨rfl, rfl⟩
      go_wp2_with fail
      refine Calls.mono (NB.out _) ?_
      rintro e w1 ⟨rfl, rfl⟩
      go_wp2
      go_ret
      exact ⟨by rw [H.out]; rfl, rfl⟩

/-- A sum of two numbers that count as A and B. -/
theorem ref_add (a b : Int) (w : World) (ha : a ≤ 9223372036854775807) (hb : b ≤ 9223372036854775807) : Calls Try.prog 36 #[.int .i64 a, .int .i64 b] w fun e w' => e = .returned (.int .i64 (fadd a b)) ∧ w = w' := by
  have NA := Lib.hid (fun W => ref_of a W)
  have NB := Lib.hid (fun W => ref_of b W)
  have h1 := @fadd_hi a b
  have h2 := @fadd_lo a b
  have h3 := @fadd_in a b
  have ra := nrm_range ha
  have rb := nrm_range hb
  generalize nrm a = A at *
  generalize nrm b = B at *
  generalize fadd a b = F at *
  obtain ⟨ra1, ra2⟩ := ra
  obtain ⟨rb1, rb2⟩ := rb
  by_cases hp : 0 < B
  · have hn : ¬ B < 0 := by omega
    by_cases hc : 9223372036854775807 - B < A
    · have H : Hid (F = 9223372036854775807) := h1 (by omega)
      clear h1 h2 h3
      go_enter Try.func36, Try.ntmps36
      go_wp2_with fail
      refine Calls.mono (NA.out _) ?_
      rintro e w1 ⟨rfl, rfl⟩
      go_wp2_with fail
      refine Calls.mono (NB.out _) ?_
      rintro e w1 ⟨rfl, rfl⟩
      go_wp2
      go_ret
      exact ⟨by rw [H.out]; rfl, rfl⟩
    · have H : Hid (F = A + B) := h3 (by omega) (by omega)
      clear h1 h2 h3
      go_enter Try.func36, Try.ntmps36
      go_wp2_with fail
      refine Calls.mono (NA.out _) ?_
      rintro e w1 ⟨rfl, rfl⟩
      go_wp2_with fail
      refine Calls.mono (NB.out _) ?_
      rintro e w1 ⟨rfl, rfl⟩
      go_wp2
      go_ret
      exact ⟨by rw [H.out]; rfl, rfl⟩
  · by_cases hn : B < 0
    · by_cases hc : A < -9223372036854775807 - B
      · have H : Hid (F = -9223372036854775807) := h2 (by omega)
        clear h1 h2 h3
        go_enter Try.func36, Try.ntmps36
        go_wp2_with fail
        refine Calls.mono (NA.out _) ?_
        rintro e w1 ⟨rfl, rfl⟩
        go_wp2_with fail
        refine Calls.mono (NB.out _) ?_
        rintro e w1 ⟨rfl, rfl⟩
        go_wp2
        go_ret
        exact ⟨by rw [H.out]; rfl, rfl⟩
      · have H : Hid (F = A + B) := h3 (by omega) (by omega)
        clear h1 h2 h3
        go_enter Try.func36, Try.ntmps36
        go_wp2_with fail
        refine Calls.mono (NA.out _) ?_
        rintro e w1 ⟨rfl, rfl⟩
        go_wp2_with fail
        refine Calls.mono (NB.out _) ?_
        rintro e w1 ⟨rfl, rfl⟩
        go_wp2
        go_ret
        exact ⟨by rw [H.out]; rfl, rfl⟩
    · have H : Hid (F = A + B) := h3 (by omega) (by omega)
      have hB : B ≤ 0 := by omega
      clear h1 h2 h3
      go_enter Try.func36, Try.ntmps36
      go_wp2_with fail
      refine Calls.mono (NA.out _) ?_
      rintro e w1 ⟨rfl, rfl⟩
      go_wp2_with fail
      refine Calls.mono (NB.out _) ?_
      rintro e w1 ⟨rfl, rfl⟩
      go_wp2
      go_ret
      exact ⟨by rw [H.out]; rfl, rfl⟩

theorem fix_neg (a : Int) (w : World) (ha : a ≤ 9223372036854775807) : Calls Try.prog 39 #[.int .i64 a] w fun e w' => e = .returned (.int .i64 (fneg a)) ∧ w = w' := by
  have NA := Lib.hid (fun W => fix_norm a W)
  have H : Hid (fneg a = -(nrm a)) := rfl
  have ra := nrm_range ha
  generalize nrm a = A at *
  obtain ⟨ra1, ra2⟩ := ra
  go_enter Try.func39, Try.ntmps39
  go_wp2_with fail
  refine Calls.mono (NA.out _) ?_
  rintro e w1 ⟨rfl, rfl⟩
  go_wp2
  go_ret
  exact ⟨by rw [H.out]; rfl, rfl⟩

theorem ref_neg (a : Int) (w : World) (ha : a ≤ 9223372036854775807) : Calls Try.prog 40 #[.int .i64 a] w fun e w' => e = .returned (.int .i64 (fneg a)) ∧ w = w' := by
  have NA := Lib.hid (fun W => ref_of a W)
  have H : Hid (fneg a = -(nrm a)) := rfl
  have ra := nrm_range ha
  generalize nrm a = A at *
  obtain ⟨ra1, ra2⟩ := ra
  go_enter Try.func40, Try.ntmps40
  go_wp2_with fail
  refine Calls.mono (NA.out _) ?_
  rintro e w1 ⟨rfl, rfl⟩
  go_wp2
  go_ret
  exact ⟨by rw [H.out]; rfl, rfl⟩

theorem fix_sub (a b : Int) (w : World) (ha : a ≤ 9223372036854775807) (hb : b ≤ 9223372036854775807) : Calls Try.prog 37 #[.int .i64 a, .int .i64 b] w fun e w' => e = .returned (.int .i64 (fsub a b)) ∧ w = w' := by
  have NB := Lib.hid (fun W => fix_neg b W hb)
  have NA := Lib.hid (fun W => fix_add a (fneg b) W ha (fneg_range hb).2)
  go_enter Try.func37, Try.ntmps37
  go_wp2_with fail
  refine Calls.mono (NB.out _) ?_
  rintro e w1 ⟨rfl, rfl⟩
  go_wp2_with fail
  refine Calls.mono (NA.out _) ?_
  rintro e w1 ⟨rfl, rfl⟩
  go_wp2
  go_ret
  exact ⟨rfl, rfl⟩

theorem ref_sub (a b : Int) (w : World) (ha : a ≤ 9223372036854775807) (hb : b ≤ 9223372036854775807) : Calls Try.prog 38 #[.int .i64 a, .int .i64 b] w fun e w' => e = .returned (.int .i64 (fsub a b)) ∧ w = w' := by
  have NB := Lib.hid (fun W => ref_neg b W hb)
  have NA := Lib.hid (fun W => ref_add a (fneg b) W ha (fneg_range hb).2)
  go_enter Try.func38, Try.ntmps38
  go_wp2_with fail
  refine Calls.mono (NB.out _) ?_
  rintro e w1 ⟨rfl, rfl⟩
  go_wp2_with fail
  refine Calls.mono (NA.out _) ?_
  rintro e w1 ⟨rfl, rfl⟩
  go_wp2
  go_ret
  exact ⟨rfl, rfl⟩

theorem fix_cmp (a b : Int) (w : World) : Calls Try.prog 54 #[.int .i64 a, .int .i64 b] w fun e w' => e = .returned (.int .i64 (fcmp a b)) ∧ w = w' := by
  have NA := Lib.hid (fun W => fix_norm a W)
  have NB := Lib.hid (fun W => fix_norm b W)
  have h1 : nrm a < nrm b → fcmp a b = -1 := fun h => by unfold fcmp; rw [if_pos h]
  have h2 : nrm b < nrm a → fcmp a b = 1 := fun h => by unfold fcmp; rw [if_neg (by omega), if_pos h]
  have h3 : ¬ nrm a < nrm b → ¬ nrm b < nrm a → fcmp a b = 0 := fun h h' => by unfold fcmp; rw [if_neg h, if_neg h']
  generalize nrm a = A at *
  generalize nrm b = B at *
  generalize fcmp a b = F at *
  by_cases hp : A < B
  · have H := Lib.hid (h1 hp)
    clear h1 h2 h3
    go_enter Try.func54, Try.ntmps54
    go_wp2_with fail
    refine Calls.mono (NA.out _) ?_
    rintro e w1 ⟨rfl, rfl⟩
    go_wp2_with fail
    refine Calls.mono (NB.out _) ?_
    rintro e w1 ⟨rfl, rfl⟩
    go_wp2
    go_ret
    exact ⟨by rw [H.out]; rfl, rfl⟩
  · by_cases hq : B < A
    · have H := Lib.hid (h2 hq)
      clear h1 h2 h3
      go_enter Try.func54, Try.ntmps54
      go_wp2_with fail
      refine Calls.mono (NA.out _) ?_
      rintro e w1 ⟨rfl, rfl⟩
      go_wp2_with fail
      refine Calls.mono (NB.out _) ?_
      rintro e w1 ⟨rfl, rfl⟩
      go_wp2
      go_ret
      exact ⟨by rw [H.out]; rfl, rfl⟩
    · have H := Lib.hid (h3 hp hq)
      clear h1 h2 h3
      go_enter Try.func54, Try.ntmps54
      go_wp2_with fail
      refine Calls.mono (NA.out _) ?_
      rintro e w1 ⟨rfl, rfl⟩
      go_wp2_with fail
      refine Calls.mono (NB.out _) ?_
      rintro e w1 ⟨rfl, rfl⟩
      go_wp2
      go_ret
      exact ⟨by rw [H.out]; rfl, rfl⟩

theorem ref_cmp (a b : Int) (w : World) : Calls Try.prog 55 #[.int .i64 a, .int .i64 b] w fun e w' => e = .returned (.int .i64 (fcmp a b)) ∧ w = w' := by
  have NA := Lib.hid (fun W => ref_of a W)
  have NB := Lib.hid (fun W => ref_of b W)
  have h1 : nrm a < nrm b → fcmp a b = -1 := fun h => by unfold fcmp; rw [if_pos h]
  have h2 : nrm b < nrm a → fcmp a b = 1 := fun h => by unfold fcmp; rw [if_neg (by omega), if_pos h]
  have h3 : ¬ nrm a < nrm b → ¬ nrm b < nrm a → fcmp a b = 0 := fun h h' => by unfold fcmp; rw [if_neg h, if_neg h']
  generalize nrm a = A at *
  generalize nrm b = B at *
  generalize fcmp a b = F at *
  by_cases hp : A < B
  · have H := Lib.hid (h1 hp)
    clear h1 h2 h3
    go_enter Try.func55, Try.ntmps55
    go_wp2_with fail
    refine Calls.mono (NA.out _) ?_
    rintro e w1 ⟨rfl, rfl⟩
    go_wp2_with fail
    refine Calls.mono (NB.out _) ?_
    rintro e w1 ⟨rfl, rfl⟩
    go_wp2
    go_ret
    exact ⟨by rw [H.out]; rfl, rfl⟩
  · by_cases hq : B < A
    · have H := Lib.hid (h2 hq)
      clear h1 h2 h3
      go_enter Try.func55, Try.ntmps55
      go_wp2_with fail
      refine Calls.mono (NA.out _) ?_
      rintro e w1 ⟨rfl, rfl⟩
      go_wp2_with fail
      refine Calls.mono (NB.out _) ?_
      rintro e w1 ⟨rfl, rfl⟩
      go_wp2
      go_ret
      exact ⟨by rw [H.out]; rfl, rfl⟩
    · have H := Lib.hid (h3 hp hq)
      clear h1 h2 h3
      go_enter Try.func55, Try.ntmps55
      go_wp2_with fail
      refine Calls.mono (NA.out _) ?_
      rintro e w1 ⟨rfl, rfl⟩
      go_wp2_with fail
      refine Calls.mono (NB.out _) ?_
      rintro e w1 ⟨rfl, rfl⟩
      go_wp2
      go_ret
      exact ⟨by rw [H.out]; rfl, rfl⟩

end Go.Proofs.Ytpkdkkbmmkhhhaa
