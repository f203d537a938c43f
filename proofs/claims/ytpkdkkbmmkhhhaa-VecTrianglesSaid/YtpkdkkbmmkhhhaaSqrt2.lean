/- Square roots and the page's products. -/
import Derived.Test.YtpkdkkbmmkhhhaaSqrt
namespace Go.Proofs.Ytpkdkkbmmkhhhaa
set_option maxRecDepth 20000
open Go.RowKit

/-- The root of a number. -/
def fsqrt (a : Int) : Int := if a ≤ 0 then 0 else rootF (a * 65536)
theorem fsqrt_range (a : Int) : 0 ≤ fsqrt a ∧ fsqrt a ≤ 9223372036854775807 := by
  unfold fsqrt
  by_cases h : a ≤ 0
  · rw [if_pos h]; omega
  · rw [if_neg h]; exact rootF_range (by omega)

theorem sqrt_hi (a : Int) : a / 281474976710656 * 18446744073709551616 + IntKind.u64.wrap (a * 65536) = a * 65536 := by
  rw [u64_wrap]; omega

theorem fix_sqrt (a : Int) (w : World) (h1 : a ≤ 9223372036854775807) : Calls Try.prog 29 #[.int .i64 a] w fun e w' => e = .returned (.int .i64 (fsqrt a)) ∧ Below w.heap.size w w' := by
  by_cases h : a ≤ 0
  · have H : Hid (fsqrt a = 0) := by show _ = _; unfold fsqrt; rw [if_pos h]
    go_enter Try.func29, Try.ntmps29
    go_wp2
    go_ret
    exact ⟨by rw [H.out]; rfl, Below.refl _ _⟩
  · have H : Hid (fsqrt a = rootF (a * 65536)) := by show _ = _; unfold fsqrt; rw [if_neg h]
    have R := fun W => fix_root (a / 281474976710656) (IntKind.u64.wrap (a * 65536)) W (by rw [u64_wrap]; omega) (by rw [u64_wrap]; omega)
    rw [sqrt_hi a, ← H.out] at R
    have R := Lib.hid R
    have h' : 0 < a := by omega
    go_enter Try.func29, Try.ntmps29
    go_wp2_with fail
    refine Calls.mono (R.out _) ?_
    rintro e w1 ⟨rfl, hb⟩
    go_wp2
    go_ret
    exact ⟨rfl, hb⟩

theorem rootM_forty {a R : Int} (h1 : a ≤ 9223372036854775807) (h : RootM (a * 65536) 1099511627776 R) : rootF (a * 65536) = R := by
  obtain ⟨h2, h3, h4, h5⟩ := h
  refine rootF_eq ⟨h2, by omega, h4, ?_⟩
  rcases h5 with h5 | h5
  · subst h5; omega
  · exact .inr h5

theorem ref_sqrt (a : Int) (w : World) (h1 : a ≤ 9223372036854775807) : Calls Try.prog 30 #[.int .i64 a] w fun e w' => e = .returned (.int .i64 (fsqrt a)) ∧ Below w.heap.size w w' := by
  have NA := Lib.hid (fun W => ref_of a W)
  by_cases h : a ≤ 0
  · have H : Hid (fsqrt a = 0) := by show _ = _; unfold fsqrt; rw [if_pos h]
    have hn : nrm a ≤ 0 := by unfold nrm; split <;> omega
    generalize nrm a = A at *
    go_enter Try.func30, Try.ntmps30
    go_wp2_with fail
    refine Calls.mono (NA.out _) ?_
    rintro e w1 ⟨rfl, rfl⟩
    go_wp2
    go_ret
    exact ⟨by rw [H.out]; rfl, Below.refl _ _⟩
  · have H : Hid (fsqrt a = rootF (a * 65536)) := by show _ = _; unfold fsqrt; rw [if_neg h]
    have h' : 0 < a := by omega
    rw [nrm_id (by omega)] at NA
    have T := Lib.hid (fun W => ref_times a 65536 W (by omega) (by omega) (by omega) (by omega))
    have R := fun W => ref_root (a * 65536 / 18446744073709551616) (a * 65536 % 18446744073709551616) 1099511627776 W (by omega) (by omega) (by omega) (by omega) (by omega)
    have e : a * 65536 / 18446744073709551616 * 18446744073709551616 + a * 65536 % 18446744073709551616 = a * 65536 := by omega
    rw [e] at R
    have R := Lib.hid R
    have HM := Lib.hid (fun R h => @rootM_forty a R h1 h)
    clear e h
    go_enter Try.func30, Try.ntmps30
    go_wp2_with fail
    refine Calls.mono (NA.out _) ?_
    rintro e w1 ⟨rfl, rfl⟩
    go_wp2_with fail
    refine Calls.mono (T.out _) ?_
    rintro e w1 ⟨rfl, hb1⟩
    go_wp2_with fail
    refine Calls.mono (R.out _) ?_
    rintro e w2 ⟨r, rfl, hr, hb2⟩
    have hf := HM.out r hr
    obtain ⟨r0, r1, _⟩ := hr
    have HF := Lib.hid hf
    clear hf
    go_wp2
    go_ret
    exact ⟨by rw [H.out, HF.out]; rfl, hb1.trans (hb2.mono hb1.size)⟩

end Go.Proofs.Ytpkdkkbmmkhhhaa
