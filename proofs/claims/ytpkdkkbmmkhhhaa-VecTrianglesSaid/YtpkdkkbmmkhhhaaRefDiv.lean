/- The page's quotients: what they compute. -/
import Derived.Test.YtpkdkkbmmkhhhaaFixDiv
namespace Go.Proofs.Ytpkdkkbmmkhhhaa
set_option maxRecDepth 20000
open Go.RowKit

theorem fdiv_ref (a b : Int) (ha : a ≤ 9223372036854775807) (h : mag b ≠ 0) (hb : b ≤ 9223372036854775807) :
    fdiv a b = sgr (overQ (mag a * 65536) (mag b)) (isNeg a != isNeg b) (decide (0 < mag a * 65536 % mag b)) := by
  rw [fdiv_some h]
  have h1 := mag_range ha
  have h2 := mag_range hb
  have hP : 0 ≤ mag a * 65536 / mag b := Int.ediv_nonneg (by omega) (by omega)
  generalize (isNeg a != isNeg b) = s at *
  unfold sgr overQ dn
  generalize mag a * 65536 / mag b = Q at *
  generalize mag a * 65536 % mag b = R at *
  by_cases hg : 18446744073709551616 ≤ Q
  · rw [if_pos hg, (sg_val _ s).1 (by split <;> omega), (sg_val _ s).1 (by split <;> omega)]
  · rw [if_neg hg]
    cases s
    · simp
    · by_cases hr : 0 < R
      · rw [if_pos ⟨rfl, hr⟩, if_pos ⟨rfl, decide_eq_true hr⟩]
      · rw [if_neg (fun h => hr h.2), if_neg (fun h => hr (of_decide_eq_true h.2))]

theorem mag_zero {b : Int} : mag b = 0 ↔ nrm b = 0 := by unfold mag; split <;> omega
theorem fdiv_nothing {a b : Int} (h : nrm b = 0) : (0 < nrm a → fdiv a b = 9223372036854775807) ∧ (nrm a < 0 → fdiv a b = -9223372036854775807) ∧ (nrm a = 0 → fdiv a b = 0) := by
  rw [fdiv_zero (mag_zero.2 h)]
  unfold sg sgn mag isNeg
  refine ⟨fun h1 => ?_, fun h1 => ?_, fun h1 => ?_⟩
  · rw [if_neg (by omega : ¬ nrm a < 0), decide_eq_true h1, decide_eq_false (by omega : ¬ nrm a < 0)]; simp
  · rw [if_pos h1, decide_eq_true (show 0 < -nrm a by omega), decide_eq_true h1]; simp
  · rw [h1]; simp

set_option maxHeartbeats 800000 in
theorem ref_div (a b : Int) (w : World) (ha : a ≤ 9223372036854775807) (hb : b ≤ 9223372036854775807) : Calls Try.prog 53 #[.int .i64 a, .int .i64 b] w fun e w' => e = .returned (.int .i64 (fdiv a b)) ∧ Below w.heap.size w w' := by
  have NA := Lib.hid (fun W => ref_of a W)
  have NB := Lib.hid (fun W => ref_of b W)
  have ra := nrm_range ha
  have rb := nrm_range hb
  by_cases hz : nrm b = 0
  · have HN := Lib.hid (fdiv_nothing (a := a) hz)
    have d0 : (nrm b == 0) = true := by rw [hz]; rfl
    generalize fdiv a b = F at *
    generalize nrm a = A at *
    generalize nrm b = B at *
    clear hz ha hb ra rb
    by_cases h1 : 0 < A
    · have HF := Lib.hid (HN.out.1 h1)
      clear HN
      go_enter Try.func53, Try.ntmps53
      go_wp2_with fail
      refine Calls.mono (NA.out _) ?_
      rintro e w1 ⟨rfl, rfl⟩
      go_wp2_with fail
      refine Calls.mono (NB.out _) ?_
      rintro e w1 ⟨rfl, rfl⟩
      go_wp2
      go_ret
      exact ⟨by rw [HF.out]; rfl, Below.refl _ _⟩
    · by_cases h2 : A < 0
      · have HF := Lib.hid (HN.out.2.1 h2)
        clear HN
        go_enter Try.func53, Try.ntmps53
        go_wp2_with fail
        refine Calls.mono (NA.out _) ?_
        rintro e w1 ⟨rfl, rfl⟩
        go_wp2_with fail
        refine Calls.mono (NB.out _) ?_
        rintro e w1 ⟨rfl, rfl⟩
        go_wp2
        go_ret
        exact ⟨by rw [HF.out]; rfl, Below.refl _ _⟩
      · have HF := Lib.hid (HN.out.2.2 (by omega))
        clear HN
        go_enter Try.func53, Try.ntmps53
        go_wp2_with fail
        refine Calls.mono (NA.out _) ?_
        rintro e w1 ⟨rfl, rfl⟩
        go_wp2_with fail
        refine Calls.mono (NB.out _) ?_
        rintro e w1 ⟨rfl, rfl⟩
        go_wp2
        go_ret
        exact ⟨by rw [HF.out]; rfl, Below.refl _ _⟩
  · have hm : mag b ≠ 0 := fun h => hz (mag_zero.1 h)
    have d0 : (nrm b == 0) = false := beq_eq_false_iff_ne.2 hz
    have SA := fun W => ref_size (nrm a) W ra.1 ra.2
    have SB := fun W => ref_size (nrm b) W rb.1 rb.2
    have HF := Lib.hid (fdiv_ref a b ha hm hb)
    have m1 := mag_range ha
    have m2 := mag_range hb
    have hP : 0 ≤ mag a * 65536 := by omega
    have T := Lib.hid (fun W => ref_times (mag a) 65536 W m1.1 (by omega) (by omega) (by omega))
    have O := fun W => ref_over (mag a * 65536 / 18446744073709551616) (mag a * 65536 % 18446744073709551616) (mag b) W (by omega) (by omega) (by omega) (by omega) (by omega) (by omega)
    have e : mag a * 65536 / 18446744073709551616 * 18446744073709551616 + mag a * 65536 % 18446744073709551616 = mag a * 65536 := by omega
    rw [e] at O
    have O := Lib.hid O
    have hq := overQ_range (b := mag b) hP (by omega)
    have S := Lib.hid (fun W => ref_signed (overQ (mag a * 65536) (mag b)) (isNeg a != isNeg b) (decide (0 < mag a * 65536 % mag b)) W hq.1 hq.2)
    have n1 : decide (nrm a < 0) = isNeg a := rfl
    have n2 : decide (nrm b < 0) = isNeg b := rfl
    have n3 : (isNeg a != isNeg b) = !(isNeg a == isNeg b) := rfl
    rw [n3] at S HF
    have SA : Hid (∀ W, Calls Try.prog 68 #[.int .i64 (nrm a)] W fun e w' => e = .returned (.int .u64 (mag a)) ∧ W = w') := SA
    have SB : Hid (∀ W, Calls Try.prog 68 #[.int .i64 (nrm b)] W fun e w' => e = .returned (.int .u64 (mag b)) ∧ W = w') := SB
    clear ra rb m1 m2 hP e hq n3 hz hm
    generalize isNeg a = p at *
    generalize isNeg b = q at *
    generalize nrm a = A at *
    generalize nrm b = B at *
    generalize mag a = x at *
    generalize mag b = y at *
    generalize overQ (x * 65536) y = Q at *
    generalize decide (0 < x * 65536 % y) = l at *
    generalize fdiv a b = F at *
    generalize x * 65536 / 18446744073709551616 = PH at *
    generalize x * 65536 % 18446744073709551616 = PL at *
    go_enter Try.func53, Try.ntmps53
    go_wp2_with fail
    refine Calls.mono (NA.out _) ?_
    rintro e w1 ⟨rfl, rfl⟩
    go_wp2_with fail
    refine Calls.mono (NB.out _) ?_
    rintro e w1 ⟨rfl, rfl⟩
    go_wp2_with fail
    refine Calls.mono (SA.out _) ?_
    rintro e w1 ⟨rfl, rfl⟩
    go_wp2_with fail
    refine Calls.mono (T.out _) ?_
    rintro e w1 ⟨rfl, hb1⟩
    go_wp2_with fail
    refine Calls.mono (SB.out _) ?_
    rintro e w2 ⟨rfl, rfl⟩
    go_wp2_with fail
    refine Calls.mono (O.out _) ?_
    rintro e w2 ⟨rfl, hb2⟩
    go_wp2_with fail
    refine Calls.mono (S.out _) ?_
    rintro e w3 ⟨rfl, rfl⟩
    go_wp2
    go_ret
    exact ⟨by rw [HF.out]; rfl, hb1.trans (hb2.mono hb1.size)⟩
end Go.Proofs.Ytpkdkkbmmkhhhaa
