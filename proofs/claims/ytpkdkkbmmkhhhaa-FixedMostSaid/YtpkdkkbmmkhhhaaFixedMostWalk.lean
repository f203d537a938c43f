/- The walk of the law FixedMost. -/
import Derived.Test.YtpkdkkbmmkhhhaaFixLaws
namespace Go.Proofs.Ytpkdkkbmmkhhhaa
open Go.RowKit Go.WideShapes Go.ChangeShapes

theorem fsqrt_mono {a b : Int} (h : nrm a ≤ nrm b) : fcmp (fsqrt a) (fsqrt b) ≤ 0 := by
  have ra := fsqrt_range a
  have rb := fsqrt_range b
  rw [fcmp_le, nrm_id (by omega), nrm_id (by omega)]
  by_cases h0 : a ≤ 0
  · rw [show fsqrt a = 0 by unfold fsqrt; rw [if_pos h0]]; omega
  · have hab : a ≤ b := by rcases nrm_le h with h' | h' <;> omega
    unfold fsqrt
    rw [if_neg h0, if_neg (by omega)]
    exact (root_spec (W := a * 65536) (by omega)).le (root_spec (W := b * 65536) (by omega)) (by omega)

namespace lawFixedMost
set_option maxHeartbeats 3200000 in
set_option maxRecDepth 100000 in
theorem walk {H : Type} {enc : TypeId × Value → H} (w : World) {base : Nat} (v : Value) (d : DataW H) (p : List MemPlace) (hv : Value.okWide Try.prog w .any base 31 v)
    (ht : DataW.Trod enc Try.prog w 0 (fun _ => true) true 31 v d p) : Calls Try.prog 18 #[v] w fun e w' => e = .returned (.bool true) ∧ Below w.heap.size w w' := by
  obtain ⟨A, n, c, rfl, hnc, hcm, ha⟩ := open_asks1 hv ht
  unfold maxLen at hcm
  clear hv ht
  go_enter Try.func18, Try.ntmps18
  go_wp2
  go_loopw [3] (fun i wr => ∃ (k : Nat), k ≤ n ∧ k ≤ 30 ∧ i = .int .i64 k ∧ Below w.heap.size w wr) (fun i _ => n - (intOf i).toNat)
  case atStart => exact ⟨0, Nat.zero_le _, by omega, rfl, Below.refl _ _⟩
  case round =>
    obtain ⟨k, hk, hk20, rfl, hbl⟩ := hrel
    by_cases hlt : k < n
    · by_cases h20 : k < 30
      · obtain ⟨b, o, x, y, z, rfl, hb, hc1, hc2, hc3, ⟨hx0, hx1⟩, ⟨hy0, hy1⟩, ⟨hz0, hz1⟩⟩ := ha.below hbl k hlt
        clear ha
        have K := fcmp_cases x y
        have C1 := Lib.hid (fun W => fix_cmp x y W)
        generalize fcmp x y = n0 at *
        have K2 : (n0 ≤ 0 ∧ nrm x ≤ nrm y) ∨ (0 < n0 ∧ nrm y ≤ nrm x) := by omega
        clear K
        rcases K2 with ⟨hn, hle⟩ | ⟨hn, hle⟩
        · have Q1 := Lib.hid (fun W => fix_sqrt x W hx1)
          have Q2 := Lib.hid (fun W => fix_sqrt y W hy1)
          have C2 := Lib.hid (fun W => fix_cmp (fsqrt x) (fsqrt y) W)
          have k2 : fcmp (fsqrt x) (fsqrt y) ≤ 0 := fsqrt_mono hle
          by_cases hk : 0 < z
          · have U1 := Lib.hid (fun W => fix_mul x z W hx1 hz1)
            have U2 := Lib.hid (fun W => fix_mul y z W hy1 hz1)
            have C3 := Lib.hid (fun W => fix_cmp (fmul x z) (fmul y z) W)
            have k3 : fcmp (fmul x z) (fmul y z) ≤ 0 := fmul_mono hle hk
            have D1 := Lib.hid (fun W => fix_div x z W hx1 hz1)
            have D2 := Lib.hid (fun W => fix_div y z W hy1 hz1)
            have C4 := Lib.hid (fun W => fix_cmp (fdiv x z) (fdiv y z) W)
            have k4 : fcmp (fdiv x z) (fdiv y z) ≤ 0 := fdiv_mono hx1 hy1 hz1 hle hk
            clear hle
            generalize fcmp (fsqrt x) (fsqrt y) = c2 at *
            generalize fcmp (fmul x z) (fmul y z) = c3 at *
            generalize fcmp (fdiv x z) (fdiv y z) = c4 at *
            generalize fsqrt x = r1 at *
            generalize fsqrt y = r2 at *
            generalize fmul x z = r3 at *
            generalize fmul y z = r4 at *
            generalize fdiv x z = r5 at *
            generalize fdiv y z = r6 at *
            go_wp2_with fail
            go_quiet (fail)
            go_wp2_with (first | (go_at_call 54; ((with_reducible refine Calls.mono (C1.out _) ?_); rintro e w1 ⟨rfl, rfl⟩)))
            refine Calls.mono (Q1.out _) ?_
            rintro e w2 ⟨rfl, hb2⟩
            go_wp2_with fail
            refine Calls.mono (Q2.out _) ?_
            rintro e w3 ⟨rfl, hb3⟩
            go_wp2_with (first | (go_at_call 54; ((with_reducible refine Calls.mono (C2.out _) ?_); rintro e w1 ⟨rfl, rfl⟩)) | (go_at_call 26; ((with_reducible refine Calls.mono (U1.out _) ?_); rintro e w1 ⟨rfl, rfl⟩)) | (go_at_call 26; ((with_reducible refine Calls.mono (U2.out _) ?_); rintro e w1 ⟨rfl, rfl⟩)) | (go_at_call 54; ((with_reducible refine Calls.mono (C3.out _) ?_); rintro e w1 ⟨rfl, rfl⟩)))
            refine Calls.mono (D1.out _) ?_
            rintro e w4 ⟨rfl, hb4⟩
            go_wp2_with fail
            refine Calls.mono (D2.out _) ?_
            rintro e w5 ⟨rfl, hb5⟩
            go_wp2_with (first | (go_at_call 54; ((with_reducible refine Calls.mono (C4.out _) ?_); rintro e w1 ⟨rfl, rfl⟩)))
            go_roundw
            case rel =>
              have h2 := (below_drewN (Below.refl wr.heap.size wr) nq).trans hb2
              have h3 := h2.trans (hb3.mono h2.size)
              have h4 := h3.trans (hb4.mono h3.size)
              have h5 := h4.trans (hb5.mono h4.size)
              exact ⟨k + 1, by omega, by omega, by go_num, hbl.trans (h5.mono hbl.size)⟩
            case measure => simp [intOf]; omega
          · clear hle
            generalize fcmp (fsqrt x) (fsqrt y) = c2 at *
            generalize fsqrt x = r1 at *
            generalize fsqrt y = r2 at *
            go_wp2_with fail
            go_quiet (fail)
            go_wp2_with (first | (go_at_call 54; ((with_reducible refine Calls.mono (C1.out _) ?_); rintro e w1 ⟨rfl, rfl⟩)))
            refine Calls.mono (Q1.out _) ?_
            rintro e w2 ⟨rfl, hb2⟩
            go_wp2_with fail
            refine Calls.mono (Q2.out _) ?_
            rintro e w3 ⟨rfl, hb3⟩
            go_wp2_with (first | (go_at_call 54; ((with_reducible refine Calls.mono (C2.out _) ?_); rintro e w1 ⟨rfl, rfl⟩)))
            go_roundw
            case rel =>
              have h2 := (below_drewN (Below.refl wr.heap.size wr) nq).trans hb2
              have h3 := h2.trans (hb3.mono h2.size)
              exact ⟨k + 1, by omega, by omega, by go_num, hbl.trans (h3.mono hbl.size)⟩
            case measure => simp [intOf]; omega
        · have Q1 := Lib.hid (fun W => fix_sqrt y W hy1)
          have Q2 := Lib.hid (fun W => fix_sqrt x W hx1)
          have C2 := Lib.hid (fun W => fix_cmp (fsqrt y) (fsqrt x) W)
          have k2 : fcmp (fsqrt y) (fsqrt x) ≤ 0 := fsqrt_mono hle
          by_cases hk : 0 < z
          · have U1 := Lib.hid (fun W => fix_mul y z W hy1 hz1)
            have U2 := Lib.hid (fun W => fix_mul x z W hx1 hz1)
            have C3 := Lib.hid (fun W => fix_cmp (fmul y z) (fmul x z) W)
            have k3 : fcmp (fmul y z) (fmul x z) ≤ 0 := fmul_mono hle hk
            have D1 := Lib.hid (fun W => fix_div y z W hy1 hz1)
            have D2 := Lib.hid (fun W => fix_div x z W hx1 hz1)
            have C4 := Lib.hid (fun W => fix_cmp (fdiv y z) (fdiv x z) W)
            have k4 : fcmp (fdiv y z) (fdiv x z) ≤ 0 := fdiv_mono hy1 hx1 hz1 hle hk
            clear hle
            generalize fcmp (fsqrt y) (fsqrt x) = c2 at *
            generalize fcmp (fmul y z) (fmul x z) = c3 at *
            generalize fcmp (fdiv y z) (fdiv x z) = c4 at *
            generalize fsqrt y = r1 at *
            generalize fsqrt x = r2 at *
            generalize fmul y z = r3 at *
            generalize fmul x z = r4 at *
            generalize fdiv y z = r5 at *
            generalize fdiv x z = r6 at *
            go_wp2_with fail
            go_quiet (fail)
            go_wp2_with (first | (go_at_call 54; ((with_reducible refine Calls.mono (C1.out _) ?_); rintro e w1 ⟨rfl, rfl⟩)))
            refine Calls.mono (Q1.out _) ?_
            rintro e w2 ⟨rfl, hb2⟩
            go_wp2_with fail
            refine Calls.mono (Q2.out _) ?_
            rintro e w3 ⟨rfl, hb3⟩
            go_wp2_with (first | (go_at_call 54; ((with_reducible refine Calls.mono (C2.out _) ?_); rintro e w1 ⟨rfl, rfl⟩)) | (go_at_call 26; ((with_reducible refine Calls.mono (U1.out _) ?_); rintro e w1 ⟨rfl, rfl⟩)) | (go_at_call 26; ((with_reducible refine Calls.mono (U2.out _) ?_); rintro e w1 ⟨rfl, rfl⟩)) | (go_at_call 54; ((with_reducible refine Calls.mono (C3.out _) ?_); rintro e w1 ⟨rfl, rfl⟩)))
            refine Calls.mono (D1.out _) ?_
            rintro e w4 ⟨rfl, hb4⟩
            go_wp2_with fail
            refine Calls.mono (D2.out _) ?_
            rintro e w5 ⟨rfl, hb5⟩
            go_wp2_with (first | (go_at_call 54; ((with_reducible refine Calls.mono (C4.out _) ?_); rintro e w1 ⟨rfl, rfl⟩)))
            go_roundw
            case rel =>
              have h2 := (below_drewN (Below.refl wr.heap.size wr) nq).trans hb2
              have h3 := h2.trans (hb3.mono h2.size)
              have h4 := h3.trans (hb4.mono h3.size)
              have h5 := h4.trans (hb5.mono h4.size)
              exact ⟨k + 1, by omega, by omega, by go_num, hbl.trans (h5.mono hbl.size)⟩
            case measure => simp [intOf]; omega
          · clear hle
            generalize fcmp (fsqrt y) (fsqrt x) = c2 at *
            generalize fsqrt y = r1 at *
            generalize fsqrt x = r2 at *
            go_wp2_with fail
            go_quiet (fail)
            go_wp2_with (first | (go_at_call 54; ((with_reducible refine Calls.mono (C1.out _) ?_); rintro e w1 ⟨rfl, rfl⟩)))
            refine Calls.mono (Q1.out _) ?_
            rintro e w2 ⟨rfl, hb2⟩
            go_wp2_with fail
            refine Calls.mono (Q2.out _) ?_
            rintro e w3 ⟨rfl, hb3⟩
            go_wp2_with (first | (go_at_call 54; ((with_reducible refine Calls.mono (C2.out _) ?_); rintro e w1 ⟨rfl, rfl⟩)))
            go_roundw
            case rel =>
              have h2 := (below_drewN (Below.refl wr.heap.size wr) nq).trans hb2
              have h3 := h2.trans (hb3.mono h2.size)
              exact ⟨k + 1, by omega, by omega, by go_num, hbl.trans (h3.mono hbl.size)⟩
            case measure => simp [intOf]; omega
      · go_wp2_with (first | (go_at_call 28; refine (wakes1 _).mono ?_; rintro e w1 ⟨rfl, hb1⟩))
        go_ret
        exact ⟨rfl, hbl.trans (hb1.mono hbl.size)⟩
    · go_wp2_with (first | (go_at_call 28; refine (wakes1 _).mono ?_; rintro e w1 ⟨rfl, hb1⟩))
      go_ret
      exact ⟨rfl, hbl.trans (hb1.mono hbl.size)⟩
end lawFixedMost
end Go.Proofs.Ytpkdkkbmmkhhhaa
