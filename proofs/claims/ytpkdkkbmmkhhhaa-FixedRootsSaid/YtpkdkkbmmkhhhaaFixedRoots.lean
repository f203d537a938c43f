/- The walk of the law FixedRoots. -/
import Derived.Test.YtpkdkkbmmkhhhaaFixLaw
namespace Go.Proofs.Ytpkdkkbmmkhhhaa
open Go.RowKit Go.WideShapes Go.ChangeShapes

theorem fsqrt_nonpos {x : Int} (h : x ≤ 0) : fsqrt x = 0 := by unfold fsqrt; rw [if_pos h]
theorem fsqrt_sq {x : Int} (h : 0 < x) (h' : x < 70368744177664) : fsqrt x * fsqrt x ≤ x * 65536 ∧ x * 65536 < (fsqrt x + 1) * (fsqrt x + 1) ∧ (fsqrt x + 1) * (fsqrt x + 1) ≤ 4611686018427387904 ∧ fsqrt x ≤ 2147483647 := by
  have e : fsqrt x = rootF (x * 65536) := by unfold fsqrt; rw [if_neg (by omega)]
  obtain ⟨h0, h1, h2, h3⟩ := root_spec (W := x * 65536) (by omega)
  rw [← e] at h0 h1 h2 h3
  generalize fsqrt x = r at *
  have hr : r < 2147483648 := by
    rcases Int.lt_or_le r 2147483648 with h4 | h4
    · exact h4
    · have := sq_le (a := 2147483648) (b := r) (by omega) h4
      omega
  have h5 := sq_le (a := r + 1) (b := 2147483648) (by omega) (by omega)
  refine ⟨h2, ?_, by omega, by omega⟩
  rcases h3 with h3 | h3
  · omega
  · exact h3

namespace lawFixedRoots
set_option maxHeartbeats 1600000 in
set_option maxRecDepth 100000 in
theorem walk {H : Type} {enc : TypeId × Value → H} (w : World) {base : Nat} (v : Value) (d : DataW H) (p : List MemPlace) (hv : Value.okWide Try.prog w .any base 31 v)
    (ht : DataW.Trod enc Try.prog w 0 (fun _ => true) true 31 v d p) : Calls Try.prog 6 #[v] w fun e w' => e = .returned (.bool true) ∧ Below w.heap.size w w' := by
  obtain ⟨A, n, c, rfl, hnc, hcm, ha⟩ := open_asks1 hv ht
  unfold maxLen at hcm
  clear hv ht
  go_enter Try.func6, Try.ntmps6
  go_wp2
  go_loopw [3] (fun i wr => ∃ (k : Nat), k ≤ n ∧ k ≤ 30 ∧ i = .int .i64 k ∧ Below w.heap.size w wr) (fun i _ => n - (intOf i).toNat)
  case atStart => exact ⟨0, Nat.zero_le _, by omega, rfl, Below.refl _ _⟩
  case round =>
    obtain ⟨k, hk, hk20, rfl, hbl⟩ := hrel
    by_cases hlt : k < n
    · by_cases h20 : k < 30
      · obtain ⟨b, o, x, y, z, rfl, hb, hc1, hc2, hc3, ⟨hx0, hx1⟩, ⟨hy0, hy1⟩, ⟨hz0, hz1⟩⟩ := ha.below hbl k hlt
        clear ha hc2 hc3 hz0 hz1 hy0 hy1
        have C1 := Lib.hid (fun W => fix_sqrt x W hx1)
        have C2 := Lib.hid (fun W => ref_sqrt x W hx1)
        obtain ⟨r0, r1⟩ := fsqrt_range x
        have hle := @fsqrt_nonpos x
        have hsq := @fsqrt_sq x
        generalize fsqrt x = r at *
        by_cases hp : x ≤ 0
        · have hr := hle hp
          have hr0 : (r != 0) = false := by rw [bne_eq_false_iff_eq]; exact hr
          have HR := Lib.hid hr
          clear hle hsq hr
          go_wp2_with (first | (go_at_call 29; refine Calls.mono (C1.out _) ?_; rintro e w1 ⟨rfl, hb1⟩) | (go_at_call 30; refine Calls.mono (C2.out _) ?_; rintro e w2 ⟨rfl, hb2⟩))
          go_roundw
          case rel => exact ⟨k + 1, by omega, by omega, by go_num, hbl.trans ((hb1.trans (hb2.mono hb1.size)).mono hbl.size)⟩
          case measure => simp [intOf]; omega
        · have hp' : 0 < x := by omega
          by_cases hs : x < 70368744177664
          · obtain ⟨s1, s2, s3, s6⟩ := hsq hp' hs
            have s4 : 0 ≤ r * r := Int.mul_nonneg r0 r0
            have s5 : 0 ≤ (r + 1) * (r + 1) := by omega
            clear hle hsq hp r1
            go_wp2_with (first | (go_at_call 29; refine Calls.mono (C1.out _) ?_; rintro e w1 ⟨rfl, hb1⟩) | (go_at_call 30; refine Calls.mono (C2.out _) ?_; rintro e w2 ⟨rfl, hb2⟩))
            go_roundw
            case rel => exact ⟨k + 1, by omega, by omega, by go_num, hbl.trans ((hb1.trans (hb2.mono hb1.size)).mono hbl.size)⟩
            case measure => simp [intOf]; omega
          · have hs' : 70368744177664 ≤ x := by omega
            clear hle hsq hp hs
            go_wp2_with (first | (go_at_call 29; refine Calls.mono (C1.out _) ?_; rintro e w1 ⟨rfl, hb1⟩) | (go_at_call 30; refine Calls.mono (C2.out _) ?_; rintro e w2 ⟨rfl, hb2⟩))
            go_roundw
            case rel => exact ⟨k + 1, by omega, by omega, by go_num, hbl.trans ((hb1.trans (hb2.mono hb1.size)).mono hbl.size)⟩
            case measure => simp [intOf]; omega
      · go_wp2_with (first | (go_at_call 28; refine (wakes1 _).mono ?_; rintro e w1 ⟨rfl, hb1⟩))
        go_ret
        exact ⟨rfl, hbl.trans (hb1.mono hbl.size)⟩
    · go_wp2_with (first | (go_at_call 28; refine (wakes1 _).mono ?_; rintro e w1 ⟨rfl, hb1⟩))
      go_ret
      exact ⟨rfl, hbl.trans (hb1.mono hbl.size)⟩
end lawFixedRoots
end Go.Proofs.Ytpkdkkbmmkhhhaa
