/- The walk of the law FixedBounds. -/
import Derived.Test.YtpkdkkbmmkhhhaaFixLaws
namespace Go.Proofs.Ytpkdkkbmmkhhhaa
open Go.RowKit Go.WideShapes Go.ChangeShapes

theorem six_low (v0 v1 v2 v3 v4 v5 : Int) (h0 : -9223372036854775807 ≤ v0) (h1 : -9223372036854775807 ≤ v1) (h2 : -9223372036854775807 ≤ v2) (h3 : -9223372036854775807 ≤ v3) (h4 : -9223372036854775807 ≤ v4) (h5 : -9223372036854775807 ≤ v5) (w : World) (t : TypeId) :
    ∀ j, j < 6 → ∃ v, -9223372036854775807 ≤ v ∧ (w.alloc (.cells #[.int .i64 v0, .int .i64 v1, .int .i64 v2, .int .i64 v3, .int .i64 v4, .int .i64 v5] t)).cell? ⟨w.heap.size, j, none⟩ = some (.int .i64 v) := by
  intro j hj
  rw [World.cell?_alloc_at _ _ _ _ rfl]
  rcases (show j = 0 ∨ j = 1 ∨ j = 2 ∨ j = 3 ∨ j = 4 ∨ j = 5 by omega) with rfl | rfl | rfl | rfl | rfl | rfl
  · exact ⟨_, h0, rfl⟩
  · exact ⟨_, h1, rfl⟩
  · exact ⟨_, h2, rfl⟩
  · exact ⟨_, h3, rfl⟩
  · exact ⟨_, h4, rfl⟩
  · exact ⟨_, h5, rfl⟩
theorem end_vals : fadd 9223372036854775807 1 = 9223372036854775807 ∧ fsub (-9223372036854775807) 1 = -9223372036854775807 ∧ fneg (-9223372036854775808) = 9223372036854775807 ∧ fmul 9223372036854775807 131072 = 9223372036854775807 ∧ fmul 9223372036854775807 (-131072) = -9223372036854775807 ∧ fdiv 9223372036854775807 1 = 9223372036854775807 ∧ fdiv 5 0 = 9223372036854775807 ∧ fdiv (-5) 0 = -9223372036854775807 ∧ fdiv 0 0 = 0 ∧ fcmp (-9223372036854775808) (-9223372036854775807) = 0 := by decide +kernel

namespace lawFixedBounds
set_option maxHeartbeats 3200000 in
set_option maxRecDepth 100000 in
theorem walk {H : Type} {enc : TypeId × Value → H} (w : World) {base : Nat} (v : Value) (d : DataW H) (p : List MemPlace) (hv : Value.okWide Try.prog w .any base 31 v)
    (ht : DataW.Trod enc Try.prog w 0 (fun _ => true) true 31 v d p) : Calls Try.prog 20 #[v] w fun e w' => e = .returned (.bool true) ∧ Below w.heap.size w w' := by
  obtain ⟨A, n, c, rfl, hnc, hcm, ha⟩ := open_asks1 hv ht
  unfold maxLen at hcm
  clear hv ht
  go_enter Try.func20, Try.ntmps20
  go_wp2
  go_loopw [3] (fun i wr => ∃ (k : Nat), k ≤ n ∧ k ≤ 30 ∧ i = .int .i64 k ∧ Below w.heap.size w wr) (fun i _ => n - (intOf i).toNat)
  case atStart => exact ⟨0, Nat.zero_le _, by omega, rfl, Below.refl _ _⟩
  case round =>
    obtain ⟨k, hk, hk20, rfl, hbl⟩ := hrel
    by_cases hlt : k < n
    · by_cases h20 : k < 30
      · obtain ⟨b, o, x, y, z, rfl, hb, hc1, hc2, hc3, ⟨hx0, hx1⟩, ⟨hy0, hy1⟩, ⟨hz0, hz1⟩⟩ := ha.below hbl k hlt
        clear ha
        have P1 := Lib.hid (fun W => fix_add x y W hx1 hy1)
        have P2 := Lib.hid (fun W => fix_sub x y W hx1 hy1)
        have P3 := Lib.hid (fun W => fix_neg x W hx1)
        have P4 := Lib.hid (fun W => fix_mul x y W hx1 hy1)
        have D1 := Lib.hid (fun W => fix_div x y W hx1 hy1)
        have Q1 := Lib.hid (fun W => fix_sqrt x W hx1)
        have L1 := (fadd_range x y).1
        have L2 : -9223372036854775807 ≤ fsub x y := (fadd_range _ _).1
        have L3 := (fneg_range hx1).1
        have L4 := (fmul_range x y).1
        have L5 := (fdiv_range hx1 hy1).1
        have L6 : -9223372036854775807 ≤ fsqrt x := by have := fsqrt_range x; omega
        generalize fadd x y = r1 at *
        generalize fsub x y = r2 at *
        generalize fneg x = r3 at *
        generalize fmul x y = r4 at *
        generalize fdiv x y = r5 at *
        generalize fsqrt x = r6 at *
        clear hc3
        go_wp2_with fail
        go_quiet (fail)
        go_wp2_with (first | (go_at_call 35; ((with_reducible refine Calls.mono (P1.out _) ?_); rintro e w1 ⟨rfl, rfl⟩)) | (go_at_call 37; ((with_reducible refine Calls.mono (P2.out _) ?_); rintro e w1 ⟨rfl, rfl⟩)) | (go_at_call 39; ((with_reducible refine Calls.mono (P3.out _) ?_); rintro e w1 ⟨rfl, rfl⟩)) | (go_at_call 26; ((with_reducible refine Calls.mono (P4.out _) ?_); rintro e w1 ⟨rfl, rfl⟩)))
        refine Calls.mono (D1.out _) ?_
        rintro e w2 ⟨rfl, hb2⟩
        go_wp2_with fail
        refine Calls.mono (Q1.out _) ?_
        rintro e w3 ⟨rfl, hb3⟩
        have hb3' : Below wr.heap.size wr w3 := ((below_drewN (Below.refl _ _) _).trans hb2).trans (hb3.mono hb2.size)
        go_wp2_with fail
        have H6 := Lib.hid (six_low r1 r2 r3 r4 r5 r6 L1 L2 L3 L4 L5 L6 w3 2)
        have hbX : Below wr.heap.size wr (w3.alloc (.cells #[.int .i64 r1, .int .i64 r2, .int .i64 r3, .int .i64 r4, .int .i64 r5, .int .i64 r6] 2)) := hb3'.alloc hb3'.size _
        clear hb2 hb3 hb3' L1 L2 L3 L4 L5 L6
        generalize w3.alloc _ = X at *
        generalize w3.heap.size = gx at *
        go_loop [7] (fun i => ∃ (j : Nat), j ≤ 6 ∧ i = .int .i64 j) (fun i => 6 - (intOf i).toNat)
        case atStart => exact ⟨0, by omega, rfl⟩
        case round =>
          obtain ⟨j, hj, rfl⟩ := hrel
          by_cases hj6 : j < 6
          · obtain ⟨v, hv, hc⟩ := H6.out j hj6
            have ji : (j : Int) < 6 := by omega
            go_wp2
            go_round
            case rel => exact ⟨j + 1, by omega, by go_num⟩
            case measure => simp [intOf]; omega
          · have ji : ¬ (j : Int) < 6 := by omega
            go_wp2
            go_roundw
            case rel => exact ⟨k + 1, by omega, by omega, by go_num, hbl.trans (hbX.mono hbl.size)⟩
            case measure => simp [intOf]; omega
      · obtain ⟨v1, v2, v3, v4, v5, v6, v7, v8, v9, v10⟩ := end_vals
        have E1 := fun W => fix_add 9223372036854775807 1 W (by omega) (by omega)
        have E2 := fun W => fix_sub (-9223372036854775807) 1 W (by omega) (by omega)
        have E3 := fun W => fix_neg (-9223372036854775808) W (by omega)
        have E4 := fun W => fix_mul 9223372036854775807 131072 W (by omega) (by omega)
        have E5 := fun W => fix_mul 9223372036854775807 (-131072) W (by omega) (by omega)
        have E6 := fun W => fix_div 9223372036854775807 1 W (by omega) (by omega)
        have E7 := fun W => fix_div 5 0 W (by omega) (by omega)
        have E8 := fun W => fix_div (-5) 0 W (by omega) (by omega)
        have E9 := fun W => fix_div 0 0 W (by omega) (by omega)
        have E0 := fun W => fix_cmp (-9223372036854775808) (-9223372036854775807) W
        rw [v1] at E1
        rw [v2] at E2
        rw [v3] at E3
        rw [v4] at E4
        rw [v5] at E5
        rw [v6] at E6
        rw [v7] at E7
        rw [v8] at E8
        rw [v9] at E9
        rw [v10] at E0
        have E1 := Lib.hid E1
        have E2 := Lib.hid E2
        have E3 := Lib.hid E3
        have E4 := Lib.hid E4
        have E5 := Lib.hid E5
        clear ha v1 v2 v3 v4 v5 v6 v7 v8 v9 v10
        have E6 := Lib.hid E6
        have E7 := Lib.hid E7
        have E8 := Lib.hid E8
        have E9 := Lib.hid E9
        have E0 := Lib.hid E0
        go_wp2_with (first | (go_at_call 35; ((with_reducible refine Calls.mono (E1.out _) ?_); rintro e w1 ⟨rfl, rfl⟩)) | (go_at_call 37; ((with_reducible refine Calls.mono (E2.out _) ?_); rintro e w1 ⟨rfl, rfl⟩)) | (go_at_call 39; ((with_reducible refine Calls.mono (E3.out _) ?_); rintro e w1 ⟨rfl, rfl⟩)) | (go_at_call 26; ((with_reducible refine Calls.mono (E4.out _) ?_); rintro e w1 ⟨rfl, rfl⟩)) | (go_at_call 26; ((with_reducible refine Calls.mono (E5.out _) ?_); rintro e w1 ⟨rfl, rfl⟩)))
        refine Calls.mono (E6.out _) ?_
        rintro e w2 ⟨rfl, hb2⟩
        go_wp2_with fail
        refine Calls.mono (E7.out _) ?_
        rintro e w3 ⟨rfl, hb3⟩
        go_wp2_with fail
        refine Calls.mono (E8.out _) ?_
        rintro e w4 ⟨rfl, hb4⟩
        go_wp2_with fail
        refine Calls.mono (E9.out _) ?_
        rintro e w5 ⟨rfl, hb5⟩
        go_wp2_with (first | (go_at_call 54; ((with_reducible refine Calls.mono (E0.out _) ?_); rintro e w1 ⟨rfl, rfl⟩)))
        refine Calls.mono (wakes1 _) ?_
        rintro e w6 ⟨rfl, hb6⟩
        go_wp2
        go_ret
        have h3 := hb2.trans (hb3.mono hb2.size)
        have h4 := h3.trans (hb4.mono h3.size)
        have h5 := h4.trans (hb5.mono h4.size)
        have h6 := h5.trans (hb6.mono h5.size)
        exact ⟨rfl, hbl.trans (h6.mono hbl.size)⟩
    · obtain ⟨v1, v2, v3, v4, v5, v6, v7, v8, v9, v10⟩ := end_vals
      have E1 := fun W => fix_add 9223372036854775807 1 W (by omega) (by omega)
      have E2 := fun W => fix_sub (-9223372036854775807) 1 W (by omega) (by omega)
      have E3 := fun W => fix_neg (-9223372036854775808) W (by omega)
      have E4 := fun W => fix_mul 9223372036854775807 131072 W (by omega) (by omega)
      have E5 := fun W => fix_mul 9223372036854775807 (-131072) W (by omega) (by omega)
      have E6 := fun W => fix_div 9223372036854775807 1 W (by omega) (by omega)
      have E7 := fun W => fix_div 5 0 W (by omega) (by omega)
      have E8 := fun W => fix_div (-5) 0 W (by omega) (by omega)
      have E9 := fun W => fix_div 0 0 W (by omega) (by omega)
      have E0 := fun W => fix_cmp (-9223372036854775808) (-9223372036854775807) W
      rw [v1] at E1
      rw [v2] at E2
      rw [v3] at E3
      rw [v4] at E4
      rw [v5] at E5
      rw [v6] at E6
      rw [v7] at E7
      rw [v8] at E8
      rw [v9] at E9
      rw [v10] at E0
      have E1 := Lib.hid E1
      have E2 := Lib.hid E2
      have E3 := Lib.hid E3
      have E4 := Lib.hid E4
      have E5 := Lib.hid E5
      clear ha v1 v2 v3 v4 v5 v6 v7 v8 v9 v10
      have E6 := Lib.hid E6
      have E7 := Lib.hid E7
      have E8 := Lib.hid E8
      have E9 := Lib.hid E9
      have E0 := Lib.hid E0
      go_wp2_with (first | (go_at_call 35; ((with_reducible refine Calls.mono (E1.out _) ?_); rintro e w1 ⟨rfl, rfl⟩)) | (go_at_call 37; ((with_reducible refine Calls.mono (E2.out _) ?_); rintro e w1 ⟨rfl, rfl⟩)) | (go_at_call 39; ((with_reducible refine Calls.mono (E3.out _) ?_); rintro e w1 ⟨rfl, rfl⟩)) | (go_at_call 26; ((with_reducible refine Calls.mono (E4.out _) ?_); rintro e w1 ⟨rfl, rfl⟩)) | (go_at_call 26; ((with_reducible refine Calls.mono (E5.out _) ?_); rintro e w1 ⟨rfl, rfl⟩)))
      refine Calls.mono (E6.out _) ?_
      rintro e w2 ⟨rfl, hb2⟩
      go_wp2_with fail
      refine Calls.mono (E7.out _) ?_
      rintro e w3 ⟨rfl, hb3⟩
      go_wp2_with fail
      refine Calls.mono (E8.out _) ?_
      rintro e w4 ⟨rfl, hb4⟩
      go_wp2_with fail
      refine Calls.mono (E9.out _) ?_
      rintro e w5 ⟨rfl, hb5⟩
      go_wp2_with (first | (go_at_call 54; ((with_reducible refine Calls.mono (E0.out _) ?_); rintro e w1 ⟨rfl, rfl⟩)))
      refine Calls.mono (wakes1 _) ?_
      rintro e w6 ⟨rfl, hb6⟩
      go_wp2
      go_ret
      have h3 := hb2.trans (hb3.mono hb2.size)
      have h4 := h3.trans (hb4.mono h3.size)
      have h5 := h4.trans (hb5.mono h4.size)
      have h6 := h5.trans (hb6.mono h5.size)
      exact ⟨rfl, hbl.trans (h6.mono hbl.size)⟩
end lawFixedBounds
end Go.Proofs.Ytpkdkkbmmkhhhaa
