/- The walk of the law VecShort. -/
import Derived.Test.YtpkdkkbmmkhhhaaVecShortMath
import Derived.Test.YtpkdkkbmmkhhhaaVecScale
namespace Go.Proofs.Ytpkdkkbmmkhhhaa
open Go.RowKit Go.WideShapes Go.ChangeShapes

theorem short_all {X Y m : Int} (hx0 : -2305843009213693952 ≤ X) (hx1 : X ≤ 2305843009213693952) (hy0 : -2305843009213693952 ≤ Y) (hy1 : Y ≤ 2305843009213693952) (m0 : 0 ≤ m) :
    vlen (clampV X Y m).1 (clampV X Y m).2 ≤ m ∧ vlen (clampV X Y m).1 (clampV X Y m).2 ≤ vlen X Y ∧
    ((clampV X Y m).1 < 0 → X < 0) ∧ (0 < (clampV X Y m).1 → 0 < X) ∧ ((clampV X Y m).2 < 0 → Y < 0) ∧ (0 < (clampV X Y m).2 → 0 < Y) ∧
    -2305843009213693952 ≤ (clampV X Y m).1 ∧ (clampV X Y m).1 ≤ 2305843009213693952 ∧ -2305843009213693952 ≤ (clampV X Y m).2 ∧ (clampV X Y m).2 ≤ 2305843009213693952 ∧
    clampV (clampV X Y m).1 (clampV X Y m).2 m = ((clampV X Y m).1, (clampV X Y m).2) := by
  have hm : mostV m = m := by unfold mostV; omega
  have nX : nrm X = X := nrm_id (by omega)
  have nY : nrm Y = Y := nrm_id (by omega)
  by_cases hc : vlen X Y ≤ m
  · have e : clampV X Y m = (X, Y) := by unfold clampV; rw [hm, nX, nY, if_pos hc]
    rw [e]
    exact ⟨hc, Int.le_refl _, id, id, id, id, hx0, hx1, hy0, hy1, e⟩
  · have e : clampV X Y m = (partV X m (vlen X Y), partV Y m (vlen X Y)) := by unfold clampV; rw [hm, nX, nY, if_neg hc]
    obtain ⟨s0, s1, s2, s3, s4, s5, s6, s7, s8⟩ := short_is hx0 hx1 hy0 hy1 m0 (by omega)
    rw [e]
    refine ⟨s0, Int.le_trans s0 (by omega), s1, s2, s3, s4, s5, s6, s7, s8, ?_⟩
    show clampV (partV X m (vlen X Y)) (partV Y m (vlen X Y)) m = _
    rw [show ∀ a b : Int, -9223372036854775807 ≤ a → -9223372036854775807 ≤ b → vlen a b ≤ m → clampV a b m = (a, b) from fun a b h1 h2 h3 => by unfold clampV; rw [hm, nrm_id h1, nrm_id h2, if_pos h3]]
    · omega
    · omega
    · exact s0

namespace lawVecShort
set_option maxHeartbeats 3200000 in
set_option maxRecDepth 100000 in
theorem walk {H : Type} {enc : TypeId × Value → H} (w : World) {base : Nat} (v : Value) (d : DataW H) (p : List MemPlace) (hv : Value.okWide Try.prog w .any base 22 v)
    (ht : DataW.Trod enc Try.prog w 0 (fun _ => true) true 22 v d p) : Calls Try.prog 14 #[v] w fun e w' => e = .returned (.bool true) ∧ Below w.heap.size w w' := by
  obtain ⟨A, n, c, rfl, hnc, hcm, ha⟩ := open_asks2 hv ht
  unfold maxLen at hcm
  clear hv ht
  go_enter Try.func14, Try.ntmps14
  go_wp2
  go_loopw [3] (fun i wr => ∃ (k : Nat), k ≤ n ∧ k ≤ 30 ∧ i = .int .i64 k ∧ Below w.heap.size w wr) (fun i _ => n - (intOf i).toNat)
  case atStart => exact ⟨0, Nat.zero_le _, by omega, rfl, Below.refl _ _⟩
  case round =>
    obtain ⟨k, hk, hk20, rfl, hbl⟩ := hrel
    by_cases hlt : k < n
    · by_cases h20 : k < 30
      · obtain ⟨b, o, x, y, p, q, z, rfl, hb, hc1, hc2, hc3, hc4, hc5, ⟨hx0, hx1⟩, ⟨hy0, hy1⟩, ⟨hp0, hp1⟩, ⟨hq0, hq1⟩, ⟨hz0, hz1⟩⟩ := ha.below hbl k hlt
        clear ha
        clear hc3 hc4
        have bX0 : -2305843009213693952 ≤ x / 4 := by omega
        have bX1 : x / 4 ≤ 2305843009213693951 := by omega
        have bY0 : -2305843009213693952 ≤ y / 4 := by omega
        have bY1 : y / 4 ≤ 2305843009213693951 := by omega
        have bm0 : 0 ≤ max z 0 := by omega
        have bm1 : max z 0 ≤ 9223372036854775807 := by omega
        go_wp2_with fail
        go_region
        go_wp2_with fail
        generalize x / 4 = X at *
        generalize y / 4 = Y at *
        generalize max z 0 = m at *
        clear hx0 hx1 hy0 hy1 hp0 hp1 hq0 hq1 hc1 hc2 hc5 hb
        have N1 := fun W => vec_clamp X Y m W (by omega) (by omega) (by omega)
        obtain ⟨s0, s1, s2, s3, s4, s5, s6, s7, s8, s9, sc⟩ := short_all bX0 (show X ≤ 2305843009213693952 by omega) bY0 (show Y ≤ 2305843009213693952 by omega) bm0
        generalize (clampV X Y m).1 = cx at *
        generalize (clampV X Y m).2 = cy at *
        have N1 := Lib.hid N1
        generalize hW : (wr.alloc (.cells #[.int .i64 X, .int .i64 Y] 25)).drew = W
        have c40 : W.cell? ⟨wr.heap.size, 0, none⟩ = some (.int .i64 X) := by rw [← hW]; show World.cell? (wr.alloc _) _ = _; rw [World.cell?_alloc_at _ _ _ _ rfl]; rfl
        have c41 : W.cell? ⟨wr.heap.size, 1, none⟩ = some (.int .i64 Y) := by rw [← hW]; show World.cell? (wr.alloc _) _ = _; rw [World.cell?_alloc_at _ _ _ _ rfl]; rfl
        have hbW : Below w.heap.size w W := by rw [← hW]; exact (hbl.alloc hbl.size _).drew
        have hW4 : wr.heap.size < W.heap.size := by rw [← hW]; show _ < (wr.alloc _).heap.size; simp
        clear hW
        generalize wr.heap.size = g4 at *
        refine Calls.mono (N1.out _) ?_
        rintro e w1 ⟨rfl, hb1⟩
        have d40 := (hb1.cell (p := ⟨g4, 0, none⟩) hW4).trans c40
        have d41 := (hb1.cell (p := ⟨g4, 1, none⟩) hW4).trans c41
        have hb1' := Nat.lt_of_lt_of_le hW4 hb1.size
        have hbw1 := hbW.trans (hb1.mono hbW.size)
        clear c40 c41 N1
        go_wp2_with fail
        generalize hW2 : w1.alloc (.cells #[.int .i64 cx, .int .i64 cy] 25) = W2
        have c40 : W2.cell? ⟨g4, 0, none⟩ = some (.int .i64 X) := by rw [← hW2, World.cell?_alloc_lt _ _ _ hb1']; exact d40
        have c41 : W2.cell? ⟨g4, 1, none⟩ = some (.int .i64 Y) := by rw [← hW2, World.cell?_alloc_lt _ _ _ hb1']; exact d41
        have c50 : W2.cell? ⟨w1.heap.size, 0, none⟩ = some (.int .i64 cx) := by rw [← hW2, World.cell?_alloc_at _ _ _ _ rfl]; rfl
        have c51 : W2.cell? ⟨w1.heap.size, 1, none⟩ = some (.int .i64 cy) := by rw [← hW2, World.cell?_alloc_at _ _ _ _ rfl]; rfl
        have hbW2 : Below w.heap.size w W2 := by rw [← hW2]; exact hbw1.alloc hbw1.size _
        have hW4 : g4 < W2.heap.size := by rw [← hW2]; simp; omega
        have hW5 : w1.heap.size < W2.heap.size := by rw [← hW2]; simp
        clear hW2 d40 d41 hb1 hb1' hbw1 hbW
        generalize w1.heap.size = g5 at *
        have M1 := fun W => vec_len cx cy W (by omega) (by omega)
        have M2 := fun W => vec_len X Y W (by omega) (by omega)
        have M3 := fun W => vec_clamp cx cy m W (by omega) (by omega) (by omega)
        rw [sc] at M3
        clear sc
        generalize vlen cx cy = N at *
        generalize vlen X Y = L at *
        have b1 : decide (m < N) = false := by simp; omega
        have b2 : decide (L < N) = false := by simp; omega
        have M1 := Lib.hid (fun u => calls_over (x := u) (M1 (over W2 u)))
        have M2 := Lib.hid (fun u => calls_over (x := u) (M2 (over W2 u)))
        have M3 := Lib.hid (fun u => calls_over (x := u) (M3 (over W2 u)))
        have hx3 : (cx < 0 ∧ X < 0) ∨ cx = 0 ∨ (0 < cx ∧ 0 < X) := by omega
        have hy3 : (cy < 0 ∧ Y < 0) ∨ cy = 0 ∨ (0 < cy ∧ 0 < Y) := by omega
        clear s0 s1 s2 s3 s4 s5
        rcases hx3 with ⟨f1, f2⟩ | rfl | ⟨f1, f2⟩
        · rcases hy3 with ⟨f3, f4⟩ | rfl | ⟨f3, f4⟩
          · have gcx1 : decide (cx < 0) = true := by simp; omega
            have gcx2 : decide (0 ≤ X) = false := by simp; omega
            have gcx3 : decide (0 < cx) = false := by simp; omega
            have gcy1 : decide (cy < 0) = true := by simp; omega
            have gcy2 : decide (0 ≤ Y) = false := by simp; omega
            have gcy3 : decide (0 < cy) = false := by simp; omega
            refine wp_region_over (by kernel_rfl) (by kernel_rfl) ?_
            repeat (go_big_quiet_step (first | (go_at_call 21; with_reducible (first | exact M1.out _ | exact M2.out _)) | (go_at_call 50; exact M3.out _)))
            refine wpQuiet_nil ?_
            rintro wq ⟨xq, rfl⟩
            have hq := over_below W2 xq
            generalize over W2 xq = wq at *
            go_wp2
            go_roundw
            case rel => exact ⟨k + 1, by omega, by omega, by go_num, hbW2.trans (hq.mono hbW2.size)⟩
            case measure => simp [intOf]; omega
          · have gcx1 : decide (cx < 0) = true := by simp; omega
            have gcx2 : decide (0 ≤ X) = false := by simp; omega
            have gcx3 : decide (0 < cx) = false := by simp; omega
            refine wp_region_over (by kernel_rfl) (by kernel_rfl) ?_
            repeat (go_big_quiet_step (first | (go_at_call 21; with_reducible (first | exact M1.out _ | exact M2.out _)) | (go_at_call 50; exact M3.out _)))
            refine wpQuiet_nil ?_
            rintro wq ⟨xq, rfl⟩
            have hq := over_below W2 xq
            generalize over W2 xq = wq at *
            go_wp2
            go_roundw
            case rel => exact ⟨k + 1, by omega, by omega, by go_num, hbW2.trans (hq.mono hbW2.size)⟩
            case measure => simp [intOf]; omega
          · have gcx1 : decide (cx < 0) = true := by simp; omega
            have gcx2 : decide (0 ≤ X) = false := by simp; omega
            have gcx3 : decide (0 < cx) = false := by simp; omega
            have gcy1 : decide (cy < 0) = false := by simp; omega
            have gcy2 : decide (Y ≤ 0) = false := by simp; omega
            have gcy3 : decide (0 < cy) = true := by simp; omega
            refine wp_region_over (by kernel_rfl) (by kernel_rfl) ?_
            repeat (go_big_quiet_step (first | (go_at_call 21; with_reducible (first | exact M1.out _ | exact M2.out _)) | (go_at_call 50; exact M3.out _)))
            refine wpQuiet_nil ?_
            rintro wq ⟨xq, rfl⟩
            have hq := over_below W2 xq
            generalize over W2 xq = wq at *
            go_wp2
            go_roundw
            case rel => exact ⟨k + 1, by omega, by omega, by go_num, hbW2.trans (hq.mono hbW2.size)⟩
            case measure => simp [intOf]; omega
        · rcases hy3 with ⟨f3, f4⟩ | rfl | ⟨f3, f4⟩
          · have gcy1 : decide (cy < 0) = true := by simp; omega
            have gcy2 : decide (0 ≤ Y) = false := by simp; omega
            have gcy3 : decide (0 < cy) = false := by simp; omega
            refine wp_region_over (by kernel_rfl) (by kernel_rfl) ?_
            repeat (go_big_quiet_step (first | (go_at_call 21; with_reducible (first | exact M1.out _ | exact M2.out _)) | (go_at_call 50; exact M3.out _)))
            refine wpQuiet_nil ?_
            rintro wq ⟨xq, rfl⟩
            have hq := over_below W2 xq
            generalize over W2 xq = wq at *
            go_wp2
            go_roundw
            case rel => exact ⟨k + 1, by omega, by omega, by go_num, hbW2.trans (hq.mono hbW2.size)⟩
            case measure => simp [intOf]; omega
          · refine wp_region_over (by kernel_rfl) (by kernel_rfl) ?_
            repeat (go_big_quiet_step (first | (go_at_call 21; with_reducible (first | exact M1.out _ | exact M2.out _)) | (go_at_call 50; exact M3.out _)))
            refine wpQuiet_nil ?_
            rintro wq ⟨xq, rfl⟩
            have hq := over_below W2 xq
            generalize over W2 xq = wq at *
            go_wp2
            go_roundw
            case rel => exact ⟨k + 1, by omega, by omega, by go_num, hbW2.trans (hq.mono hbW2.size)⟩
            case measure => simp [intOf]; omega
          · have gcy1 : decide (cy < 0) = false := by simp; omega
            have gcy2 : decide (Y ≤ 0) = false := by simp; omega
            have gcy3 : decide (0 < cy) = true := by simp; omega
            refine wp_region_over (by kernel_rfl) (by kernel_rfl) ?_
            repeat (go_big_quiet_step (first | (go_at_call 21; with_reducible (first | exact M1.out _ | exact M2.out _)) | (go_at_call 50; exact M3.out _)))
            refine wpQuiet_nil ?_
            rintro wq ⟨xq, rfl⟩
            have hq := over_below W2 xq
            generalize over W2 xq = wq at *
            go_wp2
            go_roundw
            case rel => exact ⟨k + 1, by omega, by omega, by go_num, hbW2.trans (hq.mono hbW2.size)⟩
            case measure => simp [intOf]; omega
        · rcases hy3 with ⟨f3, f4⟩ | rfl | ⟨f3, f4⟩
          · have gcx1 : decide (cx < 0) = false := by simp; omega
            have gcx2 : decide (X ≤ 0) = false := by simp; omega
            have gcx3 : decide (0 < cx) = true := by simp; omega
            have gcy1 : decide (cy < 0) = true := by simp; omega
            have gcy2 : decide (0 ≤ Y) = false := by simp; omega
            have gcy3 : decide (0 < cy) = false := by simp; omega
            refine wp_region_over (by kernel_rfl) (by kernel_rfl) ?_
            repeat (go_big_quiet_step (first | (go_at_call 21; with_reducible (first | exact M1.out _ | exact M2.out _)) | (go_at_call 50; exact M3.out _)))
            refine wpQuiet_nil ?_
            rintro wq ⟨xq, rfl⟩
            have hq := over_below W2 xq
            generalize over W2 xq = wq at *
            go_wp2
            go_roundw
            case rel => exact ⟨k + 1, by omega, by omega, by go_num, hbW2.trans (hq.mono hbW2.size)⟩
            case measure => simp [intOf]; omega
          · have gcx1 : decide (cx < 0) = false := by simp; omega
            have gcx2 : decide (X ≤ 0) = false := by simp; omega
            have gcx3 : decide (0 < cx) = true := by simp; omega
            refine wp_region_over (by kernel_rfl) (by kernel_rfl) ?_
            repeat (go_big_quiet_step (first | (go_at_call 21; with_reducible (first | exact M1.out _ | exact M2.out _)) | (go_at_call 50; exact M3.out _)))
            refine wpQuiet_nil ?_
            rintro wq ⟨xq, rfl⟩
            have hq := over_below W2 xq
            generalize over W2 xq = wq at *
            go_wp2
            go_roundw
            case rel => exact ⟨k + 1, by omega, by omega, by go_num, hbW2.trans (hq.mono hbW2.size)⟩
            case measure => simp [intOf]; omega
          · have gcx1 : decide (cx < 0) = false := by simp; omega
            have gcx2 : decide (X ≤ 0) = false := by simp; omega
            have gcx3 : decide (0 < cx) = true := by simp; omega
            have gcy1 : decide (cy < 0) = false := by simp; omega
            have gcy2 : decide (Y ≤ 0) = false := by simp; omega
            have gcy3 : decide (0 < cy) = true := by simp; omega
            refine wp_region_over (by kernel_rfl) (by kernel_rfl) ?_
            repeat (go_big_quiet_step (first | (go_at_call 21; with_reducible (first | exact M1.out _ | exact M2.out _)) | (go_at_call 50; exact M3.out _)))
            refine wpQuiet_nil ?_
            rintro wq ⟨xq, rfl⟩
            have hq := over_below W2 xq
            generalize over W2 xq = wq at *
            go_wp2
            go_roundw
            case rel => exact ⟨k + 1, by omega, by omega, by go_num, hbW2.trans (hq.mono hbW2.size)⟩
            case measure => simp [intOf]; omega
      · go_wp2_with fail
        refine Calls.mono (wakes2 _) ?_
        rintro e w3 ⟨rfl, hb3⟩
        go_wp2
        go_ret
        exact ⟨rfl, hbl.trans (hb3.mono hbl.size)⟩
    · go_wp2_with fail
      refine Calls.mono (wakes2 _) ?_
      rintro e w3 ⟨rfl, hb3⟩
      go_wp2
      go_ret
      exact ⟨rfl, hbl.trans (hb3.mono hbl.size)⟩
end lawVecShort
end Go.Proofs.Ytpkdkkbmmkhhhaa
