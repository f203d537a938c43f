/- vec's scaled ways and products, and the page's. -/
import Derived.Test.YtpkdkkbmmkhhhaaVecOps
import Derived.Test.YtpkdkkbmmkhhhaaMem
namespace Go.Proofs.Ytpkdkkbmmkhhhaa
open Go.RowKit

set_option maxHeartbeats 800000 in
theorem vec_scale (x y k : Int) (w : World) (hx : x ≤ 9223372036854775807) (hy : y ≤ 9223372036854775807) (hk : k ≤ 9223372036854775807) : Calls Try.prog 46 #[.agg #[.int .i64 x, .int .i64 y], .int .i64 k] w fun e w' => e = .returned (.agg #[.int .i64 (fmul x k), .int .i64 (fmul y k)]) ∧ Below w.heap.size w w' := by
  have N1 := Lib.hid (fun W => back_of (fix_mul x k W hx hk))
  have N2 := Lib.hid (fun W => back_of (fix_mul y k W hy hk))
  generalize fmul x k = X at *
  generalize fmul y k = Y at *
  go_enter Try.func46, Try.ntmps46
  go_wp2_with fail
  generalize hW : (w.alloc (.cells #[.int .i64 x, .int .i64 y] 25)).alloc _ = W
  have hc0 : W.cell? ⟨w.heap.size, 0, none⟩ = some (.int .i64 x) := by rw [← hW, World.cell?_alloc_lt _ _ _ (by simp), World.cell?_alloc_at _ _ _ _ rfl]; rfl
  have hc1 : W.cell? ⟨w.heap.size, 1, none⟩ = some (.int .i64 y) := by rw [← hW, World.cell?_alloc_lt _ _ _ (by simp), World.cell?_alloc_at _ _ _ _ rfl]; rfl
  refine wp_region_still_tail 9 (by kernel_rfl) (by kernel_rfl) ?_
  simp only [List.take_succ_cons, List.take_zero, List.drop_succ_cons, List.drop_zero]
  repeat still_step
  still_call (N1.out _)
  repeat still_step
  still_call (N2.out _)
  repeat still_step
  refine wpStill_nil ?_
  change wpList _ _ _ _ _ W.drew
  subst hW
  go_wp2
  exact bodyPost_ret (v := .agg #[.int .i64 X, .int .i64 Y]) (by simp [results, Try.results46, go_sem]) rfl ⟨rfl, (two_below _ _ _).drew⟩

set_option maxHeartbeats 800000 in
theorem vec_dot (x y p q : Int) (w : World) (hx : x ≤ 9223372036854775807) (hy : y ≤ 9223372036854775807) (hp : p ≤ 9223372036854775807) (hq : q ≤ 9223372036854775807) : Calls Try.prog 48 #[.agg #[.int .i64 x, .int .i64 y], .agg #[.int .i64 p, .int .i64 q]] w fun e w' => e = .returned (.int .i64 (fadd (fmul x p) (fmul y q))) ∧ Below w.heap.size w w' := by
  have N1 := Lib.hid (fun W => fix_mul x p W hx hp)
  have N2 := Lib.hid (fun W => fix_mul y q W hy hq)
  have N3 := Lib.hid (fun W => fix_add (fmul x p) (fmul y q) W (fmul_range x p).2 (fmul_range y q).2)
  generalize fadd (fmul x p) (fmul y q) = F at *
  generalize fmul x p = X at *
  generalize fmul y q = Y at *
  go_enter Try.func48, Try.ntmps48
  go_wp2_with fail
  generalize hW : (w.alloc (.cells #[.int .i64 x, .int .i64 y] 25)).alloc (.cells #[.int .i64 p, .int .i64 q] 25) = W
  have hc0 : W.cell? ⟨w.heap.size, 0, none⟩ = some (.int .i64 x) := by rw [← hW, World.cell?_alloc_lt _ _ _ (by simp), World.cell?_alloc_at _ _ _ _ rfl]; rfl
  have hc1 : W.cell? ⟨w.heap.size, 1, none⟩ = some (.int .i64 y) := by rw [← hW, World.cell?_alloc_lt _ _ _ (by simp), World.cell?_alloc_at _ _ _ _ rfl]; rfl
  have hc2 : W.cell? ⟨w.heap.size + 1, 0, none⟩ = some (.int .i64 p) := by rw [← hW, World.cell?_alloc_at _ _ _ _ (by simp)]; rfl
  have hc3 : W.cell? ⟨w.heap.size + 1, 1, none⟩ = some (.int .i64 q) := by rw [← hW, World.cell?_alloc_at _ _ _ _ (by simp)]; rfl
  have hb : Below w.heap.size w W := by rw [← hW]; exact two_below _ _ _
  clear hW
  go_region_held3 (fun w' => w'.cell? ⟨w.heap.size, 0, none⟩ = some (.int .i64 x) ∧ w'.cell? ⟨w.heap.size, 1, none⟩ = some (.int .i64 y) ∧ w'.cell? ⟨w.heap.size + 1, 0, none⟩ = some (.int .i64 p) ∧ w'.cell? ⟨w.heap.size + 1, 1, none⟩ = some (.int .i64 q))
    (exact ⟨hc0, hc1, hc2, hc3⟩)
    (first
      | (go_at_call 26; ((with_reducible refine Calls.mono (N1.out _) ?_); rintro e w3 ⟨rfl, rfl⟩))
      | (go_at_call 26; ((with_reducible refine Calls.mono (N2.out _) ?_); rintro e w3 ⟨rfl, rfl⟩))
      | (go_at_call 35; ((with_reducible refine Calls.mono (N3.out _) ?_); rintro e w3 ⟨rfl, rfl⟩)))
  go_wp2
  go_ret
  exact ⟨rfl, hb.drew⟩

set_option maxHeartbeats 1600000 in
theorem ref_scale (x y k : Int) (w : World) (hx : x ≤ 9223372036854775807) (hy : y ≤ 9223372036854775807) (hk : k ≤ 9223372036854775807) : Calls Try.prog 47 #[.agg #[.int .i64 x, .int .i64 y], .int .i64 k] w fun e w' => e = .returned (.agg #[.int .i64 (fmul x k), .int .i64 (fmul y k)]) ∧ Below w.heap.size w w' := by
  have N1 := Lib.hid (fun W => ref_mul x k W hx hk)
  have N2 := Lib.hid (fun W => ref_mul y k W hy hk)
  generalize fmul x k = X at *
  generalize fmul y k = Y at *
  go_enter Try.func47, Try.ntmps47
  go_wp2_with fail
  generalize hW : (w.alloc (.cells #[.int .i64 x, .int .i64 y] 25)).alloc (.cells _ 25) = W
  have hb : Below w.heap.size w W := by rw [← hW]; exact two_below _ _ _
  have hz : W.heap.size = w.heap.size + 2 := by rw [← hW]; simp
  have hS : ∀ w', Below W.heap.size W w' → w'.cell? ⟨w.heap.size, 0, none⟩ = some (.int .i64 x) ∧ w'.cell? ⟨w.heap.size, 1, none⟩ = some (.int .i64 y) := by
    intro w' h
    refine ⟨(h.cell (p := ⟨w.heap.size, 0, none⟩) (by simp [hz])).trans ?_, (h.cell (p := ⟨w.heap.size, 1, none⟩) (by simp [hz])).trans ?_⟩
    · rw [← hW, World.cell?_alloc_lt _ _ _ (by simp), World.cell?_alloc_at _ _ _ _ rfl]; rfl
    · rw [← hW, World.cell?_alloc_lt _ _ _ (by simp), World.cell?_alloc_at _ _ _ _ rfl]; rfl
  have hT : ∀ w', Below W.heap.size W w' → ∃ a b, w'.cell? ⟨w.heap.size + 1, 0, none⟩ = some a ∧ w'.cell? ⟨w.heap.size + 1, 1, none⟩ = some b ∧ w'.frozen? ⟨w.heap.size + 1, 0, none⟩ = false ∧ w'.frozen? ⟨w.heap.size + 1, 1, none⟩ = false := by
    intro w' h
    rw [← hW] at h
    obtain ⟨c0, c1, f0, f1, _⟩ := own2 _ _ _ _ _ h
    exact ⟨_, _, by simpa using c0, by simpa using c1, by simpa using f0, by simpa using f1⟩
  clear hW
  go_region_held3 (fun w' => w'.cell? ⟨w.heap.size, 0, none⟩ = some (.int .i64 x) ∧ w'.cell? ⟨w.heap.size, 1, none⟩ = some (.int .i64 y))
    (first | exact hS _ (Below.refl _ _).drew | exact hS _ hB3 | exact hS _ hB4 | go_keep)
    (first
      | (go_at_call 27; ((with_reducible refine Calls.mono (N1.out _) ?_); rintro e w3 ⟨rfl, hb3⟩; have hB3 : Below W.heap.size W w3 := (Below.refl _ _).drew.trans hb3))
      | (go_at_call 27; ((with_reducible refine Calls.mono (N2.out _) ?_); rintro e w4 ⟨rfl, hb4⟩; have hB4 : Below W.heap.size W w4 := hB3.trans (hb4.mono hB3.size); obtain ⟨a, b, d0, d1, f0, f1⟩ := hT _ hB4)))
  have hBw : Below w.heap.size w w4 := hb.trans (hB4.mono hb.size)
  obtain ⟨s0, s1⟩ := set2 d0 d1 (.int .i64 X) (.int .i64 Y)
  clear hb3 hB3 hb4 hB4 hS hT
  go_wp2
  exact bodyPost_ret (v := .agg #[.int .i64 X, .int .i64 Y]) (by simp [results, Try.results47, go_sem, s0, s1]) rfl ⟨rfl, (hBw.setCell (by simp) _).setCell (by simp) _⟩

set_option maxHeartbeats 1600000 in
theorem ref_dot (x y p q : Int) (w : World) (hx : x ≤ 9223372036854775807) (hy : y ≤ 9223372036854775807) (hp : p ≤ 9223372036854775807) (hq : q ≤ 9223372036854775807) : Calls Try.prog 49 #[.agg #[.int .i64 x, .int .i64 y], .agg #[.int .i64 p, .int .i64 q]] w fun e w' => e = .returned (.int .i64 (fadd (fmul x p) (fmul y q))) ∧ Below w.heap.size w w' := by
  have N1 := Lib.hid (fun W => ref_mul x p W hx hp)
  have N2 := Lib.hid (fun W => ref_mul y q W hy hq)
  have N3 := Lib.hid (fun W => ref_add (fmul x p) (fmul y q) W (fmul_range x p).2 (fmul_range y q).2)
  generalize fadd (fmul x p) (fmul y q) = F at *
  generalize fmul x p = X at *
  generalize fmul y q = Y at *
  go_enter Try.func49, Try.ntmps49
  go_wp2_with fail
  generalize hW : (w.alloc (.cells #[.int .i64 x, .int .i64 y] 25)).alloc (.cells #[.int .i64 p, .int .i64 q] 25) = W
  have hb : Below w.heap.size w W := by rw [← hW]; exact two_below _ _ _
  have hz : W.heap.size = w.heap.size + 2 := by rw [← hW]; simp
  have hS : ∀ w', Below W.heap.size W w' → w'.cell? ⟨w.heap.size, 0, none⟩ = some (.int .i64 x) ∧ w'.cell? ⟨w.heap.size, 1, none⟩ = some (.int .i64 y) ∧ w'.cell? ⟨w.heap.size + 1, 0, none⟩ = some (.int .i64 p) ∧ w'.cell? ⟨w.heap.size + 1, 1, none⟩ = some (.int .i64 q) := by
    intro w' h
    refine ⟨(h.cell (p := ⟨w.heap.size, 0, none⟩) (by simp [hz])).trans ?_, (h.cell (p := ⟨w.heap.size, 1, none⟩) (by simp [hz])).trans ?_, (h.cell (p := ⟨w.heap.size + 1, 0, none⟩) (by simp [hz])).trans ?_, (h.cell (p := ⟨w.heap.size + 1, 1, none⟩) (by simp [hz])).trans ?_⟩
    · rw [← hW, World.cell?_alloc_lt _ _ _ (by simp), World.cell?_alloc_at _ _ _ _ rfl]; rfl
    · rw [← hW, World.cell?_alloc_lt _ _ _ (by simp), World.cell?_alloc_at _ _ _ _ rfl]; rfl
    · rw [← hW, World.cell?_alloc_at _ _ _ _ (by simp)]; rfl
    · rw [← hW, World.cell?_alloc_at _ _ _ _ (by simp)]; rfl
  clear hW
  go_region_held3 (fun w' => w'.cell? ⟨w.heap.size, 0, none⟩ = some (.int .i64 x) ∧ w'.cell? ⟨w.heap.size, 1, none⟩ = some (.int .i64 y) ∧ w'.cell? ⟨w.heap.size + 1, 0, none⟩ = some (.int .i64 p) ∧ w'.cell? ⟨w.heap.size + 1, 1, none⟩ = some (.int .i64 q))
    (first | exact hS _ (Below.refl _ _).drew | exact hS _ hB3 | exact hS _ hB4)
    (first
      | (go_at_call 27; ((with_reducible refine Calls.mono (N1.out _) ?_); rintro e w3 ⟨rfl, hb3⟩; have hB3 : Below W.heap.size W w3 := (Below.refl _ _).drew.trans hb3))
      | (go_at_call 27; ((with_reducible refine Calls.mono (N2.out _) ?_); rintro e w4 ⟨rfl, hb4⟩; have hB4 : Below W.heap.size W w4 := hB3.trans (hb4.mono hB3.size)))
      | (go_at_call 36; ((with_reducible refine Calls.mono (N3.out _) ?_); rintro e w5 ⟨rfl, rfl⟩)))
  have hBw : Below w.heap.size w w4 := hb.trans (hB4.mono hb.size)
  clear hb3 hB3 hb4 hB4 hS
  go_wp2
  go_ret
  exact ⟨rfl, hBw⟩


end Go.Proofs.Ytpkdkkbmmkhhhaa
