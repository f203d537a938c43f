/- The walk of the law VecTurns. -/
import Derived.Test.YtpkdkkbmmkhhhaaVecSquaresWalk
import Derived.Test.YtpkdkkbmmkhhhaaVecScale
namespace Go.Proofs.Ytpkdkkbmmkhhhaa
open Go.RowKit Go.WideShapes Go.ChangeShapes

theorem nrm_neg {x : Int} (h0 : -9223372036854775807 ≤ x) : fneg x = -x := by unfold fneg; rw [nrm_id h0]
theorem mag_neg {x : Int} (h0 : -9223372036854775807 ≤ x) (h1 : x ≤ 9223372036854775807) : mag (-x) = mag x := by
  unfold mag
  rw [nrm_id h0, nrm_id (a := -x) (by omega)]
  split <;> split <;> omega
theorem vlen_neg {x y : Int} (h0 : -9223372036854775807 ≤ x) (h1 : x ≤ 9223372036854775807) (h2 : -9223372036854775807 ≤ y) (h3 : y ≤ 9223372036854775807) : vlen (-x) (-y) = vlen x y := by
  unfold vlen sq2; rw [mag_neg h0 h1, mag_neg h2 h3]
theorem vlen_turn {x y : Int} (h0 : -9223372036854775807 ≤ x) (h1 : x ≤ 9223372036854775807) : vlen y (-x) = vlen x y := by
  unfold vlen sq2; rw [mag_neg h0 h1, Int.add_comm]
theorem fadd_back {x : Int} (h0 : -9223372036854775807 ≤ x) (h1 : x ≤ 9223372036854775807) : fadd x (-x) = 0 := by
  unfold fadd; rw [nrm_id h0, nrm_id (a := -x) (by omega), show x + -x = 0 by omega]; rfl
theorem fmul_one {x : Int} (h0 : -9223372036854775807 ≤ x) (h1 : x ≤ 9223372036854775807) : fmul x 65536 = x := by
  unfold fmul; rw [nrm_id h0, show nrm 65536 = 65536 from rfl, Int.mul_ediv_cancel _ (by omega), clp_id h0 h1]
theorem fmul_zero (x : Int) : fmul x 0 = 0 := by
  unfold fmul; rw [show nrm 0 = 0 from rfl, Int.mul_zero]; rfl
theorem len_ge {x y : Int} (hx0 : -1073741824 ≤ x) (hx1 : x ≤ 1073741824) (hy0 : -1073741824 ≤ y) (hy1 : y ≤ 1073741824) : x ≤ vlen x y ∧ -x ≤ vlen x y ∧ y ≤ vlen x y ∧ -y ≤ vlen x y := by
  obtain ⟨h0, h1, h2, h3, _⟩ := len_small hx0 hx1 hy0 hy1
  obtain ⟨a0, _⟩ := sq_small hx0 hx1
  obtain ⟨b0, _⟩ := sq_small hy0 hy1
  have key : ∀ t : Int, 0 ≤ t → t * t ≤ x * x + y * y → t ≤ vlen x y := by
    intro t ht hle
    by_cases hc : t ≤ vlen x y
    · exact hc
    · have := sq_le (a := vlen x y + 1) (b := t) (by omega) (by omega)
      omega
  have kx : ∀ t : Int, t * t = x * x → t ≤ vlen x y := by
    intro t e
    by_cases ht : 0 ≤ t
    · exact key t ht (by omega)
    · omega
  have ky : ∀ t : Int, t * t = y * y → t ≤ vlen x y := by
    intro t e
    by_cases ht : 0 ≤ t
    · exact key t ht (by omega)
    · omega
  exact ⟨kx x rfl, kx (-x) (by rw [Int.neg_mul_neg]), ky y rfl, ky (-y) (by rw [Int.neg_mul_neg])⟩
theorem wake_dot : fadd (fmul 65536 0) (fmul 0 65536) = 0 := by decide +kernel
theorem wake_dot2 : fadd (fmul 65536 65536) (fmul 65536 65536) = 131072 := by decide +kernel

namespace lawVecTurns
set_option maxHeartbeats 3200000 in
set_option maxRecDepth 100000 in
theorem walk {H : Type} {enc : TypeId × Value → H} (w : World) {base : Nat} (v : Value) (d : DataW H) (p : List MemPlace) (hv : Value.okWide Try.prog w .any base 22 v)
    (ht : DataW.Trod enc Try.prog w 0 (fun _ => true) true 22 v d p) : Calls Try.prog 12 #[v] w fun e w' => e = .returned (.bool true) ∧ Below w.heap.size w w' := by
  obtain ⟨A, n, c, rfl, hnc, hcm, ha⟩ := open_asks2 hv ht
  unfold maxLen at hcm
  clear hv ht
  go_enter Try.func12, Try.ntmps12
  go_wp2
  go_loopw [3] (fun i wr => ∃ (k : Nat), k ≤ n ∧ k ≤ 30 ∧ i = .int .i64 k ∧ Below w.heap.size w wr) (fun i _ => n - (intOf i).toNat)
  case atStart => exact ⟨0, Nat.zero_le _, by omega, rfl, Below.refl _ _⟩
  case round =>
    obtain ⟨k, hk, hk20, rfl, hbl⟩ := hrel
    by_cases hlt : k < n
    · by_cases h20 : k < 30
      · obtain ⟨b, o, x, y, p, q, z, rfl, hb, hc1, hc2, hc3, hc4, hc5, ⟨hx0, hx1⟩, ⟨hy0, hy1⟩, ⟨hp0, hp1⟩, ⟨hq0, hq1⟩, ⟨hz0, hz1⟩⟩ := ha.below hbl k hlt
        clear ha
        clear hc3 hc4 hc5
        have bX0 : -2305843009213693952 ≤ x / 4 := by omega
        have bX1 : x / 4 ≤ 2305843009213693951 := by omega
        have bY0 : -2305843009213693952 ≤ y / 4 := by omega
        have bY1 : y / 4 ≤ 2305843009213693951 := by omega
        go_wp2_with fail
        go_region
        go_wp2_with fail
        generalize x / 4 = X at *
        generalize y / 4 = Y at *
        clear hx0 hx1 hy0 hy1 hp0 hp1 hq0 hq1 hc1 hc2 hb
        have N1 := fun W => vec_neg X Y W (by omega) (by omega)
        rw [nrm_neg (x := X) (by omega), nrm_neg (x := Y) (by omega)] at N1
        have N1 := Lib.hid N1
        generalize hW : (wr.alloc (.cells #[.int .i64 X, .int .i64 Y] 25)).drew = W
        have c40 : W.cell? ⟨wr.heap.size, 0, none⟩ = some (.int .i64 X) := by rw [← hW]; show World.cell? (wr.alloc _) _ = _; rw [World.cell?_alloc_at _ _ _ _ rfl]; rfl
        have c41 : W.cell? ⟨wr.heap.size, 1, none⟩ = some (.int .i64 Y) := by rw [← hW]; show World.cell? (wr.alloc _) _ = _; rw [World.cell?_alloc_at _ _ _ _ rfl]; rfl
        have hbW : Below w.heap.size w W := by rw [← hW]; exact (hbl.alloc hbl.size _).drew
        have hW4 : wr.heap.size < W.heap.size := by rw [← hW]; show _ < (wr.alloc _).heap.size; simp
        clear hW
        generalize wr.heap.size = g4 at *
        refine Calls.mono (N1.out _) ?_
        rintro e w1 ⟨rfl, hb1⟩
        have d40 := (hb1.cell (p := ⟨g4, 0, none⟩) hW4).trans c40
        have d41 := (hb1.cell (p := ⟨g4, 1, none⟩) hW4).trans c41
        have hb1' := Nat.lt_of_lt_of_le hW4 hb1.size
        have hbw1 := hbW.trans (hb1.mono hbW.size)
        clear c40 c41 N1
        go_wp2_with fail
        generalize hW2 : w1.alloc (.cells #[.int .i64 (-X), .int .i64 (-Y)] 25) = W2
        have c40 : W2.cell? ⟨g4, 0, none⟩ = some (.int .i64 X) := by rw [← hW2, World.cell?_alloc_lt _ _ _ hb1']; exact d40
        have c41 : W2.cell? ⟨g4, 1, none⟩ = some (.int .i64 Y) := by rw [← hW2, World.cell?_alloc_lt _ _ _ hb1']; exact d41
        have c50 : W2.cell? ⟨w1.heap.size, 0, none⟩ = some (.int .i64 (-X)) := by rw [← hW2, World.cell?_alloc_at _ _ _ _ rfl]; rfl
        have c51 : W2.cell? ⟨w1.heap.size, 1, none⟩ = some (.int .i64 (-Y)) := by rw [← hW2, World.cell?_alloc_at _ _ _ _ rfl]; rfl
        have hbW2 : Below w.heap.size w W2 := by rw [← hW2]; exact hbw1.alloc hbw1.size _
        have hW4 : g4 < W2.heap.size := by rw [← hW2]; simp; omega
        have hW5 : w1.heap.size < W2.heap.size := by rw [← hW2]; simp
        clear hW2 d40 d41 hb1 hb1' hbw1 hbW
        generalize w1.heap.size = g5 at *
        have M1 := fun W => vec_len (-X) (-Y) W (by omega) (by omega)
        have M2 := fun W => vec_len X Y W (by omega) (by omega)
        have M3 := fun W => vec_add X Y (-X) (-Y) W (by omega) (by omega) (by omega) (by omega)
        have M4 := fun W => vec_scale X Y 65536 W (by omega) (by omega) (by omega)
        have M5 := fun W => vec_scale X Y 0 W (by omega) (by omega) (by omega)
        have M6 := fun W => vec_sub X Y X Y W (by omega) (by omega) (by omega) (by omega)
        rw [vlen_neg (by omega) (by omega) (by omega) (by omega)] at M1
        rw [fadd_back (x := X) (by omega) (by omega), fadd_back (x := Y) (by omega) (by omega)] at M3
        rw [fmul_one (x := X) (by omega) (by omega), fmul_one (x := Y) (by omega) (by omega)] at M4
        rw [fmul_zero, fmul_zero] at M5
        rw [fsub_self (x := X) (by omega), fsub_self (x := Y) (by omega)] at M6
        generalize vlen X Y = N at *
        have M1 := Lib.hid (fun u => calls_over (x := u) (M1 (over W2 u)))
        have M2 := Lib.hid (fun u => calls_over (x := u) (M2 (over W2 u)))
        have M3 := Lib.hid (fun u => calls_over (x := u) (M3 (over W2 u)))
        have M4 := Lib.hid (fun u => calls_over (x := u) (M4 (over W2 u)))
        have M5 := Lib.hid (fun u => calls_over (x := u) (M5 (over W2 u)))
        have M6 := Lib.hid (fun u => calls_over (x := u) (M6 (over W2 u)))
        refine wp_region_over (by kernel_rfl) (by kernel_rfl) ?_
        repeat (go_big_quiet_step (first | (go_at_call 21; with_reducible (first | exact M1.out _ | exact M2.out _)) | (go_at_call 41; exact M3.out _) | (go_at_call 46; with_reducible (first | exact M4.out _ | exact M5.out _)) | (go_at_call 34; exact M6.out _)))
        refine wpQuiet_nil ?_
        rintro wq ⟨xq, rfl⟩
        have hq := over_below W2 xq
        generalize over W2 xq = wq at *
        have d40 := (hq.cell (p := ⟨g4, 0, none⟩) hW4).trans c40
        have d41 := (hq.cell (p := ⟨g4, 1, none⟩) hW4).trans c41
        have hbq := hbW2.trans (hq.mono hbW2.size)
        clear c40 c41 c50 c51
        go_wp2_with fail
        obtain ⟨sx0, sx1⟩ := rem_small X
        obtain ⟨sy0, sy1⟩ := rem_small Y
        generalize X.tmod 1073741824 = SX at *
        generalize Y.tmod 1073741824 = SY at *
        generalize hW3 : wq.alloc (.cells #[.int .i64 SX, .int .i64 SY] 25) = W3
        have c60 : W3.cell? ⟨wq.heap.size, 0, none⟩ = some (.int .i64 SX) := by rw [← hW3, World.cell?_alloc_at _ _ _ _ rfl]; rfl
        have c61 : W3.cell? ⟨wq.heap.size, 1, none⟩ = some (.int .i64 SY) := by rw [← hW3, World.cell?_alloc_at _ _ _ _ rfl]; rfl
        have hbW3 : Below w.heap.size w W3 := by rw [← hW3]; exact hbq.alloc hbq.size _
        have hW6 : wq.heap.size < W3.heap.size := by rw [← hW3]; simp
        clear hW3 d40 d41 M1 M2 M3 M4 M5 M6 bX0 bX1 bY0 bY1 hW4 hW5 hbW2
        generalize wq.heap.size = g6 at *
        have M1 := fun W => vec_len SY (-SX) W (by omega) (by omega)
        have M2 := fun W => vec_len SX SY W (by omega) (by omega)
        rw [vlen_turn (by omega) (by omega)] at M1
        obtain ⟨L1, L2, L3, L4⟩ := len_ge sx0 sx1 sy0 sy1
        generalize vlen SX SY = L at *
        have M1 := Lib.hid M1
        have M2 := Lib.hid M2
        have h0 : W3.drew.cell? ⟨g6, 0, none⟩ = some (.int .i64 SX) ∧ W3.drew.cell? ⟨g6, 1, none⟩ = some (.int .i64 SY) ∧ Below W3.heap.size W3 W3.drew := ⟨c60, c61, (Below.refl _ _).drew⟩
        have hK : ∀ wa wb : World, (wa.cell? ⟨g6, 0, none⟩ = some (.int .i64 SX) ∧ wa.cell? ⟨g6, 1, none⟩ = some (.int .i64 SY) ∧ Below W3.heap.size W3 wa) → Below wa.heap.size wa wb → (wb.cell? ⟨g6, 0, none⟩ = some (.int .i64 SX) ∧ wb.cell? ⟨g6, 1, none⟩ = some (.int .i64 SY) ∧ Below W3.heap.size W3 wb) :=
          fun wa wb ⟨h1, h2, h3⟩ h => ⟨(h.cell (p := ⟨g6, 0, none⟩) (Nat.lt_of_lt_of_le hW6 h3.size)).trans h1, (h.cell (p := ⟨g6, 1, none⟩) (Nat.lt_of_lt_of_le hW6 h3.size)).trans h2, h3.trans (h.mono h3.size)⟩
        clear c60 c61
        have hwx : IntKind.i64.wrap (-SX) = -SX := IntWalk.i64_in _ (by omega)
        have hwy : IntKind.i64.wrap (-SY) = -SY := IntWalk.i64_in _ (by omega)
        have hm1 : decide (L < max SX (-SX)) = false := decide_eq_false (by omega)
        have hm2 : decide (L < max SY (-SY)) = false := decide_eq_false (by omega)
        go_region_held3 (fun w' => w'.cell? ⟨g6, 0, none⟩ = some (.int .i64 SX) ∧ w'.cell? ⟨g6, 1, none⟩ = some (.int .i64 SY) ∧ Below W3.heap.size W3 w')
          (first | exact h0 | assumption)
          (first
            | (go_at_call 21; ((with_reducible refine Calls.mono (M1.out _) ?_); rintro e w4 ⟨rfl, hb4⟩; have hn := hK _ _ (by assumption) hb4; clear hb4))
            | (go_at_call 21; ((with_reducible refine Calls.mono (M2.out _) ?_); rintro e w4 ⟨rfl, hb4⟩; have hn := hK _ _ (by assumption) hb4; clear hb4)))
        all_goals
          have hz := hn.2.2
          clear hwx hwy hm1 hm2 hK hn
          go_wp2
          go_roundw
          case rel => exact ⟨k + 1, by omega, by omega, by go_num, hbW3.trans (hz.mono hbW3.size)⟩
          case measure => simp [intOf]; omega
      · have M2 := Lib.hid (fun W => vec_dot 65536 0 0 65536 W (by omega) (by omega) (by omega) (by omega))
        have M3 := Lib.hid (fun W => vec_dot 65536 65536 65536 65536 W (by omega) (by omega) (by omega) (by omega))
        rw [wake_dot] at M2
        rw [wake_dot2] at M3
        clear ha
        go_wp2_with fail
        refine Calls.mono (M2.out _) ?_
        rintro e w1 ⟨rfl, hb1⟩
        go_wp2_with fail
        refine Calls.mono (M3.out _) ?_
        rintro e w2 ⟨rfl, hb2⟩
        go_wp2_with fail
        refine Calls.mono (wakes2 _) ?_
        rintro e w3 ⟨rfl, hb3⟩
        go_wp2
        go_ret
        exact ⟨rfl, hbl.trans ((hb1.trans ((hb2.trans (hb3.mono hb2.size)).mono hb1.size)).mono hbl.size)⟩
    · have M2 := Lib.hid (fun W => vec_dot 65536 0 0 65536 W (by omega) (by omega) (by omega) (by omega))
      have M3 := Lib.hid (fun W => vec_dot 65536 65536 65536 65536 W (by omega) (by omega) (by omega) (by omega))
      rw [wake_dot] at M2
      rw [wake_dot2] at M3
      clear ha
      go_wp2_with fail
      refine Calls.mono (M2.out _) ?_
      rintro e w1 ⟨rfl, hb1⟩
      go_wp2_with fail
      refine Calls.mono (M3.out _) ?_
      rintro e w2 ⟨rfl, hb2⟩
      go_wp2_with fail
      refine Calls.mono (wakes2 _) ?_
      rintro e w3 ⟨rfl, hb3⟩
      go_wp2
      go_ret
      exact ⟨rfl, hbl.trans ((hb1.trans ((hb2.trans (hb3.mono hb2.size)).mono hb1.size)).mono hbl.size)⟩
end lawVecTurns
end Go.Proofs.Ytpkdkkbmmkhhhaa
