/- The walk of the law GroundCounts. -/
import Derived.Test.YtdcilabbjejklaaGroundCount
namespace Go.Proofs.Ytdcilabbjejklaa
open Go.RowKit Go.WideShapes Go.ChangeShapes

theorem num6 (x : Int) (w : World) : Calls Try.prog 27 #[.int .i64 x] w fun e w' => e = .returned (.int .i64 x) ∧ w = w' := by
  go_enter Try.func27, Try.ntmps27
  go_wp2
  go_ret
  exact ⟨rfl, rfl⟩
theorem make_small {W H : Int} (h1 : 1 ≤ W) (h2 : W ≤ 4) (h3 : 1 ≤ H) (h4 : H ≤ 4) (w : World) :
    (Instr.makeSlice 37 (.int .i64 (W * H)) (.int .i64 (W * H))).run Try.prog w = .ok (.slice (some ⟨w.heap.size, 0, none⟩) (W * H).toNat (W * H).toNat) (w.alloc (.cells (List.replicate (W * H).toNat (.int .u8 0)).toArray 5)) := by
  rcases (show W = 1 ∨ W = 2 ∨ W = 3 ∨ W = 4 by omega) with rfl | rfl | rfl | rfl
  all_goals
    rcases (show H = 1 ∨ H = 2 ∨ H = 3 ∨ H = 4 by omega) with rfl | rfl | rfl | rfl
    all_goals kernel_rfl

namespace lawGroundCounts
set_option maxHeartbeats 3200000 in
set_option maxRecDepth 100000 in
theorem walk {H : Type} {enc : TypeId × Value → H} (w : World) {base : Nat} (v : Value) (d : DataW H) (p : List MemPlace) (hv : Value.okWide Try.prog w .any base 42 v)
    (ht : DataW.Trod enc Try.prog w 0 (fun _ => true) true 42 v d p) : Calls Try.prog 7 #[v] w fun e w' => e = .returned (.bool true) ∧ Below w.heap.size w w' := by
  obtain ⟨W0, H0, A, n, c, l, A1, n1, c1, l1, A2, n2, c2, rfl, hW, hH, hr, hl, ⟨hnc, hcm⟩, hr1, hl1, ⟨hnc1, hcm1⟩, hv2, hnc2⟩ := open_ask6 hv ht
  clear hv ht hv2 hnc2 hr hl hr1 hl1 hW hH hnc hcm hnc1 hcm1
  have q3 : (w.alloc (.cells #[.int .i64 W0, .int .i64 H0, .slice A n c, .slice A1 n1 c1, .slice A2 n2 c2] 42)).cell? ⟨w.heap.size, 3, none⟩ = some (.slice A1 n1 c1) := by rw [World.cell?_alloc_at _ _ _ _ rfl]; rfl
  have hbw : Below w.heap.size w (w.alloc (.cells #[.int .i64 W0, .int .i64 H0, .slice A n c, .slice A1 n1 c1, .slice A2 n2 c2] 42)) := (Below.refl _ _).alloc (Nat.le_refl _) _
  have hgs : w.heap.size < (w.alloc (.cells #[.int .i64 W0, .int .i64 H0, .slice A n c, .slice A1 n1 c1, .slice A2 n2 c2] 42)).heap.size := by simp
  go_enter Try.func7, Try.ntmps7
  go_wp2
  generalize w.alloc (.cells #[.int .i64 W0, .int .i64 H0, .slice A n c, .slice A1 n1 c1, .slice A2 n2 c2] 42) = w1 at *
  go_loopw [3] (fun i wr => ∃ (W : Int), 1 ≤ W ∧ W ≤ 5 ∧ i = .int .i64 W ∧ Below w1.heap.size w1 wr) (fun i _ => 5 - (intOf i).toNat)
  case atStart => exact ⟨1, by omega, by omega, rfl, Below.refl _ _⟩
  case round =>
    obtain ⟨W, hW1, hW5, rfl, hb1⟩ := hrel
    by_cases hW : W ≤ 4
    · go_wp2
      go_loopw [4] (fun i wr => ∃ (H : Int), 1 ≤ H ∧ H ≤ 5 ∧ i = .int .i64 H ∧ Below w1.heap.size w1 wr) (fun i _ => 5 - (intOf i).toNat)
      case atStart => exact ⟨1, by omega, by omega, rfl, hb1⟩
      case round =>
        clear hb1
        obtain ⟨H, hH1, hH5, rfl, hb1⟩ := hrel
        by_cases hH : H ≤ 4
        · have hmk := fun w => make_small hW1 hW hH1 hH w
          obtain ⟨p1, p2⟩ := prod_range hW1 (show W ≤ 128 by omega) hH1 (show H ≤ 128 by omega)
          have p3 : W * H ≤ 4 * 4 := Int.mul_le_mul hW hH (by omega) (by omega)
          have hN : (((W * H).toNat : Nat) : Int) = W * H := by omega
          generalize (W * H).toNat = N at *
          have hrA := reads_new wr (List.replicate N (.int .u8 0)) 5 (0, 0) N (by simp)
          rw [show (List.replicate N (Value.int .u8 0)).toArray = Array.replicate N (.int .u8 0) by simp] at hrA
          have hrB := (hrA.alloc (by simp) (.cells #[.int .i64 W, .int .i64 H, .slice (some ⟨wr.heap.size, 0, none⟩) N N] 39)).more (B' := ((wr.alloc (.cells (Array.replicate N (.int .u8 0)) 5)).alloc (.cells #[.int .i64 W, .int .i64 H, .slice (some ⟨wr.heap.size, 0, none⟩) N N] 39)).heap.size) (by simp)
          clear hrA
          go_wp2_with fail
          generalize hW2 : (wr.alloc (.cells (Array.replicate N (.int .u8 0)) 5)).alloc (.cells #[.int .i64 W, .int .i64 H, .slice (some ⟨wr.heap.size, 0, none⟩) N N] 39) = W2 at *
          have c0 : W2.cell? ⟨wr.heap.size + 1, 0, none⟩ = some (.int .i64 W) := by rw [← hW2, World.cell?_alloc_at _ _ _ _ (by simp)]; rfl
          have c1 : W2.cell? ⟨wr.heap.size + 1, 1, none⟩ = some (.int .i64 H) := by rw [← hW2, World.cell?_alloc_at _ _ _ _ (by simp)]; rfl
          have c2 : W2.cell? ⟨wr.heap.size + 1, 2, none⟩ = some (.slice (some ⟨wr.heap.size, 0, none⟩) N N) := by rw [← hW2, World.cell?_alloc_at _ _ _ _ (by simp)]; rfl
          have hz : wr.heap.size + 1 < W2.heap.size := by rw [← hW2]; simp
          have hbW2 : Below w1.heap.size w1 W2 := by rw [← hW2]; exact (hb1.alloc hb1.size _).alloc (Nat.le_trans hb1.size (by simp)) _
          have hr : Reads W2 W2.heap.size 1 (some ⟨wr.heap.size, 0, none⟩) N (nums .u8 (List.replicate N 0)) := by
            rw [show nums .u8 (List.replicate N 0) = List.replicate N (.int .u8 0) by simp [nums]]; exact hrB
          have hG : isG W H (List.replicate N 0) = true := decide_eq_true ⟨hW1, by omega, hH1, by omega, by rw [List.length_replicate]; exact hN, fun x hx => by rw [List.eq_of_mem_replicate hx]; omega⟩
          have hl : IsBytes (List.replicate N 0) := fun x hx => by rw [List.eq_of_mem_replicate hx]; omega
          clear hW2 hmk hrB
          generalize wr.heap.size + 1 = g5 at *
          generalize wr.heap.size = g4 at *
          have NR := fun (t : Int) (W' : World) (h : Below W2.heap.size W2 W') (ht : tileB W H t = true) => near_yes (t := t) (c := N) W' ((hr.below h).more h.size) (Nat.le_refl _) hl hG ht
          clear hr hl hG
          go_loopw [6, 7] (fun a i wr => ∃ (t : Nat), t ≤ N ∧ a = .int .i64 (cntT W H t) ∧ i = .int .i64 t ∧ Below W2.heap.size W2 wr) (fun _ i _ => N - (intOf i).toNat)
          case atStart => exact ⟨0, Nat.zero_le _, rfl, rfl, Below.refl _ _⟩
          case round =>
            obtain ⟨t, ht, rfl, rfl, hb2⟩ := hrel
            obtain ⟨a0, a1⟩ := cntT_range W H t
            by_cases hlt : t < N
            · have ti : (t : Int) < W * H := by omega
              have ti0 : (0 : Int) ≤ (t : Int) := by omega
              have NR := NR t _ hb2 (decide_eq_true ⟨ti0, ti⟩)
              have HS : Hid (cntT W H (t + 1) = cntT W H t + cntI W H t 8) := rfl
              have hd0 := (hb2.cell (p := ⟨g5, 0, none⟩) hz).trans c0
              have hd1 := (hb2.cell (p := ⟨g5, 1, none⟩) hz).trans c1
              have hd2 := (hb2.cell (p := ⟨g5, 2, none⟩) hz).trans c2
              generalize cntT W H t = S at *
              have NR : Calls Try.prog 26 #[.agg #[.int .i64 W, .int .i64 H, .slice (some ⟨g4, 0, none⟩) N N], .int .i64 (t : Int)] wr fun e w' => ∃ g, e = .returned (.tuple #[.slice (some ⟨g, 0, none⟩) 8 8, .int .i64 0]) ∧ wr.heap.size ≤ g ∧ g < w'.heap.size ∧ (∀ j, j < 8 → w'.cell? ⟨g, j, none⟩ = some (.int .i64 ((nearL W H t).getD j 0))) ∧ (∀ j, w'.frozen? ⟨g, j, none⟩ = false) ∧ Below wr.heap.size wr w' := NR
              go_wp2_with fail
              refine Calls.mono NR ?_
              rintro e w3 ⟨g, rfl, hg0, hg1, hcl, _, hb3⟩
              have hcl : Hid (∀ j, j < 8 → w3.cell? ⟨g, j, none⟩ = some (.int .i64 (nearI W H t j))) := fun j hj => by
                rw [hcl j hj]
                rcases (show j = 0 ∨ j = 1 ∨ j = 2 ∨ j = 3 ∨ j = 4 ∨ j = 5 ∨ j = 6 ∨ j = 7 by omega) with rfl | rfl | rfl | rfl | rfl | rfl | rfl | rfl <;> rfl
              have hb4 := hb2.trans (hb3.mono hb2.size)
              clear hd0 hd1 hd2 NR
              go_wp2_with (go_at_call 27; refine Calls.mono (num6 _ _) ?_; rintro e w9 ⟨rfl, rfl⟩)
              go_loopw [6, 10] (fun a i wr => ∃ (k : Nat), k ≤ 8 ∧ a = .int .i64 (S + cntI W H t k) ∧ i = .int .i64 k ∧ Below w3.heap.size w3 wr) (fun _ i _ => 8 - (intOf i).toNat)
              case atStart => exact ⟨0, Nat.zero_le _, by simp [cntI], rfl, Below.refl _ _⟩
              case round =>
                obtain ⟨k, hk, rfl, rfl, hb5⟩ := hrel
                by_cases hlk : k < 8
                · have ck := (hb5.cell (p := ⟨g, k, none⟩) hg1).trans (hcl.out k hlk)
                  have HC : cntI W H t (k + 1) = cntI W H t k + (if 0 ≤ nearI W H t k then 1 else 0) := rfl
                  obtain ⟨s0, s1⟩ := cntI_range W H t k
                  have HB := beside_is (i := k) hW1 hW hH1 hH ti0 (by omega) hlk
                  have HWY := ways_fin ⟨k, hlk⟩
                  obtain ⟨u0, u1, v0, v1⟩ := way_range k
                  simp only at HWY
                  have kj : (k : Int) < 8 := by omega
                  have kj0 : (0 : Int) ≤ (k : Int) := by omega
                  by_cases hneg : nearI W H t k < 0
                  · rw [if_neg (by omega)] at HC
                    have HC := Lib.hid HC
                    clear HB HWY
                    generalize nearI W H t k = y at *
                    generalize cntI W H t k = C at *
                    go_wp2
                    go_roundw
                    case rel => exact ⟨k + 1, by omega, by rw [HC.out, Int.add_zero], by go_num, hb5⟩
                    case measure => simp [intOf]; omega
                  · rw [if_pos (by omega)] at HC
                    have HC := Lib.hid HC
                    obtain ⟨e1, e2⟩ := HB (by omega)
                    have hy0 : 0 ≤ nearI W H t k := by omega
                    generalize nearI W H t k = y at *
                    generalize cntI W H t k = C at *
                    have hw0 : ¬ W = 0 := by omega
                    have t0 : 0 ≤ (t : Int) / W := Int.ediv_nonneg (by omega) (by omega)
                    have t1 : (t : Int) / W ≤ (t : Int) := Int.ediv_le_self _ (by omega)
                    have t2 : 0 ≤ (t : Int) % W := Int.emod_nonneg _ (by omega)
                    have t3 : (t : Int) % W < W := Int.emod_lt_of_pos _ (by omega)
                    have y0 : 0 ≤ y / W := Int.ediv_nonneg (by omega) (by omega)
                    have y2 : 0 ≤ y % W := Int.emod_nonneg _ (by omega)
                    have y3 : y % W < W := Int.emod_lt_of_pos _ (by omega)
                    generalize wayX k = dx at *
                    generalize wayY k = dy at *
                    have hwx : IntKind.i64.wrap (y % W - (t : Int) % W) = dx := by rw [e1]; exact IntWalk.i64_in _ (by omega)
                    have hwy : IntKind.i64.wrap (y / W - (t : Int) / W) = dy := by rw [e2]; exact IntWalk.i64_in _ (by omega)
                    have hq1 : IntKind.i64.wrap (y / W) = y / W := IntWalk.i64_in _ (by omega)
                    have hq2 : IntKind.i64.wrap ((t : Int) / W) = (t : Int) / W := IntWalk.i64_in _ (by omega)
                    clear HB
                    go_wp2_with fail
                    go_quiet (fail)
                    have ey : wrap64 (wrap64 (y.tdiv W) - (t : Int) / W) = dy := by
                      rw [Int.tdiv_eq_ediv_of_nonneg hy0, IntWalk.wrap64_in (y / W) (by omega), e2]
                      exact IntWalk.wrap64_in _ (by omega)
                    rw [ey]
                    clear ey hwx hwy hq1 hq2 e1 e2 t0 t1 t2 t3 y0 y2 y3 ck
                    rcases (show dx = -1 ∨ dx = 0 ∨ dx = 1 by omega) with rfl | rfl | rfl
                    all_goals
                      rcases (show dy = -1 ∨ dy = 0 ∨ dy = 1 by omega) with rfl | rfl | rfl
                      all_goals
                        rcases (show (k : Int) < 4 ∨ 4 ≤ (k : Int) by omega) with kk | kk
                        all_goals try (exfalso; omega)
                        clear HWY
                        go_wp2
                        go_roundw
                        case rel => exact ⟨k + 1, by omega, by rw [HC.out, Int.add_assoc], by go_num, below_drewN hb5 _⟩
                        case measure => simp [intOf]; omega
                · obtain rfl : k = 8 := by omega
                  have hb6 := hb4.trans (hb5.mono hb4.size)
                  have HS := HS.out
                  go_wp2
                  go_roundw
                  case rel => exact ⟨t + 1, by omega, by rw [HS], by go_num, hb6⟩
                  case measure => simp [intOf]; omega
            · obtain rfl : t = N := by omega
              have HT := total_is hW1 hW hH1 hH hN
              have m0 : 0 ≤ (W - 1) * H := Int.mul_nonneg (by omega) (by omega)
              have m1 : (W - 1) * H ≤ 3 * 4 := Int.mul_le_mul (by omega) (by omega) (by omega) (by omega)
              have m2 : 0 ≤ W * (H - 1) := Int.mul_nonneg (by omega) (by omega)
              have m3 : W * (H - 1) ≤ 4 * 3 := Int.mul_le_mul (by omega) (by omega) (by omega) (by omega)
              have m4 : 0 ≤ 2 * (W - 1) * (H - 1) := Int.mul_nonneg (by omega) (by omega)
              have m5 : 2 * (W - 1) * (H - 1) ≤ 6 * 3 := Int.mul_le_mul (by omega) (by omega) (by omega) (by omega)
              generalize cntT W H t = S at *
              have hb3 := hbW2.trans (hb2.mono hbW2.size)
              have hne : (S != 2 * ((W - 1) * H + W * (H - 1) + 2 * (W - 1) * (H - 1))) = false := by simp [HT]
              clear HT
              go_wp2
              go_roundw
              case rel => exact ⟨H + 1, by omega, by omega, by go_num, hb3⟩
              case measure => simp [intOf]; omega
        · go_wp2
          go_roundw
          case rel => exact ⟨W + 1, by omega, by omega, by go_num, hb1⟩
          case measure => simp [intOf]; omega
    · have HK := Lib.hid (fun W' => wakes6 W')
      have q3' := (hb1.cell (p := ⟨w.heap.size, 3, none⟩) hgs).trans q3
      have hbw' := hbw.trans (hb1.mono hbw.size)
      have hn1 : (0 : Int) ≤ (n1 : Int) := by omega
      go_wp2_with fail
      refine Calls.mono (HK.out _) ?_
      rintro e w2 ⟨rfl, hb2⟩
      go_wp2
      go_ret
      exact ⟨rfl, hbw'.trans (hb2.mono hbw'.size)⟩
end lawGroundCounts
end Go.Proofs.Ytdcilabbjejklaa
