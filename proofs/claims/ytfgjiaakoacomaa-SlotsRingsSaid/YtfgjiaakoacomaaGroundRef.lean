/- The page's own answer which tiles stand beside one. -/
import Derived.Test.YtfgjiaakoacomaaGroundOf
namespace Go.Proofs.Ytfgjiaakoacomaa
set_option maxRecDepth 20000
open Go.RowKit

theorem near_take {W H t : Int} {k : Nat} (hk : k < 8) : nums .i64 ((nearL W H t).take k) ++ [.int .i64 (nearI W H t k)] = nums .i64 ((nearL W H t).take (k + 1)) := by
  rcases (show k = 0 ∨ k = 1 ∨ k = 2 ∨ k = 3 ∨ k = 4 ∨ k = 5 ∨ k = 6 ∨ k = 7 by omega) with rfl | rfl | rfl | rfl | rfl | rfl | rfl | rfl <;> rfl

/-- Numbers of the call's own. -/
def GivesNums (base : Nat) (w : World) (l : List Int) (e : Ending) (w' : World) : Prop :=
  ∃ A c, e = .returned (.slice A l.length c) ∧ w'.ownsRow base 3 1 (.slice A l.length c) l.length (nums .i64 l) ∧ Below base w w'

set_option maxHeartbeats 1600000 in
set_option maxRecDepth 20000 in
theorem ref_near (W H t : Int) (A : Option Addr) (n c : Nat) (w : World) (h1 : 1 ≤ W) (h2 : W ≤ 128) (h3 : 1 ≤ H) (h4 : H ≤ 128) (ht0 : 0 ≤ t) (ht1 : t < W * H) :
    Calls Try.prog 24 #[.agg #[.int .i64 W, .int .i64 H, .slice A n c], .int .i64 t] w (GivesNums w.heap.size w (nearL W H t)) := by
  obtain ⟨i0, hi0, hz0, hz1, hz2⟩ := info_parts info_int
  have hx0 : 0 ≤ t % W := Int.emod_nonneg _ (by omega)
  have hx1 : t % W < W := Int.emod_lt_of_pos _ (by omega)
  have hy0 : 0 ≤ t / W := Int.ediv_nonneg ht0 (by omega)
  have hy1 : t / W < H := Int.ediv_lt_of_lt_mul (by omega) (by rw [Int.mul_comm]; exact ht1)
  have p2 : t < 16384 := by have := (prod_range h1 h2 h3 h4).2; omega
  clear ht1
  go_enter Try.func24, Try.ntmps24
  go_wp2_with fail
  generalize hW : ((w.alloc (.cells #[.int .i64 W, .int .i64 H, .slice A n c] 24)).alloc _).alloc _ = W1
  have hb0 : Below w.heap.size w W1 := by rw [← hW]; exact (((Below.refl _ _).alloc (Nat.le_refl _) _).alloc (by simp) _).alloc (by simp; omega) _
  have hz : W1.heap.size = w.heap.size + 3 := by rw [← hW]; simp
  have c0 : W1.cell? ⟨w.heap.size, 0, none⟩ = some (.int .i64 W) := by rw [← hW, World.cell?_alloc_lt _ _ _ (by simp; omega), World.cell?_alloc_lt _ _ _ (by simp), World.cell?_alloc_at _ _ _ _ rfl]; rfl
  have c1 : W1.cell? ⟨w.heap.size, 1, none⟩ = some (.int .i64 H) := by rw [← hW, World.cell?_alloc_lt _ _ _ (by simp; omega), World.cell?_alloc_lt _ _ _ (by simp), World.cell?_alloc_at _ _ _ _ rfl]; rfl
  have HX : Hid (∀ j, j < 8 → W1.cell? ⟨w.heap.size + 1, j, none⟩ = some (.int .i64 (wayX j))) := by
    intro j hj
    rw [← hW, World.cell?_alloc_lt _ _ _ (by simp), World.cell?_alloc_at _ _ _ _ (by simp)]
    rcases (show j = 0 ∨ j = 1 ∨ j = 2 ∨ j = 3 ∨ j = 4 ∨ j = 5 ∨ j = 6 ∨ j = 7 by omega) with rfl | rfl | rfl | rfl | rfl | rfl | rfl | rfl <;> rfl
  have HY : Hid (∀ j, j < 8 → W1.cell? ⟨w.heap.size + 1 + 1, j, none⟩ = some (.int .i64 (wayY j))) := by
    intro j hj
    rw [← hW, World.cell?_alloc_at _ _ _ _ (by simp)]
    rcases (show j = 0 ∨ j = 1 ∨ j = 2 ∨ j = 3 ∨ j = 4 ∨ j = 5 ∨ j = 6 ∨ j = 7 by omega) with rfl | rfl | rfl | rfl | rfl | rfl | rfl | rfl <;> rfl
  have z2 : w.heap.size < W1.heap.size := by omega
  have z3 : w.heap.size + 1 < W1.heap.size := by omega
  have z4 : w.heap.size + 1 + 1 < W1.heap.size := by omega
  clear hW hz
  generalize w.heap.size + 1 + 1 = g6 at *
  generalize w.heap.size + 1 = g5 at *
  go_loopw [7, 8] (fun v i wr => ∃ (k : Nat) (A' : Option Addr) (c' : Nat), k ≤ 8 ∧ i = .int .i64 k ∧ v = .slice A' k c' ∧ wr.ownsRow W1.heap.size 3 1 (.slice A' k c') k (nums .i64 ((nearL W H t).take k)) ∧ Below W1.heap.size W1 wr) (fun _ i _ => 8 - (intOf i).toNat)
  case atStart => exact ⟨0, none, 0, by omega, rfl, rfl, World.ownsRow_nil _ _ _ _, Below.refl _ _⟩
  case round =>
    obtain ⟨k, A', c', hk, rfl, rfl, hown, hbl⟩ := hrel
    by_cases hlt : k < 8
    · have s0 := (hbl.cell (p := ⟨w.heap.size, 0, none⟩) z2).trans c0
      have s1 := (hbl.cell (p := ⟨w.heap.size, 1, none⟩) z2).trans c1
      have s2 := (hbl.cell (p := ⟨g5, k, none⟩) z3).trans (HX.out k hlt)
      have s3 := (hbl.cell (p := ⟨g6, k, none⟩) z4).trans (HY.out k hlt)
      obtain ⟨u0, u1, v0, v1⟩ := way_range k
      have HN : Hid (nearI W H t k = if onB W H (t % W + wayX k) (t / W + wayY k) then t % W + wayX k + W * (t / W + wayY k) else -1) := rfl
      have HT := Lib.hid (near_take (W := W) (H := H) (t := t) hlt)
      generalize wayX k = dx at *
      generalize wayY k = dy at *
      have hq0 : -128 ≤ W * (t / W + dy) := by
        have := Int.mul_le_mul_of_nonneg_left (show (-1 : Int) ≤ t / W + dy by omega) (show 0 ≤ W by omega)
        omega
      have hq1 : W * (t / W + dy) ≤ 16384 := by
        have h5 := Int.mul_le_mul_of_nonneg_left (show t / W + dy ≤ 128 by omega) (show 0 ≤ W by omega)
        omega
      have ki : (k : Int) < 8 := by omega
      have hcs : (0 ≤ t % W + dx ∧ t % W + dx < W ∧ 0 ≤ t / W + dy ∧ t / W + dy < H) ∨ t % W + dx < 0 ∨ (0 ≤ t % W + dx ∧ W ≤ t % W + dx) ∨ (0 ≤ t % W + dx ∧ t % W + dx < W ∧ t / W + dy < 0) ∨ (0 ≤ t % W + dx ∧ t % W + dx < W ∧ 0 ≤ t / W + dy ∧ H ≤ t / W + dy) := by omega
      have hwx : IntKind.i64.wrap (t % W + dx) = t % W + dx := IntWalk.i64_in _ (by omega)
      have hwy : IntKind.i64.wrap (t / W + dy) = t / W + dy := IntWalk.i64_in _ (by omega)
      rcases hcs with hc | hc
      · have hon : onB W H (t % W + dx) (t / W + dy) = true := decide_eq_true hc
        rw [if_pos hon] at HN
        clear hon
        obtain ⟨k1, k2, k3, k4⟩ := hc
        go_wp2_with fail
        go_quiet (fail)
        clear hwx hwy
        go_wp2_with (at_builtin; refine wpList_push (wr.drewN nq) _ rfl _ _ _ rfl W1.heap.size 3 i0 _ 1 8 Try.underlying30 hi0 hz0 hz1 hz2 rfl (by omega) _ _ _ rfl hown [.int .i64 (t % W + dx + W * (t / W + dy))] rfl rfl rfl (one_int _ _) (by unfold maxLen; omega) (by omega) hbl.size ?_; intro A2 c2 w2 hown2 hb2)
        go_roundw
        case rel =>
          rw [← HN.out, HT.out] at hown2
          exact ⟨k + 1, A2, c2, by omega, by go_num, rfl, hown2, (below_drewN hbl _).trans hb2⟩
        case measure => simp [intOf]; omega
      · have hon : ¬ onB W H (t % W + dx) (t / W + dy) = true := by
          intro h
          have := of_decide_eq_true h
          omega
        rw [if_neg hon] at HN
        clear hon
        rcases hc with hc | ⟨k1, hc⟩ | ⟨k1, k2, hc⟩ | ⟨k1, k2, k3, hc⟩
        all_goals
          go_wp2_with fail
          go_quiet (fail)
          clear hwx hwy
          go_wp2_with (at_builtin; refine wpList_push (wr.drewN nq) _ rfl _ _ _ rfl W1.heap.size 3 i0 _ 1 8 Try.underlying30 hi0 hz0 hz1 hz2 rfl (by omega) _ _ _ rfl hown [.int .i64 (-1)] rfl rfl rfl (one_int _ _) (by unfold maxLen; omega) (by omega) hbl.size ?_; intro A2 c2 w2 hown2 hb2)
          go_roundw
          case rel =>
            rw [← HN.out, HT.out] at hown2
            exact ⟨k + 1, A2, c2, by omega, by go_num, rfl, hown2, (below_drewN hbl _).trans hb2⟩
          case measure => simp [intOf]; omega
    · obtain rfl : k = 8 := by omega
      have HN : Hid ((nearL W H t).take 8 = nearL W H t) := rfl
      rw [HN.out] at hown
      go_wp2
      go_ret
      exact ⟨A', c', rfl, own_mono hown hb0.size, hb0.trans (hbl.mono hb0.size)⟩
end Go.Proofs.Ytfgjiaakoacomaa
