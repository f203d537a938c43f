/- A tile's centre: the page's answer. -/
import Derived.Test.YtfgjiaakoacomaaGround
import Derived.Test.YtfgjiaakoacomaaGroundNearM
import Derived.StillTailTactics
namespace Go.Proofs.Ytfgjiaakoacomaa
set_option maxRecDepth 20000
open Go.RowKit

theorem two_below5 (w : World) (x y : Obj) : Below w.heap.size w ((w.alloc x).alloc y) := ((Below.refl _ _).alloc (Nat.le_refl _) _).alloc (by simp) _
theorem tile_parts {W H t : Int} (h1 : 1 ≤ W) (h2 : W ≤ 128) (h3 : 1 ≤ H) (h4 : H ≤ 128) (ht : tileB W H t = true) : 0 ≤ t ∧ t < 16384 ∧ 0 ≤ t % W ∧ t % W < W ∧ 0 ≤ t / W ∧ t / W < H := by
  obtain ⟨t0, t1⟩ := of_decide_eq_true ht
  have p2 := (prod_range h1 h2 h3 h4).2
  exact ⟨t0, by omega, Int.emod_nonneg _ (by omega), Int.emod_lt_of_pos _ (by omega), Int.ediv_nonneg t0 (by omega), Int.ediv_lt_of_lt_mul (by omega) (by rw [Int.mul_comm]; exact t1)⟩

set_option maxRecDepth 20000 in
set_option maxHeartbeats 800000 in
theorem ref_center (W H t : Int) (A : Option Addr) (n c : Nat) (w : World) (h1 : 1 ≤ W) (h2 : W ≤ 128) (h3 : 1 ≤ H) (h4 : H ≤ 128) (ht : tileB W H t = true) :
    Calls Try.prog 36 #[.agg #[.int .i64 W, .int .i64 H, .slice A n c], .int .i64 t] w fun e w' => e = .returned (.agg #[.int .i64 (t % W * 65536 + 32768), .int .i64 (t / W * 65536 + 32768)]) ∧ Below w.heap.size w w' := by
  obtain ⟨t0, t1, x0, x1, y0, y1⟩ := tile_parts h1 h2 h3 h4 ht
  clear ht
  have hw0 : ¬ W = 0 := by omega
  have hm : t.tmod W = t % W := Int.tmod_eq_emod_of_nonneg t0
  have hd : t.tdiv W = t / W := Int.tdiv_eq_ediv_of_nonneg t0
  have wx1 : IntKind.i64.wrap (t % W * 65536) = t % W * 65536 := IntWalk.i64_in _ (by omega)
  have wx2 : IntKind.i64.wrap (t % W * 65536 + 32768) = t % W * 65536 + 32768 := IntWalk.i64_in _ (by omega)
  have wy1 : IntKind.i64.wrap (t / W * 65536) = t / W * 65536 := IntWalk.i64_in _ (by omega)
  have wy2 : IntKind.i64.wrap (t / W * 65536 + 32768) = t / W * 65536 + 32768 := IntWalk.i64_in _ (by omega)
  go_enter Try.func36, Try.ntmps36
  go_wp2_with fail
  generalize hW : (w.alloc (.cells #[.int .i64 W, .int .i64 H, .slice A n c] 24)).alloc _ = X
  have hc0 : X.cell? ⟨w.heap.size, 0, none⟩ = some (.int .i64 W) := by rw [← hW, World.cell?_alloc_lt _ _ _ (by simp), World.cell?_alloc_at _ _ _ _ rfl]; rfl
  refine wp_region_still_tail 13 (by kernel_rfl) (by kernel_rfl) ?_
  simp only [List.take_succ_cons, List.take_zero, List.drop_succ_cons, List.drop_zero]
  repeat (refine wpStill_step (fun K hK => ?_); go_simp; (try simp only [hw0, if_false, hm, hd, wx1, wx2, wy1, wy2]); refine hK _ ?_; clear hK K)
  refine wpStill_nil ?_
  change wpList _ _ _ _ _ X.drew
  subst hW
  go_wp2
  exact bodyPost_ret (v := .agg #[.int .i64 (t % W * 65536 + 32768), .int .i64 (t / W * 65536 + 32768)]) (by simp [results, Try.results36, go_sem]) rfl ⟨rfl, (two_below5 _ _ _).drew⟩

end Go.Proofs.Ytfgjiaakoacomaa
