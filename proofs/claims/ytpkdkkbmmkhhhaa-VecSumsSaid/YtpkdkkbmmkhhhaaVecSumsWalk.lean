/- The walk of the law VecSums. -/
import Derived.Test.YtpkdkkbmmkhhhaaVecScale
import Derived.Test.YtpkdkkbmmkhhhaaVecLaw
namespace Go.Proofs.Ytpkdkkbmmkhhhaa
open Go.RowKit Go.WideShapes Go.ChangeShapes

namespace lawVecSums
set_option maxHeartbeats 3200000 in
set_option maxRecDepth 100000 in
theorem walk {H : Type} {enc : TypeId × Value → H} (w : World) {base : Nat} (v : Value) (d : DataW H) (p : List MemPlace) (hv : Value.okWide Try.prog w .any base 22 v)
    (ht : DataW.Trod enc Try.prog w 0 (fun _ => true) true 22 v d p) : Calls Try.prog 11 #[v] w fun e w' => e = .returned (.bool true) ∧ Below w.heap.size w w' := by
  obtain ⟨A, n, c, rfl, hnc, hcm, ha⟩ := open_asks2 hv ht
  unfold maxLen at hcm
  clear hv ht
  go_enter Try.func11, Try.ntmps11
  go_wp2
  go_loopw [3] (fun i wr => ∃ (k : Nat), k ≤ n ∧ k ≤ 30 ∧ i = .int .i64 k ∧ Below w.heap.size w wr) (fun i _ => n - (intOf i).toNat)
  case atStart => exact ⟨0, Nat.zero_le _, by omega, rfl, Below.refl _ _⟩
  case round =>
    obtain ⟨k, hk, hk20, rfl, hbl⟩ := hrel
    by_cases hlt : k < n
    · by_cases h20 : k < 30
      · obtain ⟨b, o, x, y, p, q, z, rfl, hb, hc1, hc2, hc3, hc4, hc5, ⟨hx0, hx1⟩, ⟨hy0, hy1⟩, ⟨hp0, hp1⟩, ⟨hq0, hq1⟩, ⟨hz0, hz1⟩⟩ := ha.below hbl k hlt
        clear ha
        go_wp2_with fail
        go_region
        all_goals go_wp2_with fail
        all_goals clear hc1 hc2 hc3 hc4 hc5 hb
        all_goals first
          | (
             change Code.wp _ _ _ _ (((wr.alloc (.cells #[.int .i64 x, .int .i64 y] 25)).alloc (.cells #[.int .i64 p, .int .i64 q] 25)).drew)
             generalize hW : ((wr.alloc (.cells #[.int .i64 x, .int .i64 y] 25)).alloc (.cells #[.int .i64 p, .int .i64 q] 25)).drew = W
             have c40 : W.cell? ⟨wr.heap.size, 0, none⟩ = some (.int .i64 x) := by rw [← hW]; show World.cell? ((wr.alloc (.cells #[.int .i64 x, .int .i64 y] 25)).alloc (.cells #[.int .i64 p, .int .i64 q] 25)) _ = _; rw [World.cell?_alloc_lt _ _ _ (by simp), World.cell?_alloc_at _ _ _ _ rfl]; rfl
             have c41 : W.cell? ⟨wr.heap.size, 1, none⟩ = some (.int .i64 y) := by rw [← hW]; show World.cell? ((wr.alloc (.cells #[.int .i64 x, .int .i64 y] 25)).alloc (.cells #[.int .i64 p, .int .i64 q] 25)) _ = _; rw [World.cell?_alloc_lt _ _ _ (by simp), World.cell?_alloc_at _ _ _ _ rfl]; rfl
             have c50 : W.cell? ⟨wr.heap.size + 1, 0, none⟩ = some (.int .i64 p) := by rw [← hW]; show World.cell? ((wr.alloc (.cells #[.int .i64 x, .int .i64 y] 25)).alloc (.cells #[.int .i64 p, .int .i64 q] 25)) _ = _; rw [World.cell?_alloc_at _ _ _ _ (by simp)]; rfl
             have c51 : W.cell? ⟨wr.heap.size + 1, 1, none⟩ = some (.int .i64 q) := by rw [← hW]; show World.cell? ((wr.alloc (.cells #[.int .i64 x, .int .i64 y] 25)).alloc (.cells #[.int .i64 p, .int .i64 q] 25)) _ = _; rw [World.cell?_alloc_at _ _ _ _ (by simp)]; rfl
             have hW4 : wr.heap.size < W.heap.size := by rw [← hW]; show _ < ((wr.alloc (.cells #[.int .i64 x, .int .i64 y] 25)).alloc (.cells #[.int .i64 p, .int .i64 q] 25)).heap.size; simp <;> omega
             have hW5 : wr.heap.size + 1 < W.heap.size := by rw [← hW]; show _ < ((wr.alloc (.cells #[.int .i64 x, .int .i64 y] 25)).alloc (.cells #[.int .i64 p, .int .i64 q] 25)).heap.size; simp <;> omega
             have hbW : Below w.heap.size w W := by rw [← hW]; exact (hbl.trans ((two_below _ _ _).mono hbl.size)).drew
             clear hW
             generalize wr.heap.size + 1 = g5 at *
             generalize wr.heap.size = g4 at *
            )
          | (
             change Code.wp _ _ _ _ (((wr.alloc (.cells #[.int .i64 p, .int .i64 q] 25)).alloc (.cells #[.int .i64 x, .int .i64 y] 25)).drew)
             generalize hW : ((wr.alloc (.cells #[.int .i64 p, .int .i64 q] 25)).alloc (.cells #[.int .i64 x, .int .i64 y] 25)).drew = W
             have c40 : W.cell? ⟨wr.heap.size + 1, 0, none⟩ = some (.int .i64 x) := by rw [← hW]; show World.cell? ((wr.alloc (.cells #[.int .i64 p, .int .i64 q] 25)).alloc (.cells #[.int .i64 x, .int .i64 y] 25)) _ = _; rw [World.cell?_alloc_at _ _ _ _ (by simp)]; rfl
             have c41 : W.cell? ⟨wr.heap.size + 1, 1, none⟩ = some (.int .i64 y) := by rw [← hW]; show World.cell? ((wr.alloc (.cells #[.int .i64 p, .int .i64 q] 25)).alloc (.cells #[.int .i64 x, .int .i64 y] 25)) _ = _; rw [World.cell?_alloc_at _ _ _ _ (by simp)]; rfl
             have c50 : W.cell? ⟨wr.heap.size, 0, none⟩ = some (.int .i64 p) := by rw [← hW]; show World.cell? ((wr.alloc (.cells #[.int .i64 p, .int .i64 q] 25)).alloc (.cells #[.int .i64 x, .int .i64 y] 25)) _ = _; rw [World.cell?_alloc_lt _ _ _ (by simp), World.cell?_alloc_at _ _ _ _ rfl]; rfl
             have c51 : W.cell? ⟨wr.heap.size, 1, none⟩ = some (.int .i64 q) := by rw [← hW]; show World.cell? ((wr.alloc (.cells #[.int .i64 p, .int .i64 q] 25)).alloc (.cells #[.int .i64 x, .int .i64 y] 25)) _ = _; rw [World.cell?_alloc_lt _ _ _ (by simp), World.cell?_alloc_at _ _ _ _ rfl]; rfl
             have hW4 : wr.heap.size + 1 < W.heap.size := by rw [← hW]; show _ < ((wr.alloc (.cells #[.int .i64 p, .int .i64 q] 25)).alloc (.cells #[.int .i64 x, .int .i64 y] 25)).heap.size; simp <;> omega
             have hW5 : wr.heap.size < W.heap.size := by rw [← hW]; show _ < ((wr.alloc (.cells #[.int .i64 p, .int .i64 q] 25)).alloc (.cells #[.int .i64 x, .int .i64 y] 25)).heap.size; simp <;> omega
             have hbW : Below w.heap.size w W := by rw [← hW]; exact (hbl.trans ((two_below _ _ _).mono hbl.size)).drew
             clear hW
             generalize wr.heap.size + 1 = g4 at *
             generalize wr.heap.size = g5 at *
            )
        all_goals
          have M1 := Lib.hid (fun W => vec_add x y p q W hx1 hy1 hp1 hq1)
          have M2 := Lib.hid (fun W => ref_vadd x y p q W hx1 hy1 hp1 hq1)
          have M3 := Lib.hid (fun W => vec_sub x y p q W hx1 hy1 hp1 hq1)
          have M4 := Lib.hid (fun W => ref_vsub x y p q W hx1 hy1 hp1 hq1)
          have M5 := Lib.hid (fun W => vec_neg x y W hx1 hy1)
          have M6 := Lib.hid (fun W => ref_vneg x y W hx1 hy1)
          have M7 := Lib.hid (fun W => vec_scale x y z W hx1 hy1 hz1)
          have M8 := Lib.hid (fun W => ref_scale x y z W hx1 hy1 hz1)
          have M9 := Lib.hid (fun W => vec_dot x y p q W hx1 hy1 hp1 hq1)
          have M0 := Lib.hid (fun W => ref_dot x y p q W hx1 hy1 hp1 hq1)
          generalize fadd (fmul x p) (fmul y q) = r9 at *
          generalize fadd x p = r1 at *
          generalize fadd y q = r2 at *
          generalize fsub x p = r3 at *
          generalize fsub y q = r4 at *
          generalize fneg x = r5 at *
          generalize fneg y = r6 at *
          generalize fmul x z = r7 at *
          generalize fmul y z = r8 at *
          have M1 := Lib.hid (fun u => calls_over (x := u) (M1.out (over W u)))
          have M2 := Lib.hid (fun u => calls_over (x := u) (M2.out (over W u)))
          have M3 := Lib.hid (fun u => calls_over (x := u) (M3.out (over W u)))
          have M4 := Lib.hid (fun u => calls_over (x := u) (M4.out (over W u)))
          have M5 := Lib.hid (fun u => calls_over (x := u) (M5.out (over W u)))
          have M6 := Lib.hid (fun u => calls_over (x := u) (M6.out (over W u)))
          have M7 := Lib.hid (fun u => calls_over (x := u) (M7.out (over W u)))
          have M8 := Lib.hid (fun u => calls_over (x := u) (M8.out (over W u)))
          have M9 := Lib.hid (fun u => calls_over (x := u) (M9.out (over W u)))
          have M0 := Lib.hid (fun u => calls_over (x := u) (M0.out (over W u)))
          refine wp_region_over (by kernel_rfl) (by kernel_rfl) ?_
          repeat (go_big_quiet_step (first | (go_at_call 41; exact M1.out _) | (go_at_call 42; exact M2.out _) | (go_at_call 34; exact M3.out _) | (go_at_call 43; exact M4.out _) | (go_at_call 44; exact M5.out _) | (go_at_call 45; exact M6.out _) | (go_at_call 46; exact M7.out _) | (go_at_call 47; exact M8.out _) | (go_at_call 48; exact M9.out _) | (go_at_call 49; exact M0.out _)))
          refine wpQuiet_nil ?_
          rintro wq ⟨xq, rfl⟩
          have hq := over_below W xq
          generalize over W xq = wq at *
          go_wp2
          go_roundw
          case rel => exact ⟨k + 1, by omega, by omega, by go_num, hbW.trans (hq.mono hbW.size)⟩
          case measure => simp [intOf]; omega
      · go_wp2_with (first | (go_at_call 23; refine (wakes2 _).mono ?_; rintro e w1 ⟨rfl, hb1⟩))
        go_ret
        exact ⟨rfl, hbl.trans (hb1.mono hbl.size)⟩
    · go_wp2_with (first | (go_at_call 23; refine (wakes2 _).mono ?_; rintro e w1 ⟨rfl, hb1⟩))
      go_ret
      exact ⟨rfl, hbl.trans (hb1.mono hbl.size)⟩
end lawVecSums
end Go.Proofs.Ytpkdkkbmmkhhhaa
