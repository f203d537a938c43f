/- Steps to a place, away from others, to their middle: the code's and the page's. -/
import Derived.Test.YtjbnpgjndohjcaaVecWithin
import Derived.Test.YtjbnpgjndohjcaaVecsOpen
namespace Go.Proofs.Ytjbnpgjndohjcaa
set_option maxRecDepth 20000
set_option maxRecDepth 20000
open Go.RowKit

theorem partV_le {c m n : Int} (hc : c ≤ 9223372036854775807) (m0 : 0 ≤ m) (mn : m < n) : partV c m n ≤ 9223372036854775807 := by
  obtain ⟨a0, a1⟩ := mag_range hc
  obtain ⟨_, b0, b1, _⟩ := part_range a0 a1 m0 mn
  unfold partV sgn
  split <;> omega
theorem clampV_range {x y k : Int} (hx : x ≤ 9223372036854775807) (hy : y ≤ 9223372036854775807) (hk : k ≤ 9223372036854775807) : (clampV x y k).1 ≤ 9223372036854775807 ∧ (clampV x y k).2 ≤ 9223372036854775807 := by
  obtain ⟨a0, a1⟩ := nrm_range hx
  obtain ⟨b0, b1⟩ := nrm_range hy
  obtain ⟨l0, l1⟩ := vlen_range a1 b1
  unfold clampV
  split
  · exact ⟨a1, b1⟩
  · rename_i h
    have m0 : 0 ≤ mostV k := by unfold mostV; omega
    exact ⟨partV_le a1 m0 (by omega), partV_le b1 m0 (by omega)⟩
/-- The step from a place to another one. -/
def towV (x y p q k : Int) : Int × Int := clampV (fsub p x) (fsub q y) k
theorem towV_range {x y p q k : Int} (hk : k ≤ 9223372036854775807) : (towV x y p q k).1 ≤ 9223372036854775807 ∧ (towV x y p q k).2 ≤ 9223372036854775807 := clampV_range (fsub_range p x).2 (fsub_range q y).2 hk

set_option maxHeartbeats 800000 in
theorem steer_toward (x y p q k : Int) (w : World) (hx : x ≤ 9223372036854775807) (hy : y ≤ 9223372036854775807) (hp : p ≤ 9223372036854775807) (hq : q ≤ 9223372036854775807) (hk : k ≤ 9223372036854775807) :
    Calls Try.prog 24 #[.agg #[.int .i64 x, .int .i64 y], .agg #[.int .i64 p, .int .i64 q], .int .i64 k] w fun e w' => e = .returned (.agg #[.int .i64 (towV x y p q k).1, .int .i64 (towV x y p q k).2]) ∧ Below w.heap.size w w' := by
  have C1 := Lib.hid (fun W => vec_sub p q x y W hp hq hx hy)
  have C2 := Lib.hid (fun W => vec_clamp (fsub p x) (fsub q y) k W (fsub_range p x).2 (fsub_range q y).2 hk)
  unfold towV
  generalize fsub p x = dx at *
  generalize fsub q y = dy at *
  generalize (clampV dx dy k).1 = r1 at *
  generalize (clampV dx dy k).2 = r2 at *
  have Q0 := startq ((w.alloc (.cells #[.int .i64 x, .int .i64 y] 35)).alloc (.cells #[.int .i64 p, .int .i64 q] 35)) 35 0 0
  rw [show ((w.alloc (.cells #[.int .i64 x, .int .i64 y] 35)).alloc (.cells #[.int .i64 p, .int .i64 q] 35)).heap.size = w.heap.size + 2 by simp] at Q0
  have B0 : Below w.heap.size w (((w.alloc (.cells #[.int .i64 x, .int .i64 y] 35)).alloc (.cells #[.int .i64 p, .int .i64 q] 35)).alloc (.cells #[.int .i64 0, .int .i64 0] 35)) := (((Below.refl _ _).alloc (Nat.le_refl _) _).alloc (by simp) _).alloc (by simp; omega) _
  go_enter Try.func24, Try.ntmps24
  go_wp2_with fail
  refine Calls.mono (C1.out _) ?_
  rintro e w1 ⟨rfl, hb1⟩
  have Q1 := keepq Q0 hb1
  have B1 := B0.trans (hb1.mono B0.size)
  clear Q0 B0 hb1
  obtain ⟨x0, x1, x2, x3⟩ := id Q1
  go_wp2_with fail
  refine Calls.mono (C2.out _) ?_
  rintro e w2 ⟨rfl, hb2⟩
  have Q2 := keepq Q1 hb2
  have B2 := B1.trans (hb2.mono B1.size)
  clear x0 x1 x2 x3 Q1 B1 hb2
  obtain ⟨x0, x1, x2, x3⟩ := id Q2
  obtain ⟨y0, y1, _, _⟩ := storeq (a := r1) (b := r2) Q2
  go_wp2
  exact bodyPost_ret (v := .agg #[.int .i64 r1, .int .i64 r2]) (by simp [results, Try.results24, go_sem, y0, y1]) rfl ⟨rfl, (B2.setCell (by show w.heap.size ≤ w.heap.size + 2; omega) _).setCell (by show w.heap.size ≤ w.heap.size + 2; omega) _⟩

set_option maxHeartbeats 800000 in
theorem ref_toward (x y p q k : Int) (w : World) (hx : x ≤ 9223372036854775807) (hy : y ≤ 9223372036854775807) (hp : p ≤ 9223372036854775807) (hq : q ≤ 9223372036854775807) (hk : k ≤ 9223372036854775807) :
    Calls Try.prog 25 #[.agg #[.int .i64 x, .int .i64 y], .agg #[.int .i64 p, .int .i64 q], .int .i64 k] w fun e w' => e = .returned (.agg #[.int .i64 (towV x y p q k).1, .int .i64 (towV x y p q k).2]) ∧ Below w.heap.size w w' := by
  have C1 := Lib.hid (fun W => ref_vsub p q x y W hp hq hx hy)
  have C2 := Lib.hid (fun W => ref_clamp (fsub p x) (fsub q y) k W (fsub_range p x).2 (fsub_range q y).2 hk)
  unfold towV
  generalize fsub p x = dx at *
  generalize fsub q y = dy at *
  generalize (clampV dx dy k).1 = r1 at *
  generalize (clampV dx dy k).2 = r2 at *
  have Q0 := startq ((w.alloc (.cells #[.int .i64 x, .int .i64 y] 35)).alloc (.cells #[.int .i64 p, .int .i64 q] 35)) 35 0 0
  rw [show ((w.alloc (.cells #[.int .i64 x, .int .i64 y] 35)).alloc (.cells #[.int .i64 p, .int .i64 q] 35)).heap.size = w.heap.size + 2 by simp] at Q0
  have B0 : Below w.heap.size w (((w.alloc (.cells #[.int .i64 x, .int .i64 y] 35)).alloc (.cells #[.int .i64 p, .int .i64 q] 35)).alloc (.cells #[.int .i64 0, .int .i64 0] 35)) := (((Below.refl _ _).alloc (Nat.le_refl _) _).alloc (by simp) _).alloc (by simp; omega) _
  go_enter Try.func25, Try.ntmps25
  go_wp2_with fail
  refine Calls.mono (C1.out _) ?_
  rintro e w1 ⟨rfl, hb1⟩
  have Q1 := keepq Q0 hb1
  have B1 := B0.trans (hb1.mono B0.size)
  clear Q0 B0 hb1
  obtain ⟨x0, x1, x2, x3⟩ := id Q1
  go_wp2_with fail
  refine Calls.mono (C2.out _) ?_
  rintro e w2 ⟨rfl, hb2⟩
  have Q2 := keepq Q1 hb2
  have B2 := B1.trans (hb2.mono B1.size)
  clear x0 x1 x2 x3 Q1 B1 hb2
  obtain ⟨x0, x1, x2, x3⟩ := id Q2
  obtain ⟨y0, y1, _, _⟩ := storeq (a := r1) (b := r2) Q2
  go_wp2
  exact bodyPost_ret (v := .agg #[.int .i64 r1, .int .i64 r2]) (by simp [results, Try.results25, go_sem, y0, y1]) rfl ⟨rfl, (B2.setCell (by show w.heap.size ≤ w.heap.size + 2; omega) _).setCell (by show w.heap.size ≤ w.heap.size + 2; omega) _⟩

theorem wake_tow : towV 0 0 327680 0 65536 = (65536, 0) := by decide +kernel
theorem wakes19 (w : World) : Calls Try.prog 26 #[] w fun e w' => e = .returned (.bool true) ∧ Below w.heap.size w w' := by
  have M := fun W => steer_toward 0 0 327680 0 65536 W (by omega) (by omega) (by omega) (by omega) (by omega)
  rw [wake_tow] at M
  have M := Lib.hid M
  go_enter Try.func26, Try.ntmps26
  go_wp2_with fail
  refine Calls.mono (M.out _) ?_
  rintro e w1 ⟨rfl, hb⟩
  go_wp2
  go_ret
  exact ⟨rfl, hb⟩
end Go.Proofs.Ytjbnpgjndohjcaa
