/- Whether discs are apart: the code's answer and the page's. -/
import Derived.Test.YtjbnpgjndohjcaaFixLawM
import Derived.Test.YtjbnpgjndohjcaaBoxQ
namespace Go.Proofs.Ytjbnpgjndohjcaa
set_option maxRecDepth 20000
set_option maxRecDepth 20000
open Go.RowKit

/-- How great a disc counts. -/
def rndV (r : Int) : Int := min (max r 0) 262144
theorem rndV_range (r : Int) : 0 ≤ rndV r ∧ rndV r ≤ 262144 := by unfold rndV; omega
theorem mag_anti {a b : Int} (h : nrm a = -nrm b) : mag a = mag b := by unfold mag; rw [h]; split <;> split <;> omega
theorem fsub_anti {x p : Int} (hx : x ≤ 9223372036854775807) (hp : p ≤ 9223372036854775807) : nrm (fsub x p) = -nrm (fsub p x) := by
  have h0 := nrm_range hx
  have h1 := nrm_range hp
  unfold fsub fneg fadd
  rw [nrm_id (a := -nrm p) (by omega), nrm_id (a := -nrm x) (by omega)]
  generalize nrm x = a at *
  generalize nrm p = b at *
  have key : ∀ z : Int, nrm (clp z) = clp z := fun z => nrm_id (clp_range z).1
  rw [key, key]
  unfold clp
  split <;> split <;> first | omega | (split <;> omega) | (split <;> split <;> omega)
/-- Whoever is within a way of another one has it within the same. -/
theorem vwithin_sym {x y p q r : Int} (hx : x ≤ 9223372036854775807) (hy : y ≤ 9223372036854775807) (hp : p ≤ 9223372036854775807) (hq : q ≤ 9223372036854775807) : vwithin p q x y r = vwithin x y p q r := by
  unfold vwithin sq2
  rw [mag_anti (fsub_anti hp hx), mag_anti (fsub_anti hq hy)]

theorem disc_round (r : Int) (w : World) : Calls Try.prog 55 #[.int .i64 r] w fun e w' => e = .returned (.int .i64 (rndV r)) ∧ w = w' := by
  go_enter Try.func55, Try.ntmps55
  go_wp2
  go_ret
  exact ⟨rfl, rfl⟩
theorem rnd_ref (r : Int) : max (0 : Int) (min r 262144) = rndV r := by unfold rndV; omega

set_option maxHeartbeats 800000 in
theorem disc_apart (x y r p q s : Int) (w : World) (hx : x ≤ 9223372036854775807) (hy : y ≤ 9223372036854775807) (hp : p ≤ 9223372036854775807) (hq : q ≤ 9223372036854775807) :
    Calls Try.prog 22 #[.agg #[.int .i64 x, .int .i64 y], .int .i64 r, .agg #[.int .i64 p, .int .i64 q], .int .i64 s] w fun e w' => e = .returned (.bool (!vwithin x y p q (rndV r + rndV s))) ∧ Below w.heap.size w w' := by
  obtain ⟨r0, r1⟩ := rndV_range r
  obtain ⟨s0, s1⟩ := rndV_range s
  have C0 := fun W => vec_within x y p q (rndV r + rndV s) W hx hy hp hq (by omega)
  have C1 := fun W => disc_round r W
  have C2 := fun W => disc_round s W
  generalize rndV r = R at *
  generalize rndV s = S at *
  generalize vwithin x y p q (R + S) = B at *
  have hw : IntKind.i64.wrap (R + S) = R + S := IntWalk.i64_in _ (by omega)
  have hw2 : wrap64 (R + S) = R + S := IntWalk.wrap64_in _ (by omega)
  have Qp := (BoxQ.start w x y).next ((Below.refl _ _).alloc (Nat.le_refl _) (.cells #[.int .i64 p, .int .i64 q] 35))
  have Qq := BoxQ.start (w.alloc (.cells #[.int .i64 x, .int .i64 y] 35)) p q
  rw [show (w.alloc (.cells #[.int .i64 x, .int .i64 y] 35)).heap.size = w.heap.size + 1 by simp] at Qq
  have B0 : Below w.heap.size w ((w.alloc (.cells #[.int .i64 x, .int .i64 y] 35)).alloc (.cells #[.int .i64 p, .int .i64 q] 35)) := two_below _ _ _
  go_enter Try.func22, Try.ntmps22
  go_wp2_with fail
  generalize (w.alloc (.cells #[.int .i64 x, .int .i64 y] 35)).alloc (.cells #[.int .i64 p, .int .i64 q] 35) = W at *
  obtain ⟨p0, p1, p2, p3⟩ := id Qp
  obtain ⟨q0, q1, q2, q3⟩ := id Qq
  have C0 := Lib.hid (fun u => calls_over (x := u) (C0 (over W u)))
  have C1 := Lib.hid (fun u => calls_over_same (x := u) (C1 (over W u)))
  have C2 := Lib.hid (fun u => calls_over_same (x := u) (C2 (over W u)))
  refine wp_region_over (by kernel_rfl) (by kernel_rfl) ?_
  repeat (go_big_quiet_step (first | (go_at_call 55; with_reducible (first | exact C1.out _ | exact C2.out _)) | (go_at_call 54; (try simp only [hw2]); with_reducible exact C0.out _)))
  refine wpQuiet_nil ?_
  rintro wq ⟨xq, rfl⟩
  have hq := over_below W xq
  generalize over W xq = wq at *
  go_wp2
  go_ret
  exact ⟨rfl, B0.trans (hq.mono B0.size)⟩

set_option maxHeartbeats 800000 in
theorem ref_apart (x y r p q s : Int) (w : World) (hx : x ≤ 9223372036854775807) (hy : y ≤ 9223372036854775807) (hp : p ≤ 9223372036854775807) (hq : q ≤ 9223372036854775807) :
    Calls Try.prog 23 #[.agg #[.int .i64 x, .int .i64 y], .int .i64 r, .agg #[.int .i64 p, .int .i64 q], .int .i64 s] w fun e w' => e = .returned (.bool (!vwithin x y p q (rndV r + rndV s))) ∧ Below w.heap.size w w' := by
  obtain ⟨r0, r1⟩ := rndV_range r
  obtain ⟨s0, s1⟩ := rndV_range s
  have C0 := fun W => ref_within x y p q (rndV r + rndV s) W hx hy hp hq (by omega)
  have e1 := rnd_ref r
  have e2 := rnd_ref s
  generalize rndV r = R at *
  generalize rndV s = S at *
  generalize vwithin x y p q (R + S) = B at *
  have hw2 : wrap64 (R + S) = R + S := IntWalk.wrap64_in _ (by omega)
  have C0 := Lib.hid C0
  have B0 : Below w.heap.size w ((w.alloc (.cells #[.int .i64 x, .int .i64 y] 35)).alloc (.cells #[.int .i64 p, .int .i64 q] 35)) := two_below _ _ _
  go_enter Try.func23, Try.ntmps23
  go_wp2_with fail
  (try simp only [e1, e2, hw2])
  refine Calls.mono (C0.out _) ?_
  rintro e w1 ⟨rfl, hb1⟩
  go_wp2
  go_ret
  exact ⟨rfl, B0.trans (hb1.mono B0.size)⟩
end Go.Proofs.Ytjbnpgjndohjcaa
