/- vec's parts, and the page's: sums of squares. -/
import Derived.Test.YtpkdkkbmmkhhhaaFixLaw
import Derived.Laws.Externs
import Derived.StillTailTactics
namespace Go.Proofs.Ytpkdkkbmmkhhhaa
set_option maxRecDepth 20000
open Go.RowKit

theorem add64_run (x y c : Int) (hx : 0 ≤ x) (hx' : x ≤ 18446744073709551615) (hy : 0 ≤ y) (hy' : y ≤ 18446744073709551615) (hc : 0 ≤ c) (hc1 : c ≤ 1) (w : World) :
    (callFunc 80 #[.int .u64 x, .int .u64 y, .int .u64 c]).run Try.prog w = .ok (.value (.tuple #[.int .u64 ((x + y + c) % 18446744073709551616), .int .u64 ((x + y + c) / 18446744073709551616)])) w := by
  obtain ⟨a, rfl⟩ := Int.eq_ofNat_of_zero_le hx
  obtain ⟨b, rfl⟩ := Int.eq_ofNat_of_zero_le hy
  obtain ⟨d, rfl⟩ := Int.eq_ofNat_of_zero_le hc
  rw [run_callFunc_extern Try.func80 (by kernel_rfl) (by kernel_rfl) (by kernel_rfl) (e := add64Entry) (by kernel_rfl), run_add64 a b d (by omega) (by omega) (by omega) (by omega)]
  simp only [Result.andThen]

set_option maxHeartbeats 800000 in
set_option maxRecDepth 20000 in
theorem fix_plus (h1 l1 h2 l2 : Int) (w : World) (a0 : 0 ≤ h1) (a1 : h1 ≤ 4611686018427387903) (b0 : 0 ≤ l1) (b1 : l1 ≤ 18446744073709551615) (c0 : 0 ≤ h2) (c1 : h2 ≤ 4611686018427387903) (d0 : 0 ≤ l2) (d1 : l2 ≤ 18446744073709551615) :
    Calls Try.prog 77 #[.agg #[.int .u64 h1, .int .u64 l1], .agg #[.int .u64 h2, .int .u64 l2]] w fun e w' =>
      e = .returned (.agg #[.int .u64 (h1 + h2 + (l1 + l2) / 18446744073709551616), .int .u64 ((l1 + l2) % 18446744073709551616)]) ∧ Below w.heap.size w w' := by
  have A1 := Lib.hid (fun W => add64_run l1 l2 0 b0 b1 d0 d1 (by omega) (by omega) W)
  rw [Int.add_zero] at A1
  have A2 := Lib.hid (fun W => add64_run h1 h2 ((l1 + l2) / 18446744073709551616) a0 (by omega) c0 (by omega) (by omega) (by omega) W)
  have E2 : Hid ((h1 + h2 + (l1 + l2) / 18446744073709551616) % 18446744073709551616 = h1 + h2 + (l1 + l2) / 18446744073709551616) := by show _ = _; omega
  generalize (h1 + h2 + (l1 + l2) / 18446744073709551616) % 18446744073709551616 = H at *
  generalize (h1 + h2 + (l1 + l2) / 18446744073709551616) / 18446744073709551616 = H2 at *
  generalize h1 + h2 + (l1 + l2) / 18446744073709551616 = HH at *
  generalize (l1 + l2) / 18446744073709551616 = cy at *
  generalize (l1 + l2) % 18446744073709551616 = lo at *
  go_enter Try.func77, Try.ntmps77
  go_wp2
  rw [A1.out]
  go_wp2
  rw [A2.out]
  go_wp2
  exact bodyPost_ret (v := .agg #[.int .u64 H, .int .u64 lo]) (by simp [results, Try.results77, go_sem]) rfl ⟨by rw [E2.out], (((Below.refl _ _).alloc (Nat.le_refl _) _).alloc (by simp) _).alloc (by simp; omega) _⟩

theorem back_of {P : Program} {f : FuncId} {args : Array Value} {w : World} {v : Value} (h : Calls P f args w fun e w' => e = .returned v ∧ w = w') : Calls P f args w fun e w' => e = .returned v ∧ w' = w :=
  h.mono fun _ _ ⟨he, hw⟩ => ⟨he, hw.symm⟩
theorem below_one (w : World) (o : Obj) : Below w.heap.size w (w.alloc o) := (Below.refl _ _).alloc (Nat.le_refl _) _
theorem two_below (w : World) (x y : Obj) : Below w.heap.size w ((w.alloc x).alloc y) := ((Below.refl _ _).alloc (Nat.le_refl _) _).alloc (by simp) _

theorem vec_norm (x y : Int) (w : World) : Calls Try.prog 60 #[.agg #[.int .i64 x, .int .i64 y]] w fun e w' => e = .returned (.agg #[.int .i64 (nrm x), .int .i64 (nrm y)]) ∧ Below w.heap.size w w' := by
  have N1 := Lib.hid (fun W => back_of (fix_norm x W))
  have N2 := Lib.hid (fun W => back_of (fix_norm y W))
  generalize nrm x = X at *
  generalize nrm y = Y at *
  go_enter Try.func60, Try.ntmps60
  go_wp2_with fail
  generalize hW : (w.alloc (.cells #[.int .i64 x, .int .i64 y] 25)).alloc _ = W
  have hc0 : W.cell? ⟨w.heap.size, 0, none⟩ = some (.int .i64 x) := by rw [← hW, World.cell?_alloc_lt _ _ _ (by simp), World.cell?_alloc_at _ _ _ _ rfl]; rfl
  have hc1 : W.cell? ⟨w.heap.size, 1, none⟩ = some (.int .i64 y) := by rw [← hW, World.cell?_alloc_lt _ _ _ (by simp), World.cell?_alloc_at _ _ _ _ rfl]; rfl
  refine wp_region_still_tail 7 (by kernel_rfl) (by kernel_rfl) ?_
  simp only [List.take_succ_cons, List.take_zero, List.drop_succ_cons, List.drop_zero]
  repeat still_step
  still_call (N1.out _)
  repeat still_step
  still_call (N2.out _)
  repeat still_step
  refine wpStill_nil ?_
  change wpList _ _ _ _ _ W.drew
  subst hW
  go_wp2
  exact bodyPost_ret (v := .agg #[.int .i64 X, .int .i64 Y]) (by simp [results, Try.results60, go_sem]) rfl ⟨rfl, (two_below _ _ _).drew⟩

set_option maxHeartbeats 800000 in
set_option maxRecDepth 20000 in
theorem ref_plus (h1 l1 h2 l2 : Int) (w : World) (a0 : 0 ≤ h1) (a1 : h1 ≤ 4611686018427387903) (b0 : 0 ≤ l1) (b1 : l1 ≤ 18446744073709551615) (c0 : 0 ≤ h2) (c1 : h2 ≤ 4611686018427387903) (d0 : 0 ≤ l2) (d1 : l2 ≤ 18446744073709551615) :
    Calls Try.prog 78 #[.agg #[.int .u64 h1, .int .u64 l1], .agg #[.int .u64 h2, .int .u64 l2]] w fun e w' =>
      e = .returned (.agg #[.int .u64 (h1 + h2 + (l1 + l2) / 18446744073709551616), .int .u64 ((l1 + l2) % 18446744073709551616)]) ∧ Below w.heap.size w w' := by
  by_cases hc : l1 + l2 < 18446744073709551616
  · have E1 : Hid ((l1 + l2) / 18446744073709551616 = 0) := by show _ = _; omega
    have E2 : Hid ((l1 + l2) % 18446744073709551616 = l1 + l2) := by show _ = _; omega
    have e3 : (l1 + l2 < l1) = False := by simp; omega
    go_enter Try.func78, Try.ntmps78
    go_wp2
    exact bodyPost_ret (v := .agg #[.int .u64 (h1 + h2), .int .u64 (l1 + l2)]) (by simp [results, Try.results78, go_sem]) rfl ⟨by rw [E1.out, E2.out, Int.add_zero], ((two_below _ _ _).alloc (by simp; omega) _).alloc (by simp; omega) _⟩
  · have E1 : Hid ((l1 + l2) / 18446744073709551616 = 1) := by show _ = _; omega
    have E2 : Hid ((l1 + l2) % 18446744073709551616 = l1 + l2 - 18446744073709551616) := by show _ = _; omega
    have hwr : IntKind.u64.wrap (l1 + l2) = l1 + l2 - 18446744073709551616 := by rw [u64_wrap]; omega
    go_enter Try.func78, Try.ntmps78
    go_wp2
    exact bodyPost_ret (v := .agg #[.int .u64 (h1 + h2 + 1), .int .u64 (l1 + l2 - 18446744073709551616)]) (by simp [results, Try.results78, go_sem]) rfl ⟨by rw [E1.out, E2.out], ((two_below _ _ _).alloc (by simp; omega) _).alloc (by simp; omega) _⟩

theorem own2 (w : World) (o : Obj) (a b : Value) (t : TypeId) {w3 : World} (hb : Below ((w.alloc o).alloc (.cells #[a, b] t)).heap.size ((w.alloc o).alloc (.cells #[a, b] t)) w3) :
    w3.cell? ⟨w.heap.size + 1, 0, none⟩ = some a ∧ w3.cell? ⟨w.heap.size + 1, 1, none⟩ = some b ∧ w3.frozen? ⟨w.heap.size + 1, 0, none⟩ = false ∧ w3.frozen? ⟨w.heap.size + 1, 1, none⟩ = false ∧ Below w.heap.size w w3 := by
  have hlt : ∀ k, (⟨w.heap.size + 1, k, none⟩ : Addr).block < ((w.alloc o).alloc (.cells #[a, b] t)).heap.size := fun k => by simp
  refine ⟨?_, ?_, ?_, ?_, (two_below w o _).trans (hb.mono (by simp; omega))⟩
  · rw [hb.cell (hlt 0), World.cell?_alloc_at _ _ _ _ (by simp)]; rfl
  · rw [hb.cell (hlt 1), World.cell?_alloc_at _ _ _ _ (by simp)]; rfl
  · rw [hb.frozen (hlt 0)]; exact World.frozen?_alloc_at _ _ _ _ (by simp)
  · rw [hb.frozen (hlt 1)]; exact World.frozen?_alloc_at _ _ _ _ (by simp)
theorem set2 {w : World} {g : Nat} {a b : Value} (h0 : w.cell? ⟨g, 0, none⟩ = some a) (h1 : w.cell? ⟨g, 1, none⟩ = some b) (x y : Value) :
    ((w.setCell ⟨g, 0, none⟩ x).setCell ⟨g, 1, none⟩ y).cell? ⟨g, 0, none⟩ = some x ∧ ((w.setCell ⟨g, 0, none⟩ x).setCell ⟨g, 1, none⟩ y).cell? ⟨g, 1, none⟩ = some y := by
  refine ⟨?_, ?_⟩
  · rw [World.cell?_setCell_other _ _ _ _ (by simp)]
    exact World.cell?_setCell_same _ _ _ h0
  · exact World.cell?_setCell_same _ _ _ (by rw [World.cell?_setCell_other _ _ _ _ (by simp)]; exact h1)

/-- The sum of both parts' squares. -/
def sq2 (x y : Int) : Int := mag x * mag x + mag y * mag y
theorem sq_bound {x : Int} (h : x ≤ 9223372036854775807) : 0 ≤ mag x * mag x ∧ mag x * mag x ≤ 85070591730234615847396907784232501249 := by
  obtain ⟨h0, h1⟩ := mag_range h
  exact ⟨Int.mul_nonneg h0 h0, Int.le_trans (sq_le h0 h1) (by decide)⟩

set_option maxHeartbeats 800000 in
set_option maxRecDepth 20000 in
theorem vec_square (x y : Int) (w : World) (hx : x ≤ 9223372036854775807) (hy : y ≤ 9223372036854775807) : Calls Try.prog 56 #[.agg #[.int .i64 x, .int .i64 y]] w fun e w' =>
    e = .returned (.agg #[.int .u64 (sq2 x y / 18446744073709551616), .int .u64 (sq2 x y % 18446744073709551616)]) ∧ Below w.heap.size w w' := by
  have A1 := Lib.hid (fun W => fix_abs x W hx)
  have A2 := Lib.hid (fun W => fix_abs y W hy)
  obtain ⟨x0, x1⟩ := mag_range hx
  obtain ⟨y0, y1⟩ := mag_range hy
  have S1 := Lib.hid (fun W => fix_square (mag x) W x0 (by omega))
  have S2 := Lib.hid (fun W => fix_square (mag y) W y0 (by omega))
  obtain ⟨p0, p1⟩ := sq_bound hx
  obtain ⟨q0, q1⟩ := sq_bound hy
  unfold sq2
  generalize mag x * mag x = P at *
  generalize mag y * mag y = Q at *
  have L := Lib.hid (fun W => fix_plus (P / 18446744073709551616) (P % 18446744073709551616) (Q / 18446744073709551616) (Q % 18446744073709551616) W (by omega) (by omega) (by omega) (by omega) (by omega) (by omega) (by omega) (by omega))
  rw [show P / 18446744073709551616 + Q / 18446744073709551616 + (P % 18446744073709551616 + Q % 18446744073709551616) / 18446744073709551616 = (P + Q) / 18446744073709551616 by omega, show (P % 18446744073709551616 + Q % 18446744073709551616) % 18446744073709551616 = (P + Q) % 18446744073709551616 by omega] at L
  generalize (P + Q) / 18446744073709551616 = RH at *
  generalize (P + Q) % 18446744073709551616 = RL at *
  generalize P / 18446744073709551616 = PH at *
  generalize P % 18446744073709551616 = PL at *
  generalize Q / 18446744073709551616 = QH at *
  generalize Q % 18446744073709551616 = QL at *
  generalize mag x = X at *
  generalize mag y = Y at *
  generalize isNeg x = nx at *
  generalize isNeg y = ny at *
  clear p0 p1 q0 q1 x0 x1 y0 y1 P Q
  go_enter Try.func56, Try.ntmps56
  go_wp2_with fail
  refine Calls.mono (A1.out _) ?_
  rintro e w1 ⟨rfl, rfl⟩
  go_wp2_with fail
  refine Calls.mono (A2.out _) ?_
  rintro e w1 ⟨rfl, rfl⟩
  go_wp2_with fail
  refine Calls.mono (S1.out _) ?_
  rintro e w1 ⟨rfl, hb1⟩
  go_wp2_with fail
  refine Calls.mono (S2.out _) ?_
  rintro e w2 ⟨rfl, hb2⟩
  go_wp2_with fail
  refine Calls.mono (L.out _) ?_
  rintro e w3 ⟨rfl, hb3⟩
  have hb := hb1.trans ((hb2.trans (hb3.mono hb2.size)).mono hb1.size)
  obtain ⟨c0, c1, f0, f1, hbw⟩ := own2 _ _ _ _ _ hb
  obtain ⟨s0, s1⟩ := set2 c0 c1 (.int .u64 RH) (.int .u64 RL)
  clear hb hb1 hb2 hb3
  go_wp2
  exact bodyPost_ret (v := .agg #[.int .u64 RH, .int .u64 RL]) (by simp [results, Try.results56, go_sem, s0, s1]) rfl ⟨rfl, (hbw.setCell (by simp) _).setCell (by simp) _⟩

theorem ref_size_mag (a : Int) (w : World) (h : a ≤ 9223372036854775807) : Calls Try.prog 68 #[.int .i64 (nrm a)] w fun e w' => e = .returned (.int .u64 (mag a)) ∧ w = w' := by
  have := nrm_range h
  exact ref_size (nrm a) w this.1 this.2

set_option maxHeartbeats 800000 in
set_option maxRecDepth 20000 in
theorem ref_squares (x y : Int) (w : World) (hx : x ≤ 9223372036854775807) (hy : y ≤ 9223372036854775807) : Calls Try.prog 59 #[.agg #[.int .i64 x, .int .i64 y]] w fun e w' =>
    e = .returned (.agg #[.int .u64 (sq2 x y / 18446744073709551616), .int .u64 (sq2 x y % 18446744073709551616)]) ∧ Below w.heap.size w w' := by
  obtain ⟨x0, x1⟩ := mag_range hx
  obtain ⟨y0, y1⟩ := mag_range hy
  have S1 := Lib.hid (fun W => ref_times (mag x) (mag x) W x0 (by omega) x0 (by omega))
  have S2 := Lib.hid (fun W => ref_times (mag y) (mag y) W y0 (by omega) y0 (by omega))
  obtain ⟨p0, p1⟩ := sq_bound hx
  obtain ⟨q0, q1⟩ := sq_bound hy
  unfold sq2
  generalize mag x * mag x = P at *
  generalize mag y * mag y = Q at *
  have L := Lib.hid (fun W => ref_plus (P / 18446744073709551616) (P % 18446744073709551616) (Q / 18446744073709551616) (Q % 18446744073709551616) W (by omega) (by omega) (by omega) (by omega) (by omega) (by omega) (by omega) (by omega))
  rw [show P / 18446744073709551616 + Q / 18446744073709551616 + (P % 18446744073709551616 + Q % 18446744073709551616) / 18446744073709551616 = (P + Q) / 18446744073709551616 by omega, show (P % 18446744073709551616 + Q % 18446744073709551616) % 18446744073709551616 = (P + Q) % 18446744073709551616 by omega] at L
  generalize (P + Q) / 18446744073709551616 = RH at *
  generalize (P + Q) % 18446744073709551616 = RL at *
  generalize P / 18446744073709551616 = PH at *
  generalize P % 18446744073709551616 = PL at *
  generalize Q / 18446744073709551616 = QH at *
  generalize Q % 18446744073709551616 = QL at *
  generalize hW : (w.alloc (.cells #[.int .i64 x, .int .i64 y] 25)).alloc (.cells #[.int .u64 0, .int .u64 0] 51) = W
  have hc0 : W.cell? ⟨w.heap.size, 0, none⟩ = some (.int .i64 x) := by rw [← hW, World.cell?_alloc_lt _ _ _ (by simp), World.cell?_alloc_at _ _ _ _ rfl]; rfl
  have hc1 : W.cell? ⟨w.heap.size, 1, none⟩ = some (.int .i64 y) := by rw [← hW, World.cell?_alloc_lt _ _ _ (by simp), World.cell?_alloc_at _ _ _ _ rfl]; rfl
  have N1 := Lib.hid (fun n => quiet_of_same2 (n := n) (ref_of x (W.drewN n)))
  have N2 := Lib.hid (fun n => quiet_of_same2 (n := n) (ref_of y (W.drewN n)))
  have Z1 := Lib.hid (fun n => quiet_of_same2 (n := n) (ref_size_mag x (W.drewN n) hx))
  have Z2 := Lib.hid (fun n => quiet_of_same2 (n := n) (ref_size_mag y (W.drewN n) hy))
  generalize mag x = X at *
  generalize mag y = Y at *
  generalize nrm x = nx at *
  generalize nrm y = ny at *
  clear p0 p1 q0 q1 x0 x1 y0 y1 P Q
  go_enter Try.func59, Try.ntmps59
  go_wp2_with fail
  go_quiet (first | (go_at_call 65; with_reducible (first | exact N1.out _ | exact N2.out _)) | (go_at_call 68; with_reducible (first | exact Z1.out _ | exact Z2.out _)))
  go_wp2_with fail
  refine Calls.mono (S1.out _) ?_
  rintro e w1 ⟨rfl, hb1⟩
  go_wp2_with fail
  refine Calls.mono (S2.out _) ?_
  rintro e w2 ⟨rfl, hb2⟩
  go_wp2_with fail
  refine Calls.mono (L.out _) ?_
  rintro e w3 ⟨rfl, hb3⟩
  have hb := hb1.trans ((hb2.trans (hb3.mono hb2.size)).mono hb1.size)
  have hb' : Below W.heap.size W w3 := ⟨hb.os, hb.tape, hb.output, hb.size, hb.block⟩
  clear hb hb1 hb2 hb3 hc0 hc1
  subst hW
  obtain ⟨c0, c1, f0, f1, hbw⟩ := own2 _ _ _ _ _ hb'
  obtain ⟨s0, s1⟩ := set2 c0 c1 (.int .u64 RH) (.int .u64 RL)
  clear hb'
  go_wp2
  exact bodyPost_ret (v := .agg #[.int .u64 RH, .int .u64 RL]) (by simp [results, Try.results59, go_sem, s0, s1]) rfl ⟨rfl, (hbw.setCell (by simp) _).setCell (by simp) _⟩

theorem sq2_range {x y : Int} (hx : x ≤ 9223372036854775807) (hy : y ≤ 9223372036854775807) : 0 ≤ sq2 x y ∧ sq2 x y ≤ 170141183460469231694793815568465002498 := by
  have := sq_bound hx
  have := sq_bound hy
  unfold sq2; omega
/-- How long a way is. -/
def vlen (x y : Int) : Int := rootF (sq2 x y)
theorem vlen_range {x y : Int} (hx : x ≤ 9223372036854775807) (hy : y ≤ 9223372036854775807) : 0 ≤ vlen x y ∧ vlen x y ≤ 9223372036854775807 := rootF_range (sq2_range hx hy).1

theorem vec_len (x y : Int) (w : World) (hx : x ≤ 9223372036854775807) (hy : y ≤ 9223372036854775807) : Calls Try.prog 21 #[.agg #[.int .i64 x, .int .i64 y]] w fun e w' => e = .returned (.int .i64 (vlen x y)) ∧ Below w.heap.size w w' := by
  have S := Lib.hid (fun W => vec_square x y W hx hy)
  have hr := sq2_range hx hy
  have R := Lib.hid (fun W => fix_root (sq2 x y / 18446744073709551616) (sq2 x y % 18446744073709551616) W (by omega) (by omega))
  rw [show sq2 x y / 18446744073709551616 * 18446744073709551616 + sq2 x y % 18446744073709551616 = sq2 x y by omega] at R
  unfold vlen
  generalize rootF (sq2 x y) = L at *
  generalize sq2 x y / 18446744073709551616 = SH at *
  generalize sq2 x y % 18446744073709551616 = SL at *
  clear hr
  go_enter Try.func21, Try.ntmps21
  go_wp2_with fail
  refine Calls.mono (S.out _) ?_
  rintro e w1 ⟨rfl, hb1⟩
  go_wp2_with fail
  refine Calls.mono (R.out _) ?_
  rintro e w2 ⟨rfl, hb2⟩
  go_wp2
  go_ret
  exact ⟨rfl, ((below_one _ _).trans ((hb1.trans (hb2.mono hb1.size)).mono (by simp)))⟩
theorem ref_len (x y : Int) (w : World) (hx : x ≤ 9223372036854775807) (hy : y ≤ 9223372036854775807) : Calls Try.prog 22 #[.agg #[.int .i64 x, .int .i64 y]] w fun e w' => e = .returned (.int .i64 (vlen x y)) ∧ Below w.heap.size w w' := by
  have S := Lib.hid (fun W => ref_squares x y W hx hy)
  have hr := sq2_range hx hy
  have R := Lib.hid (fun W => ref_root (sq2 x y / 18446744073709551616) (sq2 x y % 18446744073709551616) 9223372036854775807 W (by omega) (by omega) (by omega) (by omega) (by omega))
  rw [show sq2 x y / 18446744073709551616 * 18446744073709551616 + sq2 x y % 18446744073709551616 = sq2 x y by omega] at R
  have E := Lib.hid (fun (L : Int) (h : RootM (sq2 x y) 9223372036854775807 L) => show vlen x y = L from rootF_eq (W := sq2 x y) ⟨h.1, h.2.1, h.2.2.1, h.2.2.2⟩)
  generalize vlen x y = V at *
  generalize sq2 x y / 18446744073709551616 = SH at *
  generalize sq2 x y % 18446744073709551616 = SL at *
  clear hr
  go_enter Try.func22, Try.ntmps22
  go_wp2_with fail
  refine Calls.mono (S.out _) ?_
  rintro e w1 ⟨rfl, hb1⟩
  go_wp2_with fail
  refine Calls.mono (R.out _) ?_
  rintro e w2 ⟨L, rfl, hL, hb2⟩
  have hV := E.out L hL
  obtain ⟨l0, l1, _⟩ := hL
  subst hV
  go_wp2
  go_ret
  exact ⟨rfl, ((below_one _ _).trans ((hb1.trans (hb2.mono hb1.size)).mono (by simp)))⟩
end Go.Proofs.Ytpkdkkbmmkhhhaa
