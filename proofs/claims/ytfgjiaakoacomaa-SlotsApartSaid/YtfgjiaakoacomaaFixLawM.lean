/- The page's products; what the laws of layer 1 share. -/
import Derived.Test.YtfgjiaakoacomaaSqrtM
import Derived.Test.YtfgjiaakoacomaaOpen
import Derived.Laws.Externs
import Derived.StillTailTactics
namespace Go.Proofs.Ytfgjiaakoacomaa
set_option maxRecDepth 20000
open Go.RowKit Go.WideShapes Go.ChangeShapes

theorem ref_size (A : Int) (w : World) (h0 : -9223372036854775807 ≤ A) (h1 : A ≤ 9223372036854775807) : Calls Try.prog 77 #[.int .i64 A] w fun e w' => e = .returned (.int .u64 (if A < 0 then -A else A)) ∧ w = w' := by
  by_cases h : A < 0
  · have H : Hid ((if A < 0 then -A else A) = -A) := by show _ = _; rw [if_pos h]
    generalize (if A < 0 then -A else A) = X at *
    go_enter Try.func77, Try.ntmps77
    go_wp2
    go_ret
    exact ⟨by rw [H.out]; rfl, rfl⟩
  · have H : Hid ((if A < 0 then -A else A) = A) := by show _ = _; rw [if_neg h]
    generalize (if A < 0 then -A else A) = X at *
    have h' : 0 ≤ A := by omega
    go_enter Try.func77, Try.ntmps77
    go_wp2
    go_ret
    exact ⟨by rw [H.out]; rfl, rfl⟩

def sgr (q : Int) (neg left : Bool) : Int := sg (if neg = true ∧ left = true then q + 1 else q) false neg
theorem sg_val (n : Int) (below : Bool) : (9223372036854775807 < n → sg n false below = sgn 9223372036854775807 below) ∧ (¬ 9223372036854775807 < n → sg n false below = sgn n below) := by
  refine ⟨fun h => ?_, fun h => ?_⟩
  · unfold sg; rw [if_pos (.inr h)]
  · unfold sg; rw [if_neg (by simp; omega)]

theorem fmul_ref (a b : Int) (ha : a ≤ 9223372036854775807) (hb : b ≤ 9223372036854775807) :
    fmul a b = sgr (overQ (mag a * mag b) 65536) (isNeg a != isNeg b) (decide (0 < mag a * mag b % 65536)) := by
  rw [fmul_eq a b ha hb]
  have h1 := mag_range ha
  have h2 := mag_range hb
  have hP : 0 ≤ mag a * mag b := Int.mul_nonneg h1.1 h2.1
  generalize mag a * mag b = P at *
  generalize (isNeg a != isNeg b) = s at *
  unfold sgr overQ dn
  by_cases hg : 18446744073709551616 ≤ P / 65536
  · rw [if_pos hg, (sg_val _ s).1 (by split <;> omega), (sg_val _ s).1 (by split <;> omega)]
  · rw [if_neg hg]
    cases s
    · simp
    · by_cases hr : 0 < P % 65536
      · rw [if_pos ⟨rfl, hr⟩, if_pos ⟨rfl, decide_eq_true hr⟩]
      · rw [if_neg (fun h => hr h.2), if_neg (fun h => hr (of_decide_eq_true h.2))]

theorem overQ_range {W b : Int} (h0 : 0 ≤ W) (hb : 0 < b) : 0 ≤ overQ W b ∧ overQ W b ≤ 18446744073709551615 := by
  have := Int.ediv_nonneg h0 (Int.le_of_lt hb)
  unfold overQ; split <;> omega

theorem wake_mul : (fmul 98304 98304 == 147456) = true := by decide +kernel
theorem wake_sqrt : (fsqrt 262144 == 131072) = true := by decide +kernel
/-- A slice of thronglaw1.Ask that came in. -/
def Asks1 (w : World) (A : Option Addr) (n : Nat) : Prop := ∀ i, i < n → ∃ (b o : Nat) (x y z : Int),
  A = some ⟨b, o, none⟩ ∧ b < w.heap.size ∧ w.cell? ⟨b, o + i * 3, none⟩ = some (.int .i64 x) ∧ w.cell? ⟨b, o + i * 3 + 1, none⟩ = some (.int .i64 y) ∧ w.cell? ⟨b, o + i * 3 + 2, none⟩ = some (.int .i64 z) ∧
  (-9223372036854775808 ≤ x ∧ x ≤ 9223372036854775807) ∧ (-9223372036854775808 ≤ y ∧ y ≤ 9223372036854775807) ∧ (-9223372036854775808 ≤ z ∧ z ≤ 9223372036854775807)
theorem Asks1.below {w w' : World} {A : Option Addr} {n : Nat} (h : Asks1 w A n) (hb : Below w.heap.size w w') : Asks1 w' A n := fun i hi => by
  obtain ⟨b, o, x, y, z, h1, h2, h3, h4, h5, h6⟩ := h i hi
  exact ⟨b, o, x, y, z, h1, Nat.lt_of_lt_of_le h2 hb.size, (hb.cell h2).trans h3, (hb.cell h2).trans h4, (hb.cell h2).trans h5, h6⟩
end Go.Proofs.Ytfgjiaakoacomaa
namespace Go.Proofs.Ytfgjiaakoacomaa
set_option maxRecDepth 20000
open Go.RowKit

theorem back_of {P : Program} {f : FuncId} {args : Array Value} {w : World} {v : Value} (h : Calls P f args w fun e w' => e = .returned v ∧ w = w') : Calls P f args w fun e w' => e = .returned v ∧ w' = w :=
  h.mono fun _ _ ⟨he, hw⟩ => ⟨he, hw.symm⟩
theorem below_one (w : World) (o : Obj) : Below w.heap.size w (w.alloc o) := (Below.refl _ _).alloc (Nat.le_refl _) _
theorem two_below (w : World) (x y : Obj) : Below w.heap.size w ((w.alloc x).alloc y) := ((Below.refl _ _).alloc (Nat.le_refl _) _).alloc (by simp) _

set_option maxHeartbeats 800000 in
set_option maxRecDepth 20000 in
theorem ref_plus (h1 l1 h2 l2 : Int) (w : World) (a0 : 0 ≤ h1) (a1 : h1 ≤ 4611686018427387903) (b0 : 0 ≤ l1) (b1 : l1 ≤ 18446744073709551615) (c0 : 0 ≤ h2) (c1 : h2 ≤ 4611686018427387903) (d0 : 0 ≤ l2) (d1 : l2 ≤ 18446744073709551615) :
    Calls Try.prog 78 #[.agg #[.int .u64 h1, .int .u64 l1], .agg #[.int .u64 h2, .int .u64 l2]] w fun e w' =>
      e = .returned (.agg #[.int .u64 (h1 + h2 + (l1 + l2) / 18446744073709551616), .int .u64 ((l1 + l2) % 18446744073709551616)]) ∧ Below w.heap.size w w' := by
  by_cases hc : l1 + l2 < 18446744073709551616
  · have E1 : Hid ((l1 + l2) / 18446744073709551616 = 0) := by show _ = _; omega
    have E2 : Hid ((l1 + l2) % 18446744073709551616 = l1 + l2) := by show _ = _; omega
    have e3 : (l1 + l2 < l1) = False := by simp; omega
    go_enter Try.func78, Try.ntmps78
    go_wp2
    exact bodyPost_ret (v := .agg #[.int .u64 (h1 + h2), .int .u64 (l1 + l2)]) (by simp [results, Try.results78, go_sem]) rfl ⟨by rw [E1.out, E2.out, Int.add_zero], ((two_below _ _ _).alloc (by simp; omega) _).alloc (by simp; omega) _⟩
  · have E1 : Hid ((l1 + l2) / 18446744073709551616 = 1) := by show _ = _; omega
    have E2 : Hid ((l1 + l2) % 18446744073709551616 = l1 + l2 - 18446744073709551616) := by show _ = _; omega
    have hwr : IntKind.u64.wrap (l1 + l2) = l1 + l2 - 18446744073709551616 := by rw [u64_wrap]; omega
    go_enter Try.func78, Try.ntmps78
    go_wp2
    exact bodyPost_ret (v := .agg #[.int .u64 (h1 + h2 + 1), .int .u64 (l1 + l2 - 18446744073709551616)]) (by simp [results, Try.results78, go_sem]) rfl ⟨by rw [E1.out, E2.out], ((two_below _ _ _).alloc (by simp; omega) _).alloc (by simp; omega) _⟩

theorem own2 (w : World) (o : Obj) (a b : Value) (t : TypeId) {w3 : World} (hb : Below ((w.alloc o).alloc (.cells #[a, b] t)).heap.size ((w.alloc o).alloc (.cells #[a, b] t)) w3) :
    w3.cell? ⟨w.heap.size + 1, 0, none⟩ = some a ∧ w3.cell? ⟨w.heap.size + 1, 1, none⟩ = some b ∧ w3.frozen? ⟨w.heap.size + 1, 0, none⟩ = false ∧ w3.frozen? ⟨w.heap.size + 1, 1, none⟩ = false ∧ Below w.heap.size w w3 := by
  have hlt : ∀ k, (⟨w.heap.size + 1, k, none⟩ : Addr).block < ((w.alloc o).alloc (.cells #[a, b] t)).heap.size := fun k => by simp
  refine ⟨?_, ?_, ?_, ?_, (two_below w o _).trans (hb.mono (by simp; omega))⟩
  · rw [hb.cell (hlt 0), World.cell?_alloc_at _ _ _ _ (by simp)]; rfl
  · rw [hb.cell (hlt 1), World.cell?_alloc_at _ _ _ _ (by simp)]; rfl
  · rw [hb.frozen (hlt 0)]; exact World.frozen?_alloc_at _ _ _ _ (by simp)
  · rw [hb.frozen (hlt 1)]; exact World.frozen?_alloc_at _ _ _ _ (by simp)
theorem set2 {w : World} {g : Nat} {a b : Value} (h0 : w.cell? ⟨g, 0, none⟩ = some a) (h1 : w.cell? ⟨g, 1, none⟩ = some b) (x y : Value) :
    ((w.setCell ⟨g, 0, none⟩ x).setCell ⟨g, 1, none⟩ y).cell? ⟨g, 0, none⟩ = some x ∧ ((w.setCell ⟨g, 0, none⟩ x).setCell ⟨g, 1, none⟩ y).cell? ⟨g, 1, none⟩ = some y := by
  refine ⟨?_, ?_⟩
  · rw [World.cell?_setCell_other _ _ _ _ (by simp)]
    exact World.cell?_setCell_same _ _ _ h0
  · exact World.cell?_setCell_same _ _ _ (by rw [World.cell?_setCell_other _ _ _ _ (by simp)]; exact h1)

/-- The sum of both parts' squares. -/
def sq2 (x y : Int) : Int := mag x * mag x + mag y * mag y
theorem sq_bound {x : Int} (h : x ≤ 9223372036854775807) : 0 ≤ mag x * mag x ∧ mag x * mag x ≤ 85070591730234615847396907784232501249 := by
  obtain ⟨h0, h1⟩ := mag_range h
  exact ⟨Int.mul_nonneg h0 h0, Int.le_trans (sq_le h0 h1) (by decide)⟩

theorem ref_size_mag (a : Int) (w : World) (h : a ≤ 9223372036854775807) : Calls Try.prog 77 #[.int .i64 (nrm a)] w fun e w' => e = .returned (.int .u64 (mag a)) ∧ w = w' := by
  have := nrm_range h
  exact ref_size (nrm a) w this.1 this.2

set_option maxHeartbeats 800000 in
set_option maxRecDepth 20000 in
theorem ref_squares (x y : Int) (w : World) (hx : x ≤ 9223372036854775807) (hy : y ≤ 9223372036854775807) : Calls Try.prog 65 #[.agg #[.int .i64 x, .int .i64 y]] w fun e w' =>
    e = .returned (.agg #[.int .u64 (sq2 x y / 18446744073709551616), .int .u64 (sq2 x y % 18446744073709551616)]) ∧ Below w.heap.size w w' := by
  obtain ⟨x0, x1⟩ := mag_range hx
  obtain ⟨y0, y1⟩ := mag_range hy
  have S1 := Lib.hid (fun W => ref_times (mag x) (mag x) W x0 (by omega) x0 (by omega))
  have S2 := Lib.hid (fun W => ref_times (mag y) (mag y) W y0 (by omega) y0 (by omega))
  obtain ⟨p0, p1⟩ := sq_bound hx
  obtain ⟨q0, q1⟩ := sq_bound hy
  unfold sq2
  generalize mag x * mag x = P at *
  generalize mag y * mag y = Q at *
  have L := Lib.hid (fun W => ref_plus (P / 18446744073709551616) (P % 18446744073709551616) (Q / 18446744073709551616) (Q % 18446744073709551616) W (by omega) (by omega) (by omega) (by omega) (by omega) (by omega) (by omega) (by omega))
  rw [show P / 18446744073709551616 + Q / 18446744073709551616 + (P % 18446744073709551616 + Q % 18446744073709551616) / 18446744073709551616 = (P + Q) / 18446744073709551616 by omega, show (P % 18446744073709551616 + Q % 18446744073709551616) % 18446744073709551616 = (P + Q) % 18446744073709551616 by omega] at L
  generalize (P + Q) / 18446744073709551616 = RH at *
  generalize (P + Q) % 18446744073709551616 = RL at *
  generalize P / 18446744073709551616 = PH at *
  generalize P % 18446744073709551616 = PL at *
  generalize Q / 18446744073709551616 = QH at *
  generalize Q % 18446744073709551616 = QL at *
  generalize hW : (w.alloc (.cells #[.int .i64 x, .int .i64 y] 62)).alloc (.cells #[.int .u64 0, .int .u64 0] 89) = W
  have hc0 : W.cell? ⟨w.heap.size, 0, none⟩ = some (.int .i64 x) := by rw [← hW, World.cell?_alloc_lt _ _ _ (by simp), World.cell?_alloc_at _ _ _ _ rfl]; rfl
  have hc1 : W.cell? ⟨w.heap.size, 1, none⟩ = some (.int .i64 y) := by rw [← hW, World.cell?_alloc_lt _ _ _ (by simp), World.cell?_alloc_at _ _ _ _ rfl]; rfl
  have N1 := Lib.hid (fun n => quiet_of_same2 (n := n) (ref_of x (W.drewN n)))
  have N2 := Lib.hid (fun n => quiet_of_same2 (n := n) (ref_of y (W.drewN n)))
  have Z1 := Lib.hid (fun n => quiet_of_same2 (n := n) (ref_size_mag x (W.drewN n) hx))
  have Z2 := Lib.hid (fun n => quiet_of_same2 (n := n) (ref_size_mag y (W.drewN n) hy))
  generalize mag x = X at *
  generalize mag y = Y at *
  generalize nrm x = nx at *
  generalize nrm y = ny at *
  clear p0 p1 q0 q1 x0 x1 y0 y1 P Q
  go_enter Try.func65, Try.ntmps65
  go_wp2_with fail
  go_quiet (first | (go_at_call 63; with_reducible (first | exact N1.out _ | exact N2.out _)) | (go_at_call 77; with_reducible (first | exact Z1.out _ | exact Z2.out _)))
  go_wp2_with fail
  refine Calls.mono (S1.out _) ?_
  rintro e w1 ⟨rfl, hb1⟩
  go_wp2_with fail
  refine Calls.mono (S2.out _) ?_
  rintro e w2 ⟨rfl, hb2⟩
  go_wp2_with fail
  refine Calls.mono (L.out _) ?_
  rintro e w3 ⟨rfl, hb3⟩
  have hb := hb1.trans ((hb2.trans (hb3.mono hb2.size)).mono hb1.size)
  have hb' : Below W.heap.size W w3 := ⟨hb.os, hb.tape, hb.output, hb.size, hb.block⟩
  clear hb hb1 hb2 hb3 hc0 hc1
  subst hW
  obtain ⟨c0, c1, f0, f1, hbw⟩ := own2 _ _ _ _ _ hb'
  obtain ⟨s0, s1⟩ := set2 c0 c1 (.int .u64 RH) (.int .u64 RL)
  clear hb'
  go_wp2
  exact bodyPost_ret (v := .agg #[.int .u64 RH, .int .u64 RL]) (by simp [results, Try.results65, go_sem, s0, s1]) rfl ⟨rfl, (hbw.setCell (by simp) _).setCell (by simp) _⟩

theorem sq2_range {x y : Int} (hx : x ≤ 9223372036854775807) (hy : y ≤ 9223372036854775807) : 0 ≤ sq2 x y ∧ sq2 x y ≤ 170141183460469231694793815568465002498 := by
  have := sq_bound hx
  have := sq_bound hy
  unfold sq2; omega
/-- How long a way is. -/
def vlen (x y : Int) : Int := rootF (sq2 x y)
theorem vlen_range {x y : Int} (hx : x ≤ 9223372036854775807) (hy : y ≤ 9223372036854775807) : 0 ≤ vlen x y ∧ vlen x y ≤ 9223372036854775807 := rootF_range (sq2_range hx hy).1

end Go.Proofs.Ytfgjiaakoacomaa
namespace Go.Proofs.Ytfgjiaakoacomaa
set_option maxRecDepth 20000
open Go.RowKit

set_option maxHeartbeats 800000 in
theorem ref_vsub (x y p q : Int) (w : World) (hx : x ≤ 9223372036854775807) (hy : y ≤ 9223372036854775807) (hp : p ≤ 9223372036854775807) (hq : q ≤ 9223372036854775807) : Calls Try.prog 66 #[.agg #[.int .i64 x, .int .i64 y], .agg #[.int .i64 p, .int .i64 q]] w fun e w' => e = .returned (.agg #[.int .i64 (fsub x p), .int .i64 (fsub y q)]) ∧ Below w.heap.size w w' := by
  have N1 := Lib.hid (fun W => back_of (ref_sub x p W hx hp))
  have N2 := Lib.hid (fun W => back_of (ref_sub y q W hy hq))
  generalize fsub x p = X at *
  generalize fsub y q = Y at *
  go_enter Try.func66, Try.ntmps66
  go_wp2_with fail
  generalize hW : ((w.alloc (.cells #[.int .i64 x, .int .i64 y] 62)).alloc (.cells #[.int .i64 p, .int .i64 q] 62)).alloc _ = W
  have hc0 : W.cell? ⟨w.heap.size, 0, none⟩ = some (.int .i64 x) := by rw [← hW, World.cell?_alloc_lt _ _ _ (by simp; omega), World.cell?_alloc_lt _ _ _ (by simp), World.cell?_alloc_at _ _ _ _ rfl]; rfl
  have hc1 : W.cell? ⟨w.heap.size, 1, none⟩ = some (.int .i64 y) := by rw [← hW, World.cell?_alloc_lt _ _ _ (by simp; omega), World.cell?_alloc_lt _ _ _ (by simp), World.cell?_alloc_at _ _ _ _ rfl]; rfl
  have hc2 : W.cell? ⟨w.heap.size + 1, 0, none⟩ = some (.int .i64 p) := by rw [← hW, World.cell?_alloc_lt _ _ _ (by simp), World.cell?_alloc_at _ _ _ _ (by simp)]; rfl
  have hc3 : W.cell? ⟨w.heap.size + 1, 1, none⟩ = some (.int .i64 q) := by rw [← hW, World.cell?_alloc_lt _ _ _ (by simp), World.cell?_alloc_at _ _ _ _ (by simp)]; rfl
  refine wp_region_still_tail 11 (by kernel_rfl) (by kernel_rfl) ?_
  simp only [List.take_succ_cons, List.take_zero, List.drop_succ_cons, List.drop_zero]
  repeat still_step
  still_call (N1.out _)
  repeat still_step
  still_call (N2.out _)
  repeat still_step
  refine wpStill_nil ?_
  change wpList _ _ _ _ _ W.drew
  subst hW
  go_wp2
  exact bodyPost_ret (v := .agg #[.int .i64 X, .int .i64 Y]) (by simp [results, Try.results66, go_sem]) rfl ⟨rfl, ((two_below _ _ _).alloc (by simp; omega) _).drew⟩

end Go.Proofs.Ytfgjiaakoacomaa
namespace Go.Proofs.Ytfgjiaakoacomaa
set_option maxRecDepth 20000
open Go.RowKit Go.WideShapes Go.ChangeShapes

/-- A slice of thronglaw2.Ask that came in. -/
def Asks2 (w : World) (A : Option Addr) (n : Nat) : Prop := ∀ i, i < n → ∃ (b o : Nat) (x y p q k : Int),
  A = some ⟨b, o, none⟩ ∧ b < w.heap.size ∧ w.cell? ⟨b, o + i * 5, none⟩ = some (.int .i64 x) ∧ w.cell? ⟨b, o + i * 5 + 1, none⟩ = some (.int .i64 y) ∧ w.cell? ⟨b, o + i * 5 + 2, none⟩ = some (.int .i64 p) ∧ w.cell? ⟨b, o + i * 5 + 3, none⟩ = some (.int .i64 q) ∧ w.cell? ⟨b, o + i * 5 + 4, none⟩ = some (.int .i64 k) ∧
  (-9223372036854775808 ≤ x ∧ x ≤ 9223372036854775807) ∧ (-9223372036854775808 ≤ y ∧ y ≤ 9223372036854775807) ∧ (-9223372036854775808 ≤ p ∧ p ≤ 9223372036854775807) ∧ (-9223372036854775808 ≤ q ∧ q ≤ 9223372036854775807) ∧ (-9223372036854775808 ≤ k ∧ k ≤ 9223372036854775807)
theorem Asks2.below {w w' : World} {A : Option Addr} {n : Nat} (h : Asks2 w A n) (hb : Below w.heap.size w w') : Asks2 w' A n := fun i hi => by
  obtain ⟨b, o, x, y, p, q, k, h1, h2, h3, h4, h5, h6, h7, h8⟩ := h i hi
  exact ⟨b, o, x, y, p, q, k, h1, Nat.lt_of_lt_of_le h2 hb.size, (hb.cell h2).trans h3, (hb.cell h2).trans h4, (hb.cell h2).trans h5, (hb.cell h2).trans h6, (hb.cell h2).trans h7, h8⟩
theorem wake_len : vlen 196608 262144 = 327680 := by decide +kernel
end Go.Proofs.Ytfgjiaakoacomaa
namespace Go.Proofs.Ytfgjiaakoacomaa
set_option maxRecDepth 20000
open Go.RowKit

/-- Whether two places are nearer than r. -/
def vwithin (x y p q r : Int) : Bool := decide (0 < r ∧ sq2 (fsub x p) (fsub y q) < r * r)
theorem fsub_range (x p : Int) : -9223372036854775807 ≤ fsub x p ∧ fsub x p ≤ 9223372036854775807 := fadd_range _ _
theorem sq_below {r : Int} (h0 : 0 ≤ r) (h1 : r ≤ 9223372036854775807) : 0 ≤ r * r ∧ r * r ≤ 85070591730234615847396907784232501249 :=
  ⟨Int.mul_nonneg h0 h0, Int.le_trans (sq_le h0 h1) (by decide)⟩
theorem less_split {S R : Int} : lessW (S / 18446744073709551616) (S % 18446744073709551616) (R / 18446744073709551616) (R % 18446744073709551616) = decide (S < R) := by
  rw [lessW_eq (by omega) (by omega) (by omega) (by omega), show S / 18446744073709551616 * 18446744073709551616 + S % 18446744073709551616 = S by omega, show R / 18446744073709551616 * 18446744073709551616 + R % 18446744073709551616 = R by omega]

set_option maxHeartbeats 800000 in
theorem ref_within (x y p q r : Int) (w : World) (hx : x ≤ 9223372036854775807) (hy : y ≤ 9223372036854775807) (hp : p ≤ 9223372036854775807) (hq : q ≤ 9223372036854775807) (hr : r ≤ 9223372036854775807) :
    Calls Try.prog 49 #[.agg #[.int .i64 x, .int .i64 y], .agg #[.int .i64 p, .int .i64 q], .int .i64 r] w fun e w' => e = .returned (.bool (vwithin x y p q r)) ∧ Below w.heap.size w w' := by
  have N0 := Lib.hid (fun W => ref_of r W)
  by_cases h0 : r < 0
  · have HV : Hid (vwithin x y p q r = false) := decide_eq_false (by omega)
    have hn : nrm r < 0 := by unfold nrm; split <;> omega
    generalize vwithin x y p q r = V at *
    generalize nrm r = R at *
    go_enter Try.func49, Try.ntmps49
    go_wp2_with fail
    refine Calls.mono (N0.out _) ?_
    rintro e w1 ⟨rfl, rfl⟩
    go_wp2
    go_ret
    exact ⟨by rw [HV.out]; rfl, two_below _ _ _⟩
  · have h1 : 0 ≤ r := by omega
    have hS : 0 ≤ sq2 (fsub x p) (fsub y q) := (sq2_range (fsub_range x p).2 (fsub_range y q).2).1
    have HV : Hid (vwithin x y p q r = lessW (sq2 (fsub x p) (fsub y q) / 18446744073709551616) (sq2 (fsub x p) (fsub y q) % 18446744073709551616) (r * r / 18446744073709551616) (r * r % 18446744073709551616)) := by
      show _ = _
      rw [less_split]; unfold vwithin
      refine decide_eq_decide.2 ⟨fun h => h.2, fun h => ⟨?_, h⟩⟩
      by_cases hz : r = 0
      · subst hz; omega
      · omega
    rw [nrm_id (by omega)] at N0
    have S1 := Lib.hid (fun W => ref_vsub x y p q W hx hy hp hq)
    have S2 := Lib.hid (fun W => ref_squares (fsub x p) (fsub y q) W (fsub_range x p).2 (fsub_range y q).2)
    have S3 := Lib.hid (fun W => ref_times r r W (by omega) (by omega) (by omega) (by omega))
    generalize vwithin x y p q r = V at *
    generalize sq2 (fsub x p) (fsub y q) / 18446744073709551616 = SH at *
    generalize sq2 (fsub x p) (fsub y q) % 18446744073709551616 = SL at *
    generalize r * r / 18446744073709551616 = RH at *
    generalize r * r % 18446744073709551616 = RL at *
    have S4 := Lib.hid (fun W => ref_less SH SL RH RL W)
    generalize lessW SH SL RH RL = LW at *
    clear hS
    generalize fsub x p = a at *
    generalize fsub y q = b at *
    clear h0
    go_enter Try.func49, Try.ntmps49
    go_wp2_with fail
    refine Calls.mono (N0.out _) ?_
    rintro e w1 ⟨rfl, rfl⟩
    go_wp2_with fail
    refine Calls.mono (S1.out _) ?_
    rintro e w1 ⟨rfl, hb1⟩
    go_wp2_with fail
    refine Calls.mono (S2.out _) ?_
    rintro e w2 ⟨rfl, hb2⟩
    go_wp2_with fail
    refine Calls.mono (S3.out _) ?_
    rintro e w3 ⟨rfl, hb3⟩
    go_wp2_with fail
    refine Calls.mono (S4.out _) ?_
    rintro e w4 ⟨rfl, hb4⟩
    go_wp2
    go_ret
    have z1 := hb1.size
    have z2 := hb2.size
    have z3 := hb3.size
    have hb := hb1.trans ((hb2.trans ((hb3.trans (hb4.mono z3)).mono z2)).mono z1)
    exact ⟨by rw [HV.out]; rfl, (two_below _ _ _).trans (hb.mono (by simp; omega))⟩
theorem vwithin_no (x y p q : Int) : vwithin x y p q 0 = false := decide_eq_false (by omega)
theorem fsub_self {x : Int} (hx : x ≤ 9223372036854775807) : fsub x x = 0 := by
  have := nrm_range hx
  unfold fsub fneg fadd
  rw [nrm_id (a := -(nrm x)) (by omega), show nrm x + -(nrm x) = 0 by omega]
  rfl
theorem vwithin_yes {x y : Int} (hx : x ≤ 9223372036854775807) (hy : y ≤ 9223372036854775807) : vwithin x y x y 1 = true := decide_eq_true (by
  rw [fsub_self hx, fsub_self hy]
  exact ⟨by omega, by decide⟩)
end Go.Proofs.Ytfgjiaakoacomaa
