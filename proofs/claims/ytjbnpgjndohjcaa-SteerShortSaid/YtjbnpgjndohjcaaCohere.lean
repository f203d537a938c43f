/- What draws to the middle of all: the code's answer and the page's. -/
import Derived.Test.YtjbnpgjndohjcaaSteer
import Derived.Test.YtjbnpgjndohjcaaQuietTail
namespace Go.Proofs.Ytjbnpgjndohjcaa
set_option maxRecDepth 20000
set_option maxRecDepth 20000
open Go.RowKit

/-- The sum of places. -/
def sumV (l : List (Int × Int)) : Int × Int := l.foldl (fun v z => (fadd v.1 z.1, fadd v.2 z.2)) (0, 0)
theorem sumV_step {l : List (Int × Int)} {k : Nat} (h : k < l.length) : sumV (l.take (k + 1)) = (fadd (sumV (l.take k)).1 (l.getD k (0, 0)).1, fadd (sumV (l.take k)).2 (l.getD k (0, 0)).2) := by
  unfold sumV
  rw [List.take_succ_eq_append_getElem h, List.foldl_append]
  simp [List.getD, h]
theorem sumV_range : ∀ l : List (Int × Int), (-9223372036854775807 ≤ (sumV l).1 ∧ (sumV l).1 ≤ 9223372036854775807) ∧ (-9223372036854775807 ≤ (sumV l).2 ∧ (sumV l).2 ≤ 9223372036854775807) := fun l => by
  rcases List.eq_nil_or_concat l with rfl | ⟨m, z, rfl⟩
  · exact ⟨by decide, by decide⟩
  · unfold sumV
    rw [List.concat_eq_append, List.foldl_append]
    exact ⟨fadd_range _ _, fadd_range _ _⟩
theorem tdiv_range {s n : Int} (h0 : -9223372036854775807 ≤ s) (h1 : s ≤ 9223372036854775807) (hn : 1 ≤ n) : -9223372036854775807 ≤ s.tdiv n ∧ s.tdiv n ≤ 9223372036854775807 := by
  by_cases hs : 0 ≤ s
  · rw [Int.tdiv_eq_ediv_of_nonneg hs]
    have := Int.ediv_nonneg hs (show 0 ≤ n by omega)
    have := Int.ediv_le_self n hs
    omega
  · have e : s.tdiv n = -((-s).tdiv n) := by rw [Int.neg_tdiv, Int.neg_neg]
    rw [e, Int.tdiv_eq_ediv_of_nonneg (by omega)]
    have := Int.ediv_nonneg (show 0 ≤ -s by omega) (show 0 ≤ n by omega)
    have := Int.ediv_le_self n (show 0 ≤ -s by omega)
    omega
/-- What draws to the middle of all. -/
def cohV (x y : Int) (l : List (Int × Int)) (n k : Int) : Int × Int := if n = 0 then (0, 0) else towV x y ((sumV l).1.tdiv n) ((sumV l).2.tdiv n) k
/-- A place's box, its cells as they are, behind calls. -/
def BoxQ (g : Nat) (a b : Int) (w : World) : Prop := w.cell? ⟨g, 0, none⟩ = some (.int .i64 a) ∧ w.cell? ⟨g, 1, none⟩ = some (.int .i64 b) ∧ (∀ j, w.frozen? ⟨g, j, none⟩ = false) ∧ g < w.heap.size
theorem BoxQ.next {g : Nat} {a b : Int} {wa wb : World} (h : BoxQ g a b wa) (hb : Below wa.heap.size wa wb) : BoxQ g a b wb := keepq h hb
theorem BoxQ.other {g h : Nat} {x y : Int} {a b : Value} {wa : World} (s : BoxQ g x y wa) (hne : g ≠ h) : BoxQ g x y ((wa.setCell ⟨h, 0, none⟩ a).setCell ⟨h, 1, none⟩ b) := otherq s hne
theorem BoxQ.store {g : Nat} {x y a b : Int} {wa : World} (h : BoxQ g x y wa) : BoxQ g a b ((wa.setCell ⟨g, 0, none⟩ (.int .i64 a)).setCell ⟨g, 1, none⟩ (.int .i64 b)) := storeq h
theorem BoxQ.start (w : World) (a b : Int) : BoxQ w.heap.size a b (w.alloc (.cells #[.int .i64 a, .int .i64 b] 35)) := startq w _ a b

set_option maxHeartbeats 1600000 in
theorem steer_cohere (x y m : Int) (A : Option Addr) (n c : Nat) (l : List (Int × Int)) (w : World) (hv : VecsL w A n l) (hx : x ≤ 9223372036854775807) (hy : y ≤ 9223372036854775807) (hm : m ≤ 9223372036854775807) (hn : n ≤ 1000) :
    Calls Try.prog 28 #[.agg #[.int .i64 x, .int .i64 y], .slice A n c, .int .i64 m] w fun e w' => e = .returned (.agg #[.int .i64 (cohV x y l (n : Int) m).1, .int .i64 (cohV x y l (n : Int) m).2]) ∧ Below w.heap.size w w' := by
  have hll := hv.1
  by_cases hz : n = 0
  · subst hz
    have HR : Hid (cohV x y l ((0 : Nat) : Int) m = (0, 0)) := by show _ = _; unfold cohV; rw [if_pos (by omega)]
    go_enter Try.func28, Try.ntmps28
    go_wp2
    exact bodyPost_ret (v := .agg #[.int .i64 0, .int .i64 0]) (by simp [results, Try.results28, go_sem]) rfl ⟨by rw [HR.out], two_below _ _ _⟩
  · have hn1 : (1 : Int) ≤ (n : Int) := by omega
    have HR : Hid (cohV x y l (n : Int) m = towV x y ((sumV l).1.tdiv (n : Int)) ((sumV l).2.tdiv (n : Int)) m) := by show _ = _; unfold cohV; rw [if_neg (by omega)]
    have hd1 : ((n : Int) == 0) = false := by rw [beq_eq_false_iff_ne]; omega
    have Qp := (((BoxQ.start w x y).next ((Below.refl _ _).alloc (Nat.le_refl _) (.cells #[.int .i64 0, .int .i64 0] 35))).next ((Below.refl _ _).alloc (Nat.le_refl _) (.cells #[.int .i64 0, .int .i64 0] 35)))
    have Q6 := (BoxQ.start (w.alloc (.cells #[.int .i64 x, .int .i64 y] 35)) 0 0).next ((Below.refl _ _).alloc (Nat.le_refl _) (.cells #[.int .i64 0, .int .i64 0] 35))
    have Q7 := BoxQ.start ((w.alloc (.cells #[.int .i64 x, .int .i64 y] 35)).alloc (.cells #[.int .i64 0, .int .i64 0] 35)) 0 0
    have hbl : Below w.heap.size w (((w.alloc (.cells #[.int .i64 x, .int .i64 y] 35)).alloc (.cells #[.int .i64 0, .int .i64 0] 35)).alloc (.cells #[.int .i64 0, .int .i64 0] 35)) := (((Below.refl _ _).alloc (Nat.le_refl _) _).alloc (by simp) _).alloc (by simp; omega) _
    rw [show (w.alloc (.cells #[.int .i64 x, .int .i64 y] 35)).heap.size = w.heap.size + 1 by simp] at Q6
    rw [show ((w.alloc (.cells #[.int .i64 x, .int .i64 y] 35)).alloc (.cells #[.int .i64 0, .int .i64 0] 35)).heap.size = w.heap.size + 2 by simp] at Q7
    go_enter Try.func28, Try.ntmps28
    go_wp2_with fail
    generalize ((w.alloc (.cells #[.int .i64 x, .int .i64 y] 35)).alloc (.cells #[.int .i64 0, .int .i64 0] 35)).alloc (.cells #[.int .i64 0, .int .i64 0] 35) = X at *
    go_loopw [17] (fun i wr => ∃ (k : Nat), k ≤ n ∧ i = .int .i64 k ∧ BoxQ w.heap.size x y wr ∧ BoxQ (w.heap.size + 1) 0 0 wr ∧ BoxQ (w.heap.size + 2) (sumV (l.take k)).1 (sumV (l.take k)).2 wr ∧ Below w.heap.size w wr) (fun i _ => n - (intOf i).toNat)
    case atStart => exact ⟨0, Nat.zero_le _, rfl, Qp, Q6, Q7, hbl⟩
    case round =>
      clear Qp Q6 Q7 hbl
      obtain ⟨k, hk, rfl, Qp, Q6, Q7, hbl⟩ := hrel
      by_cases hlt : k < n
      · obtain ⟨b, o, rfl, hb, hc1, hc2, ⟨z0, z1⟩, ⟨z2, z3⟩⟩ := hv.2 k hlt
        have hc1 := (hbl.cell (p := ⟨b, o + k * 2, none⟩) hb).trans hc1
        have hc2 := (hbl.cell (p := ⟨b, o + k * 2 + 1, none⟩) hb).trans hc2
        have hbr : b < wr.heap.size := Nat.lt_of_lt_of_le hb hbl.size
        have HS := Lib.hid (sumV_step (l := l) (k := k) (by omega))
        obtain ⟨⟨s0, s1⟩, ⟨s2, s3⟩⟩ := sumV_range (l.take k)
        generalize (l.getD k (0, 0)).1 = zx at *
        generalize (l.getD k (0, 0)).2 = zy at *
        generalize (sumV (l.take k)).1 = sx at *
        generalize (sumV (l.take k)).2 = sy at *
        have AD := Lib.hid (fun W => vec_add sx sy zx zy W s1 s3 z1 z3)
        generalize fadd sx zx = tx at *
        generalize fadd sy zy = ty at *
        have ki : (k : Int) < (n : Int) := by omega
        have ki0 : (0 : Int) ≤ (k : Int) := by omega
        have QA := Qp.next ((Below.refl _ _).alloc (Nat.le_refl _) (.cells #[.int .i64 zx, .int .i64 zy] 35))
        have QB := Q6.next ((Below.refl _ _).alloc (Nat.le_refl _) (.cells #[.int .i64 zx, .int .i64 zy] 35))
        have QC := Q7.next ((Below.refl _ _).alloc (Nat.le_refl _) (.cells #[.int .i64 zx, .int .i64 zy] 35))
        have BA := hbl.alloc hbl.size (.cells #[.int .i64 zx, .int .i64 zy] 35)
        obtain ⟨q0, q1, q2, q3⟩ := id QC
        go_wp2_with fail
        refine Calls.mono (AD.out _) ?_
        rintro e w2 ⟨rfl, hb2⟩
        have QA2 := QA.next hb2
        have QB2 := QB.next hb2
        have QC2 := QC.next hb2
        have BC := BA.trans (hb2.mono BA.size)
        clear q0 q1 q2 q3
        obtain ⟨q0, q1, q2, q3⟩ := id QC2
        go_wp2
        go_roundw
        case rel => exact ⟨k + 1, by omega, by go_num, QA2.other (by omega), QB2.other (by omega), by rw [HS.out]; exact QC2.store, (BC.setCell (by show w.heap.size ≤ w.heap.size + 2; omega) _).setCell (by show w.heap.size ≤ w.heap.size + 2; omega) _⟩
        case measure => simp [intOf]; omega
      · obtain rfl : k = n := by omega
        rw [List.take_of_length_le (by omega)] at Q7
        obtain ⟨⟨s0, s1⟩, ⟨s2, s3⟩⟩ := sumV_range l
        obtain ⟨d0, d1⟩ := tdiv_range s0 s1 hn1
        obtain ⟨d2, d3⟩ := tdiv_range s2 s3 hn1
        generalize (sumV l).1 = sx at *
        generalize (sumV l).2 = sy at *
        have T := fun W => steer_toward x y (sx.tdiv (k : Int)) (sy.tdiv (k : Int)) m W hx hy d1 d3 hm
        have hn0 : ¬ (k : Int) = 0 := by omega
        have e1 : IntKind.i64.wrap (sx.tdiv (k : Int)) = sx.tdiv (k : Int) := IntWalk.i64_in _ (by omega)
        have e2 : IntKind.i64.wrap (sy.tdiv (k : Int)) = sy.tdiv (k : Int) := IntWalk.i64_in _ (by omega)
        have e3 : wrap64 (sx.tdiv (k : Int)) = sx.tdiv (k : Int) := IntWalk.wrap64_in _ (by omega)
        have e4 : wrap64 (sy.tdiv (k : Int)) = sy.tdiv (k : Int) := IntWalk.wrap64_in _ (by omega)
        generalize towV x y (sx.tdiv (k : Int)) (sy.tdiv (k : Int)) m = R at *
        obtain ⟨r1, r2⟩ := R
        simp only at T
        have T := Lib.hid (fun u => calls_over (x := u) (T (over wr u)))
        obtain ⟨p0, p1, p2, p3⟩ := id Qp
        obtain ⟨q0, q1, q2, q3⟩ := id Q7
        go_wp2_with fail
        refine wp_region_over_tail 12 (by kernel_rfl) (by kernel_rfl) ?_
        simp only [List.take_succ_cons, List.take_zero, List.drop_succ_cons, List.drop_zero]
        repeat (go_big_quiet_step (first | (go_at_call 24; (try simp only [e3, e4]); with_reducible exact T.out _)))
        refine wpQuiet_nil ?_
        rintro wq ⟨xq, rfl⟩
        have hq := over_below wr xq
        generalize over wr xq = wq at *
        have QB2 := Q6.next hq
        have BC := hbl.trans (hq.mono hbl.size)
        clear p0 p1 p2 p3 q0 q1 q2 q3
        obtain ⟨q0, q1, q2, q3⟩ := id QB2
        obtain ⟨y0, y1, _, _⟩ := id (BoxQ.store (a := r1) (b := r2) QB2)
        go_wp2
        exact bodyPost_ret (v := .agg #[.int .i64 r1, .int .i64 r2]) (by simp [results, Try.results28, go_sem, y0, y1]) rfl ⟨by rw [HR.out], (BC.setCell (by show w.heap.size ≤ w.heap.size + 1; omega) _).setCell (by show w.heap.size ≤ w.heap.size + 1; omega) _⟩

set_option maxHeartbeats 1600000 in
theorem ref_cohere (x y m : Int) (A : Option Addr) (n c : Nat) (l : List (Int × Int)) (w : World) (hv : VecsL w A n l) (hx : x ≤ 9223372036854775807) (hy : y ≤ 9223372036854775807) (hm : m ≤ 9223372036854775807) (hn : n ≤ 1000) :
    Calls Try.prog 29 #[.agg #[.int .i64 x, .int .i64 y], .slice A n c, .int .i64 m] w fun e w' => e = .returned (.agg #[.int .i64 (cohV x y l (n : Int) m).1, .int .i64 (cohV x y l (n : Int) m).2]) ∧ Below w.heap.size w w' := by
  have hll := hv.1
  by_cases hz : n = 0
  · subst hz
    have HR : Hid (cohV x y l ((0 : Nat) : Int) m = (0, 0)) := by show _ = _; unfold cohV; rw [if_pos (by omega)]
    go_enter Try.func29, Try.ntmps29
    go_wp2
    exact bodyPost_ret (v := .agg #[.int .i64 0, .int .i64 0]) (by simp [results, Try.results29, go_sem]) rfl ⟨by rw [HR.out], two_below _ _ _⟩
  · have hn1 : (1 : Int) ≤ (n : Int) := by omega
    have HR : Hid (cohV x y l (n : Int) m = towV x y ((sumV l).1.tdiv (n : Int)) ((sumV l).2.tdiv (n : Int)) m) := by show _ = _; unfold cohV; rw [if_neg (by omega)]
    have hd1 : ((n : Int) == 0) = false := by rw [beq_eq_false_iff_ne]; omega
    have Qp := (((BoxQ.start w x y).next ((Below.refl _ _).alloc (Nat.le_refl _) (.cells #[.int .i64 0, .int .i64 0] 35))).next ((Below.refl _ _).alloc (Nat.le_refl _) (.cells #[.int .i64 0, .int .i64 0] 35)))
    have Q6 := (BoxQ.start (w.alloc (.cells #[.int .i64 x, .int .i64 y] 35)) 0 0).next ((Below.refl _ _).alloc (Nat.le_refl _) (.cells #[.int .i64 0, .int .i64 0] 35))
    have Q7 := BoxQ.start ((w.alloc (.cells #[.int .i64 x, .int .i64 y] 35)).alloc (.cells #[.int .i64 0, .int .i64 0] 35)) 0 0
    have hbl : Below w.heap.size w (((w.alloc (.cells #[.int .i64 x, .int .i64 y] 35)).alloc (.cells #[.int .i64 0, .int .i64 0] 35)).alloc (.cells #[.int .i64 0, .int .i64 0] 35)) := (((Below.refl _ _).alloc (Nat.le_refl _) _).alloc (by simp) _).alloc (by simp; omega) _
    rw [show (w.alloc (.cells #[.int .i64 x, .int .i64 y] 35)).heap.size = w.heap.size + 1 by simp] at Q6
    rw [show ((w.alloc (.cells #[.int .i64 x, .int .i64 y] 35)).alloc (.cells #[.int .i64 0, .int .i64 0] 35)).heap.size = w.heap.size + 2 by simp] at Q7
    go_enter Try.func29, Try.ntmps29
    go_wp2_with fail
    generalize ((w.alloc (.cells #[.int .i64 x, .int .i64 y] 35)).alloc (.cells #[.int .i64 0, .int .i64 0] 35)).alloc (.cells #[.int .i64 0, .int .i64 0] 35) = X at *
    go_loopw [8] (fun i wr => ∃ (k : Nat), k ≤ n ∧ i = .int .i64 k ∧ BoxQ w.heap.size x y wr ∧ BoxQ (w.heap.size + 1) 0 0 wr ∧ BoxQ (w.heap.size + 2) (sumV (l.take k)).1 (sumV (l.take k)).2 wr ∧ Below w.heap.size w wr) (fun i _ => n - (intOf i).toNat)
    case atStart => exact ⟨0, Nat.zero_le _, rfl, Qp, Q6, Q7, hbl⟩
    case round =>
      clear Qp Q6 Q7 hbl
      obtain ⟨k, hk, rfl, Qp, Q6, Q7, hbl⟩ := hrel
      by_cases hlt : k < n
      · obtain ⟨b, o, rfl, hb, hc1, hc2, ⟨z0, z1⟩, ⟨z2, z3⟩⟩ := hv.2 k hlt
        have hc1 := (hbl.cell (p := ⟨b, o + k * 2, none⟩) hb).trans hc1
        have hc2 := (hbl.cell (p := ⟨b, o + k * 2 + 1, none⟩) hb).trans hc2
        have hbr : b < wr.heap.size := Nat.lt_of_lt_of_le hb hbl.size
        have HS := Lib.hid (sumV_step (l := l) (k := k) (by omega))
        obtain ⟨⟨s0, s1⟩, ⟨s2, s3⟩⟩ := sumV_range (l.take k)
        generalize (l.getD k (0, 0)).1 = zx at *
        generalize (l.getD k (0, 0)).2 = zy at *
        generalize (sumV (l.take k)).1 = sx at *
        generalize (sumV (l.take k)).2 = sy at *
        have AD := Lib.hid (fun W => ref_vadd sx sy zx zy W s1 s3 z1 z3)
        generalize fadd sx zx = tx at *
        generalize fadd sy zy = ty at *
        have ki : (k : Int) < (n : Int) := by omega
        have ki0 : (0 : Int) ≤ (k : Int) := by omega
        obtain ⟨q0, q1, q2, q3⟩ := id Q7
        have AD := Lib.hid (fun u => calls_over (x := u) (AD.out (over wr u)))
        go_wp2_with fail
        refine wp_region_over_tail 6 (by kernel_rfl) (by kernel_rfl) ?_
        simp only [List.take_succ_cons, List.take_zero, List.drop_succ_cons, List.drop_zero]
        repeat (go_big_quiet_step (first | (go_at_call 60; with_reducible exact AD.out _)))
        refine wpQuiet_nil ?_
        rintro wq ⟨xq, rfl⟩
        have hq := over_below wr xq
        generalize over wr xq = wq at *
        have QA2 := Qp.next hq
        have QB2 := Q6.next hq
        have QC2 := Q7.next hq
        have BC := hbl.trans (hq.mono hbl.size)
        clear q0 q1 q2 q3 hc1 hc2
        obtain ⟨q0, q1, q2, q3⟩ := id QC2
        go_wp2
        go_roundw
        case rel => exact ⟨k + 1, by omega, by go_num, QA2.other (by omega), QB2.other (by omega), by rw [HS.out]; exact QC2.store, (BC.setCell (by show w.heap.size ≤ w.heap.size + 2; omega) _).setCell (by show w.heap.size ≤ w.heap.size + 2; omega) _⟩
        case measure => simp [intOf]; omega
      · obtain rfl : k = n := by omega
        rw [List.take_of_length_le (by omega)] at Q7
        obtain ⟨⟨s0, s1⟩, ⟨s2, s3⟩⟩ := sumV_range l
        obtain ⟨d0, d1⟩ := tdiv_range s0 s1 hn1
        obtain ⟨d2, d3⟩ := tdiv_range s2 s3 hn1
        generalize (sumV l).1 = sx at *
        generalize (sumV l).2 = sy at *
        have T := fun W => ref_toward x y (sx.tdiv (k : Int)) (sy.tdiv (k : Int)) m W hx hy d1 d3 hm
        have hn0 : ¬ (k : Int) = 0 := by omega
        have e1 : IntKind.i64.wrap (sx.tdiv (k : Int)) = sx.tdiv (k : Int) := IntWalk.i64_in _ (by omega)
        have e2 : IntKind.i64.wrap (sy.tdiv (k : Int)) = sy.tdiv (k : Int) := IntWalk.i64_in _ (by omega)
        have e3 : wrap64 (sx.tdiv (k : Int)) = sx.tdiv (k : Int) := IntWalk.wrap64_in _ (by omega)
        have e4 : wrap64 (sy.tdiv (k : Int)) = sy.tdiv (k : Int) := IntWalk.wrap64_in _ (by omega)
        generalize towV x y (sx.tdiv (k : Int)) (sy.tdiv (k : Int)) m = R at *
        obtain ⟨r1, r2⟩ := R
        simp only at T
        have T := Lib.hid (fun u => calls_over (x := u) (T (over wr u)))
        obtain ⟨p0, p1, p2, p3⟩ := id Qp
        obtain ⟨q0, q1, q2, q3⟩ := id Q7
        go_wp2_with fail
        refine wp_region_over_tail 12 (by kernel_rfl) (by kernel_rfl) ?_
        simp only [List.take_succ_cons, List.take_zero, List.drop_succ_cons, List.drop_zero]
        repeat (go_big_quiet_step (first | (go_at_call 25; (try simp only [e3, e4]); with_reducible exact T.out _)))
        refine wpQuiet_nil ?_
        rintro wq ⟨xq, rfl⟩
        have hq := over_below wr xq
        generalize over wr xq = wq at *
        have QB2 := Q6.next hq
        have BC := hbl.trans (hq.mono hbl.size)
        clear p0 p1 p2 p3 q0 q1 q2 q3
        obtain ⟨q0, q1, q2, q3⟩ := id QB2
        obtain ⟨y0, y1, _, _⟩ := id (BoxQ.store (a := r1) (b := r2) QB2)
        go_wp2
        exact bodyPost_ret (v := .agg #[.int .i64 r1, .int .i64 r2]) (by simp [results, Try.results29, go_sem, y0, y1]) rfl ⟨by rw [HR.out], (BC.setCell (by show w.heap.size ≤ w.heap.size + 1; omega) _).setCell (by show w.heap.size ≤ w.heap.size + 1; omega) _⟩

end Go.Proofs.Ytjbnpgjndohjcaa
