/- Whether a disc meets a tile: the code's answer. -/
import Derived.Test.YtjbnpgjndohjcaaDisc
import Derived.Test.YtjbnpgjndohjcaaGround
namespace Go.Proofs.Ytjbnpgjndohjcaa
set_option maxRecDepth 20000
set_option maxRecDepth 20000
open Go.RowKit

def placeB (x y : Int) : Bool := decide (-1099511627776 ≤ x ∧ x ≤ 1099511627776 ∧ -1099511627776 ≤ y ∧ y ≤ 1099511627776)
def formB (x y r : Int) : Bool := decide (0 ≤ r ∧ r ≤ 262144) && placeB x y
theorem disc_place (x y : Int) (w : World) : Calls Try.prog 81 #[.agg #[.int .i64 x, .int .i64 y]] w fun e w' => e = .returned (.bool (placeB x y)) ∧ Below w.heap.size w w' := by
  have one := (Below.refl w.heap.size w).alloc (Nat.le_refl _) (.cells #[.int .i64 x, .int .i64 y] 35)
  by_cases h1 : x < -1099511627776
  · have HR : Hid (placeB x y = false) := decide_eq_false (by omega)
    go_enter Try.func81, Try.ntmps81
    go_wp2
    go_ret
    exact ⟨by rw [HR.out]; rfl, one⟩
  by_cases h2 : 1099511627776 < x
  · have HR : Hid (placeB x y = false) := decide_eq_false (by omega)
    have d1 : -1099511627776 ≤ x := by omega
    clear h1
    go_enter Try.func81, Try.ntmps81
    go_wp2
    go_ret
    exact ⟨by rw [HR.out]; rfl, one⟩
  by_cases h3 : y < -1099511627776
  · have HR : Hid (placeB x y = false) := decide_eq_false (by omega)
    have d1 : -1099511627776 ≤ x := by omega
    have d2 : x ≤ 1099511627776 := by omega
    clear h1 h2
    go_enter Try.func81, Try.ntmps81
    go_wp2
    go_ret
    exact ⟨by rw [HR.out]; rfl, one⟩
  by_cases h4 : 1099511627776 < y
  · have HR : Hid (placeB x y = false) := decide_eq_false (by omega)
    have d1 : -1099511627776 ≤ x := by omega
    have d2 : x ≤ 1099511627776 := by omega
    have d3 : -1099511627776 ≤ y := by omega
    have d4 : decide (y ≤ 1099511627776) = false := decide_eq_false (by omega)
    clear h1 h2 h3
    go_enter Try.func81, Try.ntmps81
    go_wp2
    go_ret
    exact ⟨by rw [HR.out]; rfl, one⟩
  have HR : Hid (placeB x y = true) := decide_eq_true (by omega)
  have d1 : -1099511627776 ≤ x := by omega
  have d2 : x ≤ 1099511627776 := by omega
  have d3 : -1099511627776 ≤ y := by omega
  have d4 : y ≤ 1099511627776 := by omega
  clear h1 h2 h3 h4
  go_enter Try.func81, Try.ntmps81
  go_wp2
  go_ret
  exact ⟨by rw [HR.out]; rfl, one⟩
theorem disc_form (x y r : Int) (w : World) : Calls Try.prog 51 #[.agg #[.int .i64 x, .int .i64 y], .int .i64 r] w fun e w' => e = .returned (.bool (formB x y r)) ∧ Below w.heap.size w w' := by
  have one := (Below.refl w.heap.size w).alloc (Nat.le_refl _) (.cells #[.int .i64 x, .int .i64 y] 35)
  by_cases h1 : r < 0
  · have HR : Hid (formB x y r = false) := by show _ = _; unfold formB; rw [decide_eq_false (by omega)]; rfl
    go_enter Try.func51, Try.ntmps51
    go_wp2
    go_ret
    exact ⟨by rw [HR.out]; rfl, one⟩
  by_cases h2 : 262144 < r
  · have HR : Hid (formB x y r = false) := by show _ = _; unfold formB; rw [decide_eq_false (by omega)]; rfl
    have d1 : 0 ≤ r := by omega
    clear h1
    go_enter Try.func51, Try.ntmps51
    go_wp2
    go_ret
    exact ⟨by rw [HR.out]; rfl, one⟩
  have HR : Hid (formB x y r = placeB x y) := by show _ = _; unfold formB; rw [decide_eq_true (by omega)]; rfl
  have d1 : 0 ≤ r := by omega
  have d2 : r ≤ 262144 := by omega
  have C := Lib.hid (fun W => disc_place x y W)
  clear h1 h2
  generalize placeB x y = B at *
  go_enter Try.func51, Try.ntmps51
  go_wp2_with fail
  refine Calls.mono (C.out _) ?_
  rintro e w1 ⟨rfl, hb1⟩
  go_wp2
  go_ret
  exact ⟨by rw [HR.out]; rfl, one.trans (hb1.mono one.size)⟩

/-- Whether a disc meets a tile. -/
def hitsB (W t x y r : Int) : Bool := vwithin x y (min (max x (t % W * 65536)) (t % W * 65536 + 65536)) (min (max y (t / W * 65536)) (t / W * 65536 + 65536)) r
set_option maxHeartbeats 1600000 in
theorem disc_hits (W H t x y r : Int) (A : Option Addr) (n c : Nat) (w : World) (h1 : 1 ≤ W) (h2 : W ≤ 128) (t0 : 0 ≤ t) (t1 : t < 16384) (hx0 : -1099511627776 ≤ x) (hx : x ≤ 1099511627776) (hy0 : -1099511627776 ≤ y) (hy : y ≤ 1099511627776) (hr : r ≤ 9223372036854775807) :
    Calls Try.prog 53 #[.agg #[.int .i64 W, .int .i64 H, .slice A n c], .int .i64 t, .agg #[.int .i64 x, .int .i64 y], .int .i64 r] w fun e w' => e = .returned (.bool (hitsB W t x y r)) ∧ Below w.heap.size w w' := by
  have x0 : 0 ≤ t % W := Int.emod_nonneg _ (by omega)
  have x1 : t % W < W := Int.emod_lt_of_pos _ (by omega)
  have y0 : 0 ≤ t / W := Int.ediv_nonneg t0 (by omega)
  have y1 : t / W ≤ t := Int.ediv_le_self _ t0
  have C := fun W' => vec_within x y (min (max x (t % W * 65536)) (t % W * 65536 + 65536)) (min (max y (t / W * 65536)) (t / W * 65536 + 65536)) r W' (by omega) (by omega) (by omega) (by omega) hr
  have HR : hitsB W t x y r = vwithin x y (min (max x (t % W * 65536)) (t % W * 65536 + 65536)) (min (max y (t / W * 65536)) (t / W * 65536 + 65536)) r := rfl
  generalize vwithin x y (min (max x (t % W * 65536)) (t % W * 65536 + 65536)) (min (max y (t / W * 65536)) (t / W * 65536 + 65536)) r = B at *
  have C := Lib.hid C
  have HR := Lib.hid HR
  have hw0 : ¬ W = 0 := by omega
  have e1 : IntKind.i64.wrap (t % W * 65536) = t % W * 65536 := IntWalk.i64_in _ (by omega)
  have e2 : IntKind.i64.wrap (t / W * 65536) = t / W * 65536 := IntWalk.i64_in _ (by omega)
  have e3 : wrap64 (t % W * 65536) = t % W * 65536 := IntWalk.wrap64_in _ (by omega)
  have e4 : wrap64 (t / W * 65536) = t / W * 65536 := IntWalk.wrap64_in _ (by omega)
  have B0 : Below w.heap.size w ((w.alloc (.cells #[.int .i64 W, .int .i64 H, .slice A n c] 24)).alloc (.cells #[.int .i64 x, .int .i64 y] 35)) := two_below _ _ _
  go_enter Try.func53, Try.ntmps53
  go_wp2_with fail
  go_quiet (fail)
  go_wp2_with fail
  refine Calls.mono (C.out _) ?_
  rintro e w1 ⟨rfl, hb1⟩
  have B1 := below_drewN B0 nq
  have B2 := B1.alloc B1.size (.cells #[.int .i64 (min (max x (t % W * 65536)) (t % W * 65536 + 65536)), .int .i64 (min (max y (t / W * 65536)) (t / W * 65536 + 65536))] 35)
  have B3 := B2.trans (hb1.mono B2.size)
  clear hb1 B1 B2 B0 e1 e2 e3 e4
  go_wp2
  go_ret
  exact ⟨by rw [HR.out]; rfl, B3⟩

/-- What 'disc.Meets' gives. -/
def meetR (W H t x y r : Int) (l : List Int) : Bool × Int := if isG W H l = true ∧ formB x y r = true then (if tileB W H t = true then (hitsB W t x y r, 0) else (false, 3)) else (false, 1)
theorem formB_is {x y r : Int} (h : formB x y r = true) : 0 ≤ r ∧ r ≤ 262144 ∧ -1099511627776 ≤ x ∧ x ≤ 1099511627776 ∧ -1099511627776 ≤ y ∧ y ≤ 1099511627776 := by
  unfold formB placeB at h
  simp at h
  omega
set_option maxHeartbeats 1600000 in
theorem disc_meets (W H t x y r : Int) (A : Option Addr) (n c B : Nat) (l : List Int) (w : World) (hr : Reads w B 1 A n (nums .u8 l)) (hB : B ≤ w.heap.size) (hl : IsBytes l) :
    Calls Try.prog 19 #[.agg #[.int .i64 W, .int .i64 H, .slice A n c], .int .i64 t, .agg #[.int .i64 x, .int .i64 y], .int .i64 r] w fun e w' => e = .returned (.tuple #[.bool (meetR W H t x y r l).1, .int .i64 (meetR W H t x y r l).2]) ∧ Below w.heap.size w w' := by
  have B0 : Below w.heap.size w ((w.alloc (.cells #[.int .i64 W, .int .i64 H, .slice A n c] 24)).alloc (.cells #[.int .i64 x, .int .i64 y] 35)) := two_below _ _ _
  have hr' := ((hr.alloc hB (.cells #[.int .i64 W, .int .i64 H, .slice A n c] 24)).alloc (Nat.le_trans hB (by simp)) (.cells #[.int .i64 x, .int .i64 y] 35)).more (Nat.le_trans hB B0.size)
  have M := fun W' (hr : Reads W' W'.heap.size 1 A n (nums .u8 l)) => ground_may W H A n c _ l W' hr (Nat.le_refl _) hl
  have FO := Lib.hid (fun W' => disc_form x y r W')
  have Qp := BoxQ.start (w.alloc (.cells #[.int .i64 W, .int .i64 H, .slice A n c] 24)) x y
  rw [show (w.alloc (.cells #[.int .i64 W, .int .i64 H, .slice A n c] 24)).heap.size = w.heap.size + 1 by simp] at Qp
  have QG : ((w.alloc (.cells #[.int .i64 W, .int .i64 H, .slice A n c] 24)).alloc (.cells #[.int .i64 x, .int .i64 y] 35)).cell? ⟨w.heap.size, 0, none⟩ = some (.int .i64 W) ∧ ((w.alloc (.cells #[.int .i64 W, .int .i64 H, .slice A n c] 24)).alloc (.cells #[.int .i64 x, .int .i64 y] 35)).cell? ⟨w.heap.size, 1, none⟩ = some (.int .i64 H) ∧ ((w.alloc (.cells #[.int .i64 W, .int .i64 H, .slice A n c] 24)).alloc (.cells #[.int .i64 x, .int .i64 y] 35)).cell? ⟨w.heap.size, 2, none⟩ = some (.slice A n c) := by
    refine ⟨?_, ?_, ?_⟩
    all_goals
      rw [World.cell?_alloc_lt _ _ _ (by simp), World.cell?_alloc_at _ _ _ _ rfl]; rfl
  have keep : ∀ wa wb : World, (wa.cell? ⟨w.heap.size, 0, none⟩ = some (.int .i64 W) ∧ wa.cell? ⟨w.heap.size, 1, none⟩ = some (.int .i64 H) ∧ wa.cell? ⟨w.heap.size, 2, none⟩ = some (.slice A n c)) → w.heap.size < wa.heap.size → Below wa.heap.size wa wb → (wb.cell? ⟨w.heap.size, 0, none⟩ = some (.int .i64 W) ∧ wb.cell? ⟨w.heap.size, 1, none⟩ = some (.int .i64 H) ∧ wb.cell? ⟨w.heap.size, 2, none⟩ = some (.slice A n c)) := fun wa wb ⟨k0, k1, k2⟩ hs hb =>
    ⟨(hb.cell (p := ⟨w.heap.size, 0, none⟩) hs).trans k0, (hb.cell (p := ⟨w.heap.size, 1, none⟩) hs).trans k1, (hb.cell (p := ⟨w.heap.size, 2, none⟩) hs).trans k2⟩
  have keep := Lib.hid keep
  clear hr
  by_cases hG : isG W H l = true
  · have hb5 : 1 ≤ W ∧ W ≤ 128 ∧ 1 ≤ H ∧ H ≤ 128 ∧ (l.length : Int) = W * H ∧ ∀ x ∈ l, x ≤ 5 := of_decide_eq_true hG
    obtain ⟨g1, g2, g3, g4, _⟩ := hb5
    obtain ⟨_, pr⟩ := prod_range g1 g2 g3 g4
    by_cases hF : formB x y r = true
    · obtain ⟨f1, f2, f3, f4, f5, f6⟩ := formB_is hF
      rw [hF] at FO
      have IS := fun W' => ground_is W H t A n c W' g1 g2 g3 g4
      by_cases hT : tileB W H t = true
      · obtain ⟨t0, t1⟩ : 0 ≤ t ∧ t < W * H := of_decide_eq_true hT
        have HR : Hid (meetR W H t x y r l = (hitsB W t x y r, 0)) := by show _ = _; unfold meetR; rw [if_pos ⟨hG, hF⟩, if_pos hT]
        have HI := Lib.hid (fun W' => disc_hits W H t x y r A n c W' g1 g2 t0 (by omega) f3 f4 f5 f6 (by omega))
        rw [hG] at M
        rw [hT] at IS
        have M := Lib.hid M
        have IS := Lib.hid IS
        clear hG hF hT
        generalize hitsB W t x y r = B at *
        go_enter Try.func19, Try.ntmps19
        go_wp2_with fail
        refine Calls.mono (M.out _ hr') ?_
        rintro e w1 ⟨rfl, hb1⟩
        have QG1 := keep.out _ _ QG (by simp; omega) hb1
        have Qp1 := Qp.next hb1
        have B1 := B0.trans (hb1.mono B0.size)
        clear QG Qp B0 hb1
        obtain ⟨p0, p1, p2, p3⟩ := id Qp1
        go_wp2_with fail
        refine Calls.mono (FO.out _) ?_
        rintro e w2 ⟨rfl, hb2⟩
        have QG2 := keep.out _ _ QG1 (by omega) hb2
        have Qp2 := Qp1.next hb2
        have B2 := B1.trans (hb2.mono B1.size)
        clear QG1 Qp1 B1 hb2 p0 p1 p2 p3
        obtain ⟨q0, q1, q2⟩ := id QG2
        go_wp2_with fail
        refine Calls.mono (IS.out _) ?_
        rintro e w3 ⟨rfl, hb3⟩
        have QG3 := keep.out _ _ QG2 (by have := Qp2.2.2.2; omega) hb3
        have Qp3 := Qp2.next hb3
        have B3 := B2.trans (hb3.mono B2.size)
        clear QG2 Qp2 B2 hb3 q0 q1 q2
        obtain ⟨q0, q1, q2⟩ := id QG3
        obtain ⟨p0, p1, p2, p3⟩ := id Qp3
        go_wp2_with fail
        refine Calls.mono (HI.out _) ?_
        rintro e w4 ⟨rfl, hb4⟩
        go_wp2
        go_ret2
        exact ⟨by rw [HR.out]; rfl, B3.trans (hb4.mono B3.size)⟩
      · have HR : Hid (meetR W H t x y r l = (false, 3)) := by show _ = _; unfold meetR; rw [if_pos ⟨hG, hF⟩, if_neg hT]
        rw [hG] at M
        rw [show tileB W H t = false by simpa using hT] at IS
        have M := Lib.hid M
        have IS := Lib.hid IS
        clear hG hF hT
        go_enter Try.func19, Try.ntmps19
        go_wp2_with fail
        refine Calls.mono (M.out _ hr') ?_
        rintro e w1 ⟨rfl, hb1⟩
        have QG1 := keep.out _ _ QG (by simp; omega) hb1
        have Qp1 := Qp.next hb1
        have B1 := B0.trans (hb1.mono B0.size)
        clear QG Qp B0 hb1
        obtain ⟨p0, p1, p2, p3⟩ := id Qp1
        go_wp2_with fail
        refine Calls.mono (FO.out _) ?_
        rintro e w2 ⟨rfl, hb2⟩
        have QG2 := keep.out _ _ QG1 (by omega) hb2
        have B2 := B1.trans (hb2.mono B1.size)
        clear QG1 Qp1 B1 hb2 p0 p1 p2 p3
        obtain ⟨q0, q1, q2⟩ := id QG2
        go_wp2_with fail
        refine Calls.mono (IS.out _) ?_
        rintro e w3 ⟨rfl, hb3⟩
        go_wp2
        go_ret2
        exact ⟨by rw [HR.out]; rfl, B2.trans (hb3.mono B2.size)⟩
    · have HR : Hid (meetR W H t x y r l = (false, 1)) := by show _ = _; unfold meetR; rw [if_neg (fun h => hF h.2)]
      rw [show formB x y r = false by simpa using hF] at FO
      rw [hG] at M
      have M := Lib.hid M
      clear hG hF
      go_enter Try.func19, Try.ntmps19
      go_wp2_with fail
      refine Calls.mono (M.out _ hr') ?_
      rintro e w1 ⟨rfl, hb1⟩
      have Qp1 := Qp.next hb1
      have B1 := B0.trans (hb1.mono B0.size)
      obtain ⟨p0, p1, p2, p3⟩ := id Qp1
      go_wp2_with fail
      refine Calls.mono (FO.out _) ?_
      rintro e w2 ⟨rfl, hb2⟩
      go_wp2
      go_ret2
      exact ⟨by rw [HR.out]; rfl, B1.trans (hb2.mono B1.size)⟩
  · have HR : Hid (meetR W H t x y r l = (false, 1)) := by show _ = _; unfold meetR; rw [if_neg (fun h => hG h.1)]
    rw [show isG W H l = false by simpa using hG] at M
    have M := Lib.hid M
    clear hG
    go_enter Try.func19, Try.ntmps19
    go_wp2_with fail
    refine Calls.mono (M.out _ hr') ?_
    rintro e w1 ⟨rfl, hb1⟩
    go_wp2
    go_ret2
    exact ⟨by rw [HR.out]; rfl, B0.trans (hb1.mono B0.size)⟩

theorem num17 (x : Int) (w : World) : Calls Try.prog 20 #[.int .i64 x] w fun e w' => e = .returned (.int .i64 x) ∧ w = w' := by
  go_enter Try.func20, Try.ntmps20
  go_wp2
  go_ret
  exact ⟨rfl, rfl⟩
theorem wake_meet : meetR 1 1 0 32768 32768 1 [0] = (true, 0) := by decide +kernel
theorem make_one (w : World) : (Instr.makeSlice 22 (.int .i64 1) (.int .i64 1)).run Try.prog w = .ok (.slice (some ⟨w.heap.size, 0, none⟩) 1 1) (w.alloc (.cells #[.int .u8 0] 5)) := by kernel_rfl
theorem wakes17 (w : World) : Calls Try.prog 21 #[] w fun e w' => e = .returned (.bool true) ∧ Below w.heap.size w w' := by
  have r1 := reads_new w [.int .u8 0] 5 (0, 0) 1 rfl
  have M := Lib.hid (disc_meets 1 1 0 32768 32768 1 _ 1 1 _ [0] _ r1 (by simp) (by intro x hx; simp at hx; omega))
  rw [wake_meet] at M
  have hmk := fun w => make_one w
  go_enter Try.func21, Try.ntmps21
  go_wp2_with fail
  refine Calls.mono M.out ?_
  rintro e w1 ⟨rfl, hb1⟩
  go_wp2_with (go_at_call 20; (with_reducible refine (num17 _ _).mono ?_); rintro e w19 ⟨rfl, rfl⟩)
  go_ret
  exact ⟨rfl, ((Below.refl _ _).alloc (Nat.le_refl _) _).trans (hb1.mono (by simp))⟩
end Go.Proofs.Ytjbnpgjndohjcaa
