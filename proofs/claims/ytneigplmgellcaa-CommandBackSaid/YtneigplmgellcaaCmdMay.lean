/- Whether a command may be; its bytes, or it is refused. -/
import Derived.Test.YtneigplmgellcaaCmdOnly
import Derived.Test.YtneigplmgellcaaCmdLay
namespace Go.Proofs.Ytneigplmgellcaa
set_option maxRecDepth 20000
open Go.RowKit

def mayB (b : Bool) (pl sq nn nn2 ax ax2 ay ay2 ti ti2 wd wd2 ht ht2 : Int) (m m2 : Nat) : Bool :=
  b && inB pl 1 8 && inB sq 0 1099511627776 && (nn2 == nn) && (ax2 == ax) && (ay2 == ay) && (ti2 == ti) && (wd2 == wd) && (ht2 == ht) && (m2 == m)
theorem len_zero (l : List Int) : ((0 : Nat) == l.length) = decide (l = []) := by cases l <;> simp
theorem zero_beq (x : Int) : ((0 : Int) == x) = (x == 0) := by rw [Bool.eq_iff_iff, beq_iff_eq, beq_iff_eq]; exact eq_comm
theorem mayB_is (c : Cmd) : mayB (okC c) c.pl c.sq c.nn (onlyC c).nn c.ax (onlyC c).ax c.ay (onlyC c).ay c.ti (onlyC c).ti c.wd (onlyC c).wd c.ht (onlyC c).ht c.us.length (onlyC c).us.length = mayC c := by
  obtain ⟨pl, sq, kd, nn, us, ti, wd, ht, ax, ay⟩ := c
  by_cases hk : kd = 1 ∨ kd = 2 ∨ kd = 3 ∨ kd = 4 ∨ kd = 5 ∨ kd = 6 ∨ kd = 7
  · rcases hk with rfl | rfl | rfl | rfl | rfl | rfl | rfl
    all_goals
      simp only [mayB, okC, onlyC, mayC, mayK, Int.reduceEq, if_false, if_true, List.length_nil, len_zero, zero_beq, beq_self_eq_true, Bool.and_true, placeB]
      try simp only [Bool.and_assoc, Bool.and_comm, Bool.and_left_comm]
  · rw [okC_no hk]
    have : mayC ⟨pl, sq, kd, nn, us, ti, wd, ht, ax, ay⟩ = false := by
      cases h : mayC ⟨pl, sq, kd, nn, us, ti, wd, ht, ax, ay⟩ with
      | false => rfl
      | true =>
        simp only [mayC, Bool.and_eq_true] at h
        have := kd_of_may h.2
        simp only at this
        omega
    rw [this]
    simp [mayB]

set_option maxHeartbeats 6400000 in
set_option maxRecDepth 20000 in
theorem may_is (c : Cmd) (A : Option Addr) (m cc B : Nat) (w : World) (hr : Reads w B 1 A m (nums .i64 c.us)) (hB : B ≤ w.heap.size) (hm : m ≤ 1000000) :
    Calls Try.prog 29 #[cmdV c A m cc] w fun e w' => e = .returned (.bool (mayC c)) ∧ Below w.heap.size w w' := by
  have hll : c.us.length = m := by have := hr.1; simpa [nums] using this
  have hM := mayB_is c
  rw [hll] at hM
  have C0 := fun o => only_is c A m cc B (w.alloc o) (hr.alloc hB o) (by simp; omega) hm
  unfold GivesOnly at C0
  generalize mayC c = R at *
  generalize okC c = b at *
  generalize onlyC c = x at *
  obtain ⟨pl, sq, kd, nn, us, ti, wd, ht, ax, ay⟩ := c
  obtain ⟨pl2, sq2, kd2, nn2, us2, ti2, wd2, ht2, ax2, ay2⟩ := x
  simp only at hM hll
  simp only [cmdV] at C0 ⊢
  have C := Lib.hid C0
  clear C0 hr hll
  cases b with
  | false =>
    have hM : false = R := by rw [← hM]; simp [mayB]
    have HR := Lib.hid hM
    clear hM
    go_enter Try.func29, Try.ntmps29
    go_wp2_with fail
    refine Calls.mono (C.out _) ?_
    rintro e w1 ⟨A2, m2, cc2, rfl, hm2, hb1⟩
    subst hm2
    have hX := (Blk.new w (cmdCs pl sq kd nn A m cc ti wd ht ax ay) 28).below hb1 (by simp)
    have hb := ((Below.refl w.heap.size w).alloc (Nat.le_refl _) (.cells (cmdCs pl sq kd nn A m cc ti wd ht ax ay) 28)).trans (hb1.mono (by simp))
    have hY := Blk.new w1 (cmdCs pl2 sq2 kd2 nn2 A2 us2.length cc2 ti2 wd2 ht2 ax2 ay2) 28
    have hs : (w.alloc (.cells (cmdCs pl sq kd nn A m cc ti wd ht ax ay) 28)).heap.size = w.heap.size + 1 := by simp
    have hb2 := hb.alloc hb.size (.cells (cmdCs pl2 sq2 kd2 nn2 A2 us2.length cc2 ti2 wd2 ht2 ax2 ay2) 28)
    have hX2 := hX.alloc (.cells (cmdCs pl2 sq2 kd2 nn2 A2 us2.length cc2 ti2 wd2 ht2 ax2 ay2) 28)
    have x0 := hX2.cell (i := 0) rfl
    have y0 := hY.cell (i := 0) rfl
    have x1 := hX2.cell (i := 1) rfl
    have y1 := hY.cell (i := 1) rfl
    have x2 := hX2.cell (i := 2) rfl
    have y2 := hY.cell (i := 2) rfl
    have x3 := hX2.cell (i := 3) rfl
    have y3 := hY.cell (i := 3) rfl
    have x4 := hX2.cell (i := 4) rfl
    have y4 := hY.cell (i := 4) rfl
    have x5 := hX2.cell (i := 5) rfl
    have y5 := hY.cell (i := 5) rfl
    have x6 := hX2.cell (i := 6) rfl
    have y6 := hY.cell (i := 6) rfl
    have x7 := hX2.cell (i := 7) rfl
    have y7 := hY.cell (i := 7) rfl
    have x8 := hX2.cell (i := 8) rfl
    have y8 := hY.cell (i := 8) rfl
    have x9 := hX2.cell (i := 9) rfl
    have y9 := hY.cell (i := 9) rfl
    have xo0 := hX.cell (i := 0) rfl
    have xo1 := hX.cell (i := 1) rfl
    have xo2 := hX.cell (i := 2) rfl
    have xo3 := hX.cell (i := 3) rfl
    have xo4 := hX.cell (i := 4) rfl
    have xo5 := hX.cell (i := 5) rfl
    have xo6 := hX.cell (i := 6) rfl
    have xo7 := hX.cell (i := 7) rfl
    have xo8 := hX.cell (i := 8) rfl
    have xo9 := hX.cell (i := 9) rfl
    have HB := Lib.hid hb2
    clear hb hb2 hb1 hX hX2 hY hs
    go_wp2_with fail
    go_ret
    exact ⟨by rw [← HR.out]; rfl, HB.out⟩
  | true =>
    cases hqpl : inB pl 1 8 with
    | false =>
      have hM : false = R := by rw [← hM]; simp [mayB, hqpl]
      have HR := Lib.hid hM
      clear hM
      go_enter Try.func29, Try.ntmps29
      go_wp2_with fail
      refine Calls.mono (C.out _) ?_
      rintro e w1 ⟨A2, m2, cc2, rfl, hm2, hb1⟩
      subst hm2
      have hX := (Blk.new w (cmdCs pl sq kd nn A m cc ti wd ht ax ay) 28).below hb1 (by simp)
      have hb := ((Below.refl w.heap.size w).alloc (Nat.le_refl _) (.cells (cmdCs pl sq kd nn A m cc ti wd ht ax ay) 28)).trans (hb1.mono (by simp))
      have hY := Blk.new w1 (cmdCs pl2 sq2 kd2 nn2 A2 us2.length cc2 ti2 wd2 ht2 ax2 ay2) 28
      have hs : (w.alloc (.cells (cmdCs pl sq kd nn A m cc ti wd ht ax ay) 28)).heap.size = w.heap.size + 1 := by simp
      have hb2 := hb.alloc hb.size (.cells (cmdCs pl2 sq2 kd2 nn2 A2 us2.length cc2 ti2 wd2 ht2 ax2 ay2) 28)
      have hX2 := hX.alloc (.cells (cmdCs pl2 sq2 kd2 nn2 A2 us2.length cc2 ti2 wd2 ht2 ax2 ay2) 28)
      have x0 := hX2.cell (i := 0) rfl
      have y0 := hY.cell (i := 0) rfl
      have x1 := hX2.cell (i := 1) rfl
      have y1 := hY.cell (i := 1) rfl
      have x2 := hX2.cell (i := 2) rfl
      have y2 := hY.cell (i := 2) rfl
      have x3 := hX2.cell (i := 3) rfl
      have y3 := hY.cell (i := 3) rfl
      have x4 := hX2.cell (i := 4) rfl
      have y4 := hY.cell (i := 4) rfl
      have x5 := hX2.cell (i := 5) rfl
      have y5 := hY.cell (i := 5) rfl
      have x6 := hX2.cell (i := 6) rfl
      have y6 := hY.cell (i := 6) rfl
      have x7 := hX2.cell (i := 7) rfl
      have y7 := hY.cell (i := 7) rfl
      have x8 := hX2.cell (i := 8) rfl
      have y8 := hY.cell (i := 8) rfl
      have x9 := hX2.cell (i := 9) rfl
      have y9 := hY.cell (i := 9) rfl
      have xo0 := hX.cell (i := 0) rfl
      have xo1 := hX.cell (i := 1) rfl
      have xo2 := hX.cell (i := 2) rfl
      have xo3 := hX.cell (i := 3) rfl
      have xo4 := hX.cell (i := 4) rfl
      have xo5 := hX.cell (i := 5) rfl
      have xo6 := hX.cell (i := 6) rfl
      have xo7 := hX.cell (i := 7) rfl
      have xo8 := hX.cell (i := 8) rfl
      have xo9 := hX.cell (i := 9) rfl
      have HB := Lib.hid hb2
      clear hb hb2 hb1 hX hX2 hY hs
      go_wp2_with fail
      refine Calls.mono (within_is pl _ _ _) ?_
      rintro e wq ⟨rfl, rfl⟩
      rw [hqpl]
      go_wp2_with fail
      go_ret
      exact ⟨by rw [← HR.out]; rfl, HB.out⟩
    | true =>
      cases hqsq : inB sq 0 1099511627776 with
      | false =>
        have hM : false = R := by rw [← hM]; simp [mayB, hqpl, hqsq]
        have HR := Lib.hid hM
        clear hM
        go_enter Try.func29, Try.ntmps29
        go_wp2_with fail
        refine Calls.mono (C.out _) ?_
        rintro e w1 ⟨A2, m2, cc2, rfl, hm2, hb1⟩
        subst hm2
        have hX := (Blk.new w (cmdCs pl sq kd nn A m cc ti wd ht ax ay) 28).below hb1 (by simp)
        have hb := ((Below.refl w.heap.size w).alloc (Nat.le_refl _) (.cells (cmdCs pl sq kd nn A m cc ti wd ht ax ay) 28)).trans (hb1.mono (by simp))
        have hY := Blk.new w1 (cmdCs pl2 sq2 kd2 nn2 A2 us2.length cc2 ti2 wd2 ht2 ax2 ay2) 28
        have hs : (w.alloc (.cells (cmdCs pl sq kd nn A m cc ti wd ht ax ay) 28)).heap.size = w.heap.size + 1 := by simp
        have hb2 := hb.alloc hb.size (.cells (cmdCs pl2 sq2 kd2 nn2 A2 us2.length cc2 ti2 wd2 ht2 ax2 ay2) 28)
        have hX2 := hX.alloc (.cells (cmdCs pl2 sq2 kd2 nn2 A2 us2.length cc2 ti2 wd2 ht2 ax2 ay2) 28)
        have x0 := hX2.cell (i := 0) rfl
        have y0 := hY.cell (i := 0) rfl
        have x1 := hX2.cell (i := 1) rfl
        have y1 := hY.cell (i := 1) rfl
        have x2 := hX2.cell (i := 2) rfl
        have y2 := hY.cell (i := 2) rfl
        have x3 := hX2.cell (i := 3) rfl
        have y3 := hY.cell (i := 3) rfl
        have x4 := hX2.cell (i := 4) rfl
        have y4 := hY.cell (i := 4) rfl
        have x5 := hX2.cell (i := 5) rfl
        have y5 := hY.cell (i := 5) rfl
        have x6 := hX2.cell (i := 6) rfl
        have y6 := hY.cell (i := 6) rfl
        have x7 := hX2.cell (i := 7) rfl
        have y7 := hY.cell (i := 7) rfl
        have x8 := hX2.cell (i := 8) rfl
        have y8 := hY.cell (i := 8) rfl
        have x9 := hX2.cell (i := 9) rfl
        have y9 := hY.cell (i := 9) rfl
        have xo0 := hX.cell (i := 0) rfl
        have xo1 := hX.cell (i := 1) rfl
        have xo2 := hX.cell (i := 2) rfl
        have xo3 := hX.cell (i := 3) rfl
        have xo4 := hX.cell (i := 4) rfl
        have xo5 := hX.cell (i := 5) rfl
        have xo6 := hX.cell (i := 6) rfl
        have xo7 := hX.cell (i := 7) rfl
        have xo8 := hX.cell (i := 8) rfl
        have xo9 := hX.cell (i := 9) rfl
        have HB := Lib.hid hb2
        clear hb hb2 hb1 hX hX2 hY hs
        go_wp2_with fail
        refine Calls.mono (within_is pl _ _ _) ?_
        rintro e wq ⟨rfl, rfl⟩
        rw [hqpl]
        go_wp2_with fail
        refine Calls.mono (within_is sq _ _ _) ?_
        rintro e wq ⟨rfl, rfl⟩
        rw [hqsq]
        go_wp2_with fail
        go_ret
        exact ⟨by rw [← HR.out]; rfl, HB.out⟩
      | true =>
        by_cases hq : nn = nn2
        · subst hq
          by_cases hq : ax = ax2
          · subst hq
            by_cases hq : ay = ay2
            · subst hq
              by_cases hq : ti = ti2
              · subst hq
                by_cases hq : wd = wd2
                · subst hq
                  by_cases hq : ht = ht2
                  · subst hq
                    by_cases hqlen : us2.length = m
                    · skip
                      have hM : true = R := by rw [← hM]; simp [mayB, hqpl, hqsq, hqlen]
                      have HR := Lib.hid hM
                      clear hM
                      go_enter Try.func29, Try.ntmps29
                      go_wp2_with fail
                      refine Calls.mono (C.out _) ?_
                      rintro e w1 ⟨A2, m2, cc2, rfl, hm2, hb1⟩
                      subst hm2
                      have hX := (Blk.new w (cmdCs pl sq kd nn A m cc ti wd ht ax ay) 28).below hb1 (by simp)
                      have hb := ((Below.refl w.heap.size w).alloc (Nat.le_refl _) (.cells (cmdCs pl sq kd nn A m cc ti wd ht ax ay) 28)).trans (hb1.mono (by simp))
                      have hY := Blk.new w1 (cmdCs pl2 sq2 kd2 nn A2 us2.length cc2 ti wd ht ax ay) 28
                      have hs : (w.alloc (.cells (cmdCs pl sq kd nn A m cc ti wd ht ax ay) 28)).heap.size = w.heap.size + 1 := by simp
                      have hb2 := hb.alloc hb.size (.cells (cmdCs pl2 sq2 kd2 nn A2 us2.length cc2 ti wd ht ax ay) 28)
                      have hX2 := hX.alloc (.cells (cmdCs pl2 sq2 kd2 nn A2 us2.length cc2 ti wd ht ax ay) 28)
                      have x0 := hX2.cell (i := 0) rfl
                      have y0 := hY.cell (i := 0) rfl
                      have x1 := hX2.cell (i := 1) rfl
                      have y1 := hY.cell (i := 1) rfl
                      have x2 := hX2.cell (i := 2) rfl
                      have y2 := hY.cell (i := 2) rfl
                      have x3 := hX2.cell (i := 3) rfl
                      have y3 := hY.cell (i := 3) rfl
                      have x4 := hX2.cell (i := 4) rfl
                      have y4 := hY.cell (i := 4) rfl
                      have x5 := hX2.cell (i := 5) rfl
                      have y5 := hY.cell (i := 5) rfl
                      have x6 := hX2.cell (i := 6) rfl
                      have y6 := hY.cell (i := 6) rfl
                      have x7 := hX2.cell (i := 7) rfl
                      have y7 := hY.cell (i := 7) rfl
                      have x8 := hX2.cell (i := 8) rfl
                      have y8 := hY.cell (i := 8) rfl
                      have x9 := hX2.cell (i := 9) rfl
                      have y9 := hY.cell (i := 9) rfl
                      have xo0 := hX.cell (i := 0) rfl
                      have xo1 := hX.cell (i := 1) rfl
                      have xo2 := hX.cell (i := 2) rfl
                      have xo3 := hX.cell (i := 3) rfl
                      have xo4 := hX.cell (i := 4) rfl
                      have xo5 := hX.cell (i := 5) rfl
                      have xo6 := hX.cell (i := 6) rfl
                      have xo7 := hX.cell (i := 7) rfl
                      have xo8 := hX.cell (i := 8) rfl
                      have xo9 := hX.cell (i := 9) rfl
                      have HB := Lib.hid hb2
                      have dl : ((us2.length : Int) == (m : Int)) = true := by rw [beq_iff_eq]; omega
                      clear hqlen
                      clear hb hb2 hb1 hX hX2 hY hs
                      go_wp2_with fail
                      refine Calls.mono (within_is pl _ _ _) ?_
                      rintro e wq ⟨rfl, rfl⟩
                      rw [hqpl]
                      go_wp2_with fail
                      refine Calls.mono (within_is sq _ _ _) ?_
                      rintro e wq ⟨rfl, rfl⟩
                      rw [hqsq]
                      go_wp2_with fail
                      go_ret
                      exact ⟨by rw [← HR.out]; rfl, HB.out⟩
                    · have hM : false = R := by rw [← hM]; simp [mayB, hqpl, hqsq, hqlen]
                      have HR := Lib.hid hM
                      clear hM
                      go_enter Try.func29, Try.ntmps29
                      go_wp2_with fail
                      refine Calls.mono (C.out _) ?_
                      rintro e w1 ⟨A2, m2, cc2, rfl, hm2, hb1⟩
                      subst hm2
                      have hX := (Blk.new w (cmdCs pl sq kd nn A m cc ti wd ht ax ay) 28).below hb1 (by simp)
                      have hb := ((Below.refl w.heap.size w).alloc (Nat.le_refl _) (.cells (cmdCs pl sq kd nn A m cc ti wd ht ax ay) 28)).trans (hb1.mono (by simp))
                      have hY := Blk.new w1 (cmdCs pl2 sq2 kd2 nn A2 us2.length cc2 ti wd ht ax ay) 28
                      have hs : (w.alloc (.cells (cmdCs pl sq kd nn A m cc ti wd ht ax ay) 28)).heap.size = w.heap.size + 1 := by simp
                      have hb2 := hb.alloc hb.size (.cells (cmdCs pl2 sq2 kd2 nn A2 us2.length cc2 ti wd ht ax ay) 28)
                      have hX2 := hX.alloc (.cells (cmdCs pl2 sq2 kd2 nn A2 us2.length cc2 ti wd ht ax ay) 28)
                      have x0 := hX2.cell (i := 0) rfl
                      have y0 := hY.cell (i := 0) rfl
                      have x1 := hX2.cell (i := 1) rfl
                      have y1 := hY.cell (i := 1) rfl
                      have x2 := hX2.cell (i := 2) rfl
                      have y2 := hY.cell (i := 2) rfl
                      have x3 := hX2.cell (i := 3) rfl
                      have y3 := hY.cell (i := 3) rfl
                      have x4 := hX2.cell (i := 4) rfl
                      have y4 := hY.cell (i := 4) rfl
                      have x5 := hX2.cell (i := 5) rfl
                      have y5 := hY.cell (i := 5) rfl
                      have x6 := hX2.cell (i := 6) rfl
                      have y6 := hY.cell (i := 6) rfl
                      have x7 := hX2.cell (i := 7) rfl
                      have y7 := hY.cell (i := 7) rfl
                      have x8 := hX2.cell (i := 8) rfl
                      have y8 := hY.cell (i := 8) rfl
                      have x9 := hX2.cell (i := 9) rfl
                      have y9 := hY.cell (i := 9) rfl
                      have xo0 := hX.cell (i := 0) rfl
                      have xo1 := hX.cell (i := 1) rfl
                      have xo2 := hX.cell (i := 2) rfl
                      have xo3 := hX.cell (i := 3) rfl
                      have xo4 := hX.cell (i := 4) rfl
                      have xo5 := hX.cell (i := 5) rfl
                      have xo6 := hX.cell (i := 6) rfl
                      have xo7 := hX.cell (i := 7) rfl
                      have xo8 := hX.cell (i := 8) rfl
                      have xo9 := hX.cell (i := 9) rfl
                      have HB := Lib.hid hb2
                      have dl : ((us2.length : Int) == (m : Int)) = false := by rw [beq_eq_false_iff_ne]; omega
                      clear hb hb2 hb1 hX hX2 hY hs
                      go_wp2_with fail
                      refine Calls.mono (within_is pl _ _ _) ?_
                      rintro e wq ⟨rfl, rfl⟩
                      rw [hqpl]
                      go_wp2_with fail
                      refine Calls.mono (within_is sq _ _ _) ?_
                      rintro e wq ⟨rfl, rfl⟩
                      rw [hqsq]
                      go_wp2_with fail
                      go_ret
                      exact ⟨by rw [← HR.out]; rfl, HB.out⟩
                  · have d : (ht2 == ht) = false := by rw [beq_eq_false_iff_ne]; exact fun e => hq e.symm
                    have hM : false = R := by rw [← hM]; simp [mayB, hqpl, hqsq, d]
                    clear hq
                    have HR := Lib.hid hM
                    clear hM
                    go_enter Try.func29, Try.ntmps29
                    go_wp2_with fail
                    refine Calls.mono (C.out _) ?_
                    rintro e w1 ⟨A2, m2, cc2, rfl, hm2, hb1⟩
                    subst hm2
                    have hX := (Blk.new w (cmdCs pl sq kd nn A m cc ti wd ht ax ay) 28).below hb1 (by simp)
                    have hb := ((Below.refl w.heap.size w).alloc (Nat.le_refl _) (.cells (cmdCs pl sq kd nn A m cc ti wd ht ax ay) 28)).trans (hb1.mono (by simp))
                    have hY := Blk.new w1 (cmdCs pl2 sq2 kd2 nn A2 us2.length cc2 ti wd ht2 ax ay) 28
                    have hs : (w.alloc (.cells (cmdCs pl sq kd nn A m cc ti wd ht ax ay) 28)).heap.size = w.heap.size + 1 := by simp
                    have hb2 := hb.alloc hb.size (.cells (cmdCs pl2 sq2 kd2 nn A2 us2.length cc2 ti wd ht2 ax ay) 28)
                    have hX2 := hX.alloc (.cells (cmdCs pl2 sq2 kd2 nn A2 us2.length cc2 ti wd ht2 ax ay) 28)
                    have x0 := hX2.cell (i := 0) rfl
                    have y0 := hY.cell (i := 0) rfl
                    have x1 := hX2.cell (i := 1) rfl
                    have y1 := hY.cell (i := 1) rfl
                    have x2 := hX2.cell (i := 2) rfl
                    have y2 := hY.cell (i := 2) rfl
                    have x3 := hX2.cell (i := 3) rfl
                    have y3 := hY.cell (i := 3) rfl
                    have x4 := hX2.cell (i := 4) rfl
                    have y4 := hY.cell (i := 4) rfl
                    have x5 := hX2.cell (i := 5) rfl
                    have y5 := hY.cell (i := 5) rfl
                    have x6 := hX2.cell (i := 6) rfl
                    have y6 := hY.cell (i := 6) rfl
                    have x7 := hX2.cell (i := 7) rfl
                    have y7 := hY.cell (i := 7) rfl
                    have x8 := hX2.cell (i := 8) rfl
                    have y8 := hY.cell (i := 8) rfl
                    have x9 := hX2.cell (i := 9) rfl
                    have y9 := hY.cell (i := 9) rfl
                    have xo0 := hX.cell (i := 0) rfl
                    have xo1 := hX.cell (i := 1) rfl
                    have xo2 := hX.cell (i := 2) rfl
                    have xo3 := hX.cell (i := 3) rfl
                    have xo4 := hX.cell (i := 4) rfl
                    have xo5 := hX.cell (i := 5) rfl
                    have xo6 := hX.cell (i := 6) rfl
                    have xo7 := hX.cell (i := 7) rfl
                    have xo8 := hX.cell (i := 8) rfl
                    have xo9 := hX.cell (i := 9) rfl
                    have HB := Lib.hid hb2
                    clear hb hb2 hb1 hX hX2 hY hs
                    go_wp2_with fail
                    refine Calls.mono (within_is pl _ _ _) ?_
                    rintro e wq ⟨rfl, rfl⟩
                    rw [hqpl]
                    go_wp2_with fail
                    refine Calls.mono (within_is sq _ _ _) ?_
                    rintro e wq ⟨rfl, rfl⟩
                    rw [hqsq]
                    go_wp2_with fail
                    go_ret
                    exact ⟨by rw [← HR.out]; rfl, HB.out⟩
                · have d : (wd2 == wd) = false := by rw [beq_eq_false_iff_ne]; exact fun e => hq e.symm
                  have hM : false = R := by rw [← hM]; simp [mayB, hqpl, hqsq, d]
                  clear hq
                  have HR := Lib.hid hM
                  clear hM
                  go_enter Try.func29, Try.ntmps29
                  go_wp2_with fail
                  refine Calls.mono (C.out _) ?_
                  rintro e w1 ⟨A2, m2, cc2, rfl, hm2, hb1⟩
                  subst hm2
                  have hX := (Blk.new w (cmdCs pl sq kd nn A m cc ti wd ht ax ay) 28).below hb1 (by simp)
                  have hb := ((Below.refl w.heap.size w).alloc (Nat.le_refl _) (.cells (cmdCs pl sq kd nn A m cc ti wd ht ax ay) 28)).trans (hb1.mono (by simp))
                  have hY := Blk.new w1 (cmdCs pl2 sq2 kd2 nn A2 us2.length cc2 ti wd2 ht2 ax ay) 28
                  have hs : (w.alloc (.cells (cmdCs pl sq kd nn A m cc ti wd ht ax ay) 28)).heap.size = w.heap.size + 1 := by simp
                  have hb2 := hb.alloc hb.size (.cells (cmdCs pl2 sq2 kd2 nn A2 us2.length cc2 ti wd2 ht2 ax ay) 28)
                  have hX2 := hX.alloc (.cells (cmdCs pl2 sq2 kd2 nn A2 us2.length cc2 ti wd2 ht2 ax ay) 28)
                  have x0 := hX2.cell (i := 0) rfl
                  have y0 := hY.cell (i := 0) rfl
                  have x1 := hX2.cell (i := 1) rfl
                  have y1 := hY.cell (i := 1) rfl
                  have x2 := hX2.cell (i := 2) rfl
                  have y2 := hY.cell (i := 2) rfl
                  have x3 := hX2.cell (i := 3) rfl
                  have y3 := hY.cell (i := 3) rfl
                  have x4 := hX2.cell (i := 4) rfl
                  have y4 := hY.cell (i := 4) rfl
                  have x5 := hX2.cell (i := 5) rfl
                  have y5 := hY.cell (i := 5) rfl
                  have x6 := hX2.cell (i := 6) rfl
                  have y6 := hY.cell (i := 6) rfl
                  have x7 := hX2.cell (i := 7) rfl
                  have y7 := hY.cell (i := 7) rfl
                  have x8 := hX2.cell (i := 8) rfl
                  have y8 := hY.cell (i := 8) rfl
                  have x9 := hX2.cell (i := 9) rfl
                  have y9 := hY.cell (i := 9) rfl
                  have xo0 := hX.cell (i := 0) rfl
                  have xo1 := hX.cell (i := 1) rfl
                  have xo2 := hX.cell (i := 2) rfl
                  have xo3 := hX.cell (i := 3) rfl
                  have xo4 := hX.cell (i := 4) rfl
                  have xo5 := hX.cell (i := 5) rfl
                  have xo6 := hX.cell (i := 6) rfl
                  have xo7 := hX.cell (i := 7) rfl
                  have xo8 := hX.cell (i := 8) rfl
                  have xo9 := hX.cell (i := 9) rfl
                  have HB := Lib.hid hb2
                  clear hb hb2 hb1 hX hX2 hY hs
                  go_wp2_with fail
                  refine Calls.mono (within_is pl _ _ _) ?_
                  rintro e wq ⟨rfl, rfl⟩
                  rw [hqpl]
                  go_wp2_with fail
                  refine Calls.mono (within_is sq _ _ _) ?_
                  rintro e wq ⟨rfl, rfl⟩
                  rw [hqsq]
                  go_wp2_with fail
                  go_ret
                  exact ⟨by rw [← HR.out]; rfl, HB.out⟩
              · have d : (ti2 == ti) = false := by rw [beq_eq_false_iff_ne]; exact fun e => hq e.symm
                have hM : false = R := by rw [← hM]; simp [mayB, hqpl, hqsq, d]
                clear hq
                have HR := Lib.hid hM
                clear hM
                go_enter Try.func29, Try.ntmps29
                go_wp2_with fail
                refine Calls.mono (C.out _) ?_
                rintro e w1 ⟨A2, m2, cc2, rfl, hm2, hb1⟩
                subst hm2
                have hX := (Blk.new w (cmdCs pl sq kd nn A m cc ti wd ht ax ay) 28).below hb1 (by simp)
                have hb := ((Below.refl w.heap.size w).alloc (Nat.le_refl _) (.cells (cmdCs pl sq kd nn A m cc ti wd ht ax ay) 28)).trans (hb1.mono (by simp))
                have hY := Blk.new w1 (cmdCs pl2 sq2 kd2 nn A2 us2.length cc2 ti2 wd2 ht2 ax ay) 28
                have hs : (w.alloc (.cells (cmdCs pl sq kd nn A m cc ti wd ht ax ay) 28)).heap.size = w.heap.size + 1 := by simp
                have hb2 := hb.alloc hb.size (.cells (cmdCs pl2 sq2 kd2 nn A2 us2.length cc2 ti2 wd2 ht2 ax ay) 28)
                have hX2 := hX.alloc (.cells (cmdCs pl2 sq2 kd2 nn A2 us2.length cc2 ti2 wd2 ht2 ax ay) 28)
                have x0 := hX2.cell (i := 0) rfl
                have y0 := hY.cell (i := 0) rfl
                have x1 := hX2.cell (i := 1) rfl
                have y1 := hY.cell (i := 1) rfl
                have x2 := hX2.cell (i := 2) rfl
                have y2 := hY.cell (i := 2) rfl
                have x3 := hX2.cell (i := 3) rfl
                have y3 := hY.cell (i := 3) rfl
                have x4 := hX2.cell (i := 4) rfl
                have y4 := hY.cell (i := 4) rfl
                have x5 := hX2.cell (i := 5) rfl
                have y5 := hY.cell (i := 5) rfl
                have x6 := hX2.cell (i := 6) rfl
                have y6 := hY.cell (i := 6) rfl
                have x7 := hX2.cell (i := 7) rfl
                have y7 := hY.cell (i := 7) rfl
                have x8 := hX2.cell (i := 8) rfl
                have y8 := hY.cell (i := 8) rfl
                have x9 := hX2.cell (i := 9) rfl
                have y9 := hY.cell (i := 9) rfl
                have xo0 := hX.cell (i := 0) rfl
                have xo1 := hX.cell (i := 1) rfl
                have xo2 := hX.cell (i := 2) rfl
                have xo3 := hX.cell (i := 3) rfl
                have xo4 := hX.cell (i := 4) rfl
                have xo5 := hX.cell (i := 5) rfl
                have xo6 := hX.cell (i := 6) rfl
                have xo7 := hX.cell (i := 7) rfl
                have xo8 := hX.cell (i := 8) rfl
                have xo9 := hX.cell (i := 9) rfl
                have HB := Lib.hid hb2
                clear hb hb2 hb1 hX hX2 hY hs
                go_wp2_with fail
                refine Calls.mono (within_is pl _ _ _) ?_
                rintro e wq ⟨rfl, rfl⟩
                rw [hqpl]
                go_wp2_with fail
                refine Calls.mono (within_is sq _ _ _) ?_
                rintro e wq ⟨rfl, rfl⟩
                rw [hqsq]
                go_wp2_with fail
                go_ret
                exact ⟨by rw [← HR.out]; rfl, HB.out⟩
            · have d : (ay2 == ay) = false := by rw [beq_eq_false_iff_ne]; exact fun e => hq e.symm
              have hM : false = R := by rw [← hM]; simp [mayB, hqpl, hqsq, d]
              clear hq
              have HR := Lib.hid hM
              clear hM
              go_enter Try.func29, Try.ntmps29
              go_wp2_with fail
              refine Calls.mono (C.out _) ?_
              rintro e w1 ⟨A2, m2, cc2, rfl, hm2, hb1⟩
              subst hm2
              have hX := (Blk.new w (cmdCs pl sq kd nn A m cc ti wd ht ax ay) 28).below hb1 (by simp)
              have hb := ((Below.refl w.heap.size w).alloc (Nat.le_refl _) (.cells (cmdCs pl sq kd nn A m cc ti wd ht ax ay) 28)).trans (hb1.mono (by simp))
              have hY := Blk.new w1 (cmdCs pl2 sq2 kd2 nn A2 us2.length cc2 ti2 wd2 ht2 ax ay2) 28
              have hs : (w.alloc (.cells (cmdCs pl sq kd nn A m cc ti wd ht ax ay) 28)).heap.size = w.heap.size + 1 := by simp
              have hb2 := hb.alloc hb.size (.cells (cmdCs pl2 sq2 kd2 nn A2 us2.length cc2 ti2 wd2 ht2 ax ay2) 28)
              have hX2 := hX.alloc (.cells (cmdCs pl2 sq2 kd2 nn A2 us2.length cc2 ti2 wd2 ht2 ax ay2) 28)
              have x0 := hX2.cell (i := 0) rfl
              have y0 := hY.cell (i := 0) rfl
              have x1 := hX2.cell (i := 1) rfl
              have y1 := hY.cell (i := 1) rfl
              have x2 := hX2.cell (i := 2) rfl
              have y2 := hY.cell (i := 2) rfl
              have x3 := hX2.cell (i := 3) rfl
              have y3 := hY.cell (i := 3) rfl
              have x4 := hX2.cell (i := 4) rfl
              have y4 := hY.cell (i := 4) rfl
              have x5 := hX2.cell (i := 5) rfl
              have y5 := hY.cell (i := 5) rfl
              have x6 := hX2.cell (i := 6) rfl
              have y6 := hY.cell (i := 6) rfl
              have x7 := hX2.cell (i := 7) rfl
              have y7 := hY.cell (i := 7) rfl
              have x8 := hX2.cell (i := 8) rfl
              have y8 := hY.cell (i := 8) rfl
              have x9 := hX2.cell (i := 9) rfl
              have y9 := hY.cell (i := 9) rfl
              have xo0 := hX.cell (i := 0) rfl
              have xo1 := hX.cell (i := 1) rfl
              have xo2 := hX.cell (i := 2) rfl
              have xo3 := hX.cell (i := 3) rfl
              have xo4 := hX.cell (i := 4) rfl
              have xo5 := hX.cell (i := 5) rfl
              have xo6 := hX.cell (i := 6) rfl
              have xo7 := hX.cell (i := 7) rfl
              have xo8 := hX.cell (i := 8) rfl
              have xo9 := hX.cell (i := 9) rfl
              have HB := Lib.hid hb2
              clear hb hb2 hb1 hX hX2 hY hs
              go_wp2_with fail
              refine Calls.mono (within_is pl _ _ _) ?_
              rintro e wq ⟨rfl, rfl⟩
              rw [hqpl]
              go_wp2_with fail
              refine Calls.mono (within_is sq _ _ _) ?_
              rintro e wq ⟨rfl, rfl⟩
              rw [hqsq]
              go_wp2_with fail
              go_ret
              exact ⟨by rw [← HR.out]; rfl, HB.out⟩
          · have d : (ax2 == ax) = false := by rw [beq_eq_false_iff_ne]; exact fun e => hq e.symm
            have hM : false = R := by rw [← hM]; simp [mayB, hqpl, hqsq, d]
            clear hq
            have HR := Lib.hid hM
            clear hM
            go_enter Try.func29, Try.ntmps29
            go_wp2_with fail
            refine Calls.mono (C.out _) ?_
            rintro e w1 ⟨A2, m2, cc2, rfl, hm2, hb1⟩
            subst hm2
            have hX := (Blk.new w (cmdCs pl sq kd nn A m cc ti wd ht ax ay) 28).below hb1 (by simp)
            have hb := ((Below.refl w.heap.size w).alloc (Nat.le_refl _) (.cells (cmdCs pl sq kd nn A m cc ti wd ht ax ay) 28)).trans (hb1.mono (by simp))
            have hY := Blk.new w1 (cmdCs pl2 sq2 kd2 nn A2 us2.length cc2 ti2 wd2 ht2 ax2 ay2) 28
            have hs : (w.alloc (.cells (cmdCs pl sq kd nn A m cc ti wd ht ax ay) 28)).heap.size = w.heap.size + 1 := by simp
            have hb2 := hb.alloc hb.size (.cells (cmdCs pl2 sq2 kd2 nn A2 us2.length cc2 ti2 wd2 ht2 ax2 ay2) 28)
            have hX2 := hX.alloc (.cells (cmdCs pl2 sq2 kd2 nn A2 us2.length cc2 ti2 wd2 ht2 ax2 ay2) 28)
            have x0 := hX2.cell (i := 0) rfl
            have y0 := hY.cell (i := 0) rfl
            have x1 := hX2.cell (i := 1) rfl
            have y1 := hY.cell (i := 1) rfl
            have x2 := hX2.cell (i := 2) rfl
            have y2 := hY.cell (i := 2) rfl
            have x3 := hX2.cell (i := 3) rfl
            have y3 := hY.cell (i := 3) rfl
            have x4 := hX2.cell (i := 4) rfl
            have y4 := hY.cell (i := 4) rfl
            have x5 := hX2.cell (i := 5) rfl
            have y5 := hY.cell (i := 5) rfl
            have x6 := hX2.cell (i := 6) rfl
            have y6 := hY.cell (i := 6) rfl
            have x7 := hX2.cell (i := 7) rfl
            have y7 := hY.cell (i := 7) rfl
            have x8 := hX2.cell (i := 8) rfl
            have y8 := hY.cell (i := 8) rfl
            have x9 := hX2.cell (i := 9) rfl
            have y9 := hY.cell (i := 9) rfl
            have xo0 := hX.cell (i := 0) rfl
            have xo1 := hX.cell (i := 1) rfl
            have xo2 := hX.cell (i := 2) rfl
            have xo3 := hX.cell (i := 3) rfl
            have xo4 := hX.cell (i := 4) rfl
            have xo5 := hX.cell (i := 5) rfl
            have xo6 := hX.cell (i := 6) rfl
            have xo7 := hX.cell (i := 7) rfl
            have xo8 := hX.cell (i := 8) rfl
            have xo9 := hX.cell (i := 9) rfl
            have HB := Lib.hid hb2
            clear hb hb2 hb1 hX hX2 hY hs
            go_wp2_with fail
            refine Calls.mono (within_is pl _ _ _) ?_
            rintro e wq ⟨rfl, rfl⟩
            rw [hqpl]
            go_wp2_with fail
            refine Calls.mono (within_is sq _ _ _) ?_
            rintro e wq ⟨rfl, rfl⟩
            rw [hqsq]
            go_wp2_with fail
            go_ret
            exact ⟨by rw [← HR.out]; rfl, HB.out⟩
        · have d : (nn2 == nn) = false := by rw [beq_eq_false_iff_ne]; exact fun e => hq e.symm
          have hM : false = R := by rw [← hM]; simp [mayB, hqpl, hqsq, d]
          clear hq
          have HR := Lib.hid hM
          clear hM
          go_enter Try.func29, Try.ntmps29
          go_wp2_with fail
          refine Calls.mono (C.out _) ?_
          rintro e w1 ⟨A2, m2, cc2, rfl, hm2, hb1⟩
          subst hm2
          have hX := (Blk.new w (cmdCs pl sq kd nn A m cc ti wd ht ax ay) 28).below hb1 (by simp)
          have hb := ((Below.refl w.heap.size w).alloc (Nat.le_refl _) (.cells (cmdCs pl sq kd nn A m cc ti wd ht ax ay) 28)).trans (hb1.mono (by simp))
          have hY := Blk.new w1 (cmdCs pl2 sq2 kd2 nn2 A2 us2.length cc2 ti2 wd2 ht2 ax2 ay2) 28
          have hs : (w.alloc (.cells (cmdCs pl sq kd nn A m cc ti wd ht ax ay) 28)).heap.size = w.heap.size + 1 := by simp
          have hb2 := hb.alloc hb.size (.cells (cmdCs pl2 sq2 kd2 nn2 A2 us2.length cc2 ti2 wd2 ht2 ax2 ay2) 28)
          have hX2 := hX.alloc (.cells (cmdCs pl2 sq2 kd2 nn2 A2 us2.length cc2 ti2 wd2 ht2 ax2 ay2) 28)
          have x0 := hX2.cell (i := 0) rfl
          have y0 := hY.cell (i := 0) rfl
          have x1 := hX2.cell (i := 1) rfl
          have y1 := hY.cell (i := 1) rfl
          have x2 := hX2.cell (i := 2) rfl
          have y2 := hY.cell (i := 2) rfl
          have x3 := hX2.cell (i := 3) rfl
          have y3 := hY.cell (i := 3) rfl
          have x4 := hX2.cell (i := 4) rfl
          have y4 := hY.cell (i := 4) rfl
          have x5 := hX2.cell (i := 5) rfl
          have y5 := hY.cell (i := 5) rfl
          have x6 := hX2.cell (i := 6) rfl
          have y6 := hY.cell (i := 6) rfl
          have x7 := hX2.cell (i := 7) rfl
          have y7 := hY.cell (i := 7) rfl
          have x8 := hX2.cell (i := 8) rfl
          have y8 := hY.cell (i := 8) rfl
          have x9 := hX2.cell (i := 9) rfl
          have y9 := hY.cell (i := 9) rfl
          have xo0 := hX.cell (i := 0) rfl
          have xo1 := hX.cell (i := 1) rfl
          have xo2 := hX.cell (i := 2) rfl
          have xo3 := hX.cell (i := 3) rfl
          have xo4 := hX.cell (i := 4) rfl
          have xo5 := hX.cell (i := 5) rfl
          have xo6 := hX.cell (i := 6) rfl
          have xo7 := hX.cell (i := 7) rfl
          have xo8 := hX.cell (i := 8) rfl
          have xo9 := hX.cell (i := 9) rfl
          have HB := Lib.hid hb2
          clear hb hb2 hb1 hX hX2 hY hs
          go_wp2_with fail
          refine Calls.mono (within_is pl _ _ _) ?_
          rintro e wq ⟨rfl, rfl⟩
          rw [hqpl]
          go_wp2_with fail
          refine Calls.mono (within_is sq _ _ _) ?_
          rintro e wq ⟨rfl, rfl⟩
          rw [hqsq]
          go_wp2_with fail
          go_ret
          exact ⟨by rw [← HR.out]; rfl, HB.out⟩

theorem check_is (c : Cmd) (A : Option Addr) (m cc B : Nat) (w : World) (hr : Reads w B 1 A m (nums .i64 c.us)) (hB : B ≤ w.heap.size) (hm : m ≤ 1000000) :
    Calls Try.prog 18 #[cmdV c A m cc] w fun e w' => e = .returned (.int .i64 (if mayC c then 0 else 1)) ∧ Below w.heap.size w w' := by
  have C := Lib.hid (fun o => may_is c A m cc B (w.alloc o) (hr.alloc hB o) (by simp; omega) hm)
  generalize mayC c = R at *
  obtain ⟨pl, sq, kd, nn, us, ti, wd, ht, ax, ay⟩ := c
  simp only [cmdV] at C ⊢
  have HB : Hid (∀ o w', Below (w.alloc o).heap.size (w.alloc o) w' → Below w.heap.size w w') := fun o w' h => ((Below.refl w.heap.size w).alloc (Nat.le_refl _) o).trans (h.mono (by simp))
  cases R with
  | false =>
    go_enter Try.func18, Try.ntmps18
    go_wp2_with fail
    refine Calls.mono (C.out _) ?_
    rintro e w1 ⟨rfl, hb⟩
    have HB1 := Lib.hid (HB.out _ _ hb)
    clear hb
    go_wp2_with fail
    go_ret
    exact ⟨rfl, HB1.out⟩
  | true =>
    go_enter Try.func18, Try.ntmps18
    go_wp2_with fail
    refine Calls.mono (C.out _) ?_
    rintro e w1 ⟨rfl, hb⟩
    have HB1 := Lib.hid (HB.out _ _ hb)
    clear hb
    go_wp2_with fail
    go_ret
    exact ⟨rfl, HB1.out⟩

/-- What 'Bytes' hands back. -/
def bytesR (c : Cmd) : List Int × Int := if mayC c then (encC c, 0) else ([], 1)
theorem cmd_bytes (c : Cmd) (A : Option Addr) (m cc B : Nat) (w : World) (hr : Reads w B 1 A m (nums .i64 c.us)) (hB : B ≤ w.heap.size) (hm : m ≤ 1000000) :
    Calls Try.prog 15 #[cmdV c A m cc] w (GivesNum w.heap.size w (bytesR c)) := by
  have C := Lib.hid (fun o => may_is c A m cc B (w.alloc o) (hr.alloc hB o) (by simp; omega) hm)
  have HB : Hid (∀ o w', Below (w.alloc o).heap.size (w.alloc o) w' → Below w.heap.size w w') := fun o w' h => ((Below.refl w.heap.size w).alloc (Nat.le_refl _) o).trans (h.mono (by simp))
  have hL : mayC c = true → ∀ w', Below w.heap.size w w' → Calls Try.prog 30 #[.slice none 0 0, cmdV c A m cc] w' (GivesBytes w'.heap.size w' (encC c)) := fun h w' hb => cmd_lay c h A m cc B w' (hr.below (hb.mono hB)) (Nat.le_trans hB hb.size)
  have hR : bytesR c = if mayC c then (encC c, 0) else ([], 1) := rfl
  generalize mayC c = R at *
  generalize bytesR c = z at *
  generalize encC c = bs at *
  obtain ⟨pl, sq, kd, nn, us, ti, wd, ht, ax, ay⟩ := c
  simp only [cmdV] at C hL ⊢
  have HR := Lib.hid hR
  clear hR hr
  cases R with
  | false =>
    go_enter Try.func15, Try.ntmps15
    go_wp2_with fail
    refine Calls.mono (C.out _) ?_
    rintro e w1 ⟨rfl, hb⟩
    have HB1 := Lib.hid (HB.out _ _ hb)
    clear hb hL
    go_wp2_with fail
    go_ret2
    rw [HR.out]
    exact ⟨none, 0, rfl, World.ownsRow_nil _ _ _ _, HB1.out⟩
  | true =>
    have HL := Lib.hid (hL rfl)
    clear hL
    go_enter Try.func15, Try.ntmps15
    go_wp2_with fail
    refine Calls.mono (C.out _) ?_
    rintro e w1 ⟨rfl, hb⟩
    have HB1 := Lib.hid (HB.out _ _ hb)
    have hX := (Blk.new w (cmdCs pl sq kd nn A m cc ti wd ht ax ay) 28).below hb (by simp)
    clear hb

    have x0 := hX.cell (i := 0) rfl
    have x1 := hX.cell (i := 1) rfl
    have x2 := hX.cell (i := 2) rfl
    have x3 := hX.cell (i := 3) rfl
    have x4 := hX.cell (i := 4) rfl
    have x5 := hX.cell (i := 5) rfl
    have x6 := hX.cell (i := 6) rfl
    have x7 := hX.cell (i := 7) rfl
    have x8 := hX.cell (i := 8) rfl
    have x9 := hX.cell (i := 9) rfl
    clear hX
    go_wp2_with fail
    refine Calls.mono (HL.out _ HB1.out) ?_
    rintro e w2 ⟨A2, c2, rfl, hown, hb2⟩
    go_wp2_with fail
    go_ret2
    rw [HR.out]
    exact ⟨A2, c2, rfl, own_mono hown HB1.out.size, HB1.out.trans (hb2.mono HB1.out.size)⟩
end Go.Proofs.Ytneigplmgellcaa
