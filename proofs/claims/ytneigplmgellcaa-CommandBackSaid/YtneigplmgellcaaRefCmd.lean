/- The page's own word on whether a command may be. -/
import Derived.Test.YtneigplmgellcaaCmdMay
namespace Go.Proofs.Ytneigplmgellcaa
set_option maxRecDepth 20000
open Go.RowKit

theorem refB_is (c : Cmd) : (inB c.pl 1 8 && (inB c.sq 0 1099511627776 && (okC c && eqC (onlyC c) c))) = mayC c := by
  obtain ⟨pl, sq, kd, nn, us, ti, wd, ht, ax, ay⟩ := c
  by_cases hk : kd = 1 ∨ kd = 2 ∨ kd = 3 ∨ kd = 4 ∨ kd = 5 ∨ kd = 6 ∨ kd = 7
  · have he : ∀ l : List Int, ([] == l) = decide (l = []) := fun l => by cases l <;> simp
    rcases hk with rfl | rfl | rfl | rfl | rfl | rfl | rfl
    all_goals
      simp only [okC, onlyC, mayC, mayK, eqC, Int.reduceEq, if_false, if_true, he, zero_beq, beq_self_eq_true, Bool.and_true, Bool.true_and, placeB]
      try simp only [Bool.and_assoc, Bool.and_comm, Bool.and_left_comm]
  · rw [okC_no hk]
    have : mayC ⟨pl, sq, kd, nn, us, ti, wd, ht, ax, ay⟩ = false := by
      cases h : mayC ⟨pl, sq, kd, nn, us, ti, wd, ht, ax, ay⟩ with
      | false => rfl
      | true =>
        simp only [mayC, Bool.and_eq_true] at h
        have := kd_of_may h.2
        simp only at this
        omega
    rw [this]
    simp

set_option maxHeartbeats 6400000 in
set_option maxRecDepth 20000 in
theorem ref_cmd_1 (pl sq nn : Int) (us : List Int) (ti wd ht ax ay : Int) (A : Option Addr) (m c B : Nat) (w : World) (hr : Reads w B 1 A m (nums .i64 us)) (hB : B ≤ w.heap.size) (hm : m ≤ 1000000) :
    Calls Try.prog 16 #[.agg #[.int .i64 pl, .int .i64 sq, .int .i64 1, .int .i64 nn, .slice A m c, .int .i64 ti, .int .i64 wd, .int .i64 ht, .int .i64 ax, .int .i64 ay]] w fun e w' => e = .returned (.bool (mayC ⟨pl, sq, 1, nn, us, ti, wd, ht, ax, ay⟩)) ∧ Below w.heap.size w w' := by
  have hM := refB_is ⟨pl, sq, 1, nn, us, ti, wd, ht, ax, ay⟩
  have hO : onlyC ⟨pl, sq, 1, nn, us, ti, wd, ht, ax, ay⟩ = ⟨pl, sq, 1, nn, [], 0, 0, 0, ax, ay⟩ := by simp [onlyC]
  have hK : okC ⟨pl, sq, 1, nn, us, ti, wd, ht, ax, ay⟩ = (inB nn 0 3 && placeB ax ay) := by simp [okC]
  rw [hO, hK] at hM
  clear hO hK
  simp only at hM
  replace hr := hr.more hB
  have hbg : Hid (∀ o o2, Below w.heap.size w ((w.alloc o).alloc o2)) := fun o o2 => ((Below.refl _ _).alloc (Nat.le_refl _) o).alloc (by simp) o2
  have CE := fun W (hb : Below w.heap.size w W) => eq_cmd ⟨pl, sq, 1, nn, [], 0, 0, 0, ax, ay⟩ ⟨pl, sq, 1, nn, us, ti, wd, ht, ax, ay⟩ none A 0 0 m c w.heap.size w.heap.size W Reads.none_ (hr.below hb) hb.size hb.size (by omega) hm
  generalize eqC ⟨pl, sq, 1, nn, [], 0, 0, 0, ax, ay⟩ ⟨pl, sq, 1, nn, us, ti, wd, ht, ax, ay⟩ = E at *
  simp only [cmdV] at CE
  have CE := Lib.hid CE
  generalize mayC ⟨pl, sq, 1, nn, us, ti, wd, ht, ax, ay⟩ = R at *
  have hb : Below w.heap.size w ((w.alloc (.cells (cmdCs pl sq 1 nn A m c ti wd ht ax ay) 28)).alloc (.cells (cmdCs pl sq 1 nn none 0 0 0 0 0 ax ay) 28)).drew := (((Below.refl _ _).alloc (Nat.le_refl _) _).alloc (by simp) _).drew
  have hX : Blk ((w.alloc (.cells (cmdCs pl sq 1 nn A m c ti wd ht ax ay) 28)).alloc (.cells (cmdCs pl sq 1 nn none 0 0 0 0 0 ax ay) 28)).drew w.heap.size (cmdCs pl sq 1 nn A m c ti wd ht ax ay) 28 := ((Blk.new w _ _).alloc _)
  have hY : Blk ((w.alloc (.cells (cmdCs pl sq 1 nn A m c ti wd ht ax ay) 28)).alloc (.cells (cmdCs pl sq 1 nn none 0 0 0 0 0 ax ay) 28)) (w.heap.size + 1) (cmdCs pl sq 1 nn none 0 0 0 0 0 ax ay) 28 := by
    have := Blk.new (w.alloc (.cells (cmdCs pl sq 1 nn A m c ti wd ht ax ay) 28)) (cmdCs pl sq 1 nn none 0 0 0 0 0 ax ay) 28
    simpa using this
  replace hY := hY.drew
  by_cases hp1 : 1 ≤ pl
  case neg =>
    have d : decide (1 ≤ pl) = false := by simpa using hp1
    have hq : inB pl 1 8 = false := by simp [inB]; omega
    rw [hq] at hM
    have HR : Hid (false = R) := by rw [← hM]; rfl
    clear hM hq hX hY hb CE
    go_enter Try.func16, Try.ntmps16
    go_wp2_with fail
    go_region
    go_wp2_with fail
    go_ret
    exact ⟨by rw [← HR.out]; rfl, by first | exact hbg.out _ _ | exact (hbg.out _ _).drew⟩
  by_cases hp2 : pl ≤ 8
  case neg =>
    have d : decide (pl ≤ 8) = false := by simpa using hp2
    have hq : inB pl 1 8 = false := by simp [inB]; omega
    rw [hq] at hM
    have HR : Hid (false = R) := by rw [← hM]; rfl
    clear hM hq hX hY hb CE
    go_enter Try.func16, Try.ntmps16
    go_wp2_with fail
    go_region
    go_wp2_with fail
    go_ret
    exact ⟨by rw [← HR.out]; rfl, by first | exact hbg.out _ _ | exact (hbg.out _ _).drew⟩
  have hq : inB pl 1 8 = true := inB_iff.2 ⟨hp1, hp2⟩
  rw [hq, Bool.true_and] at hM
  clear hq
  go_enter Try.func16, Try.ntmps16
  go_wp2_with fail
  refine Calls.mono (ref_num_is sq 1099511627776 _) ?_
  rintro e Ws ⟨rfl, rfl⟩
  generalize inB sq 0 1099511627776 = qs at *
  cases qs with
  | false =>
    have HR : Hid (false = R) := by rw [← hM]; rfl
    clear hM hX hY hb CE
    go_wp2_with fail
    go_region
    go_wp2_with fail
    go_ret
    exact ⟨by rw [← HR.out]; rfl, by first | exact hbg.out _ _ | exact (hbg.out _ _).drew⟩
  | true =>
    rw [Bool.true_and] at hM
    have HM := Lib.hid hM
    clear hM
    go_wp2_with fail
    go_region
    go_wp2_with fail
    generalize hCC : w.heap.size = C at *
    generalize ((w.alloc (.cells (cmdCs pl sq 1 nn A m c ti wd ht ax ay) 28)).alloc (.cells (cmdCs pl sq 1 nn none 0 0 0 0 0 ax ay) 28)).drew = W1 at *
    refine Calls.mono (ref_num_is nn 3 _) ?_
    rintro e Wq ⟨rfl, rfl⟩
    generalize inB nn 0 3 = q0 at *
    cases q0 with
    | false =>
      have HR : Hid (false = R) := by show _ = _; rw [← HM.out]; simp
      have HB := Lib.hid hb
      clear hb hX hY
      go_wp2_with fail
      go_ret
      exact ⟨by rw [← HR.out]; rfl, by rw [hCC]; exact HB.out⟩
    | true =>
      have x0 := hX.cell (i := 0) rfl
      have x1 := hX.cell (i := 1) rfl
      have x2 := hX.cell (i := 2) rfl
      have x3 := hX.cell (i := 3) rfl
      have x4 := hX.cell (i := 4) rfl
      have x5 := hX.cell (i := 5) rfl
      have x6 := hX.cell (i := 6) rfl
      have x7 := hX.cell (i := 7) rfl
      have x8 := hX.cell (i := 8) rfl
      have x9 := hX.cell (i := 9) rfl
      go_wp2_with fail
      clear x0 x1 x2 x3 x4 x5 x6 x7 x8 x9
      refine Calls.mono (ref_place_is ax ay _) ?_
      rintro e W2 ⟨rfl, hb2⟩
      replace hY := hY.below hb2 hY.lt
      replace hX := hX.below hb2 hX.lt
      replace hb := hb.trans (hb2.mono (by have := hb.size; omega))
      clear hb2
      generalize placeB ax ay = q1 at *
      cases q1 with
      | false =>
        have HR : Hid (false = R) := by show _ = _; rw [← HM.out]; simp
        have HB := Lib.hid hb
        clear hb hX hY
        go_wp2_with fail
        go_ret
        exact ⟨by rw [← HR.out]; rfl, by rw [hCC]; exact HB.out⟩
      | true =>
        have HR : Hid (E = R) := by show _ = _; rw [← HM.out]; simp
        have y0 := hY.cell (i := 0) rfl
        have x0 := hX.cell (i := 0) rfl
        have y1 := hY.cell (i := 1) rfl
        have x1 := hX.cell (i := 1) rfl
        have y2 := hY.cell (i := 2) rfl
        have x2 := hX.cell (i := 2) rfl
        have y3 := hY.cell (i := 3) rfl
        have x3 := hX.cell (i := 3) rfl
        have y4 := hY.cell (i := 4) rfl
        have x4 := hX.cell (i := 4) rfl
        have y5 := hY.cell (i := 5) rfl
        have x5 := hX.cell (i := 5) rfl
        have y6 := hY.cell (i := 6) rfl
        have x6 := hX.cell (i := 6) rfl
        have y7 := hY.cell (i := 7) rfl
        have x7 := hX.cell (i := 7) rfl
        have y8 := hY.cell (i := 8) rfl
        have x8 := hX.cell (i := 8) rfl
        have y9 := hY.cell (i := 9) rfl
        have x9 := hX.cell (i := 9) rfl
        clear hX hY
        go_wp2_with fail
        refine Calls.mono (CE.out _ hb) ?_
        rintro e W9 ⟨rfl, hb9⟩
        have HB := Lib.hid (hb.trans (hb9.mono (by have := hb.size; omega)))
        clear hb hb9 x0 y0 x1 y1 x2 y2 x3 y3 x4 y4 x5 y5 x6 y6 x7 y7 x8 y8 x9 y9
        go_wp2_with fail
        go_ret
        exact ⟨by rw [← HR.out]; rfl, by rw [hCC]; exact HB.out⟩
set_option maxHeartbeats 6400000 in
set_option maxRecDepth 20000 in
theorem ref_cmd_2 (pl sq nn : Int) (us : List Int) (ti wd ht ax ay : Int) (A : Option Addr) (m c B : Nat) (w : World) (hr : Reads w B 1 A m (nums .i64 us)) (hB : B ≤ w.heap.size) (hm : m ≤ 1000000) :
    Calls Try.prog 16 #[.agg #[.int .i64 pl, .int .i64 sq, .int .i64 2, .int .i64 nn, .slice A m c, .int .i64 ti, .int .i64 wd, .int .i64 ht, .int .i64 ax, .int .i64 ay]] w fun e w' => e = .returned (.bool (mayC ⟨pl, sq, 2, nn, us, ti, wd, ht, ax, ay⟩)) ∧ Below w.heap.size w w' := by
  have hM := refB_is ⟨pl, sq, 2, nn, us, ti, wd, ht, ax, ay⟩
  have hO : onlyC ⟨pl, sq, 2, nn, us, ti, wd, ht, ax, ay⟩ = ⟨pl, sq, 2, 0, us, ti, 0, 0, 0, 0⟩ := by simp [onlyC]
  have hK : okC ⟨pl, sq, 2, nn, us, ti, wd, ht, ax, ay⟩ = (okUs us && inB ti 0 16383) := by simp [okC]
  rw [hO, hK] at hM
  clear hO hK
  simp only at hM
  replace hr := hr.more hB
  have hbg : Hid (∀ o o2, Below w.heap.size w ((w.alloc o).alloc o2)) := fun o o2 => ((Below.refl _ _).alloc (Nat.le_refl _) o).alloc (by simp) o2
  have CE := fun W (hb : Below w.heap.size w W) => eq_cmd ⟨pl, sq, 2, 0, us, ti, 0, 0, 0, 0⟩ ⟨pl, sq, 2, nn, us, ti, wd, ht, ax, ay⟩ A A m c m c w.heap.size w.heap.size W (hr.below hb) (hr.below hb) hb.size hb.size (by omega) hm
  generalize eqC ⟨pl, sq, 2, 0, us, ti, 0, 0, 0, 0⟩ ⟨pl, sq, 2, nn, us, ti, wd, ht, ax, ay⟩ = E at *
  simp only [cmdV] at CE
  have CE := Lib.hid CE
  generalize mayC ⟨pl, sq, 2, nn, us, ti, wd, ht, ax, ay⟩ = R at *
  have hb : Below w.heap.size w ((w.alloc (.cells (cmdCs pl sq 2 nn A m c ti wd ht ax ay) 28)).alloc (.cells (cmdCs pl sq 2 0 A m c ti 0 0 0 0) 28)).drew := (((Below.refl _ _).alloc (Nat.le_refl _) _).alloc (by simp) _).drew
  have hX : Blk ((w.alloc (.cells (cmdCs pl sq 2 nn A m c ti wd ht ax ay) 28)).alloc (.cells (cmdCs pl sq 2 0 A m c ti 0 0 0 0) 28)).drew w.heap.size (cmdCs pl sq 2 nn A m c ti wd ht ax ay) 28 := ((Blk.new w _ _).alloc _)
  have hY : Blk ((w.alloc (.cells (cmdCs pl sq 2 nn A m c ti wd ht ax ay) 28)).alloc (.cells (cmdCs pl sq 2 0 A m c ti 0 0 0 0) 28)) (w.heap.size + 1) (cmdCs pl sq 2 0 A m c ti 0 0 0 0) 28 := by
    have := Blk.new (w.alloc (.cells (cmdCs pl sq 2 nn A m c ti wd ht ax ay) 28)) (cmdCs pl sq 2 0 A m c ti 0 0 0 0) 28
    simpa using this
  replace hY := hY.drew
  by_cases hp1 : 1 ≤ pl
  case neg =>
    have d : decide (1 ≤ pl) = false := by simpa using hp1
    have hq : inB pl 1 8 = false := by simp [inB]; omega
    rw [hq] at hM
    have HR : Hid (false = R) := by rw [← hM]; rfl
    clear hM hq hX hY hb CE
    go_enter Try.func16, Try.ntmps16
    go_wp2_with fail
    go_region
    go_wp2_with fail
    go_ret
    exact ⟨by rw [← HR.out]; rfl, by first | exact hbg.out _ _ | exact (hbg.out _ _).drew⟩
  by_cases hp2 : pl ≤ 8
  case neg =>
    have d : decide (pl ≤ 8) = false := by simpa using hp2
    have hq : inB pl 1 8 = false := by simp [inB]; omega
    rw [hq] at hM
    have HR : Hid (false = R) := by rw [← hM]; rfl
    clear hM hq hX hY hb CE
    go_enter Try.func16, Try.ntmps16
    go_wp2_with fail
    go_region
    go_wp2_with fail
    go_ret
    exact ⟨by rw [← HR.out]; rfl, by first | exact hbg.out _ _ | exact (hbg.out _ _).drew⟩
  have hq : inB pl 1 8 = true := inB_iff.2 ⟨hp1, hp2⟩
  rw [hq, Bool.true_and] at hM
  clear hq
  go_enter Try.func16, Try.ntmps16
  go_wp2_with fail
  refine Calls.mono (ref_num_is sq 1099511627776 _) ?_
  rintro e Ws ⟨rfl, rfl⟩
  generalize inB sq 0 1099511627776 = qs at *
  cases qs with
  | false =>
    have HR : Hid (false = R) := by rw [← hM]; rfl
    clear hM hX hY hb CE
    go_wp2_with fail
    go_region
    go_wp2_with fail
    go_ret
    exact ⟨by rw [← HR.out]; rfl, by first | exact hbg.out _ _ | exact (hbg.out _ _).drew⟩
  | true =>
    rw [Bool.true_and] at hM
    have HM := Lib.hid hM
    clear hM
    go_wp2_with fail
    go_region
    go_wp2_with fail
    generalize hCC : w.heap.size = C at *
    generalize ((w.alloc (.cells (cmdCs pl sq 2 nn A m c ti wd ht ax ay) 28)).alloc (.cells (cmdCs pl sq 2 0 A m c ti 0 0 0 0) 28)).drew = W1 at *
    refine Calls.mono (ref_ids_is A m c C us _ (hr.below hb) hm) ?_
    rintro e Wq ⟨rfl, nq, rfl⟩
    have hb2 := below_drewN (Below.refl W1.heap.size W1) nq
    generalize W1.drewN nq = W2 at *
    replace hY := hY.below hb2 hY.lt
    replace hX := hX.below hb2 hX.lt
    replace hb := hb.trans (hb2.mono (by have := hb.size; omega))
    clear hb2
    generalize okUs us = q0 at *
    cases q0 with
    | false =>
      have HR : Hid (false = R) := by show _ = _; rw [← HM.out]; simp
      have HB := Lib.hid hb
      clear hb hX hY
      go_wp2_with fail
      go_ret
      exact ⟨by rw [← HR.out]; rfl, by rw [hCC]; exact HB.out⟩
    | true =>
      have x0 := hX.cell (i := 0) rfl
      have x1 := hX.cell (i := 1) rfl
      have x2 := hX.cell (i := 2) rfl
      have x3 := hX.cell (i := 3) rfl
      have x4 := hX.cell (i := 4) rfl
      have x5 := hX.cell (i := 5) rfl
      have x6 := hX.cell (i := 6) rfl
      have x7 := hX.cell (i := 7) rfl
      have x8 := hX.cell (i := 8) rfl
      have x9 := hX.cell (i := 9) rfl
      go_wp2_with fail
      clear x0 x1 x2 x3 x4 x5 x6 x7 x8 x9
      refine Calls.mono (ref_tile_is ti _) ?_
      rintro e Wq ⟨rfl, rfl⟩
      generalize inB ti 0 16383 = q1 at *
      cases q1 with
      | false =>
        have HR : Hid (false = R) := by show _ = _; rw [← HM.out]; simp
        have HB := Lib.hid hb
        clear hb hX hY
        go_wp2_with fail
        go_ret
        exact ⟨by rw [← HR.out]; rfl, by rw [hCC]; exact HB.out⟩
      | true =>
        have HR : Hid (E = R) := by show _ = _; rw [← HM.out]; simp
        have y0 := hY.cell (i := 0) rfl
        have x0 := hX.cell (i := 0) rfl
        have y1 := hY.cell (i := 1) rfl
        have x1 := hX.cell (i := 1) rfl
        have y2 := hY.cell (i := 2) rfl
        have x2 := hX.cell (i := 2) rfl
        have y3 := hY.cell (i := 3) rfl
        have x3 := hX.cell (i := 3) rfl
        have y4 := hY.cell (i := 4) rfl
        have x4 := hX.cell (i := 4) rfl
        have y5 := hY.cell (i := 5) rfl
        have x5 := hX.cell (i := 5) rfl
        have y6 := hY.cell (i := 6) rfl
        have x6 := hX.cell (i := 6) rfl
        have y7 := hY.cell (i := 7) rfl
        have x7 := hX.cell (i := 7) rfl
        have y8 := hY.cell (i := 8) rfl
        have x8 := hX.cell (i := 8) rfl
        have y9 := hY.cell (i := 9) rfl
        have x9 := hX.cell (i := 9) rfl
        clear hX hY
        go_wp2_with fail
        refine Calls.mono (CE.out _ hb) ?_
        rintro e W9 ⟨rfl, hb9⟩
        have HB := Lib.hid (hb.trans (hb9.mono (by have := hb.size; omega)))
        clear hb hb9 x0 y0 x1 y1 x2 y2 x3 y3 x4 y4 x5 y5 x6 y6 x7 y7 x8 y8 x9 y9
        go_wp2_with fail
        go_ret
        exact ⟨by rw [← HR.out]; rfl, by rw [hCC]; exact HB.out⟩
set_option maxHeartbeats 6400000 in
set_option maxRecDepth 20000 in
theorem ref_cmd_3 (pl sq nn : Int) (us : List Int) (ti wd ht ax ay : Int) (A : Option Addr) (m c B : Nat) (w : World) (hr : Reads w B 1 A m (nums .i64 us)) (hB : B ≤ w.heap.size) (hm : m ≤ 1000000) :
    Calls Try.prog 16 #[.agg #[.int .i64 pl, .int .i64 sq, .int .i64 3, .int .i64 nn, .slice A m c, .int .i64 ti, .int .i64 wd, .int .i64 ht, .int .i64 ax, .int .i64 ay]] w fun e w' => e = .returned (.bool (mayC ⟨pl, sq, 3, nn, us, ti, wd, ht, ax, ay⟩)) ∧ Below w.heap.size w w' := by
  have hM := refB_is ⟨pl, sq, 3, nn, us, ti, wd, ht, ax, ay⟩
  have hO : onlyC ⟨pl, sq, 3, nn, us, ti, wd, ht, ax, ay⟩ = ⟨pl, sq, 3, 0, us, 0, 0, 0, 0, 0⟩ := by simp [onlyC]
  have hK : okC ⟨pl, sq, 3, nn, us, ti, wd, ht, ax, ay⟩ = (okUs us) := by simp [okC]
  rw [hO, hK] at hM
  clear hO hK
  simp only at hM
  replace hr := hr.more hB
  have hbg : Hid (∀ o o2, Below w.heap.size w ((w.alloc o).alloc o2)) := fun o o2 => ((Below.refl _ _).alloc (Nat.le_refl _) o).alloc (by simp) o2
  have CE := fun W (hb : Below w.heap.size w W) => eq_cmd ⟨pl, sq, 3, 0, us, 0, 0, 0, 0, 0⟩ ⟨pl, sq, 3, nn, us, ti, wd, ht, ax, ay⟩ A A m c m c w.heap.size w.heap.size W (hr.below hb) (hr.below hb) hb.size hb.size (by omega) hm
  generalize eqC ⟨pl, sq, 3, 0, us, 0, 0, 0, 0, 0⟩ ⟨pl, sq, 3, nn, us, ti, wd, ht, ax, ay⟩ = E at *
  simp only [cmdV] at CE
  have CE := Lib.hid CE
  generalize mayC ⟨pl, sq, 3, nn, us, ti, wd, ht, ax, ay⟩ = R at *
  have hb : Below w.heap.size w ((w.alloc (.cells (cmdCs pl sq 3 nn A m c ti wd ht ax ay) 28)).alloc (.cells (cmdCs pl sq 3 0 A m c 0 0 0 0 0) 28)) := ((Below.refl _ _).alloc (Nat.le_refl _) _).alloc (by simp) _
  have hX : Blk ((w.alloc (.cells (cmdCs pl sq 3 nn A m c ti wd ht ax ay) 28)).alloc (.cells (cmdCs pl sq 3 0 A m c 0 0 0 0 0) 28)) w.heap.size (cmdCs pl sq 3 nn A m c ti wd ht ax ay) 28 := ((Blk.new w _ _).alloc _)
  have hY : Blk ((w.alloc (.cells (cmdCs pl sq 3 nn A m c ti wd ht ax ay) 28)).alloc (.cells (cmdCs pl sq 3 0 A m c 0 0 0 0 0) 28)) (w.heap.size + 1) (cmdCs pl sq 3 0 A m c 0 0 0 0 0) 28 := by
    have := Blk.new (w.alloc (.cells (cmdCs pl sq 3 nn A m c ti wd ht ax ay) 28)) (cmdCs pl sq 3 0 A m c 0 0 0 0 0) 28
    simpa using this
  by_cases hp1 : 1 ≤ pl
  case neg =>
    have d : decide (1 ≤ pl) = false := by simpa using hp1
    have hq : inB pl 1 8 = false := by simp [inB]; omega
    rw [hq] at hM
    have HR : Hid (false = R) := by rw [← hM]; rfl
    clear hM hq hX hY hb CE
    go_enter Try.func16, Try.ntmps16
    go_wp2_with fail
    go_ret
    exact ⟨by rw [← HR.out]; rfl, by first | exact hbg.out _ _ | exact (hbg.out _ _).drew⟩
  by_cases hp2 : pl ≤ 8
  case neg =>
    have d : decide (pl ≤ 8) = false := by simpa using hp2
    have hq : inB pl 1 8 = false := by simp [inB]; omega
    rw [hq] at hM
    have HR : Hid (false = R) := by rw [← hM]; rfl
    clear hM hq hX hY hb CE
    go_enter Try.func16, Try.ntmps16
    go_wp2_with fail
    go_ret
    exact ⟨by rw [← HR.out]; rfl, by first | exact hbg.out _ _ | exact (hbg.out _ _).drew⟩
  have hq : inB pl 1 8 = true := inB_iff.2 ⟨hp1, hp2⟩
  rw [hq, Bool.true_and] at hM
  clear hq
  go_enter Try.func16, Try.ntmps16
  go_wp2_with fail
  refine Calls.mono (ref_num_is sq 1099511627776 _) ?_
  rintro e Ws ⟨rfl, rfl⟩
  generalize inB sq 0 1099511627776 = qs at *
  cases qs with
  | false =>
    have HR : Hid (false = R) := by rw [← hM]; rfl
    clear hM hX hY hb CE
    go_wp2_with fail
    go_ret
    exact ⟨by rw [← HR.out]; rfl, by first | exact hbg.out _ _ | exact (hbg.out _ _).drew⟩
  | true =>
    rw [Bool.true_and] at hM
    have HM := Lib.hid hM
    clear hM
    go_wp2_with fail
    generalize hCC : w.heap.size = C at *
    generalize ((w.alloc (.cells (cmdCs pl sq 3 nn A m c ti wd ht ax ay) 28)).alloc (.cells (cmdCs pl sq 3 0 A m c 0 0 0 0 0) 28)) = W1 at *
    refine Calls.mono (ref_ids_is A m c C us _ (hr.below hb) hm) ?_
    rintro e Wq ⟨rfl, nq, rfl⟩
    have hb2 := below_drewN (Below.refl W1.heap.size W1) nq
    generalize W1.drewN nq = W2 at *
    replace hY := hY.below hb2 hY.lt
    replace hX := hX.below hb2 hX.lt
    replace hb := hb.trans (hb2.mono (by have := hb.size; omega))
    clear hb2
    generalize okUs us = q0 at *
    cases q0 with
    | false =>
      have HR : Hid (false = R) := by show _ = _; rw [← HM.out]; simp
      have HB := Lib.hid hb
      clear hb hX hY
      go_wp2_with fail
      go_ret
      exact ⟨by rw [← HR.out]; rfl, by rw [hCC]; exact HB.out⟩
    | true =>
      have HR : Hid (E = R) := by show _ = _; rw [← HM.out]; simp
      have y0 := hY.cell (i := 0) rfl
      have x0 := hX.cell (i := 0) rfl
      have y1 := hY.cell (i := 1) rfl
      have x1 := hX.cell (i := 1) rfl
      have y2 := hY.cell (i := 2) rfl
      have x2 := hX.cell (i := 2) rfl
      have y3 := hY.cell (i := 3) rfl
      have x3 := hX.cell (i := 3) rfl
      have y4 := hY.cell (i := 4) rfl
      have x4 := hX.cell (i := 4) rfl
      have y5 := hY.cell (i := 5) rfl
      have x5 := hX.cell (i := 5) rfl
      have y6 := hY.cell (i := 6) rfl
      have x6 := hX.cell (i := 6) rfl
      have y7 := hY.cell (i := 7) rfl
      have x7 := hX.cell (i := 7) rfl
      have y8 := hY.cell (i := 8) rfl
      have x8 := hX.cell (i := 8) rfl
      have y9 := hY.cell (i := 9) rfl
      have x9 := hX.cell (i := 9) rfl
      clear hX hY
      go_wp2_with fail
      refine Calls.mono (CE.out _ hb) ?_
      rintro e W9 ⟨rfl, hb9⟩
      have HB := Lib.hid (hb.trans (hb9.mono (by have := hb.size; omega)))
      clear hb hb9 x0 y0 x1 y1 x2 y2 x3 y3 x4 y4 x5 y5 x6 y6 x7 y7 x8 y8 x9 y9
      go_wp2_with fail
      go_ret
      exact ⟨by rw [← HR.out]; rfl, by rw [hCC]; exact HB.out⟩
set_option maxHeartbeats 6400000 in
set_option maxRecDepth 20000 in
theorem ref_cmd_4 (pl sq nn : Int) (us : List Int) (ti wd ht ax ay : Int) (A : Option Addr) (m c B : Nat) (w : World) (hr : Reads w B 1 A m (nums .i64 us)) (hB : B ≤ w.heap.size) (hm : m ≤ 1000000) :
    Calls Try.prog 16 #[.agg #[.int .i64 pl, .int .i64 sq, .int .i64 4, .int .i64 nn, .slice A m c, .int .i64 ti, .int .i64 wd, .int .i64 ht, .int .i64 ax, .int .i64 ay]] w fun e w' => e = .returned (.bool (mayC ⟨pl, sq, 4, nn, us, ti, wd, ht, ax, ay⟩)) ∧ Below w.heap.size w w' := by
  have hM := refB_is ⟨pl, sq, 4, nn, us, ti, wd, ht, ax, ay⟩
  have hO : onlyC ⟨pl, sq, 4, nn, us, ti, wd, ht, ax, ay⟩ = ⟨pl, sq, 4, 0, [], ti, wd, ht, 0, 0⟩ := by simp [onlyC]
  have hK : okC ⟨pl, sq, 4, nn, us, ti, wd, ht, ax, ay⟩ = (inB ti 0 16383 && inB wd 1 4 && inB ht 1 4) := by simp [okC]
  rw [hO, hK] at hM
  clear hO hK
  simp only at hM
  replace hr := hr.more hB
  have hbg : Hid (∀ o o2, Below w.heap.size w ((w.alloc o).alloc o2)) := fun o o2 => ((Below.refl _ _).alloc (Nat.le_refl _) o).alloc (by simp) o2
  have CE := fun W (hb : Below w.heap.size w W) => eq_cmd ⟨pl, sq, 4, 0, [], ti, wd, ht, 0, 0⟩ ⟨pl, sq, 4, nn, us, ti, wd, ht, ax, ay⟩ none A 0 0 m c w.heap.size w.heap.size W Reads.none_ (hr.below hb) hb.size hb.size (by omega) hm
  generalize eqC ⟨pl, sq, 4, 0, [], ti, wd, ht, 0, 0⟩ ⟨pl, sq, 4, nn, us, ti, wd, ht, ax, ay⟩ = E at *
  simp only [cmdV] at CE
  have CE := Lib.hid CE
  generalize mayC ⟨pl, sq, 4, nn, us, ti, wd, ht, ax, ay⟩ = R at *
  have hb : Below w.heap.size w ((w.alloc (.cells (cmdCs pl sq 4 nn A m c ti wd ht ax ay) 28)).alloc (.cells (cmdCs pl sq 4 0 none 0 0 ti wd ht 0 0) 28)).drew := (((Below.refl _ _).alloc (Nat.le_refl _) _).alloc (by simp) _).drew
  have hX : Blk ((w.alloc (.cells (cmdCs pl sq 4 nn A m c ti wd ht ax ay) 28)).alloc (.cells (cmdCs pl sq 4 0 none 0 0 ti wd ht 0 0) 28)).drew w.heap.size (cmdCs pl sq 4 nn A m c ti wd ht ax ay) 28 := ((Blk.new w _ _).alloc _)
  have hY : Blk ((w.alloc (.cells (cmdCs pl sq 4 nn A m c ti wd ht ax ay) 28)).alloc (.cells (cmdCs pl sq 4 0 none 0 0 ti wd ht 0 0) 28)) (w.heap.size + 1) (cmdCs pl sq 4 0 none 0 0 ti wd ht 0 0) 28 := by
    have := Blk.new (w.alloc (.cells (cmdCs pl sq 4 nn A m c ti wd ht ax ay) 28)) (cmdCs pl sq 4 0 none 0 0 ti wd ht 0 0) 28
    simpa using this
  replace hY := hY.drew
  by_cases hp1 : 1 ≤ pl
  case neg =>
    have d : decide (1 ≤ pl) = false := by simpa using hp1
    have hq : inB pl 1 8 = false := by simp [inB]; omega
    rw [hq] at hM
    have HR : Hid (false = R) := by rw [← hM]; rfl
    clear hM hq hX hY hb CE
    go_enter Try.func16, Try.ntmps16
    go_wp2_with fail
    go_region
    go_wp2_with fail
    go_ret
    exact ⟨by rw [← HR.out]; rfl, by first | exact hbg.out _ _ | exact (hbg.out _ _).drew⟩
  by_cases hp2 : pl ≤ 8
  case neg =>
    have d : decide (pl ≤ 8) = false := by simpa using hp2
    have hq : inB pl 1 8 = false := by simp [inB]; omega
    rw [hq] at hM
    have HR : Hid (false = R) := by rw [← hM]; rfl
    clear hM hq hX hY hb CE
    go_enter Try.func16, Try.ntmps16
    go_wp2_with fail
    go_region
    go_wp2_with fail
    go_ret
    exact ⟨by rw [← HR.out]; rfl, by first | exact hbg.out _ _ | exact (hbg.out _ _).drew⟩
  have hq : inB pl 1 8 = true := inB_iff.2 ⟨hp1, hp2⟩
  rw [hq, Bool.true_and] at hM
  clear hq
  go_enter Try.func16, Try.ntmps16
  go_wp2_with fail
  refine Calls.mono (ref_num_is sq 1099511627776 _) ?_
  rintro e Ws ⟨rfl, rfl⟩
  generalize inB sq 0 1099511627776 = qs at *
  cases qs with
  | false =>
    have HR : Hid (false = R) := by rw [← hM]; rfl
    clear hM hX hY hb CE
    go_wp2_with fail
    go_region
    go_wp2_with fail
    go_ret
    exact ⟨by rw [← HR.out]; rfl, by first | exact hbg.out _ _ | exact (hbg.out _ _).drew⟩
  | true =>
    rw [Bool.true_and] at hM
    have HM := Lib.hid hM
    clear hM
    go_wp2_with fail
    go_region
    go_wp2_with fail
    generalize hCC : w.heap.size = C at *
    generalize ((w.alloc (.cells (cmdCs pl sq 4 nn A m c ti wd ht ax ay) 28)).alloc (.cells (cmdCs pl sq 4 0 none 0 0 ti wd ht 0 0) 28)).drew = W1 at *
    refine Calls.mono (ref_tile_is ti _) ?_
    rintro e Wq ⟨rfl, rfl⟩
    generalize inB ti 0 16383 = q0 at *
    cases q0 with
    | false =>
      have HR : Hid (false = R) := by show _ = _; rw [← HM.out]; simp
      have HB := Lib.hid hb
      clear hb hX hY
      go_wp2_with fail
      go_ret
      exact ⟨by rw [← HR.out]; rfl, by rw [hCC]; exact HB.out⟩
    | true =>
      by_cases hwda : 1 ≤ wd
      case neg =>
        have d : decide (1 ≤ wd) = false := by simpa using hwda
        have hq : inB wd 1 4 = false := by simp [inB]; omega
        rw [hq] at HM
        clear hq
        have x0 := hX.cell (i := 0) rfl
        have x1 := hX.cell (i := 1) rfl
        have x2 := hX.cell (i := 2) rfl
        have x3 := hX.cell (i := 3) rfl
        have x4 := hX.cell (i := 4) rfl
        have x5 := hX.cell (i := 5) rfl
        have x6 := hX.cell (i := 6) rfl
        have x7 := hX.cell (i := 7) rfl
        have x8 := hX.cell (i := 8) rfl
        have x9 := hX.cell (i := 9) rfl
        have HR : Hid (false = R) := by show _ = _; rw [← HM.out]; simp
        have HB := Lib.hid hb
        clear hb hX hY
        go_wp2_with fail
        go_ret
        exact ⟨by rw [← HR.out]; rfl, by rw [hCC]; exact HB.out⟩
      by_cases hwdb : wd ≤ 4
      case neg =>
        have d : decide (wd ≤ 4) = false := by simpa using hwdb
        have hq : inB wd 1 4 = false := by simp [inB]; omega
        rw [hq] at HM
        clear hq
        have x0 := hX.cell (i := 0) rfl
        have x1 := hX.cell (i := 1) rfl
        have x2 := hX.cell (i := 2) rfl
        have x3 := hX.cell (i := 3) rfl
        have x4 := hX.cell (i := 4) rfl
        have x5 := hX.cell (i := 5) rfl
        have x6 := hX.cell (i := 6) rfl
        have x7 := hX.cell (i := 7) rfl
        have x8 := hX.cell (i := 8) rfl
        have x9 := hX.cell (i := 9) rfl
        have HR : Hid (false = R) := by show _ = _; rw [← HM.out]; simp
        have HB := Lib.hid hb
        clear hb hX hY
        go_wp2_with fail
        go_ret
        exact ⟨by rw [← HR.out]; rfl, by rw [hCC]; exact HB.out⟩
      have hq : inB wd 1 4 = true := inB_iff.2 ⟨hwda, hwdb⟩
      rw [hq] at HM
      clear hq
      by_cases hhta : 1 ≤ ht
      case neg =>
        have d : decide (1 ≤ ht) = false := by simpa using hhta
        have hq : inB ht 1 4 = false := by simp [inB]; omega
        rw [hq] at HM
        clear hq
        have x0 := hX.cell (i := 0) rfl
        have x1 := hX.cell (i := 1) rfl
        have x2 := hX.cell (i := 2) rfl
        have x3 := hX.cell (i := 3) rfl
        have x4 := hX.cell (i := 4) rfl
        have x5 := hX.cell (i := 5) rfl
        have x6 := hX.cell (i := 6) rfl
        have x7 := hX.cell (i := 7) rfl
        have x8 := hX.cell (i := 8) rfl
        have x9 := hX.cell (i := 9) rfl
        have HR : Hid (false = R) := by show _ = _; rw [← HM.out]; simp
        have HB := Lib.hid hb
        clear hb hX hY
        go_wp2_with fail
        go_ret
        exact ⟨by rw [← HR.out]; rfl, by rw [hCC]; exact HB.out⟩
      by_cases hhtb : ht ≤ 4
      case neg =>
        have d : decide (ht ≤ 4) = false := by simpa using hhtb
        have hq : inB ht 1 4 = false := by simp [inB]; omega
        rw [hq] at HM
        clear hq
        have x0 := hX.cell (i := 0) rfl
        have x1 := hX.cell (i := 1) rfl
        have x2 := hX.cell (i := 2) rfl
        have x3 := hX.cell (i := 3) rfl
        have x4 := hX.cell (i := 4) rfl
        have x5 := hX.cell (i := 5) rfl
        have x6 := hX.cell (i := 6) rfl
        have x7 := hX.cell (i := 7) rfl
        have x8 := hX.cell (i := 8) rfl
        have x9 := hX.cell (i := 9) rfl
        have HR : Hid (false = R) := by show _ = _; rw [← HM.out]; simp
        have HB := Lib.hid hb
        clear hb hX hY
        go_wp2_with fail
        go_ret
        exact ⟨by rw [← HR.out]; rfl, by rw [hCC]; exact HB.out⟩
      have hq : inB ht 1 4 = true := inB_iff.2 ⟨hhta, hhtb⟩
      rw [hq] at HM
      clear hq
      have HR : Hid (E = R) := by show _ = _; rw [← HM.out]; simp
      have y0 := hY.cell (i := 0) rfl
      have x0 := hX.cell (i := 0) rfl
      have y1 := hY.cell (i := 1) rfl
      have x1 := hX.cell (i := 1) rfl
      have y2 := hY.cell (i := 2) rfl
      have x2 := hX.cell (i := 2) rfl
      have y3 := hY.cell (i := 3) rfl
      have x3 := hX.cell (i := 3) rfl
      have y4 := hY.cell (i := 4) rfl
      have x4 := hX.cell (i := 4) rfl
      have y5 := hY.cell (i := 5) rfl
      have x5 := hX.cell (i := 5) rfl
      have y6 := hY.cell (i := 6) rfl
      have x6 := hX.cell (i := 6) rfl
      have y7 := hY.cell (i := 7) rfl
      have x7 := hX.cell (i := 7) rfl
      have y8 := hY.cell (i := 8) rfl
      have x8 := hX.cell (i := 8) rfl
      have y9 := hY.cell (i := 9) rfl
      have x9 := hX.cell (i := 9) rfl
      clear hX hY
      go_wp2_with fail
      refine Calls.mono (CE.out _ hb) ?_
      rintro e W9 ⟨rfl, hb9⟩
      have HB := Lib.hid (hb.trans (hb9.mono (by have := hb.size; omega)))
      clear hb hb9 x0 y0 x1 y1 x2 y2 x3 y3 x4 y4 x5 y5 x6 y6 x7 y7 x8 y8 x9 y9
      go_wp2_with fail
      go_ret
      exact ⟨by rw [← HR.out]; rfl, by rw [hCC]; exact HB.out⟩
set_option maxHeartbeats 6400000 in
set_option maxRecDepth 20000 in
theorem ref_cmd_5 (pl sq nn : Int) (us : List Int) (ti wd ht ax ay : Int) (A : Option Addr) (m c B : Nat) (w : World) (hr : Reads w B 1 A m (nums .i64 us)) (hB : B ≤ w.heap.size) (hm : m ≤ 1000000) :
    Calls Try.prog 16 #[.agg #[.int .i64 pl, .int .i64 sq, .int .i64 5, .int .i64 nn, .slice A m c, .int .i64 ti, .int .i64 wd, .int .i64 ht, .int .i64 ax, .int .i64 ay]] w fun e w' => e = .returned (.bool (mayC ⟨pl, sq, 5, nn, us, ti, wd, ht, ax, ay⟩)) ∧ Below w.heap.size w w' := by
  have hM := refB_is ⟨pl, sq, 5, nn, us, ti, wd, ht, ax, ay⟩
  have hO : onlyC ⟨pl, sq, 5, nn, us, ti, wd, ht, ax, ay⟩ = ⟨pl, sq, 5, nn, [], 0, 0, 0, 0, 0⟩ := by simp [onlyC]
  have hK : okC ⟨pl, sq, 5, nn, us, ti, wd, ht, ax, ay⟩ = (inB nn 1 1099511627776) := by simp [okC]
  rw [hO, hK] at hM
  clear hO hK
  simp only at hM
  replace hr := hr.more hB
  have hbg : Hid (∀ o o2, Below w.heap.size w ((w.alloc o).alloc o2)) := fun o o2 => ((Below.refl _ _).alloc (Nat.le_refl _) o).alloc (by simp) o2
  have CE := fun W (hb : Below w.heap.size w W) => eq_cmd ⟨pl, sq, 5, nn, [], 0, 0, 0, 0, 0⟩ ⟨pl, sq, 5, nn, us, ti, wd, ht, ax, ay⟩ none A 0 0 m c w.heap.size w.heap.size W Reads.none_ (hr.below hb) hb.size hb.size (by omega) hm
  generalize eqC ⟨pl, sq, 5, nn, [], 0, 0, 0, 0, 0⟩ ⟨pl, sq, 5, nn, us, ti, wd, ht, ax, ay⟩ = E at *
  simp only [cmdV] at CE
  have CE := Lib.hid CE
  generalize mayC ⟨pl, sq, 5, nn, us, ti, wd, ht, ax, ay⟩ = R at *
  have hb : Below w.heap.size w ((w.alloc (.cells (cmdCs pl sq 5 nn A m c ti wd ht ax ay) 28)).alloc (.cells (cmdCs pl sq 5 nn none 0 0 0 0 0 0 0) 28)) := ((Below.refl _ _).alloc (Nat.le_refl _) _).alloc (by simp) _
  have hX : Blk ((w.alloc (.cells (cmdCs pl sq 5 nn A m c ti wd ht ax ay) 28)).alloc (.cells (cmdCs pl sq 5 nn none 0 0 0 0 0 0 0) 28)) w.heap.size (cmdCs pl sq 5 nn A m c ti wd ht ax ay) 28 := ((Blk.new w _ _).alloc _)
  have hY : Blk ((w.alloc (.cells (cmdCs pl sq 5 nn A m c ti wd ht ax ay) 28)).alloc (.cells (cmdCs pl sq 5 nn none 0 0 0 0 0 0 0) 28)) (w.heap.size + 1) (cmdCs pl sq 5 nn none 0 0 0 0 0 0 0) 28 := by
    have := Blk.new (w.alloc (.cells (cmdCs pl sq 5 nn A m c ti wd ht ax ay) 28)) (cmdCs pl sq 5 nn none 0 0 0 0 0 0 0) 28
    simpa using this
  by_cases hp1 : 1 ≤ pl
  case neg =>
    have d : decide (1 ≤ pl) = false := by simpa using hp1
    have hq : inB pl 1 8 = false := by simp [inB]; omega
    rw [hq] at hM
    have HR : Hid (false = R) := by rw [← hM]; rfl
    clear hM hq hX hY hb CE
    go_enter Try.func16, Try.ntmps16
    go_wp2_with fail
    go_ret
    exact ⟨by rw [← HR.out]; rfl, by first | exact hbg.out _ _ | exact (hbg.out _ _).drew⟩
  by_cases hp2 : pl ≤ 8
  case neg =>
    have d : decide (pl ≤ 8) = false := by simpa using hp2
    have hq : inB pl 1 8 = false := by simp [inB]; omega
    rw [hq] at hM
    have HR : Hid (false = R) := by rw [← hM]; rfl
    clear hM hq hX hY hb CE
    go_enter Try.func16, Try.ntmps16
    go_wp2_with fail
    go_ret
    exact ⟨by rw [← HR.out]; rfl, by first | exact hbg.out _ _ | exact (hbg.out _ _).drew⟩
  have hq : inB pl 1 8 = true := inB_iff.2 ⟨hp1, hp2⟩
  rw [hq, Bool.true_and] at hM
  clear hq
  go_enter Try.func16, Try.ntmps16
  go_wp2_with fail
  refine Calls.mono (ref_num_is sq 1099511627776 _) ?_
  rintro e Ws ⟨rfl, rfl⟩
  generalize inB sq 0 1099511627776 = qs at *
  cases qs with
  | false =>
    have HR : Hid (false = R) := by rw [← hM]; rfl
    clear hM hX hY hb CE
    go_wp2_with fail
    go_ret
    exact ⟨by rw [← HR.out]; rfl, by first | exact hbg.out _ _ | exact (hbg.out _ _).drew⟩
  | true =>
    rw [Bool.true_and] at hM
    have HM := Lib.hid hM
    clear hM
    go_wp2_with fail
    generalize hCC : w.heap.size = C at *
    generalize ((w.alloc (.cells (cmdCs pl sq 5 nn A m c ti wd ht ax ay) 28)).alloc (.cells (cmdCs pl sq 5 nn none 0 0 0 0 0 0 0) 28)) = W1 at *
    refine Calls.mono (ref_id_is nn _) ?_
    rintro e Wq ⟨rfl, rfl⟩
    generalize inB nn 1 1099511627776 = q0 at *
    cases q0 with
    | false =>
      have HR : Hid (false = R) := by show _ = _; rw [← HM.out]; simp
      have HB := Lib.hid hb
      clear hb hX hY
      go_wp2_with fail
      go_ret
      exact ⟨by rw [← HR.out]; rfl, by rw [hCC]; exact HB.out⟩
    | true =>
      have HR : Hid (E = R) := by show _ = _; rw [← HM.out]; simp
      have y0 := hY.cell (i := 0) rfl
      have x0 := hX.cell (i := 0) rfl
      have y1 := hY.cell (i := 1) rfl
      have x1 := hX.cell (i := 1) rfl
      have y2 := hY.cell (i := 2) rfl
      have x2 := hX.cell (i := 2) rfl
      have y3 := hY.cell (i := 3) rfl
      have x3 := hX.cell (i := 3) rfl
      have y4 := hY.cell (i := 4) rfl
      have x4 := hX.cell (i := 4) rfl
      have y5 := hY.cell (i := 5) rfl
      have x5 := hX.cell (i := 5) rfl
      have y6 := hY.cell (i := 6) rfl
      have x6 := hX.cell (i := 6) rfl
      have y7 := hY.cell (i := 7) rfl
      have x7 := hX.cell (i := 7) rfl
      have y8 := hY.cell (i := 8) rfl
      have x8 := hX.cell (i := 8) rfl
      have y9 := hY.cell (i := 9) rfl
      have x9 := hX.cell (i := 9) rfl
      clear hX hY
      go_wp2_with fail
      refine Calls.mono (CE.out _ hb) ?_
      rintro e W9 ⟨rfl, hb9⟩
      have HB := Lib.hid (hb.trans (hb9.mono (by have := hb.size; omega)))
      clear hb hb9 x0 y0 x1 y1 x2 y2 x3 y3 x4 y4 x5 y5 x6 y6 x7 y7 x8 y8 x9 y9
      go_wp2_with fail
      go_ret
      exact ⟨by rw [← HR.out]; rfl, by rw [hCC]; exact HB.out⟩
set_option maxHeartbeats 6400000 in
set_option maxRecDepth 20000 in
theorem ref_cmd_6 (pl sq nn : Int) (us : List Int) (ti wd ht ax ay : Int) (A : Option Addr) (m c B : Nat) (w : World) (hr : Reads w B 1 A m (nums .i64 us)) (hB : B ≤ w.heap.size) (hm : m ≤ 1000000) :
    Calls Try.prog 16 #[.agg #[.int .i64 pl, .int .i64 sq, .int .i64 6, .int .i64 nn, .slice A m c, .int .i64 ti, .int .i64 wd, .int .i64 ht, .int .i64 ax, .int .i64 ay]] w fun e w' => e = .returned (.bool (mayC ⟨pl, sq, 6, nn, us, ti, wd, ht, ax, ay⟩)) ∧ Below w.heap.size w w' := by
  have hM := refB_is ⟨pl, sq, 6, nn, us, ti, wd, ht, ax, ay⟩
  have hO : onlyC ⟨pl, sq, 6, nn, us, ti, wd, ht, ax, ay⟩ = ⟨pl, sq, 6, nn, us, 0, 0, 0, 0, 0⟩ := by simp [onlyC]
  have hK : okC ⟨pl, sq, 6, nn, us, ti, wd, ht, ax, ay⟩ = (okUs us && inB nn 1 1099511627776) := by simp [okC]
  rw [hO, hK] at hM
  clear hO hK
  simp only at hM
  replace hr := hr.more hB
  have hbg : Hid (∀ o o2, Below w.heap.size w ((w.alloc o).alloc o2)) := fun o o2 => ((Below.refl _ _).alloc (Nat.le_refl _) o).alloc (by simp) o2
  have CE := fun W (hb : Below w.heap.size w W) => eq_cmd ⟨pl, sq, 6, nn, us, 0, 0, 0, 0, 0⟩ ⟨pl, sq, 6, nn, us, ti, wd, ht, ax, ay⟩ A A m c m c w.heap.size w.heap.size W (hr.below hb) (hr.below hb) hb.size hb.size (by omega) hm
  generalize eqC ⟨pl, sq, 6, nn, us, 0, 0, 0, 0, 0⟩ ⟨pl, sq, 6, nn, us, ti, wd, ht, ax, ay⟩ = E at *
  simp only [cmdV] at CE
  have CE := Lib.hid CE
  generalize mayC ⟨pl, sq, 6, nn, us, ti, wd, ht, ax, ay⟩ = R at *
  have hb : Below w.heap.size w ((w.alloc (.cells (cmdCs pl sq 6 nn A m c ti wd ht ax ay) 28)).alloc (.cells (cmdCs pl sq 6 nn A m c 0 0 0 0 0) 28)).drew := (((Below.refl _ _).alloc (Nat.le_refl _) _).alloc (by simp) _).drew
  have hX : Blk ((w.alloc (.cells (cmdCs pl sq 6 nn A m c ti wd ht ax ay) 28)).alloc (.cells (cmdCs pl sq 6 nn A m c 0 0 0 0 0) 28)).drew w.heap.size (cmdCs pl sq 6 nn A m c ti wd ht ax ay) 28 := ((Blk.new w _ _).alloc _)
  have hY : Blk ((w.alloc (.cells (cmdCs pl sq 6 nn A m c ti wd ht ax ay) 28)).alloc (.cells (cmdCs pl sq 6 nn A m c 0 0 0 0 0) 28)) (w.heap.size + 1) (cmdCs pl sq 6 nn A m c 0 0 0 0 0) 28 := by
    have := Blk.new (w.alloc (.cells (cmdCs pl sq 6 nn A m c ti wd ht ax ay) 28)) (cmdCs pl sq 6 nn A m c 0 0 0 0 0) 28
    simpa using this
  replace hY := hY.drew
  by_cases hp1 : 1 ≤ pl
  case neg =>
    have d : decide (1 ≤ pl) = false := by simpa using hp1
    have hq : inB pl 1 8 = false := by simp [inB]; omega
    rw [hq] at hM
    have HR : Hid (false = R) := by rw [← hM]; rfl
    clear hM hq hX hY hb CE
    go_enter Try.func16, Try.ntmps16
    go_wp2_with fail
    go_region
    go_wp2_with fail
    go_ret
    exact ⟨by rw [← HR.out]; rfl, by first | exact hbg.out _ _ | exact (hbg.out _ _).drew⟩
  by_cases hp2 : pl ≤ 8
  case neg =>
    have d : decide (pl ≤ 8) = false := by simpa using hp2
    have hq : inB pl 1 8 = false := by simp [inB]; omega
    rw [hq] at hM
    have HR : Hid (false = R) := by rw [← hM]; rfl
    clear hM hq hX hY hb CE
    go_enter Try.func16, Try.ntmps16
    go_wp2_with fail
    go_region
    go_wp2_with fail
    go_ret
    exact ⟨by rw [← HR.out]; rfl, by first | exact hbg.out _ _ | exact (hbg.out _ _).drew⟩
  have hq : inB pl 1 8 = true := inB_iff.2 ⟨hp1, hp2⟩
  rw [hq, Bool.true_and] at hM
  clear hq
  go_enter Try.func16, Try.ntmps16
  go_wp2_with fail
  refine Calls.mono (ref_num_is sq 1099511627776 _) ?_
  rintro e Ws ⟨rfl, rfl⟩
  generalize inB sq 0 1099511627776 = qs at *
  cases qs with
  | false =>
    have HR : Hid (false = R) := by rw [← hM]; rfl
    clear hM hX hY hb CE
    go_wp2_with fail
    go_region
    go_wp2_with fail
    go_ret
    exact ⟨by rw [← HR.out]; rfl, by first | exact hbg.out _ _ | exact (hbg.out _ _).drew⟩
  | true =>
    rw [Bool.true_and] at hM
    have HM := Lib.hid hM
    clear hM
    go_wp2_with fail
    go_region
    go_wp2_with fail
    generalize hCC : w.heap.size = C at *
    generalize ((w.alloc (.cells (cmdCs pl sq 6 nn A m c ti wd ht ax ay) 28)).alloc (.cells (cmdCs pl sq 6 nn A m c 0 0 0 0 0) 28)).drew = W1 at *
    refine Calls.mono (ref_ids_is A m c C us _ (hr.below hb) hm) ?_
    rintro e Wq ⟨rfl, nq, rfl⟩
    have hb2 := below_drewN (Below.refl W1.heap.size W1) nq
    generalize W1.drewN nq = W2 at *
    replace hY := hY.below hb2 hY.lt
    replace hX := hX.below hb2 hX.lt
    replace hb := hb.trans (hb2.mono (by have := hb.size; omega))
    clear hb2
    generalize okUs us = q0 at *
    cases q0 with
    | false =>
      have HR : Hid (false = R) := by show _ = _; rw [← HM.out]; simp
      have HB := Lib.hid hb
      clear hb hX hY
      go_wp2_with fail
      go_ret
      exact ⟨by rw [← HR.out]; rfl, by rw [hCC]; exact HB.out⟩
    | true =>
      have x0 := hX.cell (i := 0) rfl
      have x1 := hX.cell (i := 1) rfl
      have x2 := hX.cell (i := 2) rfl
      have x3 := hX.cell (i := 3) rfl
      have x4 := hX.cell (i := 4) rfl
      have x5 := hX.cell (i := 5) rfl
      have x6 := hX.cell (i := 6) rfl
      have x7 := hX.cell (i := 7) rfl
      have x8 := hX.cell (i := 8) rfl
      have x9 := hX.cell (i := 9) rfl
      go_wp2_with fail
      clear x0 x1 x2 x3 x4 x5 x6 x7 x8 x9
      refine Calls.mono (ref_id_is nn _) ?_
      rintro e Wq ⟨rfl, rfl⟩
      generalize inB nn 1 1099511627776 = q1 at *
      cases q1 with
      | false =>
        have HR : Hid (false = R) := by show _ = _; rw [← HM.out]; simp
        have HB := Lib.hid hb
        clear hb hX hY
        go_wp2_with fail
        go_ret
        exact ⟨by rw [← HR.out]; rfl, by rw [hCC]; exact HB.out⟩
      | true =>
        have HR : Hid (E = R) := by show _ = _; rw [← HM.out]; simp
        have y0 := hY.cell (i := 0) rfl
        have x0 := hX.cell (i := 0) rfl
        have y1 := hY.cell (i := 1) rfl
        have x1 := hX.cell (i := 1) rfl
        have y2 := hY.cell (i := 2) rfl
        have x2 := hX.cell (i := 2) rfl
        have y3 := hY.cell (i := 3) rfl
        have x3 := hX.cell (i := 3) rfl
        have y4 := hY.cell (i := 4) rfl
        have x4 := hX.cell (i := 4) rfl
        have y5 := hY.cell (i := 5) rfl
        have x5 := hX.cell (i := 5) rfl
        have y6 := hY.cell (i := 6) rfl
        have x6 := hX.cell (i := 6) rfl
        have y7 := hY.cell (i := 7) rfl
        have x7 := hX.cell (i := 7) rfl
        have y8 := hY.cell (i := 8) rfl
        have x8 := hX.cell (i := 8) rfl
        have y9 := hY.cell (i := 9) rfl
        have x9 := hX.cell (i := 9) rfl
        clear hX hY
        go_wp2_with fail
        refine Calls.mono (CE.out _ hb) ?_
        rintro e W9 ⟨rfl, hb9⟩
        have HB := Lib.hid (hb.trans (hb9.mono (by have := hb.size; omega)))
        clear hb hb9 x0 y0 x1 y1 x2 y2 x3 y3 x4 y4 x5 y5 x6 y6 x7 y7 x8 y8 x9 y9
        go_wp2_with fail
        go_ret
        exact ⟨by rw [← HR.out]; rfl, by rw [hCC]; exact HB.out⟩
set_option maxHeartbeats 6400000 in
set_option maxRecDepth 20000 in
theorem ref_cmd_7 (pl sq nn : Int) (us : List Int) (ti wd ht ax ay : Int) (A : Option Addr) (m c B : Nat) (w : World) (hr : Reads w B 1 A m (nums .i64 us)) (hB : B ≤ w.heap.size) (hm : m ≤ 1000000) :
    Calls Try.prog 16 #[.agg #[.int .i64 pl, .int .i64 sq, .int .i64 7, .int .i64 nn, .slice A m c, .int .i64 ti, .int .i64 wd, .int .i64 ht, .int .i64 ax, .int .i64 ay]] w fun e w' => e = .returned (.bool (mayC ⟨pl, sq, 7, nn, us, ti, wd, ht, ax, ay⟩)) ∧ Below w.heap.size w w' := by
  have hM := refB_is ⟨pl, sq, 7, nn, us, ti, wd, ht, ax, ay⟩
  have hO : onlyC ⟨pl, sq, 7, nn, us, ti, wd, ht, ax, ay⟩ = ⟨pl, sq, 7, nn, [], ti, 0, 0, 0, 0⟩ := by simp [onlyC]
  have hK : okC ⟨pl, sq, 7, nn, us, ti, wd, ht, ax, ay⟩ = (inB nn 1 1099511627776 && inB ti 0 16383) := by simp [okC]
  rw [hO, hK] at hM
  clear hO hK
  simp only at hM
  replace hr := hr.more hB
  have hbg : Hid (∀ o o2, Below w.heap.size w ((w.alloc o).alloc o2)) := fun o o2 => ((Below.refl _ _).alloc (Nat.le_refl _) o).alloc (by simp) o2
  have CE := fun W (hb : Below w.heap.size w W) => eq_cmd ⟨pl, sq, 7, nn, [], ti, 0, 0, 0, 0⟩ ⟨pl, sq, 7, nn, us, ti, wd, ht, ax, ay⟩ none A 0 0 m c w.heap.size w.heap.size W Reads.none_ (hr.below hb) hb.size hb.size (by omega) hm
  generalize eqC ⟨pl, sq, 7, nn, [], ti, 0, 0, 0, 0⟩ ⟨pl, sq, 7, nn, us, ti, wd, ht, ax, ay⟩ = E at *
  simp only [cmdV] at CE
  have CE := Lib.hid CE
  generalize mayC ⟨pl, sq, 7, nn, us, ti, wd, ht, ax, ay⟩ = R at *
  have hb : Below w.heap.size w ((w.alloc (.cells (cmdCs pl sq 7 nn A m c ti wd ht ax ay) 28)).alloc (.cells (cmdCs pl sq 7 nn none 0 0 ti 0 0 0 0) 28)).drew := (((Below.refl _ _).alloc (Nat.le_refl _) _).alloc (by simp) _).drew
  have hX : Blk ((w.alloc (.cells (cmdCs pl sq 7 nn A m c ti wd ht ax ay) 28)).alloc (.cells (cmdCs pl sq 7 nn none 0 0 ti 0 0 0 0) 28)).drew w.heap.size (cmdCs pl sq 7 nn A m c ti wd ht ax ay) 28 := ((Blk.new w _ _).alloc _)
  have hY : Blk ((w.alloc (.cells (cmdCs pl sq 7 nn A m c ti wd ht ax ay) 28)).alloc (.cells (cmdCs pl sq 7 nn none 0 0 ti 0 0 0 0) 28)) (w.heap.size + 1) (cmdCs pl sq 7 nn none 0 0 ti 0 0 0 0) 28 := by
    have := Blk.new (w.alloc (.cells (cmdCs pl sq 7 nn A m c ti wd ht ax ay) 28)) (cmdCs pl sq 7 nn none 0 0 ti 0 0 0 0) 28
    simpa using this
  replace hY := hY.drew
  by_cases hp1 : 1 ≤ pl
  case neg =>
    have d : decide (1 ≤ pl) = false := by simpa using hp1
    have hq : inB pl 1 8 = false := by simp [inB]; omega
    rw [hq] at hM
    have HR : Hid (false = R) := by rw [← hM]; rfl
    clear hM hq hX hY hb CE
    go_enter Try.func16, Try.ntmps16
    go_wp2_with fail
    go_region
    go_wp2_with fail
    go_ret
    exact ⟨by rw [← HR.out]; rfl, by first | exact hbg.out _ _ | exact (hbg.out _ _).drew⟩
  by_cases hp2 : pl ≤ 8
  case neg =>
    have d : decide (pl ≤ 8) = false := by simpa using hp2
    have hq : inB pl 1 8 = false := by simp [inB]; omega
    rw [hq] at hM
    have HR : Hid (false = R) := by rw [← hM]; rfl
    clear hM hq hX hY hb CE
    go_enter Try.func16, Try.ntmps16
    go_wp2_with fail
    go_region
    go_wp2_with fail
    go_ret
    exact ⟨by rw [← HR.out]; rfl, by first | exact hbg.out _ _ | exact (hbg.out _ _).drew⟩
  have hq : inB pl 1 8 = true := inB_iff.2 ⟨hp1, hp2⟩
  rw [hq, Bool.true_and] at hM
  clear hq
  go_enter Try.func16, Try.ntmps16
  go_wp2_with fail
  refine Calls.mono (ref_num_is sq 1099511627776 _) ?_
  rintro e Ws ⟨rfl, rfl⟩
  generalize inB sq 0 1099511627776 = qs at *
  cases qs with
  | false =>
    have HR : Hid (false = R) := by rw [← hM]; rfl
    clear hM hX hY hb CE
    go_wp2_with fail
    go_region
    go_wp2_with fail
    go_ret
    exact ⟨by rw [← HR.out]; rfl, by first | exact hbg.out _ _ | exact (hbg.out _ _).drew⟩
  | true =>
    rw [Bool.true_and] at hM
    have HM := Lib.hid hM
    clear hM
    go_wp2_with fail
    go_region
    go_wp2_with fail
    generalize hCC : w.heap.size = C at *
    generalize ((w.alloc (.cells (cmdCs pl sq 7 nn A m c ti wd ht ax ay) 28)).alloc (.cells (cmdCs pl sq 7 nn none 0 0 ti 0 0 0 0) 28)).drew = W1 at *
    refine Calls.mono (ref_id_is nn _) ?_
    rintro e Wq ⟨rfl, rfl⟩
    generalize inB nn 1 1099511627776 = q0 at *
    cases q0 with
    | false =>
      have HR : Hid (false = R) := by show _ = _; rw [← HM.out]; simp
      have HB := Lib.hid hb
      clear hb hX hY
      go_wp2_with fail
      go_ret
      exact ⟨by rw [← HR.out]; rfl, by rw [hCC]; exact HB.out⟩
    | true =>
      have x0 := hX.cell (i := 0) rfl
      have x1 := hX.cell (i := 1) rfl
      have x2 := hX.cell (i := 2) rfl
      have x3 := hX.cell (i := 3) rfl
      have x4 := hX.cell (i := 4) rfl
      have x5 := hX.cell (i := 5) rfl
      have x6 := hX.cell (i := 6) rfl
      have x7 := hX.cell (i := 7) rfl
      have x8 := hX.cell (i := 8) rfl
      have x9 := hX.cell (i := 9) rfl
      go_wp2_with fail
      clear x0 x1 x2 x3 x4 x5 x6 x7 x8 x9
      refine Calls.mono (ref_tile_is ti _) ?_
      rintro e Wq ⟨rfl, rfl⟩
      generalize inB ti 0 16383 = q1 at *
      cases q1 with
      | false =>
        have HR : Hid (false = R) := by show _ = _; rw [← HM.out]; simp
        have HB := Lib.hid hb
        clear hb hX hY
        go_wp2_with fail
        go_ret
        exact ⟨by rw [← HR.out]; rfl, by rw [hCC]; exact HB.out⟩
      | true =>
        have HR : Hid (E = R) := by show _ = _; rw [← HM.out]; simp
        have y0 := hY.cell (i := 0) rfl
        have x0 := hX.cell (i := 0) rfl
        have y1 := hY.cell (i := 1) rfl
        have x1 := hX.cell (i := 1) rfl
        have y2 := hY.cell (i := 2) rfl
        have x2 := hX.cell (i := 2) rfl
        have y3 := hY.cell (i := 3) rfl
        have x3 := hX.cell (i := 3) rfl
        have y4 := hY.cell (i := 4) rfl
        have x4 := hX.cell (i := 4) rfl
        have y5 := hY.cell (i := 5) rfl
        have x5 := hX.cell (i := 5) rfl
        have y6 := hY.cell (i := 6) rfl
        have x6 := hX.cell (i := 6) rfl
        have y7 := hY.cell (i := 7) rfl
        have x7 := hX.cell (i := 7) rfl
        have y8 := hY.cell (i := 8) rfl
        have x8 := hX.cell (i := 8) rfl
        have y9 := hY.cell (i := 9) rfl
        have x9 := hX.cell (i := 9) rfl
        clear hX hY
        go_wp2_with fail
        refine Calls.mono (CE.out _ hb) ?_
        rintro e W9 ⟨rfl, hb9⟩
        have HB := Lib.hid (hb.trans (hb9.mono (by have := hb.size; omega)))
        clear hb hb9 x0 y0 x1 y1 x2 y2 x3 y3 x4 y4 x5 y5 x6 y6 x7 y7 x8 y8 x9 y9
        go_wp2_with fail
        go_ret
        exact ⟨by rw [← HR.out]; rfl, by rw [hCC]; exact HB.out⟩
set_option maxHeartbeats 6400000 in
set_option maxRecDepth 20000 in
theorem ref_cmd_0 (pl sq kd nn : Int) (us : List Int) (ti wd ht ax ay : Int) (A : Option Addr) (m c B : Nat) (w : World) (hr : Reads w B 1 A m (nums .i64 us)) (hB : B ≤ w.heap.size) (_hm : m ≤ 1000000) (hk : ¬ (kd = 1 ∨ kd = 2 ∨ kd = 3 ∨ kd = 4 ∨ kd = 5 ∨ kd = 6 ∨ kd = 7)) :
    Calls Try.prog 16 #[.agg #[.int .i64 pl, .int .i64 sq, .int .i64 kd, .int .i64 nn, .slice A m c, .int .i64 ti, .int .i64 wd, .int .i64 ht, .int .i64 ax, .int .i64 ay]] w fun e w' => e = .returned (.bool (mayC ⟨pl, sq, kd, nn, us, ti, wd, ht, ax, ay⟩)) ∧ Below w.heap.size w w' := by
  have hM := refB_is ⟨pl, sq, kd, nn, us, ti, wd, ht, ax, ay⟩
  rw [okC_no hk] at hM
  simp only at hM
  replace hr := hr.more hB
  have hbg : Hid (∀ o o2, Below w.heap.size w ((w.alloc o).alloc o2)) := fun o o2 => ((Below.refl _ _).alloc (Nat.le_refl _) o).alloc (by simp) o2
  generalize mayC ⟨pl, sq, kd, nn, us, ti, wd, ht, ax, ay⟩ = R at *
  have hb : Below w.heap.size w ((w.alloc (.cells (cmdCs pl sq kd nn A m c ti wd ht ax ay) 28)).alloc (.cells (cmdCs pl sq kd 0 none 0 0 0 0 0 0 0) 28)) := ((Below.refl _ _).alloc (Nat.le_refl _) _).alloc (by simp) _
  have hX : Blk ((w.alloc (.cells (cmdCs pl sq kd nn A m c ti wd ht ax ay) 28)).alloc (.cells (cmdCs pl sq kd 0 none 0 0 0 0 0 0 0) 28)) w.heap.size (cmdCs pl sq kd nn A m c ti wd ht ax ay) 28 := ((Blk.new w _ _).alloc _)
  have hY : Blk ((w.alloc (.cells (cmdCs pl sq kd nn A m c ti wd ht ax ay) 28)).alloc (.cells (cmdCs pl sq kd 0 none 0 0 0 0 0 0 0) 28)) (w.heap.size + 1) (cmdCs pl sq kd 0 none 0 0 0 0 0 0 0) 28 := by
    have := Blk.new (w.alloc (.cells (cmdCs pl sq kd nn A m c ti wd ht ax ay) 28)) (cmdCs pl sq kd 0 none 0 0 0 0 0 0 0) 28
    simpa using this
  have y1 : (kd == 1) = false := by rw [beq_eq_false_iff_ne]; omega
  have y2 : (kd == 2) = false := by rw [beq_eq_false_iff_ne]; omega
  have y3 : (kd == 3) = false := by rw [beq_eq_false_iff_ne]; omega
  have y4 : (kd == 4) = false := by rw [beq_eq_false_iff_ne]; omega
  have y5 : (kd == 5) = false := by rw [beq_eq_false_iff_ne]; omega
  have y6 : (kd == 6) = false := by rw [beq_eq_false_iff_ne]; omega
  have y7 : (kd == 7) = false := by rw [beq_eq_false_iff_ne]; omega
  clear hk
  by_cases hp1 : 1 ≤ pl
  case neg =>
    have d : decide (1 ≤ pl) = false := by simpa using hp1
    have hq : inB pl 1 8 = false := by simp [inB]; omega
    rw [hq] at hM
    have HR : Hid (false = R) := by rw [← hM]; rfl
    clear hM hq hX hY hb
    go_enter Try.func16, Try.ntmps16
    go_wp2_with fail
    go_ret
    exact ⟨by rw [← HR.out]; rfl, by first | exact hbg.out _ _ | exact (hbg.out _ _).drew⟩
  by_cases hp2 : pl ≤ 8
  case neg =>
    have d : decide (pl ≤ 8) = false := by simpa using hp2
    have hq : inB pl 1 8 = false := by simp [inB]; omega
    rw [hq] at hM
    have HR : Hid (false = R) := by rw [← hM]; rfl
    clear hM hq hX hY hb
    go_enter Try.func16, Try.ntmps16
    go_wp2_with fail
    go_ret
    exact ⟨by rw [← HR.out]; rfl, by first | exact hbg.out _ _ | exact (hbg.out _ _).drew⟩
  have hq : inB pl 1 8 = true := inB_iff.2 ⟨hp1, hp2⟩
  rw [hq, Bool.true_and] at hM
  clear hq
  go_enter Try.func16, Try.ntmps16
  go_wp2_with fail
  refine Calls.mono (ref_num_is sq 1099511627776 _) ?_
  rintro e Ws ⟨rfl, rfl⟩
  generalize inB sq 0 1099511627776 = qs at *
  cases qs with
  | false =>
    have HR : Hid (false = R) := by rw [← hM]; rfl
    clear hM hX hY hb
    go_wp2_with fail
    go_ret
    exact ⟨by rw [← HR.out]; rfl, by first | exact hbg.out _ _ | exact (hbg.out _ _).drew⟩
  | true =>
    rw [Bool.true_and] at hM
    have HR : Hid (false = R) := by rw [← hM]; rfl
    clear hM hX hY hb
    go_wp2_with fail
    go_ret
    exact ⟨by rw [← HR.out]; rfl, by first | exact hbg.out _ _ | exact (hbg.out _ _).drew⟩
theorem ref_cmd_is (c : Cmd) (A : Option Addr) (m cc B : Nat) (w : World) (hr : Reads w B 1 A m (nums .i64 c.us)) (hB : B ≤ w.heap.size) (hm : m ≤ 1000000) :
    Calls Try.prog 16 #[cmdV c A m cc] w fun e w' => e = .returned (.bool (mayC c)) ∧ Below w.heap.size w w' := by
  obtain ⟨pl, sq, kd, nn, us, ti, wd, ht, ax, ay⟩ := c
  by_cases hk : kd = 1 ∨ kd = 2 ∨ kd = 3 ∨ kd = 4 ∨ kd = 5 ∨ kd = 6 ∨ kd = 7
  · rcases hk with rfl | rfl | rfl | rfl | rfl | rfl | rfl
    · exact ref_cmd_1 pl sq nn us ti wd ht ax ay A m cc B w hr hB hm
    · exact ref_cmd_2 pl sq nn us ti wd ht ax ay A m cc B w hr hB hm
    · exact ref_cmd_3 pl sq nn us ti wd ht ax ay A m cc B w hr hB hm
    · exact ref_cmd_4 pl sq nn us ti wd ht ax ay A m cc B w hr hB hm
    · exact ref_cmd_5 pl sq nn us ti wd ht ax ay A m cc B w hr hB hm
    · exact ref_cmd_6 pl sq nn us ti wd ht ax ay A m cc B w hr hB hm
    · exact ref_cmd_7 pl sq nn us ti wd ht ax ay A m cc B w hr hB hm
  · exact ref_cmd_0 pl sq kd nn us ti wd ht ax ay A m cc B w hr hB hm hk
end Go.Proofs.Ytneigplmgellcaa
