/- The walk of the law DiscMeets. -/
import Derived.Test.YtjbnpgjndohjcaaDiscMeetRef
import Derived.Test.YtjbnpgjndohjcaaDiscOpen
namespace Go.Proofs.Ytjbnpgjndohjcaa
set_option maxRecDepth 20000
open Go.RowKit Go.WideShapes Go.ChangeShapes

set_option maxRecDepth 20000 in
theorem ref_may (x y r : Int) (w : World) : Calls Try.prog 16 #[.agg #[.int .i64 x, .int .i64 y], .int .i64 r] w fun e w' => e = .returned (.bool (formB x y r)) ∧ Below w.heap.size w w' := by
  have one := (Below.refl w.heap.size w).alloc (Nat.le_refl _) (.cells #[.int .i64 x, .int .i64 y] 35)
  have hf : formB x y r = decide (0 ≤ r ∧ r ≤ 262144 ∧ -1099511627776 ≤ x ∧ x ≤ 1099511627776 ∧ -1099511627776 ≤ y ∧ y ≤ 1099511627776) := by
    unfold formB placeB
    rw [← Bool.decide_and]
    exact decide_eq_decide.2 ⟨fun h => ⟨h.1.1, h.1.2, h.2⟩, fun h => ⟨⟨h.1, h.2.1⟩, h.2.2⟩⟩
  have hf2 := Lib.hid hf
  clear hf
  have hf := hf2
  clear hf2
  rcases (show r < 0 ∨ (0 ≤ r ∧ 262144 < r) ∨ (0 ≤ r ∧ r ≤ 262144 ∧ x < -1099511627776) ∨ (0 ≤ r ∧ r ≤ 262144 ∧ -1099511627776 ≤ x ∧ 1099511627776 < x) ∨ (0 ≤ r ∧ r ≤ 262144 ∧ -1099511627776 ≤ x ∧ x ≤ 1099511627776 ∧ y < -1099511627776) ∨ (0 ≤ r ∧ r ≤ 262144 ∧ -1099511627776 ≤ x ∧ x ≤ 1099511627776 ∧ -1099511627776 ≤ y) by omega) with d1 | ⟨d1, d2⟩ | ⟨d1, d2, d3⟩ | ⟨d1, d2, d3, d4⟩ | ⟨d1, d2, d3, d4, d5⟩ | ⟨d1, d2, d3, d4, d5⟩
  case inr.inr.inr.inr.inr =>
    have HR : Hid (formB x y r = decide (y ≤ 1099511627776)) := hf.out.trans <| decide_eq_decide.2 ⟨fun h => h.2.2.2.2.2, fun h => ⟨d1, d2, d3, d4, d5, h⟩⟩
    clear hf
    go_enter Try.func16, Try.ntmps16
    go_wp2
    go_ret
    exact ⟨by rw [HR.out]; rfl, one⟩
  all_goals
    have HR : Hid (formB x y r = false) := hf.out.trans (decide_eq_false (by omega))
    clear hf
    go_enter Try.func16, Try.ntmps16
    go_wp2
    go_ret
    exact ⟨by rw [HR.out]; rfl, one⟩

/-- The Ask's box, and what was found of its tiles, places and radiuses, behind a call. -/
theorem keepm {w wa wb : World} {W H t x y r : Int} {A A1 A2 A3 : Option Addr} {n c n1 c1 n2 c2 n3 c3 bt it b i b3 i3 : Nat} (h : wa.cell? ⟨w.heap.size, 0, none⟩ = some (.int .i64 W) ∧ wa.cell? ⟨w.heap.size, 1, none⟩ = some (.int .i64 H) ∧ wa.cell? ⟨w.heap.size, 2, none⟩ = some (.slice A n c) ∧ wa.cell? ⟨w.heap.size, 5, none⟩ = some (.slice A1 n1 c1) ∧ wa.cell? ⟨w.heap.size, 6, none⟩ = some (.slice A2 n2 c2) ∧ wa.cell? ⟨w.heap.size, 7, none⟩ = some (.slice A3 n3 c3) ∧ wa.cell? ⟨bt, it, none⟩ = some (.int .i64 t) ∧ wa.cell? ⟨b, i, none⟩ = some (.int .i64 x) ∧ wa.cell? ⟨b, i + 1, none⟩ = some (.int .i64 y) ∧ wa.cell? ⟨b3, i3, none⟩ = some (.int .i64 r) ∧ w.heap.size < wa.heap.size ∧ bt < wa.heap.size ∧ b < wa.heap.size ∧ b3 < wa.heap.size ∧ Below w.heap.size w wa) (hb : Below wa.heap.size wa wb) : wb.cell? ⟨w.heap.size, 0, none⟩ = some (.int .i64 W) ∧ wb.cell? ⟨w.heap.size, 1, none⟩ = some (.int .i64 H) ∧ wb.cell? ⟨w.heap.size, 2, none⟩ = some (.slice A n c) ∧ wb.cell? ⟨w.heap.size, 5, none⟩ = some (.slice A1 n1 c1) ∧ wb.cell? ⟨w.heap.size, 6, none⟩ = some (.slice A2 n2 c2) ∧ wb.cell? ⟨w.heap.size, 7, none⟩ = some (.slice A3 n3 c3) ∧ wb.cell? ⟨bt, it, none⟩ = some (.int .i64 t) ∧ wb.cell? ⟨b, i, none⟩ = some (.int .i64 x) ∧ wb.cell? ⟨b, i + 1, none⟩ = some (.int .i64 y) ∧ wb.cell? ⟨b3, i3, none⟩ = some (.int .i64 r) ∧ w.heap.size < wb.heap.size ∧ bt < wb.heap.size ∧ b < wb.heap.size ∧ b3 < wb.heap.size ∧ Below w.heap.size w wb := by
  obtain ⟨h0, h1, h2, h3, h4, h5, h6, h7, h8, h9, g0, g1, g2, g3, g4⟩ := h
  exact ⟨(hb.cell (p := ⟨w.heap.size, 0, none⟩) g0).trans h0, (hb.cell (p := ⟨w.heap.size, 1, none⟩) g0).trans h1, (hb.cell (p := ⟨w.heap.size, 2, none⟩) g0).trans h2, (hb.cell (p := ⟨w.heap.size, 5, none⟩) g0).trans h3, (hb.cell (p := ⟨w.heap.size, 6, none⟩) g0).trans h4, (hb.cell (p := ⟨w.heap.size, 7, none⟩) g0).trans h5,
    (hb.cell (p := ⟨bt, it, none⟩) g1).trans h6, (hb.cell (p := ⟨b, i, none⟩) g2).trans h7, (hb.cell (p := ⟨b, i + 1, none⟩) g2).trans h8, (hb.cell (p := ⟨b3, i3, none⟩) g3).trans h9,
    Nat.lt_of_lt_of_le g0 hb.size, Nat.lt_of_lt_of_le g1 hb.size, Nat.lt_of_lt_of_le g2 hb.size, Nat.lt_of_lt_of_le g3 hb.size, g4.trans (hb.mono g4.size)⟩

namespace lawDiscMeets
set_option maxHeartbeats 6400000 in
set_option maxRecDepth 100000 in
theorem walk {H : Type} {enc : TypeId × Value → H} (w : World) {base : Nat} (v : Value) (d : DataW H) (p : List MemPlace) (hv : Value.okWide Try.prog w .any base 30 v)
    (ht : DataW.Trod enc Try.prog w 0 (fun _ => true) true 30 v d p) : Calls Try.prog 3 #[v] w fun e w' => e = .returned (.bool true) ∧ Below w.heap.size w w' := by
  obtain ⟨W, H, K, A, n, c, l, A0, n0, c0, A1, n1, c1, l1, A2, n2, c2, l2, A3, n3, c3, l3, rfl, hr, hl, ⟨hnc, hcm⟩, ⟨hnc0, hcm0⟩, hr1, ⟨hnc1, hcm1⟩, hv2, ⟨hnc2, hcm2⟩, hr3, hl3, ⟨hnc3, hcm3⟩⟩ := open_ask17 hv ht
  clear hv ht
  unfold maxLen at hcm hcm0 hcm1 hcm2 hcm3
  by_cases hh : light n n0 n1 n2 n3
  · have HV := Lib.hid (fun W' => heavy17 W H K A A0 A1 A2 A3 n c n0 c0 n1 c1 n2 c2 n3 c3 W' false (by simp [hh]))
    obtain ⟨⟨hn, _⟩, hn1, hn2, hn3⟩ := hh
    have RGW := fun (W' : World) (h : Below w.heap.size w W') => ref_ground W H A n c W'.heap.size l W' ((hr.below h).more h.size) (Nat.le_refl _) hl (by omega)
    have MEETS := Lib.hid (fun (t x y r : Int) (W' : World) (h : Below w.heap.size w W') => disc_meets W H t x y r A n c W'.heap.size l W' ((hr.below h).more h.size) (Nat.le_refl _) hl)
    clear hr hl
    go_enter Try.func3, Try.ntmps3
    go_wp2_with fail
    refine Calls.mono (HV.out _) ?_
    rintro e w1 ⟨rfl, hb1⟩
    have S1 : w1.cell? ⟨w.heap.size, 0, none⟩ = some (.int .i64 W) ∧ w1.cell? ⟨w.heap.size, 1, none⟩ = some (.int .i64 H) ∧ w1.cell? ⟨w.heap.size, 2, none⟩ = some (.slice A n c) ∧ w1.cell? ⟨w.heap.size, 5, none⟩ = some (.slice A1 n1 c1) ∧ w1.cell? ⟨w.heap.size, 6, none⟩ = some (.slice A2 n2 c2) ∧ w1.cell? ⟨w.heap.size, 7, none⟩ = some (.slice A3 n3 c3) ∧ w.heap.size < w1.heap.size ∧ Below w.heap.size w w1 := by
      refine ⟨?_, ?_, ?_, ?_, ?_, ?_, ?_, ((Below.refl _ _).alloc (Nat.le_refl _) _).trans (hb1.mono (by simp))⟩
      · rw [hb1.cell (p := ⟨w.heap.size, 0, none⟩) (by simp), World.cell?_alloc_at _ _ _ _ rfl]; rfl
      · rw [hb1.cell (p := ⟨w.heap.size, 1, none⟩) (by simp), World.cell?_alloc_at _ _ _ _ rfl]; rfl
      · rw [hb1.cell (p := ⟨w.heap.size, 2, none⟩) (by simp), World.cell?_alloc_at _ _ _ _ rfl]; rfl
      · rw [hb1.cell (p := ⟨w.heap.size, 5, none⟩) (by simp), World.cell?_alloc_at _ _ _ _ rfl]; rfl
      · rw [hb1.cell (p := ⟨w.heap.size, 6, none⟩) (by simp), World.cell?_alloc_at _ _ _ _ rfl]; rfl
      · rw [hb1.cell (p := ⟨w.heap.size, 7, none⟩) (by simp), World.cell?_alloc_at _ _ _ _ rfl]; rfl
      · have := hb1.size; simp at this; omega
    clear hb1 HV hcm hcm0 hcm1 hnc hnc0 hnc1
    go_wp2_with fail
    go_loopw [3] (fun i wr => ∃ (k : Nat), k ≤ n1 ∧ i = .int .i64 k ∧ wr.cell? ⟨w.heap.size, 0, none⟩ = some (.int .i64 W) ∧ wr.cell? ⟨w.heap.size, 1, none⟩ = some (.int .i64 H) ∧ wr.cell? ⟨w.heap.size, 2, none⟩ = some (.slice A n c) ∧ wr.cell? ⟨w.heap.size, 5, none⟩ = some (.slice A1 n1 c1) ∧ wr.cell? ⟨w.heap.size, 6, none⟩ = some (.slice A2 n2 c2) ∧ wr.cell? ⟨w.heap.size, 7, none⟩ = some (.slice A3 n3 c3) ∧ w.heap.size < wr.heap.size ∧ Below w.heap.size w wr) (fun i _ => n1 - (intOf i).toNat)
    case atStart => exact ⟨0, Nat.zero_le _, rfl, S1⟩
    case round =>
      clear S1
      obtain ⟨k, hk, rfl, SR⟩ := hrel
      obtain ⟨z0, z1, z2, z5, z6, z7, zs, z3⟩ := id SR
      by_cases hlt : k < n1
      · go_wp2_with fail
        clear z0 z1 z2 z5 z6 z7 zs z3
        go_loopw [4] (fun i wr => ∃ (j : Nat), j ≤ n2 ∧ i = .int .i64 j ∧ wr.cell? ⟨w.heap.size, 0, none⟩ = some (.int .i64 W) ∧ wr.cell? ⟨w.heap.size, 1, none⟩ = some (.int .i64 H) ∧ wr.cell? ⟨w.heap.size, 2, none⟩ = some (.slice A n c) ∧ wr.cell? ⟨w.heap.size, 5, none⟩ = some (.slice A1 n1 c1) ∧ wr.cell? ⟨w.heap.size, 6, none⟩ = some (.slice A2 n2 c2) ∧ wr.cell? ⟨w.heap.size, 7, none⟩ = some (.slice A3 n3 c3) ∧ w.heap.size < wr.heap.size ∧ Below w.heap.size w wr) (fun i _ => n2 - (intOf i).toNat)
        case atStart => exact ⟨0, Nat.zero_le _, rfl, SR⟩
        case round =>
          clear SR
          obtain ⟨j, hj, rfl, SR⟩ := hrel
          obtain ⟨z0, z1, z2, z5, z6, z7, zs, z3⟩ := id SR
          by_cases hlj : j < n2 ∧ j < n3
          · obtain ⟨hlj, hlj3⟩ := hlj
            obtain ⟨b, o, rfl, hb, ha1, ha2, ⟨x0, x1⟩, ⟨y0, y1⟩⟩ := (hv2.below z3).2 j hlj
            obtain ⟨_, b3, o3, rfl, hb3, hd1⟩ := (hr3.below z3).num hlj3
            obtain ⟨_, bt, ot, rfl, hbt, ht1⟩ := (hr1.below z3).num hlt
            have ki : (k : Int) < (n1 : Int) := by omega
            have ki0 : (0 : Int) ≤ (k : Int) := by omega
            have ji : (j : Int) < (n2 : Int) := by omega
            have ji3 : (j : Int) < (n3 : Int) := by omega
            have ji0 : (0 : Int) ≤ (j : Int) := by omega
            generalize (l2.getD j (0, 0)).1 = x at *
            generalize (l2.getD j (0, 0)).2 = y at *
            generalize l3.getD j 0 = r at *
            generalize l1.getD k 0 = t at *
            have SM := And.intro z0 (And.intro z1 (And.intro z2 (And.intro z5 (And.intro z6 (And.intro z7 (And.intro ht1 (And.intro ha1 (And.intro ha2 (And.intro hd1 (And.intro zs (And.intro (Nat.lt_of_lt_of_le hbt z3.size) (And.intro hb (And.intro (Nat.lt_of_lt_of_le hb3 z3.size) z3)))))))))))))
            clear z0 z1 z2 z5 z6 z7 zs z3 ht1 ha1 ha2 hd1 SR hb3 hbt
            have MEET := MEETS.out t x y r
            have MAY := fun W' => ref_may x y r W'
            by_cases hG : isG W H l = true
            · have hb5 : 1 ≤ W ∧ W ≤ 128 ∧ 1 ≤ H ∧ H ≤ 128 ∧ (l.length : Int) = W * H ∧ ∀ x ∈ l, x ≤ 5 := of_decide_eq_true hG
              obtain ⟨g1, g2, g3, g4, _⟩ := hb5
              obtain ⟨_, pr⟩ := prod_range g1 g2 g3 g4
              have TIL := fun W' => ref_tile W H t A n c W' g1 g2 g3 g4
              rw [hG] at RGW
              have RGW := Lib.hid RGW
              by_cases hF : formB x y r = true
              · rw [hF] at MAY
                have MAY := Lib.hid MAY
                by_cases hT : tileB W H t = true
                · obtain ⟨f1, f2, f3, f4, f5, f6⟩ := formB_is hF
                  obtain ⟨t0, t1⟩ : 0 ≤ t ∧ t < W * H := of_decide_eq_true hT
                  have RM := fun W' => ref_meets W H t x y r A n c W' g1 g2 t0 (by omega) f3 f4 f5 f6 f1 f2
                  rw [hT] at TIL
                  have TIL := Lib.hid TIL
                  rw [show meetR W H t x y r l = (refB W t x y r, 0) by unfold meetR; rw [if_pos ⟨hG, hF⟩, if_pos hT, hits_ref g1 g2 t0 (by omega) f3 f4 f5 f6]] at MEET
                  generalize refB W t x y r = B at *
                  have MEET := Lib.hid MEET
                  have RM := Lib.hid RM
                  cases B
                  all_goals
                    have RG := Lib.hid (fun u => calls_over (x := u) (RGW.out (over wr u) (SM.2.2.2.2.2.2.2.2.2.2.2.2.2.2.trans ((over_below wr u).mono SM.2.2.2.2.2.2.2.2.2.2.2.2.2.2.size))))
                    have MY := Lib.hid (fun u => calls_over (x := u) (MAY.out (over wr u)))

                    obtain ⟨m0, m1, m2, m3, m4, m5, m6, m7, m8, m9, u0, u1, u2, u3, u4⟩ := id SM
                    go_wp2_with fail
                    refine wp_region_over (by kernel_rfl) (by kernel_rfl) ?_
                    repeat (go_big_quiet_step (first | (go_at_call 15; with_reducible exact RG.out _) | (go_at_call 16; with_reducible exact MY.out _)))
                    refine wpQuiet_nil ?_
                    rintro w2 ⟨xq, rfl⟩
                    have hq := over_below wr xq
                    generalize over wr xq = w2 at *
                    have SM := keepm SM hq
                    clear m0 m1 m2 m3 m4 m5 m6 m7 m8 m9 u0 u1 u2 u3 u4 hq
                    have TL := Lib.hid (fun u => calls_over (x := u) (TIL.out (over w2 u)))

                    obtain ⟨m0, m1, m2, m3, m4, m5, m6, m7, m8, m9, u0, u1, u2, u3, u4⟩ := id SM
                    go_wp2_with fail
                    refine wp_region_over (by kernel_rfl) (by kernel_rfl) ?_
                    repeat (go_big_quiet_step (first | (go_at_call 17; with_reducible exact TL.out _)))
                    refine wpQuiet_nil ?_
                    rintro w3 ⟨xq, rfl⟩
                    have hq := over_below w2 xq
                    generalize over w2 xq = w3 at *
                    have SM := keepm SM hq
                    clear m0 m1 m2 m3 m4 m5 m6 m7 m8 m9 u0 u1 u2 u3 u4 hq
                    have RF := Lib.hid (fun u => calls_over (x := u) (RM.out (over w3 u)))

                    obtain ⟨m0, m1, m2, m3, m4, m5, m6, m7, m8, m9, u0, u1, u2, u3, u4⟩ := id SM
                    go_wp2_with fail
                    refine wp_region_over (by kernel_rfl) (by kernel_rfl) ?_
                    repeat (go_big_quiet_step (first | (go_at_call 18; with_reducible exact RF.out _)))
                    refine wpQuiet_nil ?_
                    rintro w4 ⟨xq, rfl⟩
                    have hq := over_below w3 xq
                    generalize over w3 xq = w4 at *
                    have SM := keepm SM hq
                    clear m0 m1 m2 m3 m4 m5 m6 m7 m8 m9 u0 u1 u2 u3 u4 hq
                    have ME := Lib.hid (fun u => calls_over (x := u) (MEET.out (over w4 u) (SM.2.2.2.2.2.2.2.2.2.2.2.2.2.2.trans ((over_below w4 u).mono SM.2.2.2.2.2.2.2.2.2.2.2.2.2.2.size))))

                    obtain ⟨m0, m1, m2, m3, m4, m5, m6, m7, m8, m9, u0, u1, u2, u3, u4⟩ := id SM
                    go_wp2_with fail
                    refine wp_region_over (by kernel_rfl) (by kernel_rfl) ?_
                    repeat (go_big_quiet_step (first | (go_at_call 19; with_reducible exact ME.out _)))
                    refine wpQuiet_nil ?_
                    rintro w7 ⟨xq, rfl⟩
                    have hq := over_below w4 xq
                    generalize over w4 xq = w7 at *
                    have SM := keepm SM hq
                    clear m0 m1 m2 m3 m4 m5 m6 m7 m8 m9 u0 u1 u2 u3 u4 hq

                    go_wp2_with (go_at_call 20; (with_reducible refine (num17 _ _).mono ?_); rintro e w19 ⟨rfl, rfl⟩)
                    go_roundw
                    case rel => exact ⟨j + 1, by omega, by go_num, SM.1, SM.2.1, SM.2.2.1, SM.2.2.2.1, SM.2.2.2.2.1, SM.2.2.2.2.2.1, SM.2.2.2.2.2.2.2.2.2.2.1, SM.2.2.2.2.2.2.2.2.2.2.2.2.2.2⟩
                    case measure => simp [intOf]; omega
                · rw [show tileB W H t = false by simpa using hT] at TIL
                  have TIL := Lib.hid TIL
                  rw [show meetR W H t x y r l = (false, 3) by unfold meetR; rw [if_pos ⟨hG, hF⟩, if_neg hT]] at MEET
                  have MEET := Lib.hid MEET
                  have RG := Lib.hid (fun u => calls_over (x := u) (RGW.out (over wr u) (SM.2.2.2.2.2.2.2.2.2.2.2.2.2.2.trans ((over_below wr u).mono SM.2.2.2.2.2.2.2.2.2.2.2.2.2.2.size))))
                  have MY := Lib.hid (fun u => calls_over (x := u) (MAY.out (over wr u)))

                  obtain ⟨m0, m1, m2, m3, m4, m5, m6, m7, m8, m9, u0, u1, u2, u3, u4⟩ := id SM
                  go_wp2_with fail
                  refine wp_region_over (by kernel_rfl) (by kernel_rfl) ?_
                  repeat (go_big_quiet_step (first | (go_at_call 15; with_reducible exact RG.out _) | (go_at_call 16; with_reducible exact MY.out _)))
                  refine wpQuiet_nil ?_
                  rintro w2 ⟨xq, rfl⟩
                  have hq := over_below wr xq
                  generalize over wr xq = w2 at *
                  have SM := keepm SM hq
                  clear m0 m1 m2 m3 m4 m5 m6 m7 m8 m9 u0 u1 u2 u3 u4 hq
                  have TL := Lib.hid (fun u => calls_over (x := u) (TIL.out (over w2 u)))

                  obtain ⟨m0, m1, m2, m3, m4, m5, m6, m7, m8, m9, u0, u1, u2, u3, u4⟩ := id SM
                  go_wp2_with fail
                  refine wp_region_over (by kernel_rfl) (by kernel_rfl) ?_
                  repeat (go_big_quiet_step (first | (go_at_call 17; with_reducible exact TL.out _)))
                  refine wpQuiet_nil ?_
                  rintro w3 ⟨xq, rfl⟩
                  have hq := over_below w2 xq
                  generalize over w2 xq = w3 at *
                  have SM := keepm SM hq
                  clear m0 m1 m2 m3 m4 m5 m6 m7 m8 m9 u0 u1 u2 u3 u4 hq
                  have ME := Lib.hid (fun u => calls_over (x := u) (MEET.out (over w3 u) (SM.2.2.2.2.2.2.2.2.2.2.2.2.2.2.trans ((over_below w3 u).mono SM.2.2.2.2.2.2.2.2.2.2.2.2.2.2.size))))

                  obtain ⟨m0, m1, m2, m3, m4, m5, m6, m7, m8, m9, u0, u1, u2, u3, u4⟩ := id SM
                  go_wp2_with fail
                  refine wp_region_over (by kernel_rfl) (by kernel_rfl) ?_
                  repeat (go_big_quiet_step (first | (go_at_call 19; with_reducible exact ME.out _)))
                  refine wpQuiet_nil ?_
                  rintro w7 ⟨xq, rfl⟩
                  have hq := over_below w3 xq
                  generalize over w3 xq = w7 at *
                  have SM := keepm SM hq
                  clear m0 m1 m2 m3 m4 m5 m6 m7 m8 m9 u0 u1 u2 u3 u4 hq

                  go_wp2_with (go_at_call 20; (with_reducible refine (num17 _ _).mono ?_); rintro e w19 ⟨rfl, rfl⟩)
                  go_roundw
                  case rel => exact ⟨j + 1, by omega, by go_num, SM.1, SM.2.1, SM.2.2.1, SM.2.2.2.1, SM.2.2.2.2.1, SM.2.2.2.2.2.1, SM.2.2.2.2.2.2.2.2.2.2.1, SM.2.2.2.2.2.2.2.2.2.2.2.2.2.2⟩
                  case measure => simp [intOf]; omega
              · rw [show formB x y r = false by simpa using hF] at MAY
                have MAY := Lib.hid MAY
                rw [show meetR W H t x y r l = (false, 1) by unfold meetR; rw [if_neg (fun h => hF h.2)]] at MEET
                have MEET := Lib.hid MEET
                have RG := Lib.hid (fun u => calls_over (x := u) (RGW.out (over wr u) (SM.2.2.2.2.2.2.2.2.2.2.2.2.2.2.trans ((over_below wr u).mono SM.2.2.2.2.2.2.2.2.2.2.2.2.2.2.size))))
                have MY := Lib.hid (fun u => calls_over (x := u) (MAY.out (over wr u)))

                obtain ⟨m0, m1, m2, m3, m4, m5, m6, m7, m8, m9, u0, u1, u2, u3, u4⟩ := id SM
                go_wp2_with fail
                refine wp_region_over (by kernel_rfl) (by kernel_rfl) ?_
                repeat (go_big_quiet_step (first | (go_at_call 15; with_reducible exact RG.out _) | (go_at_call 16; with_reducible exact MY.out _)))
                refine wpQuiet_nil ?_
                rintro w2 ⟨xq, rfl⟩
                have hq := over_below wr xq
                generalize over wr xq = w2 at *
                have SM := keepm SM hq
                clear m0 m1 m2 m3 m4 m5 m6 m7 m8 m9 u0 u1 u2 u3 u4 hq
                have ME := Lib.hid (fun u => calls_over (x := u) (MEET.out (over w2 u) (SM.2.2.2.2.2.2.2.2.2.2.2.2.2.2.trans ((over_below w2 u).mono SM.2.2.2.2.2.2.2.2.2.2.2.2.2.2.size))))

                obtain ⟨m0, m1, m2, m3, m4, m5, m6, m7, m8, m9, u0, u1, u2, u3, u4⟩ := id SM
                go_wp2_with fail
                refine wp_region_over (by kernel_rfl) (by kernel_rfl) ?_
                repeat (go_big_quiet_step (first | (go_at_call 19; with_reducible exact ME.out _)))
                refine wpQuiet_nil ?_
                rintro w7 ⟨xq, rfl⟩
                have hq := over_below w2 xq
                generalize over w2 xq = w7 at *
                have SM := keepm SM hq
                clear m0 m1 m2 m3 m4 m5 m6 m7 m8 m9 u0 u1 u2 u3 u4 hq

                go_wp2_with (go_at_call 20; (with_reducible refine (num17 _ _).mono ?_); rintro e w19 ⟨rfl, rfl⟩)
                go_roundw
                case rel => exact ⟨j + 1, by omega, by go_num, SM.1, SM.2.1, SM.2.2.1, SM.2.2.2.1, SM.2.2.2.2.1, SM.2.2.2.2.2.1, SM.2.2.2.2.2.2.2.2.2.2.1, SM.2.2.2.2.2.2.2.2.2.2.2.2.2.2⟩
                case measure => simp [intOf]; omega
            · rw [show isG W H l = false by simpa using hG] at RGW
              have RGW := Lib.hid RGW
              rw [show meetR W H t x y r l = (false, 1) by unfold meetR; rw [if_neg (fun h => hG h.1)]] at MEET
              have MEET := Lib.hid MEET
              have RG := Lib.hid (fun u => calls_over (x := u) (RGW.out (over wr u) (SM.2.2.2.2.2.2.2.2.2.2.2.2.2.2.trans ((over_below wr u).mono SM.2.2.2.2.2.2.2.2.2.2.2.2.2.2.size))))

              obtain ⟨m0, m1, m2, m3, m4, m5, m6, m7, m8, m9, u0, u1, u2, u3, u4⟩ := id SM
              go_wp2_with fail
              refine wp_region_over (by kernel_rfl) (by kernel_rfl) ?_
              repeat (go_big_quiet_step (first | (go_at_call 15; with_reducible exact RG.out _)))
              refine wpQuiet_nil ?_
              rintro w2 ⟨xq, rfl⟩
              have hq := over_below wr xq
              generalize over wr xq = w2 at *
              have SM := keepm SM hq
              clear m0 m1 m2 m3 m4 m5 m6 m7 m8 m9 u0 u1 u2 u3 u4 hq
              have ME := Lib.hid (fun u => calls_over (x := u) (MEET.out (over w2 u) (SM.2.2.2.2.2.2.2.2.2.2.2.2.2.2.trans ((over_below w2 u).mono SM.2.2.2.2.2.2.2.2.2.2.2.2.2.2.size))))

              obtain ⟨m0, m1, m2, m3, m4, m5, m6, m7, m8, m9, u0, u1, u2, u3, u4⟩ := id SM
              go_wp2_with fail
              refine wp_region_over (by kernel_rfl) (by kernel_rfl) ?_
              repeat (go_big_quiet_step (first | (go_at_call 19; with_reducible exact ME.out _)))
              refine wpQuiet_nil ?_
              rintro w7 ⟨xq, rfl⟩
              have hq := over_below w2 xq
              generalize over w2 xq = w7 at *
              have SM := keepm SM hq
              clear m0 m1 m2 m3 m4 m5 m6 m7 m8 m9 u0 u1 u2 u3 u4 hq

              go_wp2_with (go_at_call 20; (with_reducible refine (num17 _ _).mono ?_); rintro e w19 ⟨rfl, rfl⟩)
              go_roundw
              case rel => exact ⟨j + 1, by omega, by go_num, SM.1, SM.2.1, SM.2.2.1, SM.2.2.2.1, SM.2.2.2.2.1, SM.2.2.2.2.2.1, SM.2.2.2.2.2.2.2.2.2.2.1, SM.2.2.2.2.2.2.2.2.2.2.2.2.2.2⟩
              case measure => simp [intOf]; omega
          · rcases (show n2 ≤ j ∨ (j < n2 ∧ n3 ≤ j) by omega) with f1 | ⟨f1, f2⟩
            all_goals
              go_wp2
              go_roundw
              case rel => exact ⟨k + 1, by omega, by go_num, SR⟩
              case measure => simp [intOf]; omega
      · have HK := Lib.hid (fun W' => wakes17 W')
        go_wp2_with fail
        refine Calls.mono (HK.out _) ?_
        rintro e w2 ⟨rfl, hb2⟩
        go_wp2
        go_ret
        exact ⟨rfl, z3.trans (hb2.mono z3.size)⟩
  · have HV := Lib.hid (fun W' => heavy17 W H K A A0 A1 A2 A3 n c n0 c0 n1 c1 n2 c2 n3 c3 W' true (by simp [hh]))
    clear hh
    go_enter Try.func3, Try.ntmps3
    go_wp2_with fail
    refine Calls.mono (HV.out _) ?_
    rintro e w1 ⟨rfl, hb1⟩
    go_wp2
    go_ret
    exact ⟨rfl, ((Below.refl _ _).alloc (Nat.le_refl _) _).trans (hb1.mono (by simp))⟩
end lawDiscMeets
end Go.Proofs.Ytjbnpgjndohjcaa
