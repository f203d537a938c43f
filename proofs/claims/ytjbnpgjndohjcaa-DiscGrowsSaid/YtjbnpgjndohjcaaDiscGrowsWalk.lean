/- The walk of the law DiscGrows. -/
import Derived.Test.YtjbnpgjndohjcaaDiscFree
import Derived.Test.YtjbnpgjndohjcaaVecsLM
import Derived.Test.YtjbnpgjndohjcaaDiscGrowsMath
namespace Go.Proofs.Ytjbnpgjndohjcaa
set_option maxRecDepth 20000
open Go.RowKit Go.WideShapes Go.ChangeShapes

namespace lawDiscGrows
set_option maxHeartbeats 6400000 in
set_option maxRecDepth 100000 in
theorem walk {H : Type} {enc : TypeId × Value → H} (w : World) {base : Nat} (v : Value) (d : DataW H) (p : List MemPlace) (hv : Value.okWide Try.prog w .any base 30 v)
    (ht : DataW.Trod enc Try.prog w 0 (fun _ => true) true 30 v d p) : Calls Try.prog 13 #[v] w fun e w' => e = .returned (.bool true) ∧ Below w.heap.size w w' := by
  obtain ⟨W, H, K, A, n, c, ts, A0, n0, c0, A1, n1, c1, l1, A2, n2, c2, l2, A3, n3, c3, l3, rfl, hr, hl, ⟨hnc, hcm⟩, ⟨hnc0, hcm0⟩, hr1, ⟨hnc1, hcm1⟩, hv2, ⟨hnc2, hcm2⟩, hr3, hl3, ⟨hnc3, hcm3⟩⟩ := open_ask17 hv ht
  obtain ⟨l0, hv0⟩ := open_bds17 ht
  unfold maxLen at hcm hcm0 hcm1 hcm2 hcm3
  clear hv ht
  have hP := Blk.new w #[.int .i64 W, .int .i64 H, .slice A n c, .slice A0 n0 c0, .int .i64 K, .slice A1 n1 c1, .slice A2 n2 c2, .slice A3 n3 c3] 30
  have hb := (Below.refl w.heap.size w).alloc (Nat.le_refl _) (.cells #[.int .i64 W, .int .i64 H, .slice A n c, .slice A0 n0 c0, .int .i64 K, .slice A1 n1 c1, .slice A2 n2 c2, .slice A3 n3 c3] 30)
  by_cases hh : light n n0 n1 n2 n3
  case neg =>
    have HV := Lib.hid (fun W' => heavy17 W H K A A0 A1 A2 A3 n c n0 c0 n1 c1 n2 c2 n3 c3 W' true (by simp [hh]))
    clear hh hr hl hr1 hv2 hr3 hl3 hv0 hP hcm hcm0 hcm1 hcm2 hcm3 hnc hnc0 hnc1 hnc2 hnc3
    go_enter Try.func13, Try.ntmps13
    go_wp2_with fail
    refine Calls.mono (HV.out _) ?_
    rintro e w1 ⟨rfl, hb1⟩
    have HB := Lib.hid (hb.trans (hb1.mono hb.size))
    clear hb hb1 HV
    go_wp2_with fail
    go_ret
    exact ⟨rfl, HB.out⟩
  have HV := Lib.hid (fun W' => heavy17 W H K A A0 A1 A2 A3 n c n0 c0 n1 c1 n2 c2 n3 c3 W' false (by simp [hh]))
  obtain ⟨⟨hn, hn0⟩, hn1, hn2, hn3⟩ := hh
  clear hcm hcm0 hcm1 hcm2 hcm3 hnc hnc0 hnc1 hnc2 hnc3
  go_enter Try.func13, Try.ntmps13
  go_wp2_with fail
  generalize w.alloc (.cells #[.int .i64 W, .int .i64 H, .slice A n c, .slice A0 n0 c0, .int .i64 K, .slice A1 n1 c1, .slice A2 n2 c2, .slice A3 n3 c3] 30) = w1 at *
  refine Calls.mono (HV.out _) ?_
  rintro e w2 ⟨rfl, hb2⟩
  replace hP := hP.below hb2 hP.lt
  replace hb := hb.trans (hb2.mono hb.size)
  clear hb2 HV
  go_wp2_with fail
  have hpl := hP.lt
  go_loopw [3] (fun qv wr => ∃ (q : Nat), q ≤ n2 ∧ qv = .int .i64 (q : Int) ∧ Blk wr w.heap.size #[.int .i64 W, .int .i64 H, .slice A n c, .slice A0 n0 c0, .int .i64 K, .slice A1 n1 c1, .slice A2 n2 c2, .slice A3 n3 c3] 30 ∧ Below w.heap.size w wr) (fun qv _ => n2 - (intOf qv).toNat)
  case atStart => exact ⟨0, Nat.zero_le _, rfl, hP, hb⟩
  case round =>
    clear hP hb hpl
    obtain ⟨q, hq, rfl, hP, hb⟩ := hrel
    have x6 := hP.cell (i := 6) rfl
    have x7 := hP.cell (i := 7) rfl
    by_cases hqc : q < n2 ∧ q + 1 < n3
    case neg =>
      have HB := Lib.hid hb
      clear hP hb hr hv0 hr1 hv2 hr3 hl3
      rcases (show q = n2 ∨ (q < n2 ∧ n3 ≤ q + 1) by omega) with h1 | ⟨h1, h2⟩
      all_goals
        clear hqc
        go_wp2_with fail
        refine Calls.mono (ref_of 5 _) ?_
        rintro e w4 ⟨rfl, rfl⟩
        rw [show nrm 5 = 5 from by decide]
        go_wp2_with fail
        refine Calls.mono (wakes17 _) ?_
        rintro e w5 ⟨rfl, hb5⟩
        have HB2 := Lib.hid (HB.out.trans (hb5.mono HB.out.size))
        clear hb5
        go_wp2_with fail
        go_ret
        exact ⟨rfl, HB2.out⟩
    obtain ⟨hq2, hq3⟩ := hqc
    obtain ⟨b2, o2, rfl, hb2, hvx, hvy, ⟨u0, u1⟩, ⟨v0, v1⟩⟩ := (hv2.below hb).2 q hq2
    obtain ⟨_, b3, o3, rfl, hb3, hrc⟩ := (hr3.below hb).num (show q < n3 by omega)
    obtain ⟨_, _, _, he3, _, hrd⟩ := (hr3.below hb).num hq3
    simp only [Option.some.injEq, Addr.mk.injEq, and_true] at he3
    obtain ⟨rfl, rfl⟩ := he3
    generalize (l2.getD q (0, 0)).1 = x at *
    generalize (l2.getD q (0, 0)).2 = y at *
    generalize l3.getD q 0 = r1 at *
    generalize l3.getD (q + 1) 0 = r2 at *
    have hpl := hP.lt
    have hb3l := Nat.lt_trans hb3 hpl
    have hq0 : (0 : Int) ≤ (q : Int) := by omega
    have hz2 : (q : Int) < (n2 : Int) := by omega
    have hz3 : (q : Int) + 1 < (n3 : Int) := by omega
    have hz4 : (q : Int) < (n3 : Int) := by omega
    clear u0 u1 v0 v1
    go_wp2_with fail
    refine wp_region_over (by kernel_rfl) (by kernel_rfl) ?_
    repeat (go_big_quiet_step (fail))
    refine wpQuiet_nil ?_
    rintro wq ⟨xq, rfl⟩
    have hq9 := over_below wr xq
    generalize over wr xq = w4 at *
    clear x6 x7 hrc hrd hb3l
    replace hP := hP.below hq9 hpl
    replace hvx := (hq9.cell (p := ⟨b2, o2 + q * 2, none⟩) hb2).trans hvx
    replace hvy := (hq9.cell (p := ⟨b2, o2 + q * 2 + 1, none⟩) hb2).trans hvy
    replace hb2 := Nat.lt_of_lt_of_le hb2 hq9.size
    replace hb := hb.trans (hq9.mono (Nat.le_of_lt hpl))
    replace hpl := hP.lt
    clear hq9
    have hab : min r1 r2 ≤ max r1 r2 := by omega
    generalize min r1 r2 = a at *
    generalize max r1 r2 = b at *
    have MA := Lib.hid (fun W' => ref_may x y a W')
    have MB := Lib.hid (fun W' => ref_may x y b W')
    have x6 := hP.cell (i := 6) rfl
    go_wp2_with fail
    refine Calls.mono (MA.out _) ?_
    rintro e w5 ⟨rfl, hb5⟩
    clear x6 MA
    replace hP := hP.below hb5 hpl
    replace hvx := (hb5.cell (p := ⟨b2, o2 + q * 2, none⟩) hb2).trans hvx
    replace hvy := (hb5.cell (p := ⟨b2, o2 + q * 2 + 1, none⟩) hb2).trans hvy
    replace hb2 := Nat.lt_of_lt_of_le hb2 hb5.size
    replace hb := hb.trans (hb5.mono (Nat.le_of_lt hpl))
    replace hpl := hP.lt
    clear hb5
    have x6 := hP.cell (i := 6) rfl
    by_cases hFa : formB x y a = true
    case neg =>
      rw [show formB x y a = false by simpa using hFa]
      have HP := Lib.hid hP
      have HB := Lib.hid hb
      clear hP hb hvx hvy x6 MB
      go_wp2_with fail
      go_roundw
      case rel => exact ⟨q + 1, by omega, by go_num, HP.out, HB.out⟩
      case measure => simp [intOf]; omega
    rw [hFa]
    go_wp2_with fail
    refine Calls.mono (MB.out _) ?_
    rintro e w6 ⟨rfl, hb6⟩
    clear x6 MB
    replace hP := hP.below hb6 hpl
    replace hvx := (hb6.cell (p := ⟨b2, o2 + q * 2, none⟩) hb2).trans hvx
    replace hvy := (hb6.cell (p := ⟨b2, o2 + q * 2 + 1, none⟩) hb2).trans hvy
    replace hb2 := Nat.lt_of_lt_of_le hb2 hb6.size
    replace hb := hb.trans (hb6.mono (Nat.le_of_lt hpl))
    replace hpl := hP.lt
    clear hb6
    by_cases hFb : formB x y b = true
    case neg =>
      rw [show formB x y b = false by simpa using hFb]
      have HP := Lib.hid hP
      have HB := Lib.hid hb
      clear hP hb hvx hvy
      go_wp2_with fail
      go_roundw
      case rel => exact ⟨q + 1, by omega, by go_num, HP.out, HB.out⟩
      case measure => simp [intOf]; omega
    rw [hFb]
    have MEET := Lib.hid (fun (t r : Int) W' (h : Below w.heap.size w W') => disc_meets W H t x y r A n c w.heap.size ts W' (hr.below h) h.size hl)
    have GROW := Lib.hid (fun t => meet_grow (W := W) (H := H) (t := t) (l := ts) hab hFa hFb)
    go_wp2_with fail
    have hpl6 := hpl
    have hb26 := hb2
    have HP6 := Lib.hid hP
    have HB6 := Lib.hid hb
    have HVX := Lib.hid hvx
    have HVY := Lib.hid hvy
    clear hP hb hvx hvy hpl hb2
    go_loopw [6] (fun iv wx => ∃ (i : Nat), i ≤ n1 ∧ iv = .int .i64 (i : Int) ∧ Below w6.heap.size w6 wx) (fun iv _ => n1 - (intOf iv).toNat)
    case atStart => exact ⟨0, Nat.zero_le _, rfl, Below.refl _ _⟩
    case round =>
      obtain ⟨i, hi, rfl, hbl⟩ := hrel
      have HL := Lib.hid hbl
      clear hbl
      have hP := HP6.out.below HL.out hpl6
      have x5 := hP.cell (i := 5) rfl
      by_cases hin : i < n1
      case neg =>
        obtain rfl : i = n1 := by omega
        clear MEET GROW hr1 hr3 hv2 hl3
        go_wp2_with fail
        clear x5
        have hvx := (HL.out.cell (p := ⟨b2, o2 + q * 2, none⟩) hb26).trans HVX.out
        have hvy := (HL.out.cell (p := ⟨b2, o2 + q * 2 + 1, none⟩) hb26).trans HVY.out
        have hb2 := Nat.lt_of_lt_of_le hb26 HL.out.size
        have hb := HB6.out.trans (HL.out.mono HB6.out.size)
        have hpl := hP.lt
        clear HL HP6 HB6 HVX HVY
        have FAB : ∃ (FA FB : Bool) (cc : Int), (∀ W', Below w.heap.size w W' → Calls Try.prog 41 #[.agg #[.int .i64 W, .int .i64 H, .slice A n c], .slice A0 n0 c0, .int .i64 K, .agg #[.int .i64 x, .int .i64 y], .int .i64 a] W' fun e w' => e = .returned (.tuple #[.bool FA, .int .i64 cc]) ∧ Below W'.heap.size W' w') ∧ (∀ W', Below w.heap.size w W' → Calls Try.prog 41 #[.agg #[.int .i64 W, .int .i64 H, .slice A n c], .slice A0 n0 c0, .int .i64 K, .agg #[.int .i64 x, .int .i64 y], .int .i64 b] W' fun e w' => e = .returned (.tuple #[.bool FB, .int .i64 cc]) ∧ Below W'.heap.size W' w') ∧ (FB = true → FA = true) := by
          by_cases hA : allP n W H ts l0 K
          · exact ⟨_, _, _, fun W' h => disc_free W H K x y a A n c w.heap.size ts A0 n0 c0 l0 W' (hr.below h) h.size hl (hv0.below h) (by omega) hA hFa, fun W' h => disc_free W H K x y b A n c w.heap.size ts A0 n0 c0 l0 W' (hr.below h) h.size hl (hv0.below h) (by omega) hA hFb, fun h => free_mono hab h⟩
          · exact ⟨_, _, _, fun W' h => disc_free_no W H K x y a A n c w.heap.size ts A0 n0 c0 l0 W' (hr.below h) h.size hl (hv0.below h) (by omega) (fun h => hA h.1), fun W' h => disc_free_no W H K x y b A n c w.heap.size ts A0 n0 c0 l0 W' (hr.below h) h.size hl (hv0.below h) (by omega) (fun h => hA h.1), id⟩
        obtain ⟨FA, FB, cc, CA, CB, hFF⟩ := FAB
        clear hr hv0 hab hFa hFb
        have CA9 := Lib.hid (fun u => calls_over (x := u) (CA (over wr u) (hb.trans ((over_below wr u).mono (Nat.le_of_lt hpl)))))
        replace CB := Lib.hid CB
        clear CA
        have x0 := hP.cell (i := 0) rfl
        have x1 := hP.cell (i := 1) rfl
        have x2 := hP.cell (i := 2) rfl
        have x3 := hP.cell (i := 3) rfl
        have x4 := hP.cell (i := 4) rfl
        have x6 := hP.cell (i := 6) rfl
        go_wp2_with fail
        refine wp_region_over (by kernel_rfl) (by kernel_rfl) ?_
        repeat (go_big_quiet_step (first | (go_at_call 41; with_reducible exact CA9.out _)))
        refine wpQuiet_nil ?_
        rintro wq ⟨xq, rfl⟩
        have hq9 := over_below wr xq
        generalize over wr xq = w8 at *
        clear x0 x1 x2 x3 x4 x6
        replace hP := hP.below hq9 hpl
        replace hvx := (hq9.cell (p := ⟨b2, o2 + q * 2, none⟩) hb2).trans hvx
        replace hvy := (hq9.cell (p := ⟨b2, o2 + q * 2 + 1, none⟩) hb2).trans hvy
        replace hb2 := Nat.lt_of_lt_of_le hb2 hq9.size
        replace hb := hb.trans (hq9.mono (Nat.le_of_lt hpl))
        replace hpl := hP.lt
        clear hq9
        have CB9 := Lib.hid (fun u => calls_over (x := u) (CB.out (over w8 u) (hb.trans ((over_below w8 u).mono (Nat.le_of_lt hpl)))))
        have x0 := hP.cell (i := 0) rfl
        have x1 := hP.cell (i := 1) rfl
        have x2 := hP.cell (i := 2) rfl
        have x3 := hP.cell (i := 3) rfl
        have x4 := hP.cell (i := 4) rfl
        have x6 := hP.cell (i := 6) rfl
        go_wp2_with fail
        refine wp_region_over (by kernel_rfl) (by kernel_rfl) ?_
        repeat (go_big_quiet_step (first | (go_at_call 41; with_reducible exact CB9.out _)))
        refine wpQuiet_nil ?_
        rintro wq ⟨xq, rfl⟩
        have hq9 := over_below w8 xq
        generalize over w8 xq = w9 at *
        clear x0 x1 x2 x3 x4 x6
        replace hP := hP.below hq9 hpl
        replace hvx := (hq9.cell (p := ⟨b2, o2 + q * 2, none⟩) hb2).trans hvx
        replace hvy := (hq9.cell (p := ⟨b2, o2 + q * 2 + 1, none⟩) hb2).trans hvy
        replace hb2 := Nat.lt_of_lt_of_le hb2 hq9.size
        replace hb := hb.trans (hq9.mono (Nat.le_of_lt hpl))
        replace hpl := hP.lt
        clear hq9
        have HP := Lib.hid hP
        have HB := Lib.hid hb
        clear CA9 CB CB9 hP hb hvx hvy
        cases FB
        case' true => obtain rfl : FA = true := hFF rfl
        case' false => skip
        all_goals
          clear hFF
          go_wp2_with (go_at_call 20; (with_reducible refine (num17 _ _).mono ?_); rintro e w19 ⟨rfl, rfl⟩)
          go_roundw
          case rel => exact ⟨q + 1, by omega, by go_num, HP.out, HB.out⟩
          case measure => simp [intOf]; omega
      have hiz : (i : Int) < (n1 : Int) := by omega
      have hb6l := HB6.out.trans (HL.out.mono HB6.out.size)
      obtain ⟨_, b1, o1, rfl, hb1, htc⟩ := (hr1.below hb6l).num hin
      generalize l1.getD i 0 = t at *
      obtain ⟨MAb, MBb, cc, e1, e2, e3, hAB⟩ := GROW.out t
      have M1 := fun W' h => MEET.out t a W' h
      have M2 := fun W' h => MEET.out t b W' h
      have M3 := fun W' h => MEET.out t 0 W' h
      rw [e1] at M1
      rw [e2] at M2
      rw [e3] at M3
      replace M1 := Lib.hid M1
      replace M2 := Lib.hid M2
      replace M3 := Lib.hid M3
      clear e1 e2 e3 GROW MEET hr hv0 hr1 hv2 hr3 hl3 hab hFa hFb
      have hb1l := Nat.lt_trans hb1 hP.lt
      have hvx := (HL.out.cell (p := ⟨b2, o2 + q * 2, none⟩) hb26).trans HVX.out
      have hvy := (HL.out.cell (p := ⟨b2, o2 + q * 2 + 1, none⟩) hb26).trans HVY.out
      have hb2 := Nat.lt_of_lt_of_le hb26 HL.out.size
      have hb := hb6l
      have hpl := hP.lt
      have HLk := HL
      clear hb6l x5
      have M9 := Lib.hid (fun u => calls_over (x := u) (M1.out (over wr u) (hb.trans ((over_below wr u).mono (Nat.le_of_lt hpl)))))
      have x0 := hP.cell (i := 0) rfl
      have x1 := hP.cell (i := 1) rfl
      have x2 := hP.cell (i := 2) rfl
      have x5 := hP.cell (i := 5) rfl
      have x6 := hP.cell (i := 6) rfl
      go_wp2_with fail
      refine wp_region_over (by kernel_rfl) (by kernel_rfl) ?_
      repeat (go_big_quiet_step (first | (go_at_call 19; with_reducible exact M9.out _)))
      refine wpQuiet_nil ?_
      rintro wq ⟨xq, rfl⟩
      have hq9 := over_below wr xq
      generalize over wr xq = w7 at *
      clear x0 x1 x2 x5 x6
      replace hP := hP.below hq9 hpl
      replace hvx := (hq9.cell (p := ⟨b2, o2 + q * 2, none⟩) hb2).trans hvx
      replace hvy := (hq9.cell (p := ⟨b2, o2 + q * 2 + 1, none⟩) hb2).trans hvy
      replace hb2 := Nat.lt_of_lt_of_le hb2 hq9.size
      replace hb := hb.trans (hq9.mono (Nat.le_of_lt hpl))
      replace hpl := hP.lt
      replace htc := (hq9.cell (p := ⟨b1, o1 + i, none⟩) hb1l).trans htc
      replace hb1l := Nat.lt_of_lt_of_le hb1l hq9.size
      replace HLk := Lib.hid (HLk.out.trans (hq9.mono HLk.out.size))
      clear hq9
      clear M9 M1
      have M9 := Lib.hid (fun u => calls_over (x := u) (M2.out (over w7 u) (hb.trans ((over_below w7 u).mono (Nat.le_of_lt hpl)))))
      have x0 := hP.cell (i := 0) rfl
      have x1 := hP.cell (i := 1) rfl
      have x2 := hP.cell (i := 2) rfl
      have x5 := hP.cell (i := 5) rfl
      have x6 := hP.cell (i := 6) rfl
      go_wp2_with fail
      refine wp_region_over (by kernel_rfl) (by kernel_rfl) ?_
      repeat (go_big_quiet_step (first | (go_at_call 19; with_reducible exact M9.out _)))
      refine wpQuiet_nil ?_
      rintro wq ⟨xq, rfl⟩
      have hq9 := over_below w7 xq
      generalize over w7 xq = w8 at *
      clear x0 x1 x2 x5 x6
      replace hP := hP.below hq9 hpl
      replace hvx := (hq9.cell (p := ⟨b2, o2 + q * 2, none⟩) hb2).trans hvx
      replace hvy := (hq9.cell (p := ⟨b2, o2 + q * 2 + 1, none⟩) hb2).trans hvy
      replace hb2 := Nat.lt_of_lt_of_le hb2 hq9.size
      replace hb := hb.trans (hq9.mono (Nat.le_of_lt hpl))
      replace hpl := hP.lt
      replace htc := (hq9.cell (p := ⟨b1, o1 + i, none⟩) hb1l).trans htc
      replace hb1l := Nat.lt_of_lt_of_le hb1l hq9.size
      replace HLk := Lib.hid (HLk.out.trans (hq9.mono HLk.out.size))
      clear hq9
      clear M9 M2
      have M9 := Lib.hid (fun u => calls_over (x := u) (M3.out (over w8 u) (hb.trans ((over_below w8 u).mono (Nat.le_of_lt hpl)))))
      have x0 := hP.cell (i := 0) rfl
      have x1 := hP.cell (i := 1) rfl
      have x2 := hP.cell (i := 2) rfl
      have x5 := hP.cell (i := 5) rfl
      have x6 := hP.cell (i := 6) rfl
      go_wp2_with fail
      refine wp_region_over (by kernel_rfl) (by kernel_rfl) ?_
      repeat (go_big_quiet_step (first | (go_at_call 19; with_reducible exact M9.out _)))
      refine wpQuiet_nil ?_
      rintro wq ⟨xq, rfl⟩
      have hq9 := over_below w8 xq
      generalize over w8 xq = w9 at *
      clear x0 x1 x2 x5 x6
      replace hP := hP.below hq9 hpl
      replace hvx := (hq9.cell (p := ⟨b2, o2 + q * 2, none⟩) hb2).trans hvx
      replace hvy := (hq9.cell (p := ⟨b2, o2 + q * 2 + 1, none⟩) hb2).trans hvy
      replace hb2 := Nat.lt_of_lt_of_le hb2 hq9.size
      replace hb := hb.trans (hq9.mono (Nat.le_of_lt hpl))
      replace hpl := hP.lt
      replace htc := (hq9.cell (p := ⟨b1, o1 + i, none⟩) hb1l).trans htc
      replace hb1l := Nat.lt_of_lt_of_le hb1l hq9.size
      replace HLk := Lib.hid (HLk.out.trans (hq9.mono HLk.out.size))
      clear hq9
      clear M9 M3
      clear hP hb hvx hvy htc HL
      cases MAb
      case' true => obtain rfl : MBb = true := hAB rfl
      case' false => skip
      all_goals
        clear hAB
        go_wp2_with (go_at_call 20; (with_reducible refine (num17 _ _).mono ?_); rintro e w19 ⟨rfl, rfl⟩)
        go_roundw
        case rel => exact ⟨i + 1, by omega, by go_num, HLk.out⟩
        case measure => simp [intOf]; omega
end lawDiscGrows
end Go.Proofs.Ytjbnpgjndohjcaa
