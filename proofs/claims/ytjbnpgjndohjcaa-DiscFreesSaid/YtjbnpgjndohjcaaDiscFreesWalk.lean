/- The walk of the law DiscFrees. -/
import Derived.Test.YtjbnpgjndohjcaaDiscFree
import Derived.Test.YtjbnpgjndohjcaaVecsLM
import Derived.Test.YtjbnpgjndohjcaaRefMay8
namespace Go.Proofs.Ytjbnpgjndohjcaa
set_option maxRecDepth 20000
open Go.RowKit Go.WideShapes Go.ChangeShapes

namespace lawDiscFrees
set_option maxHeartbeats 6400000 in
set_option maxRecDepth 100000 in
theorem walk {H : Type} {enc : TypeId × Value → H} (w : World) {base : Nat} (v : Value) (d : DataW H) (p : List MemPlace) (hv : Value.okWide Try.prog w .any base 30 v)
    (ht : DataW.Trod enc Try.prog w 0 (fun _ => true) true 30 v d p) : Calls Try.prog 11 #[v] w fun e w' => e = .returned (.bool true) ∧ Below w.heap.size w w' := by
  obtain ⟨W, H, K, A, n, c, ts, A0, n0, c0, A1, n1, c1, l1, A2, n2, c2, l2, A3, n3, c3, l3, rfl, hr, hl, ⟨hnc, hcm⟩, ⟨hnc0, hcm0⟩, hr1, ⟨hnc1, hcm1⟩, hv2, ⟨hnc2, hcm2⟩, hr3, hl3, ⟨hnc3, hcm3⟩⟩ := open_ask17 hv ht
  obtain ⟨l0, hv0⟩ := open_bds17 ht
  unfold maxLen at hcm hcm0 hcm1 hcm2 hcm3
  clear hv ht
  have hP := Blk.new w #[.int .i64 W, .int .i64 H, .slice A n c, .slice A0 n0 c0, .int .i64 K, .slice A1 n1 c1, .slice A2 n2 c2, .slice A3 n3 c3] 30
  have hb := (Below.refl w.heap.size w).alloc (Nat.le_refl _) (.cells #[.int .i64 W, .int .i64 H, .slice A n c, .slice A0 n0 c0, .int .i64 K, .slice A1 n1 c1, .slice A2 n2 c2, .slice A3 n3 c3] 30)
  by_cases hh : light n n0 n1 n2 n3
  case neg =>
    have HV := Lib.hid (fun W' => heavy17 W H K A A0 A1 A2 A3 n c n0 c0 n1 c1 n2 c2 n3 c3 W' true (by simp [hh]))
    clear hh hr hl hr1 hv2 hr3 hl3 hv0 hP hcm hcm0 hcm1 hcm2 hcm3 hnc hnc0 hnc1 hnc2 hnc3
    go_enter Try.func11, Try.ntmps11
    go_wp2_with fail
    refine Calls.mono (HV.out _) ?_
    rintro e w1 ⟨rfl, hb1⟩
    have HB := Lib.hid (hb.trans (hb1.mono hb.size))
    clear hb hb1 HV
    go_wp2_with fail
    go_ret
    exact ⟨rfl, HB.out⟩
  have HV := Lib.hid (fun W' => heavy17 W H K A A0 A1 A2 A3 n c n0 c0 n1 c1 n2 c2 n3 c3 W' false (by simp [hh]))
  obtain ⟨⟨hn, hn0⟩, hn1, hn2, hn3⟩ := hh
  clear hcm hcm0 hcm1 hcm2 hcm3 hnc hnc0 hnc1 hnc2 hnc3
  go_enter Try.func11, Try.ntmps11
  go_wp2_with fail
  generalize w.alloc (.cells #[.int .i64 W, .int .i64 H, .slice A n c, .slice A0 n0 c0, .int .i64 K, .slice A1 n1 c1, .slice A2 n2 c2, .slice A3 n3 c3] 30) = w1 at *
  refine Calls.mono (HV.out _) ?_
  rintro e w2 ⟨rfl, hb2⟩
  replace hP := hP.below hb2 hP.lt
  replace hb := hb.trans (hb2.mono hb.size)
  clear hb2 HV
  have x0 := hP.cell (i := 0) rfl
  have x1 := hP.cell (i := 1) rfl
  have x2 := hP.cell (i := 2) rfl
  have x3 := hP.cell (i := 3) rfl
  have x4 := hP.cell (i := 4) rfl
  have hrP := hr.below hb
  have hvP := hv0.below hb
  have M := Lib.hid (ref_may8 W H A n c w.heap.size ts A0 n0 c0 l0 w2 hrP hb.size hl hvP (by omega) (by omega))
  have KC := Lib.hid (fun W' => ref_class K W')
  clear hrP hvP
  go_wp2_with fail
  refine Calls.mono M.out ?_
  rintro e w3 ⟨rfl, hb3⟩
  clear M x0 x1 x2 x3 x4
  replace hP := hP.below hb3 hP.lt
  replace hb := hb.trans (hb3.mono hb.size)
  clear hb3
  by_cases hm : isG W H ts = true ∧ mayP n W H ts l0
  case neg =>
    have hA : ¬ allP n W H ts l0 K := fun h => hm ⟨h.1, h.2.1⟩
    rw [decide_eq_false hm]
    clear hm KC
    go_wp2_with fail
    go_loopw [4] (fun qv wr => ∃ (q : Nat), q ≤ n2 ∧ qv = .int .i64 (q : Int) ∧ Blk wr w.heap.size #[.int .i64 W, .int .i64 H, .slice A n c, .slice A0 n0 c0, .int .i64 K, .slice A1 n1 c1, .slice A2 n2 c2, .slice A3 n3 c3] 30 ∧ Below w.heap.size w wr) (fun qv _ => n2 - (intOf qv).toNat)
    case atStart => exact ⟨0, Nat.zero_le _, rfl, hP, hb⟩
    case round =>
      clear hP hb
      obtain ⟨q, hq, rfl, hP, hb⟩ := hrel
      by_cases hqc : q < n2 ∧ q < n3
      case neg =>
        have x6 := hP.cell (i := 6) rfl
        have x7 := hP.cell (i := 7) rfl
        have HB := Lib.hid hb
        clear hP hb hr hv0 hr1 hv2 hr3 hl3
        rcases (show q = n2 ∨ (q < n2 ∧ n3 ≤ q) by omega) with h1 | ⟨h1, h2⟩
        all_goals
          clear hqc
          go_wp2_with fail
          refine Calls.mono (wakes17 _) ?_
          rintro e w5 ⟨rfl, hb5⟩
          have HB2 := Lib.hid (HB.out.trans (hb5.mono HB.out.size))
          clear hb5
          go_wp2_with fail
          go_ret
          exact ⟨rfl, HB2.out⟩
      obtain ⟨hq2, hq3⟩ := hqc
      obtain ⟨b2, o2, rfl, hb2, hvx, hvy, ⟨x0, x1⟩, ⟨y0, y1⟩⟩ := (hv2.below hb).2 q hq2
      obtain ⟨_, b3, o3, rfl, hb3, hrc⟩ := (hr3.below hb).num hq3
      have hrP := hr.below hb
      have hvP := hv0.below hb
      generalize (l2.getD q (0, 0)).1 = x at *
      generalize (l2.getD q (0, 0)).2 = y at *
      generalize l3.getD q 0 = r at *
      have hpl := hP.lt
      replace hb3 := Nat.lt_trans hb3 hpl
      have hq0 : (0 : Int) ≤ (q : Int) := by omega
      have hz2 : (q : Int) < (n2 : Int) := by omega
      have hz3 : (q : Int) < (n3 : Int) := by omega
      clear hr hv0 hr1 hv2 hr3 hl3 x0 x1 y0 y1
      have x0 := hP.cell (i := 0) rfl
      have x1 := hP.cell (i := 1) rfl
      have x2 := hP.cell (i := 2) rfl
      have x3 := hP.cell (i := 3) rfl
      have x4 := hP.cell (i := 4) rfl
      have x5 := hP.cell (i := 5) rfl
      have x6 := hP.cell (i := 6) rfl
      have x7 := hP.cell (i := 7) rfl
      go_wp2_with fail
      refine wp_region_over (by kernel_rfl) (by kernel_rfl) ?_
      repeat (go_big_quiet_step (first | (fail)))
      refine wpQuiet_nil ?_
      rintro wq ⟨xq, rfl⟩
      have hq9 := over_below wr xq
      generalize over wr xq = w6 at *
      clear x0 x1 x2 x3 x4 x5 x6 x7
      replace hP := hP.below hq9 hpl
      replace hvx := (hq9.cell (p := ⟨b2, o2 + q * 2, none⟩) hb2).trans hvx
      replace hvy := (hq9.cell (p := ⟨b2, o2 + q * 2 + 1, none⟩) hb2).trans hvy
      replace hrc := (hq9.cell (p := ⟨b3, o3 + q, none⟩) hb3).trans hrc
      replace hrP := hrP.below (hq9.mono (Nat.le_of_lt hpl))
      replace hvP := hvP.below hq9
      replace hb := hb.trans (hq9.mono (Nat.le_of_lt hpl))
      replace hpl := hP.lt
      replace hb2 := Nat.lt_of_lt_of_le hb2 hq9.size
      replace hb3 := Nat.lt_of_lt_of_le hb3 hq9.size
      clear hq9
      have FF := Lib.hid (fun u => calls_over (x := u) (disc_free_no W H K x y r A n c w.heap.size ts A0 n0 c0 l0 (over w6 u) (hrP.below ((over_below w6 u).mono (Nat.le_of_lt hpl))) (Nat.le_trans (Nat.le_of_lt hpl) (over_below w6 u).size) hl (hvP.below (over_below w6 u)) (by omega) (fun h => hA h.1)))
      have x0 := hP.cell (i := 0) rfl
      have x1 := hP.cell (i := 1) rfl
      have x2 := hP.cell (i := 2) rfl
      have x3 := hP.cell (i := 3) rfl
      have x4 := hP.cell (i := 4) rfl
      have x5 := hP.cell (i := 5) rfl
      have x6 := hP.cell (i := 6) rfl
      have x7 := hP.cell (i := 7) rfl
      go_wp2_with fail
      refine wp_region_over (by kernel_rfl) (by kernel_rfl) ?_
      repeat (go_big_quiet_step (first | (go_at_call 41; with_reducible exact FF.out _)))
      refine wpQuiet_nil ?_
      rintro wq ⟨xq, rfl⟩
      have hq9 := over_below w6 xq
      generalize over w6 xq = w7 at *
      clear x0 x1 x2 x3 x4 x5 x6 x7
      replace hP := hP.below hq9 hpl
      replace hvx := (hq9.cell (p := ⟨b2, o2 + q * 2, none⟩) hb2).trans hvx
      replace hvy := (hq9.cell (p := ⟨b2, o2 + q * 2 + 1, none⟩) hb2).trans hvy
      replace hrc := (hq9.cell (p := ⟨b3, o3 + q, none⟩) hb3).trans hrc
      replace hrP := hrP.below (hq9.mono (Nat.le_of_lt hpl))
      replace hvP := hvP.below hq9
      replace hb := hb.trans (hq9.mono (Nat.le_of_lt hpl))
      replace hpl := hP.lt
      replace hb2 := Nat.lt_of_lt_of_le hb2 hq9.size
      replace hb3 := Nat.lt_of_lt_of_le hb3 hq9.size
      clear hq9
      have HP := Lib.hid hP
      have HB := Lib.hid hb
      clear FF hP hb hrP hvP hvx hvy hrc
      go_wp2_with (go_at_call 20; (with_reducible refine (num17 _ _).mono ?_); rintro e w19 ⟨rfl, rfl⟩)
      go_roundw
      case rel => exact ⟨q + 1, by omega, by go_num, HP.out, HB.out⟩
      case measure => simp [intOf]; omega
  rw [decide_eq_true hm]
  have x4 := hP.cell (i := 4) rfl
  go_wp2_with fail
  refine Calls.mono (KC.out _) ?_
  rintro e wn ⟨rfl, rfl⟩
  clear x4 KC
  by_cases hk : 0 ≤ K ∧ K ≤ 2
  case neg =>
    have hA : ¬ allP n W H ts l0 K := fun h => hk h.2.2
    rw [decide_eq_false hk]
    clear hm hk
    go_wp2_with fail
    go_loopw [4] (fun qv wr => ∃ (q : Nat), q ≤ n2 ∧ qv = .int .i64 (q : Int) ∧ Blk wr w.heap.size #[.int .i64 W, .int .i64 H, .slice A n c, .slice A0 n0 c0, .int .i64 K, .slice A1 n1 c1, .slice A2 n2 c2, .slice A3 n3 c3] 30 ∧ Below w.heap.size w wr) (fun qv _ => n2 - (intOf qv).toNat)
    case atStart => exact ⟨0, Nat.zero_le _, rfl, hP, hb⟩
    case round =>
      clear hP hb
      obtain ⟨q, hq, rfl, hP, hb⟩ := hrel
      by_cases hqc : q < n2 ∧ q < n3
      case neg =>
        have x6 := hP.cell (i := 6) rfl
        have x7 := hP.cell (i := 7) rfl
        have HB := Lib.hid hb
        clear hP hb hr hv0 hr1 hv2 hr3 hl3
        rcases (show q = n2 ∨ (q < n2 ∧ n3 ≤ q) by omega) with h1 | ⟨h1, h2⟩
        all_goals
          clear hqc
          go_wp2_with fail
          refine Calls.mono (wakes17 _) ?_
          rintro e w5 ⟨rfl, hb5⟩
          have HB2 := Lib.hid (HB.out.trans (hb5.mono HB.out.size))
          clear hb5
          go_wp2_with fail
          go_ret
          exact ⟨rfl, HB2.out⟩
      obtain ⟨hq2, hq3⟩ := hqc
      obtain ⟨b2, o2, rfl, hb2, hvx, hvy, ⟨x0, x1⟩, ⟨y0, y1⟩⟩ := (hv2.below hb).2 q hq2
      obtain ⟨_, b3, o3, rfl, hb3, hrc⟩ := (hr3.below hb).num hq3
      have hrP := hr.below hb
      have hvP := hv0.below hb
      generalize (l2.getD q (0, 0)).1 = x at *
      generalize (l2.getD q (0, 0)).2 = y at *
      generalize l3.getD q 0 = r at *
      have hpl := hP.lt
      replace hb3 := Nat.lt_trans hb3 hpl
      have hq0 : (0 : Int) ≤ (q : Int) := by omega
      have hz2 : (q : Int) < (n2 : Int) := by omega
      have hz3 : (q : Int) < (n3 : Int) := by omega
      clear hr hv0 hr1 hv2 hr3 hl3 x0 x1 y0 y1
      have x0 := hP.cell (i := 0) rfl
      have x1 := hP.cell (i := 1) rfl
      have x2 := hP.cell (i := 2) rfl
      have x3 := hP.cell (i := 3) rfl
      have x4 := hP.cell (i := 4) rfl
      have x5 := hP.cell (i := 5) rfl
      have x6 := hP.cell (i := 6) rfl
      have x7 := hP.cell (i := 7) rfl
      go_wp2_with fail
      refine wp_region_over (by kernel_rfl) (by kernel_rfl) ?_
      repeat (go_big_quiet_step (first | (fail)))
      refine wpQuiet_nil ?_
      rintro wq ⟨xq, rfl⟩
      have hq9 := over_below wr xq
      generalize over wr xq = w6 at *
      clear x0 x1 x2 x3 x4 x5 x6 x7
      replace hP := hP.below hq9 hpl
      replace hvx := (hq9.cell (p := ⟨b2, o2 + q * 2, none⟩) hb2).trans hvx
      replace hvy := (hq9.cell (p := ⟨b2, o2 + q * 2 + 1, none⟩) hb2).trans hvy
      replace hrc := (hq9.cell (p := ⟨b3, o3 + q, none⟩) hb3).trans hrc
      replace hrP := hrP.below (hq9.mono (Nat.le_of_lt hpl))
      replace hvP := hvP.below hq9
      replace hb := hb.trans (hq9.mono (Nat.le_of_lt hpl))
      replace hpl := hP.lt
      replace hb2 := Nat.lt_of_lt_of_le hb2 hq9.size
      replace hb3 := Nat.lt_of_lt_of_le hb3 hq9.size
      clear hq9
      have FF := Lib.hid (fun u => calls_over (x := u) (disc_free_no W H K x y r A n c w.heap.size ts A0 n0 c0 l0 (over w6 u) (hrP.below ((over_below w6 u).mono (Nat.le_of_lt hpl))) (Nat.le_trans (Nat.le_of_lt hpl) (over_below w6 u).size) hl (hvP.below (over_below w6 u)) (by omega) (fun h => hA h.1)))
      have x0 := hP.cell (i := 0) rfl
      have x1 := hP.cell (i := 1) rfl
      have x2 := hP.cell (i := 2) rfl
      have x3 := hP.cell (i := 3) rfl
      have x4 := hP.cell (i := 4) rfl
      have x5 := hP.cell (i := 5) rfl
      have x6 := hP.cell (i := 6) rfl
      have x7 := hP.cell (i := 7) rfl
      go_wp2_with fail
      refine wp_region_over (by kernel_rfl) (by kernel_rfl) ?_
      repeat (go_big_quiet_step (first | (go_at_call 41; with_reducible exact FF.out _)))
      refine wpQuiet_nil ?_
      rintro wq ⟨xq, rfl⟩
      have hq9 := over_below w6 xq
      generalize over w6 xq = w7 at *
      clear x0 x1 x2 x3 x4 x5 x6 x7
      replace hP := hP.below hq9 hpl
      replace hvx := (hq9.cell (p := ⟨b2, o2 + q * 2, none⟩) hb2).trans hvx
      replace hvy := (hq9.cell (p := ⟨b2, o2 + q * 2 + 1, none⟩) hb2).trans hvy
      replace hrc := (hq9.cell (p := ⟨b3, o3 + q, none⟩) hb3).trans hrc
      replace hrP := hrP.below (hq9.mono (Nat.le_of_lt hpl))
      replace hvP := hvP.below hq9
      replace hb := hb.trans (hq9.mono (Nat.le_of_lt hpl))
      replace hpl := hP.lt
      replace hb2 := Nat.lt_of_lt_of_le hb2 hq9.size
      replace hb3 := Nat.lt_of_lt_of_le hb3 hq9.size
      clear hq9
      have HP := Lib.hid hP
      have HB := Lib.hid hb
      clear FF hP hb hrP hvP hvx hvy hrc
      go_wp2_with (go_at_call 20; (with_reducible refine (num17 _ _).mono ?_); rintro e w19 ⟨rfl, rfl⟩)
      go_roundw
      case rel => exact ⟨q + 1, by omega, by go_num, HP.out, HB.out⟩
      case measure => simp [intOf]; omega
  have hA : allP n W H ts l0 K := ⟨hm.1, hm.2, hk⟩
  rw [decide_eq_true hk]
  clear hm hk
  go_wp2_with fail
  go_loopw [4] (fun qv wr => ∃ (q : Nat), q ≤ n2 ∧ qv = .int .i64 (q : Int) ∧ Blk wr w.heap.size #[.int .i64 W, .int .i64 H, .slice A n c, .slice A0 n0 c0, .int .i64 K, .slice A1 n1 c1, .slice A2 n2 c2, .slice A3 n3 c3] 30 ∧ Below w.heap.size w wr) (fun qv _ => n2 - (intOf qv).toNat)
  case atStart => exact ⟨0, Nat.zero_le _, rfl, hP, hb⟩
  case round =>
    clear hP hb
    obtain ⟨q, hq, rfl, hP, hb⟩ := hrel
    by_cases hqc : q < n2 ∧ q < n3
    case neg =>
      have x6 := hP.cell (i := 6) rfl
      have x7 := hP.cell (i := 7) rfl
      have HB := Lib.hid hb
      clear hP hb hr hv0 hr1 hv2 hr3 hl3
      rcases (show q = n2 ∨ (q < n2 ∧ n3 ≤ q) by omega) with h1 | ⟨h1, h2⟩
      all_goals
        clear hqc
        go_wp2_with fail
        refine Calls.mono (wakes17 _) ?_
        rintro e w5 ⟨rfl, hb5⟩
        have HB2 := Lib.hid (HB.out.trans (hb5.mono HB.out.size))
        clear hb5
        go_wp2_with fail
        go_ret
        exact ⟨rfl, HB2.out⟩
    obtain ⟨hq2, hq3⟩ := hqc
    obtain ⟨b2, o2, rfl, hb2, hvx, hvy, ⟨x0, x1⟩, ⟨y0, y1⟩⟩ := (hv2.below hb).2 q hq2
    obtain ⟨_, b3, o3, rfl, hb3, hrc⟩ := (hr3.below hb).num hq3
    have hrP := hr.below hb
    have hvP := hv0.below hb
    generalize (l2.getD q (0, 0)).1 = x at *
    generalize (l2.getD q (0, 0)).2 = y at *
    generalize l3.getD q 0 = r at *
    have hpl := hP.lt
    replace hb3 := Nat.lt_trans hb3 hpl
    have hq0 : (0 : Int) ≤ (q : Int) := by omega
    have hz2 : (q : Int) < (n2 : Int) := by omega
    have hz3 : (q : Int) < (n3 : Int) := by omega
    clear hr hv0 hr1 hv2 hr3 hl3 x0 x1 y0 y1
    have MY := Lib.hid (fun u => calls_over (x := u) (ref_may x y r (over wr u)))
    by_cases hF : formB x y r = true
    case neg =>
      have hF' : formB x y r = false := by simpa using hF
      rw [hF'] at MY
      have x0 := hP.cell (i := 0) rfl
      have x1 := hP.cell (i := 1) rfl
      have x2 := hP.cell (i := 2) rfl
      have x3 := hP.cell (i := 3) rfl
      have x4 := hP.cell (i := 4) rfl
      have x5 := hP.cell (i := 5) rfl
      have x6 := hP.cell (i := 6) rfl
      have x7 := hP.cell (i := 7) rfl
      go_wp2_with fail
      refine wp_region_over (by kernel_rfl) (by kernel_rfl) ?_
      repeat (go_big_quiet_step (first | (go_at_call 16; with_reducible exact MY.out _)))
      refine wpQuiet_nil ?_
      rintro wq ⟨xq, rfl⟩
      have hq9 := over_below wr xq
      generalize over wr xq = w6 at *
      clear x0 x1 x2 x3 x4 x5 x6 x7
      replace hP := hP.below hq9 hpl
      replace hvx := (hq9.cell (p := ⟨b2, o2 + q * 2, none⟩) hb2).trans hvx
      replace hvy := (hq9.cell (p := ⟨b2, o2 + q * 2 + 1, none⟩) hb2).trans hvy
      replace hrc := (hq9.cell (p := ⟨b3, o3 + q, none⟩) hb3).trans hrc
      replace hrP := hrP.below (hq9.mono (Nat.le_of_lt hpl))
      replace hvP := hvP.below hq9
      replace hb := hb.trans (hq9.mono (Nat.le_of_lt hpl))
      replace hpl := hP.lt
      replace hb2 := Nat.lt_of_lt_of_le hb2 hq9.size
      replace hb3 := Nat.lt_of_lt_of_le hb3 hq9.size
      clear hq9
      clear MY
      have FF := Lib.hid (fun u => calls_over (x := u) (disc_free_no W H K x y r A n c w.heap.size ts A0 n0 c0 l0 (over w6 u) (hrP.below ((over_below w6 u).mono (Nat.le_of_lt hpl))) (Nat.le_trans (Nat.le_of_lt hpl) (over_below w6 u).size) hl (hvP.below (over_below w6 u)) (by omega) (fun h => hF h.2)))
      have x0 := hP.cell (i := 0) rfl
      have x1 := hP.cell (i := 1) rfl
      have x2 := hP.cell (i := 2) rfl
      have x3 := hP.cell (i := 3) rfl
      have x4 := hP.cell (i := 4) rfl
      have x5 := hP.cell (i := 5) rfl
      have x6 := hP.cell (i := 6) rfl
      have x7 := hP.cell (i := 7) rfl
      go_wp2_with fail
      refine wp_region_over (by kernel_rfl) (by kernel_rfl) ?_
      repeat (go_big_quiet_step (first | (go_at_call 41; with_reducible exact FF.out _)))
      refine wpQuiet_nil ?_
      rintro wq ⟨xq, rfl⟩
      have hq9 := over_below w6 xq
      generalize over w6 xq = w7 at *
      clear x0 x1 x2 x3 x4 x5 x6 x7
      replace hP := hP.below hq9 hpl
      replace hvx := (hq9.cell (p := ⟨b2, o2 + q * 2, none⟩) hb2).trans hvx
      replace hvy := (hq9.cell (p := ⟨b2, o2 + q * 2 + 1, none⟩) hb2).trans hvy
      replace hrc := (hq9.cell (p := ⟨b3, o3 + q, none⟩) hb3).trans hrc
      replace hrP := hrP.below (hq9.mono (Nat.le_of_lt hpl))
      replace hvP := hvP.below hq9
      replace hb := hb.trans (hq9.mono (Nat.le_of_lt hpl))
      replace hpl := hP.lt
      replace hb2 := Nat.lt_of_lt_of_le hb2 hq9.size
      replace hb3 := Nat.lt_of_lt_of_le hb3 hq9.size
      clear hq9
      have HP := Lib.hid hP
      have HB := Lib.hid hb
      clear FF hP hb hrP hvP hvx hvy hrc
      go_wp2_with (go_at_call 20; (with_reducible refine (num17 _ _).mono ?_); rintro e w19 ⟨rfl, rfl⟩)
      go_roundw
      case rel => exact ⟨q + 1, by omega, by go_num, HP.out, HB.out⟩
      case measure => simp [intOf]; omega
    rw [hF] at MY
    have x0 := hP.cell (i := 0) rfl
    have x1 := hP.cell (i := 1) rfl
    have x2 := hP.cell (i := 2) rfl
    have x3 := hP.cell (i := 3) rfl
    have x4 := hP.cell (i := 4) rfl
    have x5 := hP.cell (i := 5) rfl
    have x6 := hP.cell (i := 6) rfl
    have x7 := hP.cell (i := 7) rfl
    go_wp2_with fail
    refine wp_region_over (by kernel_rfl) (by kernel_rfl) ?_
    repeat (go_big_quiet_step (first | (go_at_call 16; with_reducible exact MY.out _)))
    refine wpQuiet_nil ?_
    rintro wq ⟨xq, rfl⟩
    have hq9 := over_below wr xq
    generalize over wr xq = w6 at *
    clear x0 x1 x2 x3 x4 x5 x6 x7
    replace hP := hP.below hq9 hpl
    replace hvx := (hq9.cell (p := ⟨b2, o2 + q * 2, none⟩) hb2).trans hvx
    replace hvy := (hq9.cell (p := ⟨b2, o2 + q * 2 + 1, none⟩) hb2).trans hvy
    replace hrc := (hq9.cell (p := ⟨b3, o3 + q, none⟩) hb3).trans hrc
    replace hrP := hrP.below (hq9.mono (Nat.le_of_lt hpl))
    replace hvP := hvP.below hq9
    replace hb := hb.trans (hq9.mono (Nat.le_of_lt hpl))
    replace hpl := hP.lt
    replace hb2 := Nat.lt_of_lt_of_le hb2 hq9.size
    replace hb3 := Nat.lt_of_lt_of_le hb3 hq9.size
    clear hq9
    clear MY
    have RF := fun u => calls_over (x := u) (ref_free W H K x y r A n c w.heap.size ts A0 n0 c0 l0 (over w6 u) (hrP.below ((over_below w6 u).mono (Nat.le_of_lt hpl))) (Nat.le_trans (Nat.le_of_lt hpl) (over_below w6 u).size) hl (hvP.below (over_below w6 u)) (by omega) hA hF)
    have FR : ∀ w' : World, Reads w' w.heap.size 1 A n (nums .u8 ts) → w.heap.size ≤ w'.heap.size → BdsL w' A0 n0 l0 → Calls _ _ _ w' _ := fun w' h1 h2 h3 => disc_free W H K x y r A n c w.heap.size ts A0 n0 c0 l0 w' h1 h2 hl h3 (by omega) hA hF
    generalize freeB W H n (openT W ts l0 n0 K) x y r = B at *
    replace RF := Lib.hid RF
    replace FR := Lib.hid FR
    cases B
    all_goals
      have x0 := hP.cell (i := 0) rfl
      have x1 := hP.cell (i := 1) rfl
      have x2 := hP.cell (i := 2) rfl
      have x3 := hP.cell (i := 3) rfl
      have x4 := hP.cell (i := 4) rfl
      have x5 := hP.cell (i := 5) rfl
      have x6 := hP.cell (i := 6) rfl
      have x7 := hP.cell (i := 7) rfl
      go_wp2_with fail
      refine wp_region_over (by kernel_rfl) (by kernel_rfl) ?_
      repeat (go_big_quiet_step (first | (go_at_call 40; with_reducible exact RF.out _)))
      refine wpQuiet_nil ?_
      rintro wq ⟨xq, rfl⟩
      have hq9 := over_below w6 xq
      generalize over w6 xq = w8 at *
      clear x0 x1 x2 x3 x4 x5 x6 x7
      replace hP := hP.below hq9 hpl
      replace hvx := (hq9.cell (p := ⟨b2, o2 + q * 2, none⟩) hb2).trans hvx
      replace hvy := (hq9.cell (p := ⟨b2, o2 + q * 2 + 1, none⟩) hb2).trans hvy
      replace hrc := (hq9.cell (p := ⟨b3, o3 + q, none⟩) hb3).trans hrc
      replace hrP := hrP.below (hq9.mono (Nat.le_of_lt hpl))
      replace hvP := hvP.below hq9
      replace hb := hb.trans (hq9.mono (Nat.le_of_lt hpl))
      replace hpl := hP.lt
      replace hb2 := Nat.lt_of_lt_of_le hb2 hq9.size
      replace hb3 := Nat.lt_of_lt_of_le hb3 hq9.size
      clear hq9
      have FF := Lib.hid (fun u => calls_over (x := u) (FR.out (over w8 u) (hrP.below ((over_below w8 u).mono (Nat.le_of_lt hpl))) (Nat.le_trans (Nat.le_of_lt hpl) (over_below w8 u).size) (hvP.below (over_below w8 u))))
      have x0 := hP.cell (i := 0) rfl
      have x1 := hP.cell (i := 1) rfl
      have x2 := hP.cell (i := 2) rfl
      have x3 := hP.cell (i := 3) rfl
      have x4 := hP.cell (i := 4) rfl
      have x5 := hP.cell (i := 5) rfl
      have x6 := hP.cell (i := 6) rfl
      have x7 := hP.cell (i := 7) rfl
      go_wp2_with fail
      refine wp_region_over (by kernel_rfl) (by kernel_rfl) ?_
      repeat (go_big_quiet_step (first | (go_at_call 41; with_reducible exact FF.out _)))
      refine wpQuiet_nil ?_
      rintro wq ⟨xq, rfl⟩
      have hq9 := over_below w8 xq
      generalize over w8 xq = w7 at *
      clear x0 x1 x2 x3 x4 x5 x6 x7
      replace hP := hP.below hq9 hpl
      replace hvx := (hq9.cell (p := ⟨b2, o2 + q * 2, none⟩) hb2).trans hvx
      replace hvy := (hq9.cell (p := ⟨b2, o2 + q * 2 + 1, none⟩) hb2).trans hvy
      replace hrc := (hq9.cell (p := ⟨b3, o3 + q, none⟩) hb3).trans hrc
      replace hrP := hrP.below (hq9.mono (Nat.le_of_lt hpl))
      replace hvP := hvP.below hq9
      replace hb := hb.trans (hq9.mono (Nat.le_of_lt hpl))
      replace hpl := hP.lt
      replace hb2 := Nat.lt_of_lt_of_le hb2 hq9.size
      replace hb3 := Nat.lt_of_lt_of_le hb3 hq9.size
      clear hq9
      have HP := Lib.hid hP
      have HB := Lib.hid hb
      clear FF FR RF hP hb hrP hvP hvx hvy hrc
      go_wp2_with (go_at_call 20; (with_reducible refine (num17 _ _).mono ?_); rintro e w19 ⟨rfl, rfl⟩)
      go_roundw
      case rel => exact ⟨q + 1, by omega, by go_num, HP.out, HB.out⟩
      case measure => simp [intOf]; omega
end lawDiscFrees
end Go.Proofs.Ytjbnpgjndohjcaa
