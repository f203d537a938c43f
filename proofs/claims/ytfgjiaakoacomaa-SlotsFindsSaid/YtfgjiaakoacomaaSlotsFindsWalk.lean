/- The walk of the law SlotsFinds. -/
import Derived.Test.YtfgjiaakoacomaaSlotsFind
import Derived.Test.YtfgjiaakoacomaaSlotsWake
namespace Go.Proofs.Ytfgjiaakoacomaa
set_option maxRecDepth 20000
open Go.RowKit Go.WideShapes Go.ChangeShapes

namespace lawSlotsFinds
set_option maxHeartbeats 6400000 in
set_option maxRecDepth 100000 in
theorem walk {H : Type} {enc : TypeId × Value → H} (w : World) {base : Nat} (v : Value) (d : DataW H) (p : List MemPlace) (hv0 : Value.okWide Try.prog w .any base 50 v)
    (ht : DataW.Trod enc Try.prog w 0 (fun _ => true) true 50 v d p) : Calls Try.prog 8 #[v] w fun e w' => e = .returned (.bool true) ∧ Below w.heap.size w w' := by
  obtain ⟨W, H, A, n, c, ts, A1, n1, c1, l, k, s, A2, n2, c2, l2, A3, n3, c3, l3, rfl, hWr, hHr, hr, hby, ⟨hnc, hcm⟩, hv, ⟨hnc1, hcm1⟩, hkr, hsr, hr2, ⟨hnc2, hcm2⟩, hr3, ⟨hnc3, hcm3⟩, hi2, hi3⟩ := open_ask20 hv0 ht
  unfold maxLen at hcm hcm1 hcm2 hcm3
  clear hv0 ht hWr hHr hkr hsr
  have hP := Blk.new w #[.int .i64 W, .int .i64 H, .slice A n c, .slice A1 n1 c1, .int .i64 k, .int .i64 s, .slice A2 n2 c2, .slice A3 n3 c3] 50
  have hb := (Below.refl w.heap.size w).alloc (Nat.le_refl _) (.cells #[.int .i64 W, .int .i64 H, .slice A n c, .slice A1 n1 c1, .int .i64 k, .int .i64 s, .slice A2 n2 c2, .slice A3 n3 c3] 50)
  have C0 := Lib.hid (heavy13 W H k s A A1 A2 n c n1 c1 n2 c2 (w.alloc (.cells #[.int .i64 W, .int .i64 H, .slice A n c, .slice A1 n1 c1, .int .i64 k, .int .i64 s, .slice A2 n2 c2, .slice A3 n3 c3] 50)) (by omega) (by omega) (by omega))
  have hn3 : (n3 : Int) ≤ 9223372036854775807 := by omega
  clear hnc hcm hnc1 hcm1 hnc2 hcm2 hnc3 hcm3
  go_enter Try.func8, Try.ntmps8
  go_wp2_with fail
  generalize w.alloc (.cells #[.int .i64 W, .int .i64 H, .slice A n c, .slice A1 n1 c1, .int .i64 k, .int .i64 s, .slice A2 n2 c2, .slice A3 n3 c3] 50) = w1 at *
  refine Calls.mono C0.out ?_
  rintro e w2 ⟨rfl, hb2⟩
  clear C0
  replace hP := hP.below hb2 hP.lt
  replace hb := hb.trans (hb2.mono hb.size)
  clear hb2
  by_cases hh : 700 < n ∨ 30 < n1 ∨ 30 < n2
  case pos =>
    rw [decide_eq_true hh]
    clear hP hh
    go_wp2_with fail
    go_ret
    exact ⟨rfl, hb⟩
  rw [decide_eq_false hh]
  have x7 := hP.cell (i := 7) rfl
  by_cases h20 : 20 < n3
  case pos =>
    have d1 : decide ((20 : Int) < (n3 : Int)) = true := by simp; omega
    clear hP hh
    go_wp2_with fail
    go_ret
    exact ⟨rfl, hb⟩
  have d1 : decide ((20 : Int) < (n3 : Int)) = false := by simp; omega
  have hnn : n ≤ 700 ∧ n1 ≤ 30 ∧ n2 ≤ 30 ∧ n3 ≤ 20 := by omega
  obtain ⟨hn7, hn31, hn32, hn33⟩ := hnn
  generalize hgp : w.heap.size = gp at *
  have hgw := Nat.le_of_eq hgp
  clear hh h20 hn3
  go_wp2_with fail
  clear x7 d1
  go_loopw [3] (fun iv wr => ∃ (i : Nat), i ≤ n2 ∧ iv = .int .i64 (i : Int) ∧ Blk wr gp #[.int .i64 W, .int .i64 H, .slice A n c, .slice A1 n1 c1, .int .i64 k, .int .i64 s, .slice A2 n2 c2, .slice A3 n3 c3] 50 ∧ Below gp w wr) (fun iv _ => n2 - (intOf iv).toNat)
  case atStart => exact ⟨0, Nat.zero_le _, rfl, hP, hb⟩
  case round =>
    clear hP hb
    obtain ⟨i, hi, rfl, hP, hb⟩ := hrel
    have x6 := hP.cell (i := 6) rfl
    by_cases hic : i < n2 ∧ i < 6
    case neg =>
      have HB := Lib.hid hb
      clear hP hb
      rcases (show i = n2 ∨ (i < n2 ∧ 6 ≤ i) by omega) with h1 | ⟨h1, h2⟩
      all_goals
        clear hic hr hby hv hr2 hr3
        go_wp2_with fail
        refine Calls.mono (wakes20 _) ?_
        rintro e w5 ⟨rfl, hb5⟩
        have HB2 := Lib.hid (HB.out.trans (hb5.mono (by have := HB.out.size; omega)))
        clear hb5
        go_wp2_with fail
        go_ret
        exact ⟨rfl, by rw [hgp]; exact HB2.out⟩
    obtain ⟨hin, hi6⟩ := hic
    have hiz : (i : Int) < (n2 : Int) := by omega
    have hi6z : (i : Int) < 6 := by omega
    go_wp2_with fail
    clear x6
    go_loopw [4] (fun qv wr => ∃ (q : Nat), q ≤ n3 ∧ qv = .int .i64 (q : Int) ∧ Blk wr gp #[.int .i64 W, .int .i64 H, .slice A n c, .slice A1 n1 c1, .int .i64 k, .int .i64 s, .slice A2 n2 c2, .slice A3 n3 c3] 50 ∧ Below gp w wr) (fun qv _ => n3 - (intOf qv).toNat)
    case atStart => exact ⟨0, Nat.zero_le _, rfl, hP, hb⟩
    case round =>
      clear hP hb
      obtain ⟨q, hq, rfl, hP, hb⟩ := hrel
      have x7 := hP.cell (i := 7) rfl
      by_cases hqc : q < n3 ∧ q < 4
      case neg =>
        have HB := Lib.hid hb
        have HP := Lib.hid hP
        clear hP hb
        rcases (show q = n3 ∨ (q < n3 ∧ 4 ≤ q) by omega) with h1 | ⟨h1, h2⟩
        all_goals
          clear hqc hr hby hv hr2 hr3
          go_wp2_with fail
          go_roundw
          case rel => exact ⟨i + 1, by omega, by go_num, HP.out, HB.out⟩
          case measure => simp [intOf]; omega
      obtain ⟨hqn, hq4⟩ := hqc
      have hqz : (q : Int) < (n3 : Int) := by omega
      have hq4z : (q : Int) < 4 := by omega
      obtain ⟨_, bt, ot, rfl, hbt, hct⟩ := (hr2.below hb).num hin
      obtain ⟨_, bn, on, rfl, hbn, hcn⟩ := (hr3.below hb).num hqn
      have hrP := hr.below hb
      have hvP := hv.below (show Below w.heap.size w wr by rw [hgp]; exact hb)
      have ht64 := hi2 (l2.getD i 0) (by have h := hr2.1; simp [nums] at h; rw [show l2.getD i 0 = l2[i]'(by omega) by simp [List.getD, show i < l2.length by omega]]; exact List.getElem_mem _)
      generalize l2.getD i 0 = t at *
      generalize l3.getD q 0 = N at *
      have hsz := hb.size
      rw [hgp] at hsz
      have hpl := hP.lt
      have hr6 := hrP
      have hv6 := hvP
      clear hr hv hr2 hr3 hi2 hi3
      have x0 := hP.cell (i := 0) rfl
      have x1 := hP.cell (i := 1) rfl
      have x2 := hP.cell (i := 2) rfl
      have x3 := hP.cell (i := 3) rfl
      have x4 := hP.cell (i := 4) rfl
      have x5 := hP.cell (i := 5) rfl
      have M := Lib.hid (ref13_may W H k s A n c gp ts A1 n1 c1 l wr hrP (Nat.le_of_lt hpl) hby hvP (by omega) (by omega))
      clear hr6 hv6
      go_wp2_with fail
      refine Calls.mono M.out ?_
      rintro e w2 ⟨rfl, hb2⟩
      clear M x0 x1 x2 x3 x4 x5 x7
      have keep : ∀ {wa wb : World}, Below wa.heap.size wa wb → gp < wa.heap.size → Below gp w wa → True := fun _ _ _ => trivial
      clear keep
      replace hP := hP.below hb2 hpl
      replace hct := (hb2.cell (p := ⟨bt, ot + i, none⟩) (Nat.lt_trans hbt hpl)).trans hct
      replace hcn := (hb2.cell (p := ⟨bn, on + q, none⟩) (Nat.lt_trans hbn hpl)).trans hcn
      replace hrP := hrP.below (hb2.mono (Nat.le_of_lt hpl))
      replace hvP := hvP.below hb2
      replace hb := hb.trans (hb2.mono (Nat.le_of_lt hpl))
      replace hpl := hP.lt
      clear hb2
      by_cases hA : allS n W H ts l k s
      case neg =>
        rw [decide_eq_false hA]
        have x0 := hP.cell (i := 0) rfl
        have x1 := hP.cell (i := 1) rfl
        have x2 := hP.cell (i := 2) rfl
        have x3 := hP.cell (i := 3) rfl
        have x4 := hP.cell (i := 4) rfl
        have x5 := hP.cell (i := 5) rfl
        have x6 := hP.cell (i := 6) rfl
        have x7 := hP.cell (i := 7) rfl
        have hbtl := Nat.lt_trans hbt hpl
        have hbnl := Nat.lt_trans hbn hpl
        have FF := Lib.hid (fun u => calls_over (x := u) (slots_find_form W H k s t N A n c gp ts A1 n1 c1 l (over w2 u) (hrP.below ((over_below w2 u).mono (Nat.le_of_lt hpl))) (Nat.le_trans (Nat.le_of_lt hpl) (over_below w2 u).size) hby (hvP.below (over_below w2 u)) (by omega) hA))
        go_wp2_with fail
        refine wp_region_over (by kernel_rfl) (by kernel_rfl) ?_
        repeat (go_big_quiet_step (first | (go_at_call 30; with_reducible exact FF.out _)))
        refine wpQuiet_nil ?_
        rintro wq ⟨xq, rfl⟩
        have hq9 := over_below w2 xq
        generalize over w2 xq = w7 at *
        clear x0 x1 x2 x3 x4 x5 x6 x7 hbtl hbnl
        replace hP := hP.below hq9 hpl
        replace hct := (hq9.cell (p := ⟨bt, ot + i, none⟩) (Nat.lt_trans hbt hpl)).trans hct
        replace hcn := (hq9.cell (p := ⟨bn, on + q, none⟩) (Nat.lt_trans hbn hpl)).trans hcn
        replace hrP := hrP.below (hq9.mono (Nat.le_of_lt hpl))
        replace hvP := hvP.below hq9
        replace hb := hb.trans (hq9.mono (Nat.le_of_lt hpl))
        replace hpl := hP.lt
        clear hq9
        have E := Lib.hid (eq_nums_b none none 0 0 0 0 0 0 [] [] w7 true (by simp [Reads, nums]) (by simp [Reads, nums]) (by omega) (by omega) (by simp))
        have HP := Lib.hid hP
        have HB := Lib.hid hb
        clear FF hP hb hrP hvP hct hcn
        go_wp2_with fail
        refine Calls.mono (num20 _ _) ?_
        rintro e wn ⟨rfl, rfl⟩
        go_wp2_with fail
        refine Calls.mono E.out ?_
        rintro e w8 ⟨rfl, hb8⟩
        clear E
        have S8 := Lib.hid (spoil_nums none 0 0 w8.heap.size [] w8 (World.ownsRow_nil _ _ _ _) (Nat.le_refl _) (by omega))
        go_wp2_with fail
        refine Calls.mono S8.out ?_
        rintro e w9 ⟨rfl, hb9⟩
        have hb10 := hb8.trans (hb9.mono hb8.size)
        have HP2 := Lib.hid (HP.out.below hb10 hpl)
        have HB2 := Lib.hid (HB.out.trans (hb10.mono (Nat.le_of_lt hpl)))
        clear HP HB hb8 hb9 hb10 S8
        go_wp2_with fail
        go_roundw
        case rel => exact ⟨q + 1, by omega, by go_num, HP2.out, HB2.out⟩
        case measure => simp [intOf]; omega
      rw [decide_eq_true hA]
      obtain ⟨hW0, hW1, hH0, hH1, hlen, _⟩ := isG_bounds hA.1.1
      have hnn : (n : Int) = W * H := by have := hrP.1; simp [nums] at this; omega
      have hll := hvP.1
      have T := fun W' => ref_tile W H t A n c W' hW0 hW1 hH0 hH1
      by_cases hT : tileB W H t = true
      case neg =>
        have hT' : tileB W H t = false := by simpa using hT
        rw [hT'] at T
        have TL := Lib.hid (fun u => calls_over (x := u) (T (over w2 u)))
        clear T hnn hlen
        have x0 := hP.cell (i := 0) rfl
        have x1 := hP.cell (i := 1) rfl
        have x2 := hP.cell (i := 2) rfl
        have x3 := hP.cell (i := 3) rfl
        have x4 := hP.cell (i := 4) rfl
        have x5 := hP.cell (i := 5) rfl
        have x6 := hP.cell (i := 6) rfl
        have x7 := hP.cell (i := 7) rfl
        have hbtl := Nat.lt_trans hbt hpl
        have hbnl := Nat.lt_trans hbn hpl
        go_wp2_with fail
        refine wp_region_over (by kernel_rfl) (by kernel_rfl) ?_
        repeat (go_big_quiet_step (first | (go_at_call 27; with_reducible exact TL.out _)))
        refine wpQuiet_nil ?_
        rintro wq ⟨xq, rfl⟩
        have hq9 := over_below w2 xq
        generalize over w2 xq = w6 at *
        clear x0 x1 x2 x3 x4 x5 x6 x7 hbtl hbnl
        replace hP := hP.below hq9 hpl
        replace hct := (hq9.cell (p := ⟨bt, ot + i, none⟩) (Nat.lt_trans hbt hpl)).trans hct
        replace hcn := (hq9.cell (p := ⟨bn, on + q, none⟩) (Nat.lt_trans hbn hpl)).trans hcn
        replace hrP := hrP.below (hq9.mono (Nat.le_of_lt hpl))
        replace hvP := hvP.below hq9
        replace hb := hb.trans (hq9.mono (Nat.le_of_lt hpl))
        replace hpl := hP.lt
        clear hq9
        have x0 := hP.cell (i := 0) rfl
        have x1 := hP.cell (i := 1) rfl
        have x2 := hP.cell (i := 2) rfl
        have x3 := hP.cell (i := 3) rfl
        have x4 := hP.cell (i := 4) rfl
        have x5 := hP.cell (i := 5) rfl
        have x6 := hP.cell (i := 6) rfl
        have x7 := hP.cell (i := 7) rfl
        have hbtl := Nat.lt_trans hbt hpl
        have hbnl := Nat.lt_trans hbn hpl
        have FF := Lib.hid (fun u => calls_over (x := u) (slots_find_none W H k s t N A n c gp ts A1 n1 c1 l (over w6 u) (hrP.below ((over_below w6 u).mono (Nat.le_of_lt hpl))) (Nat.le_trans (Nat.le_of_lt hpl) (over_below w6 u).size) hby (hvP.below (over_below w6 u)) (by omega) hA hT'))
        go_wp2_with fail
        refine wp_region_over (by kernel_rfl) (by kernel_rfl) ?_
        repeat (go_big_quiet_step (first | (go_at_call 30; with_reducible exact FF.out _)))
        refine wpQuiet_nil ?_
        rintro wq ⟨xq, rfl⟩
        have hq9 := over_below w6 xq
        generalize over w6 xq = w7 at *
        clear x0 x1 x2 x3 x4 x5 x6 x7 hbtl hbnl
        replace hP := hP.below hq9 hpl
        replace hct := (hq9.cell (p := ⟨bt, ot + i, none⟩) (Nat.lt_trans hbt hpl)).trans hct
        replace hcn := (hq9.cell (p := ⟨bn, on + q, none⟩) (Nat.lt_trans hbn hpl)).trans hcn
        replace hrP := hrP.below (hq9.mono (Nat.le_of_lt hpl))
        replace hvP := hvP.below hq9
        replace hb := hb.trans (hq9.mono (Nat.le_of_lt hpl))
        replace hpl := hP.lt
        clear hq9
        have E := Lib.hid (eq_nums_b none none 0 0 0 0 0 0 [] [] w7 true (by simp [Reads, nums]) (by simp [Reads, nums]) (by omega) (by omega) (by simp))
        have HP := Lib.hid hP
        have HB := Lib.hid hb
        clear FF hP hb hrP hvP hct hcn
        go_wp2_with fail
        refine Calls.mono (num20 _ _) ?_
        rintro e wn ⟨rfl, rfl⟩
        go_wp2_with fail
        refine Calls.mono E.out ?_
        rintro e w8 ⟨rfl, hb8⟩
        clear E
        have S8 := Lib.hid (spoil_nums none 0 0 w8.heap.size [] w8 (World.ownsRow_nil _ _ _ _) (Nat.le_refl _) (by omega))
        go_wp2_with fail
        refine Calls.mono S8.out ?_
        rintro e w9 ⟨rfl, hb9⟩
        have hb10 := hb8.trans (hb9.mono hb8.size)
        have HP2 := Lib.hid (HP.out.below hb10 hpl)
        have HB2 := Lib.hid (HB.out.trans (hb10.mono (Nat.le_of_lt hpl)))
        clear HP HB hb8 hb9 hb10 S8
        go_wp2_with fail
        go_roundw
        case rel => exact ⟨q + 1, by omega, by go_num, HP2.out, HB2.out⟩
        case measure => simp [intOf]; omega
      rw [hT] at T
      have TL := Lib.hid (fun u => calls_over (x := u) (T (over w2 u)))
      clear T
      have x0 := hP.cell (i := 0) rfl
      have x1 := hP.cell (i := 1) rfl
      have x2 := hP.cell (i := 2) rfl
      have x3 := hP.cell (i := 3) rfl
      have x4 := hP.cell (i := 4) rfl
      have x5 := hP.cell (i := 5) rfl
      have x6 := hP.cell (i := 6) rfl
      have x7 := hP.cell (i := 7) rfl
      have hbtl := Nat.lt_trans hbt hpl
      have hbnl := Nat.lt_trans hbn hpl
      go_wp2_with fail
      refine wp_region_over (by kernel_rfl) (by kernel_rfl) ?_
      repeat (go_big_quiet_step (first | (go_at_call 27; with_reducible exact TL.out _)))
      refine wpQuiet_nil ?_
      rintro wq ⟨xq, rfl⟩
      have hq9 := over_below w2 xq
      generalize over w2 xq = w6 at *
      clear x0 x1 x2 x3 x4 x5 x6 x7 hbtl hbnl
      replace hP := hP.below hq9 hpl
      replace hct := (hq9.cell (p := ⟨bt, ot + i, none⟩) (Nat.lt_trans hbt hpl)).trans hct
      replace hcn := (hq9.cell (p := ⟨bn, on + q, none⟩) (Nat.lt_trans hbn hpl)).trans hcn
      replace hrP := hrP.below (hq9.mono (Nat.le_of_lt hpl))
      replace hvP := hvP.below hq9
      replace hb := hb.trans (hq9.mono (Nat.le_of_lt hpl))
      replace hpl := hP.lt
      clear hq9
      have x0 := hP.cell (i := 0) rfl
      have x1 := hP.cell (i := 1) rfl
      have x2 := hP.cell (i := 2) rfl
      have x3 := hP.cell (i := 3) rfl
      have x4 := hP.cell (i := 4) rfl
      have x5 := hP.cell (i := 5) rfl
      have x6 := hP.cell (i := 6) rfl
      have x7 := hP.cell (i := 7) rfl
      have hbtl := Nat.lt_trans hbt hpl
      have hbnl := Nat.lt_trans hbn hpl
      clear TL
      go_wp2_with fail
      refine Calls.mono (num0 _ _ _) ?_
      rintro e wn ⟨rfl, rfl⟩
      clear x0 x1 x2 x3 x4 x5 x6 x7 hbtl hbnl
      by_cases hN : 0 ≤ N ∧ N ≤ 64
      case neg =>
        rw [decide_eq_false hN]
        clear hnn hlen
        have x0 := hP.cell (i := 0) rfl
        have x1 := hP.cell (i := 1) rfl
        have x2 := hP.cell (i := 2) rfl
        have x3 := hP.cell (i := 3) rfl
        have x4 := hP.cell (i := 4) rfl
        have x5 := hP.cell (i := 5) rfl
        have x6 := hP.cell (i := 6) rfl
        have x7 := hP.cell (i := 7) rfl
        have hbtl := Nat.lt_trans hbt hpl
        have hbnl := Nat.lt_trans hbn hpl
        have FF := Lib.hid (fun u => calls_over (x := u) (slots_find_limit W H k s t N A n c gp ts A1 n1 c1 l (over w6 u) (hrP.below ((over_below w6 u).mono (Nat.le_of_lt hpl))) (Nat.le_trans (Nat.le_of_lt hpl) (over_below w6 u).size) hby (hvP.below (over_below w6 u)) (by omega) hA hT hN))
        go_wp2_with fail
        refine wp_region_over (by kernel_rfl) (by kernel_rfl) ?_
        repeat (go_big_quiet_step (first | (go_at_call 30; with_reducible exact FF.out _)))
        refine wpQuiet_nil ?_
        rintro wq ⟨xq, rfl⟩
        have hq9 := over_below w6 xq
        generalize over w6 xq = w7 at *
        clear x0 x1 x2 x3 x4 x5 x6 x7 hbtl hbnl
        replace hP := hP.below hq9 hpl
        replace hct := (hq9.cell (p := ⟨bt, ot + i, none⟩) (Nat.lt_trans hbt hpl)).trans hct
        replace hcn := (hq9.cell (p := ⟨bn, on + q, none⟩) (Nat.lt_trans hbn hpl)).trans hcn
        replace hrP := hrP.below (hq9.mono (Nat.le_of_lt hpl))
        replace hvP := hvP.below hq9
        replace hb := hb.trans (hq9.mono (Nat.le_of_lt hpl))
        replace hpl := hP.lt
        clear hq9
        have E := Lib.hid (eq_nums_b none none 0 0 0 0 0 0 [] [] w7 true (by simp [Reads, nums]) (by simp [Reads, nums]) (by omega) (by omega) (by simp))
        have HP := Lib.hid hP
        have HB := Lib.hid hb
        clear FF hP hb hrP hvP hct hcn
        go_wp2_with fail
        refine Calls.mono (num20 _ _) ?_
        rintro e wn ⟨rfl, rfl⟩
        go_wp2_with fail
        refine Calls.mono E.out ?_
        rintro e w8 ⟨rfl, hb8⟩
        clear E
        have S8 := Lib.hid (spoil_nums none 0 0 w8.heap.size [] w8 (World.ownsRow_nil _ _ _ _) (Nat.le_refl _) (by omega))
        go_wp2_with fail
        refine Calls.mono S8.out ?_
        rintro e w9 ⟨rfl, hb9⟩
        have hb10 := hb8.trans (hb9.mono hb8.size)
        have HP2 := Lib.hid (HP.out.below hb10 hpl)
        have HB2 := Lib.hid (HB.out.trans (hb10.mono (Nat.le_of_lt hpl)))
        clear HP HB hb8 hb9 hb10 S8
        go_wp2_with fail
        go_roundw
        case rel => exact ⟨q + 1, by omega, by go_num, HP2.out, HB2.out⟩
        case measure => simp [intOf]; omega
      rw [decide_eq_true hN]
      obtain ⟨hN0, hN1⟩ := hN
      obtain ⟨ht0, ht1⟩ : 0 ≤ t ∧ t < W * H := of_decide_eq_true hT
      obtain ⟨g, rfl⟩ := Int.eq_ofNat_of_zero_le ht0
      have hgn : g < n := by omega
      obtain ⟨ml, hR, hK⟩ := room_ex (openT W ts l n1 k) hW0 hW1 hnn
      have hall : ∀ i, i < n1 → formP (bdAt l i) ∧ onP W H (bdAt l i) := fun i hi => ⟨(hA.1.2.1.2.2 i (by rw [hll]; exact hi)).1, (hA.1.2.1.2.2 i (by rw [hll]; exact hi)).2.1⟩
      have RC := Lib.hid (fun W' (h : Below w6.heap.size w6 W') => ref_slots W H k s N g A n c gp ts A1 n1 c1 l W' (hrP.below (h.mono (Nat.le_of_lt hpl))) (Nat.le_trans (Nat.le_of_lt hpl) h.size) hA.1.1 hby (hvP.below h) (by omega) hall hA.1.2.2 ml hR hK hA.2.1 hA.2.2 hgn hN0 hN1)
      have FC := Lib.hid (fun W' (h : Below w6.heap.size w6 W') => slots_find W H k s N A n c gp ts A1 n1 c1 l W' (hrP.below (h.mono (Nat.le_of_lt hpl))) (Nat.le_trans (Nat.le_of_lt hpl) h.size) hby (hvP.below h) (by omega) hA g hgn hN0 hN1 ml hR)
      have hXl : (asI (slotsN W H n g (2 * s + 1) (goodT ml s) N.toNat)).length ≤ 64 := by rw [asI_len]; have := slots_len (W := W) (H := H) (n := n) (g := g) (s := 2 * s + 1) (good := goodT ml s) N.toNat; omega
      generalize asI (slotsN W H n g (2 * s + 1) (goodT ml s) N.toNat) = X at *
      clear hall hR hK hA hnn hlen hT ht1 ht0 hvP hrP hW0 hW1 hH0 hH1 hll
      have hbtl := Nat.lt_trans hbt hpl
      have hbnl := Nat.lt_trans hbn hpl
      go_wp2_with fail
      have HB : Below w6.heap.size w6 w6.drew := (Below.refl _ _).drew
      have SD : (fun w' => w'.cell? ⟨gp, 0, none⟩ = some (.int .i64 W) ∧ w'.cell? ⟨gp, 1, none⟩ = some (.int .i64 H) ∧ w'.cell? ⟨gp, 2, none⟩ = some (.slice A n c) ∧ w'.cell? ⟨gp, 3, none⟩ = some (.slice A1 n1 c1) ∧ w'.cell? ⟨gp, 4, none⟩ = some (.int .i64 k) ∧ w'.cell? ⟨gp, 5, none⟩ = some (.int .i64 s) ∧ w'.cell? ⟨gp, 6, none⟩ = some (.slice (some ⟨bt, ot, none⟩) n2 c2) ∧ w'.cell? ⟨gp, 7, none⟩ = some (.slice (some ⟨bn, on, none⟩) n3 c3) ∧ w'.cell? ⟨bt, ot + i, none⟩ = some (.int .i64 (g : Int)) ∧ w'.cell? ⟨bn, on + q, none⟩ = some (.int .i64 N) ∧ Below w6.heap.size w6 w') w6.drew := ⟨box_cell4 hP HB hpl 0 _ rfl, box_cell4 hP HB hpl 1 _ rfl, box_cell4 hP HB hpl 2 _ rfl, box_cell4 hP HB hpl 3 _ rfl, box_cell4 hP HB hpl 4 _ rfl, box_cell4 hP HB hpl 5 _ rfl, box_cell4 hP HB hpl 6 _ rfl, box_cell4 hP HB hpl 7 _ rfl, (HB.cell (p := ⟨bt, ot + i, none⟩) hbtl).trans hct, (HB.cell (p := ⟨bn, on + q, none⟩) hbnl).trans hcn, HB⟩
      go_region_held3 (fun w' => w'.cell? ⟨gp, 0, none⟩ = some (.int .i64 W) ∧ w'.cell? ⟨gp, 1, none⟩ = some (.int .i64 H) ∧ w'.cell? ⟨gp, 2, none⟩ = some (.slice A n c) ∧ w'.cell? ⟨gp, 3, none⟩ = some (.slice A1 n1 c1) ∧ w'.cell? ⟨gp, 4, none⟩ = some (.int .i64 k) ∧ w'.cell? ⟨gp, 5, none⟩ = some (.int .i64 s) ∧ w'.cell? ⟨gp, 6, none⟩ = some (.slice (some ⟨bt, ot, none⟩) n2 c2) ∧ w'.cell? ⟨gp, 7, none⟩ = some (.slice (some ⟨bn, on, none⟩) n3 c3) ∧ w'.cell? ⟨bt, ot + i, none⟩ = some (.int .i64 (g : Int)) ∧ w'.cell? ⟨bn, on + q, none⟩ = some (.int .i64 N) ∧ Below w6.heap.size w6 w')
        (first | exact SD | assumption)
        (first
          | (go_at_call 29; (with_reducible refine Calls.mono (RC.out _ HB) ?_); rintro e wm ⟨A6, c6, rfl, hO6, hbm⟩; replace hO6 := own_mono hO6 HB.size; replace HB := HB.trans (hbm.mono HB.size); have SD : (fun w' => w'.cell? ⟨gp, 0, none⟩ = some (.int .i64 W) ∧ w'.cell? ⟨gp, 1, none⟩ = some (.int .i64 H) ∧ w'.cell? ⟨gp, 2, none⟩ = some (.slice A n c) ∧ w'.cell? ⟨gp, 3, none⟩ = some (.slice A1 n1 c1) ∧ w'.cell? ⟨gp, 4, none⟩ = some (.int .i64 k) ∧ w'.cell? ⟨gp, 5, none⟩ = some (.int .i64 s) ∧ w'.cell? ⟨gp, 6, none⟩ = some (.slice (some ⟨bt, ot, none⟩) n2 c2) ∧ w'.cell? ⟨gp, 7, none⟩ = some (.slice (some ⟨bn, on, none⟩) n3 c3) ∧ w'.cell? ⟨bt, ot + i, none⟩ = some (.int .i64 (g : Int)) ∧ w'.cell? ⟨bn, on + q, none⟩ = some (.int .i64 N) ∧ Below w6.heap.size w6 w') wm := ⟨box_cell4 hP HB hpl 0 _ rfl, box_cell4 hP HB hpl 1 _ rfl, box_cell4 hP HB hpl 2 _ rfl, box_cell4 hP HB hpl 3 _ rfl, box_cell4 hP HB hpl 4 _ rfl, box_cell4 hP HB hpl 5 _ rfl, box_cell4 hP HB hpl 6 _ rfl, box_cell4 hP HB hpl 7 _ rfl, (HB.cell (p := ⟨bt, ot + i, none⟩) hbtl).trans hct, (HB.cell (p := ⟨bn, on + q, none⟩) hbnl).trans hcn, HB⟩))
      all_goals
        have HW := Lib.hid hO6
        have HB1 := Lib.hid HB
        clear SD RC hO6 hbm HB
        have HB : Below w6.heap.size w6 wm.drew := HB1.out.drew
        have SD : (fun w' => w'.cell? ⟨gp, 0, none⟩ = some (.int .i64 W) ∧ w'.cell? ⟨gp, 1, none⟩ = some (.int .i64 H) ∧ w'.cell? ⟨gp, 2, none⟩ = some (.slice A n c) ∧ w'.cell? ⟨gp, 3, none⟩ = some (.slice A1 n1 c1) ∧ w'.cell? ⟨gp, 4, none⟩ = some (.int .i64 k) ∧ w'.cell? ⟨gp, 5, none⟩ = some (.int .i64 s) ∧ w'.cell? ⟨gp, 6, none⟩ = some (.slice (some ⟨bt, ot, none⟩) n2 c2) ∧ w'.cell? ⟨gp, 7, none⟩ = some (.slice (some ⟨bn, on, none⟩) n3 c3) ∧ w'.cell? ⟨bt, ot + i, none⟩ = some (.int .i64 (g : Int)) ∧ w'.cell? ⟨bn, on + q, none⟩ = some (.int .i64 N) ∧ Below w6.heap.size w6 w') wm.drew := ⟨box_cell4 hP HB hpl 0 _ rfl, box_cell4 hP HB hpl 1 _ rfl, box_cell4 hP HB hpl 2 _ rfl, box_cell4 hP HB hpl 3 _ rfl, box_cell4 hP HB hpl 4 _ rfl, box_cell4 hP HB hpl 5 _ rfl, box_cell4 hP HB hpl 6 _ rfl, box_cell4 hP HB hpl 7 _ rfl, (HB.cell (p := ⟨bt, ot + i, none⟩) hbtl).trans hct, (HB.cell (p := ⟨bn, on + q, none⟩) hbnl).trans hcn, HB⟩
        go_wp2_with fail
        go_region_held3 (fun w' => w'.cell? ⟨gp, 0, none⟩ = some (.int .i64 W) ∧ w'.cell? ⟨gp, 1, none⟩ = some (.int .i64 H) ∧ w'.cell? ⟨gp, 2, none⟩ = some (.slice A n c) ∧ w'.cell? ⟨gp, 3, none⟩ = some (.slice A1 n1 c1) ∧ w'.cell? ⟨gp, 4, none⟩ = some (.int .i64 k) ∧ w'.cell? ⟨gp, 5, none⟩ = some (.int .i64 s) ∧ w'.cell? ⟨gp, 6, none⟩ = some (.slice (some ⟨bt, ot, none⟩) n2 c2) ∧ w'.cell? ⟨gp, 7, none⟩ = some (.slice (some ⟨bn, on, none⟩) n3 c3) ∧ w'.cell? ⟨bt, ot + i, none⟩ = some (.int .i64 (g : Int)) ∧ w'.cell? ⟨bn, on + q, none⟩ = some (.int .i64 N) ∧ Below w6.heap.size w6 w')
          (first | exact SD | assumption)
          (first
            | (go_at_call 30; (with_reducible refine Calls.mono (FC.out _ HB) ?_); rintro e wf ⟨A7, c7, rfl, hO7, hbf⟩; replace HB := HB.trans (hbf.mono HB.size); have SD : (fun w' => w'.cell? ⟨gp, 0, none⟩ = some (.int .i64 W) ∧ w'.cell? ⟨gp, 1, none⟩ = some (.int .i64 H) ∧ w'.cell? ⟨gp, 2, none⟩ = some (.slice A n c) ∧ w'.cell? ⟨gp, 3, none⟩ = some (.slice A1 n1 c1) ∧ w'.cell? ⟨gp, 4, none⟩ = some (.int .i64 k) ∧ w'.cell? ⟨gp, 5, none⟩ = some (.int .i64 s) ∧ w'.cell? ⟨gp, 6, none⟩ = some (.slice (some ⟨bt, ot, none⟩) n2 c2) ∧ w'.cell? ⟨gp, 7, none⟩ = some (.slice (some ⟨bn, on, none⟩) n3 c3) ∧ w'.cell? ⟨bt, ot + i, none⟩ = some (.int .i64 (g : Int)) ∧ w'.cell? ⟨bn, on + q, none⟩ = some (.int .i64 N) ∧ Below w6.heap.size w6 w') wf := ⟨box_cell4 hP HB hpl 0 _ rfl, box_cell4 hP HB hpl 1 _ rfl, box_cell4 hP HB hpl 2 _ rfl, box_cell4 hP HB hpl 3 _ rfl, box_cell4 hP HB hpl 4 _ rfl, box_cell4 hP HB hpl 5 _ rfl, box_cell4 hP HB hpl 6 _ rfl, box_cell4 hP HB hpl 7 _ rfl, (HB.cell (p := ⟨bt, ot + i, none⟩) hbtl).trans hct, (HB.cell (p := ⟨bn, on + q, none⟩) hbnl).trans hcn, HB⟩))
        all_goals
          have hOw := own_below (show wm.drew.ownsRow _ _ _ _ _ _ from HW.out) hbf
          have hs8 : w6.heap.size ≤ wm.drew.heap.size := HB1.out.drew.size
          have hs9 := hbf.size
          have E := Lib.hid (eq_nums_b A7 A6 X.length c7 X.length c6 _ _ X X wf true (Reads.of_own hO7) (Reads.of_own hOw) (by omega) (by omega) (by simp))
          have HO7 := Lib.hid hO7
          have HP := Lib.hid (hP.below HB hpl)
          have HBB := Lib.hid (hb.trans (HB.mono (Nat.le_of_lt hpl)))
          generalize hD : wm.drew.heap.size = D at *
          generalize hm : X.length = m at *
          clear SD HB FC HW HB1 hO7 hOw hP hct hcn hb hbf hm
          go_wp2_with fail
          refine Calls.mono (num20 _ _) ?_
          rintro e wn ⟨rfl, rfl⟩
          go_wp2_with fail
          refine Calls.mono E.out ?_
          rintro e w8 ⟨rfl, hb8⟩
          have S8 := Lib.hid (spoil_nums A7 m c7 D X w8 (own_below HO7.out hb8) (Nat.le_trans hs9 hb8.size) (by omega))
          clear E
          go_wp2_with fail
          refine Calls.mono S8.out ?_
          rintro e w9 ⟨rfl, hb9⟩
          have hb10 := (hb8.mono hs9).trans hb9
          have HP2 := Lib.hid (HP.out.below hb10 (by omega))
          have HB2 := Lib.hid (HBB.out.trans (hb10.mono (by omega)))
          clear HP HBB hb8 hb9 hb10 S8 HO7
          go_wp2_with fail
          go_roundw
          case rel => exact ⟨q + 1, by omega, by go_num, HP2.out, HB2.out⟩
          case measure => simp [intOf]; omega
end lawSlotsFinds
end Go.Proofs.Ytfgjiaakoacomaa
