/- The walk of the law ClearGrids. -/
import Derived.Test.YtfgjiaakoacomaaMay9
import Derived.Test.YtfgjiaakoacomaaRefGrid
namespace Go.Proofs.Ytfgjiaakoacomaa
set_option maxRecDepth 20000
open Go.RowKit Go.WideShapes Go.ChangeShapes

namespace lawClearGrids
set_option maxHeartbeats 6400000 in
set_option maxRecDepth 100000 in
theorem walk {H : Type} {enc : TypeId × Value → H} (w : World) {base : Nat} (v : Value) (d : DataW H) (p : List MemPlace) (hv0 : Value.okWide Try.prog w .any base 27 v)
    (ht : DataW.Trod enc Try.prog w 0 (fun _ => true) true 27 v d p) : Calls Try.prog 3 #[v] w fun e w' => e = .returned (.bool true) ∧ Below w.heap.size w w' := by
  obtain ⟨W, H, A, n, c, ts, A1, n1, c1, l, k, rfl, hWr, hHr, hr, hby, ⟨hnc, hcm⟩, hv, ⟨hnc1, hcm1⟩, hkr⟩ := open_ask9 hv0 ht
  unfold maxLen at hcm hcm1
  clear hv0 ht hWr hHr hkr
  have hP := Blk.new w #[.int .i64 W, .int .i64 H, .slice A n c, .slice A1 n1 c1, .int .i64 k] 27
  have hb := (Below.refl w.heap.size w).alloc (Nat.le_refl _) (.cells #[.int .i64 W, .int .i64 H, .slice A n c, .slice A1 n1 c1, .int .i64 k] 27)
  have hrP := hr.below hb
  have hvP := hv.below hb
  have C0 := Lib.hid (heavy9 W H k A A1 n c n1 c1 (w.alloc (.cells #[.int .i64 W, .int .i64 H, .slice A n c, .slice A1 n1 c1, .int .i64 k] 27)) (by omega) (by omega))
  go_enter Try.func3, Try.ntmps3
  go_wp2_with fail
  generalize w.alloc (.cells #[.int .i64 W, .int .i64 H, .slice A n c, .slice A1 n1 c1, .int .i64 k] 27) = w1 at *
  refine Calls.mono C0.out ?_
  rintro e w2 ⟨rfl, hb2⟩
  clear C0
  replace hP := hP.below hb2 hP.lt
  replace hrP := hrP.below (hb2.mono hb.size)
  replace hvP := hvP.below hb2
  replace hb := hb.trans (hb2.mono hb.size)
  clear hb2
  by_cases hh : 700 < n ∨ 30 < n1
  case pos =>
    rw [decide_eq_true hh]
    clear hP
    go_wp2_with fail
    go_ret
    exact ⟨rfl, hb⟩
  rw [decide_eq_false hh]
  have x0 := hP.cell (i := 0) rfl
  have x1 := hP.cell (i := 1) rfl
  have x2 := hP.cell (i := 2) rfl
  have x3 := hP.cell (i := 3) rfl
  have x4 := hP.cell (i := 4) rfl
  have M := Lib.hid (may9 W H k A n c _ ts A1 n1 c1 l w2 hrP hb.size hby hvP (by omega) (by omega))
  go_wp2_with fail
  refine Calls.mono M.out ?_
  rintro e w3 ⟨rfl, hb3⟩
  clear M x0 x1 x2 x3 x4
  replace hP := hP.below hb3 hP.lt
  replace hrP := hrP.below (hb3.mono hb.size)
  replace hvP := hvP.below hb3
  replace hb := hb.trans (hb3.mono hb.size)
  clear hb3
  have x0 := hP.cell (i := 0) rfl
  have x1 := hP.cell (i := 1) rfl
  have x2 := hP.cell (i := 2) rfl
  have x3 := hP.cell (i := 3) rfl
  have x4 := hP.cell (i := 4) rfl
  by_cases hA : allP n W H ts l k
  case neg =>
    rw [if_neg hA]
    have C := Lib.hid (clear_grid_no W H k A n c _ ts A1 n1 c1 l w3 hrP hb.size hby hvP (by omega) hA)
    go_wp2_with fail
    refine Calls.mono C.out ?_
    rintro e w4 ⟨rfl, hb4⟩
    replace hb := hb.trans (hb4.mono hb.size)
    clear C hb4 hP x0 x1 x2 x3 x4
    have E := Lib.hid (eq_nums_b none none 0 0 0 0 0 0 [] [] w4 true (by simp [Reads, nums]) (by simp [Reads, nums]) (by omega) (by omega) (by simp))
    go_wp2_with fail
    refine Calls.mono (num9 _ _) ?_
    rintro e wn ⟨rfl, rfl⟩
    go_wp2_with fail
    refine Calls.mono E.out ?_
    rintro e w5 ⟨rfl, hb5⟩
    replace hb := hb.trans (hb5.mono hb.size)
    clear E hb5
    have S := Lib.hid (spoil_nums none 0 0 w5.heap.size [] w5 (World.ownsRow_nil _ _ _ _) (Nat.le_refl _) (by omega))
    go_wp2_with fail
    refine Calls.mono S.out ?_
    rintro e w6 ⟨rfl, hb6⟩
    replace hb := hb.trans (hb6.mono hb.size)
    clear S hb6
    go_wp2_with fail
    refine Calls.mono (wakes9 _) ?_
    rintro e w7 ⟨rfl, hb7⟩
    replace hb := hb.trans (hb7.mono hb.size)
    go_wp2_with fail
    go_ret
    exact ⟨rfl, hb⟩
  rw [if_pos hA]
  have hll := hvP.1
  obtain ⟨hW0, hW1, hH0, hH1, hlen, _⟩ := isG_bounds hA.1
  have hnn : (n : Int) = W * H := by have := hrP.1; simp [nums] at this; omega
  obtain ⟨ml, hR0, hK0⟩ := room_ex (openT W ts l n1 k) hW0 hW1 hnn
  have R := Lib.hid (ref_grid W H k A n c _ ts A1 n1 c1 l w3 hrP hb.size hA.1 hby hvP (by omega) (fun i hi => ⟨(hA.2.1.2.2 i (by rw [hll]; exact hi)).1, (hA.2.1.2.2 i (by rw [hll]; exact hi)).2.1⟩) hA.2.2 ml hR0 hK0)
  have HNN := Lib.hid hnn
  clear hlen hnn
  go_wp2_with fail
  refine Calls.mono R.out ?_
  rintro e w4 ⟨A2, c2, rfl, hO2, hb4⟩
  clear R x0 x1 x2 x3 x4
  replace hP := hP.below hb4 hP.lt
  replace hrP := hrP.below (hb4.mono hb.size)
  replace hvP := hvP.below hb4
  replace hb := hb.trans (hb4.mono hb.size)
  clear hb4
  have x0 := hP.cell (i := 0) rfl
  have x1 := hP.cell (i := 1) rfl
  have x2 := hP.cell (i := 2) rfl
  have x3 := hP.cell (i := 3) rfl
  have x4 := hP.cell (i := 4) rfl
  have C := Lib.hid (clear_grid W H k A n c _ ts A1 n1 c1 l w4 hrP hb.size hby hvP (by omega) hA)
  go_wp2_with fail
  refine Calls.mono C.out ?_
  rintro e w5 ⟨A3, c3, l3, rfl, hO3, hR3, hK3, hb5⟩
  obtain rfl := roomL_same hW0 HNN.out hR0 hR3
  clear C x0 x1 x2 x3 x4 hP hrP hvP
  have hs3 := hb.size
  replace hO2 := own_below hO2 hb5
  replace hb := hb.trans (hb5.mono hb.size)
  have E := Lib.hid (eq_nums_b A3 A2 n c3 n c2 _ _ ml ml w5 true (Reads.of_own hO3) (Reads.of_own hO2) (by omega) (by omega) (by simp))
  have HO := Lib.hid hO3
  clear hO3 hO2 hR0 hK0 hR3 hK3 hW0 hW1 hH0 hH1
  go_wp2_with fail
  refine Calls.mono (num9 _ _) ?_
  rintro e wn ⟨rfl, rfl⟩
  go_wp2_with fail
  refine Calls.mono E.out ?_
  rintro e w6 ⟨rfl, hb6⟩
  have S := Lib.hid (spoil_nums A3 n c3 w4.heap.size ml w6 (own_below HO.out hb6) (Nat.le_trans hb5.size hb6.size) (by omega))
  replace hb := hb.trans (hb6.mono hb.size)
  clear E hb6 HO
  go_wp2_with fail
  refine Calls.mono S.out ?_
  rintro e w7 ⟨rfl, hb7⟩
  replace hb := hb.trans (hb7.mono hs3)
  clear S hb7
  go_wp2_with fail
  refine Calls.mono (wakes9 _) ?_
  rintro e w8 ⟨rfl, hb8⟩
  replace hb := hb.trans (hb8.mono hb.size)
  go_wp2_with fail
  go_ret
  exact ⟨rfl, hb⟩
end lawClearGrids
end Go.Proofs.Ytfgjiaakoacomaa
