/- The walk of the law ClearSquares. -/
import Derived.Test.YtfgjiaakoacomaaFull9
import Derived.Test.YtfgjiaakoacomaaClearWake
import Derived.Test.YtfgjiaakoacomaaPeelMath
import Derived.Test.YtfgjiaakoacomaaGroundRef
namespace Go.Proofs.Ytfgjiaakoacomaa
set_option maxRecDepth 20000
open Go.RowKit Go.WideShapes Go.ChangeShapes

theorem near_lip {W H : Int} {n t q : Nat} {f : Nat → Bool} {l : List Int} (hW : 1 ≤ W) (hn : (n : Int) = W * H) (ht : t < n) (h : RoomL W H n f l) (hq : q < 8) (h0 : 0 ≤ nearI W H t q) :
    l.getD (nearI W H t q).toNat 0 ≤ l.getD t 0 + 1 ∧ l.getD t 0 ≤ l.getD (nearI W H t q).toNat 0 + 1 := by
  obtain ⟨ho, _⟩ := tile_xy hW hn ht
  have ha := room_at (l := l) hW hn ht
  obtain ⟨h4, h5, _⟩ := near_at (l := l) (t := t) (q := q) hn
  rw [(h5 h0).2.2, ← ha]
  obtain ⟨a, b, c, d⟩ := way_small hq
  have k1 := h.2.lip _ _ _ _ ho a b c d
  have k2 := h.2.lip (tX W t + wayX q) (tY W t + wayY q) (-wayX q) (-wayY q) (h4.1 h0) (by omega) (by omega) (by omega) (by omega)
  rw [show tX W t + wayX q + -wayX q = tX W t by omega, show tY W t + wayY q + -wayY q = tY W t by omega] at k2
  exact ⟨k2, k1⟩
theorem full_at {W H : Int} {n t : Nat} {f : Nat → Bool} {l : List Int} (hW : 1 ≤ W) (hn : (n : Int) = W * H) (ht : t < n) (h : RoomL W H n f l) {F : Int} (hF : l.getD t 0 = F) (h0 : 0 ≤ F) :
    (true = true ↔ (F - 1 < 0 ∨ Full W H (opP W f) (tX W t) (tY W t) (F - 1))) ∧ (false = true ↔ (F < 0 ∨ Full W H (opP W f) (tX W t) (tY W t) F)) := by
  have ha := room_at (l := l) hW hn ht
  rw [hF] at ha
  obtain ⟨r, rfl⟩ := Int.eq_ofNat_of_zero_le h0
  have h1 := h.2.full r (tX W t) (tY W t)
  rw [ha] at h1
  refine ⟨⟨fun _ => ?_, fun _ => rfl⟩, ⟨(fun h => by cases h), fun h => ?_⟩⟩
  · by_cases e : r = 0
    · exact .inl (by omega)
    · have h2 := h.2.full (r - 1) (tX W t) (tY W t)
      rw [ha] at h2
      have := h2.1 (by omega)
      rw [show ((r - 1 : Nat) : Int) = (r : Int) - 1 by omega] at this
      exact .inr this
  · rcases h with h | h
    · omega
    · have := h1.2 h; omega

namespace lawClearSquares
set_option maxHeartbeats 6400000 in
set_option maxRecDepth 100000 in
theorem walk {H : Type} {enc : TypeId × Value → H} (w : World) {base : Nat} (v : Value) (d : DataW H) (p : List MemPlace) (hv0 : Value.okWide Try.prog w .any base 27 v)
    (ht : DataW.Trod enc Try.prog w 0 (fun _ => true) true 27 v d p) : Calls Try.prog 7 #[v] w fun e w' => e = .returned (.bool true) ∧ Below w.heap.size w w' := by
  obtain ⟨W, H, A, n, c, ts, A1, n1, c1, l, k, rfl, hWr, hHr, hr, hby, ⟨hnc, hcm⟩, hv, ⟨hnc1, hcm1⟩, hkr⟩ := open_ask9 hv0 ht
  unfold maxLen at hcm hcm1
  clear hv0 ht hWr hHr hkr
  have hP := Blk.new w #[.int .i64 W, .int .i64 H, .slice A n c, .slice A1 n1 c1, .int .i64 k] 27
  have hb := (Below.refl w.heap.size w).alloc (Nat.le_refl _) (.cells #[.int .i64 W, .int .i64 H, .slice A n c, .slice A1 n1 c1, .int .i64 k] 27)
  have hrP := hr.below hb
  have hvP := hv.below hb
  have C0 := Lib.hid (heavy9 W H k A A1 n c n1 c1 (w.alloc (.cells #[.int .i64 W, .int .i64 H, .slice A n c, .slice A1 n1 c1, .int .i64 k] 27)) (by omega) (by omega))
  go_enter Try.func7, Try.ntmps7
  go_wp2_with fail
  generalize w.alloc (.cells #[.int .i64 W, .int .i64 H, .slice A n c, .slice A1 n1 c1, .int .i64 k] 27) = w1 at *
  refine Calls.mono C0.out ?_
  rintro e w2 ⟨rfl, hb2⟩
  clear C0
  replace hP := hP.below hb2 hP.lt
  replace hrP := hrP.below (hb2.mono hb.size)
  replace hvP := hvP.below hb2
  replace hb := hb.trans (hb2.mono hb.size)
  clear hb2
  by_cases hh : 700 < n ∨ 30 < n1
  case pos =>
    rw [decide_eq_true hh]
    clear hP
    go_wp2_with fail
    go_ret
    exact ⟨rfl, hb⟩
  rw [decide_eq_false hh]
  have x0 := hP.cell (i := 0) rfl
  have x1 := hP.cell (i := 1) rfl
  have x2 := hP.cell (i := 2) rfl
  have x3 := hP.cell (i := 3) rfl
  have x4 := hP.cell (i := 4) rfl
  by_cases hA : allP n W H ts l k
  case neg =>
    have C := Lib.hid (clear_grid_no W H k A n c _ ts A1 n1 c1 l w2 hrP hb.size hby hvP (by omega) hA)
    go_wp2_with fail
    refine Calls.mono C.out ?_
    rintro e w3 ⟨rfl, hb3⟩
    clear C x0 x1 x2 x3 x4
    replace hP := hP.below hb3 hP.lt
    replace hrP := hrP.below (hb3.mono hb.size)
    replace hvP := hvP.below hb3
    replace hb := hb.trans (hb3.mono hb.size)
    clear hb3
    have x0 := hP.cell (i := 0) rfl
    have x1 := hP.cell (i := 1) rfl
    have x2 := hP.cell (i := 2) rfl
    have x3 := hP.cell (i := 3) rfl
    have x4 := hP.cell (i := 4) rfl
    have C := Lib.hid (clear_open_no W H k A n c _ ts A1 n1 c1 l w3 hrP hb.size hby hvP (by omega) hA)
    go_wp2_with fail
    refine Calls.mono C.out ?_
    rintro e w4 ⟨rfl, hb4⟩
    replace hb := hb.trans (hb4.mono hb.size)
    clear C hb4 hP x0 x1 x2 x3 x4
    go_wp2_with fail
    refine Calls.mono (num9 _ _) ?_
    rintro e wn ⟨rfl, rfl⟩
    go_wp2_with fail
    refine Calls.mono (num9 _ _) ?_
    rintro e wn ⟨rfl, rfl⟩
    go_wp2_with fail
    refine Calls.mono (num9 _ _) ?_
    rintro e wn ⟨rfl, rfl⟩
    go_wp2_with fail
    refine Calls.mono (wakes9 _) ?_
    rintro e w7 ⟨rfl, hb7⟩
    replace hb := hb.trans (hb7.mono hb.size)
    go_wp2_with fail
    go_ret
    exact ⟨rfl, hb⟩
  have C := Lib.hid (clear_grid W H k A n c _ ts A1 n1 c1 l w2 hrP hb.size hby hvP (by omega) hA)
  go_wp2_with fail
  refine Calls.mono C.out ?_
  rintro e w3 ⟨A2, c2, ml, rfl, hO2, hR, hK, hb3⟩
  clear C x0 x1 x2 x3 x4
  replace hP := hP.below hb3 hP.lt
  replace hrP := hrP.below (hb3.mono hb.size)
  replace hvP := hvP.below hb3
  replace hb := hb.trans (hb3.mono hb.size)
  clear hb3
  have x0 := hP.cell (i := 0) rfl
  have x1 := hP.cell (i := 1) rfl
  have x2 := hP.cell (i := 2) rfl
  have x3 := hP.cell (i := 3) rfl
  have x4 := hP.cell (i := 4) rfl
  have C := Lib.hid (clear_open W H k A n c _ ts A1 n1 c1 l w3 hrP hb.size hby hvP (by omega) hA)
  go_wp2_with fail
  refine Calls.mono C.out ?_
  rintro e w5 ⟨A3, c3, rfl, hO3, hb5⟩
  clear C x0 x1 x2 x3 x4
  replace hP := hP.below hb5 hP.lt
  replace hO2 := own_below hO2 hb5
  replace hb := hb.trans (hb5.mono hb.size)
  obtain ⟨hW0, hW1, hH0, hH1, hlen, _⟩ := isG_bounds hA.1
  have hnn : (n : Int) = W * H := by have := hrP.1; simp [nums] at this; omega
  have hr2 := Reads.of_own hO2
  have hr3 := Reads.of_own hO3
  have hn700 : n ≤ 700 := by omega
  clear hb5 hrP hvP hO2 hO3 hlen hA hh hv hr hby hnc1 hcm1
  have HNN := Lib.hid hnn
  clear hnn
  go_wp2_with fail
  refine Calls.mono (num9 _ _) ?_
  rintro e wn ⟨rfl, rfl⟩
  have x2 := hP.cell (i := 2) rfl
  go_wp2_with fail
  refine Calls.mono (num9 _ _) ?_
  rintro e wn ⟨rfl, rfl⟩
  go_wp2_with fail
  have hpl : w.heap.size < w5.heap.size := hP.lt
  have hbs := hb.size
  clear x2
  go_loopw [7] (fun iv wr => ∃ (t : Nat), t ≤ n ∧ iv = .int .i64 t ∧ Below w5.heap.size w5 wr) (fun iv _ => n - (intOf iv).toNat)
  case atStart => exact ⟨0, Nat.zero_le _, rfl, Below.refl _ _⟩
  case round =>
    obtain ⟨t, ht, rfl, hbl⟩ := hrel
    have HP := Lib.hid hP
    have HB := Lib.hid hb
    have HR2 := Lib.hid hr2
    have HR3 := Lib.hid hr3
    have HL := Lib.hid hbl
    clear hP hb hr2 hr3 hbl
    by_cases htn : t < n
    case neg =>
      obtain rfl : t = n := by omega
      go_wp2_with fail
      refine Calls.mono (wakes9 _) ?_
      rintro e w7 ⟨rfl, hb7⟩
      have hb8 := HB.out.trans ((HL.out.trans (hb7.mono HL.out.size)).mono HB.out.size)
      go_wp2_with fail
      go_ret
      exact ⟨rfl, hb8⟩
    have htz : (t : Int) < (n : Int) := by omega
    have hw0 : ¬ W = 0 := by omega
    have hP := HP.out.below HL.out HP.out.lt
    have x0 := hP.cell (i := 0) rfl
    have hyl : 0 ≤ (t : Int) / W ∧ (t : Int) / W < H := ⟨Int.ediv_nonneg (by omega) (by omega), Int.ediv_lt_of_lt_mul (by omega) (by rw [Int.mul_comm, ← HNN.out]; exact htz)⟩
    have hxl : 0 ≤ (t : Int) % W ∧ (t : Int) % W < W := ⟨Int.emod_nonneg _ hw0, Int.emod_lt_of_pos _ (by omega)⟩
    have e1 : wrap64 ((t : Int) / W) = (t : Int) / W := by unfold wrap64; omega
    go_wp2_with fail
    go_quiet (fail)
    (try simp only [e1])
    clear x0 e1 hP
    have HL2 := Lib.hid (below_drewN HL.out nq)
    clear HL
    generalize wr.drewN nq = w6 at *
    have hP := HP.out.below HL2.out HP.out.lt
    have hs6 := HL2.out.size
    have hF := okK_at hK t
    obtain ⟨hfa, hfb⟩ := full_at hW0 HNN.out htn hR rfl hF.1
    have M1 := fun u => calls_over (x := u) (full9 W H (tX W t) (tY W t) (ml.getD t 0 - 1) A A3 n c n c3 _ (openT W ts l n1 k) true (over w6 u) ((HR3.out.below HL2.out).over hs6) (Nat.le_trans hs6 (over_below w6 u).size) hW0 hW1 hH0 hH1 HNN.out ⟨hxl.1, hxl.2, hyl.1, hyl.2⟩ (by omega) (by omega) hfa)
    have M2 := fun u => calls_over (x := u) (full9 W H (tX W t) (tY W t) (ml.getD t 0) A A3 n c n c3 _ (openT W ts l n1 k) false (over w6 u) ((HR3.out.below HL2.out).over hs6) (Nat.le_trans hs6 (over_below w6 u).size) hW0 hW1 hH0 hH1 HNN.out ⟨hxl.1, hxl.2, hyl.1, hyl.2⟩ (by omega) (by omega) hfb)
    unfold tX tY at M1 M2
    obtain ⟨_, b2, o2, rfl, hbb2, hc2⟩ := (HR2.out.below HL2.out).num htn
    have hb6 : b2 < w6.heap.size := by omega
    clear hfa hfb
    generalize hFe : ml.getD t 0 = F at *
    generalize hX : (t : Int) % W = X at *
    generalize hY : (t : Int) / W = Y at *
    replace M1 := Lib.hid M1
    replace M2 := Lib.hid M2
    obtain ⟨hF0, hF1⟩ := hF
    have d1 : decide (F < 0) = false := by simp; omega
    have d2 : decide (128 < F) = false := by simp; omega
    have x0 := hP.cell (i := 0) rfl
    have x1 := hP.cell (i := 1) rfl
    have x2 := hP.cell (i := 2) rfl
    have hpl6 := hP.lt
    go_wp2_with fail
    refine wp_region_over (by kernel_rfl) (by kernel_rfl) ?_
    repeat (go_big_quiet_step (first | (go_at_call 23; with_reducible exact M1.out _) | (go_at_call 23; with_reducible exact M2.out _)))
    refine wpQuiet_nil ?_
    rintro wq ⟨xq, rfl⟩
    clear x0 x1 x2 hc2 d1 d2 M1 M2
    have HL3 := Lib.hid (HL2.out.trans ((over_below w6 xq).mono hs6))
    generalize over w6 xq = w7 at *
    clear HL2 hs6 hP hpl6 hb6
    have hP := HP.out.below HL3.out HP.out.lt
    have hs7 := HL3.out.size
    have x0 := hP.cell (i := 0) rfl
    have x1 := hP.cell (i := 1) rfl
    have x2 := hP.cell (i := 2) rfl
    have C := Lib.hid (ref_near W H t A n c w7 hW0 hW1 hH0 hH1 (by omega) (by rw [← HNN.out]; exact htz))
    go_wp2_with fail
    refine Calls.mono C.out ?_
    rintro e w8 ⟨A12, c12, rfl, hV, hb8⟩
    clear C x0 x1 x2 hP
    have hlen : (nearL W H (t : Int)).length = 8 := rfl
    rw [hlen] at hV ⊢
    have hn8 : Hid (∀ q, q < 8 → (nearL W H (t : Int)).getD q 0 = nearI W H t q) := Lib.hid (fun q hq => by
      rcases (show q = 0 ∨ q = 1 ∨ q = 2 ∨ q = 3 ∨ q = 4 ∨ q = 5 ∨ q = 6 ∨ q = 7 by omega) with rfl | rfl | rfl | rfl | rfl | rfl | rfl | rfl <;> rfl)
    clear hlen
    generalize nearL W H (t : Int) = nl at *
    have HV := Lib.hid (Reads.of_own hV)
    have HL4 := Lib.hid (HL3.out.trans (hb8.mono hs7))
    have hs8 := HL4.out.size
    clear hV HL3 hb8 hs7 hX hY
    go_wp2_with fail
    go_loopw [11] (fun iv wx => ∃ (i : Nat), i ≤ 8 ∧ iv = .int .i64 i ∧ Below w8.heap.size w8 wx) (fun iv _ => 8 - (intOf iv).toNat)
    case atStart => exact ⟨0, by omega, rfl, Below.refl _ _⟩
    case round =>
      obtain ⟨i, hi, rfl, hbx⟩ := hrel
      have HX := Lib.hid hbx
      clear hbx
      by_cases hi8 : i < 8
      case neg =>
        obtain rfl : i = 8 := by omega
        have HL5 := Lib.hid (HL4.out.trans (HX.out.mono hs8))
        clear HX HL4
        go_wp2_with fail
        go_roundw
        case rel => exact ⟨t + 1, by omega, by go_num, HL5.out⟩
        case measure => simp [intOf]; omega
      have hiz : (i : Int) < 8 := by omega
      have hsx := HX.out.size
      obtain ⟨_, b3, o3, rfl, hbb3, hcv⟩ := (HV.out.below HX.out).num hi8
      rw [hn8.out i hi8] at hcv
      have hb3x : b3 < wr.heap.size := by omega
      obtain ⟨_, b4, o4, he4, hbb4, hct⟩ := (HR2.out.below (HL4.out.trans (HX.out.mono hs8))).num htn
      simp only [Option.some.injEq, Addr.mk.injEq, and_true] at he4
      obtain ⟨rfl, rfl⟩ := he4
      rw [hFe] at hct
      have hb2x : b2 < wr.heap.size := by omega
      have hnb := Lib.hid (fun h => (near_at (W := W) (H := H) (l := ml) (t := t) (q := i) HNN.out).2.1 h)
      by_cases hneg : nearI W H t i < 0
      case pos =>
        have d1 : decide (0 ≤ nearI W H t i) = false := by simp; omega
        clear hnb
        generalize nearI W H t i = v at *
        go_wp2_with fail
        refine wp_region_over (by kernel_rfl) (by kernel_rfl) ?_
        repeat (go_big_quiet_step (fail))
        refine wpQuiet_nil ?_
        rintro wq ⟨xq, rfl⟩
        have HX2 := Lib.hid (HX.out.trans ((over_below wr xq).mono HX.out.size))
        generalize over wr xq = w9 at *
        clear HX hcv hct d1
        go_wp2_with fail
        go_roundw
        case rel => exact ⟨i + 1, by omega, by go_num, HX2.out⟩
        case measure => simp [intOf]; omega
      have d1 : decide (0 ≤ nearI W H t i) = true := by simp; omega
      have hz1 := (hnb.out (by omega)).1
      have hz2 := (hnb.out (by omega)).2.1
      obtain ⟨hl1, hl2⟩ := near_lip hW0 HNN.out htn hR hi8 (by omega)
      rw [hFe] at hl1 hl2
      have hFz := okK_at hK (nearI W H t i).toNat
      clear hnb
      generalize (nearI W H t i).toNat = z at *
      rw [← hz2] at hcv d1 hneg
      have hzz : (z : Int) < (n : Int) := by omega
      obtain ⟨_, b5, o5, he5, hbb5, hcz⟩ := (HR2.out.below (HL4.out.trans (HX.out.mono hs8))).num hz1
      simp only [Option.some.injEq, Addr.mk.injEq, and_true] at he5
      obtain ⟨rfl, rfl⟩ := he5
      generalize ml.getD z 0 = Fz at *
      have d2 : decide (1 < Fz - F) = false := by simp; omega
      have d3 : decide (1 < F - Fz) = false := by simp; omega
      clear hz2
      go_wp2_with fail
      refine wp_region_over (by kernel_rfl) (by kernel_rfl) ?_
      repeat (go_big_quiet_step (fail))
      refine wpQuiet_nil ?_
      rintro wq ⟨xq, rfl⟩
      have HX2 := Lib.hid (HX.out.trans ((over_below wr xq).mono HX.out.size))
      generalize over wr xq = w9 at *
      clear HX hcv hct hcz d1 d2 d3
      go_wp2_with fail
      go_roundw
      case rel => exact ⟨i + 1, by omega, by go_num, HX2.out⟩
      case measure => simp [intOf]; omega
end lawClearSquares
end Go.Proofs.Ytfgjiaakoacomaa
