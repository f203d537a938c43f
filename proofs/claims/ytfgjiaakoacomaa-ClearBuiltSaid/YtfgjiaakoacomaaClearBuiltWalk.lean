/- The walk of the law ClearBuilt. -/
import Derived.Test.YtfgjiaakoacomaaBuiltMath
namespace Go.Proofs.Ytfgjiaakoacomaa
set_option maxRecDepth 20000
open Go.RowKit Go.WideShapes Go.ChangeShapes

theorem slice_bd' (A : Option Addr) (n c k : Nat) (x : Int) (hx : x = (k : Int)) (hk : k ≤ n) (W : World) : (Instr.slice 25 (.slice A n c) (some (.int .i64 x)) none none).run Try.prog W = .ok (.slice (if c = k then A else A.map (·.add (k * 6))) (n - k) (c - k)) W := by
  subst hx
  rw [run_slice_l (ht := by kernel_rfl) (kl := .i64) (l := (k : Int)) (h0 := by omega) (h1 := by omega)]
  rw [show (sizeOf (Try.prog.elem 25)).run Try.prog W = .ok 6 W by kernel_rfl]
  simp [Result.andThen, sliced]
theorem slice_bd (A : Option Addr) (n c : Nat) (h : 1 ≤ n) (W : World) : (Instr.slice 25 (.slice A n c) (some (.int .i64 1)) none none).run Try.prog W = .ok (.slice (if c = 1 then A else A.map (·.add (1 * 6))) (n - 1) (c - 1)) W := slice_bd' A n c 1 1 rfl h W
theorem bds_tail {w : World} {A : Option Addr} {n c : Nat} {l : List Bd} (h : BdsL w A n l) (hn : n ≤ c) : BdsL w (if c = 1 then A else A.map (·.add (1 * 6))) (n - 1) (l.drop 1) := by
  refine ⟨by simp [h.1], fun i hi => ?_⟩
  obtain ⟨b, o, rfl, h2, ⟨k0, k1, k2, k3, k4, k5⟩, h4⟩ := h.2 (i + 1) (by omega)
  rw [bd_tail, if_neg (by omega)]
  refine ⟨b, o + 6, rfl, h2, ⟨?_, ?_, ?_, ?_, ?_, ?_⟩, h4⟩
  · rw [show o + 6 + i * 6 = o + (i + 1) * 6 by omega]; exact k0
  · rw [show o + 6 + i * 6 = o + (i + 1) * 6 by omega]; exact k1
  · rw [show o + 6 + i * 6 = o + (i + 1) * 6 by omega]; exact k2
  · rw [show o + 6 + i * 6 = o + (i + 1) * 6 by omega]; exact k3
  · rw [show o + 6 + i * 6 = o + (i + 1) * 6 by omega]; exact k4
  · rw [show o + 6 + i * 6 = o + (i + 1) * 6 by omega]; exact k5

namespace lawClearBuilt
set_option maxHeartbeats 6400000 in
set_option maxRecDepth 100000 in
theorem walk {H : Type} {enc : TypeId × Value → H} (w : World) {base : Nat} (v : Value) (d : DataW H) (p : List MemPlace) (hv0 : Value.okWide Try.prog w .any base 27 v)
    (ht : DataW.Trod enc Try.prog w 0 (fun _ => true) true 27 v d p) : Calls Try.prog 4 #[v] w fun e w' => e = .returned (.bool true) ∧ Below w.heap.size w w' := by
  obtain ⟨W, H, A, n, c, ts, A1, n1, c1, l, k, rfl, hWr, hHr, hr, hby, ⟨hnc, hcm⟩, hv, ⟨hnc1, hcm1⟩, hkr⟩ := open_ask9 hv0 ht
  unfold maxLen at hcm hcm1
  clear hv0 ht hWr hHr hkr
  have hP := Blk.new w #[.int .i64 W, .int .i64 H, .slice A n c, .slice A1 n1 c1, .int .i64 k] 27
  have hb := (Below.refl w.heap.size w).alloc (Nat.le_refl _) (.cells #[.int .i64 W, .int .i64 H, .slice A n c, .slice A1 n1 c1, .int .i64 k] 27)
  have hrP := hr.below hb
  have hvP := hv.below hb
  have C0 := Lib.hid (heavy9 W H k A A1 n c n1 c1 (w.alloc (.cells #[.int .i64 W, .int .i64 H, .slice A n c, .slice A1 n1 c1, .int .i64 k] 27)) (by omega) (by omega))
  go_enter Try.func4, Try.ntmps4
  go_wp2_with fail
  generalize w.alloc (.cells #[.int .i64 W, .int .i64 H, .slice A n c, .slice A1 n1 c1, .int .i64 k] 27) = w1 at *
  refine Calls.mono C0.out ?_
  rintro e w2 ⟨rfl, hb2⟩
  clear C0
  replace hP := hP.below hb2 hP.lt
  replace hrP := hrP.below (hb2.mono hb.size)
  replace hvP := hvP.below hb2
  replace hb := hb.trans (hb2.mono hb.size)
  clear hb2
  by_cases hh : 700 < n ∨ 30 < n1
  case pos =>
    rw [decide_eq_true hh]
    clear hP
    go_wp2_with fail
    go_ret
    exact ⟨rfl, hb⟩
  rw [decide_eq_false hh]
  have x0 := hP.cell (i := 0) rfl
  have x1 := hP.cell (i := 1) rfl
  have x2 := hP.cell (i := 2) rfl
  have x3 := hP.cell (i := 3) rfl
  have x4 := hP.cell (i := 4) rfl
  by_cases hA : allP n W H ts l k
  case neg =>
    have C := Lib.hid (clear_grid_no W H k A n c _ ts A1 n1 c1 l w2 hrP hb.size hby hvP (by omega) hA)
    go_wp2_with fail
    refine Calls.mono C.out ?_
    rintro e w3 ⟨rfl, hb3⟩
    replace hb := hb.trans (hb3.mono hb.size)
    clear C hb3 hP x0 x1 x2 x3 x4
    go_wp2_with fail
    refine Calls.mono (num9 _ _) ?_
    rintro e wn ⟨rfl, rfl⟩
    go_wp2_with fail
    go_ret
    exact ⟨rfl, hb⟩
  have C := Lib.hid (clear_grid W H k A n c _ ts A1 n1 c1 l w2 hrP hb.size hby hvP (by omega) hA)
  go_wp2_with fail
  refine Calls.mono C.out ?_
  rintro e w3 ⟨A2, c2, l2, rfl, hO2, hR2, hK2, hb3⟩
  clear C x0 x1 x2 x3 x4
  replace hP := hP.below hb3 hP.lt
  replace hrP := hrP.below (hb3.mono hb.size)
  replace hvP := hvP.below hb3
  replace hb := hb.trans (hb3.mono hb.size)
  clear hb3
  go_wp2_with fail
  refine Calls.mono (num9 _ _) ?_
  rintro e wn ⟨rfl, rfl⟩
  have x0 := hP.cell (i := 0) rfl
  have x1 := hP.cell (i := 1) rfl
  have x2 := hP.cell (i := 2) rfl
  have x3 := hP.cell (i := 3) rfl
  have x4 := hP.cell (i := 4) rfl
  by_cases hz : n1 = 0
  case pos =>
    have d2 : ((n1 : Int) == 0) = true := by rw [beq_iff_eq]; omega
    clear hO2
    go_wp2_with fail
    go_ret
    exact ⟨rfl, hb⟩
  have d2 : ((n1 : Int) == 0) = false := by rw [beq_eq_false_iff_ne]; omega
  go_wp2_with fail
  clear d2
  clear x0 x1 x2 x3 x4
  obtain ⟨hW0, hW1, hH0, hH1, hlen, _⟩ := isG_bounds hA.1
  have hll : ts.length = n := by have := hrP.1; simpa [nums] using this
  have hn : (n : Int) = W * H := by omega
  have hl1 : l.length = n1 := hvP.1
  obtain ⟨m, rfl⟩ : ∃ m, n1 = m + 1 := ⟨n1 - 1, by omega⟩
  have hsl := fun W9 => slice_bd A1 (m + 1) c1 (by omega) W9
  rw [Nat.add_sub_cancel] at hsl
  have hbt := bds_tail hvP (by omega)
  rw [Nat.add_sub_cancel] at hbt
  generalize (if c1 = 1 then A1 else A1.map (·.add (1 * 6))) = A4 at *
  have hA2 := tail_ok hA
  have C3 := Lib.hid (fun (W9 : World) (h : Below w3.heap.size w3 W9) => clear_grid W H k A n c _ ts A4 m (c1 - 1) (l.drop 1) W9 (hrP.below (h.mono hb.size)) (Nat.le_trans hb.size h.size) hby (hbt.below h) (by omega) hA2)
  have hBL := fun lm h => built_less (lm := lm) hA hl1 hn hby hR2 h
  replace hBL := Lib.hid hBL
  replace hn := Lib.hid hn
  have HP := Lib.hid hP
  have HO2 := Lib.hid hO2
  have HB := Lib.hid hb
  have HSL := Lib.hid hsl
  clear hP hO2 hb hR2 hA hA2 hlen hll hl1 hvP hbt hsl hW0 hW1 hH0 hH1 hby hrP hcm hcm1 hnc hnc1
  refine' wp_region_grow [Fact.val _, Fact.val _, Fact.val _, Fact.val _, Fact.val _, Fact.val _, Fact.val _, Fact.pred (fun v w' => ∃ A6 c6 lm, v = .tuple #[.slice A6 n c6, .int .i64 0] ∧ w'.ownsRow w3.heap.size 3 1 (.slice A6 n c6) n (nums .i64 lm) ∧ RoomL W H n (openT W ts (l.drop 1) m k) lm ∧ okK n lm) (fun v w w' h hb => by obtain ⟨A6, c6, lm, h1, h2, h3, h4⟩ := h; exact ⟨A6, c6, lm, h1, own_below h2 hb, h3, h4⟩), Fact.pred (fun v w' => ∃ A6 c6 lm, v = .tuple #[.slice A6 n c6, .int .i64 0] ∧ w'.ownsRow w3.heap.size 3 1 (.slice A6 n c6) n (nums .i64 lm) ∧ RoomL W H n (openT W ts (l.drop 1) m k) lm ∧ okK n lm) (fun v w w' h hb => by obtain ⟨A6, c6, lm, h1, h2, h3, h4⟩ := h; exact ⟨A6, c6, lm, h1, own_below h2 hb, h3, h4⟩), Fact.pred (fun v w' => ∃ A6 c6 lm, v = .slice A6 n c6 ∧ w'.ownsRow w3.heap.size 3 1 (.slice A6 n c6) n (nums .i64 lm) ∧ RoomL W H n (openT W ts (l.drop 1) m k) lm ∧ okK n lm) (fun v w w' h hb => by obtain ⟨A6, c6, lm, h1, h2, h3, h4⟩ := h; exact ⟨A6, c6, lm, h1, own_below h2 hb, h3, h4⟩), Fact.val _, Fact.pred (fun v w' => ∃ A6 c6 lm, v = .slice A6 n c6 ∧ w'.ownsRow w3.heap.size 3 1 (.slice A6 n c6) n (nums .i64 lm) ∧ RoomL W H n (openT W ts (l.drop 1) m k) lm ∧ okK n lm) (fun v w w' h hb => by obtain ⟨A6, c6, lm, h1, h2, h3, h4⟩ := h; exact ⟨A6, c6, lm, h1, own_below h2 hb, h3, h4⟩), Fact.val _] (A := _) ?hAa (by kernel_rfl) (by kernel_rfl) ?stepsa ?henda
  case hAa =>
    intro us X9 hX9
    simp only [fillF, Act.put, List.setIfInBounds_toArray, List.set_cons_zero, List.set_cons_succ, Nat.reduceAdd]
    (try go_simp)
    exact hX9
  case stepsa =>
    refine ⟨fun us W9 HB9 hd K hK => ?_, ?_⟩
    · clear hd
      go_simp
      refine hK _ _ (Below.refl _ _) ?_
      (show _ = _); rfl
    refine ⟨fun us W9 HB9 hd K hK => ?_, ?_⟩
    · clear hd
      have x0 := (HP.out.below HB9 HP.out.lt).cell (i := 0) rfl
      have x1 := (HP.out.below HB9 HP.out.lt).cell (i := 1) rfl
      have x2 := (HP.out.below HB9 HP.out.lt).cell (i := 2) rfl
      have x3 := (HP.out.below HB9 HP.out.lt).cell (i := 3) rfl
      have x4 := (HP.out.below HB9 HP.out.lt).cell (i := 4) rfl
      go_simp
      refine hK _ _ (Below.refl _ _) ?_
      (show _ = _); rfl
    refine ⟨fun us W9 HB9 hd K hK => ?_, ?_⟩
    · clear hd
      go_simp
      refine hK _ _ (Below.refl _ _) ?_
      (show _ = _); rfl
    refine ⟨fun us W9 HB9 hd K hK => ?_, ?_⟩
    · clear hd
      have x0 := (HP.out.below HB9 HP.out.lt).cell (i := 0) rfl
      have x1 := (HP.out.below HB9 HP.out.lt).cell (i := 1) rfl
      have x2 := (HP.out.below HB9 HP.out.lt).cell (i := 2) rfl
      have x3 := (HP.out.below HB9 HP.out.lt).cell (i := 3) rfl
      have x4 := (HP.out.below HB9 HP.out.lt).cell (i := 4) rfl
      go_simp
      refine hK _ _ (Below.refl _ _) ?_
      (show _ = _); rfl
    refine ⟨fun us W9 HB9 hd K hK => ?_, ?_⟩
    · clear hd
      have hs := HSL.out W9
      go_simp
      refine hK _ _ (Below.refl _ _) ?_
      (show _ = _); rfl
    refine ⟨fun us W9 HB9 hd K hK => ?_, ?_⟩
    · clear hd
      go_simp
      refine hK _ _ (Below.refl _ _) ?_
      (show _ = _); rfl
    refine ⟨fun us W9 HB9 hd K hK => ?_, ?_⟩
    · clear hd
      have x0 := (HP.out.below HB9 HP.out.lt).cell (i := 0) rfl
      have x1 := (HP.out.below HB9 HP.out.lt).cell (i := 1) rfl
      have x2 := (HP.out.below HB9 HP.out.lt).cell (i := 2) rfl
      have x3 := (HP.out.below HB9 HP.out.lt).cell (i := 3) rfl
      have x4 := (HP.out.below HB9 HP.out.lt).cell (i := 4) rfl
      go_simp
      refine hK _ _ (Below.refl _ _) ?_
      (show _ = _); rfl
    refine ⟨fun us W9 HB9 hd K hK => ?_, ?_⟩
    · clear hd
      have C := C3.out W9 HB9
      go_simp
      (with_reducible refine Calls.mono C ?_)
      rintro e wn ⟨A6, c6, lm, rfl, h1, h2, h3, hbn⟩
      exact hK _ _ hbn ⟨A6, c6, lm, rfl, own_mono h1 HB9.size, h2, h3⟩
    refine ⟨fun us W9 HB9 hd K hK => ?_, ?_⟩
    · have h7 := hd 7 (by decide); clear hd
      obtain ⟨A6, c6, lm, e7, h1, h2, h3⟩ : ∃ A6 c6 lm, us 7 = _ ∧ _ := h7
      simp only [e7] at hK ⊢
      go_simp
      exact hK _ _ (Below.refl _ _) ⟨A6, c6, lm, rfl, h1, h2, h3⟩
    refine ⟨fun us W9 HB9 hd K hK => ?_, ?_⟩
    · have h8 := hd 8 (by decide); clear hd
      obtain ⟨A6, c6, lm, e8, h1, h2, h3⟩ : ∃ A6 c6 lm, us 8 = _ ∧ _ := h8
      simp only [e8] at hK ⊢
      go_simp
      exact hK _ _ (Below.refl _ _) ⟨A6, c6, lm, rfl, h1, h2, h3⟩
    refine ⟨fun us W9 HB9 hd K hK => ?_, ?_⟩
    · have h8 := hd 8 (by decide); clear hd
      obtain ⟨A6, c6, lm, e8, h1, h2, h3⟩ : ∃ A6 c6 lm, us 8 = _ ∧ _ := h8
      simp only [e8] at hK ⊢
      go_simp
      refine hK _ _ (Below.refl _ _) ?_
      (show _ = _); rfl
    refine ⟨fun us W9 HB9 hd K hK => ?_, ?_⟩
    · have h9 := hd 9 (by decide); clear hd
      obtain ⟨A6, c6, lm, e9, h1, h2, h3⟩ : ∃ A6 c6 lm, us 9 = _ ∧ _ := h9
      simp only [e9] at hK ⊢
      go_simp
      exact hK _ _ (Below.refl _ _) ⟨A6, c6, lm, rfl, h1, h2, h3⟩
    refine ⟨fun us W9 HB9 hd K hK => ?_, ?_⟩
    · clear hd
      go_simp
      refine hK _ _ (Below.refl _ _) ?_
      (show _ = _); rfl
    trivial
  case henda =>
    intro us w4 HB9 hd
    have h11 := hd 11 (by decide)
    clear hd
    obtain ⟨A6, c6, lm, e11, hO6, hR6, hK6⟩ : ∃ A6 c6 lm, us 11 = _ ∧ _ := h11
    simp only [e11]
    clear e11
    generalize us 7 = u7
    generalize us 8 = u8
    generalize us 9 = u9
    obtain ⟨hle, t0, ht0, hlt0⟩ := hBL.out lm hR6
    have hO2 := own_below HO2.out HB9
    have hb := HB.out.trans (HB9.mono HB.out.size)
    clear HB9 HO2 HB HP HSL C3 hBL
    go_wp2_with fail
    refine Calls.mono (num9 _ _) ?_
    rintro e wn ⟨rfl, rfl⟩
    go_wp2_with fail
    have hr2 := Reads.of_own hO2
    have hr6 := Reads.of_own hO6
    clear hO2 hO6
    go_loopw [7, 8] (fun mo i wr => ∃ (t : Nat), t ≤ n ∧ i = .int .i64 t ∧ mo = .bool (decide (∃ j, j < t ∧ l2.getD j 0 < lm.getD j 0)) ∧ Below w4.heap.size w4 wr) (fun _ i _ => n - (intOf i).toNat)
    case atStart => exact ⟨0, Nat.zero_le _, rfl, by simp, Below.refl _ _⟩
    case round =>
      obtain ⟨t, ht, rfl, rfl, hbl⟩ := hrel
      by_cases htn : t < n
      case neg =>
        obtain rfl : t = n := by omega
        rw [decide_eq_true (show ∃ j, j < t ∧ l2.getD j 0 < lm.getD j 0 from ⟨t0, ht0, hlt0⟩)]
        replace hb := Lib.hid (hb.trans (hbl.mono hb.size))
        clear hbl hr2 hr6 hle hlt0
        go_wp2_with fail
        refine Calls.mono (wakes9 _) ?_
        rintro e w5 ⟨rfl, hb5⟩
        replace hb := Lib.hid (hb.out.trans (hb5.mono hb.out.size))
        clear hb5
        go_wp2_with fail
        go_ret
        exact ⟨rfl, hb.out⟩
      obtain ⟨_, b2, o2, rfl, hbb2, hc2⟩ := (hr2.below hbl).num htn
      obtain ⟨_, b6, o6, rfl, hbb6, hc6⟩ := (hr6.below hbl).num htn
      have hl := hle t htn
      have HS := Lib.hid (show decide (∃ j, j < t + 1 ∧ l2.getD j 0 < lm.getD j 0) = (decide (∃ j, j < t ∧ l2.getD j 0 < lm.getD j 0) || decide (l2.getD t 0 < lm.getD t 0)) by
        rw [Bool.eq_iff_iff]
        simp only [decide_eq_true_eq, Bool.or_eq_true]
        constructor
        · rintro ⟨j, h1, h2⟩
          by_cases e : j < t
          · exact .inl ⟨j, e, h2⟩
          · obtain rfl : j = t := by omega
            exact .inr h2
        · rintro (⟨j, h1, h2⟩ | h)
          · exact ⟨j, by omega, h2⟩
          · exact ⟨t, by omega, h⟩)
      generalize decide (∃ j, j < t ∧ l2.getD j 0 < lm.getD j 0) = mo at *
      generalize hx2 : l2.getD t 0 = v2 at *
      generalize hx6 : lm.getD t 0 = v6 at *
      have d1 : decide (v6 < v2) = false := by simp; omega
      have HB := Lib.hid hbl
      have HBB := Lib.hid hb
      have HR2 := Lib.hid hr2
      have HR6 := Lib.hid hr6
      have HL := Lib.hid hle
      clear hbl hb hr2 hr6 hle
      generalize hdd : decide (v2 < v6) = dd at *
      replace hdd := Lib.hid hdd
      cases mo
      all_goals
        go_wp2_with fail
        go_quiet (fail)
        go_wp2_with fail
        go_quiet (fail)
        go_wp2_with fail
        refine ⟨⟨t + 1, by omega, by go_num, ?_, below_drewN HB.out _⟩, by simp [intOf]; omega⟩
        rw [HS.out]
        (first | rfl | (rw [← hdd.out]; rfl))
end lawClearBuilt
end Go.Proofs.Ytfgjiaakoacomaa
