/- The page's questions about a building's tiles. -/
import Derived.Test.YtfgjiaakoacomaaBuildCover
import Derived.Test.YtfgjiaakoacomaaBlk
namespace Go.Proofs.Ytfgjiaakoacomaa
set_option maxRecDepth 20000
open Go.RowKit

set_option maxHeartbeats 3200000 in
set_option maxRecDepth 20000 in
theorem ref_has (W H id ow x y bw bh t : Int) (A : Option Addr) (n c : Nat) (w : World) (hW0 : 1 ≤ W) (hW1 : W ≤ 128) (h01 : 0 ≤ x ∧ x ≤ 128) (h02 : 0 ≤ y ∧ y ≤ 128) (h03 : 0 ≤ bw ∧ bw ≤ 4) (h04 : 0 ≤ bh ∧ bh ≤ 4) (ht0 : 0 ≤ t) (ht1 : t < 16384) :
    Calls Try.prog 68 #[.agg #[.int .i64 W, .int .i64 H, .slice A n c], .agg #[.int .i64 id, .int .i64 ow, .int .i64 x, .int .i64 y, .int .i64 bw, .int .i64 bh], .int .i64 t] w fun e w' => e = .returned (.bool (decide (covP W ⟨id, ow, x, y, bw, bh⟩ t))) ∧ Below w.heap.size w w' := by
  have hWz : ¬ W = 0 := by omega
  have hG := (Blk.new w #[.int .i64 W, .int .i64 H, .slice A n c] 24).alloc (.cells #[.int .i64 id, .int .i64 ow, .int .i64 x, .int .i64 y, .int .i64 bw, .int .i64 bh] 76)
  have hB := Blk.new (w.alloc (.cells #[.int .i64 W, .int .i64 H, .slice A n c] 24)) #[.int .i64 id, .int .i64 ow, .int .i64 x, .int .i64 y, .int .i64 bw, .int .i64 bh] 76
  rw [show (w.alloc (.cells #[.int .i64 W, .int .i64 H, .slice A n c] 24)).heap.size = w.heap.size + 1 by simp] at hB
  have hb := two_boxes w (.cells #[.int .i64 W, .int .i64 H, .slice A n c] 24) (.cells #[.int .i64 id, .int .i64 ow, .int .i64 x, .int .i64 y, .int .i64 bw, .int .i64 bh] 76)
  have hq0 : 0 ≤ t / W := Int.ediv_nonneg ht0 (by omega)
  have hq1 : t / W ≤ t := Int.ediv_le_self W ht0
  obtain ⟨tx, htx'⟩ : ∃ tx, t % W = tx := ⟨_, rfl⟩
  obtain ⟨ty, hty'⟩ : ∃ ty, t / W = ty := ⟨_, rfl⟩
  have e1 := Lib.hid (show t.tmod W = tx by rw [Int.tmod_eq_emod_of_nonneg ht0]; exact htx')
  have e2 := Lib.hid (show IntKind.i64.wrap (t / W) = ty by rw [IntWalk.i64_in _ (by omega)]; exact hty')
  have e3 := Lib.hid (show IntKind.i64.wrap (t.tdiv W) = ty by rw [Int.tdiv_eq_ediv_of_nonneg ht0]; exact e2.out)
  have htx := Lib.hid htx'
  have hty := Lib.hid hty'
  clear htx' hty' hq0 hq1
  by_cases h0 : x ≤ tx
  case neg =>
    have HR : Hid (decide (covP W ⟨id, ow, x, y, bw, bh⟩ t) = false) := decide_eq_false (fun h => h0 (by have := h.1; rw [htx.out] at this; exact this))
    have d0 : decide (x ≤ tx) = false := by simpa using h0
    go_enter Try.func68, Try.ntmps68
    go_wp2_with fail
    have HX := Lib.hid hG
    have HXB := Lib.hid hB
    refine' wp_region_grow [Fact.val _, Fact.val _, Fact.val _, Fact.val _, Fact.val _, Fact.val _, Fact.val _, Fact.val _, Fact.val _, Fact.val _] (A := _) ?hAa (by kernel_rfl) (by kernel_rfl) ?stepsa ?henda
    case hAa =>
      intro us X hX
      simp only [fillF, Act.put, List.setIfInBounds_toArray, List.set_cons_zero, List.set_cons_succ, Nat.reduceAdd]
      (try go_simp)
      exact hX
    case stepsa =>
      refine ⟨fun us W9 HB hd K hK => ?_, ?_⟩
      · clear hd
        go_simp
        refine hK _ _ (Below.refl _ _) ?_
        (show _ = _); rfl
      refine ⟨fun us W9 HB hd K hK => ?_, ?_⟩
      · clear hd
        go_simp
        refine hK _ _ (Below.refl _ _) ?_
        (show _ = _); rfl
      refine ⟨fun us W9 HB hd K hK => ?_, ?_⟩
      · clear hd
        have q0 := (HX.out.below HB HX.out.lt).cell (i := 0) rfl
        go_simp
        refine hK _ _ (Below.refl _ _) ?_
        (show _ = _); rfl
      refine ⟨fun us W9 HB hd K hK => ?_, ?_⟩
      · clear hd
        go_simp
        refine hK _ _ (Below.refl _ _) ?_
        (show _ = _); rfl
      refine ⟨fun us W9 HB hd K hK => ?_, ?_⟩
      · clear hd
        go_simp
        refine hK _ _ (Below.refl _ _) ?_
        (show _ = _); rfl
      refine ⟨fun us W9 HB hd K hK => ?_, ?_⟩
      · clear hd
        go_simp
        refine hK _ _ (Below.refl _ _) ?_
        (show _ = _); rfl
      refine ⟨fun us W9 HB hd K hK => ?_, ?_⟩
      · clear hd
        have q0 := (HX.out.below HB HX.out.lt).cell (i := 0) rfl
        go_simp
        refine hK _ _ (Below.refl _ _) ?_
        (show _ = _); rfl
      refine ⟨fun us W9 HB hd K hK => ?_, ?_⟩
      · clear hd
        go_simp
        refine hK _ _ (Below.refl _ _) ?_
        (show _ = _); rfl
      refine ⟨fun us W9 HB hd K hK => ?_, ?_⟩
      · clear hd
        go_simp
        refine hK _ _ (Below.refl _ _) ?_
        (show _ = _); rfl
      refine ⟨fun us W9 HB hd K hK => ?_, ?_⟩
      · clear hd
        go_simp
        refine hK _ _ (Below.refl _ _) ?_
        (show _ = _); rfl
      trivial
    case henda =>
      intro us W9 HB hd
      clear hd
      have hB9 := HXB.out.below HB HXB.out.lt
      have HBF := Lib.hid (hb.trans (HB.mono hb.size))
      simp only [e1.out, e3.out]
      have u2 := hB9.cell (i := 2) rfl
      have u3 := hB9.cell (i := 3) rfl
      have u4 := hB9.cell (i := 4) rfl
      have u5 := hB9.cell (i := 5) rfl
      clear HB HX HXB hB9 hG hB hb
      go_wp2_with fail
      go_ret
      exact ⟨by (first | rfl | (rw [HR.out]; rfl) | (simp only [HR.out]; rfl)), HBF.out⟩
  have d0 : decide (x ≤ tx) = true := by simpa using h0
  by_cases h1 : tx < x + bw
  case neg =>
    have HR : Hid (decide (covP W ⟨id, ow, x, y, bw, bh⟩ t) = false) := decide_eq_false (fun h => h1 (by have := h.2.1; rw [htx.out] at this; exact this))
    have d1 : decide (tx < x + bw) = false := by simpa using h1
    go_enter Try.func68, Try.ntmps68
    go_wp2_with fail
    have HX := Lib.hid hG
    have HXB := Lib.hid hB
    refine' wp_region_grow [Fact.val _, Fact.val _, Fact.val _, Fact.val _, Fact.val _, Fact.val _, Fact.val _, Fact.val _, Fact.val _, Fact.val _] (A := _) ?hAa (by kernel_rfl) (by kernel_rfl) ?stepsa ?henda
    case hAa =>
      intro us X hX
      simp only [fillF, Act.put, List.setIfInBounds_toArray, List.set_cons_zero, List.set_cons_succ, Nat.reduceAdd]
      (try go_simp)
      exact hX
    case stepsa =>
      refine ⟨fun us W9 HB hd K hK => ?_, ?_⟩
      · clear hd
        go_simp
        refine hK _ _ (Below.refl _ _) ?_
        (show _ = _); rfl
      refine ⟨fun us W9 HB hd K hK => ?_, ?_⟩
      · clear hd
        go_simp
        refine hK _ _ (Below.refl _ _) ?_
        (show _ = _); rfl
      refine ⟨fun us W9 HB hd K hK => ?_, ?_⟩
      · clear hd
        have q0 := (HX.out.below HB HX.out.lt).cell (i := 0) rfl
        go_simp
        refine hK _ _ (Below.refl _ _) ?_
        (show _ = _); rfl
      refine ⟨fun us W9 HB hd K hK => ?_, ?_⟩
      · clear hd
        go_simp
        refine hK _ _ (Below.refl _ _) ?_
        (show _ = _); rfl
      refine ⟨fun us W9 HB hd K hK => ?_, ?_⟩
      · clear hd
        go_simp
        refine hK _ _ (Below.refl _ _) ?_
        (show _ = _); rfl
      refine ⟨fun us W9 HB hd K hK => ?_, ?_⟩
      · clear hd
        go_simp
        refine hK _ _ (Below.refl _ _) ?_
        (show _ = _); rfl
      refine ⟨fun us W9 HB hd K hK => ?_, ?_⟩
      · clear hd
        have q0 := (HX.out.below HB HX.out.lt).cell (i := 0) rfl
        go_simp
        refine hK _ _ (Below.refl _ _) ?_
        (show _ = _); rfl
      refine ⟨fun us W9 HB hd K hK => ?_, ?_⟩
      · clear hd
        go_simp
        refine hK _ _ (Below.refl _ _) ?_
        (show _ = _); rfl
      refine ⟨fun us W9 HB hd K hK => ?_, ?_⟩
      · clear hd
        go_simp
        refine hK _ _ (Below.refl _ _) ?_
        (show _ = _); rfl
      refine ⟨fun us W9 HB hd K hK => ?_, ?_⟩
      · clear hd
        go_simp
        refine hK _ _ (Below.refl _ _) ?_
        (show _ = _); rfl
      trivial
    case henda =>
      intro us W9 HB hd
      clear hd
      have hB9 := HXB.out.below HB HXB.out.lt
      have HBF := Lib.hid (hb.trans (HB.mono hb.size))
      simp only [e1.out, e3.out]
      have u2 := hB9.cell (i := 2) rfl
      have u3 := hB9.cell (i := 3) rfl
      have u4 := hB9.cell (i := 4) rfl
      have u5 := hB9.cell (i := 5) rfl
      clear HB HX HXB hB9 hG hB hb
      go_wp2_with fail
      go_ret
      exact ⟨by (first | rfl | (rw [HR.out]; rfl) | (simp only [HR.out]; rfl)), HBF.out⟩
  have d1 : decide (tx < x + bw) = true := by simpa using h1
  by_cases h2 : y ≤ ty
  case neg =>
    have HR : Hid (decide (covP W ⟨id, ow, x, y, bw, bh⟩ t) = false) := decide_eq_false (fun h => h2 (by have := h.2.2.1; rw [hty.out] at this; exact this))
    have d2 : decide (y ≤ ty) = false := by simpa using h2
    go_enter Try.func68, Try.ntmps68
    go_wp2_with fail
    have HX := Lib.hid hG
    have HXB := Lib.hid hB
    refine' wp_region_grow [Fact.val _, Fact.val _, Fact.val _, Fact.val _, Fact.val _, Fact.val _, Fact.val _, Fact.val _, Fact.val _, Fact.val _] (A := _) ?hAa (by kernel_rfl) (by kernel_rfl) ?stepsa ?henda
    case hAa =>
      intro us X hX
      simp only [fillF, Act.put, List.setIfInBounds_toArray, List.set_cons_zero, List.set_cons_succ, Nat.reduceAdd]
      (try go_simp)
      exact hX
    case stepsa =>
      refine ⟨fun us W9 HB hd K hK => ?_, ?_⟩
      · clear hd
        go_simp
        refine hK _ _ (Below.refl _ _) ?_
        (show _ = _); rfl
      refine ⟨fun us W9 HB hd K hK => ?_, ?_⟩
      · clear hd
        go_simp
        refine hK _ _ (Below.refl _ _) ?_
        (show _ = _); rfl
      refine ⟨fun us W9 HB hd K hK => ?_, ?_⟩
      · clear hd
        have q0 := (HX.out.below HB HX.out.lt).cell (i := 0) rfl
        go_simp
        refine hK _ _ (Below.refl _ _) ?_
        (show _ = _); rfl
      refine ⟨fun us W9 HB hd K hK => ?_, ?_⟩
      · clear hd
        go_simp
        refine hK _ _ (Below.refl _ _) ?_
        (show _ = _); rfl
      refine ⟨fun us W9 HB hd K hK => ?_, ?_⟩
      · clear hd
        go_simp
        refine hK _ _ (Below.refl _ _) ?_
        (show _ = _); rfl
      refine ⟨fun us W9 HB hd K hK => ?_, ?_⟩
      · clear hd
        go_simp
        refine hK _ _ (Below.refl _ _) ?_
        (show _ = _); rfl
      refine ⟨fun us W9 HB hd K hK => ?_, ?_⟩
      · clear hd
        have q0 := (HX.out.below HB HX.out.lt).cell (i := 0) rfl
        go_simp
        refine hK _ _ (Below.refl _ _) ?_
        (show _ = _); rfl
      refine ⟨fun us W9 HB hd K hK => ?_, ?_⟩
      · clear hd
        go_simp
        refine hK _ _ (Below.refl _ _) ?_
        (show _ = _); rfl
      refine ⟨fun us W9 HB hd K hK => ?_, ?_⟩
      · clear hd
        go_simp
        refine hK _ _ (Below.refl _ _) ?_
        (show _ = _); rfl
      refine ⟨fun us W9 HB hd K hK => ?_, ?_⟩
      · clear hd
        go_simp
        refine hK _ _ (Below.refl _ _) ?_
        (show _ = _); rfl
      trivial
    case henda =>
      intro us W9 HB hd
      clear hd
      have hB9 := HXB.out.below HB HXB.out.lt
      have HBF := Lib.hid (hb.trans (HB.mono hb.size))
      simp only [e1.out, e3.out]
      have u2 := hB9.cell (i := 2) rfl
      have u3 := hB9.cell (i := 3) rfl
      have u4 := hB9.cell (i := 4) rfl
      have u5 := hB9.cell (i := 5) rfl
      clear HB HX HXB hB9 hG hB hb
      go_wp2_with fail
      go_ret
      exact ⟨by (first | rfl | (rw [HR.out]; rfl) | (simp only [HR.out]; rfl)), HBF.out⟩
  have d2 : decide (y ≤ ty) = true := by simpa using h2
  by_cases h3 : ty < y + bh
  case neg =>
    have HR : Hid (decide (covP W ⟨id, ow, x, y, bw, bh⟩ t) = false) := decide_eq_false (fun h => h3 (by have := h.2.2.2; rw [hty.out] at this; exact this))
    have d3 : decide (ty < y + bh) = false := by simpa using h3
    go_enter Try.func68, Try.ntmps68
    go_wp2_with fail
    have HX := Lib.hid hG
    have HXB := Lib.hid hB
    refine' wp_region_grow [Fact.val _, Fact.val _, Fact.val _, Fact.val _, Fact.val _, Fact.val _, Fact.val _, Fact.val _, Fact.val _, Fact.val _] (A := _) ?hAa (by kernel_rfl) (by kernel_rfl) ?stepsa ?henda
    case hAa =>
      intro us X hX
      simp only [fillF, Act.put, List.setIfInBounds_toArray, List.set_cons_zero, List.set_cons_succ, Nat.reduceAdd]
      (try go_simp)
      exact hX
    case stepsa =>
      refine ⟨fun us W9 HB hd K hK => ?_, ?_⟩
      · clear hd
        go_simp
        refine hK _ _ (Below.refl _ _) ?_
        (show _ = _); rfl
      refine ⟨fun us W9 HB hd K hK => ?_, ?_⟩
      · clear hd
        go_simp
        refine hK _ _ (Below.refl _ _) ?_
        (show _ = _); rfl
      refine ⟨fun us W9 HB hd K hK => ?_, ?_⟩
      · clear hd
        have q0 := (HX.out.below HB HX.out.lt).cell (i := 0) rfl
        go_simp
        refine hK _ _ (Below.refl _ _) ?_
        (show _ = _); rfl
      refine ⟨fun us W9 HB hd K hK => ?_, ?_⟩
      · clear hd
        go_simp
        refine hK _ _ (Below.refl _ _) ?_
        (show _ = _); rfl
      refine ⟨fun us W9 HB hd K hK => ?_, ?_⟩
      · clear hd
        go_simp
        refine hK _ _ (Below.refl _ _) ?_
        (show _ = _); rfl
      refine ⟨fun us W9 HB hd K hK => ?_, ?_⟩
      · clear hd
        go_simp
        refine hK _ _ (Below.refl _ _) ?_
        (show _ = _); rfl
      refine ⟨fun us W9 HB hd K hK => ?_, ?_⟩
      · clear hd
        have q0 := (HX.out.below HB HX.out.lt).cell (i := 0) rfl
        go_simp
        refine hK _ _ (Below.refl _ _) ?_
        (show _ = _); rfl
      refine ⟨fun us W9 HB hd K hK => ?_, ?_⟩
      · clear hd
        go_simp
        refine hK _ _ (Below.refl _ _) ?_
        (show _ = _); rfl
      refine ⟨fun us W9 HB hd K hK => ?_, ?_⟩
      · clear hd
        go_simp
        refine hK _ _ (Below.refl _ _) ?_
        (show _ = _); rfl
      refine ⟨fun us W9 HB hd K hK => ?_, ?_⟩
      · clear hd
        go_simp
        refine hK _ _ (Below.refl _ _) ?_
        (show _ = _); rfl
      trivial
    case henda =>
      intro us W9 HB hd
      clear hd
      have hB9 := HXB.out.below HB HXB.out.lt
      have HBF := Lib.hid (hb.trans (HB.mono hb.size))
      simp only [e1.out, e3.out]
      have u2 := hB9.cell (i := 2) rfl
      have u3 := hB9.cell (i := 3) rfl
      have u4 := hB9.cell (i := 4) rfl
      have u5 := hB9.cell (i := 5) rfl
      clear HB HX HXB hB9 hG hB hb
      go_wp2_with fail
      go_ret
      exact ⟨by (first | rfl | (rw [HR.out]; rfl) | (simp only [HR.out]; rfl)), HBF.out⟩
  have HR : Hid (decide (covP W ⟨id, ow, x, y, bw, bh⟩ t) = true) := decide_eq_true ⟨by rw [htx.out]; exact h0, by rw [htx.out]; exact h1, by rw [hty.out]; exact h2, by rw [hty.out]; exact h3⟩
  have d3 : decide (ty < y + bh) = true := by simpa using h3
  go_enter Try.func68, Try.ntmps68
  go_wp2_with fail
  have HX := Lib.hid hG
  have HXB := Lib.hid hB
  refine' wp_region_grow [Fact.val _, Fact.val _, Fact.val _, Fact.val _, Fact.val _, Fact.val _, Fact.val _, Fact.val _, Fact.val _, Fact.val _] (A := _) ?hAa (by kernel_rfl) (by kernel_rfl) ?stepsa ?henda
  case hAa =>
    intro us X hX
    simp only [fillF, Act.put, List.setIfInBounds_toArray, List.set_cons_zero, List.set_cons_succ, Nat.reduceAdd]
    (try go_simp)
    exact hX
  case stepsa =>
    refine ⟨fun us W9 HB hd K hK => ?_, ?_⟩
    · clear hd
      go_simp
      refine hK _ _ (Below.refl _ _) ?_
      (show _ = _); rfl
    refine ⟨fun us W9 HB hd K hK => ?_, ?_⟩
    · clear hd
      go_simp
      refine hK _ _ (Below.refl _ _) ?_
      (show _ = _); rfl
    refine ⟨fun us W9 HB hd K hK => ?_, ?_⟩
    · clear hd
      have q0 := (HX.out.below HB HX.out.lt).cell (i := 0) rfl
      go_simp
      refine hK _ _ (Below.refl _ _) ?_
      (show _ = _); rfl
    refine ⟨fun us W9 HB hd K hK => ?_, ?_⟩
    · clear hd
      go_simp
      refine hK _ _ (Below.refl _ _) ?_
      (show _ = _); rfl
    refine ⟨fun us W9 HB hd K hK => ?_, ?_⟩
    · clear hd
      go_simp
      refine hK _ _ (Below.refl _ _) ?_
      (show _ = _); rfl
    refine ⟨fun us W9 HB hd K hK => ?_, ?_⟩
    · clear hd
      go_simp
      refine hK _ _ (Below.refl _ _) ?_
      (show _ = _); rfl
    refine ⟨fun us W9 HB hd K hK => ?_, ?_⟩
    · clear hd
      have q0 := (HX.out.below HB HX.out.lt).cell (i := 0) rfl
      go_simp
      refine hK _ _ (Below.refl _ _) ?_
      (show _ = _); rfl
    refine ⟨fun us W9 HB hd K hK => ?_, ?_⟩
    · clear hd
      go_simp
      refine hK _ _ (Below.refl _ _) ?_
      (show _ = _); rfl
    refine ⟨fun us W9 HB hd K hK => ?_, ?_⟩
    · clear hd
      go_simp
      refine hK _ _ (Below.refl _ _) ?_
      (show _ = _); rfl
    refine ⟨fun us W9 HB hd K hK => ?_, ?_⟩
    · clear hd
      go_simp
      refine hK _ _ (Below.refl _ _) ?_
      (show _ = _); rfl
    trivial
  case henda =>
    intro us W9 HB hd
    clear hd
    have hB9 := HXB.out.below HB HXB.out.lt
    have HBF := Lib.hid (hb.trans (HB.mono hb.size))
    simp only [e1.out, e3.out]
    have u2 := hB9.cell (i := 2) rfl
    have u3 := hB9.cell (i := 3) rfl
    have u4 := hB9.cell (i := 4) rfl
    have u5 := hB9.cell (i := 5) rfl
    clear HB HX HXB hB9 hG hB hb
    go_wp2_with fail
    go_ret
    exact ⟨by (first | rfl | (rw [HR.out]; rfl) | (simp only [HR.out]; rfl)), HBF.out⟩

theorem firm_to {n k : Nat} {W : Int} {ts : List Int} {b : Bd} (h : ∀ t : Nat, t < k → covP W b (t : Int) → ts.getD t 0 ≤ 1) (hk : covP W b (k : Int) → ts.getD k 0 ≤ 1) : ∀ t : Nat, t < k + 1 → covP W b (t : Int) → ts.getD t 0 ≤ 1 := fun t ht hc => by
  by_cases e : t < k
  · exact h t e hc
  · obtain rfl : t = k := by omega
    exact hk hc

set_option maxHeartbeats 1600000 in
set_option maxRecDepth 20000 in
theorem ref_firm (W H id ow x y bw bh : Int) (A : Option Addr) (n c B : Nat) (ts : List Int) (w : World) (hr : Reads w B 1 A n (nums .u8 ts)) (hB : B ≤ w.heap.size) (hl : IsBytes ts) (hW0 : 1 ≤ W) (hW1 : W ≤ 128) (hH0 : 1 ≤ H) (hH1 : H ≤ 128) (hn : (n : Int) = W * H) (h01 : 0 ≤ x ∧ x ≤ 128) (h02 : 0 ≤ y ∧ y ≤ 128) (h03 : 0 ≤ bw ∧ bw ≤ 4) (h04 : 0 ≤ bh ∧ bh ≤ 4) :
    Calls Try.prog 54 #[.agg #[.int .i64 W, .int .i64 H, .slice A n c], .agg #[.int .i64 id, .int .i64 ow, .int .i64 x, .int .i64 y, .int .i64 bw, .int .i64 bh]] w fun e w' => e = .returned (.bool (decide (firmP n W ts ⟨id, ow, x, y, bw, bh⟩))) ∧ Below w.heap.size w w' := by
  generalize hr' : decide (firmP n W ts ⟨id, ow, x, y, bw, bh⟩) = r
  have HR := Lib.hid hr'
  clear hr'
  have hp := prod_range hW0 hW1 hH0 hH1
  have hn4 : n ≤ 16384 := by omega
  have hwh : W * H = (n : Int) := hn.symm
  clear hp
  replace hn := Lib.hid hn
  have hll := Lib.hid (show ts.length = n by have := hr.1; simpa [nums] using this)
  have hG := (Blk.new w #[.int .i64 W, .int .i64 H, .slice A n c] 24).alloc (.cells #[.int .i64 id, .int .i64 ow, .int .i64 x, .int .i64 y, .int .i64 bw, .int .i64 bh] 76)
  have hX := Blk.new (w.alloc (.cells #[.int .i64 W, .int .i64 H, .slice A n c] 24)) #[.int .i64 id, .int .i64 ow, .int .i64 x, .int .i64 y, .int .i64 bw, .int .i64 bh] 76
  rw [show (w.alloc (.cells #[.int .i64 W, .int .i64 H, .slice A n c] 24)).heap.size = w.heap.size + 1 by simp] at hX
  have hb := two_boxes w (.cells #[.int .i64 W, .int .i64 H, .slice A n c] 24) (.cells #[.int .i64 id, .int .i64 ow, .int .i64 x, .int .i64 y, .int .i64 bw, .int .i64 bh] 76)
  go_enter Try.func54, Try.ntmps54
  go_wp2_with fail
  generalize (w.alloc (.cells #[.int .i64 W, .int .i64 H, .slice A n c] 24)).alloc (.cells #[.int .i64 id, .int .i64 ow, .int .i64 x, .int .i64 y, .int .i64 bw, .int .i64 bh] 76) = w1 at *
  go_loopw [5] (fun i wr => ∃ (k : Nat), k ≤ n ∧ i = .int .i64 k ∧ (∀ t : Nat, t < k → covP W ⟨id, ow, x, y, bw, bh⟩ (t : Int) → ts.getD t 0 ≤ 1) ∧ Below w1.heap.size w1 wr) (fun i _ => n - (intOf i).toNat)
  case atStart => exact ⟨0, Nat.zero_le _, rfl, fun t ht => absurd ht (by omega), Below.refl _ _⟩
  case round =>
    obtain ⟨k, hk, rfl, hall, hb1⟩ := hrel
    have hG1 := hG.below hb1 hG.lt
    have hX1 := hX.below hb1 hX.lt
    have z0 := hG1.cell (i := 0) rfl
    have z1 := hG1.cell (i := 1) rfl
    by_cases hkn : k < n
    case neg =>
      obtain rfl : k = n := by omega
      obtain rfl : r = true := by rw [← HR.out]; exact decide_eq_true hall
      have HB := Lib.hid (hb.trans (hb1.mono hb.size))
      clear hall hb1 hb hG hX hG1 hX1
      go_wp2_with fail
      go_ret
      exact ⟨rfl, HB.out⟩
    have HAS := Lib.hid (fun W' => ref_has W H id ow x y bw bh (k : Int) A n c W' hW0 hW1 h01 h02 h03 h04 (by omega) (by omega))
    have hrw := hr.below ((hb.trans (hb1.mono hb.size)).mono hB)
    obtain ⟨_, b, o, rfl, hbB, hct⟩ := hrw.num hkn
    have hx0 : 0 ≤ ts.getD k 0 := by
      have hm : ts.getD k 0 ∈ ts := by simp only [List.getD, List.getElem?_eq_getElem (show k < ts.length by rw [hll.out]; exact hkn), Option.getD_some]; exact List.getElem_mem _
      exact (hl _ hm).1
    have hno := Lib.hid (fun (h1 : covP W ⟨id, ow, x, y, bw, bh⟩ (k : Int)) (h2 : ¬ ts.getD k 0 ≤ 1) (h : firmP n W ts ⟨id, ow, x, y, bw, bh⟩) => h2 (h k hkn h1))
    have hyes := Lib.hid (firm_to (n := n) hall)
    have z2 := hG1.cell (i := 2) rfl
    have u0 := hX1.cell (i := 0) rfl
    have u1 := hX1.cell (i := 1) rfl
    have u2 := hX1.cell (i := 2) rfl
    have u3 := hX1.cell (i := 3) rfl
    have u4 := hX1.cell (i := 4) rfl
    have u5 := hX1.cell (i := 5) rfl
    generalize htv : ts.getD k 0 = tv at *
    by_cases hc : covP W ⟨id, ow, x, y, bw, bh⟩ (k : Int)
    case neg =>
      have HA := Lib.hid (hyes.out fun h => absurd h hc)
      simp only [decide_eq_false hc] at HAS
      replace HAS := Lib.hid HAS.out
      clear hall hG hX
      go_wp2_with fail
      refine Calls.mono (HAS.out _) ?_
      rintro e w5 ⟨rfl, hb5⟩
      have HB := Lib.hid (hb1.trans (hb5.mono hb1.size))
      clear z0 z1 z2 u0 u1 u2 u3 u4 u5 hG1 hX1 hb5 hb1 hct hrw
      go_wp2_with fail
      go_roundw
      case rel => exact ⟨k + 1, by omega, by go_num, HA.out, HB.out⟩
      case measure => simp [intOf]; omega
    simp only [decide_eq_true hc] at HAS
    replace HAS := Lib.hid HAS.out
    go_wp2_with fail
    refine Calls.mono (HAS.out _) ?_
    rintro e w5 ⟨rfl, hb5⟩
    have z2' := (hG1.below hb5 hG1.lt).cell (i := 2) rfl
    have hct' := ((hrw.below (hb5.mono (Nat.le_trans (hb.mono (Nat.le_refl _)).size hb1.size |> fun h => Nat.le_trans hB h))).num hkn)
    obtain ⟨_, b', o', e', _, hct5⟩ := hct'
    simp only [Option.some.injEq, Addr.mk.injEq, and_true] at e'
    obtain ⟨rfl, rfl⟩ := e'
    rw [htv] at hct5
    have HB := Lib.hid (hb1.trans (hb5.mono hb1.size))
    have HBB := Lib.hid (hb.trans ((hb1.trans (hb5.mono hb1.size)).mono hb.size))
    clear z0 z1 z2 u0 u1 u2 u3 u4 u5 hG1 hX1 hb5 hb1 hct hrw hG hX hall
    by_cases h0 : tv = 0
    · subst h0
      have HA := Lib.hid (hyes.out fun _ => by omega)
      go_wp2_with fail
      go_roundw
      case rel => exact ⟨k + 1, by omega, by go_num, HA.out, HB.out⟩
      case measure => simp [intOf]; omega
    by_cases h1 : tv = 1
    · subst h1
      have HA := Lib.hid (hyes.out fun _ => by omega)
      go_wp2_with fail
      go_roundw
      case rel => exact ⟨k + 1, by omega, by go_num, HA.out, HB.out⟩
      case measure => simp [intOf]; omega
    obtain rfl : r = false := by rw [← HR.out]; exact decide_eq_false (hno.out hc (by omega))
    have e0 : (tv != 0) = true := by simpa using h0
    have e1 : (tv != 1) = true := by simpa using h1
    go_wp2_with fail
    go_ret
    exact ⟨rfl, HBB.out⟩
end Go.Proofs.Ytfgjiaakoacomaa
