/- One step of a pass: a tile's number is made at most one more than those of some beside it. -/
import Derived.Test.YtfgjiaakoacomaaClearMay
import Derived.Test.YtfgjiaakoacomaaClearMath
namespace Go.Proofs.Ytfgjiaakoacomaa
set_option maxRecDepth 20000
open Go.RowKit

def atK (W H : Int) (ks : List Int) (x y : Int) : Int := if onG W H x y then ks.getD (x + W * y).toNat 0 else 0
def pass1 (W H : Int) (t : Nat) (ks : List Int) (d : Int × Int) : List Int := ks.set t (min (ks.getD t 0) (atK W H ks ((t : Int) % W + d.1) ((t : Int) / W + d.2) + 1))
def okK (n : Nat) (ks : List Int) : Prop := ks.length = n ∧ ∀ v ∈ ks, 0 ≤ v ∧ v ≤ 128
theorem okK_at {n : Nat} {ks : List Int} (h : okK n ks) (i : Nat) : 0 ≤ ks.getD i 0 ∧ ks.getD i 0 ≤ 128 := by
  by_cases hi : i < ks.length
  · have : ks.getD i 0 ∈ ks := by simp only [List.getD, List.getElem?_eq_getElem hi, Option.getD_some]; exact List.getElem_mem hi
    exact h.2 _ this
  · simp [List.getD, hi]
theorem atK_range {n : Nat} {ks : List Int} (h : okK n ks) (W H x y : Int) : 0 ≤ atK W H ks x y ∧ atK W H ks x y ≤ 128 := by
  unfold atK
  split
  · exact okK_at h _
  · omega
theorem okK_pass {n : Nat} {ks : List Int} (h : okK n ks) (W H : Int) (t : Nat) (d : Int × Int) : okK n (pass1 W H t ks d) := by
  refine ⟨by unfold pass1; rw [List.length_set]; exact h.1, fun v hv => ?_⟩
  rcases List.mem_or_eq_of_mem_set hv with hv | rfl
  · exact h.2 v hv
  · have a := okK_at h t
    have b := atK_range h W H ((t : Int) % W + d.1) ((t : Int) / W + d.2)
    omega
theorem okK_fold {n : Nat} (W H : Int) (t : Nat) : ∀ (ds : List (Int × Int)) (ks : List Int), okK n ks → okK n (ds.foldl (pass1 W H t) ks)
  | [], ks, h => h
  | d :: ds, ks, h => okK_fold W H t ds _ (okK_pass h W H t d)

set_option maxHeartbeats 3200000 in
set_option maxRecDepth 20000 in
theorem clear_pass (W H : Int) (A : Option Addr) (n c : Nat) (g c2 t base wb : Nat) (ks : List Int) (ds : List (Int × Int)) (w : World) (hW0 : 1 ≤ W) (hW1 : W ≤ 128) (hH0 : 1 ≤ H) (hH1 : H ≤ 128) (hn : (n : Int) = W * H)
    (hO : w.ownsRow base 3 1 (.slice (some ⟨g, 0, none⟩) n c2) n (nums .i64 ks)) (hbase : base ≤ w.heap.size) (hks : okK n ks) (ht : t < n) (hds : ds.length = 4) (hd : ∀ d ∈ ds, (-1 ≤ d.1 ∧ d.1 ≤ 1) ∧ (-1 ≤ d.2 ∧ d.2 ≤ 1))
    (hwb : wb < w.heap.size) (hgb : g ≠ wb) (hw : ∀ i, i < 4 → w.cell? ⟨wb, i * 2, none⟩ = some (.int .i64 (ds.getD i (0, 0)).1) ∧ w.cell? ⟨wb, i * 2 + 1, none⟩ = some (.int .i64 (ds.getD i (0, 0)).2)) :
    Calls Try.prog 59 #[.agg #[.int .i64 W, .int .i64 H, .slice A n c], .slice (some ⟨g, 0, none⟩) n c2, .int .i64 (t : Int), .slice (some ⟨wb, 0, none⟩) 4 4] w fun e w' => e = .returned (.tuple #[]) ∧
      w'.ownsRow base 3 1 (.slice (some ⟨g, 0, none⟩) n c2) n (nums .i64 (ds.foldl (pass1 W H t) ks)) ∧ Below base w w' ∧ (∀ i, i < 4 → w'.cell? ⟨wb, i * 2, none⟩ = some (.int .i64 (ds.getD i (0, 0)).1) ∧ w'.cell? ⟨wb, i * 2 + 1, none⟩ = some (.int .i64 (ds.getD i (0, 0)).2)) := by
  have hp := prod_range hW0 hW1 hH0 hH1
  have hn4 : n ≤ 16384 := by omega
  have hG := Blk.new w #[.int .i64 W, .int .i64 H, .slice A n c] 24
  have hb := (Below.refl base w).alloc hbase (.cells #[.int .i64 W, .int .i64 H, .slice A n c] 24)
  have hWz : ¬ W = 0 := by omega
  replace hn := Lib.hid hn
  have hO1 := hO.alloc (.cells #[.int .i64 W, .int .i64 H, .slice A n c] 24)
  go_enter Try.func59, Try.ntmps59
  go_wp2_with fail
  have HX := Lib.hid hG
  refine' wp_region_grow [Fact.val _, Fact.val _, Fact.val _, Fact.val _, Fact.val _, Fact.val _, Fact.val _, Fact.val _, Fact.val _, Fact.val _] (A := _) ?hAa (by kernel_rfl) (by kernel_rfl) ?stepsa ?henda
  case hAa =>
    intro us X hX
    simp only [fillF, Act.put, List.setIfInBounds_toArray, List.set_cons_zero, List.set_cons_succ, Nat.reduceAdd]
    (try go_simp)
    exact hX
  case stepsa =>
    refine ⟨fun us W9 HB hd K hK => ?_, ?_⟩
    · clear hd
      go_simp
      refine hK _ _ (Below.refl _ _) ?_
      (show _ = _); rfl
    refine ⟨fun us W9 HB hd K hK => ?_, ?_⟩
    · clear hd
      go_simp
      refine hK _ _ (Below.refl _ _) ?_
      (show _ = _); rfl
    refine ⟨fun us W9 HB hd K hK => ?_, ?_⟩
    · clear hd
      have q0 := (HX.out.below HB HX.out.lt).cell (i := 0) rfl
      go_simp
      refine hK _ _ (Below.refl _ _) ?_
      (show _ = _); rfl
    refine ⟨fun us W9 HB hd K hK => ?_, ?_⟩
    · clear hd
      go_simp
      refine hK _ _ (Below.refl _ _) ?_
      (show _ = _); rfl
    refine ⟨fun us W9 HB hd K hK => ?_, ?_⟩
    · clear hd
      go_simp
      refine hK _ _ (Below.refl _ _) ?_
      (show _ = _); rfl
    refine ⟨fun us W9 HB hd K hK => ?_, ?_⟩
    · clear hd
      go_simp
      refine hK _ _ (Below.refl _ _) ?_
      (show _ = _); rfl
    refine ⟨fun us W9 HB hd K hK => ?_, ?_⟩
    · clear hd
      have q0 := (HX.out.below HB HX.out.lt).cell (i := 0) rfl
      go_simp
      refine hK _ _ (Below.refl _ _) ?_
      (show _ = _); rfl
    refine ⟨fun us W9 HB hd K hK => ?_, ?_⟩
    · clear hd
      go_simp
      refine hK _ _ (Below.refl _ _) ?_
      (show _ = _); rfl
    refine ⟨fun us W9 HB hd K hK => ?_, ?_⟩
    · clear hd
      go_simp
      refine hK _ _ (Below.refl _ _) ?_
      (show _ = _); rfl
    refine ⟨fun us W9 HB hd K hK => ?_, ?_⟩
    · clear hd
      go_simp
      refine hK _ _ (Below.refl _ _) ?_
      (show _ = _); rfl
    trivial
  case henda =>
    intro us W9 HB hd
    clear hd
    have hX0 : 0 ≤ (t : Int) % W := Int.emod_nonneg _ hWz
    have hX1 : (t : Int) % W < W := Int.emod_lt_of_pos _ (by omega)
    have hY0 : 0 ≤ (t : Int) / W := Int.ediv_nonneg (by omega) (by omega)
    have hY1 : (t : Int) / W < H := Int.ediv_lt_of_lt_mul (by omega) (by rw [Int.mul_comm]; have := hn.out; omega)
    have e1 : ((t : Int)).tmod W = (t : Int) % W := Int.tmod_eq_emod_of_nonneg (by omega)
    have e2 : IntKind.i64.wrap ((t : Int) / W) = (t : Int) / W := IntWalk.i64_in _ (by omega)
    simp only [e1, e2]
    clear e1 e2
    have hP := fun ks d => (show pass1 W H t ks d = ks.set t (min (ks.getD t 0) (atK W H ks ((t : Int) % W + d.1) ((t : Int) / W + d.2) + 1)) from rfl)
    replace hP := Lib.hid hP
    generalize (t : Int) % W = X at *
    generalize (t : Int) / W = Y at *
    have hgl : g < w.heap.size := by
      obtain ⟨g', cap, hv, _, hlt⟩ := hO.form (by omega)
      injection hv with hv
      injection hv with hv
      injection hv with hv
      omega
    have hwb1 : wb < (w.alloc (.cells #[.int .i64 W, .int .i64 H, .slice A n c] 24)).heap.size := by simp; omega
    have hbW := (Below.refl w.heap.size w).alloc (Nat.le_refl _) (.cells #[.int .i64 W, .int .i64 H, .slice A n c] 24)
    have hw9 : ∀ i, i < 4 → W9.cell? ⟨wb, i * 2, none⟩ = some (.int .i64 (ds.getD i (0, 0)).1) ∧ W9.cell? ⟨wb, i * 2 + 1, none⟩ = some (.int .i64 (ds.getD i (0, 0)).2) := fun i hi =>
      ⟨(HB.cell hwb1).trans ((hbW.cell (p := ⟨wb, i * 2, none⟩) hwb).trans (hw i hi).1), (HB.cell hwb1).trans ((hbW.cell (p := ⟨wb, i * 2 + 1, none⟩) hwb).trans (hw i hi).2)⟩
    have hO9 := own_below hO1 HB
    have hG9 := HX.out.below HB HX.out.lt
    have hb9 := hb.trans (HB.mono (Nat.le_trans hbase hbW.size))
    clear HB HX hG hb hw hO1 hbW hwb1 hO
    go_wp2_with fail
    go_loopw [23] (fun iv wr => ∃ (i : Nat), i ≤ 4 ∧ iv = .int .i64 i ∧ wr.ownsRow base 3 1 (.slice (some ⟨g, 0, none⟩) n c2) n (nums .i64 ((ds.take i).foldl (pass1 W H t) ks)) ∧ Blk wr w.heap.size #[.int .i64 W, .int .i64 H, .slice A n c] 24 ∧ Below base w wr ∧ (∀ i, i < 4 → wr.cell? ⟨wb, i * 2, none⟩ = some (.int .i64 (ds.getD i (0, 0)).1) ∧ wr.cell? ⟨wb, i * 2 + 1, none⟩ = some (.int .i64 (ds.getD i (0, 0)).2))) (fun iv _ => 4 - (intOf iv).toNat)
    case atStart => exact ⟨0, by omega, rfl, hO9, hG9, hb9, hw9⟩
    case round =>
      clear hO9 hG9 hb9 hw9
      obtain ⟨i, hi, rfl, hO, hG, hb, hw⟩ := hrel
      by_cases hi4 : i < 4
      case neg =>
        obtain rfl : i = 4 := by omega
        rw [List.take_of_length_le (by omega)] at hO
        have HO := Lib.hid hO
        have HB := Lib.hid hb
        have HW := Lib.hid hw
        clear hO hG hb hw
        go_wp2_with fail
        go_end0
        exact ⟨rfl, HO.out, HB.out, HW.out⟩
      have hlk := okK_fold W H t (ds.take i) ks hks
      have htk : (ds.take (i + 1)).foldl (pass1 W H t) ks = pass1 W H t ((ds.take i).foldl (pass1 W H t) ks) (ds.getD i (0, 0)) := by
        rw [List.take_succ_eq_append_getElem (by omega), List.foldl_append]
        simp only [List.foldl_cons, List.foldl_nil, List.getD, List.getElem?_eq_getElem (show i < ds.length by omega), Option.getD_some]
      rw [hP.out] at htk
      obtain ⟨⟨dx0, dx1⟩, dy0, dy1⟩ := hd (ds.getD i (0, 0)) (by simp only [List.getD, List.getElem?_eq_getElem (show i < ds.length by omega), Option.getD_some]; exact List.getElem_mem _)
      obtain ⟨k0, k1⟩ := hw i hi4
      have HW := Lib.hid hw
      generalize hdd : ds.getD i (0, 0) = dd at *
      obtain ⟨dx, dy⟩ := dd
      simp only at dx0 dx1 dy0 dy1 k0 k1 htk
      replace htk := Lib.hid htk
      replace hdd := Lib.hid hdd
      generalize (ds.take i).foldl (pass1 W H t) ks = l at *
      clear hw
      have hwr := hb.size
      have hDb := Blk.new wr #[.int .i64 dx, .int .i64 dy] 80
      have hbD : Below wr.heap.size wr (wr.alloc (.cells #[.int .i64 dx, .int .i64 dy] 80)) := (Below.refl _ _).alloc (Nat.le_refl _) _
      replace hO := own_below hO hbD
      replace hG := hG.below hbD hG.lt
      replace hb := hb.trans (hbD.mono (Nat.le_trans hbase hwr))
      have hwb3 : wb < wr.heap.size := by omega
      replace HW := Lib.hid (fun i hi => And.intro ((hbD.cell (p := ⟨wb, i * 2, none⟩) hwb3).trans (HW.out i hi).1) ((hbD.cell (p := ⟨wb, i * 2 + 1, none⟩) hwb3).trans (HW.out i hi).2))
      have C := Lib.hid (fun W' => ground_on W H (X + dx) (Y + dy) A n c W')
      have u0 := hDb.cell (i := 0) rfl
      have u1 := hDb.cell (i := 1) rfl
      have z0 := hG.cell (i := 0) rfl
      have z1 := hG.cell (i := 1) rfl
      have z2 := hG.cell (i := 2) rfl
      clear hbD
      go_wp2_with fail
      generalize wr.alloc (.cells #[.int .i64 dx, .int .i64 dy] 80) = w4 at *
      generalize wr.heap.size = D at *
      refine Calls.mono (C.out _) ?_
      rintro e w5 ⟨rfl, hb5⟩
      clear C u0 u1 z0 z1 z2
      have hw4 := hb.size
      replace hO := own_below hO hb5
      replace hG := hG.below hb5 hG.lt
      replace hDb := hDb.below hb5 hDb.lt
      replace hb := hb.trans (hb5.mono (Nat.le_trans hbase hw4))
      have hwb4 : wb < w4.heap.size := by omega
      replace HW := Lib.hid (fun i hi => And.intro ((hb5.cell (p := ⟨wb, i * 2, none⟩) hwb4).trans (HW.out i hi).1) ((hb5.cell (p := ⟨wb, i * 2 + 1, none⟩) hwb4).trans (HW.out i hi).2))
      clear hb5
      obtain ⟨gt, hgt, _, hgl5, hct, hft⟩ := own_at hO ht
      cases hgt
      have hv0 := okK_at hlk t
      have fin : Hid (∀ (u : Int), u = min (l.getD t 0) (atK W H l (X + dx) (Y + dy) + 1) → (w5.setCell ⟨g, t, none⟩ (.int .i64 u)).ownsRow base 3 1 (.slice (some ⟨g, 0, none⟩) n c2) n (nums .i64 ((ds.take (i + 1)).foldl (pass1 W H t) ks))) := fun u hu => by
        rw [htk.out, ← hu]
        exact own_store hO _
      have finG : Hid (∀ u, Blk (w5.setCell ⟨g, t, none⟩ u) w.heap.size #[.int .i64 W, .int .i64 H, .slice A n c] 24) := fun u => hG.other (a := ⟨g, t, none⟩) (by show w.heap.size ≠ g; omega) u
      have hbg : base ≤ g := by
        obtain ⟨g', cap, hv, hlt, _⟩ := hO.form (show 0 < n by omega)
        cases hv
        exact hlt
      have finB : Hid (∀ u, Below base w (w5.setCell ⟨g, t, none⟩ u)) := fun u => hb.setCell (p := ⟨g, t, none⟩) (by show base ≤ g; omega) u
      have finW : Hid (∀ u, ∀ i, i < 4 → (w5.setCell ⟨g, t, none⟩ u).cell? ⟨wb, i * 2, none⟩ = some (.int .i64 (ds.getD i (0, 0)).1) ∧ (w5.setCell ⟨g, t, none⟩ u).cell? ⟨wb, i * 2 + 1, none⟩ = some (.int .i64 (ds.getD i (0, 0)).2)) := fun u i hi =>
        ⟨(World.cell?_of_block (Below.heap_setCell _ _ _ _ (fun e => hgb e.symm))).trans (HW.out i hi).1, (World.cell?_of_block (Below.heap_setCell _ _ _ _ (fun e => hgb e.symm))).trans (HW.out i hi).2⟩
      have u0 := hDb.cell (i := 0) rfl
      have u1 := hDb.cell (i := 1) rfl
      have z0 := hG.cell (i := 0) rfl
      generalize hlt : l.getD t 0 = vt at *
      by_cases hon : 0 ≤ X + dx ∧ X + dx < W ∧ 0 ≤ Y + dy ∧ Y + dy < H
      · have hat : atK W H l (X + dx) (Y + dy) = l.getD (X + dx + W * (Y + dy)).toNat 0 := if_pos hon
        have m0 : 0 ≤ W * (Y + dy) := Int.mul_nonneg (by omega) (by omega)
        have m1 : W * (Y + dy + 1) ≤ W * H := Int.mul_le_mul_of_nonneg_left (by omega) (by omega)
        rw [Int.mul_add, Int.mul_one] at m1
        have hzn : X + dx + W * (Y + dy) < n := by have := hn.out; omega
        obtain ⟨z, hz⟩ := Int.eq_ofNat_of_zero_le (show 0 ≤ X + dx + W * (Y + dy) by omega)
        rw [hz, Int.toNat_natCast] at hat
        obtain ⟨gz, hgz, _, _, hcz, _⟩ := own_at hO (k := z) (by omega)
        cases hgz
        have hvz := okK_at hlk z
        have hZ := Lib.hid hz
        generalize hlz : l.getD z 0 = vz at *
        have FO := Lib.hid (fun u h => fin.out u (by rw [hat]; exact h))
        have hzb : (z : Int) < (n : Int) := by omega
        rw [show onB W H (X + dx) (Y + dy) = true from decide_eq_true hon]
        have w1 : wrap64 (X + dx + wrap64 (W * (Y + dy))) = (z : Int) := by
          clear hlk htk hP FO fin
          generalize W * (Y + dy) = m at *
          unfold wrap64
          omega
        clear hO hG hb hDb HW hat fin hlk htk hP
        clear hz hZ hzn m0 m1
        go_wp2_with fail
        go_roundw
        case rel => exact ⟨i + 1, by omega, by go_num, FO.out _ (by omega), finG.out _, finB.out _, finW.out _⟩
        case measure => simp [intOf]; omega
      · have hat : atK W H l (X + dx) (Y + dy) = 0 := if_neg hon
        have FO := Lib.hid (fun u h => fin.out u (by rw [hat]; exact h))
        rw [show onB W H (X + dx) (Y + dy) = false from decide_eq_false hon]
        clear hO hG hb hDb HW hat fin hlk htk hP hon
        go_wp2_with fail
        go_roundw
        case rel => exact ⟨i + 1, by omega, by go_num, FO.out _ (by omega), finG.out _, finB.out _, finW.out _⟩
        case measure => simp [intOf]; omega
end Go.Proofs.Ytfgjiaakoacomaa
