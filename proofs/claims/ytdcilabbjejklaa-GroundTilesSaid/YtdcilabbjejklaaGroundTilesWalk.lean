/- The walk of the law GroundTiles. -/
import Derived.Test.YtdcilabbjejklaaGroundTile
namespace Go.Proofs.Ytdcilabbjejklaa
open Go.RowKit Go.WideShapes Go.ChangeShapes

theorem keep8 {w wa wb : World} {W H : Int} {A A1 : Option Addr} {n c n1 c1 : Nat} (h : wa.cell? ⟨w.heap.size, 0, none⟩ = some (.int .i64 W) ∧ wa.cell? ⟨w.heap.size, 1, none⟩ = some (.int .i64 H) ∧ wa.cell? ⟨w.heap.size, 2, none⟩ = some (.slice A n c) ∧ wa.cell? ⟨w.heap.size, 3, none⟩ = some (.slice A1 n1 c1) ∧ w.heap.size < wa.heap.size ∧ Below w.heap.size w wa) (hb : Below wa.heap.size wa wb) : wb.cell? ⟨w.heap.size, 0, none⟩ = some (.int .i64 W) ∧ wb.cell? ⟨w.heap.size, 1, none⟩ = some (.int .i64 H) ∧ wb.cell? ⟨w.heap.size, 2, none⟩ = some (.slice A n c) ∧ wb.cell? ⟨w.heap.size, 3, none⟩ = some (.slice A1 n1 c1) ∧ w.heap.size < wb.heap.size ∧ Below w.heap.size w wb := by
  obtain ⟨h0, h1, h2, h3, hg, hw⟩ := h
  exact ⟨(hb.cell (p := ⟨w.heap.size, 0, none⟩) hg).trans h0, (hb.cell (p := ⟨w.heap.size, 1, none⟩) hg).trans h1, (hb.cell (p := ⟨w.heap.size, 2, none⟩) hg).trans h2, (hb.cell (p := ⟨w.heap.size, 3, none⟩) hg).trans h3, Nat.lt_of_lt_of_le hg hb.size, hw.trans (hb.mono hw.size)⟩
theorem keep8s {w wa : World} {W H : Int} {A A1 : Option Addr} {n c n1 c1 g : Nat} (h : wa.cell? ⟨w.heap.size, 0, none⟩ = some (.int .i64 W) ∧ wa.cell? ⟨w.heap.size, 1, none⟩ = some (.int .i64 H) ∧ wa.cell? ⟨w.heap.size, 2, none⟩ = some (.slice A n c) ∧ wa.cell? ⟨w.heap.size, 3, none⟩ = some (.slice A1 n1 c1) ∧ w.heap.size < wa.heap.size ∧ Below w.heap.size w wa) (hq : w.heap.size < g) (a b : Value) : ((wa.setCell ⟨g, 0, none⟩ a).setCell ⟨g, 1, none⟩ b).cell? ⟨w.heap.size, 0, none⟩ = some (.int .i64 W) ∧ ((wa.setCell ⟨g, 0, none⟩ a).setCell ⟨g, 1, none⟩ b).cell? ⟨w.heap.size, 1, none⟩ = some (.int .i64 H) ∧ ((wa.setCell ⟨g, 0, none⟩ a).setCell ⟨g, 1, none⟩ b).cell? ⟨w.heap.size, 2, none⟩ = some (.slice A n c) ∧ ((wa.setCell ⟨g, 0, none⟩ a).setCell ⟨g, 1, none⟩ b).cell? ⟨w.heap.size, 3, none⟩ = some (.slice A1 n1 c1) ∧ w.heap.size < ((wa.setCell ⟨g, 0, none⟩ a).setCell ⟨g, 1, none⟩ b).heap.size ∧ Below w.heap.size w ((wa.setCell ⟨g, 0, none⟩ a).setCell ⟨g, 1, none⟩ b) := by
  obtain ⟨h0, h1, h2, h3, hg, hw⟩ := h
  have e : ∀ i, ((wa.setCell ⟨g, 0, none⟩ a).setCell ⟨g, 1, none⟩ b).cell? ⟨w.heap.size, i, none⟩ = wa.cell? ⟨w.heap.size, i, none⟩ := fun i => by
    rw [World.cell?_setCell_other _ _ _ _ (by simp <;> omega), World.cell?_setCell_other _ _ _ _ (by simp <;> omega)]
  exact ⟨(e 0).trans h0, (e 1).trans h1, (e 2).trans h2, (e 3).trans h3, by simpa using hg, (hw.setCell (by simp; omega) _).setCell (by simp; omega) _⟩
theorem storeq {wa : World} {g : Nat} {x y a b : Int} (h : wa.cell? ⟨g, 0, none⟩ = some (.int .i64 x) ∧ wa.cell? ⟨g, 1, none⟩ = some (.int .i64 y) ∧ (∀ j, wa.frozen? ⟨g, j, none⟩ = false) ∧ g < wa.heap.size) : ((wa.setCell ⟨g, 0, none⟩ (.int .i64 a)).setCell ⟨g, 1, none⟩ (.int .i64 b)).cell? ⟨g, 0, none⟩ = some (.int .i64 a) ∧ ((wa.setCell ⟨g, 0, none⟩ (.int .i64 a)).setCell ⟨g, 1, none⟩ (.int .i64 b)).cell? ⟨g, 1, none⟩ = some (.int .i64 b) ∧ (∀ j, ((wa.setCell ⟨g, 0, none⟩ (.int .i64 a)).setCell ⟨g, 1, none⟩ (.int .i64 b)).frozen? ⟨g, j, none⟩ = false) ∧ g < ((wa.setCell ⟨g, 0, none⟩ (.int .i64 a)).setCell ⟨g, 1, none⟩ (.int .i64 b)).heap.size := by
  obtain ⟨h0, h1, h2, h3⟩ := h
  refine ⟨?_, ?_, fun j => ?_, by simpa using h3⟩
  · rw [World.cell?_setCell_other _ _ _ _ (by simp)]; exact World.cell?_setCell_same _ _ _ h0
  · exact World.cell?_setCell_same _ _ _ (by rw [World.cell?_setCell_other _ _ _ _ (by simp)]; exact h1)
  · rw [World.frozen?_setCell, World.frozen?_setCell]; exact h2 j
theorem num6 (x : Int) (w : World) : Calls Try.prog 27 #[.int .i64 x] w fun e w' => e = .returned (.int .i64 x) ∧ w = w' := by
  go_enter Try.func27, Try.ntmps27
  go_wp2
  go_ret
  exact ⟨rfl, rfl⟩

namespace lawGroundTiles
set_option maxHeartbeats 3200000 in
set_option maxRecDepth 100000 in
theorem walk {H : Type} {enc : TypeId × Value → H} (w : World) {base : Nat} (v : Value) (d : DataW H) (p : List MemPlace) (hv : Value.okWide Try.prog w .any base 42 v)
    (ht : DataW.Trod enc Try.prog w 0 (fun _ => true) true 42 v d p) : Calls Try.prog 9 #[v] w fun e w' => e = .returned (.bool true) ∧ Below w.heap.size w w' := by
  obtain ⟨W, H, A, n, c, l, A1, n1, c1, l1, A2, n2, c2, rfl, hW, hH, hr, hl, ⟨hnc, hcm⟩, hr1, hl1, ⟨hnc1, hcm1⟩, hv2, hnc2⟩ := open_ask6 hv ht
  clear hv ht hv2 hnc2
  unfold maxLen at hcm hcm1
  by_cases hh : n ≤ 20000 ∧ n1 ≤ 60 ∧ n2 ≤ 60
  · obtain ⟨hn, hn1, hn2⟩ := hh
    have HV := Lib.hid (fun W' => heavy6_no W H A A1 A2 n c n1 c1 n2 c2 W' hn hn1 hn2)
    have hrw := fun (W' : World) (h : Below w.heap.size w W') => (hr.below h).more h.size
    have RG := fun (W' : World) (h : Below w.heap.size w W') => ref_ground W H A n c W'.heap.size l W' (hrw W' h) (Nat.le_refl _) hl (by omega)
    have GC := fun (W' : World) (h : Below w.heap.size w W') => ground_check W H A n c W'.heap.size l W' (hrw W' h) (Nat.le_refl _) hl
    have XY := fun (t : Int) (W' : World) (h : Below w.heap.size w W') => ground_xy W H t A n c W'.heap.size l W' (hrw W' h) (Nat.le_refl _) hl
    have CE := fun (t : Int) (W' : World) (h : Below w.heap.size w W') => ground_center W H t A n c W'.heap.size l W' (hrw W' h) (Nat.le_refl _) hl
    have TI := fun (x y : Int) (W' : World) (h : Below w.heap.size w W') => ground_tile W H x y A n c W'.heap.size l W' (hrw W' h) (Nat.le_refl _) hl
    unfold xyR at XY
    unfold cenR at CE
    unfold numR at TI
    clear hr hrw
    by_cases hG : isG W H l = true
    · obtain ⟨g1, g2, g3, g4, _⟩ := isG_bounds hG
      rw [hG] at RG GC
      simp only [if_pos hG] at XY CE TI
      rw [if_pos rfl] at GC
      have RG := Lib.hid RG
      have GC := Lib.hid GC
      clear hl
      go_enter Try.func9, Try.ntmps9
      go_wp2_with fail
      refine Calls.mono (HV.out _) ?_
      rintro e w1 ⟨rfl, hb1⟩
      have q0 : w1.cell? ⟨w.heap.size, 0, none⟩ = some (.int .i64 W) := by rw [hb1.cell (p := ⟨w.heap.size, 0, none⟩) (by simp), World.cell?_alloc_at _ _ _ _ rfl]; rfl
      have q1 : w1.cell? ⟨w.heap.size, 1, none⟩ = some (.int .i64 H) := by rw [hb1.cell (p := ⟨w.heap.size, 1, none⟩) (by simp), World.cell?_alloc_at _ _ _ _ rfl]; rfl
      have q2 : w1.cell? ⟨w.heap.size, 2, none⟩ = some (.slice A n c) := by rw [hb1.cell (p := ⟨w.heap.size, 2, none⟩) (by simp), World.cell?_alloc_at _ _ _ _ rfl]; rfl
      have q3 : w1.cell? ⟨w.heap.size, 3, none⟩ = some (.slice A1 n1 c1) := by rw [hb1.cell (p := ⟨w.heap.size, 3, none⟩) (by simp), World.cell?_alloc_at _ _ _ _ rfl]; rfl
      have hbw1 : Below w.heap.size w w1 := ((Below.refl _ _).alloc (Nat.le_refl _) _).trans (hb1.mono (by simp))
      have hgs : w.heap.size < w1.heap.size := by have := hb1.size; simp at this; omega
      have S1 : w1.cell? ⟨w.heap.size, 0, none⟩ = some (.int .i64 W) ∧ w1.cell? ⟨w.heap.size, 1, none⟩ = some (.int .i64 H) ∧ w1.cell? ⟨w.heap.size, 2, none⟩ = some (.slice A n c) ∧ w1.cell? ⟨w.heap.size, 3, none⟩ = some (.slice A1 n1 c1) ∧ w.heap.size < w1.heap.size ∧ Below w.heap.size w w1 := ⟨q0, q1, q2, q3, hgs, hbw1⟩
      clear hb1 HV
      go_wp2_with fail
      refine Calls.mono (RG.out _ hbw1) ?_
      rintro e w2 ⟨rfl, hb2⟩
      have S2 := keep8 S1 hb2
      obtain ⟨z0, z1, z2, z3, z4, z5⟩ := id S2
      clear q0 q1 q2 q3 hbw1 hgs S1 hb2
      go_wp2_with fail
      refine Calls.mono (GC.out _ z5) ?_
      rintro e w3 ⟨rfl, hb3⟩
      have S3 := keep8 S2 hb3
      clear z0 z1 z2 z3 z4 z5 S2 hb3
      obtain ⟨z0, z1, z2, z3, z4, z5⟩ := id S3
      go_wp2_with (go_at_call 27; refine Calls.mono (num6 _ _) ?_; rintro e w9 ⟨rfl, rfl⟩)
      go_loopw [4] (fun i wr => ∃ (k : Nat), k ≤ n1 ∧ i = .int .i64 k ∧ wr.cell? ⟨w.heap.size, 0, none⟩ = some (.int .i64 W) ∧ wr.cell? ⟨w.heap.size, 1, none⟩ = some (.int .i64 H) ∧ wr.cell? ⟨w.heap.size, 2, none⟩ = some (.slice A n c) ∧ wr.cell? ⟨w.heap.size, 3, none⟩ = some (.slice A1 n1 c1) ∧ w.heap.size < wr.heap.size ∧ Below w.heap.size w wr) (fun i _ => n1 - (intOf i).toNat)
      case atStart => exact ⟨0, Nat.zero_le _, rfl, S3⟩
      case round =>
        obtain ⟨k, hk, rfl, SR⟩ := hrel
        clear z0 z1 z2 z3 z4 z5 S3
        obtain ⟨r0, r1, r2, r3, hgr, hbw⟩ := id SR
        by_cases hlt : k < n1
        · obtain ⟨hll, b, o, rfl, hb, hc⟩ := (hr1.below hbw).num hlt
          generalize l1.getD k 0 = t at *
          have XY := XY t
          have CE := CE t
          have ki : (k : Int) < (n1 : Int) := by omega
          have ki0 : (0 : Int) ≤ (k : Int) := by omega
          have hbr : b < wr.heap.size := Nat.lt_of_lt_of_le hb hbw.size
          by_cases hT : tileB W H t = true
          · have RT := fun (W' : World) => ref_tile W H t A n c W' g1 g2 g3 g4
            have CN := Lib.hid (fun (W' : World) => ref_center W H t A n c W' g1 g2 g3 g4 hT)
            rw [hT] at RT
            obtain ⟨t0, t1, x0', x1', y0', y1'⟩ := tile_parts g1 g2 g3 g4 hT
            simp only [if_pos hT] at XY CE
            have RT := Lib.hid RT
            have XY := Lib.hid XY
            have CE := Lib.hid CE
            have SA0 := keep8 SR ((Below.refl _ _).alloc (Nat.le_refl _) (.cells #[.int .i64 0, .int .i64 0] 53))
            have QA0 := startq wr 53 0 0
            go_wp2_with fail
            refine Calls.mono (RT.out _) ?_
            rintro e w4 ⟨rfl, hb4⟩
            have SA1 := keep8 SA0 hb4
            have QA1 := keepq QA0 hb4
            clear SA0 QA0 hb4
            obtain ⟨z0, z1, z2, z3, z4, z5⟩ := id SA1
            obtain ⟨x0, x1, x2, x3⟩ := id QA1
            have hw0 : ¬ W = 0 := by omega
            have SD := keep8 SA1 (Below.refl _ _).drew
            have QD := keepq QA1 (Below.refl _ _).drew
            go_wp2_with fail
            go_region_held3 (fun w' => w'.cell? ⟨w.heap.size, 0, none⟩ = some (.int .i64 W) ∧ w'.cell? ⟨w.heap.size, 1, none⟩ = some (.int .i64 H) ∧ w'.cell? ⟨w.heap.size, 2, none⟩ = some (.slice A n c) ∧ w'.cell? ⟨w.heap.size, 3, none⟩ = some (.slice (some ⟨b, o, none⟩) n1 c1) ∧ w.heap.size < w'.heap.size ∧ Below w.heap.size w w')
              (first | exact SD | assumption | exact keep8s S3 hgr _ _)
              (first
                | (go_at_call 34; ((with_reducible refine Calls.mono (CN.out _) ?_); rintro e w3 ⟨rfl, hb3⟩; have S3 := keep8 SD hb3; have Q3 := keepq QD hb3; obtain ⟨v0, v1, v2, v3⟩ := id Q3)))
            clear SA1 QA1 z0 z1 z2 z3 z4 z5 x0 x1 x2 x3 v0 v1 v2 v3 SD QD
            have SA := keep8s S3 hgr (.int .i64 (t % W * 65536 + 32768)) (.int .i64 (t / W * 65536 + 32768))
            have QA := storeq (a := t % W * 65536 + 32768) (b := t / W * 65536 + 32768) Q3
            clear S3 Q3
            have e1 : t.tmod W = t % W := Int.tmod_eq_emod_of_nonneg t0
            have e2 : IntKind.i64.wrap (t.tdiv W) = t / W := by rw [Int.tdiv_eq_ediv_of_nonneg t0]; exact IntWalk.i64_in _ (by omega)
            simp only [e1, e2]
            clear e1 e2
            obtain ⟨z0, z1, z2, z3, z4, z5⟩ := id SA
            go_wp2_with fail
            refine Calls.mono (XY.out _ SA.2.2.2.2.2) ?_
            rintro e w5 ⟨rfl, hb5⟩
            clear z0 z1 z2 z3 z4 z5
            have SC := keep8 SA hb5
            have QC := keepq QA hb5
            obtain ⟨z0, z1, z2, z3, z4, z5⟩ := id SC
            go_wp2_with fail
            refine Calls.mono (CE.out _ SC.2.2.2.2.2) ?_
            rintro e w6 ⟨rfl, hb6⟩
            have SE := keep8 SC hb6
            have QE := keepq QC hb6
            clear SA QA SC QC z0 z1 z2 z3 z4 z5 hb5 hb6
            obtain ⟨z0, z1, z2, z3, z4, z5⟩ := id SE
            obtain ⟨x0, x1, x2, x3⟩ := id QE
            go_wp2_with (go_at_call 27; refine Calls.mono (num6 _ _) ?_; rintro e w9 ⟨rfl, rfl⟩)
            have SF := keep8 SE ((Below.refl _ _).alloc (Nat.le_refl _) (.cells #[.int .i64 (t % W * 65536 + 32768), .int .i64 (t / W * 65536 + 32768)] 53))
            clear z0 z1 z2 z3 z4 z5 x0 x1 x2 x3 r0 r1 r2 r3 hc SE QE
            go_loopw [15] (fun i wr => ∃ (k2 : Nat), k2 ≤ n1 ∧ i = .int .i64 k2 ∧ wr.cell? ⟨w.heap.size, 0, none⟩ = some (.int .i64 W) ∧ wr.cell? ⟨w.heap.size, 1, none⟩ = some (.int .i64 H) ∧ wr.cell? ⟨w.heap.size, 2, none⟩ = some (.slice A n c) ∧ wr.cell? ⟨w.heap.size, 3, none⟩ = some (.slice (some ⟨b, o, none⟩) n1 c1) ∧ w.heap.size < wr.heap.size ∧ Below w.heap.size w wr) (fun i _ => n1 - (intOf i).toNat)
            case atStart => exact ⟨0, Nat.zero_le _, rfl, SF⟩
            case round =>
              obtain ⟨k2, hk2, rfl, SR⟩ := hrel
              obtain ⟨r0, r1, r2, r3, hgr, hbw⟩ := id SR
              by_cases hlt2 : k2 < n1
              · obtain ⟨_, b2, o2, he2, hb2, hc2⟩ := (hr1.below hbw).num hlt2
                injection he2 with he2
                injection he2 with he3 he4
                subst he3; subst he4
                generalize l1.getD k2 0 = u at *
                have ki2 : (k2 : Int) < (n1 : Int) := by omega
                have kj2 : (0 : Int) ≤ (k2 : Int) := by omega
                by_cases hon : onB W H t u = true
                · have HON := of_decide_eq_true hon
                  obtain ⟨on1, on2, on3, on4⟩ := HON
                  have TI := TI t u
                  rw [if_pos hon] at TI
                  have TI := Lib.hid TI
                  have w0 : 0 ≤ W * u := Int.mul_nonneg (by omega) (by omega)
                  have w1 : W * u ≤ 128 * 128 := Int.mul_le_mul g2 (by omega) (by omega) (by omega)
                  clear hon
                  go_wp2_with fail
                  refine Calls.mono (TI.out _ hbw) ?_
                  rintro e w7 ⟨rfl, hb7⟩
                  have S7 := keep8 SR hb7
                  go_wp2_with (go_at_call 27; refine Calls.mono (num6 _ _) ?_; rintro e w9 ⟨rfl, rfl⟩)
                  go_roundw
                  case rel => exact ⟨k2 + 1, by omega, by go_num, S7⟩
                  case measure => simp [intOf]; omega
                · have TI := TI t u
                  rw [if_neg hon] at TI
                  have TI := Lib.hid TI
                  have HC : t < 0 ∨ (0 ≤ t ∧ W ≤ t) ∨ (0 ≤ t ∧ t < W ∧ u < 0) ∨ (0 ≤ t ∧ t < W ∧ 0 ≤ u ∧ H ≤ u) := by
                    have hon' : ¬ (0 ≤ t ∧ t < W ∧ 0 ≤ u ∧ u < H) := fun h => hon (decide_eq_true h)
                    omega
                  clear hon
                  rcases HC with f1 | ⟨f1, f2⟩ | ⟨f1, f2, f3⟩ | ⟨f1, f2, f3, f4⟩
                  all_goals try (exfalso; omega)
                  all_goals
                    go_wp2_with fail
                    refine Calls.mono (TI.out _ hbw) ?_
                    rintro e w7 ⟨rfl, hb7⟩
                    have S7 := keep8 SR hb7
                    go_wp2_with (go_at_call 27; refine Calls.mono (num6 _ _) ?_; rintro e w9 ⟨rfl, rfl⟩)
                    go_roundw
                    case rel => exact ⟨k2 + 1, by omega, by go_num, S7⟩
                    case measure => simp [intOf]; omega
              · go_wp2
                go_roundw
                case rel => exact ⟨k + 1, by omega, by go_num, SR⟩
                case measure => simp [intOf]; omega
          · have RT := fun (W' : World) => ref_tile W H t A n c W' g1 g2 g3 g4
            rw [show tileB W H t = false by simpa using hT] at RT
            simp only [if_neg hT] at XY CE
            have RT := Lib.hid RT
            have XY := Lib.hid XY
            have CE := Lib.hid CE
            clear hT
            have SA0 := keep8 SR ((Below.refl _ _).alloc (Nat.le_refl _) (.cells #[.int .i64 0, .int .i64 0] 53))
            have QA0 := startq wr 53 0 0
            go_wp2_with fail
            refine Calls.mono (RT.out _) ?_
            rintro e w4 ⟨rfl, hb4⟩
            have SA := keep8 SA0 hb4
            have QA := keepq QA0 hb4
            clear SA0 QA0 hb4
            obtain ⟨z0, z1, z2, z3, z4, z5⟩ := id SA
            go_wp2_with fail
            refine Calls.mono (XY.out _ SA.2.2.2.2.2) ?_
            rintro e w5 ⟨rfl, hb5⟩
            clear z0 z1 z2 z3 z4 z5
            have SC := keep8 SA hb5
            have QC := keepq QA hb5
            obtain ⟨z0, z1, z2, z3, z4, z5⟩ := id SC
            go_wp2_with fail
            refine Calls.mono (CE.out _ SC.2.2.2.2.2) ?_
            rintro e w6 ⟨rfl, hb6⟩
            have SE := keep8 SC hb6
            have QE := keepq QC hb6
            clear SA QA SC QC z0 z1 z2 z3 z4 z5 hb5 hb6
            obtain ⟨z0, z1, z2, z3, z4, z5⟩ := id SE
            obtain ⟨x0, x1, x2, x3⟩ := id QE
            go_wp2_with (go_at_call 27; refine Calls.mono (num6 _ _) ?_; rintro e w9 ⟨rfl, rfl⟩)
            have SF := keep8 SE ((Below.refl _ _).alloc (Nat.le_refl _) (.cells #[.int .i64 0, .int .i64 0] 53))
            clear z0 z1 z2 z3 z4 z5 x0 x1 x2 x3 r0 r1 r2 r3 hc SE QE
            go_loopw [15] (fun i wr => ∃ (k2 : Nat), k2 ≤ n1 ∧ i = .int .i64 k2 ∧ wr.cell? ⟨w.heap.size, 0, none⟩ = some (.int .i64 W) ∧ wr.cell? ⟨w.heap.size, 1, none⟩ = some (.int .i64 H) ∧ wr.cell? ⟨w.heap.size, 2, none⟩ = some (.slice A n c) ∧ wr.cell? ⟨w.heap.size, 3, none⟩ = some (.slice (some ⟨b, o, none⟩) n1 c1) ∧ w.heap.size < wr.heap.size ∧ Below w.heap.size w wr) (fun i _ => n1 - (intOf i).toNat)
            case atStart => exact ⟨0, Nat.zero_le _, rfl, SF⟩
            case round =>
              obtain ⟨k2, hk2, rfl, SR⟩ := hrel
              obtain ⟨r0, r1, r2, r3, hgr, hbw⟩ := id SR
              by_cases hlt2 : k2 < n1
              · obtain ⟨_, b2, o2, he2, hb2, hc2⟩ := (hr1.below hbw).num hlt2
                injection he2 with he2
                injection he2 with he3 he4
                subst he3; subst he4
                generalize l1.getD k2 0 = u at *
                have ki2 : (k2 : Int) < (n1 : Int) := by omega
                have kj2 : (0 : Int) ≤ (k2 : Int) := by omega
                by_cases hon : onB W H t u = true
                · have HON := of_decide_eq_true hon
                  obtain ⟨on1, on2, on3, on4⟩ := HON
                  have TI := TI t u
                  rw [if_pos hon] at TI
                  have TI := Lib.hid TI
                  have w0 : 0 ≤ W * u := Int.mul_nonneg (by omega) (by omega)
                  have w1 : W * u ≤ 128 * 128 := Int.mul_le_mul g2 (by omega) (by omega) (by omega)
                  clear hon
                  go_wp2_with fail
                  refine Calls.mono (TI.out _ hbw) ?_
                  rintro e w7 ⟨rfl, hb7⟩
                  have S7 := keep8 SR hb7
                  go_wp2_with (go_at_call 27; refine Calls.mono (num6 _ _) ?_; rintro e w9 ⟨rfl, rfl⟩)
                  go_roundw
                  case rel => exact ⟨k2 + 1, by omega, by go_num, S7⟩
                  case measure => simp [intOf]; omega
                · have TI := TI t u
                  rw [if_neg hon] at TI
                  have TI := Lib.hid TI
                  have HC : t < 0 ∨ (0 ≤ t ∧ W ≤ t) ∨ (0 ≤ t ∧ t < W ∧ u < 0) ∨ (0 ≤ t ∧ t < W ∧ 0 ≤ u ∧ H ≤ u) := by
                    have hon' : ¬ (0 ≤ t ∧ t < W ∧ 0 ≤ u ∧ u < H) := fun h => hon (decide_eq_true h)
                    omega
                  clear hon
                  rcases HC with f1 | ⟨f1, f2⟩ | ⟨f1, f2, f3⟩ | ⟨f1, f2, f3, f4⟩
                  all_goals try (exfalso; omega)
                  all_goals
                    go_wp2_with fail
                    refine Calls.mono (TI.out _ hbw) ?_
                    rintro e w7 ⟨rfl, hb7⟩
                    have S7 := keep8 SR hb7
                    go_wp2_with (go_at_call 27; refine Calls.mono (num6 _ _) ?_; rintro e w9 ⟨rfl, rfl⟩)
                    go_roundw
                    case rel => exact ⟨k2 + 1, by omega, by go_num, S7⟩
                    case measure => simp [intOf]; omega
              · go_wp2
                go_roundw
                case rel => exact ⟨k + 1, by omega, by go_num, SR⟩
                case measure => simp [intOf]; omega
        · have HK := Lib.hid (fun W' => wakes6 W')
          go_wp2_with fail
          refine Calls.mono (HK.out _) ?_
          rintro e w2 ⟨rfl, hb2⟩
          go_wp2
          go_ret
          exact ⟨rfl, hbw.trans (hb2.mono hbw.size)⟩
    · have hG' : isG W H l = false := by simpa using hG
      rw [hG'] at RG GC
      simp only [if_neg hG] at XY CE TI
      rw [if_neg (by simp)] at GC
      clear hG hG'
      have RG := Lib.hid RG
      have GC := Lib.hid GC
      clear hl
      go_enter Try.func9, Try.ntmps9
      go_wp2_with fail
      refine Calls.mono (HV.out _) ?_
      rintro e w1 ⟨rfl, hb1⟩
      have q0 : w1.cell? ⟨w.heap.size, 0, none⟩ = some (.int .i64 W) := by rw [hb1.cell (p := ⟨w.heap.size, 0, none⟩) (by simp), World.cell?_alloc_at _ _ _ _ rfl]; rfl
      have q1 : w1.cell? ⟨w.heap.size, 1, none⟩ = some (.int .i64 H) := by rw [hb1.cell (p := ⟨w.heap.size, 1, none⟩) (by simp), World.cell?_alloc_at _ _ _ _ rfl]; rfl
      have q2 : w1.cell? ⟨w.heap.size, 2, none⟩ = some (.slice A n c) := by rw [hb1.cell (p := ⟨w.heap.size, 2, none⟩) (by simp), World.cell?_alloc_at _ _ _ _ rfl]; rfl
      have q3 : w1.cell? ⟨w.heap.size, 3, none⟩ = some (.slice A1 n1 c1) := by rw [hb1.cell (p := ⟨w.heap.size, 3, none⟩) (by simp), World.cell?_alloc_at _ _ _ _ rfl]; rfl
      have hbw1 : Below w.heap.size w w1 := ((Below.refl _ _).alloc (Nat.le_refl _) _).trans (hb1.mono (by simp))
      have hgs : w.heap.size < w1.heap.size := by have := hb1.size; simp at this; omega
      have S1 : w1.cell? ⟨w.heap.size, 0, none⟩ = some (.int .i64 W) ∧ w1.cell? ⟨w.heap.size, 1, none⟩ = some (.int .i64 H) ∧ w1.cell? ⟨w.heap.size, 2, none⟩ = some (.slice A n c) ∧ w1.cell? ⟨w.heap.size, 3, none⟩ = some (.slice A1 n1 c1) ∧ w.heap.size < w1.heap.size ∧ Below w.heap.size w w1 := ⟨q0, q1, q2, q3, hgs, hbw1⟩
      clear hb1 HV
      go_wp2_with fail
      refine Calls.mono (RG.out _ hbw1) ?_
      rintro e w2 ⟨rfl, hb2⟩
      have S2 := keep8 S1 hb2
      obtain ⟨z0, z1, z2, z3, z4, z5⟩ := id S2
      clear q0 q1 q2 q3 hbw1 hgs S1 hb2
      go_wp2_with fail
      refine Calls.mono (GC.out _ z5) ?_
      rintro e w3 ⟨rfl, hb3⟩
      have S3 := keep8 S2 hb3
      clear z0 z1 z2 z3 z4 z5 S2 hb3
      obtain ⟨z0, z1, z2, z3, z4, z5⟩ := id S3
      go_wp2_with (go_at_call 27; refine Calls.mono (num6 _ _) ?_; rintro e w9 ⟨rfl, rfl⟩)
      go_loopw [4] (fun i wr => ∃ (k : Nat), k ≤ n1 ∧ i = .int .i64 k ∧ wr.cell? ⟨w.heap.size, 0, none⟩ = some (.int .i64 W) ∧ wr.cell? ⟨w.heap.size, 1, none⟩ = some (.int .i64 H) ∧ wr.cell? ⟨w.heap.size, 2, none⟩ = some (.slice A n c) ∧ wr.cell? ⟨w.heap.size, 3, none⟩ = some (.slice A1 n1 c1) ∧ w.heap.size < wr.heap.size ∧ Below w.heap.size w wr) (fun i _ => n1 - (intOf i).toNat)
      case atStart => exact ⟨0, Nat.zero_le _, rfl, S3⟩
      case round =>
        obtain ⟨k, hk, rfl, SR⟩ := hrel
        clear z0 z1 z2 z3 z4 z5 S3
        obtain ⟨r0, r1, r2, r3, hgr, hbw⟩ := id SR
        by_cases hlt : k < n1
        · obtain ⟨hll, b, o, rfl, hb, hc⟩ := (hr1.below hbw).num hlt
          generalize l1.getD k 0 = t at *
          have XY := XY t
          have CE := CE t
          have ki : (k : Int) < (n1 : Int) := by omega
          have ki0 : (0 : Int) ≤ (k : Int) := by omega
          have hbr : b < wr.heap.size := Nat.lt_of_lt_of_le hb hbw.size
          have XY := Lib.hid XY
          have CE := Lib.hid CE
          have SA := keep8 SR ((Below.refl _ _).alloc (Nat.le_refl _) (.cells #[.int .i64 0, .int .i64 0] 53))
          have QA := startq wr 53 0 0
          go_wp2_with fail
          refine Calls.mono (XY.out _ SA.2.2.2.2.2) ?_
          rintro e w5 ⟨rfl, hb5⟩
          have SC := keep8 SA hb5
          have QC := keepq QA hb5
          obtain ⟨z0, z1, z2, z3, z4, z5⟩ := id SC
          go_wp2_with fail
          refine Calls.mono (CE.out _ SC.2.2.2.2.2) ?_
          rintro e w6 ⟨rfl, hb6⟩
          have SE := keep8 SC hb6
          have QE := keepq QC hb6
          clear SA QA SC QC z0 z1 z2 z3 z4 z5 hb5 hb6
          obtain ⟨z0, z1, z2, z3, z4, z5⟩ := id SE
          obtain ⟨x0, x1, x2, x3⟩ := id QE
          go_wp2_with (go_at_call 27; refine Calls.mono (num6 _ _) ?_; rintro e w9 ⟨rfl, rfl⟩)
          have SF := keep8 SE ((Below.refl _ _).alloc (Nat.le_refl _) (.cells #[.int .i64 0, .int .i64 0] 53))
          clear z0 z1 z2 z3 z4 z5 x0 x1 x2 x3 r0 r1 r2 r3 hc SE QE
          go_loopw [15] (fun i wr => ∃ (k2 : Nat), k2 ≤ n1 ∧ i = .int .i64 k2 ∧ wr.cell? ⟨w.heap.size, 0, none⟩ = some (.int .i64 W) ∧ wr.cell? ⟨w.heap.size, 1, none⟩ = some (.int .i64 H) ∧ wr.cell? ⟨w.heap.size, 2, none⟩ = some (.slice A n c) ∧ wr.cell? ⟨w.heap.size, 3, none⟩ = some (.slice (some ⟨b, o, none⟩) n1 c1) ∧ w.heap.size < wr.heap.size ∧ Below w.heap.size w wr) (fun i _ => n1 - (intOf i).toNat)
          case atStart => exact ⟨0, Nat.zero_le _, rfl, SF⟩
          case round =>
            obtain ⟨k2, hk2, rfl, SR⟩ := hrel
            obtain ⟨r0, r1, r2, r3, hgr, hbw⟩ := id SR
            by_cases hlt2 : k2 < n1
            · obtain ⟨_, b2, o2, he2, hb2, hc2⟩ := (hr1.below hbw).num hlt2
              injection he2 with he2
              injection he2 with he3 he4
              subst he3; subst he4
              generalize l1.getD k2 0 = u at *
              have ki2 : (k2 : Int) < (n1 : Int) := by omega
              have kj2 : (0 : Int) ≤ (k2 : Int) := by omega
              have TI := Lib.hid (TI t u)
              go_wp2_with fail
              refine Calls.mono (TI.out _ hbw) ?_
              rintro e w7 ⟨rfl, hb7⟩
              have S7 := keep8 SR hb7
              go_wp2_with (go_at_call 27; refine Calls.mono (num6 _ _) ?_; rintro e w9 ⟨rfl, rfl⟩)
              go_roundw
              case rel => exact ⟨k2 + 1, by omega, by go_num, S7⟩
              case measure => simp [intOf]; omega
            · go_wp2
              go_roundw
              case rel => exact ⟨k + 1, by omega, by go_num, SR⟩
              case measure => simp [intOf]; omega
        · have HK := Lib.hid (fun W' => wakes6 W')
          go_wp2_with fail
          refine Calls.mono (HK.out _) ?_
          rintro e w2 ⟨rfl, hb2⟩
          go_wp2
          go_ret
          exact ⟨rfl, hbw.trans (hb2.mono hbw.size)⟩
  · have HV := Lib.hid (fun W' => heavy6_yes W H A A1 A2 n c n1 c1 n2 c2 W' hh)
    clear hh
    go_enter Try.func9, Try.ntmps9
    go_wp2_with fail
    refine Calls.mono (HV.out _) ?_
    rintro e w1 ⟨rfl, hb1⟩
    go_wp2
    go_ret
    exact ⟨rfl, ((Below.refl _ _).alloc (Nat.le_refl _) _).trans (hb1.mono (by simp))⟩
end lawGroundTiles
end Go.Proofs.Ytdcilabbjejklaa
