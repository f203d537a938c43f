/- Which tiles have a building? The page's way. -/
import Derived.Test.YtfgjiaakoacomaaBuildCover
import Derived.Test.YtfgjiaakoacomaaBlk
import Derived.Test.YtfgjiaakoacomaaKindRef
namespace Go.Proofs.Ytfgjiaakoacomaa
set_option maxRecDepth 20000
open Go.RowKit

/-- Covered, and in the rows ahead of Y, or in row Y ahead of X. -/
def partP (W : Int) (b : Bd) (X Y t : Int) : Prop := covP W b t ∧ (t / W < Y ∨ (t / W = Y ∧ t % W < X))
instance (W : Int) (b : Bd) (X Y t : Int) : Decidable (partP W b X Y t) := by unfold partP; exact inferInstance
theorem part_step {W X Y : Int} {b : Bd} {t : Int} (h0 : 0 ≤ X) (h1 : X < W) (hc : covP W b (X + W * Y)) : partP W b (X + 1) Y t ↔ (t = X + W * Y ∨ partP W b X Y t) := by
  obtain ⟨e1, e2⟩ := place_div (W := W) (X := X) (Y := Y) h0 h1
  unfold partP
  constructor
  · rintro ⟨hct, h | ⟨h, h'⟩⟩
    · exact .inr ⟨hct, .inl h⟩
    · by_cases e : t % W = X
      · have := Int.emod_add_mul_ediv t W
        rw [e, h] at this
        exact .inl this.symm
      · exact .inr ⟨hct, .inr ⟨h, by omega⟩⟩
  · rintro (rfl | ⟨hct, h | ⟨h, h'⟩⟩)
    · exact ⟨hc, .inr ⟨e2, by omega⟩⟩
    · exact ⟨hct, .inl h⟩
    · exact ⟨hct, .inr ⟨h, by omega⟩⟩
theorem part_row {W Y : Int} {b : Bd} {t : Int} : partP W b (b.x + b.w) Y t ↔ partP W b b.x (Y + 1) t := by
  unfold partP covP
  constructor
  · rintro ⟨hc, h⟩; exact ⟨hc, .inl (by omega)⟩
  · rintro ⟨hc, h⟩; exact ⟨hc, by omega⟩
theorem part_all {W : Int} {b : Bd} {t : Int} : partP W b b.x (b.y + b.h) t ↔ covP W b t := by
  unfold partP
  exact ⟨fun h => h.1, fun h => ⟨h, .inl h.2.2.2⟩⟩
theorem part_none {W : Int} {b : Bd} {t : Int} : ¬ partP W b b.x b.y t := by
  unfold partP covP
  omega

set_option maxHeartbeats 3200000 in
set_option maxRecDepth 20000 in
theorem ref_covered (W H : Int) (A : Option Addr) (n c : Nat) (A1 : Option Addr) (n1 c1 : Nat) (l : List Bd) (w : World) (hW0 : 1 ≤ W) (hW1 : W ≤ 128) (hH0 : 1 ≤ H) (hH1 : H ≤ 128) (hn : (n : Int) = W * H) (hv : BdsL w A1 n1 l) (hn1 : n1 ≤ 1000000)
    (hall : ∀ i, i < n1 → formP (bdAt l i) ∧ onP W H (bdAt l i)) :
    Calls Try.prog 42 #[.agg #[.int .i64 W, .int .i64 H, .slice A n c], .slice A1 n1 c1] w (GivesBools w.heap.size w n (fun t => covK W l n1 (t : Int))) := by
  have hp := prod_range hW0 hW1 hH0 hH1
  have hn4 : n ≤ 16384 := by omega
  have hwh : W * H = (n : Int) := hn.symm
  clear hp
  replace hn := Lib.hid hn
  have hmk : ∀ w, (Instr.makeSlice 39 (.int .i64 (n : Int)) (.int .i64 (n : Int))).run Try.prog w = .ok (.slice (some ⟨w.heap.size, 0, none⟩) n n) (w.alloc (.cells (zrowB n) 4)) := fun w => make_bools n w (by omega)
  have hG := Blk.new w #[.int .i64 W, .int .i64 H, .slice A n c] 24
  have hb := (Below.refl w.heap.size w).alloc (Nat.le_refl _) (.cells #[.int .i64 W, .int .i64 H, .slice A n c] 24)
  have hO := ownb_made (w.alloc (.cells #[.int .i64 W, .int .i64 H, .slice A n c] 24)) n (by omega)
  have hbm := (Below.refl (w.alloc (.cells #[.int .i64 W, .int .i64 H, .slice A n c] 24)).heap.size (w.alloc (.cells #[.int .i64 W, .int .i64 H, .slice A n c] 24))).alloc (Nat.le_refl _) (.cells (zrowB n) 4)
  replace hG := hG.below hbm hG.lt
  replace hb := hb.trans (hbm.mono hb.size)
  rw [show (w.alloc (.cells #[.int .i64 W, .int .i64 H, .slice A n c] 24)).heap.size = w.heap.size + 1 by simp] at hO
  clear hbm
  go_enter Try.func42, Try.ntmps42
  go_wp2_with fail
  generalize (w.alloc (.cells #[.int .i64 W, .int .i64 H, .slice A n c] 24)).alloc (.cells (zrowB n) 4) = w3 at *
  generalize hge : w.heap.size + 1 = g at *
  have hgw : w.heap.size < g := by omega
  clear hge
  rw [bools_congr (g := fun t => covK W l 0 (t : Int)) (fun t _ => by simp [covK])] at hO
  go_loopw [6] (fun i wr => ∃ (k : Nat), k ≤ n1 ∧ i = .int .i64 k ∧ wr.ownsRow g 4 1 (.slice (some ⟨g, 0, none⟩) n n) n (bools n (fun t => covK W l k (t : Int))) ∧ Blk wr w.heap.size #[.int .i64 W, .int .i64 H, .slice A n c] 24 ∧ Below w.heap.size w wr) (fun i _ => n1 - (intOf i).toNat)
  case atStart => exact ⟨0, Nat.zero_le _, rfl, hO, hG, hb⟩
  case round =>
    clear hO hG hb
    obtain ⟨k, hk, rfl, hO, hG, hb⟩ := hrel
    by_cases hlt : k < n1
    case neg =>
      obtain rfl : k = n1 := by omega
      have HB := Lib.hid hb
      have HO := Lib.hid hO
      clear hO hG hall hv hb
      go_wp2_with fail
      go_ret
      exact ⟨_, _, rfl, own_mono HO.out (by omega), HB.out⟩
    obtain ⟨bb, o, rfl, hbb, ⟨_, _, k2, k3, k4, k5⟩, _⟩ := (hv.below hb).2 k hlt
    have hcells := Lib.hid (fun W9 (h : Below w.heap.size w W9) => hv.below h)
    have hcs := Lib.hid (fun t => covK_succ W l k t)
    obtain ⟨hf, ho⟩ := hall k hlt
    have HALL := Lib.hid hall
    have hbk := Lib.hid (show bdAt l k = ⟨(bdAt l k).id, (bdAt l k).ow, (bdAt l k).x, (bdAt l k).y, (bdAt l k).w, (bdAt l k).h⟩ from rfl)
    have bnd := hf
    unfold formP at bnd
    have bno := ho
    unfold onP at bno
    generalize hbd : bdAt l k = bd at *
    replace hbd := Lib.hid hbd
    clear hbk
    obtain ⟨id, ow, x, y, bw, bh⟩ := bd
    simp only at k2 k3 k4 k5 bnd bno
    have hO' : wr.ownsRow g 4 1 (.slice (some ⟨g, 0, none⟩) n n) n (bools n (fun t => covK W l k (t : Int) || decide (partP W ⟨id, ow, x, y, bw, bh⟩ x (y + ((0 : Nat) : Int)) (t : Int)))) := by
      rw [bools_congr (g := fun t => covK W l k (t : Int)) (fun t _ => by
        rw [decide_eq_false (by have := part_none (W := W) (b := ⟨id, ow, x, y, bw, bh⟩) (t := (t : Int)); simpa using this)]; simp)]
      exact hO
    clear hO hv hall
    go_wp2_with fail
    clear k2 k3 k4 k5
    go_loopw [7] (fun yv wr => ∃ (j : Nat), (j : Int) ≤ bh ∧ yv = .int .i64 (y + (j : Int)) ∧ wr.ownsRow g 4 1 (.slice (some ⟨g, 0, none⟩) n n) n (bools n (fun t => covK W l k (t : Int) || decide (partP W ⟨id, ow, x, y, bw, bh⟩ x (y + (j : Int)) (t : Int)))) ∧ Blk wr w.heap.size #[.int .i64 W, .int .i64 H, .slice A n c] 24 ∧ Below w.heap.size w wr) (fun yv _ => (y + bh - intOf yv).toNat)
    case atStart => exact ⟨0, by omega, by simp, hO', hG, hb⟩
    case round =>
      clear hO' hG hb
      obtain ⟨j, hj, rfl, hO, hG, hb⟩ := hrel
      obtain ⟨b2, o2, e2, hb2, ⟨_, _, k2, k3, k4, k5⟩, _⟩ := (hcells.out _ hb).2 k hlt
      simp only [Option.some.injEq, Addr.mk.injEq, and_true] at e2
      obtain ⟨rfl, rfl⟩ := e2
      rw [hbd.out] at k2 k3 k4 k5
      simp only at k2 k3 k4 k5
      have HO := Lib.hid hO
      have HG := Lib.hid hG
      have HB := Lib.hid hb
      clear hO hG hb
      by_cases hjh : (j : Int) < bh
      case neg =>
        have d1 : decide (y + (j : Int) < y + bh) = false := by simp; omega
        obtain hjb : (j : Int) = bh := by omega
        have HO2 : Hid (wr.ownsRow g 4 1 (.slice (some ⟨g, 0, none⟩) n n) n (bools n (fun t => covK W l (k + 1) (t : Int)))) := by
          have := HO.out
          show _
          rwa [bools_congr (g := fun t => covK W l (k + 1) (t : Int)) (fun t _ => by
            rw [hcs.out]
            congr 1
            refine decide_eq_decide.2 ?_
            rw [hjb]
            exact part_all (b := ⟨id, ow, x, y, bw, bh⟩))] at this
        clear HO
        go_wp2_with fail
        go_quiet (fail)
        go_wp2_with fail
        go_roundw
        case rel => exact ⟨k + 1, by omega, by go_num, own_below HO2.out (below_drewN (Below.refl _ _) nq), HG.out.below (below_drewN (Below.refl _ _) nq) HG.out.lt, below_drewN HB.out nq⟩
        case measure => simp [intOf]; omega
      have d1 : decide (y + (j : Int) < y + bh) = true := by simp; omega
      go_wp2_with fail
      go_quiet (fail)
      have hq := below_drewN (Below.refl wr.heap.size wr) nq
      have hO := own_below HO.out hq
      have hG := HG.out.below hq HG.out.lt
      have hb := HB.out.trans (hq.mono HB.out.size)
      clear HO HG HB k2 k3 k4 k5 d1 hq
      generalize wr.drewN nq = w5 at *
      obtain ⟨b2, o2, e2, hb2, ⟨_, _, k2, k3, k4, k5⟩, _⟩ := (hcells.out _ hb).2 k hlt
      simp only [Option.some.injEq, Addr.mk.injEq, and_true] at e2
      obtain ⟨rfl, rfl⟩ := e2
      rw [hbd.out] at k2 k3 k4 k5
      simp only at k2 k3 k4 k5
      go_wp2_with fail
      clear k2 k3 k4 k5
      go_loopw [8] (fun xv wr => ∃ (i : Nat), (i : Int) ≤ bw ∧ xv = .int .i64 (x + (i : Int)) ∧ wr.ownsRow g 4 1 (.slice (some ⟨g, 0, none⟩) n n) n (bools n (fun t => covK W l k (t : Int) || decide (partP W ⟨id, ow, x, y, bw, bh⟩ (x + (i : Int)) (y + (j : Int)) (t : Int)))) ∧ Blk wr w.heap.size #[.int .i64 W, .int .i64 H, .slice A n c] 24 ∧ Below w.heap.size w wr) (fun xv _ => (x + bw - intOf xv).toNat)
      case atStart => exact ⟨0, by omega, by simp, by simpa using hO, hG, hb⟩
      case round =>
        clear hO hG hb
        obtain ⟨i, hi, rfl, hO, hG, hb⟩ := hrel
        obtain ⟨b2, o2, e2, hb2, ⟨_, _, k2, k3, k4, k5⟩, _⟩ := (hcells.out _ hb).2 k hlt
        simp only [Option.some.injEq, Addr.mk.injEq, and_true] at e2
        obtain ⟨rfl, rfl⟩ := e2
        rw [hbd.out] at k2 k3 k4 k5
        simp only at k2 k3 k4 k5
        have HO := Lib.hid hO
        have HG := Lib.hid hG
        have HB := Lib.hid hb
        clear hO hG hb
        by_cases hib : (i : Int) < bw
        case neg =>
          have d1 : decide (x + (i : Int) < x + bw) = false := by simp; omega
          obtain hibw : (i : Int) = bw := by omega
          have HO2 : Hid (wr.ownsRow g 4 1 (.slice (some ⟨g, 0, none⟩) n n) n (bools n (fun t => covK W l k (t : Int) || decide (partP W ⟨id, ow, x, y, bw, bh⟩ x (y + ((j + 1 : Nat) : Int)) (t : Int))))) := by
            have := HO.out
            show _
            rwa [bools_congr (g := fun t => covK W l k (t : Int) || decide (partP W ⟨id, ow, x, y, bw, bh⟩ x (y + ((j + 1 : Nat) : Int)) (t : Int))) (fun t _ => by
              congr 1
              refine decide_eq_decide.2 ?_
              rw [hibw, show y + ((j + 1 : Nat) : Int) = y + (j : Int) + 1 by omega]
              exact part_row (b := ⟨id, ow, x, y, bw, bh⟩))] at this
          clear HO
          go_wp2_with fail
          go_quiet (fail)
          go_wp2_with fail
          go_roundw
          case rel => exact ⟨j + 1, by omega, by go_num, own_below HO2.out (below_drewN (Below.refl _ _) nq), HG.out.below (below_drewN (Below.refl _ _) nq) HG.out.lt, below_drewN HB.out nq⟩
          case measure => simp [intOf]; omega
        have d1 : decide (x + (i : Int) < x + bw) = true := by simp; omega
        go_wp2_with fail
        go_quiet (fail)
        have hq := below_drewN (Below.refl wr.heap.size wr) nq
        have hO := own_below HO.out hq
        have hG := HG.out.below hq HG.out.lt
        have hb := HB.out.trans (hq.mono HB.out.size)
        clear HO HG HB k2 k3 k4 k5 d1 hq
        generalize wr.drewN nq = w6 at *
        have hm0 : 0 ≤ W * (y + (j : Int)) := Int.mul_nonneg (by omega) (by omega)
        have hm1 : W * (y + (j : Int) + 1) ≤ W * H := Int.mul_le_mul_of_nonneg_left (by omega) (by omega)
        rw [Int.mul_add, Int.mul_one, hwh] at hm1
        obtain ⟨e1, e2⟩ := place_div (W := W) (X := x + (i : Int)) (Y := y + (j : Int)) (by omega) (by omega)
        have hc : covP W ⟨id, ow, x, y, bw, bh⟩ (x + (i : Int) + W * (y + (j : Int))) := by
          unfold covP; rw [e1, e2]; dsimp only; omega
        have hps := fun t => part_step (W := W) (X := x + (i : Int)) (Y := y + (j : Int)) (b := ⟨id, ow, x, y, bw, bh⟩) (t := t) (by omega) (by omega) hc
        have w1 : wrap64 (x + (i : Int) + wrap64 (W * (y + (j : Int)))) = x + (i : Int) + W * (y + (j : Int)) := by
          clear hps hc e1 e2
          generalize W * (y + (j : Int)) = m at *
          unfold wrap64
          omega
        obtain ⟨z, hz⟩ := Int.eq_ofNat_of_zero_le (show 0 ≤ x + (i : Int) + W * (y + (j : Int)) by omega)
        rw [hz] at w1
        have hzn : z < n := by omega
        obtain ⟨g', hg', _, hgl, hcb, hfb⟩ := ownb_at hO hzn
        cases hg'
        have hO2 := ownb_store (k := z) hO true
        rw [bools_congr (g := fun t => covK W l k (t : Int) || decide (partP W ⟨id, ow, x, y, bw, bh⟩ (x + ((i + 1 : Nat) : Int)) (y + (j : Int)) (t : Int))) (fun t _ => by
          have hpt := hps (t : Int)
          rw [show x + ((i + 1 : Nat) : Int) = x + (i : Int) + 1 by omega]
          by_cases e : t = z
          · rw [if_pos e, decide_eq_true (hpt.2 (.inl (by rw [hz, e])))]; simp
          · rw [if_neg e]
            congr 1
            exact decide_eq_decide.2 ⟨fun h => hpt.2 (.inr h), fun h => (hpt.1 h).elim (fun h => absurd (by omega) e) (fun h => h)⟩)] at hO2
        have HO := Lib.hid hO2
        have HG := Lib.hid (hG.other (a := ⟨g, z, none⟩) (by show w.heap.size ≠ g; omega) (.bool true))
        have HB := Lib.hid (hb.setCell (p := ⟨g, z, none⟩) (by show w.heap.size ≤ g; omega) (.bool true))
        have z0 := hG.cell (i := 0) rfl
        generalize (covK W l k (z : Int) || decide (partP W ⟨id, ow, x, y, bw, bh⟩ (x + (i : Int)) (y + (j : Int)) (z : Int))) = old at *
        clear hO hO2 hG hb hps hc hm0 hm1 hz e1 e2
        go_wp2_with fail
        go_roundw
        case rel => exact ⟨i + 1, by omega, by go_num, HO.out, HG.out, HB.out⟩
        case measure => simp [intOf]; omega
end Go.Proofs.Ytfgjiaakoacomaa
