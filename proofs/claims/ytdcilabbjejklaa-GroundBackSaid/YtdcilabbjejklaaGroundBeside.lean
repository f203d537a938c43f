/- The tiles beside one, as ground makes them. -/
import Derived.Test.YtdcilabbjejklaaGroundNear
namespace Go.Proofs.Ytdcilabbjejklaa
open Go.RowKit

set_option maxHeartbeats 1600000 in
theorem ground_beside (W H t : Int) (A : Option Addr) (n c : Nat) (w : World) (h1 : 1 ≤ W) (h2 : W ≤ 128) (h3 : 1 ≤ H) (h4 : H ≤ 128) (ht0 : 0 ≤ t) (ht1 : t < W * H) :
    Calls Try.prog 57 #[.agg #[.int .i64 W, .int .i64 H, .slice A n c], .int .i64 t] w fun e w' => e = .returned (.agg (nums .i64 (nearL W H t)).toArray) ∧ Below w.heap.size w w' := by
  obtain ⟨p1, p2⟩ := prod_range h1 h2 h3 h4
  go_enter Try.func57, Try.ntmps57
  go_wp2_with fail
  generalize hW : (w.alloc (.cells #[.int .i64 W, .int .i64 H, .slice A n c] 39)).alloc _ = W1
  have hb0 : Below w.heap.size w W1 := by rw [← hW]; exact ((Below.refl _ _).alloc (Nat.le_refl _) _).alloc (by simp) _
  have hz : W1.heap.size = w.heap.size + 2 := by rw [← hW]; simp
  have c0 : W1.cell? ⟨w.heap.size, 0, none⟩ = some (.int .i64 W) := by rw [← hW, World.cell?_alloc_lt _ _ _ (by simp), World.cell?_alloc_at _ _ _ _ rfl]; rfl
  have c1 : W1.cell? ⟨w.heap.size, 1, none⟩ = some (.int .i64 H) := by rw [← hW, World.cell?_alloc_lt _ _ _ (by simp), World.cell?_alloc_at _ _ _ _ rfl]; rfl
  have c2 : W1.cell? ⟨w.heap.size, 2, none⟩ = some (.slice A n c) := by rw [← hW, World.cell?_alloc_lt _ _ _ (by simp), World.cell?_alloc_at _ _ _ _ rfl]; rfl
  have a0 : ∀ j, j < 8 → W1.cell? ⟨w.heap.size + 1, j, none⟩ = some (.int .i64 0) := by
    intro j hj
    rw [← hW, World.cell?_alloc_at _ _ _ _ (by simp)]
    rcases (show j = 0 ∨ j = 1 ∨ j = 2 ∨ j = 3 ∨ j = 4 ∨ j = 5 ∨ j = 6 ∨ j = 7 by omega) with rfl | rfl | rfl | rfl | rfl | rfl | rfl | rfl <;> rfl
  have f0 : ∀ j, W1.frozen? ⟨w.heap.size + 1, j, none⟩ = false := by
    intro j
    rw [← hW]; exact World.frozen?_alloc_at _ _ _ _ (by simp)
  clear hW
  have g2 : w.heap.size < W1.heap.size := by omega
  have g4 : w.heap.size + 1 < W1.heap.size := by omega
  have HA := Lib.hid a0
  have HF := Lib.hid f0
  clear a0 f0 hz
  go_quiet (fail)
  go_wp2_with fail
  refine (ground_ways _).mono ?_
  rintro e w2 ⟨rfl, hb2⟩
  have hb1 : Below W1.heap.size W1 w2 := (below_drewN (Below.refl _ _) _).trans hb2
  have e0 := (hb1.cell (p := ⟨w.heap.size, 0, none⟩) g2).trans c0
  have e1 := (hb1.cell (p := ⟨w.heap.size, 1, none⟩) g2).trans c1
  have e2 := (hb1.cell (p := ⟨w.heap.size, 2, none⟩) g2).trans c2
  have HA2 : Hid (∀ j, j < 8 → w2.cell? ⟨w.heap.size + 1, j, none⟩ = some (.int .i64 (if j < 0 then nearI W H t j else 0))) := fun j hj => by
    rw [if_neg (by omega)]; exact (hb1.cell (p := ⟨w.heap.size + 1, j, none⟩) g4).trans (HA.out j hj)
  have HF2 : Hid (∀ j, w2.frozen? ⟨w.heap.size + 1, j, none⟩ = false) := fun j => (hb1.frozen (p := ⟨w.heap.size + 1, j, none⟩) g4).trans (HF.out j)
  have g42 : w.heap.size + 1 < w2.heap.size := Nat.lt_of_lt_of_le g4 hb1.size
  have hbw2 : Below w.heap.size w w2 := hb0.trans (hb1.mono hb0.size)
  have hx0 : 0 ≤ t % W := Int.emod_nonneg _ (by omega)
  have hx1 : t % W < W := Int.emod_lt_of_pos _ (by omega)
  have hy0 : 0 ≤ t / W := Int.ediv_nonneg ht0 (by omega)
  have hy1 : t / W < H := Int.ediv_lt_of_lt_mul (by omega) (by rw [Int.mul_comm]; exact ht1)
  clear c0 c1 c2 HA HF g2 g4 hb2 hb1 hb0
  go_wp2_with fail
  go_loopw [18] (fun i wr => ∃ (k : Nat), k ≤ 8 ∧ i = .int .i64 k ∧ wr.cell? ⟨w.heap.size, 0, none⟩ = some (.int .i64 W) ∧ wr.cell? ⟨w.heap.size, 1, none⟩ = some (.int .i64 H) ∧ wr.cell? ⟨w.heap.size, 2, none⟩ = some (.slice A n c) ∧
      Hid (∀ j, j < 8 → wr.cell? ⟨w.heap.size + 1, j, none⟩ = some (.int .i64 (if j < k then nearI W H t j else 0))) ∧ Hid (∀ j, wr.frozen? ⟨w.heap.size + 1, j, none⟩ = false) ∧ w.heap.size + 1 < wr.heap.size ∧ Below w.heap.size w wr) (fun i _ => 8 - (intOf i).toNat)
  case atStart => exact ⟨0, by omega, rfl, e0, e1, e2, HA2, HF2, g42, hbw2⟩
  case round =>
    obtain ⟨k, hk, rfl, c0, c1, c2, HA, HF, g4, hbw⟩ := hrel
    clear e0 e1 e2 HA2 HF2 g42 hbw2
    by_cases hlt : k < 8
    · have ix := ways_index k hlt
      have g2 : w.heap.size < wr.heap.size := by omega
      have ck := HA.out k hlt
      rw [if_neg (by omega)] at ck
      have fk := HF.out k
      obtain ⟨u0, u1, v0, v1⟩ := way_range k
      have HN : Hid (nearI W H t k = if onB W H (t % W + wayX k) (t / W + wayY k) then t % W + wayX k + W * (t / W + wayY k) else -1) := rfl
      have C := Lib.hid (fun w => ground_on W H (t % W + wayX k) (t / W + wayY k) A n c w)
      generalize wayX k = dx at *
      generalize wayY k = dy at *
      go_wp2_with fail
      generalize hX : (wr.setCell _ _).alloc _ = X1
      have zs : (wr.setCell ⟨w.heap.size + 1, k, none⟩ (.int .i64 (-1))).heap.size = wr.heap.size := by simp
      have x0 : X1.cell? ⟨w.heap.size, 0, none⟩ = some (.int .i64 W) := by rw [← hX, World.cell?_alloc_lt _ _ _ (by rw [zs]; exact g2), World.cell?_setCell_other _ _ _ _ (by simp)]; exact c0
      have x1 : X1.cell? ⟨w.heap.size, 1, none⟩ = some (.int .i64 H) := by rw [← hX, World.cell?_alloc_lt _ _ _ (by rw [zs]; exact g2), World.cell?_setCell_other _ _ _ _ (by simp)]; exact c1
      have x2 : X1.cell? ⟨w.heap.size, 2, none⟩ = some (.slice A n c) := by rw [← hX, World.cell?_alloc_lt _ _ _ (by rw [zs]; exact g2), World.cell?_setCell_other _ _ _ _ (by simp)]; exact c2
      have y0 : X1.cell? ⟨wr.heap.size, 0, none⟩ = some (.int .i64 dx) := by rw [← hX, World.cell?_alloc_at _ _ _ _ zs.symm]; rfl
      have y1 : X1.cell? ⟨wr.heap.size, 1, none⟩ = some (.int .i64 dy) := by rw [← hX, World.cell?_alloc_at _ _ _ _ zs.symm]; rfl
      have XA : Hid (∀ j, j < 8 → X1.cell? ⟨w.heap.size + 1, j, none⟩ = some (.int .i64 (if j = k then -1 else if j < k then nearI W H t j else 0))) := fun j hj => by
        rw [← hX, World.cell?_alloc_lt _ _ _ (by rw [zs]; exact g4)]
        by_cases hjk : j = k
        · subst hjk
          rw [if_pos rfl]
          exact World.cell?_setCell_same _ _ _ ck
        · rw [if_neg hjk, World.cell?_setCell_other _ _ _ _ (by simp <;> omega)]
          exact HA.out j hj
      have XF : Hid (∀ j, X1.frozen? ⟨w.heap.size + 1, j, none⟩ = false) := fun j => by
        rw [← hX, World.frozen?_alloc_past _ _ _ (by rw [zs]; exact g4), World.frozen?_setCell]; exact HF.out j
      have hxb : Below w.heap.size w X1 := by rw [← hX]; exact (hbw.setCell (by simp) _).alloc (by rw [zs]; exact hbw.size) _
      have hxs : X1.heap.size = wr.heap.size + 1 := by rw [← hX]; simp
      have z2 : w.heap.size < X1.heap.size := by omega
      have z4 : w.heap.size + 1 < X1.heap.size := by omega
      have zr : wr.heap.size < X1.heap.size := by omega
      clear hX hxs zs c0 c1 c2 HA HF ck fk ix
      generalize wr.heap.size = gr at *
      have hq0 : -128 ≤ W * (t / W + dy) := by
        have := Int.mul_le_mul_of_nonneg_left (show (-1 : Int) ≤ t / W + dy by omega) (show 0 ≤ W by omega)
        omega
      have hq1 : W * (t / W + dy) ≤ 16384 := by
        have h5 := Int.mul_le_mul_of_nonneg_left (show t / W + dy ≤ 128 by omega) (show 0 ≤ W by omega)
        omega
      by_cases hon : onB W H (t % W + dx) (t / W + dy) = true
      · rw [hon] at C
        rw [if_pos hon] at HN
        clear hon
        refine Calls.mono (C.out _) ?_
        rintro e w3 ⟨rfl, hb3⟩
        have s0 := (hb3.cell (p := ⟨w.heap.size, 0, none⟩) z2).trans x0
        have s1 := (hb3.cell (p := ⟨w.heap.size, 1, none⟩) z2).trans x1
        have s2 := (hb3.cell (p := ⟨w.heap.size, 2, none⟩) z2).trans x2
        have r0 := (hb3.cell (p := ⟨gr, 0, none⟩) zr).trans y0
        have r1 := (hb3.cell (p := ⟨gr, 1, none⟩) zr).trans y1
        have SA : Hid (∀ j, j < 8 → w3.cell? ⟨w.heap.size + 1, j, none⟩ = some (.int .i64 (if j = k then -1 else if j < k then nearI W H t j else 0))) := fun j hj => (hb3.cell (p := ⟨w.heap.size + 1, j, none⟩) z4).trans (XA.out j hj)
        have SF : Hid (∀ j, w3.frozen? ⟨w.heap.size + 1, j, none⟩ = false) := fun j => (hb3.frozen (p := ⟨w.heap.size + 1, j, none⟩) z4).trans (XF.out j)
        have sk := SA.out k hlt
        rw [if_pos rfl] at sk
        have sf := SF.out k
        have hbw3 : Below w.heap.size w w3 := hxb.trans (hb3.mono hxb.size)
        have z3 : w.heap.size + 1 < w3.heap.size := Nat.lt_of_lt_of_le z4 hb3.size
        clear x0 x1 x2 y0 y1 XA XF C hb3 hxb z2 z4 zr
        go_wp2
        go_roundw
        case rel =>
          refine ⟨k + 1, by omega, by go_num, ?_, ?_, ?_, ?_, ?_, by simpa using z3, hbw3.setCell (by simp) _⟩
          · rw [World.cell?_setCell_other _ _ _ _ (by simp)]; exact s0
          · rw [World.cell?_setCell_other _ _ _ _ (by simp)]; exact s1
          · rw [World.cell?_setCell_other _ _ _ _ (by simp)]; exact s2
          · intro j hj
            by_cases hjk : j = k
            · subst hjk
              rw [if_pos (by omega), HN.out]
              exact World.cell?_setCell_same _ _ _ sk
            · rw [World.cell?_setCell_other _ _ _ _ (by simp <;> omega), SA.out j hj, if_neg hjk]
              by_cases hjl : j < k
              · rw [if_pos hjl, if_pos (by omega)]
              · rw [if_neg hjl, if_neg (by omega)]
          · intro j
            rw [World.frozen?_setCell]; exact SF.out j
        case measure => simp [intOf]; omega
      · have hon' : onB W H (t % W + dx) (t / W + dy) = false := by simpa using hon
        rw [hon'] at C
        rw [if_neg hon] at HN
        clear hon hon'
        refine Calls.mono (C.out _) ?_
        rintro e w3 ⟨rfl, hb3⟩
        have hbw3 : Below w.heap.size w w3 := hxb.trans (hb3.mono hxb.size)
        go_wp2
        go_roundw
        case rel =>
          refine ⟨k + 1, by omega, by go_num, ?_, ?_, ?_, ?_, ?_, Nat.lt_of_lt_of_le z4 hb3.size, hbw3⟩
          · exact (hb3.cell (p := ⟨w.heap.size, 0, none⟩) z2).trans x0
          · exact (hb3.cell (p := ⟨w.heap.size, 1, none⟩) z2).trans x1
          · exact (hb3.cell (p := ⟨w.heap.size, 2, none⟩) z2).trans x2
          · intro j hj
            rw [hb3.cell (p := ⟨w.heap.size + 1, j, none⟩) z4, XA.out j hj]
            by_cases hjk : j = k
            · subst hjk
              rw [if_pos rfl, if_pos (by omega), HN.out]
            · rw [if_neg hjk]
              by_cases hjl : j < k
              · rw [if_pos hjl, if_pos (by omega)]
              · rw [if_neg hjl, if_neg (by omega)]
          · exact fun j => (hb3.frozen (p := ⟨w.heap.size + 1, j, none⟩) z4).trans (XF.out j)
        case measure => simp [intOf]; omega
    · obtain rfl : k = 8 := by omega
      have q0 := HA.out 0 (by omega)
      have q1 := HA.out 1 (by omega)
      have q2 := HA.out 2 (by omega)
      have q3 := HA.out 3 (by omega)
      have q4 := HA.out 4 (by omega)
      have q5 := HA.out 5 (by omega)
      have q6 := HA.out 6 (by omega)
      have q7 := HA.out 7 (by omega)
      simp only [show (0 : Nat) < 8 by omega, show (1 : Nat) < 8 by omega, show (2 : Nat) < 8 by omega, show (3 : Nat) < 8 by omega, show (4 : Nat) < 8 by omega, show (5 : Nat) < 8 by omega, show (6 : Nat) < 8 by omega, show (7 : Nat) < 8 by omega, if_true] at q0 q1 q2 q3 q4 q5 q6 q7
      have fz := HF.out
      have e : (nums .i64 (nearL W H t)).toArray = #[.int .i64 (nearI W H t 0), .int .i64 (nearI W H t 1), .int .i64 (nearI W H t 2), .int .i64 (nearI W H t 3), .int .i64 (nearI W H t 4), .int .i64 (nearI W H t 5), .int .i64 (nearI W H t 6), .int .i64 (nearI W H t 7)] := rfl
      have HE := Lib.hid e
      clear e HA HF
      go_wp2
      rw [setCell_back q0, setCell_back q1, setCell_back q2, setCell_back q3, setCell_back q4, setCell_back q5, setCell_back q6, setCell_back q7]
      exact bodyPost_ret (v := .agg #[.int .i64 (nearI W H t 0), .int .i64 (nearI W H t 1), .int .i64 (nearI W H t 2), .int .i64 (nearI W H t 3), .int .i64 (nearI W H t 4), .int .i64 (nearI W H t 5), .int .i64 (nearI W H t 6), .int .i64 (nearI W H t 7)]) (by simp [results, Try.results57, go_sem, q0, q1, q2, q3, q4, q5, q6, q7]) rfl ⟨by rw [HE.out], hbw⟩

end Go.Proofs.Ytdcilabbjejklaa
