/- Nine tiles: the first three places. -/
import Derived.Test.YtfgjiaakoacomaaSlotsFind
import Derived.Test.YtfgjiaakoacomaaSlotsAsk
import Derived.Test.YtfgjiaakoacomaaSlotMath2
namespace Go.Proofs.Ytfgjiaakoacomaa
set_option maxRecDepth 20000
open Go.RowKit

theorem nine_room : RoomL 3 3 9 (openT 3 (List.replicate 9 (0 : Int)) [] 0 0) [1, 1, 1, 1, 2, 1, 1, 1, 1] := by
  obtain ⟨ml, hR, _⟩ := room_ex (openT 3 (List.replicate 9 (0 : Int)) [] 0 0) (W := 3) (H := 3) (n := 9) (by omega) (by omega) (by rfl)
  have e := plain_list (by omega) (by rfl) nine_open hR
  rw [three_list] at e
  rw [← e]
  exact hR
theorem nine_slots : asI (slotsN 3 3 9 4 (2 * 0 + 1) (goodT [1, 1, 1, 1, 2, 1, 1, 1, 1] 0) (3 : Int).toNat) = [4, 0, 1] := by decide +kernel
set_option maxHeartbeats 1600000 in
set_option maxRecDepth 20000 in
theorem wakes20 (w : World) : Calls Try.prog 32 #[] w fun e w' => e = .returned (.bool true) ∧ Below w.heap.size w w' := by
  have hmk := make_nine9
  have hr : Reads (w.alloc (.cells zrow9 5)) (w.heap.size + 1) 1 (some ⟨w.heap.size, 0, none⟩) 9 (nums .u8 (List.replicate 9 0)) := reads_new w (zrow9.toList) 5 (0, 0) 9 rfl
  have hb := (Below.refl w.heap.size w).alloc (Nat.le_refl _) (.cells zrow9 5)
  have C := slots_find 3 3 0 0 3 (some ⟨w.heap.size, 0, none⟩) 9 9 (w.heap.size + 1) (List.replicate 9 0) none 0 0 [] _ hr (by simp) (zero_bytes 9) (bds_none _) (by omega) ⟨plain_ok nine_g ⟨by omega, by omega⟩, by omega, by omega⟩ 4 (by omega) (by omega) (by omega) _ nine_room
  rw [nine_slots] at C
  replace C : Calls Try.prog 30 #[.agg #[.int .i64 3, .int .i64 3, .slice (some ⟨w.heap.size, 0, none⟩) 9 9], .slice none 0 0, .int .i64 0, .int .i64 0, .int .i64 4, .int .i64 3] _ _ := C
  replace C := Lib.hid C
  clear hr
  go_enter Try.func32, Try.ntmps32
  go_wp2_with fail
  generalize w.alloc (.cells zrow9 5) = w1 at *
  refine Calls.mono C.out ?_
  rintro e w2 ⟨A2, c2, rfl, hO, hb2⟩
  clear C
  replace hb := hb.trans (hb2.mono hb.size)
  have hl3 : ([4, 0, 1] : List Int).length = 3 := rfl
  rw [hl3] at hO ⊢
  clear hb2 hl3
  go_wp2_with fail
  refine Calls.mono (num20 _ _) ?_
  rintro e w3 ⟨rfl, rfl⟩
  have hr2 : Reads (w2.alloc (.cells #[.int .i64 4, .int .i64 0, .int .i64 1] 3)) (w2.heap.size + 1) 1 (some ⟨w2.heap.size, 0, none⟩) 3 (nums .i64 [4, 0, 1]) := reads_new w2 [.int .i64 4, .int .i64 0, .int .i64 1] 3 (0, 0) 3 rfl
  have hb3 := (Below.refl w2.heap.size w2).alloc (Nat.le_refl _) (.cells #[.int .i64 4, .int .i64 0, .int .i64 1] 3)
  have E := Lib.hid (eq_nums_b A2 (some ⟨w2.heap.size, 0, none⟩) 3 c2 3 3 _ _ [4, 0, 1] [4, 0, 1] _ true ((Reads.of_own hO).below hb3) hr2 (by omega) (by omega) (by simp))
  replace hb := hb.trans (hb3.mono hb.size)
  clear hr2 hO hb3
  go_wp2_with fail
  refine Calls.mono E.out ?_
  rintro e w4 ⟨rfl, hb4⟩
  replace hb := hb.trans (hb4.mono hb.size)
  clear E hb4
  go_wp2_with fail
  go_ret
  exact ⟨rfl, hb⟩
set_option maxHeartbeats 1600000 in
set_option maxRecDepth 20000 in
theorem steps20 (W H : Int) (t u : Nat) (A : Option Addr) (n c : Nat) (w : World) (hW0 : 1 ≤ W) (hW1 : W ≤ 128) (hH1 : H ≤ 128) (hn : (n : Int) = W * H) (ht : t < n) (hu : u < n) :
    Calls Try.prog 34 #[.agg #[.int .i64 W, .int .i64 H, .slice A n c], .int .i64 (t : Int), .int .i64 (u : Int)] w fun e w' => e = .returned (.int .i64 (stepsT W t u)) ∧ Below w.heap.size w w' := by
  obtain ⟨⟨a0, a1, a2, a3⟩, _⟩ := tile_xy hW0 hn ht
  obtain ⟨⟨b0, b1, b2, b3⟩, _⟩ := tile_xy hW0 hn hu
  have hST : stepsT W t u = max ((t : Int) % W - (u : Int) % W) (max (-((t : Int) % W - (u : Int) % W)) (max ((t : Int) / W - (u : Int) / W) (-((t : Int) / W - (u : Int) / W)))) := by
    show cheb ((u : Int) % W - (t : Int) % W) ((u : Int) / W - (t : Int) / W) = _
    unfold cheb; omega
  unfold tX at a0 a1 b0 b1
  unfold tY at a2 a3 b2 b3
  have hG := Blk.new w #[.int .i64 W, .int .i64 H, .slice A n c] 24
  have hb := (Below.refl w.heap.size w).alloc (Nat.le_refl _) (.cells #[.int .i64 W, .int .i64 H, .slice A n c] 24)
  have z0 := hG.cell (i := 0) rfl
  have hw0 : ¬ W = 0 := by omega
  have e1 : wrap64 ((t : Int) / W) = (t : Int) / W := by unfold wrap64; omega
  have e2 : wrap64 ((u : Int) / W) = (u : Int) / W := by unfold wrap64; omega
  generalize stepsT W t u = r at *
  replace hST := Lib.hid hST
  have ht0 : (0 : Int) ≤ (t : Int) := by omega
  have hu0 : (0 : Int) ≤ (u : Int) := by omega
  clear hn ht hu
  go_enter Try.func34, Try.ntmps34
  go_wp2_with fail
  generalize w.alloc (.cells #[.int .i64 W, .int .i64 H, .slice A n c] 24) = w1 at *
  go_quiet (fail)
  (try simp only [e1, e2])
  have hx : -128 ≤ (t : Int) % W - (u : Int) % W ∧ (t : Int) % W - (u : Int) % W ≤ 128 := by omega
  have hy : -128 ≤ (t : Int) / W - (u : Int) / W ∧ (t : Int) / W - (u : Int) / W ≤ 128 := by omega
  have HB := Lib.hid (below_drewN hb nq)
  clear z0 e1 e2 a0 a1 a2 a3 b0 b1 b2 b3 hb hG
  generalize (t : Int) % W - (u : Int) % W = dx at *
  generalize (t : Int) / W - (u : Int) / W = dy at *
  obtain ⟨hx0, hx1⟩ := hx
  obtain ⟨hy0, hy1⟩ := hy
  go_wp2_with fail
  go_ret
  exact ⟨by rw [hST.out]; rfl, HB.out⟩
end Go.Proofs.Ytfgjiaakoacomaa
