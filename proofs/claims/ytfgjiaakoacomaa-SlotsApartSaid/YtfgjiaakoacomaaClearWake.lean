/- Nine tiles. -/
import Derived.Test.YtfgjiaakoacomaaClearRoomM
namespace Go.Proofs.Ytfgjiaakoacomaa
set_option maxRecDepth 20000
open Go.RowKit

theorem bds_none (w : World) : BdsL w none 0 [] := ⟨rfl, fun i hi => absurd hi (by omega)⟩
theorem zero_bytes (n : Nat) : IsBytes (List.replicate n (0 : Int)) := fun x hx => by rw [List.eq_of_mem_replicate hx]; omega
theorem plain_ok {W H : Int} {n : Nat} {ts : List Int} {k : Int} (hg : isG W H ts = true) (hk : classP k) : allP n W H ts [] k :=
  ⟨hg, ⟨by simp, fun i hi => absurd hi (by simp), fun i hi => absurd hi (by simp)⟩, hk⟩
theorem nine_g : isG 3 3 (List.replicate 9 (0 : Int)) = true := by decide +kernel
theorem nine_open : ∀ t, t < 9 → openT 3 (List.replicate 9 (0 : Int)) [] 0 0 t = true := by decide +kernel
def zrow9 : Array Value := #[.int .u8 0, .int .u8 0, .int .u8 0, .int .u8 0, .int .u8 0, .int .u8 0, .int .u8 0, .int .u8 0, .int .u8 0]
theorem make_nine9 (w : World) : (Instr.makeSlice 22 (.int .i64 9) (.int .i64 9)).run Try.prog w = .ok (.slice (some ⟨w.heap.size, 0, none⟩) 9 9) (w.alloc (.cells zrow9 5)) := by kernel_rfl
set_option maxHeartbeats 1600000 in
set_option maxRecDepth 20000 in
theorem wakes9 (w : World) : Calls Try.prog 18 #[] w fun e w' => e = .returned (.bool true) ∧ Below w.heap.size w w' := by
  have hmk := make_nine9
  have hr : Reads (w.alloc (.cells zrow9 5)) (w.heap.size + 1) 1 (some ⟨w.heap.size, 0, none⟩) 9 (nums .u8 (List.replicate 9 0)) := reads_new w (zrow9.toList) 5 (0, 0) 9 rfl
  have hb := (Below.refl w.heap.size w).alloc (Nat.le_refl _) (.cells zrow9 5)
  have C := clear_grid 3 3 0 (some ⟨w.heap.size, 0, none⟩) 9 9 (w.heap.size + 1) (List.replicate 9 0) none 0 0 [] _ hr (by simp) (zero_bytes 9) (bds_none _) (by omega) (plain_ok nine_g ⟨by omega, by omega⟩)
  replace C := Lib.hid C
  clear hr
  go_enter Try.func18, Try.ntmps18
  go_wp2_with fail
  generalize w.alloc (.cells zrow9 5) = w1 at *
  refine Calls.mono C.out ?_
  rintro e w2 ⟨A2, c2, l2, rfl, hO, hR, hK, hb2⟩
  clear C
  obtain rfl := plain_list (by omega) (by rfl) nine_open hR
  rw [three_list] at hO
  replace hb := hb.trans (hb2.mono hb.size)
  clear hR hK hb2
  go_wp2_with fail
  refine Calls.mono (num9 _ _) ?_
  rintro e w3 ⟨rfl, rfl⟩
  have hr2 : Reads (w2.alloc (.cells #[.int .i64 1, .int .i64 1, .int .i64 1, .int .i64 1, .int .i64 2, .int .i64 1, .int .i64 1, .int .i64 1, .int .i64 1] 3)) (w2.heap.size + 1) 1 (some ⟨w2.heap.size, 0, none⟩) 9 (nums .i64 [1, 1, 1, 1, 2, 1, 1, 1, 1]) := reads_new w2 [.int .i64 1, .int .i64 1, .int .i64 1, .int .i64 1, .int .i64 2, .int .i64 1, .int .i64 1, .int .i64 1, .int .i64 1] 3 (0, 0) 9 rfl
  have hb3 := (Below.refl w2.heap.size w2).alloc (Nat.le_refl _) (.cells #[.int .i64 1, .int .i64 1, .int .i64 1, .int .i64 1, .int .i64 2, .int .i64 1, .int .i64 1, .int .i64 1, .int .i64 1] 3)
  have E := Lib.hid (eq_nums_b A2 (some ⟨w2.heap.size, 0, none⟩) 9 c2 9 9 _ _ [1, 1, 1, 1, 2, 1, 1, 1, 1] [1, 1, 1, 1, 2, 1, 1, 1, 1] _ true ((Reads.of_own hO).below hb3) hr2 (by omega) (by omega) (by simp))
  replace hb := hb.trans (hb3.mono hb.size)
  clear hr2 hO hb3
  go_wp2_with fail
  refine Calls.mono E.out ?_
  rintro e w4 ⟨rfl, hb4⟩
  replace hb := hb.trans (hb4.mono hb.size)
  clear E hb4
  go_wp2_with fail
  go_ret
  exact ⟨rfl, hb⟩
end Go.Proofs.Ytfgjiaakoacomaa
