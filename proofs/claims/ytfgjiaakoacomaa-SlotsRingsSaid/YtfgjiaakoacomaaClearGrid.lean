/- How much room has each tile? The game's own answer. -/
import Derived.Test.YtfgjiaakoacomaaClearRoom
namespace Go.Proofs.Ytfgjiaakoacomaa
set_option maxRecDepth 20000
open Go.RowKit

set_option maxHeartbeats 800000 in
set_option maxRecDepth 20000 in
theorem clear_grid_no (W H k : Int) (A : Option Addr) (n c B : Nat) (ts : List Int) (A1 : Option Addr) (n1 c1 : Nat) (l : List Bd) (w : World) (hr : Reads w B 1 A n (nums .u8 ts)) (hB : B ≤ w.heap.size) (hl : IsBytes ts) (hv : BdsL w A1 n1 l) (hn1 : n1 ≤ 1000000) (h : ¬ allP n W H ts l k) :
    Calls Try.prog 14 #[.agg #[.int .i64 W, .int .i64 H, .slice A n c], .slice A1 n1 c1, .int .i64 k] w fun e w' => e = .returned (.tuple #[.slice none 0 0, .int .i64 1]) ∧ Below w.heap.size w w' := by
  have hb := (Below.refl w.heap.size w).alloc (Nat.le_refl _) (.cells #[.int .i64 W, .int .i64 H, .slice A n c] 24)
  have C := clear_may W H k A n c B ts A1 n1 c1 l _ (hr.below (hb.mono hB)) (Nat.le_trans hB hb.size) hl (hv.below hb) hn1
  rw [decide_eq_false h] at C
  replace C := Lib.hid C
  go_enter Try.func14, Try.ntmps14
  go_wp2_with fail
  generalize w.alloc (.cells #[.int .i64 W, .int .i64 H, .slice A n c] 24) = w1 at *
  refine Calls.mono C.out ?_
  rintro e w2 ⟨rfl, hb2⟩
  go_wp2_with fail
  go_ret2
  exact ⟨rfl, hb.trans (hb2.mono hb.size)⟩

def Gives2R (W H : Int) (w : World) (n : Nat) (f : Nat → Bool) (e : Ending) (w' : World) : Prop :=
  ∃ A c l, e = .returned (.tuple #[.slice A n c, .int .i64 0]) ∧ w'.ownsRow w.heap.size 3 1 (.slice A n c) n (nums .i64 l) ∧ RoomL W H n f l ∧ okK n l ∧ Below w.heap.size w w'

set_option maxHeartbeats 800000 in
set_option maxRecDepth 20000 in
theorem clear_grid (W H k : Int) (A : Option Addr) (n c B : Nat) (ts : List Int) (A1 : Option Addr) (n1 c1 : Nat) (l : List Bd) (w : World) (hr : Reads w B 1 A n (nums .u8 ts)) (hB : B ≤ w.heap.size) (hl : IsBytes ts) (hv : BdsL w A1 n1 l) (hn1 : n1 ≤ 1000000) (h : allP n W H ts l k) :
    Calls Try.prog 14 #[.agg #[.int .i64 W, .int .i64 H, .slice A n c], .slice A1 n1 c1, .int .i64 k] w (Gives2R W H w n (openT W ts l n1 k)) := by
  have hG := Blk.new w #[.int .i64 W, .int .i64 H, .slice A n c] 24
  have hb := (Below.refl w.heap.size w).alloc (Nat.le_refl _) (.cells #[.int .i64 W, .int .i64 H, .slice A n c] 24)
  have C := clear_may W H k A n c B ts A1 n1 c1 l _ (hr.below (hb.mono hB)) (Nat.le_trans hB hb.size) hl (hv.below hb) hn1
  rw [decide_eq_true h] at C
  replace C := Lib.hid C
  go_enter Try.func14, Try.ntmps14
  go_wp2_with fail
  generalize w.alloc (.cells #[.int .i64 W, .int .i64 H, .slice A n c] 24) = w1 at *
  refine Calls.mono C.out ?_
  rintro e w2 ⟨rfl, hb2⟩
  clear C
  replace hG := hG.below hb2 hG.lt
  replace hb := hb.trans (hb2.mono hb.size)
  have hll := hv.1
  have D := clear_room W H k A n c B ts A1 n1 c1 l w2 (hr.below (hb.mono hB)) (Nat.le_trans hB hb.size) h.1 hl (hv.below hb) hn1 (fun i hi => ⟨(h.2.1.2.2 i (by rw [hll]; exact hi)).1, (h.2.1.2.2 i (by rw [hll]; exact hi)).2.1⟩) h.2.2
  replace D := Lib.hid D
  have z0 := hG.cell (i := 0) rfl
  have z1 := hG.cell (i := 1) rfl
  have z2 := hG.cell (i := 2) rfl
  have HB := Lib.hid hb
  clear hb2 hll h hv hr hb
  go_wp2_with fail
  refine Calls.mono D.out ?_
  rintro e w3 ⟨A3, c3, l3, rfl, hO, hR, hK, hb3⟩
  have HO := Lib.hid (own_mono hO HB.out.size)
  have HB3 := Lib.hid (HB.out.trans (hb3.mono HB.out.size))
  clear hO hb3 z0 z1 z2 hG D HB
  go_wp2_with fail
  go_ret2
  exact ⟨A3, c3, l3, rfl, HO.out, hR, hK, HB3.out⟩
end Go.Proofs.Ytfgjiaakoacomaa
