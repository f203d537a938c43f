/- A row of noughts that is made. -/
import Derived.Test.YtfgjiaakoacomaaBools
namespace Go.Proofs.Ytfgjiaakoacomaa
set_option maxRecDepth 20000
open Go.RowKit

def zrow (n : Nat) : Array Value := madeCells #[.int .u8 0] (n * 1)
theorem make_row (n : Nat) (w : World) (h : n ≤ 100000) : (Instr.makeSlice 22 (.int .i64 (n : Int)) (.int .i64 (n : Int))).run Try.prog w = .ok (.slice (some ⟨w.heap.size, 0, none⟩) n n) (w.alloc (.cells (zrow n) 5)) := by
  obtain ⟨i0, hi0, hz0, hz1, hz2⟩ := info_parts info_u8
  have := run_make (P := Try.prog) w 22 5 i0 _ Try.underlying22 hi0 hz0 .i64 .i64 (n : Int) (n : Int) (by omega) (Int.le_refl _) (by rw [hz2]; omega) (by omega)
  rw [hz1] at this
  simpa [zrow, show (Value.int .u8 0).cells = #[Value.int .u8 0] from rfl] using this
theorem zrow_nums (n : Nat) : (zrow n).toList = nums .u8 (List.replicate n 0) := by
  unfold zrow madeCells nums
  refine List.ext_getElem (by simp) fun i h1 h2 => ?_
  simp [Nat.mod_one]
theorem own_made (w : World) (n : Nat) (h : n ≤ 100000) : (w.alloc (.cells (zrow n) 5)).ownsRow w.heap.size 5 1 (.slice (some ⟨w.heap.size, 0, none⟩) n n) n (nums .u8 (List.replicate n 0)) := by
  have := World.ownsRow_lit (e := 5) (size := 1) w (zrow n) n (Nat.le_refl _) (by unfold maxLen; omega) (size_madeCells _ _)
  rwa [zrow_nums] at this
end Go.Proofs.Ytfgjiaakoacomaa
