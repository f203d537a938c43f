/- Nine tiles. -/
import Derived.Test.YtjbnpgjndohjcaaClearRoomM
namespace Go.Proofs.Ytjbnpgjndohjcaa
set_option maxRecDepth 20000
open Go.RowKit

theorem bds_none (w : World) : BdsL w none 0 [] := ⟨rfl, fun i hi => absurd hi (by omega)⟩
theorem zero_bytes (n : Nat) : IsBytes (List.replicate n (0 : Int)) := fun x hx => by rw [List.eq_of_mem_replicate hx]; omega
theorem plain_ok {W H : Int} {n : Nat} {ts : List Int} {k : Int} (hg : isG W H ts = true) (hk : classP k) : allP n W H ts [] k :=
  ⟨hg, ⟨by simp, fun i hi => absurd hi (by simp), fun i hi => absurd hi (by simp)⟩, hk⟩
theorem nine_g : isG 3 3 (List.replicate 9 (0 : Int)) = true := by decide +kernel
theorem nine_open : ∀ t, t < 9 → openT 3 (List.replicate 9 (0 : Int)) [] 0 0 t = true := by decide +kernel
def zrow9 : Array Value := #[.int .u8 0, .int .u8 0, .int .u8 0, .int .u8 0, .int .u8 0, .int .u8 0, .int .u8 0, .int .u8 0, .int .u8 0]
theorem make_nine9 (w : World) : (Instr.makeSlice 22 (.int .i64 9) (.int .i64 9)).run Try.prog w = .ok (.slice (some ⟨w.heap.size, 0, none⟩) 9 9) (w.alloc (.cells zrow9 5)) := by kernel_rfl
end Go.Proofs.Ytjbnpgjndohjcaa
