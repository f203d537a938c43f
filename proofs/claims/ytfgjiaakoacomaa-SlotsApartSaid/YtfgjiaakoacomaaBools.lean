/- Rows of truth values. -/
import Derived.Test.YtfgjiaakoacomaaMem
import Derived.Test.YtfgjiaakoacomaaNumbers
import Derived.Test.YtfgjiaakoacomaaBlk
import Derived.Laws.OwnMore
namespace Go.Proofs.Ytfgjiaakoacomaa
set_option maxRecDepth 20000
open Go.RowKit

def bools (n : Nat) (f : Nat → Bool) : List Value := (List.range n).map fun t => .bool (f t)
theorem bools_len (n : Nat) (f : Nat → Bool) : (bools n f).length = n := by simp [bools]
theorem bools_congr {n : Nat} {f g : Nat → Bool} (h : ∀ t, t < n → f t = g t) : bools n f = bools n g := by
  unfold bools
  exact List.map_congr_left fun t ht => by rw [h t (List.mem_range.1 ht)]
theorem bools_set (n : Nat) (f : Nat → Bool) (k : Nat) (v : Bool) : (bools n f).set k (.bool v) = bools n (fun t => if t = k then v else f t) := by
  refine List.ext_getElem (by simp [bools]) fun i h1 h2 => ?_
  simp only [bools, List.getElem_set, List.getElem_map, List.getElem_range]
  by_cases e : k = i
  · subst e; simp
  · rw [if_neg e, if_neg (fun h => e h.symm)]
theorem info_bool : (Try.prog.info? 4).map (fun i => (i.zero, i.size, i.bytes)) = some (some (.bool false), 1, 1) := by kernel_rfl
section
variable {w w' : World} {base : Nat} {e : TypeId} {A : Option Addr} {n c k : Nat} {f : Nat → Bool}
theorem ownb_at (h : w.ownsRow base e 1 (.slice A n c) n (bools n f)) (hk : k < n) :
    ∃ g, A = some ⟨g, 0, none⟩ ∧ base ≤ g ∧ g < w.heap.size ∧ w.cell? ⟨g, k, none⟩ = some (.bool (f k)) ∧ w.frozen? ⟨g, k, none⟩ = false := by
  obtain ⟨g, cap, hv, hb, hlt⟩ := h.form (by omega)
  injection hv with hA
  subst hA
  refine ⟨g, rfl, hb, hlt, ?_, h.frozenAt k⟩
  rw [h.cellAt k (by omega)]
  simp [bools, hk]
theorem ownb_store {g : Nat} (h : w.ownsRow base e 1 (.slice (some ⟨g, 0, none⟩) n c) n (bools n f)) (v : Bool) :
    (w.setCell ⟨g, k, none⟩ (.bool v)).ownsRow base e 1 (.slice (some ⟨g, 0, none⟩) n c) n (bools n (fun t => if t = k then v else f t)) := by
  have := (h.stored k (.bool v)).1
  rwa [bools_set] at this
/-- Truth values that can be read. -/
theorem reads_bool {B : Nat} (h : Reads w B 1 A n (bools n f)) (hk : k < n) : ∃ b o, A = some ⟨b, o, none⟩ ∧ b < B ∧ w.cell? ⟨b, o + k, none⟩ = some (.bool (f k)) := by
  obtain ⟨b, o, u, e, hb, hx, hc⟩ := h.at_ hk
  have : u = .bool (f k) := by simpa [bools, hk] using hx.symm
  subst this
  exact ⟨b, o, e, hb, by simpa using hc⟩
end
def zrowB (n : Nat) : Array Value := madeCells #[.bool false] (n * 1)
theorem make_bools (n : Nat) (w : World) (h : n ≤ 100000) : (Instr.makeSlice 39 (.int .i64 (n : Int)) (.int .i64 (n : Int))).run Try.prog w = .ok (.slice (some ⟨w.heap.size, 0, none⟩) n n) (w.alloc (.cells (zrowB n) 4)) := by
  obtain ⟨i0, hi0, hz0, hz1, hz2⟩ := info_parts info_bool
  have := run_make (P := Try.prog) w 39 4 i0 _ Try.underlying39 hi0 hz0 .i64 .i64 (n : Int) (n : Int) (by omega) (Int.le_refl _) (by rw [hz2]; omega) (by omega)
  rw [hz1] at this
  simpa [zrowB, show (Value.bool false).cells = #[Value.bool false] from rfl] using this
theorem zrowB_list (n : Nat) : (zrowB n).toList = bools n (fun _ => false) := by
  unfold zrowB madeCells bools
  refine List.ext_getElem (by simp) fun i h1 h2 => ?_
  simp [Nat.mod_one]
theorem ownb_made (w : World) (n : Nat) (h : n ≤ 100000) : (w.alloc (.cells (zrowB n) 4)).ownsRow w.heap.size 4 1 (.slice (some ⟨w.heap.size, 0, none⟩) n n) n (bools n (fun _ => false)) := by
  have := World.ownsRow_lit (e := 4) (size := 1) w (zrowB n) n (Nat.le_refl _) (by unfold maxLen; omega) (size_madeCells _ _)
  rwa [zrowB_list] at this
def zrowI (n : Nat) : Array Value := madeCells #[.int .i64 0] (n * 1)
theorem make_ints (n : Nat) (w : World) (h : n ≤ 100000) (hi : (Try.prog.info? 3).map (fun i => (i.zero, i.size, i.bytes)) = some (some (.int .i64 0), 1, 8)) : (Instr.makeSlice 30 (.int .i64 (n : Int)) (.int .i64 (n : Int))).run Try.prog w = .ok (.slice (some ⟨w.heap.size, 0, none⟩) n n) (w.alloc (.cells (zrowI n) 3)) := by
  obtain ⟨i0, hi0, hz0, hz1, hz2⟩ := info_parts hi
  have := run_make (P := Try.prog) w 30 3 i0 _ Try.underlying30 hi0 hz0 .i64 .i64 (n : Int) (n : Int) (by omega) (Int.le_refl _) (by rw [hz2]; omega) (by omega)
  rw [hz1] at this
  simpa [zrowI, show (Value.int .i64 0).cells = #[Value.int .i64 0] from rfl] using this
theorem zrowI_list (n : Nat) : (zrowI n).toList = nums .i64 (List.replicate n 0) := by
  unfold zrowI madeCells nums
  refine List.ext_getElem (by simp) fun i h1 h2 => ?_
  simp [Nat.mod_one]
theorem owni_made (w : World) (n : Nat) (h : n ≤ 100000) : (w.alloc (.cells (zrowI n) 3)).ownsRow w.heap.size 3 1 (.slice (some ⟨w.heap.size, 0, none⟩) n n) n (nums .i64 (List.replicate n 0)) := by
  have := World.ownsRow_lit (e := 3) (size := 1) w (zrowI n) n (Nat.le_refl _) (by unfold maxLen; omega) (size_madeCells _ _)
  rwa [zrowI_list] at this
end Go.Proofs.Ytfgjiaakoacomaa
