/- A place's box. -/
import Derived.Test.YtpkdkkbmmkhhhaaRows
import Derived.Test.YtpkdkkbmmkhhhaaBase
namespace Go.Proofs.Ytpkdkkbmmkhhhaa
set_option maxRecDepth 20000
set_option maxRecDepth 20000
open Go.RowKit Go.WideShapes Go.ChangeShapes

theorem keepq {wa wb : World} {g : Nat} {a b : Int} (h : wa.cell? ⟨g, 0, none⟩ = some (.int .i64 a) ∧ wa.cell? ⟨g, 1, none⟩ = some (.int .i64 b) ∧ (∀ j, wa.frozen? ⟨g, j, none⟩ = false) ∧ g < wa.heap.size) (hb : Below wa.heap.size wa wb) : wb.cell? ⟨g, 0, none⟩ = some (.int .i64 a) ∧ wb.cell? ⟨g, 1, none⟩ = some (.int .i64 b) ∧ (∀ j, wb.frozen? ⟨g, j, none⟩ = false) ∧ g < wb.heap.size := by
  obtain ⟨h0, h1, h2, h3⟩ := h
  exact ⟨(hb.cell (p := ⟨g, 0, none⟩) h3).trans h0, (hb.cell (p := ⟨g, 1, none⟩) h3).trans h1, fun j => (hb.frozen (p := ⟨g, j, none⟩) h3).trans (h2 j), Nat.lt_of_lt_of_le h3 hb.size⟩
theorem startq (w : World) (t : TypeId) (a b : Int) : (w.alloc (.cells #[.int .i64 a, .int .i64 b] t)).cell? ⟨w.heap.size, 0, none⟩ = some (.int .i64 a) ∧ (w.alloc (.cells #[.int .i64 a, .int .i64 b] t)).cell? ⟨w.heap.size, 1, none⟩ = some (.int .i64 b) ∧ (∀ j, (w.alloc (.cells #[.int .i64 a, .int .i64 b] t)).frozen? ⟨w.heap.size, j, none⟩ = false) ∧ w.heap.size < (w.alloc (.cells #[.int .i64 a, .int .i64 b] t)).heap.size := by
  refine ⟨?_, ?_, fun j => ?_, by simp⟩
  · rw [World.cell?_alloc_at _ _ _ _ rfl]; rfl
  · rw [World.cell?_alloc_at _ _ _ _ rfl]; rfl
  · exact World.frozen?_alloc_at _ _ _ _ rfl
theorem storeq {wa : World} {g : Nat} {x y a b : Int} (h : wa.cell? ⟨g, 0, none⟩ = some (.int .i64 x) ∧ wa.cell? ⟨g, 1, none⟩ = some (.int .i64 y) ∧ (∀ j, wa.frozen? ⟨g, j, none⟩ = false) ∧ g < wa.heap.size) : ((wa.setCell ⟨g, 0, none⟩ (.int .i64 a)).setCell ⟨g, 1, none⟩ (.int .i64 b)).cell? ⟨g, 0, none⟩ = some (.int .i64 a) ∧ ((wa.setCell ⟨g, 0, none⟩ (.int .i64 a)).setCell ⟨g, 1, none⟩ (.int .i64 b)).cell? ⟨g, 1, none⟩ = some (.int .i64 b) ∧ (∀ j, ((wa.setCell ⟨g, 0, none⟩ (.int .i64 a)).setCell ⟨g, 1, none⟩ (.int .i64 b)).frozen? ⟨g, j, none⟩ = false) ∧ g < ((wa.setCell ⟨g, 0, none⟩ (.int .i64 a)).setCell ⟨g, 1, none⟩ (.int .i64 b)).heap.size := by
  obtain ⟨h0, h1, h2, h3⟩ := h
  refine ⟨?_, ?_, fun j => ?_, by simpa using h3⟩
  · rw [World.cell?_setCell_other _ _ _ _ (by simp)]; exact World.cell?_setCell_same _ _ _ h0
  · exact World.cell?_setCell_same _ _ _ (by rw [World.cell?_setCell_other _ _ _ _ (by simp)]; exact h1)
  · rw [World.frozen?_setCell, World.frozen?_setCell]; exact h2 j
theorem otherq {wa : World} {g h : Nat} {x y : Int} {a b : Value} (s : wa.cell? ⟨g, 0, none⟩ = some (.int .i64 x) ∧ wa.cell? ⟨g, 1, none⟩ = some (.int .i64 y) ∧ (∀ j, wa.frozen? ⟨g, j, none⟩ = false) ∧ g < wa.heap.size) (hne : g ≠ h) : ((wa.setCell ⟨h, 0, none⟩ a).setCell ⟨h, 1, none⟩ b).cell? ⟨g, 0, none⟩ = some (.int .i64 x) ∧ ((wa.setCell ⟨h, 0, none⟩ a).setCell ⟨h, 1, none⟩ b).cell? ⟨g, 1, none⟩ = some (.int .i64 y) ∧ (∀ j, ((wa.setCell ⟨h, 0, none⟩ a).setCell ⟨h, 1, none⟩ b).frozen? ⟨g, j, none⟩ = false) ∧ g < ((wa.setCell ⟨h, 0, none⟩ a).setCell ⟨h, 1, none⟩ b).heap.size := by
  obtain ⟨h0, h1, h2, h3⟩ := s
  have e : ∀ i, ((wa.setCell ⟨h, 0, none⟩ a).setCell ⟨h, 1, none⟩ b).cell? ⟨g, i, none⟩ = wa.cell? ⟨g, i, none⟩ := fun i => by
    rw [World.cell?_setCell_other _ _ _ _ (by simp <;> omega), World.cell?_setCell_other _ _ _ _ (by simp <;> omega)]
  exact ⟨(e 0).trans h0, (e 1).trans h1, fun j => by rw [World.frozen?_setCell, World.frozen?_setCell]; exact h2 j, by simpa using h3⟩
/-- A place's box, its cells as they are, behind calls. -/
def BoxQ (g : Nat) (a b : Int) (w : World) : Prop := w.cell? ⟨g, 0, none⟩ = some (.int .i64 a) ∧ w.cell? ⟨g, 1, none⟩ = some (.int .i64 b) ∧ (∀ j, w.frozen? ⟨g, j, none⟩ = false) ∧ g < w.heap.size
theorem BoxQ.next {g : Nat} {a b : Int} {wa wb : World} (h : BoxQ g a b wa) (hb : Below wa.heap.size wa wb) : BoxQ g a b wb := keepq h hb
theorem BoxQ.other {g h : Nat} {x y : Int} {a b : Value} {wa : World} (s : BoxQ g x y wa) (hne : g ≠ h) : BoxQ g x y ((wa.setCell ⟨h, 0, none⟩ a).setCell ⟨h, 1, none⟩ b) := otherq s hne
theorem BoxQ.store {g : Nat} {x y a b : Int} {wa : World} (h : BoxQ g x y wa) : BoxQ g a b ((wa.setCell ⟨g, 0, none⟩ (.int .i64 a)).setCell ⟨g, 1, none⟩ (.int .i64 b)) := storeq h
theorem BoxQ.start (w : World) (a b : Int) : BoxQ w.heap.size a b (w.alloc (.cells #[.int .i64 a, .int .i64 b] 25)) := startq w _ a b
end Go.Proofs.Ytpkdkkbmmkhhhaa
