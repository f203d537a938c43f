/- The statements' small helpers on bytes: copies, comparisons. -/
import Derived.Test.YtfgjiaakoacomaaRows
import Derived.Test.YtfgjiaakoacomaaBase
namespace Go.Proofs.Ytfgjiaakoacomaa
set_option maxRecDepth 20000
open Go.RowKit

theorem info_u8 : (Try.prog.info? 5).map (fun i => (i.zero, i.size, i.bytes)) = some (some (.int .u8 0), 1, 1) := by kernel_rfl

theorem nums_take (k : IntKind) (l : List Int) (i : Nat) (h : i < l.length) : nums k (l.take i) ++ [.int k (l.getD i 0)] = nums k (l.take (i + 1)) := by
  unfold nums
  rw [List.take_succ_eq_append_getElem h, List.map_append]
  simp [List.getD, h]

theorem own_nums {w : World} {base : Nat} {e : TypeId} {A : Option Addr} {n c : Nat} {k : IntKind} {l : List Int} (h : w.ownsRow base e 1 (.slice A n c) n (nums k l)) : n = l.length := by
  have := h.1
  simpa [nums] using this.symm
theorem own_nums' {w : World} {base : Nat} {e : TypeId} {A : Option Addr} {n c : Nat} {k : IntKind} {l : List Int} (h : w.ownsRow base e 1 (.slice A n c) n (nums k l)) : w.ownsRow base e 1 (.slice A l.length c) l.length (nums k l) := by
  have := own_nums h
  subst this
  exact h
theorem one_int (k : IntKind) (x : Int) : ∀ u ∈ [Value.int k x], u.oneCell' = true := by simp [Value.oneCell']

theorem getD_of_take {l m : List Int} {k : Nat} (hl : l.take k = m.take k) (h1 : k < l.length) (h2 : k < m.length) (hx : l.getD k 0 = m.getD k 0) : l.take (k + 1) = m.take (k + 1) := by
  rw [List.take_succ_eq_append_getElem h1, List.take_succ_eq_append_getElem h2, hl]
  simp [List.getD, h1, h2] at hx
  rw [hx]
theorem ne_of_getD {l m : List Int} {k : Nat} (hx : ¬ l.getD k 0 = m.getD k 0) : (l == m) = false := by
  rw [beq_eq_false_iff_ne]; rintro rfl; exact hx rfl
theorem Reads.drewN_iff {w : World} {B size n : Nat} {A : Option Addr} {xs : List Value} (k : Nat) : Reads (w.drewN k) B size A n xs ↔ Reads w B size A n xs := Iff.rfl

/-- What EqBytes comes to: the same bytes? Memory is only read. -/
def QuietBool (b : Bool) (w : World) (e : Ending) (w' : World) : Prop := e = .returned (.bool b) ∧ ∃ q, w' = w.drewN q

/-- The first cell of a row of the call's own. -/
theorem own_first {w : World} {base : Nat} {e : TypeId} {A : Option Addr} {n c : Nat} {k : IntKind} {x : Int} {l : List Int} (h : w.ownsRow base e 1 (.slice A n c) n (nums k (x :: l))) : ∃ g, A = some ⟨g, 0, none⟩ ∧ base ≤ g ∧ g < w.heap.size ∧ w.cell? ⟨g, 0, none⟩ = some (.int k x) := by
  have hn : n = l.length + 1 := by have := own_nums h; simpa using this
  obtain ⟨g, cap, hv, hb, hlt⟩ := h.form (by omega)
  injection hv with hA
  subst hA
  refine ⟨g, rfl, hb, hlt, ?_⟩
  have := h.cells (g := g) rfl 0 (.int k x) (by simp [nums])
  simpa [Addr.add_lit] using this

end Go.Proofs.Ytfgjiaakoacomaa
