/- More plain words for memory: rows of the call's own, old cells behind a call. No program is named here. -/
import Derived.Test.YtfgjiaakoacomaaBase
import Derived.Deep.RegionHeld3
namespace Go.Proofs.Ytfgjiaakoacomaa
set_option maxRecDepth 20000
open Go.RowKit

section
variable {w w' : World} {base B : Nat} {e : TypeId} {A : Option Addr} {n c k : Nat} {q : IntKind} {l : List Int}
theorem own_cap {xs : List Value} {size : Nat} (h : w.ownsRow base e size (.slice A n c) n xs) : n ≤ c ∧ c ≤ 9223372036854775807 := by
  obtain ⟨_, _, he, h1, h2⟩ := own_shape h
  injection he with _ _ he
  subst he
  unfold maxLen at h2
  exact ⟨h1, by omega⟩
theorem own_len (h : w.ownsRow base e 1 (.slice A n c) n (nums q l)) : n = l.length := by
  have := h.1
  simpa [nums] using this.symm
theorem own_at (h : w.ownsRow base e 1 (.slice A n c) n (nums q l)) (hk : k < n) :
    ∃ g, A = some ⟨g, 0, none⟩ ∧ base ≤ g ∧ g < w.heap.size ∧ w.cell? ⟨g, k, none⟩ = some (.int q (l.getD k 0)) ∧ w.frozen? ⟨g, k, none⟩ = false := by
  obtain ⟨g, cap, hv, hb, hlt⟩ := h.form (by omega)
  injection hv with hA
  subst hA
  have hl := own_len h
  refine ⟨g, rfl, hb, hlt, ?_, h.frozenAt k⟩
  rw [h.cellAt k (by omega)]
  simp [nums, List.getD, show k < l.length by omega]
theorem own_store {g : Nat} (h : w.ownsRow base e 1 (.slice (some ⟨g, 0, none⟩) n c) n (nums q l)) (x : Int) :
    (w.setCell ⟨g, k, none⟩ (.int q x)).ownsRow base e 1 (.slice (some ⟨g, 0, none⟩) n c) n (nums q (l.set k x)) := by
  have := (h.stored k (.int q x)).1
  unfold nums at this ⊢
  rw [List.map_set]
  exact this
/-- All old cells read as before, and are as free as before. -/
theorem old_cells (hb : Below w.heap.size w w') : (∀ b o, b < w.heap.size → w'.cell? ⟨b, o, none⟩ = w.cell? ⟨b, o, none⟩) ∧ (∀ b o, b < w.heap.size → w'.frozen? ⟨b, o, none⟩ = w.frozen? ⟨b, o, none⟩) :=
  ⟨fun b o h => hb.cell (p := ⟨b, o, none⟩) h, fun b o h => hb.frozen (p := ⟨b, o, none⟩) h⟩
end
/-- A store of what is there already. -/
theorem setCell_back {w : World} {b o : Nat} {v : Value} (h : w.cell? ⟨b, o, none⟩ = some v) : w.setCell ⟨b, o, none⟩ v = w := by
  have hh : (w.setCell ⟨b, o, none⟩ v).heap = w.heap := by
    apply Array.ext_getElem?
    intro i
    by_cases hi : i = b
    · subst hi
      unfold World.cell? at h
      simp only [World.setCell, Array.getElem?_modify, if_true]
      cases ho : w.heap[i]? with
      | none => rfl
      | some obj =>
        cases obj with
        | cells c e f =>
          simp only [ho] at h
          have hc : c.setIfInBounds o v = c := by
            apply Array.ext_getElem?
            intro j
            rw [Array.getElem?_setIfInBounds]
            by_cases hj : o = j
            · subst hj
              rw [if_pos rfl]
              have h2 : c[o]? = some v := by simpa using h
              rw [h2]
              have := (Array.getElem?_eq_some_iff.1 h2).1
              simp [this]
            · rw [if_neg hj]
          simp [hc]
        | _ => rfl
    · rw [Below.heap_setCell _ _ _ _ (by simpa using hi)]
  unfold World.setCell at hh ⊢
  simp only at hh ⊢
  rw [hh]
theorem nums_app (k : IntKind) (l m : List Int) : nums k (l ++ m) = nums k l ++ nums k m := by simp [nums]
end Go.Proofs.Ytfgjiaakoacomaa
