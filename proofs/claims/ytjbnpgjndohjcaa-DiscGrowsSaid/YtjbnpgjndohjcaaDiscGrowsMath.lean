/- A greater disc meets more, and is free in fewer places. Plain mathematics. -/
import Derived.Test.YtjbnpgjndohjcaaBuildMathM
namespace Go.Proofs.Ytjbnpgjndohjcaa
set_option maxRecDepth 20000

section
variable {W H t x y a b : Int} {n : Nat} {f : Nat → Bool}
theorem hits_mono (hab : a ≤ b) (h : hitsB W t x y a = true) : hitsB W t x y b = true := by
  unfold hitsB vwithin at *
  rw [decide_eq_true_eq] at *
  obtain ⟨h0, h1⟩ := h
  refine ⟨by omega, Int.lt_of_lt_of_le h1 (Int.mul_le_mul hab hab (by omega) (by omega))⟩
theorem hits_zero : hitsB W t x y 0 = false := by
  unfold hitsB vwithin
  exact decide_eq_false fun h => absurd h.1 (by omega)
theorem free_mono (hab : a ≤ b) (h : freeB W H n f x y b = true) : freeB W H n f x y a = true := by
  rw [free_iff] at *
  obtain ⟨⟨h1, h2, h3, h4⟩, h5⟩ := h
  refine ⟨⟨by omega, by omega, by omega, by omega⟩, fun u hu hf => ?_⟩
  cases hh : hitsB W (u : Int) x y a with
  | false => rfl
  | true =>
    have := h5 u hu hf
    rw [hits_mono hab hh] at this
    cases this
/-- What 'disc.Meets' gives of two discs, and of none. -/
theorem meet_grow {l : List Int} (hab : a ≤ b) (ha : formB x y a = true) (hb : formB x y b = true) :
    ∃ (A B : Bool) (c : Int), meetR W H t x y a l = (A, c) ∧ meetR W H t x y b l = (B, c) ∧ meetR W H t x y 0 l = (false, c) ∧ (A = true → B = true) := by
  have h0 : formB x y 0 = true := by
    obtain ⟨_, _, k1, k2, k3, k4⟩ := formB_is ha
    unfold formB placeB
    rw [Bool.and_eq_true, decide_eq_true_eq, decide_eq_true_eq]
    omega
  unfold meetR
  by_cases hg : isG W H l = true
  · rw [if_pos (show isG W H l = true ∧ formB x y a = true from ⟨hg, ha⟩), if_pos (show isG W H l = true ∧ formB x y b = true from ⟨hg, hb⟩), if_pos (show isG W H l = true ∧ formB x y 0 = true from ⟨hg, h0⟩)]
    by_cases ht : tileB W H t = true
    · simp only [if_pos ht]
      exact ⟨_, _, 0, rfl, rfl, by rw [hits_zero], fun h => hits_mono hab h⟩
    · simp only [if_neg ht]
      exact ⟨false, false, 3, rfl, rfl, rfl, id⟩
  · rw [if_neg (show ¬ (isG W H l = true ∧ formB x y a = true) from fun h => hg h.1), if_neg (show ¬ (isG W H l = true ∧ formB x y b = true) from fun h => hg h.1), if_neg (show ¬ (isG W H l = true ∧ formB x y 0 = true) from fun h => hg h.1)]
    exact ⟨false, false, 1, rfl, rfl, rfl, id⟩
end
end Go.Proofs.Ytjbnpgjndohjcaa
