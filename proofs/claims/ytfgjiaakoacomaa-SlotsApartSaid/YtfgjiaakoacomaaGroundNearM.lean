/- Which tiles stand beside one: ground's answer and the page's. -/
import Derived.Test.YtfgjiaakoacomaaGround
import Derived.Test.YtfgjiaakoacomaaNumbers
import Derived.Deep.QuietTactic
namespace Go.Proofs.Ytfgjiaakoacomaa
set_option maxRecDepth 20000
open Go.RowKit

/-- Is there a place? -/
def onB (W H x y : Int) : Bool := decide (0 ≤ x ∧ x < W ∧ 0 ≤ y ∧ y < H)
def wayX (i : Nat) : Int := [0, 1, 0, -1, 1, 1, -1, -1].getD i 0
def wayY (i : Nat) : Int := [-1, 0, 1, 0, -1, 1, 1, -1].getD i 0
/-- The tile beside one, in direction i. -/
def nearI (W H t : Int) (i : Nat) : Int := if onB W H (t % W + wayX i) (t / W + wayY i) then t % W + wayX i + W * (t / W + wayY i) else -1
def nearL (W H t : Int) : List Int := [nearI W H t 0, nearI W H t 1, nearI W H t 2, nearI W H t 3, nearI W H t 4, nearI W H t 5, nearI W H t 6, nearI W H t 7]

set_option maxHeartbeats 800000 in
theorem ground_on (W H x y : Int) (A : Option Addr) (n c : Nat) (w : World) :
    Calls Try.prog 76 #[.agg #[.int .i64 W, .int .i64 H, .slice A n c], .int .i64 x, .int .i64 y] w fun e w' => e = .returned (.bool (onB W H x y)) ∧ Below w.heap.size w w' := by
  by_cases h1 : 0 ≤ x
  · have d1 : decide (0 ≤ x) = true := decide_eq_true h1
    by_cases h2 : x < W
    · have d2 : decide (x < W) = true := decide_eq_true h2
      by_cases h3 : 0 ≤ y
      · have d3 : decide (0 ≤ y) = true := decide_eq_true h3
        by_cases h4 : y < H
        · have HR : Hid (onB W H x y = true) := decide_eq_true ⟨h1, h2, h3, h4⟩
          have d4 : decide (y < H) = true := decide_eq_true h4
          clear h1 h2 h3 h4
          go_enter Try.func76, Try.ntmps76
          go_wp2
          go_ret
          exact ⟨by rw [HR.out]; rfl, (Below.refl _ _).alloc (Nat.le_refl _) _⟩
        · have HR : Hid (onB W H x y = false) := decide_eq_false (fun h => h4 h.2.2.2)
          have d4 : decide (y < H) = false := decide_eq_false h4
          clear h1 h2 h3 h4
          go_enter Try.func76, Try.ntmps76
          go_wp2
          go_ret
          exact ⟨by rw [HR.out]; rfl, (Below.refl _ _).alloc (Nat.le_refl _) _⟩
      · have HR : Hid (onB W H x y = false) := decide_eq_false (fun h => h3 h.2.2.1)
        have d3 : decide (0 ≤ y) = false := decide_eq_false h3
        clear h1 h2 h3
        go_enter Try.func76, Try.ntmps76
        go_wp2
        go_ret
        exact ⟨by rw [HR.out]; rfl, (Below.refl _ _).alloc (Nat.le_refl _) _⟩
    · have HR : Hid (onB W H x y = false) := decide_eq_false (fun h => h2 h.2.1)
      have d2 : decide (x < W) = false := decide_eq_false h2
      clear h1 h2
      go_enter Try.func76, Try.ntmps76
      go_wp2
      go_ret
      exact ⟨by rw [HR.out]; rfl, (Below.refl _ _).alloc (Nat.le_refl _) _⟩
  · have HR : Hid (onB W H x y = false) := decide_eq_false (fun h => h1 h.1)
    have d1 : decide (0 ≤ x) = false := decide_eq_false h1
    clear h1
    go_enter Try.func76, Try.ntmps76
    go_wp2
    go_ret
    exact ⟨by rw [HR.out]; rfl, (Below.refl _ _).alloc (Nat.le_refl _) _⟩

def waysV : Array Value := #[.int .i64 0, .int .i64 (-1), .int .i64 1, .int .i64 0, .int .i64 0, .int .i64 1, .int .i64 (-1), .int .i64 0, .int .i64 1, .int .i64 (-1), .int .i64 1, .int .i64 1, .int .i64 (-1), .int .i64 1, .int .i64 (-1), .int .i64 (-1)]
theorem way_range (k : Nat) : -1 ≤ wayX k ∧ wayX k ≤ 1 ∧ -1 ≤ wayY k ∧ wayY k ≤ 1 := by
  by_cases hk : k < 8
  · match k, hk with
    | 0, _ => decide
    | 1, _ => decide
    | 2, _ => decide
    | 3, _ => decide
    | 4, _ => decide
    | 5, _ => decide
    | 6, _ => decide
    | 7, _ => decide
  · have h1 : wayX k = 0 := by unfold wayX; rw [List.getD_eq_getElem?_getD, List.getElem?_eq_none (by simp; omega)]; rfl
    have h2 : wayY k = 0 := by unfold wayY; rw [List.getD_eq_getElem?_getD, List.getElem?_eq_none (by simp; omega)]; rfl
    omega

end Go.Proofs.Ytfgjiaakoacomaa
namespace Go.Proofs.Ytfgjiaakoacomaa
set_option maxRecDepth 20000
open Go.RowKit

end Go.Proofs.Ytfgjiaakoacomaa
