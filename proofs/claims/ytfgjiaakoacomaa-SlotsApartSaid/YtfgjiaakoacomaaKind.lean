/- Kinds: what they have, what tiles cost; the page's own. -/
import Derived.Test.YtfgjiaakoacomaaRows
import Derived.Test.YtfgjiaakoacomaaBase
namespace Go.Proofs.Ytfgjiaakoacomaa
set_option maxRecDepth 20000
open Go.RowKit

/-- What units of kind k have. -/
def kv (a b c d e : Int) : Value := .agg #[.int .i64 a, .int .i64 b, .int .i64 c, .int .i64 d, .int .i64 e]
def kindV (k : Int) : Value :=
  if k = 0 then kv 24576 16384 0 0 0 else if k = 1 then kv 32768 24576 1 0 0 else if k = 2 then kv 81920 8192 0 1 0 else if k = 3 then kv 32768 16384 2 0 4 else kv 0 0 0 0 0
def price (c t : Int) : Int :=
  ([[2, 1, 3, 5, 0, 0], [2, 1, 6, 0, 0, 0], [2, 1, 0, 3, 2, 0]].getD c.toNat []).getD t.toNat 0

theorem below_one (w : World) (o : Obj) : Below w.heap.size w (w.alloc o) := (Below.refl _ _).alloc (Nat.le_refl _) _

theorem kind_class (k : Int) (w : World) : Calls Try.prog 58 #[.int .i64 k] w fun e w' => e = .returned (.bool (decide (0 ≤ k ∧ k ≤ 2))) ∧ w = w' := by
  by_cases h0 : 0 ≤ k
  · by_cases h1 : k ≤ 2
    · have h : decide (0 ≤ k ∧ k ≤ 2) = true := decide_eq_true ⟨h0, h1⟩
      rw [h]
      clear h
      go_enter Try.func58, Try.ntmps58
      go_wp2
      go_ret
      exact ⟨rfl, rfl⟩
    · have h : decide (0 ≤ k ∧ k ≤ 2) = false := decide_eq_false fun h => h1 h.2
      rw [h]
      clear h
      go_enter Try.func58, Try.ntmps58
      go_wp2
      go_ret
      exact ⟨rfl, rfl⟩
  · have h : decide (0 ≤ k ∧ k ≤ 2) = false := decide_eq_false fun h => h0 h.1
    rw [h]
    clear h
    go_enter Try.func58, Try.ntmps58
    go_wp2
    go_ret
    exact ⟨rfl, rfl⟩

theorem ref_class (k : Int) (w : World) : Calls Try.prog 39 #[.int .i64 k] w fun e w' => e = .returned (.bool (decide (0 ≤ k ∧ k ≤ 2))) ∧ w = w' := by
  by_cases h0 : 0 ≤ k
  · by_cases h1 : k ≤ 2
    · have h : decide (0 ≤ k ∧ k ≤ 2) = true := decide_eq_true ⟨h0, h1⟩
      rw [h]
      clear h
      go_enter Try.func39, Try.ntmps39
      go_wp2
      go_ret
      exact ⟨rfl, rfl⟩
    · have h : decide (0 ≤ k ∧ k ≤ 2) = false := decide_eq_false fun h => h1 h.2
      rw [h]
      clear h
      go_enter Try.func39, Try.ntmps39
      go_wp2
      go_ret
      exact ⟨rfl, rfl⟩
  · have h : decide (0 ≤ k ∧ k ≤ 2) = false := decide_eq_false fun h => h0 h.1
    rw [h]
    clear h
    go_enter Try.func39, Try.ntmps39
    go_wp2
    go_ret
    exact ⟨rfl, rfl⟩

/-- What 'kind.Of' hands back, whatever k is. -/
def okInt (k : Int) : Int := if 0 ≤ k ∧ k < 4 then 0 else 1
end Go.Proofs.Ytfgjiaakoacomaa
