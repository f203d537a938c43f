/- Kinds: what they have, what tiles cost; the page's own. -/
import Derived.Test.YtdcilabbjejklaaRows
import Derived.Test.YtdcilabbjejklaaBase
namespace Go.Proofs.Ytdcilabbjejklaa
open Go.RowKit

/-- What units of kind k have. -/
def kv (a b c d e : Int) : Value := .agg #[.int .i64 a, .int .i64 b, .int .i64 c, .int .i64 d, .int .i64 e]
def kindV (k : Int) : Value :=
  if k = 0 then kv 24576 16384 0 0 0 else if k = 1 then kv 32768 24576 1 0 0 else if k = 2 then kv 81920 8192 0 1 0 else if k = 3 then kv 32768 16384 2 0 4 else kv 0 0 0 0 0
def price (c t : Int) : Int :=
  ([[2, 1, 3, 5, 0, 0], [2, 1, 6, 0, 0, 0], [2, 1, 0, 3, 2, 0]].getD c.toNat []).getD t.toNat 0

theorem below_one (w : World) (o : Obj) : Below w.heap.size w (w.alloc o) := (Below.refl _ _).alloc (Nat.le_refl _) _

theorem kind_may (k : Int) (w : World) : Calls Try.prog 51 #[.int .i64 k] w fun e w' => e = .returned (.bool (decide (0 ≤ k ∧ k < 4))) ∧ w = w' := by
  by_cases h0 : 0 ≤ k
  · by_cases h1 : k < 4
    · have h : decide (0 ≤ k ∧ k < 4) = true := decide_eq_true ⟨h0, h1⟩
      rw [h]
      clear h
      go_enter Try.func51, Try.ntmps51
      go_wp2
      go_ret
      exact ⟨rfl, rfl⟩
    · have h : decide (0 ≤ k ∧ k < 4) = false := decide_eq_false fun h => h1 h.2
      rw [h]
      clear h
      go_enter Try.func51, Try.ntmps51
      go_wp2
      go_ret
      exact ⟨rfl, rfl⟩
  · have h : decide (0 ≤ k ∧ k < 4) = false := decide_eq_false fun h => h0 h.1
    rw [h]
    clear h
    go_enter Try.func51, Try.ntmps51
    go_wp2
    go_ret
    exact ⟨rfl, rfl⟩

theorem kind_class (k : Int) (w : World) : Calls Try.prog 53 #[.int .i64 k] w fun e w' => e = .returned (.bool (decide (0 ≤ k ∧ k ≤ 2))) ∧ w = w' := by
  by_cases h0 : 0 ≤ k
  · by_cases h1 : k ≤ 2
    · have h : decide (0 ≤ k ∧ k ≤ 2) = true := decide_eq_true ⟨h0, h1⟩
      rw [h]
      clear h
      go_enter Try.func53, Try.ntmps53
      go_wp2
      go_ret
      exact ⟨rfl, rfl⟩
    · have h : decide (0 ≤ k ∧ k ≤ 2) = false := decide_eq_false fun h => h1 h.2
      rw [h]
      clear h
      go_enter Try.func53, Try.ntmps53
      go_wp2
      go_ret
      exact ⟨rfl, rfl⟩
  · have h : decide (0 ≤ k ∧ k ≤ 2) = false := decide_eq_false fun h => h0 h.1
    rw [h]
    clear h
    go_enter Try.func53, Try.ntmps53
    go_wp2
    go_ret
    exact ⟨rfl, rfl⟩

theorem ref_class (k : Int) (w : World) : Calls Try.prog 19 #[.int .i64 k] w fun e w' => e = .returned (.bool (decide (0 ≤ k ∧ k ≤ 2))) ∧ w = w' := by
  by_cases h0 : 0 ≤ k
  · by_cases h1 : k ≤ 2
    · have h : decide (0 ≤ k ∧ k ≤ 2) = true := decide_eq_true ⟨h0, h1⟩
      rw [h]
      clear h
      go_enter Try.func19, Try.ntmps19
      go_wp2
      go_ret
      exact ⟨rfl, rfl⟩
    · have h : decide (0 ≤ k ∧ k ≤ 2) = false := decide_eq_false fun h => h1 h.2
      rw [h]
      clear h
      go_enter Try.func19, Try.ntmps19
      go_wp2
      go_ret
      exact ⟨rfl, rfl⟩
  · have h : decide (0 ≤ k ∧ k ≤ 2) = false := decide_eq_false fun h => h0 h.1
    rw [h]
    clear h
    go_enter Try.func19, Try.ntmps19
    go_wp2
    go_ret
    exact ⟨rfl, rfl⟩

theorem kind_what0 (w : World) : Calls Try.prog 52 #[.int .i64 0] w fun e w' => e = .returned (.agg #[.int .i64 24576, .int .i64 16384, .int .i64 0, .int .i64 0, .int .i64 0]) ∧ Below w.heap.size w w' := by
  go_enter Try.func52, Try.ntmps52
  go_wp2
  exact bodyPost_ret (v := .agg #[.int .i64 24576, .int .i64 16384, .int .i64 0, .int .i64 0, .int .i64 0]) (by simp [results, Try.results52, go_sem]) rfl ⟨rfl, below_one _ _⟩

theorem kind_what1 (w : World) : Calls Try.prog 52 #[.int .i64 1] w fun e w' => e = .returned (.agg #[.int .i64 32768, .int .i64 24576, .int .i64 1, .int .i64 0, .int .i64 0]) ∧ Below w.heap.size w w' := by
  go_enter Try.func52, Try.ntmps52
  go_wp2
  exact bodyPost_ret (v := .agg #[.int .i64 32768, .int .i64 24576, .int .i64 1, .int .i64 0, .int .i64 0]) (by simp [results, Try.results52, go_sem]) rfl ⟨rfl, below_one _ _⟩

theorem kind_what2 (w : World) : Calls Try.prog 52 #[.int .i64 2] w fun e w' => e = .returned (.agg #[.int .i64 81920, .int .i64 8192, .int .i64 0, .int .i64 1, .int .i64 0]) ∧ Below w.heap.size w w' := by
  go_enter Try.func52, Try.ntmps52
  go_wp2
  exact bodyPost_ret (v := .agg #[.int .i64 81920, .int .i64 8192, .int .i64 0, .int .i64 1, .int .i64 0]) (by simp [results, Try.results52, go_sem]) rfl ⟨rfl, below_one _ _⟩

theorem kind_what3 (w : World) : Calls Try.prog 52 #[.int .i64 3] w fun e w' => e = .returned (.agg #[.int .i64 32768, .int .i64 16384, .int .i64 2, .int .i64 0, .int .i64 4]) ∧ Below w.heap.size w w' := by
  go_enter Try.func52, Try.ntmps52
  go_wp2
  exact bodyPost_ret (v := .agg #[.int .i64 32768, .int .i64 16384, .int .i64 2, .int .i64 0, .int .i64 4]) (by simp [results, Try.results52, go_sem]) rfl ⟨rfl, below_one _ _⟩

theorem kind_of0 (w : World) : Calls Try.prog 15 #[.int .i64 0] w fun e w' => e = .returned (.tuple #[.agg #[.int .i64 24576, .int .i64 16384, .int .i64 0, .int .i64 0, .int .i64 0], .int .i64 0]) ∧ Below w.heap.size w w' := by
  go_enter Try.func15, Try.ntmps15
  go_wp2_with fail
  refine (kind_may _ _).mono ?_
  rintro e w1 ⟨rfl, rfl⟩
  rw [show decide ((0 : Int) ≤ 0 ∧ (0 : Int) < 4) = true from rfl]
  go_wp2_with (go_at_call 52; go_in)
  refine bodyPost_ret (v := .agg #[.int .i64 24576, .int .i64 16384, .int .i64 0, .int .i64 0, .int .i64 0]) (by simp [results, Try.results52, go_sem]) rfl ?_
  go_wp2
  refine bodyPost_ret (v := .tuple #[.agg #[.int .i64 24576, .int .i64 16384, .int .i64 0, .int .i64 0, .int .i64 0], .int .i64 0]) (by simp [results, Try.results15, go_sem]) rfl ⟨rfl, (below_one _ _).alloc (by simp) _⟩

theorem ref_of0 (w : World) : Calls Try.prog 16 #[.int .i64 0] w fun e w' => e = .returned (.tuple #[.agg #[.int .i64 24576, .int .i64 16384, .int .i64 0, .int .i64 0, .int .i64 0], .bool true]) ∧ Below w.heap.size w w' := by
  go_enter Try.func16, Try.ntmps16
  go_wp2
  exact bodyPost_ret (v := .tuple #[.agg #[.int .i64 24576, .int .i64 16384, .int .i64 0, .int .i64 0, .int .i64 0], .bool true]) (by simp [results, Try.results16, go_sem]) rfl ⟨rfl, below_one _ _⟩

theorem kind_of1 (w : World) : Calls Try.prog 15 #[.int .i64 1] w fun e w' => e = .returned (.tuple #[.agg #[.int .i64 32768, .int .i64 24576, .int .i64 1, .int .i64 0, .int .i64 0], .int .i64 0]) ∧ Below w.heap.size w w' := by
  go_enter Try.func15, Try.ntmps15
  go_wp2_with fail
  refine (kind_may _ _).mono ?_
  rintro e w1 ⟨rfl, rfl⟩
  rw [show decide ((0 : Int) ≤ 1 ∧ (1 : Int) < 4) = true from rfl]
  go_wp2_with (go_at_call 52; go_in)
  refine bodyPost_ret (v := .agg #[.int .i64 32768, .int .i64 24576, .int .i64 1, .int .i64 0, .int .i64 0]) (by simp [results, Try.results52, go_sem]) rfl ?_
  go_wp2
  refine bodyPost_ret (v := .tuple #[.agg #[.int .i64 32768, .int .i64 24576, .int .i64 1, .int .i64 0, .int .i64 0], .int .i64 0]) (by simp [results, Try.results15, go_sem]) rfl ⟨rfl, (below_one _ _).alloc (by simp) _⟩

theorem ref_of1 (w : World) : Calls Try.prog 16 #[.int .i64 1] w fun e w' => e = .returned (.tuple #[.agg #[.int .i64 32768, .int .i64 24576, .int .i64 1, .int .i64 0, .int .i64 0], .bool true]) ∧ Below w.heap.size w w' := by
  go_enter Try.func16, Try.ntmps16
  go_wp2
  exact bodyPost_ret (v := .tuple #[.agg #[.int .i64 32768, .int .i64 24576, .int .i64 1, .int .i64 0, .int .i64 0], .bool true]) (by simp [results, Try.results16, go_sem]) rfl ⟨rfl, below_one _ _⟩

theorem kind_of2 (w : World) : Calls Try.prog 15 #[.int .i64 2] w fun e w' => e = .returned (.tuple #[.agg #[.int .i64 81920, .int .i64 8192, .int .i64 0, .int .i64 1, .int .i64 0], .int .i64 0]) ∧ Below w.heap.size w w' := by
  go_enter Try.func15, Try.ntmps15
  go_wp2_with fail
  refine (kind_may _ _).mono ?_
  rintro e w1 ⟨rfl, rfl⟩
  rw [show decide ((0 : Int) ≤ 2 ∧ (2 : Int) < 4) = true from rfl]
  go_wp2_with (go_at_call 52; go_in)
  refine bodyPost_ret (v := .agg #[.int .i64 81920, .int .i64 8192, .int .i64 0, .int .i64 1, .int .i64 0]) (by simp [results, Try.results52, go_sem]) rfl ?_
  go_wp2
  refine bodyPost_ret (v := .tuple #[.agg #[.int .i64 81920, .int .i64 8192, .int .i64 0, .int .i64 1, .int .i64 0], .int .i64 0]) (by simp [results, Try.results15, go_sem]) rfl ⟨rfl, (below_one _ _).alloc (by simp) _⟩

theorem ref_of2 (w : World) : Calls Try.prog 16 #[.int .i64 2] w fun e w' => e = .returned (.tuple #[.agg #[.int .i64 81920, .int .i64 8192, .int .i64 0, .int .i64 1, .int .i64 0], .bool true]) ∧ Below w.heap.size w w' := by
  go_enter Try.func16, Try.ntmps16
  go_wp2
  exact bodyPost_ret (v := .tuple #[.agg #[.int .i64 81920, .int .i64 8192, .int .i64 0, .int .i64 1, .int .i64 0], .bool true]) (by simp [results, Try.results16, go_sem]) rfl ⟨rfl, below_one _ _⟩

theorem kind_of3 (w : World) : Calls Try.prog 15 #[.int .i64 3] w fun e w' => e = .returned (.tuple #[.agg #[.int .i64 32768, .int .i64 16384, .int .i64 2, .int .i64 0, .int .i64 4], .int .i64 0]) ∧ Below w.heap.size w w' := by
  go_enter Try.func15, Try.ntmps15
  go_wp2_with fail
  refine (kind_may _ _).mono ?_
  rintro e w1 ⟨rfl, rfl⟩
  rw [show decide ((0 : Int) ≤ 3 ∧ (3 : Int) < 4) = true from rfl]
  go_wp2_with (go_at_call 52; go_in)
  refine bodyPost_ret (v := .agg #[.int .i64 32768, .int .i64 16384, .int .i64 2, .int .i64 0, .int .i64 4]) (by simp [results, Try.results52, go_sem]) rfl ?_
  go_wp2
  refine bodyPost_ret (v := .tuple #[.agg #[.int .i64 32768, .int .i64 16384, .int .i64 2, .int .i64 0, .int .i64 4], .int .i64 0]) (by simp [results, Try.results15, go_sem]) rfl ⟨rfl, (below_one _ _).alloc (by simp) _⟩

theorem ref_of3 (w : World) : Calls Try.prog 16 #[.int .i64 3] w fun e w' => e = .returned (.tuple #[.agg #[.int .i64 32768, .int .i64 16384, .int .i64 2, .int .i64 0, .int .i64 4], .bool true]) ∧ Below w.heap.size w w' := by
  go_enter Try.func16, Try.ntmps16
  go_wp2
  exact bodyPost_ret (v := .tuple #[.agg #[.int .i64 32768, .int .i64 16384, .int .i64 2, .int .i64 0, .int .i64 4], .bool true]) (by simp [results, Try.results16, go_sem]) rfl ⟨rfl, below_one _ _⟩

theorem kind_of_no (k : Int) (w : World) (h : ¬ (0 ≤ k ∧ k < 4)) : Calls Try.prog 15 #[.int .i64 k] w fun e w' => e = .returned (.tuple #[.agg #[.int .i64 0, .int .i64 0, .int .i64 0, .int .i64 0, .int .i64 0], .int .i64 1]) ∧ Below w.heap.size w w' := by
  have K := Lib.hid (fun W => kind_may k W)
  rw [decide_eq_false h] at K
  clear h
  go_enter Try.func15, Try.ntmps15
  go_wp2_with fail
  refine (K.out _).mono ?_
  rintro e w1 ⟨rfl, rfl⟩
  go_wp2
  exact bodyPost_ret (v := .tuple #[.agg #[.int .i64 0, .int .i64 0, .int .i64 0, .int .i64 0, .int .i64 0], .int .i64 1]) (by simp [results, Try.results15, go_sem]) rfl ⟨rfl, below_one _ _⟩

theorem ref_of_no (k : Int) (w : World) (h : ¬ (0 ≤ k ∧ k < 4)) : Calls Try.prog 16 #[.int .i64 k] w fun e w' => e = .returned (.tuple #[.agg #[.int .i64 0, .int .i64 0, .int .i64 0, .int .i64 0, .int .i64 0], .bool false]) ∧ Below w.heap.size w w' := by
  have h0 : ¬ k = 0 := by omega
  have h1 : ¬ k = 1 := by omega
  have h2 : ¬ k = 2 := by omega
  have h3 : ¬ k = 3 := by omega
  clear h
  go_enter Try.func16, Try.ntmps16
  go_wp2
  exact bodyPost_ret (v := .tuple #[.agg #[.int .i64 0, .int .i64 0, .int .i64 0, .int .i64 0, .int .i64 0], .bool false]) (by simp [results, Try.results16, go_sem]) rfl ⟨rfl, below_one _ _⟩

/-- What 'kind.Of' hands back, whatever k is. -/
def okInt (k : Int) : Int := if 0 ≤ k ∧ k < 4 then 0 else 1
theorem kind_of (k : Int) (w : World) : Calls Try.prog 15 #[.int .i64 k] w fun e w' => e = .returned (.tuple #[kindV k, .int .i64 (okInt k)]) ∧ Below w.heap.size w w' := by
  by_cases h : 0 ≤ k ∧ k < 4
  · rcases (by omega : k = 0 ∨ k = 1 ∨ k = 2 ∨ k = 3) with rfl | rfl | rfl | rfl
    · exact kind_of0 w
    · exact kind_of1 w
    · exact kind_of2 w
    · exact kind_of3 w
  · have e : kindV k = kv 0 0 0 0 0 := by
      unfold kindV
      rw [if_neg (by omega), if_neg (by omega), if_neg (by omega), if_neg (by omega)]
    unfold okInt
    rw [e, if_neg h]
    exact kind_of_no k w h
theorem ref_of (k : Int) (w : World) : Calls Try.prog 16 #[.int .i64 k] w fun e w' => e = .returned (.tuple #[kindV k, .bool (decide (0 ≤ k ∧ k < 4))]) ∧ Below w.heap.size w w' := by
  by_cases h : 0 ≤ k ∧ k < 4
  · rcases (by omega : k = 0 ∨ k = 1 ∨ k = 2 ∨ k = 3) with rfl | rfl | rfl | rfl
    · exact ref_of0 w
    · exact ref_of1 w
    · exact ref_of2 w
    · exact ref_of3 w
  · have e : kindV k = kv 0 0 0 0 0 := by
      unfold kindV
      rw [if_neg (by omega), if_neg (by omega), if_neg (by omega), if_neg (by omega)]
    rw [e, decide_eq_false h]
    exact ref_of_no k w h

end Go.Proofs.Ytdcilabbjejklaa
