/- What the laws of kinds share: the drawn numbers opened, the cost. -/
import Derived.Test.YtdcilabbjejklaaKindCost
import Derived.Test.YtdcilabbjejklaaOpen
namespace Go.Proofs.Ytdcilabbjejklaa
open Go.RowKit Go.WideShapes Go.ChangeShapes

set_option maxRecDepth 20000 in
theorem open_list {H : Type} {enc : TypeId × Value → H} {w : World} {base : Nat} {v : Value} {d : DataW H} {p : List MemPlace} (hv : Value.okWide Try.prog w .any base 22 v)
    (ht : DataW.Trod enc Try.prog w 0 (fun _ => true) true 22 v d p) :
    ∃ (A : Option Addr) (n c : Nat) (l : List Int), v = .slice A n c ∧ n ≤ c ∧ c ≤ maxLen ∧ Reads w w.heap.size 1 A n (nums .i64 l) ∧ l.length = n ∧ ∀ z : Int, z ∈ l → -9223372036854775808 ≤ z ∧ z ≤ 9223372036854775807 := by
  obtain ⟨A, n, c, rfl⟩ := okWide_slice Try.underlying22 hv
  obtain ⟨fuel, hf⟩ := ht
  obtain ⟨A1, n1, c1, l, he, hl, hm, hr, hw⟩ := open_nums Try.underlying22 Try.underlying3 (by kernel_rfl) hf
  simp [Value.cells] at he
  obtain ⟨rfl, rfl, rfl⟩ := he
  exact ⟨A, n, c, l, rfl, hl, hm, hr, by have := hr.1; simpa [nums] using this, fun z hz => i64_of_wf (hw z hz)⟩

theorem wakes_kind (w : World) : Calls Try.prog 21 #[] w fun e w' => e = .returned (.bool true) ∧ Below w.heap.size w w' := by
  go_enter Try.func21, Try.ntmps21
  go_wp2_with fail
  refine (kind_cost_yes 2 4 _ (by decide) (by decide) (by decide) (by decide)).mono ?_
  rintro e w1 ⟨rfl, hb⟩
  rw [show price 2 4 = 2 from rfl]
  go_wp2_with (go_at_call 17; go_in)
  go_ret
  exact ⟨rfl, hb⟩
theorem num_kind (k : Int) (w : World) : Calls Try.prog 17 #[.int .i64 k] w fun e w' => e = .returned (.int .i64 k) ∧ w = w' := by
  go_enter Try.func17, Try.ntmps17
  go_wp2
  go_ret
  exact ⟨rfl, rfl⟩
end Go.Proofs.Ytdcilabbjejklaa
