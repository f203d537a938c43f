/- The statements' copy of numbers. -/
import Derived.Test.YtneigplmgellcaaNumbers
namespace Go.Proofs.Ytneigplmgellcaa
set_option maxRecDepth 20000
open Go.RowKit

set_option maxHeartbeats 400000 in
theorem copy_nums (A : Option Addr) (n c B : Nat) (l : List Int) (w : World) (hr : Reads w B 1 A n (nums .i64 l)) (hB : B ≤ w.heap.size) (hn : n ≤ 1048576) :
    Calls Try.prog 28 #[.slice A n c] w fun e w' => ∃ A' c', e = .returned (.slice A' n c') ∧ w'.ownsRow w.heap.size 3 1 (.slice A' n c') n (nums .i64 l) ∧ Below w.heap.size w w' := by
  obtain ⟨i0, hi0, hz0, hz1, hz2⟩ := info_parts info_int
  have hr := hr.more hB
  clear hB
  go_enter Try.func28, Try.ntmps28
  go_wp2
  go_loopw [3, 4] (fun v i wr => ∃ (k : Nat) (A' : Option Addr) (c' : Nat), k ≤ n ∧ i = .int .i64 k ∧ v = .slice A' k c' ∧ wr.ownsRow w.heap.size 3 1 (.slice A' k c') k (nums .i64 (l.take k)) ∧ Below w.heap.size w wr) (fun _ i _ => n - (intOf i).toNat)
  case atStart => exact ⟨0, none, 0, Nat.zero_le _, rfl, rfl, World.ownsRow_nil _ _ _ _, Below.refl _ _⟩
  case round =>
    obtain ⟨k, A', c', hk, rfl, rfl, hown, hbl⟩ := hrel
    by_cases hlt : k < n
    · have hr' := hr.below hbl
      obtain ⟨hll, b, o, rfl, hb, hc⟩ := hr'.num hlt
      have H := Lib.hid (nums_take .i64 l k (by omega))
      clear hll
      generalize l.getD k 0 = x at *
      go_wp2_with (at_builtin; go_loud (refine wpList_push wr _ rfl _ _ _ rfl w.heap.size 3 i0 _ 1 8 Try.underlying24 hi0 hz0 hz1 hz2 rfl (by omega) _ _ _ rfl hown [.int .i64 x] rfl rfl rfl (by simp [Value.oneCell']) (by unfold maxLen; omega) (by omega) hbl.size ?_); intro A2 c2 w2 hown2 hb2)
      go_roundw
      case rel => exact ⟨k + 1, A2, c2, by omega, by go_num, rfl, by rw [H.out] at hown2; exact hown2, hbl.trans hb2⟩
      case measure => simp [intOf]; omega
    · obtain rfl : k = n := by omega
      have hll : l.length = k := by have := hr.1; simpa [nums] using this
      go_wp2
      go_ret
      exact ⟨A', c', rfl, by rw [List.take_of_length_le (by omega)] at hown; exact hown, hbl⟩

end Go.Proofs.Ytneigplmgellcaa
