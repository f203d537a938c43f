/- fnv.Sum and the page's own Sum: both are the fold of one step over the bytes. -/
import Derived.Test.YtdcilabbjejklaaRows
import Derived.Test.YtdcilabbjejklaaBase
import Derived.Lib.SlBytesConst
namespace Go.Proofs.Ytdcilabbjejklaa
set_option maxRecDepth 20000
open Go.RowKit

def fstep (s c : Int) : Int := IntKind.u64.wrap (bits .xor .u64 s c * 1099511628211)
def fsum (s : Int) (l : List Int) : Int := l.foldl fstep s

theorem fsum_take (s : Int) (l : List Int) (k : Nat) (h : k < l.length) : fsum s (l.take (k + 1)) = fstep (fsum s (l.take k)) (l.getD k 0) := by
  unfold fsum
  rw [List.take_succ_eq_append_getElem h, List.foldl_append]
  simp [List.getD, h]

set_option maxHeartbeats 400000 in
theorem fnv_sum (s : Int) (A : Option Addr) (n c B : Nat) (l : List Int) (w : World) (hr : Reads w B 1 A n (nums .u8 l)) (hl : IsBytes l) (hn : n ≤ maxLen) :
    Calls Try.prog 70 #[.int .u64 s, .slice A n c] w fun e w' => e = .returned (.int .u64 (fsum s l)) ∧ w = w' := by
  unfold maxLen at hn
  go_enter Try.func70, Try.ntmps70
  go_wp2
  go_loop [0, 9] (fun t i => ∃ k : Nat, k ≤ n ∧ i = .int .i64 k ∧ t = .int .u64 (fsum s (l.take k))) (fun _ i => n - (intOf i).toNat)
  case atStart => exact ⟨0, Nat.zero_le _, rfl, rfl⟩
  case round =>
    obtain ⟨k, hk, rfl, rfl⟩ := hrel
    by_cases hlt : k < n
    · obtain ⟨hll, b, o, rfl, hb, hc⟩ := hr.num hlt
      have hx := hl.at_ k
      have H := Lib.hid (fsum_take s l k (by omega))
      clear hll
      generalize l.getD k 0 = x at *
      go_wp2
      go_round
      case rel => exact ⟨k + 1, by omega, by go_num, ret_val (by rw [H.out]; rfl)⟩
      case measure => simp [intOf]; omega
    · obtain rfl : k = n := by omega
      have hll : l.length = k := by have := hr.1; simpa [nums] using this
      go_wp2
      go_ret
      exact ⟨ret_int (by rw [List.take_of_length_le (by omega)]), rfl⟩

set_option maxHeartbeats 400000 in
theorem ref_sum (s : Int) (A : Option Addr) (n c B : Nat) (l : List Int) (w : World) (hr : Reads w B 1 A n (nums .u8 l)) (hl : IsBytes l) (hn : n ≤ maxLen) :
    Calls Try.prog 64 #[.int .u64 s, .slice A n c] w fun e w' => e = .returned (.int .u64 (fsum s l)) ∧ w = w' := by
  unfold maxLen at hn
  go_enter Try.func64, Try.ntmps64
  go_wp2
  go_loop [0, 5] (fun t i => ∃ k : Nat, k ≤ n ∧ i = .int .i64 k ∧ t = .int .u64 (fsum s (l.take k))) (fun _ i => n - (intOf i).toNat)
  case atStart => exact ⟨0, Nat.zero_le _, rfl, rfl⟩
  case round =>
    obtain ⟨k, hk, rfl, rfl⟩ := hrel
    by_cases hlt : k < n
    · obtain ⟨hll, b, o, rfl, hb, hc⟩ := hr.num hlt
      have hx := hl.at_ k
      have H := Lib.hid (fsum_take s l k (by omega))
      clear hll
      generalize l.getD k 0 = x at *
      go_wp2
      go_round
      case rel => exact ⟨k + 1, by omega, by go_num, ret_val (by rw [H.out]; rfl)⟩
      case measure => simp [intOf]; omega
    · obtain rfl : k = n := by omega
      have hll : l.length = k := by have := hr.1; simpa [nums] using this
      go_wp2
      go_ret
      exact ⟨ret_int (by rw [List.take_of_length_le (by omega)]), rfl⟩

theorem wakes_sum : (fsum 14695981039346656037 [97] == 12638187200555641996) = true := by decide +kernel

end Go.Proofs.Ytdcilabbjejklaa
