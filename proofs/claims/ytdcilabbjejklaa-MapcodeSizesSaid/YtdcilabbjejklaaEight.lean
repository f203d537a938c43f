/- A sum as eight bytes: the game's and the page's. -/
import Derived.Test.YtdcilabbjejklaaMapMath
import Derived.Test.YtdcilabbjejklaaWire
namespace Go.Proofs.Ytdcilabbjejklaa
set_option maxRecDepth 20000
open Go.RowKit

theorem eightL_pop {x y : Int} {z : List Int} {k : Nat} (h : eight x = z ++ eightL (k + 1) y) : eight x = (z ++ [y % 256]) ++ eightL k (y / 256) := by
  rw [h, List.append_assoc]; rfl

set_option maxHeartbeats 1600000 in
set_option maxRecDepth 20000 in
theorem fnv_eight (x : Int) (w : World) (h0 : 0 ≤ x) (h1 : x ≤ 18446744073709551615) :
    Calls Try.prog 69 #[.int .u64 x] w (GivesBytes w.heap.size w (eight x)) := by
  obtain ⟨i0, hi0, hz0, hz1, hz2⟩ := info_parts info_u8
  go_enter Try.func69, Try.ntmps69
  go_wp2_with fail
  go_loopw [0, 2, 3] (fun s v i wr => ∃ (k : Nat) (y : Int) (A' : Option Addr) (c' : Nat) (z : List Int), k ≤ 8 ∧ 0 ≤ y ∧ y ≤ 18446744073709551615 ∧ s = .int .u64 y ∧ i = .int .i64 (k : Int) ∧ v = .slice A' k c' ∧ wr.ownsRow w.heap.size 5 1 (.slice A' k c') k (nums .u8 z) ∧ Below w.heap.size w wr ∧ Hid (eight x = z ++ eightL (8 - k) y)) (fun _ _ i _ => 8 - (intOf i).toNat)
  case atStart => exact ⟨0, x, none, 0, [], by omega, h0, h1, rfl, rfl, rfl, World.ownsRow_nil _ _ _ _, Below.refl _ _, rfl⟩
  case round =>
    obtain ⟨k, y, A', c', z, hk, hy0, hy1, rfl, rfl, rfl, hown, hbl, HE⟩ := hrel
    by_cases hlt : k < 8
    · have HE' : Hid (eight x = (z ++ [y % 256]) ++ eightL (8 - (k + 1)) (y / 256)) := by
        have := HE.out
        rw [show 8 - k = (8 - (k + 1)) + 1 by omega] at this
        exact eightL_pop this
      clear HE
      have cA : k + 1 ≤ maxLen := by unfold maxLen; omega
      have hs := hbl.size
      go_wp2_with (at_builtin; (refine wpList_push wr _ rfl _ _ _ rfl w.heap.size 5 i0 _ 1 1 Try.underlying37 hi0 hz0 hz1 hz2 rfl Nat.one_pos _ _ _ rfl hown [.int .u8 (IntKind.u8.wrap y)] rfl rfl rfl (one_int _ _) cA (by omega) hs ?_); intro A2 c2 w3 hown2 hb2)
      rw [nums_snoc] at hown2
      go_roundw
      case rel =>
        exact ⟨k + 1, _, A2, c2, z ++ [y % 256], by omega, by omega, by omega, rfl, by go_num, rfl, hown2, hbl.trans hb2, HE'⟩
      case measure => simp [intOf]; omega
    · obtain rfl : k = 8 := by omega
      go_wp2_with fail
      go_ret
      have hz : eight x = z := by rw [HE.out]; simp [eightL]
      rw [hz]
      have hl : z.length = 8 := (own_nums hown).symm
      exact ⟨A', c', by rw [hl]; rfl, by rw [hl]; exact hown, hbl⟩

theorem eightL_at {x : Int} {z : List Int} {k : Nat} (h : eight x = z ++ eightL (8 - k) (x / 256 ^ k)) (hk : k < 8) : eight x = (z ++ [x / 256 ^ k % 256]) ++ eightL (8 - (k + 1)) (x / 256 ^ (k + 1)) := by
  rw [show 8 - k = (8 - (k + 1)) + 1 by omega] at h
  rw [eightL_pop h, Int.ediv_ediv_of_nonneg (Int.le_of_lt (Int.pow_pos (by decide))), Int.pow_succ]

set_option maxHeartbeats 1600000 in
set_option maxRecDepth 20000 in
theorem ref_eight (x : Int) (w : World) (h0 : 0 ≤ x) (h1 : x ≤ 18446744073709551615) :
    Calls Try.prog 63 #[.int .u64 x] w (GivesBytes w.heap.size w (eight x)) := by
  obtain ⟨i0, hi0, hz0, hz1, hz2⟩ := info_parts info_u8
  go_enter Try.func63, Try.ntmps63
  go_wp2_with fail
  go_loopw [3, 4] (fun v i wr => ∃ (k : Nat) (A' : Option Addr) (c' : Nat) (z : List Int), k ≤ 8 ∧ i = .int .i64 (k : Int) ∧ v = .slice A' k c' ∧ wr.ownsRow w.heap.size 5 1 (.slice A' k c') k (nums .u8 z) ∧ Below w.heap.size w wr ∧ Hid (eight x = z ++ eightL (8 - k) (x / 256 ^ k))) (fun _ i _ => 8 - (intOf i).toNat)
  case atStart => exact ⟨0, none, 0, [], by omega, rfl, rfl, World.ownsRow_nil _ _ _ _, Below.refl _ _, by show eight x = _; simp [eight]⟩
  case round =>
    obtain ⟨k, A', c', z, hk, rfl, rfl, hown, hbl, HE⟩ := hrel
    by_cases hlt : k < 8
    · have HE' := Lib.hid (eightL_at HE.out hlt)
      clear HE
      have hs := hbl.size
      obtain rfl | rfl | rfl | rfl | rfl | rfl | rfl | rfl : k = 0 ∨ k = 1 ∨ k = 2 ∨ k = 3 ∨ k = 4 ∨ k = 5 ∨ k = 6 ∨ k = 7 := by omega
      · go_wp2_with (at_builtin; (refine wpList_push wr _ rfl _ _ _ rfl w.heap.size 5 i0 _ 1 1 Try.underlying37 hi0 hz0 hz1 hz2 rfl Nat.one_pos _ _ _ rfl hown [.int .u8 (IntKind.u8.wrap x)] rfl rfl rfl (one_int _ _) (by decide) (by decide) hs ?_); intro A2 c2 w3 hown2 hb2)
        rw [nums_snoc] at hown2
        go_roundw
        case rel => exact ⟨1, A2, c2, z ++ [x % 256], by omega, rfl, rfl, hown2, hbl.trans hb2, by simpa using HE'⟩
        case measure => simp [intOf]
      · go_wp2_with (at_builtin; (refine wpList_push wr _ rfl _ _ _ rfl w.heap.size 5 i0 _ 1 1 Try.underlying37 hi0 hz0 hz1 hz2 rfl Nat.one_pos _ _ _ rfl hown [.int .u8 (IntKind.u8.wrap (x / 256 ^ 1))] rfl rfl rfl (one_int _ _) (by decide) (by decide) hs ?_); intro A2 c2 w3 hown2 hb2)
        rw [nums_snoc] at hown2
        go_roundw
        case rel => exact ⟨2, A2, c2, z ++ [x / 256 ^ 1 % 256], by omega, rfl, rfl, hown2, hbl.trans hb2, HE'⟩
        case measure => simp [intOf]
      · go_wp2_with (at_builtin; (refine wpList_push wr _ rfl _ _ _ rfl w.heap.size 5 i0 _ 1 1 Try.underlying37 hi0 hz0 hz1 hz2 rfl Nat.one_pos _ _ _ rfl hown [.int .u8 (IntKind.u8.wrap (x / 256 ^ 2))] rfl rfl rfl (one_int _ _) (by decide) (by decide) hs ?_); intro A2 c2 w3 hown2 hb2)
        rw [nums_snoc] at hown2
        go_roundw
        case rel => exact ⟨3, A2, c2, z ++ [x / 256 ^ 2 % 256], by omega, rfl, rfl, hown2, hbl.trans hb2, HE'⟩
        case measure => simp [intOf]
      · go_wp2_with (at_builtin; (refine wpList_push wr _ rfl _ _ _ rfl w.heap.size 5 i0 _ 1 1 Try.underlying37 hi0 hz0 hz1 hz2 rfl Nat.one_pos _ _ _ rfl hown [.int .u8 (IntKind.u8.wrap (x / 256 ^ 3))] rfl rfl rfl (one_int _ _) (by decide) (by decide) hs ?_); intro A2 c2 w3 hown2 hb2)
        rw [nums_snoc] at hown2
        go_roundw
        case rel => exact ⟨4, A2, c2, z ++ [x / 256 ^ 3 % 256], by omega, rfl, rfl, hown2, hbl.trans hb2, HE'⟩
        case measure => simp [intOf]
      · go_wp2_with (at_builtin; (refine wpList_push wr _ rfl _ _ _ rfl w.heap.size 5 i0 _ 1 1 Try.underlying37 hi0 hz0 hz1 hz2 rfl Nat.one_pos _ _ _ rfl hown [.int .u8 (IntKind.u8.wrap (x / 256 ^ 4))] rfl rfl rfl (one_int _ _) (by decide) (by decide) hs ?_); intro A2 c2 w3 hown2 hb2)
        rw [nums_snoc] at hown2
        go_roundw
        case rel => exact ⟨5, A2, c2, z ++ [x / 256 ^ 4 % 256], by omega, rfl, rfl, hown2, hbl.trans hb2, HE'⟩
        case measure => simp [intOf]
      · go_wp2_with (at_builtin; (refine wpList_push wr _ rfl _ _ _ rfl w.heap.size 5 i0 _ 1 1 Try.underlying37 hi0 hz0 hz1 hz2 rfl Nat.one_pos _ _ _ rfl hown [.int .u8 (IntKind.u8.wrap (x / 256 ^ 5))] rfl rfl rfl (one_int _ _) (by decide) (by decide) hs ?_); intro A2 c2 w3 hown2 hb2)
        rw [nums_snoc] at hown2
        go_roundw
        case rel => exact ⟨6, A2, c2, z ++ [x / 256 ^ 5 % 256], by omega, rfl, rfl, hown2, hbl.trans hb2, HE'⟩
        case measure => simp [intOf]
      · go_wp2_with (at_builtin; (refine wpList_push wr _ rfl _ _ _ rfl w.heap.size 5 i0 _ 1 1 Try.underlying37 hi0 hz0 hz1 hz2 rfl Nat.one_pos _ _ _ rfl hown [.int .u8 (IntKind.u8.wrap (x / 256 ^ 6))] rfl rfl rfl (one_int _ _) (by decide) (by decide) hs ?_); intro A2 c2 w3 hown2 hb2)
        rw [nums_snoc] at hown2
        go_roundw
        case rel => exact ⟨7, A2, c2, z ++ [x / 256 ^ 6 % 256], by omega, rfl, rfl, hown2, hbl.trans hb2, HE'⟩
        case measure => simp [intOf]
      · go_wp2_with (at_builtin; (refine wpList_push wr _ rfl _ _ _ rfl w.heap.size 5 i0 _ 1 1 Try.underlying37 hi0 hz0 hz1 hz2 rfl Nat.one_pos _ _ _ rfl hown [.int .u8 (x / 72057594037927936)] rfl rfl rfl (one_int _ _) (by decide) (by decide) hs ?_); intro A2 c2 w3 hown2 hb2)
        rw [nums_snoc] at hown2
        go_roundw
        case rel => exact ⟨8, A2, c2, z ++ [x / 72057594037927936], by omega, rfl, rfl, hown2, hbl.trans hb2, by rw [show x / 256 ^ 7 % 256 = x / 72057594037927936 by omega] at HE'; exact HE'⟩
        case measure => simp [intOf]
    · obtain rfl : k = 8 := by omega
      go_wp2_with fail
      go_ret
      have hz : eight x = z := by rw [HE.out]; simp [eightL]
      rw [hz]
      have hl : z.length = 8 := (own_nums hown).symm
      exact ⟨A', c', by rw [hl]; rfl, by rw [hl]; exact hown, hbl⟩
end Go.Proofs.Ytdcilabbjejklaa
