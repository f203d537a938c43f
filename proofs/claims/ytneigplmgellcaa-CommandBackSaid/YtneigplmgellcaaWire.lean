/- The wire's functions and the page's own: what each computes. -/
import Derived.Test.YtneigplmgellcaaRows
import Derived.Test.YtneigplmgellcaaBytes
import Derived.Test.YtneigplmgellcaaWireMath
namespace Go.Proofs.Ytneigplmgellcaa
set_option maxRecDepth 20000
open Go.RowKit

/-- A slice of bytes of the call's own is handed back, nothing below 'base' has turned. -/
def GivesBytes (base : Nat) (w : World) (l : List Int) (e : Ending) (w' : World) : Prop :=
  ∃ A c, e = .returned (.slice A l.length c) ∧ w'.ownsRow base 5 1 (.slice A l.length c) l.length (nums .u8 l) ∧ Below base w w'

theorem u8_wrap (n : Int) : IntKind.u8.wrap n = n % 256 := by simp [IntKind.wrap, IntKind.signed, IntKind.bits]
theorem u8_or (x : Nat) (h : x < 256) : bits .or .u8 (x : Int) 128 = ((x % 128 + 128 : Nat) : Int) := by
  have h2 : ∀ x : Fin 256, bits .or .u8 ((x.val : Nat) : Int) 128 = ((x.val % 128 + 128 : Nat) : Int) := by decide +kernel
  exact h2 ⟨x, h⟩
theorem u8_low (n : Nat) : bits .or .u8 ((n : Int) % 256) 128 = ((n % 128 + 128 : Nat) : Int) := by
  have h := u8_or (n % 256) (by omega)
  have e : ((n % 256 : Nat) : Int) = (n : Int) % 256 := by omega
  rw [← e, h]
  congr 1
  omega
theorem nums_snoc (k : IntKind) (l : List Int) (x : Int) : nums k l ++ [.int k x] = nums k (l ++ [x]) := by simp [nums]
theorem nums_snoc_low (l : List Int) (n : Nat) : nums .u8 l ++ [.int .u8 (bits .or .u8 ((n : Int) % 256) 128)] = nums .u8 (l ++ [((n % 128 + 128 : Nat) : Int)]) := by rw [u8_low, nums_snoc]
theorem nums_snoc_low2 (l : List Int) (n : Nat) : nums .u8 l ++ [.int .u8 (bits .or .u8 ((n : Int) % 128) 128)] = nums .u8 (l ++ [((n % 128 + 128 : Nat) : Int)]) := by
  have e : (n : Int) % 128 = ((n % 128 : Nat) : Int) := by omega
  rw [e, u8_or _ (by omega), nums_snoc, Nat.mod_mod]
theorem nums_snoc_last (l : List Int) (n : Nat) : nums .u8 l ++ [.int .u8 (n : Int)] = nums .u8 (l ++ [(n : Int)]) := nums_snoc _ _ _

set_option maxHeartbeats 400000 in
set_option maxRecDepth 20000 in
theorem put_own (base : Nat) (A : Option Addr) (m c : Nat) (xs : List Int) (n : Nat) (w : World) (hown : w.ownsRow base 5 1 (.slice A m c) m (nums .u8 xs)) (hbase : base ≤ w.heap.size) (hm : m ≤ 16777216) (hn : (n : Int) ≤ 9223372036854775807) :
    Calls Try.prog 47 #[.slice A m c, .int .i64 (n : Int)] w (GivesBytes base w (xs ++ put n)) := by
  obtain ⟨i0, hi0, hz0, hz1, hz2⟩ := info_parts info_u8
  have hml : xs.length = m := by have := hown.1; simpa [nums] using this
  go_enter Try.func47, Try.ntmps47
  go_wp2
  go_loopw [0, 1] (fun v i wr => ∃ (k : Nat) (A' : Option Addr) (c' : Nat) (l : List Int), i = .int .i64 (k : Int) ∧ v = .slice A' l.length c' ∧ wr.ownsRow base 5 1 (.slice A' l.length c') l.length (nums .u8 l) ∧ Below base w wr ∧ l ++ put k = xs ++ put n ∧ (k : Int) ≤ 9223372036854775807) (fun _ i _ => (intOf i).toNat)
  case atStart =>
    subst hml
    exact ⟨n, A, c, xs, rfl, rfl, hown, Below.refl _ _, rfl, hn⟩
  case round =>
    obtain ⟨k, A', c', l, rfl, rfl, hown', hbl, HL, hk⟩ := hrel
    have hle := put_left HL hn
    have H := Lib.hid HL
    have HM := Lib.hid hml
    have hle' : l.length ≤ 16777300 := by omega
    clear HL hml hle hown
    by_cases hlt : 128 ≤ k
    · have HX := Lib.hid (nums_snoc_low l k)
      go_wp2_with (at_builtin; refine wpList_push wr _ rfl _ _ _ rfl base 5 i0 _ 1 1 Try.underlying29 hi0 hz0 hz1 hz2 rfl (by omega) _ _ _ rfl hown' [.int .u8 (bits .or .u8 ((k : Int) % 256) 128)] rfl rfl rfl (one_int _ _) (by unfold maxLen; omega) (by omega) (Nat.le_trans hbase hbl.size) ?_; intro A2 c2 w2 hown2 hb2)
      go_roundw
      case rel =>
        rw [HX.out] at hown2
        have hl2 := own_nums hown2
        exact ⟨k / 128, A2, c2, l ++ [((k % 128 + 128 : Nat) : Int)], by go_num, by rw [hl2], own_nums' hown2, hbl.trans hb2, by rw [← H.out, put_great hlt]; simp, by omega⟩
      case measure => simp [intOf]; omega
    · have HX := Lib.hid (nums_snoc_last l k)
      go_wp2_with (at_builtin; refine wpList_push wr _ rfl _ _ _ rfl base 5 i0 _ 1 1 Try.underlying29 hi0 hz0 hz1 hz2 rfl (by omega) _ _ _ rfl hown' [.int .u8 (k : Int)] rfl rfl rfl (one_int _ _) (by unfold maxLen; omega) (by omega) (Nat.le_trans hbase hbl.size) ?_; intro A2 c2 w2 hown2 hb2)
      go_ret
      rw [HX.out] at hown2
      have hl2 := own_nums hown2
      have e : l ++ [(k : Int)] = xs ++ put n := by rw [← H.out, put_small (by omega)]
      exact ⟨A2, c2, by rw [← e, ← hl2]; rfl, by rw [← e]; exact own_nums' hown2, hbl.trans hb2⟩

/-- The same from nothing. -/
theorem put_nil (n : Nat) (w : World) (hn : (n : Int) ≤ 9223372036854775807) : Calls Try.prog 47 #[.slice none 0 0, .int .i64 (n : Int)] w (GivesBytes w.heap.size w (put n)) :=
  put_own w.heap.size none 0 0 [] n w (World.ownsRow_nil _ _ _ _) (Nat.le_refl _) (by omega) hn

set_option maxHeartbeats 400000 in
set_option maxRecDepth 20000 in
theorem ref_num (n : Nat) (w : World) (hn : (n : Int) ≤ 9223372036854775807) :
    Calls Try.prog 36 #[.int .i64 (n : Int)] w (GivesBytes w.heap.size w (put n)) := by
  obtain ⟨i0, hi0, hz0, hz1, hz2⟩ := info_parts info_u8
  go_enter Try.func36, Try.ntmps36
  go_wp2
  go_loopw [0, 3] (fun i v wr => ∃ (k : Nat) (A' : Option Addr) (c' : Nat) (l : List Int), i = .int .i64 (k : Int) ∧ v = .slice A' l.length c' ∧ wr.ownsRow w.heap.size 5 1 (.slice A' l.length c') l.length (nums .u8 l) ∧ Below w.heap.size w wr ∧ l ++ put k = [] ++ put n ∧ (k : Int) ≤ 9223372036854775807) (fun i _ _ => (intOf i).toNat)
  case atStart => exact ⟨n, none, 0, [], rfl, rfl, World.ownsRow_nil _ _ _ _, Below.refl _ _, rfl, hn⟩
  case round =>
    obtain ⟨k, A', c', l, rfl, rfl, hown', hbl, HL, hk⟩ := hrel
    have hle := put_left HL hn
    have H := Lib.hid HL
    have hle' : l.length ≤ 16 := by simp at hle; omega
    clear HL hle
    by_cases hlt : 128 ≤ k
    · have HX := Lib.hid (nums_snoc_low2 l k)
      go_wp2_with (at_builtin; refine wpList_push wr _ rfl _ _ _ rfl w.heap.size 5 i0 _ 1 1 Try.underlying29 hi0 hz0 hz1 hz2 rfl (by omega) _ _ _ rfl hown' [.int .u8 (bits .or .u8 ((k : Int) % 128) 128)] rfl rfl rfl (one_int _ _) (by unfold maxLen; omega) (by omega) hbl.size ?_; intro A2 c2 w2 hown2 hb2)
      go_roundw
      case rel =>
        rw [HX.out] at hown2
        have hl2 := own_nums hown2
        exact ⟨k / 128, A2, c2, l ++ [((k % 128 + 128 : Nat) : Int)], by go_num, by rw [hl2], own_nums' hown2, hbl.trans hb2, by rw [← H.out, put_great hlt]; simp, by omega⟩
      case measure => simp [intOf]; omega
    · have HX := Lib.hid (nums_snoc_last l k)
      go_wp2_with (at_builtin; refine wpList_push wr _ rfl _ _ _ rfl w.heap.size 5 i0 _ 1 1 Try.underlying29 hi0 hz0 hz1 hz2 rfl (by omega) _ _ _ rfl hown' [.int .u8 (k : Int)] rfl rfl rfl (one_int _ _) (by unfold maxLen; omega) (by omega) hbl.size ?_; intro A2 c2 w2 hown2 hb2)
      go_ret
      rw [HX.out] at hown2
      have hl2 := own_nums hown2
      have e : l ++ [(k : Int)] = put n := by rw [← List.nil_append (put n), ← H.out, put_small (by omega)]
      exact ⟨A2, c2, by rw [← e, ← hl2]; rfl, by rw [← e]; exact own_nums' hown2, hbl.trans hb2⟩

end Go.Proofs.Ytneigplmgellcaa
