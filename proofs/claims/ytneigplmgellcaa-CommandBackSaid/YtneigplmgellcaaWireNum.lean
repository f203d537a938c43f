/- wire.Num, wire.Int, the page's own; the small functions of the statements of layer 4. -/
import Derived.Test.YtneigplmgellcaaRows
import Derived.Test.YtneigplmgellcaaWireGet
namespace Go.Proofs.Ytneigplmgellcaa
set_option maxRecDepth 20000
open Go.RowKit

/-- Bytes of the call's own, and an error's number. -/
def GivesNum (base : Nat) (w : World) (r : List Int × Int) (e : Ending) (w' : World) : Prop :=
  ∃ A c, e = .returned (.tuple #[.slice A r.1.length c, .int .i64 r.2]) ∧ w'.ownsRow base 5 1 (.slice A r.1.length c) r.1.length (nums .u8 r.1) ∧ Below base w w'

def numR (n : Int) : List Int × Int := if n < 0 then ([], 1) else (put n.toNat, 0)
def mayInt (n : Int) : Bool := decide (-4611686018427387904 ≤ n ∧ n < 4611686018427387904)
def intR (n : Int) : List Int × Int := if mayInt n then (put (zig n), 0) else ([], 2)

theorem zig_neg {n : Int} (h : -4611686018427387904 ≤ n) (h2 : n < 0) : ((zig n : Nat) : Int) = wrap64 (wrap64 (-2 * n) - 1) := by
  unfold zig wrap64; rw [if_pos h2]; omega

set_option maxHeartbeats 400000 in
theorem wire_int (n : Int) (w : World) (h0 : -9223372036854775808 ≤ n) (h1 : n ≤ 9223372036854775807) : Calls Try.prog 48 #[.int .i64 n] w (GivesNum w.heap.size w (intR n)) := by
  by_cases h : -4611686018427387904 ≤ n ∧ n < 4611686018427387904
  · have HR : Hid (intR n = (put (zig n), 0)) := by show _ = _; unfold intR; rw [if_pos (by simpa [mayInt] using h)]
    obtain ⟨ha, hb⟩ := h
    by_cases h2 : n < 0
    · have hz : ((zig n : Nat) : Int) = wrap64 (wrap64 (-2 * n) - 1) := zig_neg ha h2
      have C := put_nil (zig n) w (by have := zig_lt ha hb; omega)
      rw [hz] at C
      have C := Lib.hid C
      clear hz
      go_enter Try.func48, Try.ntmps48
      go_wp2_with fail
      refine Calls.mono C.out ?_
      rintro e w1 ⟨A, c, rfl, hown, hb⟩
      go_wp2
      go_ret2
      rw [HR.out]
      exact ⟨A, c, rfl, hown, hb⟩
    · have hz : ((zig n : Nat) : Int) = 2 * n := by unfold zig; rw [if_neg h2]; omega
      have C := put_nil (zig n) w (by have := zig_lt ha hb; omega)
      rw [hz] at C
      have C := Lib.hid C
      clear hz
      go_enter Try.func48, Try.ntmps48
      go_wp2_with fail
      refine Calls.mono C.out ?_
      rintro e w1 ⟨A, c, rfl, hown, hb⟩
      go_wp2
      go_ret2
      rw [HR.out]
      exact ⟨A, c, rfl, hown, hb⟩
  · have HR : Hid (intR n = ([], 2)) := by show _ = _; unfold intR; rw [if_neg (by simpa [mayInt] using h)]
    by_cases h2 : n < -4611686018427387904
    · go_enter Try.func48, Try.ntmps48
      go_wp2
      go_ret2
      rw [HR.out]
      exact ⟨none, 0, rfl, World.ownsRow_nil _ _ _ _, Below.refl _ _⟩
    · have h3 : 4611686018427387904 ≤ n := by omega
      clear h
      go_enter Try.func48, Try.ntmps48
      go_wp2
      go_ret2
      rw [HR.out]
      exact ⟨none, 0, rfl, World.ownsRow_nil _ _ _ _, Below.refl _ _⟩

set_option maxHeartbeats 400000 in
theorem ref_int (n : Int) (w : World) (ha : -4611686018427387904 ≤ n) (hb : n < 4611686018427387904) : Calls Try.prog 37 #[.int .i64 n] w (GivesBytes w.heap.size w (put (zig n))) := by
  by_cases h2 : n < 0
  · have hz : ((zig n : Nat) : Int) = wrap64 (wrap64 (-2 * n) - 1) := zig_neg ha h2
    have C := ref_num (zig n) w (by have := zig_lt ha hb; omega)
    rw [hz] at C
    have C := Lib.hid C
    clear hz
    go_enter Try.func37, Try.ntmps37
    go_wp2_with fail
    refine Calls.mono C.out ?_
    rintro e w1 ⟨A, c, rfl, hown, hb⟩
    go_wp2
    go_ret
    exact ⟨A, c, rfl, hown, hb⟩
  · have hz : ((zig n : Nat) : Int) = 2 * n := by unfold zig; rw [if_neg h2]; omega
    have C := ref_num (zig n) w (by have := zig_lt ha hb; omega)
    rw [hz] at C
    have C := Lib.hid C
    clear hz
    go_enter Try.func37, Try.ntmps37
    go_wp2_with fail
    refine Calls.mono C.out ?_
    rintro e w1 ⟨A, c, rfl, hown, hb⟩
    go_wp2
    go_ret
    exact ⟨A, c, rfl, hown, hb⟩

theorem int_m1 : intR (-1) = ([1], 0) := by
  unfold intR
  rw [if_pos (by decide), show zig (-1) = 1 by decide, put_small (by omega)]
  rfl

theorem ref_num_i (n : Int) (w : World) (h0 : 0 ≤ n) (h1 : n ≤ 9223372036854775807) : Calls Try.prog 36 #[.int .i64 n] w (GivesBytes w.heap.size w (put n.toNat)) := by
  obtain ⟨m, rfl⟩ := Int.eq_ofNat_of_zero_le h0
  exact ref_num m w h1
theorem put_nil_i (n : Int) (w : World) (h0 : 0 ≤ n) (h1 : n ≤ 9223372036854775807) : Calls Try.prog 47 #[.slice none 0 0, .int .i64 n] w (GivesBytes w.heap.size w (put n.toNat)) := by
  obtain ⟨m, rfl⟩ := Int.eq_ofNat_of_zero_le h0
  exact put_nil m w h1

end Go.Proofs.Ytneigplmgellcaa
