/- wire.Num, wire.Int, the page's own; the small functions of the statements of layer 4. -/
import Derived.Test.YtpklgghppmlklaaRows
import Derived.Test.YtpklgghppmlklaaWireGet
namespace Go.Proofs.Ytpklgghppmlklaa
open Go.RowKit

/-- Bytes of the call's own, and an error's number. -/
def GivesNum (base : Nat) (w : World) (r : List Int × Int) (e : Ending) (w' : World) : Prop :=
  ∃ A c, e = .returned (.tuple #[.slice A r.1.length c, .int .i64 r.2]) ∧ w'.ownsRow base 5 1 (.slice A r.1.length c) r.1.length (nums .u8 r.1) ∧ Below base w w'

def numR (n : Int) : List Int × Int := if n < 0 then ([], 1) else (put n.toNat, 0)
def mayInt (n : Int) : Bool := decide (-4611686018427387904 ≤ n ∧ n < 4611686018427387904)
def intR (n : Int) : List Int × Int := if mayInt n then (put (zig n), 0) else ([], 2)

theorem zig_neg {n : Int} (h : -4611686018427387904 ≤ n) (h2 : n < 0) : ((zig n : Nat) : Int) = wrap64 (wrap64 (-2 * n) - 1) := by
  unfold zig wrap64; rw [if_pos h2]; omega

set_option maxHeartbeats 400000 in
theorem wire_num (n : Int) (w : World) (hn : n ≤ 9223372036854775807) : Calls Try.prog 19 #[.int .i64 n] w (GivesNum w.heap.size w (numR n)) := by
  by_cases h : n < 0
  · have HR : Hid (numR n = ([], 1)) := by show _ = _; unfold numR; rw [if_pos h]
    go_enter Try.func19, Try.ntmps19
    go_wp2
    go_ret2
    rw [HR.out]
    exact ⟨none, 0, rfl, World.ownsRow_nil _ _ _ _, Below.refl _ _⟩
  · obtain ⟨m, rfl⟩ := Int.eq_ofNat_of_zero_le (show 0 ≤ n by omega)
    have HR : Hid (numR m = (put m, 0)) := by show _ = _; unfold numR; rw [if_neg h, Int.toNat_natCast]
    go_enter Try.func19, Try.ntmps19
    go_wp2_with fail
    refine (put_nil m w hn).mono ?_
    rintro e w1 ⟨A, c, rfl, hown, hb⟩
    go_wp2
    go_ret2
    rw [HR.out]
    exact ⟨A, c, rfl, hown, hb⟩

set_option maxHeartbeats 400000 in
theorem wire_int (n : Int) (w : World) (h0 : -9223372036854775808 ≤ n) (h1 : n ≤ 9223372036854775807) : Calls Try.prog 22 #[.int .i64 n] w (GivesNum w.heap.size w (intR n)) := by
  by_cases h : -4611686018427387904 ≤ n ∧ n < 4611686018427387904
  · have HR : Hid (intR n = (put (zig n), 0)) := by show _ = _; unfold intR; rw [if_pos (by simpa [mayInt] using h)]
    obtain ⟨ha, hb⟩ := h
    by_cases h2 : n < 0
    · have hz : ((zig n : Nat) : Int) = wrap64 (wrap64 (-2 * n) - 1) := zig_neg ha h2
      have C := put_nil (zig n) w (by have := zig_lt ha hb; omega)
      rw [hz] at C
      have C := Lib.hid C
      clear hz
      go_enter Try.func22, Try.ntmps22
      go_wp2_with fail
      refine Calls.mono C.out ?_
      rintro e w1 ⟨A, c, rfl, hown, hb⟩
      go_wp2
      go_ret2
      rw [HR.out]
      exact ⟨A, c, rfl, hown, hb⟩
    · have hz : ((zig n : Nat) : Int) = 2 * n := by unfold zig; rw [if_neg h2]; omega
      have C := put_nil (zig n) w (by have := zig_lt ha hb; omega)
      rw [hz] at C
      have C := Lib.hid C
      clear hz
      go_enter Try.func22, Try.ntmps22
      go_wp2_with fail
      refine Calls.mono C.out ?_
      rintro e w1 ⟨A, c, rfl, hown, hb⟩
      go_wp2
      go_ret2
      rw [HR.out]
      exact ⟨A, c, rfl, hown, hb⟩
  · have HR : Hid (intR n = ([], 2)) := by show _ = _; unfold intR; rw [if_neg (by simpa [mayInt] using h)]
    by_cases h2 : n < -4611686018427387904
    · go_enter Try.func22, Try.ntmps22
      go_wp2
      go_ret2
      rw [HR.out]
      exact ⟨none, 0, rfl, World.ownsRow_nil _ _ _ _, Below.refl _ _⟩
    · have h3 : 4611686018427387904 ≤ n := by omega
      clear h
      go_enter Try.func22, Try.ntmps22
      go_wp2
      go_ret2
      rw [HR.out]
      exact ⟨none, 0, rfl, World.ownsRow_nil _ _ _ _, Below.refl _ _⟩

set_option maxHeartbeats 400000 in
theorem ref_int (n : Int) (w : World) (ha : -4611686018427387904 ≤ n) (hb : n < 4611686018427387904) : Calls Try.prog 24 #[.int .i64 n] w (GivesBytes w.heap.size w (put (zig n))) := by
  by_cases h2 : n < 0
  · have hz : ((zig n : Nat) : Int) = wrap64 (wrap64 (-2 * n) - 1) := zig_neg ha h2
    have C := ref_num (zig n) w (by have := zig_lt ha hb; omega)
    rw [hz] at C
    have C := Lib.hid C
    clear hz
    go_enter Try.func24, Try.ntmps24
    go_wp2_with fail
    refine Calls.mono C.out ?_
    rintro e w1 ⟨A, c, rfl, hown, hb⟩
    go_wp2
    go_ret
    exact ⟨A, c, rfl, hown, hb⟩
  · have hz : ((zig n : Nat) : Int) = 2 * n := by unfold zig; rw [if_neg h2]; omega
    have C := ref_num (zig n) w (by have := zig_lt ha hb; omega)
    rw [hz] at C
    have C := Lib.hid C
    clear hz
    go_enter Try.func24, Try.ntmps24
    go_wp2_with fail
    refine Calls.mono C.out ?_
    rintro e w1 ⟨A, c, rfl, hown, hb⟩
    go_wp2
    go_ret
    exact ⟨A, c, rfl, hown, hb⟩

theorem may_int_yes (n : Int) (w : World) (ha : -4611686018427387904 ≤ n) (hb : n < 4611686018427387904) : Calls Try.prog 23 #[.int .i64 n] w fun e w' => e = .returned (.bool true) ∧ w = w' := by
  go_enter Try.func23, Try.ntmps23
  go_wp2
  go_ret
  exact ⟨rfl, rfl⟩
theorem may_int_no (n : Int) (w : World) (h : n < -4611686018427387904 ∨ 4611686018427387904 ≤ n) : Calls Try.prog 23 #[.int .i64 n] w fun e w' => e = .returned (.bool false) ∧ w = w' := by
  rcases h with h | h
  · go_enter Try.func23, Try.ntmps23
    go_wp2
    go_ret
    exact ⟨rfl, rfl⟩
  · have h' : ¬ n < 4611686018427387904 := by omega
    go_enter Try.func23, Try.ntmps23
    go_wp2
    go_ret
    exact ⟨rfl, rfl⟩
theorem num4 (x : Int) (w : World) : Calls Try.prog 20 #[.int .i64 x] w fun e w' => e = .returned (.int .i64 x) ∧ w = w' := by
  go_enter Try.func20, Try.ntmps20
  go_wp2
  go_ret
  exact ⟨rfl, rfl⟩

theorem int_m1 : intR (-1) = ([1], 0) := by
  unfold intR
  rw [if_pos (by decide), show zig (-1) = 1 by decide, put_small (by omega)]
  rfl

set_option maxHeartbeats 400000 in
theorem wakes_wire (w : World) : Calls Try.prog 25 #[] w fun e w' => e = .returned (.bool true) ∧ Below w.heap.size w w' := by
  have C := wire_int (-1) w (by omega) (by omega)
  rw [int_m1] at C
  have C := Lib.hid C
  go_enter Try.func25, Try.ntmps25
  go_wp2_with fail
  refine Calls.mono C.out ?_
  rintro e w1 ⟨A, c, rfl, hown, hb⟩
  go_wp2_with (go_at_call 20; go_in)
  refine (eq_bytes _ _ _ _ 1 _ _ _ [1] [1] _ ((Reads.of_own hown).alloc (Nat.le_refl _) _) (reads_new _ [.int .u8 1] _ _ 1 rfl) (by simp) (by omega)).mono ?_
  rintro e w2 ⟨rfl, q, rfl⟩
  go_wp2
  go_ret
  exact ⟨rfl, below_drewN (hb.alloc hb.size _) _⟩

theorem ref_num_i (n : Int) (w : World) (h0 : 0 ≤ n) (h1 : n ≤ 9223372036854775807) : Calls Try.prog 21 #[.int .i64 n] w (GivesBytes w.heap.size w (put n.toNat)) := by
  obtain ⟨m, rfl⟩ := Int.eq_ofNat_of_zero_le h0
  exact ref_num m w h1
theorem put_nil_i (n : Int) (w : World) (h0 : 0 ≤ n) (h1 : n ≤ 9223372036854775807) : Calls Try.prog 35 #[.slice none 0 0, .int .i64 n] w (GivesBytes w.heap.size w (put n.toNat)) := by
  obtain ⟨m, rfl⟩ := Int.eq_ofNat_of_zero_le h0
  exact put_nil m w h1

end Go.Proofs.Ytpklgghppmlklaa
