/- wire.Num, wire.Int, the page's own; the small functions of the statements of layer 4. -/
import Derived.Test.YtdcilabbjejklaaRows
import Derived.Test.YtdcilabbjejklaaWireGet
namespace Go.Proofs.Ytdcilabbjejklaa
set_option maxRecDepth 20000
open Go.RowKit

/-- Bytes of the call's own, and an error's number. -/
def GivesNum (base : Nat) (w : World) (r : List Int × Int) (e : Ending) (w' : World) : Prop :=
  ∃ A c, e = .returned (.tuple #[.slice A r.1.length c, .int .i64 r.2]) ∧ w'.ownsRow base 5 1 (.slice A r.1.length c) r.1.length (nums .u8 r.1) ∧ Below base w w'

def numR (n : Int) : List Int × Int := if n < 0 then ([], 1) else (put n.toNat, 0)
def mayInt (n : Int) : Bool := decide (-4611686018427387904 ≤ n ∧ n < 4611686018427387904)
def intR (n : Int) : List Int × Int := if mayInt n then (put (zig n), 0) else ([], 2)

theorem zig_neg {n : Int} (h : -4611686018427387904 ≤ n) (h2 : n < 0) : ((zig n : Nat) : Int) = wrap64 (wrap64 (-2 * n) - 1) := by
  unfold zig wrap64; rw [if_pos h2]; omega

theorem int_m1 : intR (-1) = ([1], 0) := by
  unfold intR
  rw [if_pos (by decide), show zig (-1) = 1 by decide, put_small (by omega)]
  rfl

theorem ref_num_i (n : Int) (w : World) (h0 : 0 ≤ n) (h1 : n ≤ 9223372036854775807) : Calls Try.prog 62 #[.int .i64 n] w (GivesBytes w.heap.size w (put n.toNat)) := by
  obtain ⟨m, rfl⟩ := Int.eq_ofNat_of_zero_le h0
  exact ref_num m w h1
theorem put_nil_i (n : Int) (w : World) (h0 : 0 ≤ n) (h1 : n ≤ 9223372036854775807) : Calls Try.prog 77 #[.slice none 0 0, .int .i64 n] w (GivesBytes w.heap.size w (put n.toNat)) := by
  obtain ⟨m, rfl⟩ := Int.eq_ofNat_of_zero_le h0
  exact put_nil m w h1

end Go.Proofs.Ytdcilabbjejklaa
