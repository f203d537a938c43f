/- The page's GetRaw: a part of what came in; answers written over. -/
import Derived.Test.YtdcilabbjejklaaWireRaw
import Derived.Test.YtdcilabbjejklaaMem
namespace Go.Proofs.Ytdcilabbjejklaa
set_option maxRecDepth 20000
open Go.RowKit

/-- A part of what came in, two numbers; memory as it was. -/
def GivesPart (B : Nat) (w : World) (r : List Int × Int × Int) (e : Ending) (w' : World) : Prop :=
  ∃ A c, e = .returned (.tuple #[.slice A r.1.length c, .int .i64 r.2.1, .int .i64 r.2.2]) ∧ Reads w B 1 A r.1.length (nums .u8 r.1) ∧ w = w'

set_option maxHeartbeats 800000 in
set_option maxRecDepth 20000 in
theorem spoil_bytes (A : Option Addr) (n c base : Nat) (l : List Int) (w : World) (hown : w.ownsRow base 5 1 (.slice A n c) n (nums .u8 l)) (hbase : base ≤ w.heap.size) (hn : n ≤ 2097152) :
    Calls Try.prog 50 #[.slice A n c] w fun e w' => e = .returned (.tuple #[]) ∧ Below base w w' := by
  obtain ⟨i0, hi0, hz0, hz1, hz2⟩ := info_parts info_u8
  go_enter Try.func50, Try.ntmps50
  go_wp2
  go_loopw [2] (fun i wr => ∃ (k : Nat) (l' : List Int), k ≤ n ∧ i = .int .i64 k ∧ wr.ownsRow base 5 1 (.slice A n c) n (nums .u8 l') ∧ Below base w wr) (fun i _ => n - (intOf i).toNat)
  case atStart => exact ⟨0, l, Nat.zero_le _, rfl, hown, Below.refl _ _⟩
  case round =>
    obtain ⟨k, l', hk, rfl, hown', hbl⟩ := hrel
    by_cases hlt : k < n
    · obtain ⟨g, rfl, hb, hg, hc, hf⟩ := own_at hown' hlt
      go_wp2
      go_roundw
      case rel => exact ⟨k + 1, _, by omega, by go_num, own_store hown' _, hbl.setCell hb _⟩
      case measure => simp [intOf]; omega
    · obtain rfl : k = n := by omega
      go_wp2_with (at_builtin; refine wpList_push wr _ rfl _ _ _ rfl base 5 i0 _ 1 1 Try.underlying37 hi0 hz0 hz1 hz2 rfl (by omega) _ _ _ rfl hown' [.int .u8 5] rfl rfl rfl (one_int _ _) (by unfold maxLen; omega) (by omega) (Nat.le_trans hbase hbl.size) ?_; intro A2 c2 w2 hown2 hb2)
      go_end0
      exact ⟨rfl, hbl.trans hb2⟩

end Go.Proofs.Ytdcilabbjejklaa
