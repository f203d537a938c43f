/- Rows of truth values: are they the same? Writing over one. -/
import Derived.Test.YtfgjiaakoacomaaClearWake
namespace Go.Proofs.Ytfgjiaakoacomaa
set_option maxRecDepth 20000
open Go.RowKit

set_option maxHeartbeats 800000 in
set_option maxRecDepth 20000 in
theorem eq_bools (A1 A2 : Option Addr) (n c1 c2 B1 B2 : Nat) (f : Nat → Bool) (w : World) (hr1 : Reads w B1 1 A1 n (bools n f)) (hr2 : Reads w B2 1 A2 n (bools n f)) (hB1 : B1 ≤ w.heap.size) (hB2 : B2 ≤ w.heap.size) (hn : n ≤ 1000000) :
    Calls Try.prog 21 #[.slice A1 n c1, .slice A2 n c2] w fun e w' => e = .returned (.bool true) ∧ Below w.heap.size w w' := by
  go_enter Try.func21, Try.ntmps21
  go_wp2_with fail
  go_loopw [5] (fun i wr => ∃ (k : Nat), k ≤ n ∧ i = .int .i64 k ∧ Below w.heap.size w wr) (fun i _ => n - (intOf i).toNat)
  case atStart => exact ⟨0, Nat.zero_le _, rfl, Below.refl _ _⟩
  case round =>
    obtain ⟨k, hk, rfl, hb⟩ := hrel
    by_cases hkn : k < n
    · obtain ⟨b1, o1, rfl, hbb1, hc1⟩ := reads_bool (hr1.below (hb.mono hB1)) hkn
      obtain ⟨b2, o2, rfl, hbb2, hc2⟩ := reads_bool (hr2.below (hb.mono hB2)) hkn
      have HB := Lib.hid hb
      generalize f k = v at *
      have hne : (v != v) = false := by simp
      clear hb
      go_wp2_with fail
      (try go_quiet (fail))
      (try go_wp2_with fail)
      go_roundw
      case rel => exact ⟨k + 1, by omega, by go_num, by first | exact HB.out | exact below_drewN HB.out _⟩
      case measure => simp [intOf]; omega
    · obtain rfl : k = n := by omega
      have HB := Lib.hid hb
      clear hb
      go_wp2_with fail
      go_ret
      exact ⟨rfl, HB.out⟩

set_option maxHeartbeats 800000 in
set_option maxRecDepth 20000 in
theorem spoil_bools (A : Option Addr) (n c base : Nat) (f : Nat → Bool) (w : World) (hown : w.ownsRow base 4 1 (.slice A n c) n (bools n f)) (hbase : base ≤ w.heap.size) (hn : n ≤ 2097152) :
    Calls Try.prog 22 #[.slice A n c] w fun e w' => e = .returned (.tuple #[]) ∧ Below base w w' := by
  obtain ⟨i0, hi0, hz0, hz1, hz2⟩ := info_parts info_bool
  go_enter Try.func22, Try.ntmps22
  go_wp2_with fail
  go_loopw [2] (fun i wr => ∃ (k : Nat) (f' : Nat → Bool), k ≤ n ∧ i = .int .i64 k ∧ wr.ownsRow base 4 1 (.slice A n c) n (bools n f') ∧ Below base w wr) (fun i _ => n - (intOf i).toNat)
  case atStart => exact ⟨0, f, Nat.zero_le _, rfl, hown, Below.refl _ _⟩
  case round =>
    obtain ⟨k, f', hk, rfl, hown', hbl⟩ := hrel
    by_cases hlt : k < n
    · obtain ⟨g, rfl, hb, hg, hc, hf⟩ := ownb_at hown' hlt
      have HO := Lib.hid (fun v => ownb_store (k := k) hown' v)
      have HB := Lib.hid (fun u => hbl.setCell (p := ⟨g, k, none⟩) hb u)
      generalize f' k = v at *
      clear hown' hbl
      go_wp2_with fail
      go_roundw
      case rel => exact ⟨k + 1, _, by omega, by go_num, HO.out _, HB.out _⟩
      case measure => simp [intOf]; omega
    · obtain rfl : k = n := by omega
      go_wp2_with (at_builtin; refine wpList_push wr _ rfl _ _ _ rfl base 4 i0 _ 1 1 Try.underlying39 hi0 hz0 hz1 hz2 rfl (by omega) _ _ _ rfl hown' [.bool true] rfl rfl rfl (by simp [Value.oneCell']) (by unfold maxLen; omega) (by omega) (Nat.le_trans hbase hbl.size) ?_; intro A2 c2 w2 hown2 hb2)
      go_end0
      exact ⟨rfl, hbl.trans hb2⟩
end Go.Proofs.Ytfgjiaakoacomaa
