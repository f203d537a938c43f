/- The statements' small helpers on numbers: copies, comparisons, answers written over. -/
import Derived.Test.YtfgjiaakoacomaaRows
import Derived.Test.YtfgjiaakoacomaaBytes
import Derived.Test.YtfgjiaakoacomaaMem
namespace Go.Proofs.Ytfgjiaakoacomaa
set_option maxRecDepth 20000
open Go.RowKit

theorem info_int : (Try.prog.info? 3).map (fun i => (i.zero, i.size, i.bytes)) = some (some (.int .i64 0), 1, 8) := by kernel_rfl

set_option maxHeartbeats 400000 in
theorem eq_nums (A1 A2 : Option Addr) (n1 c1 n2 c2 B1 B2 : Nat) (l1 l2 : List Int) (w : World) (hr1 : Reads w B1 1 A1 n1 (nums .i64 l1)) (hr2 : Reads w B2 1 A2 n2 (nums .i64 l2)) (hn1 : n1 ≤ 4611686018427387904) (hn2 : n2 ≤ 4611686018427387904) :
    Calls Try.prog 16 #[.slice A1 n1 c1, .slice A2 n2 c2] w (QuietBool (l1 == l2) w) := by
  have hl1 : l1.length = n1 := by have := hr1.1; simpa [nums] using this
  have hl2 : l2.length = n2 := by have := hr2.1; simpa [nums] using this
  by_cases hne : n1 = n2
  · subst hne
    have HL := Lib.hid hl1
    have HL2 := Lib.hid hl2
    clear hl1 hl2
    go_enter Try.func16, Try.ntmps16
    go_wp2
    go_loopw [5] (fun i wr => ∃ (k q : Nat), k ≤ n1 ∧ i = .int .i64 k ∧ wr = w.drewN q ∧ l1.take k = l2.take k) (fun i _ => n1 - (intOf i).toNat)
    case atStart => exact ⟨0, 0, Nat.zero_le _, rfl, rfl, rfl⟩
    case round =>
      obtain ⟨k, q, hk, rfl, rfl, htk⟩ := hrel
      by_cases hlt : k < n1
      · obtain ⟨_, b, o, rfl, hb, hc⟩ := hr1.num hlt
        obtain ⟨_, b', o', rfl, hb', hc'⟩ := hr2.num hlt
        by_cases hx : l1.getD k 0 = l2.getD k 0
        · have H := Lib.hid (getD_of_take htk (by have := HL.out; omega) (by have := HL2.out; omega) hx)
          have hx' : (l1.getD k 0 != l2.getD k 0) = false := by simp only [hx, bne_self_eq_false]
          clear htk hx
          generalize l1.getD k 0 = x at *
          generalize l2.getD k 0 = y at *
          go_wp2
          go_quiet (fail)
          go_wp2
          go_roundw
          case rel => exact ⟨k + 1, q + nq, by omega, by go_num, rfl, H.out⟩
          case measure => simp [intOf]; omega
        · have H := Lib.hid (ne_of_getD hx)
          have hx' : (l1.getD k 0 != l2.getD k 0) = true := by simpa using hx
          clear htk hx
          generalize l1.getD k 0 = x at *
          generalize l2.getD k 0 = y at *
          go_wp2
          go_quiet (fail)
          go_wp2
          go_ret
          exact ⟨by rw [H.out]; rfl, q + nq, World.drewN_drewN _ _ _⟩
      · obtain rfl : k = n1 := by omega
        have H := Lib.hid htk
        clear htk
        go_wp2
        go_ret
        refine ⟨?_, q, rfl⟩
        have h := H.out
        rw [List.take_of_length_le (by rw [HL.out]; exact Nat.le_refl _), List.take_of_length_le (by rw [HL2.out]; exact Nat.le_refl _)] at h
        rw [h]
        simp
  · have H : Hid ((l1 == l2) = false) := by
      show (l1 == l2) = false
      rw [beq_eq_false_iff_ne]; rintro rfl; omega
    have hd : ((n1 : Int) != (n2 : Int)) = true := by rw [bne_iff_ne]; omega
    clear hl1 hl2
    go_enter Try.func16, Try.ntmps16
    go_wp2
    go_ret
    exact ⟨by rw [H.out]; rfl, 0, rfl⟩
/-- The same, the world told by 'Below'. -/
theorem eq_nums_b (A1 A2 : Option Addr) (n1 c1 n2 c2 B1 B2 : Nat) (l1 l2 : List Int) (w : World) (b : Bool) (hr1 : Reads w B1 1 A1 n1 (nums .i64 l1)) (hr2 : Reads w B2 1 A2 n2 (nums .i64 l2)) (hn1 : n1 ≤ 4611686018427387904) (hn2 : n2 ≤ 4611686018427387904) (hb : (l1 == l2) = b) :
    Calls Try.prog 16 #[.slice A1 n1 c1, .slice A2 n2 c2] w fun e w' => e = .returned (.bool b) ∧ Below w.heap.size w w' := by
  subst hb
  exact (eq_nums A1 A2 n1 c1 n2 c2 B1 B2 l1 l2 w hr1 hr2 hn1 hn2).mono fun e w' ⟨he, q, hw⟩ => ⟨he, by rw [hw]; exact below_drewN (Below.refl _ _) q⟩

theorem eq_nums_q (A1 A2 : Option Addr) (n1 c1 n2 c2 B1 B2 : Nat) (l1 l2 : List Int) (w : World) (b : Bool) (hr1 : Reads w B1 1 A1 n1 (nums .i64 l1)) (hr2 : Reads w B2 1 A2 n2 (nums .i64 l2)) (hn1 : n1 ≤ 4611686018427387904) (hn2 : n2 ≤ 4611686018427387904) (hb : (l1 == l2) = b) :
    Calls Try.prog 16 #[.slice A1 n1 c1, .slice A2 n2 c2] w fun e w' => e = .returned (.bool b) ∧ ∃ q, w' = w.drewN q := by
  subst hb
  exact eq_nums A1 A2 n1 c1 n2 c2 B1 B2 l1 l2 w hr1 hr2 hn1 hn2
set_option maxHeartbeats 800000 in
set_option maxRecDepth 20000 in
theorem spoil_nums (A : Option Addr) (n c base : Nat) (l : List Int) (w : World) (hown : w.ownsRow base 3 1 (.slice A n c) n (nums .i64 l)) (hbase : base ≤ w.heap.size) (hn : n ≤ 2097152) :
    Calls Try.prog 17 #[.slice A n c] w fun e w' => e = .returned (.tuple #[]) ∧ Below base w w' := by
  obtain ⟨i0, hi0, hz0, hz1, hz2⟩ := info_parts info_int
  go_enter Try.func17, Try.ntmps17
  go_wp2
  go_loopw [2] (fun i wr => ∃ (k : Nat) (l' : List Int), k ≤ n ∧ i = .int .i64 k ∧ wr.ownsRow base 3 1 (.slice A n c) n (nums .i64 l') ∧ Below base w wr) (fun i _ => n - (intOf i).toNat)
  case atStart => exact ⟨0, l, Nat.zero_le _, rfl, hown, Below.refl _ _⟩
  case round =>
    obtain ⟨k, l', hk, rfl, hown', hbl⟩ := hrel
    by_cases hlt : k < n
    · obtain ⟨g, rfl, hb, hg, hc, hf⟩ := own_at hown' hlt
      go_wp2
      go_roundw
      case rel => exact ⟨k + 1, _, by omega, by go_num, own_store hown' _, hbl.setCell hb _⟩
      case measure => simp [intOf]; omega
    · obtain rfl : k = n := by omega
      go_wp2_with (at_builtin; refine wpList_push wr _ rfl _ _ _ rfl base 3 i0 _ 1 8 Try.underlying30 hi0 hz0 hz1 hz2 rfl (by omega) _ _ _ rfl hown' [.int .i64 5] rfl rfl rfl (one_int _ _) (by unfold maxLen; omega) (by omega) (Nat.le_trans hbase hbl.size) ?_; intro A2 c2 w2 hown2 hb2)
      go_end0
      exact ⟨rfl, hbl.trans hb2⟩

end Go.Proofs.Ytfgjiaakoacomaa
