/- The page's bytes of units. -/
import Derived.Test.YtneigplmgellcaaCmdLay
namespace Go.Proofs.Ytneigplmgellcaa
set_option maxRecDepth 20000
open Go.RowKit

theorem ref_num_p (n : Int) (w : World) (h0 : 0 ≤ n) (h1 : n ≤ 9223372036854775807) : Calls Try.prog 36 #[.int .i64 n] w (GivesBytes w.heap.size w (putI n)) := ref_num_i n w h0 h1
theorem encL_snoc {z : List Int} {us : List Int} {k : Nat} (h : k < us.length) : (z ++ encL (us.take k)) ++ putI (us.getD k 0) = z ++ encL (us.take (k + 1)) := by
  rw [List.append_assoc, encL_take us k h]

set_option maxHeartbeats 800000 in
set_option maxRecDepth 20000 in
theorem ref_ubytes (A : Option Addr) (n c B : Nat) (us : List Int) (w : World) (hr : Reads w B 1 A n (nums .i64 us)) (hB : B ≤ w.heap.size) (hu : ∀ x ∈ us, 0 ≤ x ∧ x ≤ 9223372036854775807) (hn : n ≤ 100) :
    Calls Try.prog 38 #[.slice A n c] w (GivesBytes w.heap.size w (encU us)) := by
  obtain ⟨i0, hi0, hz0, hz1, hz2⟩ := info_parts info_u8
  have hll : us.length = n := by have := hr.1; simpa [nums] using this
  have hr := hr.more hB
  have P1 := Lib.hid (ref_num_p (n : Int) w (by omega) (by omega))
  have hp9 := putI_nine (n := (n : Int)) (by omega) (by omega)
  have HU : Hid (encU us = putI (n : Int) ++ encL us) := by
    show _ = _
    unfold encU putI
    rw [hll, Int.toNat_natCast]
  have HLL := Lib.hid hll
  have HB := Lib.hid hu
  clear hu hll
  go_enter Try.func38, Try.ntmps38
  go_wp2_with fail
  refine Calls.mono P1.out ?_
  rintro e w1 ⟨A1, c1, rfl, hown1, hb1⟩
  generalize putI (n : Int) = zs at *
  clear P1
  go_wp2_with fail
  go_loopw [3, 4] (fun v i wr => ∃ (k q : Nat) (A' : Option Addr) (c' : Nat), k ≤ n ∧ i = .int .i64 (k : Int) ∧ v = .slice A' q c' ∧ wr.ownsRow w.heap.size 5 1 (.slice A' q c') q (nums .u8 (zs ++ encL (us.take k))) ∧ Below w.heap.size w wr) (fun _ i _ => n - (intOf i).toNat)
  case atStart => exact ⟨0, zs.length, A1, c1, Nat.zero_le _, rfl, rfl, by simpa [encL] using hown1, hb1⟩
  case round =>
    obtain ⟨k, q, A', c', hk, rfl, rfl, hown', hbl⟩ := hrel
    have hq := own_nums hown'
    have hen : (zs ++ encL (us.take k)).length ≤ 1000 := by
      have := encL_len (l := us.take k) (fun x hx => HB.out x (List.mem_of_mem_take hx))
      have h2 : (us.take k).length ≤ n := by rw [List.length_take, HLL.out]; omega
      simp only [List.length_append]; omega
    by_cases hlt : k < n
    · obtain ⟨_, b, o, rfl, hbb, hc⟩ := (hr.below hbl).num hlt
      have hx := getD_in HB.out (k := k) (by rw [HLL.out]; exact hlt)
      have HE := Lib.hid (encL_snoc (z := zs) (us := us) (k := k) (by rw [HLL.out]; exact hlt))
      generalize us.getD k 0 = x at *
      obtain ⟨hx0, hx1⟩ := hx
      have P2 := Lib.hid (ref_num_p x wr hx0 hx1)
      have hx9 := putI_nine hx0 hx1
      generalize putI x = y at *
      generalize zs ++ encL (us.take k) = z at *
      have hq1 : q ≤ 1000 := by omega
      have cA : q + y.length ≤ maxLen := by unfold maxLen; omega
      have cB : (q + y.length) * 1 ≤ 140737488355328 := by omega
      clear hq hen
      go_wp2_with fail
      refine Calls.mono P2.out ?_
      rintro e w2 ⟨A3, c3, rfl, hown3, hb3⟩
      have hown4 := own_below hown' hb3
      have hR3 := Reads.of_own hown3
      have hs2 := Nat.le_trans hbl.size hb3.size
      go_wp2_with (at_builtin; refine wpList_append_reads w2 rfl _ _ _ rfl w.heap.size 5 i0 _ 1 1 Try.underlying29 hi0 hz0 hz1 hz2 rfl Nat.one_pos _ _ _ rfl hown4 _ _ _ _ _ rfl hR3 (nums_one _ _) cA cB hs2 ?_; intro A5 c5 w5 hown5 hb5)
      rw [← nums_app, HE.out] at hown5
      go_roundw
      case rel => exact ⟨k + 1, q + y.length, A5, c5, by omega, by go_num, rfl, hown5, (hbl.trans (hb3.mono hbl.size)).trans hb5⟩
      case measure => simp [intOf]; omega
    · obtain rfl : k = n := by omega
      have HT : Hid (zs ++ encL (us.take k) = encU us) := by
        show _ = _
        rw [HU.out, List.take_of_length_le (by rw [HLL.out]; exact Nat.le_refl _)]
      rw [HT.out] at hown' hq
      go_wp2_with fail
      go_ret
      subst hq
      exact ⟨A', c', rfl, hown', hbl⟩
end Go.Proofs.Ytneigplmgellcaa
