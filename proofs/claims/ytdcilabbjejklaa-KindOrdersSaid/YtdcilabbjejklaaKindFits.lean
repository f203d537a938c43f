/- The walk of the law KindFits. -/
import Derived.Test.YtdcilabbjejklaaKindLaw
namespace Go.Proofs.Ytdcilabbjejklaa
open Go.RowKit Go.WideShapes Go.ChangeShapes

namespace lawKindFits
/-- How many of the first j terrains a class goes over. -/
def cnt (c : Int) : Nat → Int
  | 0 => 0
  | j + 1 => cnt c j + if 0 < price c j then 1 else 0
theorem price_le (c : Int) (h0 : 0 ≤ c) (h1 : c ≤ 2) (j : Nat) (hj : j < 6) : 0 ≤ price c j ∧ price c j ≤ 6 := by
  rcases (by omega : c = 0 ∨ c = 1 ∨ c = 2) with rfl | rfl | rfl <;> rcases (by omega : j = 0 ∨ j = 1 ∨ j = 2 ∨ j = 3 ∨ j = 4 ∨ j = 5) with rfl | rfl | rfl | rfl | rfl | rfl <;> decide
theorem cnt_le (c : Int) (j : Nat) : 0 ≤ cnt c j ∧ cnt c j ≤ j := by
  induction j with
  | zero => simp [cnt]
  | succ n ih => unfold cnt; split <;> omega
theorem cnt_end (c : Int) (h0 : 0 ≤ c) (h1 : c ≤ 2) : 1 ≤ cnt c 6 ∧ cnt c 6 ≤ 5 := by
  rcases (by omega : c = 0 ∨ c = 1 ∨ c = 2) with rfl | rfl | rfl <;> decide

theorem facts (k : Nat) (h : k < 4) : ∃ a b c d e : Int, kindV k = .agg #[.int .i64 a, .int .i64 b, .int .i64 c, .int .i64 d, .int .i64 e] ∧ 0 < a ∧ a ≤ 100000 ∧ 0 < b ∧ b ≤ 100000 ∧ 0 ≤ c ∧ c ≤ 2 ∧ 0 ≤ d ∧ d ≤ 1 ∧ 0 ≤ e ∧ e ≤ 4 ∧ a ≤ d * 65536 + 32768 ∧ b ≤ a + 32768 := by
  rcases (by omega : k = 0 ∨ k = 1 ∨ k = 2 ∨ k = 3) with rfl | rfl | rfl | rfl
  · exact ⟨24576, 16384, 0, 0, 0, rfl, by decide, by decide, by decide, by decide, by decide, by decide, by decide, by decide, by decide, by decide, by decide, by decide⟩
  · exact ⟨32768, 24576, 1, 0, 0, rfl, by decide, by decide, by decide, by decide, by decide, by decide, by decide, by decide, by decide, by decide, by decide, by decide⟩
  · exact ⟨81920, 8192, 0, 1, 0, rfl, by decide, by decide, by decide, by decide, by decide, by decide, by decide, by decide, by decide, by decide, by decide, by decide⟩
  · exact ⟨32768, 16384, 2, 0, 4, rfl, by decide, by decide, by decide, by decide, by decide, by decide, by decide, by decide, by decide, by decide, by decide, by decide⟩
theorem ok_at {k : Nat} (h : k < 4) : okInt k = 0 := by unfold okInt; rw [if_pos (by omega)]

set_option maxHeartbeats 1600000 in
set_option maxRecDepth 100000 in
theorem walk {H : Type} {enc : TypeId × Value → H} (w : World) {base : Nat} (v : Value) (d : DataW H) (p : List MemPlace) (hv : Value.okWide Try.prog w .any base 22 v)
    (ht : DataW.Trod enc Try.prog w 0 (fun _ => true) true 22 v d p) : Calls Try.prog 4 #[v] w fun e w' => e = .returned (.bool true) ∧ Below w.heap.size w w' := by
  obtain ⟨A, n, c, l, rfl, hnc, hcm, hr, hl, hz⟩ := open_list hv ht
  unfold maxLen at hcm
  clear hv ht hr hl hz
  go_enter Try.func4, Try.ntmps4
  go_wp2
  go_loopw [3] (fun i wr => ∃ (k : Nat), k ≤ 4 ∧ i = .int .i64 k ∧ Below w.heap.size w wr) (fun i _ => 4 - (intOf i).toNat)
  case atStart => exact ⟨0, by omega, rfl, Below.refl _ _⟩
  case round =>
    obtain ⟨k, hk, rfl, hbl⟩ := hrel
    by_cases h4 : k < 4
    · obtain ⟨a, b, cc, dd, ee, hkv, ha0, ha1, hb0, hb1, hc0, hc1, hd0, hd1, he0, he1, hab, hba⟩ := facts k h4
      have K := Lib.hid (fun W => kind_of k W)
      rw [hkv, ok_at h4] at K
      go_wp2_with fail
      refine (K.out _).mono ?_
      rintro e w1 ⟨rfl, hb1⟩
      go_wp2_with (go_at_call 17; go_in)
      generalize hW : w1.alloc (.cells #[.int .i64 a, .int .i64 b, .int .i64 cc, .int .i64 dd, .int .i64 ee] 24) = W
      have hcell : W.cell? ⟨w1.heap.size, 2, none⟩ = some (.int .i64 cc) := by
        rw [← hW, World.cell?_alloc_at _ _ _ _ rfl]; rfl
      have hlt : w1.heap.size < W.heap.size := by rw [← hW]; simp
      have hbW : Below w.heap.size w W := by
        rw [← hW]; exact (hbl.trans (hb1.mono hbl.size)).alloc (by have := hbl.size; have := hb1.size; omega) _
      clear hW
      generalize w1.heap.size = g at *
      go_loopw [6, 7, 8] (fun s n t wt => ∃ (j : Nat), j ≤ 6 ∧ s = .int .i64 (cnt cc j) ∧ n = .int .i64 (j - cnt cc j) ∧ t = .int .i64 j ∧ Below W.heap.size W wt) (fun _ _ t _ => 6 - (intOf t).toNat)
      case atStart => exact ⟨0, by omega, rfl, rfl, rfl, Below.refl _ _⟩
      case round =>
        obtain ⟨j, hj, rfl, rfl, rfl, hbj⟩ := hrel
        have hcl := cnt_le cc j
        by_cases h6 : j < 6
        · obtain ⟨hp0, hp6⟩ := price_le cc hc0 hc1 j h6
          have hcell2 := (hbj.cell (p := ⟨g, 2, none⟩) hlt).trans hcell
          have C := Lib.hid (fun W => kind_cost_yes cc j W hc0 hc1 (by omega) (by omega))
          have HC := Lib.hid (show cnt cc (j + 1) = cnt cc j + if 0 < price cc j then 1 else 0 from rfl)
          generalize price cc j = pr at *
          generalize hcc : cnt cc (j + 1) = cj1 at HC
          generalize cnt cc j = cj at *
          clear hcell
          by_cases hpr : 0 < pr
          · have hcj := HC.out
            rw [if_pos hpr] at hcj
            clear HC
            go_wp2_with fail
            refine (C.out _).mono ?_
            rintro e w2 ⟨rfl, hb2⟩
            go_wp2_with (go_at_call 17; go_in)
            go_roundw
            case rel => exact ⟨j + 1, by omega, by rw [hcc, hcj], by rw [hcc, hcj]; exact ret_val (by omega), by go_num, hbj.trans (hb2.mono hbj.size)⟩
            case measure => simp [intOf]; omega
          · have hcj := HC.out
            rw [if_neg hpr] at hcj
            clear HC
            go_wp2_with fail
            refine (C.out _).mono ?_
            rintro e w2 ⟨rfl, hb2⟩
            go_wp2_with (go_at_call 17; go_in)
            go_roundw
            case rel => exact ⟨j + 1, by omega, by rw [hcc, hcj]; exact ret_val (by omega), by rw [hcc, hcj]; exact ret_val (by omega), by go_num, hbj.trans (hb2.mono hbj.size)⟩
            case measure => simp [intOf]; omega
        · obtain rfl : j = 6 := by omega
          obtain ⟨he1, he5⟩ := cnt_end cc hc0 hc1
          generalize cnt cc 6 = c6 at *
          have hq1 : (c6 == 0) = false := beq_eq_false_iff_ne.2 (by omega)
          have hq2 : ((6 : Int) - c6 == 0) = false := beq_eq_false_iff_ne.2 (by omega)
          go_wp2
          exact ⟨⟨k + 1, by omega, by go_num, hbW.trans (hbj.mono hbW.size)⟩, by simp [intOf]; omega⟩
    · obtain rfl : k = 4 := by omega
      go_wp2_with fail
      refine (wakes_kind _).mono ?_
      rintro e w1 ⟨rfl, hb1⟩
      go_wp2
      go_ret
      exact ⟨rfl, hbl.trans (hb1.mono hbl.size)⟩
end lawKindFits
end Go.Proofs.Ytdcilabbjejklaa
