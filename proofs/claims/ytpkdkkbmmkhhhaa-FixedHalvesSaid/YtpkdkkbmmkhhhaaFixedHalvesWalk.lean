/- The walk of the law FixedHalves. -/
import Derived.Test.YtpkdkkbmmkhhhaaFixLaws
namespace Go.Proofs.Ytpkdkkbmmkhhhaa
open Go.RowKit Go.WideShapes Go.ChangeShapes

theorem rem_between (x m : Int) (hm : 0 < m) : -m < x.tmod m ∧ x.tmod m < m := by
  have h1 := Int.tmod_lt_of_pos x hm
  have h2 := Int.lt_tmod_of_pos x hm
  omega
theorem half_mul {a : Int} (h0 : -1099511627776 < a) (h1 : a < 1099511627776) : fmul a 131072 = 2 * a ∧ fdiv (2 * a) 131072 = a ∧ fmul a (-65536) = -a ∧ fdiv a (-65536) = -a := by
  have n1 : nrm a = a := nrm_id (by omega)
  have n2 : nrm (2 * a) = 2 * a := nrm_id (by omega)
  refine ⟨?_, ?_, ?_, ?_⟩
  · unfold fmul
    rw [n1, show nrm 131072 = 131072 from rfl, show a * 131072 / 65536 = 2 * a by omega, clp_id (by omega) (by omega)]
  · rw [fdiv_pos (by omega) (by omega) (by decide), n2, show nrm 131072 = 131072 from rfl, show 2 * a * 65536 / 131072 = a by omega, clp_id (by omega) (by omega)]
  · unfold fmul
    rw [n1, show nrm (-65536) = -65536 from rfl, show a * -65536 / 65536 = -a by omega, clp_id (by omega) (by omega)]
  · rw [fdiv_neg (by omega) (by omega) (by decide), n1, show nrm (-65536) = -65536 from rfl, show (-(-65536) : Int) = 65536 from rfl, show -a * 65536 / 65536 = -a by omega, clp_id (by omega) (by omega)]
theorem quo_back {a b : Int} (h0 : -1099511627776 < a) (h1 : a < 1099511627776) (hb : 0 < b) (hb1 : b < 1048576) : fdiv a b * b ≤ a * 65536 ∧ a * 65536 < fdiv a b * b + b := by
  have k1 := Int.ediv_mul_add_emod (a * 65536) b
  have k2 := Int.emod_nonneg (a * 65536) (show b ≠ 0 by omega)
  have k3 := Int.emod_lt_of_pos (a * 65536) hb
  have k4 : a * 65536 / b ≤ 9223372036854775807 := by
    by_cases hc : a * 65536 / b ≤ 9223372036854775807
    · exact hc
    · have := Int.mul_le_mul_of_nonneg_left (show (1 : Int) ≤ b by omega) (show 0 ≤ a * 65536 / b by omega)
      omega
  have k5 : -9223372036854775807 ≤ a * 65536 / b := by
    by_cases hc : -9223372036854775807 ≤ a * 65536 / b
    · exact hc
    · have := Int.mul_le_mul_of_nonneg_left (show (1 : Int) ≤ b by omega) (show 0 ≤ -(a * 65536 / b) by omega)
      rw [Int.mul_one, Int.neg_mul] at this
      omega
  rw [fdiv_pos (by omega) (by omega) (by rw [nrm_id (by omega)]; exact hb), nrm_id (a := a) (by omega), nrm_id (a := b) (by omega), clp_id k5 k4]
  omega

namespace lawFixedHalves
set_option maxHeartbeats 3200000 in
set_option maxRecDepth 100000 in
theorem walk {H : Type} {enc : TypeId × Value → H} (w : World) {base : Nat} (v : Value) (d : DataW H) (p : List MemPlace) (hv : Value.okWide Try.prog w .any base 31 v)
    (ht : DataW.Trod enc Try.prog w 0 (fun _ => true) true 31 v d p) : Calls Try.prog 17 #[v] w fun e w' => e = .returned (.bool true) ∧ Below w.heap.size w w' := by
  obtain ⟨A, n, c, rfl, hnc, hcm, ha⟩ := open_asks1 hv ht
  unfold maxLen at hcm
  clear hv ht
  go_enter Try.func17, Try.ntmps17
  go_wp2
  go_loopw [3] (fun i wr => ∃ (k : Nat), k ≤ n ∧ k ≤ 30 ∧ i = .int .i64 k ∧ Below w.heap.size w wr) (fun i _ => n - (intOf i).toNat)
  case atStart => exact ⟨0, Nat.zero_le _, by omega, rfl, Below.refl _ _⟩
  case round =>
    obtain ⟨k, hk, hk20, rfl, hbl⟩ := hrel
    by_cases hlt : k < n
    · by_cases h20 : k < 30
      · obtain ⟨b, o, x, y, z, rfl, hb, hc1, hc2, hc3, ⟨hx0, hx1⟩, ⟨hy0, hy1⟩, ⟨hz0, hz1⟩⟩ := ha.below hbl k hlt
        clear ha
        obtain ⟨X0, X1⟩ := rem_between x 1099511627776 (by omega)
        obtain ⟨Y0, Y1⟩ := rem_between y 1048576 (by omega)
        clear hc3
        go_wp2_with fail
        go_quiet (fail)
        go_wp2_with fail
        generalize x.tmod 1099511627776 = X at *
        generalize y.tmod 1048576 = Y at *
        clear hx0 hx1 hy0 hy1 hc1 hc2
        obtain ⟨v1, v2, v3, v4⟩ := half_mul X0 X1
        have E1 := fun W => fix_mul X 131072 W (by omega) (by omega)
        have E2 := fun W => fix_div (2 * X) 131072 W (by omega) (by omega)
        have E3 := fun W => fix_mul X (-65536) W (by omega) (by omega)
        have E4 := fun W => fix_div X (-65536) W (by omega) (by omega)
        have E5 := Lib.hid (fun W => fix_div X Y W (by omega) (by omega))
        rw [v1] at E1
        rw [v2] at E2
        rw [v3] at E3
        rw [v4] at E4
        clear v1 v2 v3 v4
        have E1 := Lib.hid E1
        have E2 := Lib.hid E2
        have E3 := Lib.hid E3
        have E4 := Lib.hid E4
        refine Calls.mono (E1.out _) ?_
        rintro e w2 ⟨rfl, rfl⟩
        go_wp2_with fail
        refine Calls.mono (E2.out _) ?_
        rintro e w2 ⟨rfl, hb2⟩
        go_wp2_with (first | (go_at_call 26; ((with_reducible refine Calls.mono (E3.out _) ?_); rintro e w1 ⟨rfl, rfl⟩)))
        refine Calls.mono (E4.out _) ?_
        rintro e w3 ⟨rfl, hb3⟩
        have hb3' : Below wr.heap.size wr w3 := ((below_drewN (Below.refl _ _) _).trans hb2).trans (hb3.mono hb2.size)
        clear hb2 hb3
        by_cases hy : 0 < Y
        · obtain ⟨q1, q2⟩ := quo_back X0 X1 hy Y1
          generalize fdiv X Y = Q at *
          go_wp2_with fail
          refine Calls.mono (E5.out _) ?_
          rintro e w4 ⟨rfl, hb4⟩
          go_wp2
          go_roundw
          case rel => exact ⟨k + 1, by omega, by omega, by go_num, hbl.trans ((hb3'.trans (hb4.mono hb3'.size)).mono hbl.size)⟩
          case measure => simp [intOf]; omega
        · go_wp2
          go_roundw
          case rel => exact ⟨k + 1, by omega, by omega, by go_num, hbl.trans (hb3'.mono hbl.size)⟩
          case measure => simp [intOf]; omega
      · go_wp2_with (first | (go_at_call 28; refine (wakes1 _).mono ?_; rintro e w1 ⟨rfl, hb1⟩))
        go_ret
        exact ⟨rfl, hbl.trans (hb1.mono hbl.size)⟩
    · go_wp2_with (first | (go_at_call 28; refine (wakes1 _).mono ?_; rintro e w1 ⟨rfl, hb1⟩))
      go_ret
      exact ⟨rfl, hbl.trans (hb1.mono hbl.size)⟩
end lawFixedHalves
end Go.Proofs.Ytpkdkkbmmkhhhaa
