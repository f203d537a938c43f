/- The walk of the law VecSquares. -/
import Derived.Test.YtpkdkkbmmkhhhaaVecWithin
import Derived.Test.YtpkdkkbmmkhhhaaVecLaw
namespace Go.Proofs.Ytpkdkkbmmkhhhaa
set_option maxRecDepth 20000
open Go.RowKit Go.WideShapes Go.ChangeShapes

theorem mag_sq {x : Int} (h : -9223372036854775807 ≤ x) : mag x * mag x = x * x := by
  unfold mag
  rw [nrm_id h]
  split
  · rw [Int.neg_mul_neg]
  · rfl
theorem sq_small {x : Int} {m : Int} (h0 : -m ≤ x) (h1 : x ≤ m) : 0 ≤ x * x ∧ x * x ≤ m * m := by
  by_cases hx : 0 ≤ x
  · exact ⟨Int.mul_nonneg hx hx, sq_le hx h1⟩
  · have := sq_le (a := -x) (b := m) (by omega) (by omega)
    rw [Int.neg_mul_neg] at this
    have h3 := Int.mul_nonneg (a := -x) (b := -x) (by omega) (by omega)
    rw [Int.neg_mul_neg] at h3
    exact ⟨h3, this⟩
theorem len_small {x y : Int} (hx0 : -1073741824 ≤ x) (hx1 : x ≤ 1073741824) (hy0 : -1073741824 ≤ y) (hy1 : y ≤ 1073741824) :
    0 ≤ vlen x y ∧ vlen x y ≤ 2147483647 ∧ vlen x y * vlen x y ≤ x * x + y * y ∧ x * x + y * y < (vlen x y + 1) * (vlen x y + 1) ∧ (vlen x y + 1) * (vlen x y + 1) ≤ 4611686018427387904 := by
  obtain ⟨a0, a1⟩ := sq_small hx0 hx1
  obtain ⟨b0, b1⟩ := sq_small hy0 hy1
  have e : sq2 x y = x * x + y * y := by unfold sq2; rw [mag_sq (by omega), mag_sq (by omega)]
  have h := root_spec (W := sq2 x y) (by omega)
  unfold vlen
  rw [e] at h ⊢
  obtain ⟨h0, h1, h2, h3⟩ := h
  have h4 : rootF (x * x + y * y) ≤ 2147483647 := by
    by_cases hc : rootF (x * x + y * y) ≤ 2147483647
    · exact hc
    · have := sq_le (a := 2147483648) (b := rootF (x * x + y * y)) (by omega) (by omega)
      omega
  have h5 := sq_le (a := rootF (x * x + y * y) + 1) (b := 2147483648) (by omega) (by omega)
  refine ⟨h0, h4, h2, ?_, by omega⟩
  rcases h3 with h3 | h3
  · omega
  · exact h3
theorem wake_len2 : vlen (-3) (-4) = 5 := by decide +kernel
theorem wake_len3 : vlen 9223372036854775807 9223372036854775807 = 9223372036854775807 := by decide +kernel
theorem fsub_small {x y : Int} (hx0 : -1073741824 ≤ x) (hx1 : x ≤ 1073741824) (hy0 : -1073741824 ≤ y) (hy1 : y ≤ 1073741824) : fsub x y = x - y := by
  unfold fsub fneg fadd
  rw [nrm_id (a := y) (by omega), nrm_id (a := x) (by omega), nrm_id (a := -y) (by omega), clp_id (by omega) (by omega)]
  omega
theorem within_small {x y k : Int} (hx0 : -1073741824 ≤ x) (hx1 : x ≤ 1073741824) (hy0 : -1073741824 ≤ y) (hy1 : y ≤ 1073741824) :
    vwithin x 0 0 y k = decide (0 ≤ k ∧ x * x + y * y < k * k) := by
  have e : sq2 (fsub x 0) (fsub 0 y) = x * x + y * y := by
    rw [fsub_small hx0 hx1 (by omega) (by omega), fsub_small (by omega) (by omega) hy0 hy1]
    unfold sq2; rw [mag_sq (by omega), mag_sq (by omega), Int.sub_zero, Int.zero_sub, Int.neg_mul_neg]
  unfold vwithin
  rw [e]
  obtain ⟨a0, _⟩ := sq_small hx0 hx1
  obtain ⟨b0, _⟩ := sq_small hy0 hy1
  refine decide_eq_decide.2 ⟨fun h => ⟨by omega, h.2⟩, fun h => ⟨?_, h.2⟩⟩
  by_cases hk : k = 0
  · subst hk; omega
  · omega
theorem rem_small (x : Int) : -1073741824 ≤ x.tmod 1073741824 ∧ x.tmod 1073741824 ≤ 1073741824 := by
  have h1 := Int.tmod_lt_of_pos x (b := 1073741824) (by omega)
  have h2 := Int.lt_tmod_of_pos x (b := 1073741824) (by omega)
  omega

namespace lawVecSquares
set_option maxHeartbeats 3200000 in
set_option maxRecDepth 100000 in
theorem walk {H : Type} {enc : TypeId × Value → H} (w : World) {base : Nat} (v : Value) (d : DataW H) (p : List MemPlace) (hv : Value.okWide Try.prog w .any base 22 v)
    (ht : DataW.Trod enc Try.prog w 0 (fun _ => true) true 22 v d p) : Calls Try.prog 8 #[v] w fun e w' => e = .returned (.bool true) ∧ Below w.heap.size w w' := by
  obtain ⟨A, n, c, rfl, hnc, hcm, ha⟩ := open_asks2 hv ht
  unfold maxLen at hcm
  clear hv ht
  go_enter Try.func8, Try.ntmps8
  go_wp2
  go_loopw [3] (fun i wr => ∃ (k : Nat), k ≤ n ∧ k ≤ 30 ∧ i = .int .i64 k ∧ Below w.heap.size w wr) (fun i _ => n - (intOf i).toNat)
  case atStart => exact ⟨0, Nat.zero_le _, by omega, rfl, Below.refl _ _⟩
  case round =>
    obtain ⟨k, hk, hk20, rfl, hbl⟩ := hrel
    by_cases hlt : k < n
    · by_cases h20 : k < 30
      · obtain ⟨b, o, x, y, p, q, z, rfl, hb, hc1, hc2, hc3, hc4, hc5, ⟨hx0, hx1⟩, ⟨hy0, hy1⟩, ⟨hp0, hp1⟩, ⟨hq0, hq1⟩, ⟨hz0, hz1⟩⟩ := ha.below hbl k hlt
        clear ha
        obtain ⟨X0, X1⟩ := rem_small x
        obtain ⟨Y0, Y1⟩ := rem_small y
        obtain ⟨Z0, Z1⟩ := rem_small z
        clear hc3 hc4
        go_wp2_with fail
        go_quiet (fail)
        go_wp2_with fail
        generalize x.tmod 1073741824 = X at *
        generalize y.tmod 1073741824 = Y at *
        clear hx0 hx1 hy0 hy1 hp0 hp1 hq0 hq1 hc1 hc2
        have M1 := Lib.hid (vec_len X Y (wr.drewN nq) (by omega) (by omega))
        obtain ⟨N0, N1, N2, N3, N4⟩ := len_small X0 X1 Y0 Y1
        obtain ⟨XX0, XX1⟩ := sq_small X0 X1
        obtain ⟨YY0, YY1⟩ := sq_small Y0 Y1
        obtain ⟨ZZ0, ZZ1⟩ := sq_small Z0 Z1
        obtain ⟨NN0, NN⟩ := sq_small (m := 2147483647) (show -2147483647 ≤ vlen X Y by omega) N1
        have NP0 := (sq_small (x := vlen X Y + 1) (m := 2147483648) (by omega) (by omega)).1
        have hV := within_small (k := z.tmod 1073741824) X0 X1 Y0 Y1
        have M4 := fun W => vec_within X 0 0 Y (z.tmod 1073741824) W (by omega) (by omega) (by omega) (by omega) (by omega)
        rw [hV] at M4
        clear hV
        generalize vlen X Y = N at *
        refine Calls.mono M1.out ?_
        rintro e w1 ⟨rfl, hb1⟩
        have hd5 : w1.cell? ⟨b, o + k * 5 + 4, none⟩ = some (.int .i64 z) := (hb1.cell (p := ⟨b, o + k * 5 + 4, none⟩) hb).trans hc5
        have hbl1 : Below wr.heap.size wr w1 := (below_drewN (Below.refl _ _) _).trans hb1
        clear M1 hc5 hb1
        by_cases hz : 0 ≤ z.tmod 1073741824
        · by_cases hs : X * X + Y * Y < z.tmod 1073741824 * z.tmod 1073741824
          · rw [decide_eq_true (⟨hz, hs⟩ : 0 ≤ z.tmod 1073741824 ∧ X * X + Y * Y < z.tmod 1073741824 * z.tmod 1073741824)] at M4
            have M4 := Lib.hid M4
            go_wp2_with fail
            refine Calls.mono (M4.out _) ?_
            rintro e w2 ⟨rfl, hb2⟩
            go_wp2
            go_roundw
            case rel => exact ⟨k + 1, by omega, by omega, by go_num, hbl.trans ((hbl1.trans (hb2.mono hbl1.size)).mono hbl.size)⟩
            case measure => simp [intOf]; omega
          · rw [decide_eq_false (fun h : 0 ≤ z.tmod 1073741824 ∧ X * X + Y * Y < z.tmod 1073741824 * z.tmod 1073741824 => hs h.2)] at M4
            have M4 := Lib.hid M4
            go_wp2_with fail
            refine Calls.mono (M4.out _) ?_
            rintro e w2 ⟨rfl, hb2⟩
            go_wp2
            go_roundw
            case rel => exact ⟨k + 1, by omega, by omega, by go_num, hbl.trans ((hbl1.trans (hb2.mono hbl1.size)).mono hbl.size)⟩
            case measure => simp [intOf]; omega
        · rw [decide_eq_false (fun h : 0 ≤ z.tmod 1073741824 ∧ X * X + Y * Y < z.tmod 1073741824 * z.tmod 1073741824 => hz h.1)] at M4
          have M4 := Lib.hid M4
          go_wp2_with fail
          refine Calls.mono (M4.out _) ?_
          rintro e w2 ⟨rfl, hb2⟩
          go_wp2
          go_roundw
          case rel => exact ⟨k + 1, by omega, by omega, by go_num, hbl.trans ((hbl1.trans (hb2.mono hbl1.size)).mono hbl.size)⟩
          case measure => simp [intOf]; omega
      · have M2 := Lib.hid (fun W => vec_len (-3) (-4) W (by omega) (by omega))
        have M3 := Lib.hid (fun W => vec_len 9223372036854775807 9223372036854775807 W (by omega) (by omega))
        rw [wake_len2] at M2
        rw [wake_len3] at M3
        clear ha
        go_wp2_with fail
        refine Calls.mono (M2.out _) ?_
        rintro e w1 ⟨rfl, hb1⟩
        go_wp2_with fail
        refine Calls.mono (M3.out _) ?_
        rintro e w2 ⟨rfl, hb2⟩
        go_wp2_with fail
        refine Calls.mono (wakes2 _) ?_
        rintro e w3 ⟨rfl, hb3⟩
        go_wp2
        go_ret
        exact ⟨rfl, hbl.trans ((hb1.trans ((hb2.trans (hb3.mono hb2.size)).mono hb1.size)).mono hbl.size)⟩
    · have M2 := Lib.hid (fun W => vec_len (-3) (-4) W (by omega) (by omega))
      have M3 := Lib.hid (fun W => vec_len 9223372036854775807 9223372036854775807 W (by omega) (by omega))
      rw [wake_len2] at M2
      rw [wake_len3] at M3
      clear ha
      go_wp2_with fail
      refine Calls.mono (M2.out _) ?_
      rintro e w1 ⟨rfl, hb1⟩
      go_wp2_with fail
      refine Calls.mono (M3.out _) ?_
      rintro e w2 ⟨rfl, hb2⟩
      go_wp2_with fail
      refine Calls.mono (wakes2 _) ?_
      rintro e w3 ⟨rfl, hb3⟩
      go_wp2
      go_ret
      exact ⟨rfl, hbl.trans ((hb1.trans ((hb2.trans (hb3.mono hb2.size)).mono hb1.size)).mono hbl.size)⟩
end lawVecSquares
end Go.Proofs.Ytpkdkkbmmkhhhaa
