/- The walk of the law FixedDowns. -/
import Derived.Test.YtpkdkkbmmkhhhaaFixLaws
namespace Go.Proofs.Ytpkdkkbmmkhhhaa
open Go.RowKit Go.WideShapes Go.ChangeShapes

theorem trunc_mag {X Y : Int} (hX : -9223372036854775807 ≤ X) (hY : -9223372036854775807 ≤ Y) : (X * 65536).tdiv Y = sgn (mag X * 65536 / mag Y) (isNeg X != isNeg Y) ∧ ((X * 65536).tmod Y = 0 ↔ mag X * 65536 % mag Y = 0) ∧ isNeg X = decide (X < 0) ∧ isNeg Y = decide (Y < 0) := by
  have nX : nrm X = X := nrm_id hX
  have nY : nrm Y = Y := nrm_id hY
  unfold mag isNeg sgn
  rw [nX, nY]
  by_cases h1 : X < 0 <;> by_cases h2 : Y < 0
  · rw [if_pos h1, if_pos h2]
    have e : X * 65536 = -(-X * 65536) := by omega
    refine ⟨?_, ?_, rfl, rfl⟩
    · conv => lhs; rw [e, show Y = - -Y by omega, Int.neg_tdiv, Int.tdiv_neg, Int.neg_neg, Int.tdiv_eq_ediv_of_nonneg (by omega)]
      simp [h1, h2]
    · conv => lhs; rw [e, show Y = - -Y by omega, Int.neg_tmod, Int.tmod_neg, Int.tmod_eq_emod_of_nonneg (by omega)]
      omega
  · rw [if_pos h1, if_neg h2]
    have e : X * 65536 = -(-X * 65536) := by omega
    refine ⟨?_, ?_, rfl, rfl⟩
    · conv => lhs; rw [e, Int.neg_tdiv, Int.tdiv_eq_ediv_of_nonneg (by omega)]
      simp [h1, h2]
    · conv => lhs; rw [e, Int.neg_tmod, Int.tmod_eq_emod_of_nonneg (by omega)]
      omega
  · rw [if_neg h1, if_pos h2]
    refine ⟨?_, ?_, rfl, rfl⟩
    · conv => lhs; rw [show Y = - -Y by omega, Int.tdiv_neg, Int.tdiv_eq_ediv_of_nonneg (by omega)]
      simp [h1, h2]
    · conv => lhs; rw [show Y = - -Y by omega, Int.tmod_neg, Int.tmod_eq_emod_of_nonneg (by omega)]
  · rw [if_neg h1, if_neg h2]
    refine ⟨?_, ?_, rfl, rfl⟩
    · rw [Int.tdiv_eq_ediv_of_nonneg (by omega)]
      simp [h1, h2]
    · rw [Int.tmod_eq_emod_of_nonneg (by omega)]
theorem down_quo {X Y : Int} (h0 : -1073741824 ≤ X) (h1 : X ≤ 1073741824) (k0 : -1073741824 ≤ Y) (k1 : Y ≤ 1073741824) (hy : Y ≠ 0) :
    (((X * 65536).tmod Y ≠ 0 ∧ ((X < 0 ∧ ¬ Y < 0) ∨ (¬ X < 0 ∧ Y < 0))) → fdiv X Y = (X * 65536).tdiv Y - 1) ∧ (¬ ((X * 65536).tmod Y ≠ 0 ∧ ((X < 0 ∧ ¬ Y < 0) ∨ (¬ X < 0 ∧ Y < 0))) → fdiv X Y = (X * 65536).tdiv Y) ∧
    -70368744177664 ≤ (X * 65536).tdiv Y ∧ (X * 65536).tdiv Y ≤ 70368744177664 := by
  obtain ⟨t1, t2, t3, t4⟩ := trunc_mag (X := X) (Y := Y) (by omega) (by omega)
  have m1 : 0 ≤ mag X ∧ mag X ≤ 1073741824 := by unfold mag; rw [nrm_id (by omega)]; split <;> omega
  have m2 : 0 < mag Y := by
    have := mag_zero (b := Y)
    rw [nrm_id (a := Y) (by omega)] at this
    have := mag_range (a := Y) (by omega)
    omega
  have q0 : 0 ≤ mag X * 65536 / mag Y := Int.ediv_nonneg (by omega) (by omega)
  have q1 : mag X * 65536 / mag Y ≤ 70368744177664 := by
    refine Int.le_trans (Int.ediv_le_self _ (by omega)) (by omega)
  have r0 := Int.emod_nonneg (mag X * 65536) (show mag Y ≠ 0 by omega)
  rw [fdiv_some (by omega), t1]
  have hs : (isNeg X != isNeg Y) = decide ((X < 0 ∧ ¬ Y < 0) ∨ (¬ X < 0 ∧ Y < 0)) := by
    rw [t3, t4]
    by_cases a : X < 0 <;> by_cases b : Y < 0 <;> simp [a, b]
  rw [hs]
  generalize mag X * 65536 / mag Y = Q at *
  generalize mag X * 65536 % mag Y = R at *
  by_cases hc : (X < 0 ∧ ¬ Y < 0) ∨ (¬ X < 0 ∧ Y < 0)
  · rw [decide_eq_true hc]
    refine ⟨fun h => ?_, fun h => ?_, ?_, ?_⟩
    · have hR : R ≠ 0 := fun h' => h.1 (t2.2 h')
      rw [show dn Q R true = Q + 1 by unfold dn; rw [if_pos ⟨rfl, by omega⟩], (sg_val _ _).2 (by omega)]
      unfold sgn; simp; omega
    · have hR : R = 0 := by
        by_cases hr : R = 0
        · exact hr
        · exact absurd ⟨fun h' => hr (t2.1 h'), hc⟩ h
      rw [show dn Q R true = Q by unfold dn; rw [if_neg (by omega)], (sg_val _ _).2 (by omega)]
    · unfold sgn; simp; omega
    · unfold sgn; simp; omega
  · rw [decide_eq_false hc]
    refine ⟨fun h => absurd h.2 hc, fun _ => ?_, ?_, ?_⟩
    · rw [show dn Q R false = Q by unfold dn; rw [if_neg (by simp)], (sg_val _ _).2 (by omega)]
    · unfold sgn; simp; omega
    · unfold sgn; simp; omega
theorem down_mul {X Y : Int} (h0 : -1073741824 ≤ X) (h1 : X ≤ 1073741824) (k0 : -1073741824 ≤ Y) (k1 : Y ≤ 1073741824) : fmul X Y = X * Y / 65536 ∧ -1152921504606846976 ≤ X * Y ∧ X * Y ≤ 1152921504606846976 := by
  have b : -1152921504606846976 ≤ X * Y ∧ X * Y ≤ 1152921504606846976 := by
    by_cases hx : 0 ≤ X
    · have u1 := Int.mul_le_mul_of_nonneg_left k1 hx
      have u2 := Int.mul_le_mul_of_nonneg_left k0 hx
      omega
    · have u1 := Int.mul_le_mul_of_nonneg_left k1 (show 0 ≤ -X by omega)
      have u2 := Int.mul_le_mul_of_nonneg_left k0 (show 0 ≤ -X by omega)
      rw [Int.neg_mul X Y] at u1
      rw [Int.neg_mul X Y] at u2
      omega
  refine ⟨?_, b⟩
  unfold fmul
  rw [nrm_id (by omega), nrm_id (by omega), clp_id (by omega) (by omega)]
theorem rem_small30 (x : Int) : -1073741824 ≤ x.tmod 1073741824 ∧ x.tmod 1073741824 ≤ 1073741824 := by
  have h1 := Int.tmod_lt_of_pos x (b := 1073741824) (by omega)
  have h2 := Int.lt_tmod_of_pos x (b := 1073741824) (by omega)
  omega
theorem end_downs : fmul (-1) 1 = -1 ∧ fdiv (-1) 131072 = -1 := by decide +kernel

namespace lawFixedDowns
set_option maxHeartbeats 3200000 in
set_option maxRecDepth 100000 in
theorem walk {H : Type} {enc : TypeId × Value → H} (w : World) {base : Nat} (v : Value) (d : DataW H) (p : List MemPlace) (hv : Value.okWide Try.prog w .any base 31 v)
    (ht : DataW.Trod enc Try.prog w 0 (fun _ => true) true 31 v d p) : Calls Try.prog 16 #[v] w fun e w' => e = .returned (.bool true) ∧ Below w.heap.size w w' := by
  obtain ⟨A, n, c, rfl, hnc, hcm, ha⟩ := open_asks1 hv ht
  unfold maxLen at hcm
  clear hv ht
  go_enter Try.func16, Try.ntmps16
  go_wp2
  go_loopw [3] (fun i wr => ∃ (k : Nat), k ≤ n ∧ k ≤ 30 ∧ i = .int .i64 k ∧ Below w.heap.size w wr) (fun i _ => n - (intOf i).toNat)
  case atStart => exact ⟨0, Nat.zero_le _, by omega, rfl, Below.refl _ _⟩
  case round =>
    obtain ⟨k, hk, hk20, rfl, hbl⟩ := hrel
    by_cases hlt : k < n
    · by_cases h20 : k < 30
      · obtain ⟨b, o, x, y, z, rfl, hb, hc1, hc2, hc3, ⟨hx0, hx1⟩, ⟨hy0, hy1⟩, ⟨hz0, hz1⟩⟩ := ha.below hbl k hlt
        clear ha
        obtain ⟨X0, X1⟩ := rem_small30 x
        obtain ⟨Y0, Y1⟩ := rem_small30 y
        obtain ⟨v1, p0, p1⟩ := down_mul X0 X1 Y0 Y1
        clear hc3
        go_wp2_with fail
        go_quiet (fail)
        go_wp2_with fail
        generalize x.tmod 1073741824 = X at *
        generalize y.tmod 1073741824 = Y at *
        clear hx0 hx1 hy0 hy1 hc1 hc2
        have E1 := fun W => fix_mul X Y W (by omega) (by omega)
        rw [v1] at E1
        clear v1
        have E1 := Lib.hid E1
        refine Calls.mono (E1.out _) ?_
        rintro e w2 ⟨rfl, rfl⟩
        by_cases hy : Y = 0
        · have yb : (Y != 0) = false := by simp [hy]
          clear hy
          go_wp2
          go_roundw
          case rel => exact ⟨k + 1, by omega, by omega, by go_num, below_drewN hbl _⟩
          case measure => simp [intOf]; omega
        · have yb : (Y != 0) = true := by simp [hy]
          obtain ⟨d1, d2, T0, T1⟩ := down_quo X0 X1 Y0 Y1 hy
          have E2 := fun W => fix_div X Y W (by omega) (by omega)
          have hcs : (X * 65536).tmod Y = 0 ∨ ((X * 65536).tmod Y ≠ 0 ∧ X < 0 ∧ Y < 0) ∨ ((X * 65536).tmod Y ≠ 0 ∧ ¬ X < 0 ∧ ¬ Y < 0) ∨ ((X * 65536).tmod Y ≠ 0 ∧ X < 0 ∧ ¬ Y < 0) ∨ ((X * 65536).tmod Y ≠ 0 ∧ ¬ X < 0 ∧ Y < 0) := by omega
          rcases hcs with hr | ⟨hr, sx, sy⟩ | ⟨hr, sx, sy⟩ | ⟨hr, sx, sy⟩ | ⟨hr, sx, sy⟩
          · have E2 := E2
            rw [d2 (fun h => h.1 hr)] at E2
            have rb : ((X * 65536).tmod Y != 0) = false := by simp [hr]
            generalize hT : (X * 65536).tdiv Y = T at *
            have tw : wrap64 ((X * 65536).tdiv Y) = T := by rw [hT]; exact IntWalk.wrap64_in _ (by omega)
            have tw2 : wrap64 ((X * 65536).tdiv Y - 1) = T - 1 := by rw [hT]; exact IntWalk.wrap64_in _ (by omega)
            clear d1 d2 hr hT
            have E2 := Lib.hid E2
            go_wp2_with fail
            refine Calls.mono (E2.out _) ?_
            rintro e w4 ⟨rfl, hb4⟩
            go_wp2
            go_roundw
            case rel => exact ⟨k + 1, by omega, by omega, by go_num, hbl.trans (((below_drewN (Below.refl _ _) _).trans (hb4.mono (by simp))).mono hbl.size)⟩
            case measure => simp [intOf]; omega
          · have E2 := E2
            rw [d2 (by omega)] at E2
            have rb : ((X * 65536).tmod Y != 0) = true := by simp [hr]
            have xb : decide (X * 65536 < 0) = true := by simp; omega
            have yb2 : decide (Y < 0) = true := by simp; omega
            generalize hT : (X * 65536).tdiv Y = T at *
            have tw : wrap64 ((X * 65536).tdiv Y) = T := by rw [hT]; exact IntWalk.wrap64_in _ (by omega)
            have tw2 : wrap64 ((X * 65536).tdiv Y - 1) = T - 1 := by rw [hT]; exact IntWalk.wrap64_in _ (by omega)
            clear d1 d2 hr hT
            have E2 := Lib.hid E2
            go_wp2_with fail
            refine Calls.mono (E2.out _) ?_
            rintro e w4 ⟨rfl, hb4⟩
            go_wp2
            go_roundw
            case rel => exact ⟨k + 1, by omega, by omega, by go_num, hbl.trans (((below_drewN (Below.refl _ _) _).trans (hb4.mono (by simp))).mono hbl.size)⟩
            case measure => simp [intOf]; omega
          · have E2 := E2
            rw [d2 (by omega)] at E2
            have rb : ((X * 65536).tmod Y != 0) = true := by simp [hr]
            have xb : decide (X * 65536 < 0) = false := by simp; omega
            have yb2 : decide (Y < 0) = false := by simp; omega
            generalize hT : (X * 65536).tdiv Y = T at *
            have tw : wrap64 ((X * 65536).tdiv Y) = T := by rw [hT]; exact IntWalk.wrap64_in _ (by omega)
            have tw2 : wrap64 ((X * 65536).tdiv Y - 1) = T - 1 := by rw [hT]; exact IntWalk.wrap64_in _ (by omega)
            have te : X * 65536 / Y = T := by rw [← hT, Int.tdiv_eq_ediv_of_nonneg (by omega)]
            have re : (X * 65536 % Y != 0) = true := by rw [← Int.tmod_eq_emod_of_nonneg (by omega)]; exact rb
            have re' : ¬ X * 65536 % Y = 0 := by simpa using re
            clear d1 d2 hr hT
            have E2 := Lib.hid E2
            go_wp2_with fail
            refine Calls.mono (E2.out _) ?_
            rintro e w4 ⟨rfl, hb4⟩
            go_wp2
            go_roundw
            case rel => exact ⟨k + 1, by omega, by omega, by go_num, hbl.trans (((below_drewN (Below.refl _ _) _).trans (hb4.mono (by simp))).mono hbl.size)⟩
            case measure => simp [intOf]; omega
          · have E2 := E2
            rw [d1 (by omega)] at E2
            have rb : ((X * 65536).tmod Y != 0) = true := by simp [hr]
            have xb : decide (X * 65536 < 0) = true := by simp; omega
            have yb2 : decide (Y < 0) = false := by simp; omega
            generalize hT : (X * 65536).tdiv Y = T at *
            have tw : wrap64 ((X * 65536).tdiv Y) = T := by rw [hT]; exact IntWalk.wrap64_in _ (by omega)
            have tw2 : wrap64 ((X * 65536).tdiv Y - 1) = T - 1 := by rw [hT]; exact IntWalk.wrap64_in _ (by omega)
            clear d1 d2 hr hT
            have E2 := Lib.hid E2
            go_wp2_with fail
            refine Calls.mono (E2.out _) ?_
            rintro e w4 ⟨rfl, hb4⟩
            go_wp2
            go_roundw
            case rel => exact ⟨k + 1, by omega, by omega, by go_num, hbl.trans (((below_drewN (Below.refl _ _) _).trans (hb4.mono (by simp))).mono hbl.size)⟩
            case measure => simp [intOf]; omega
          · have E2 := E2
            rw [d1 (by omega)] at E2
            have rb : ((X * 65536).tmod Y != 0) = true := by simp [hr]
            have xb : decide (X * 65536 < 0) = false := by simp; omega
            have yb2 : decide (Y < 0) = true := by simp; omega
            generalize hT : (X * 65536).tdiv Y = T at *
            have tw : wrap64 ((X * 65536).tdiv Y) = T := by rw [hT]; exact IntWalk.wrap64_in _ (by omega)
            have tw2 : wrap64 ((X * 65536).tdiv Y - 1) = T - 1 := by rw [hT]; exact IntWalk.wrap64_in _ (by omega)
            have te : X * 65536 / Y = T := by rw [← hT, Int.tdiv_eq_ediv_of_nonneg (by omega)]
            have re : (X * 65536 % Y != 0) = true := by rw [← Int.tmod_eq_emod_of_nonneg (by omega)]; exact rb
            have re' : ¬ X * 65536 % Y = 0 := by simpa using re
            have tw3 : wrap64 (X * 65536 / Y) = T := by rw [te]; exact IntWalk.wrap64_in _ (by omega)
            have tw4 : wrap64 (X * 65536 / Y - 1) = T - 1 := by rw [te]; exact IntWalk.wrap64_in _ (by omega)
            clear d1 d2 hr hT
            have E2 := Lib.hid E2
            go_wp2_with fail
            refine Calls.mono (E2.out _) ?_
            rintro e w4 ⟨rfl, hb4⟩
            go_wp2
            go_roundw
            case rel => exact ⟨k + 1, by omega, by omega, by go_num, hbl.trans (((below_drewN (Below.refl _ _) _).trans (hb4.mono (by simp))).mono hbl.size)⟩
            case measure => simp [intOf]; omega
      · obtain ⟨v1, v2⟩ := end_downs
        have E1 := fun W => fix_mul (-1) 1 W (by omega) (by omega)
        have E2 := fun W => fix_div (-1) 131072 W (by omega) (by omega)
        rw [v1] at E1
        rw [v2] at E2
        clear ha v1 v2
        have E1 := Lib.hid E1
        have E2 := Lib.hid E2
        go_wp2_with (first | (go_at_call 26; ((with_reducible refine Calls.mono (E1.out _) ?_); rintro e w1 ⟨rfl, rfl⟩)))
        refine Calls.mono (E2.out _) ?_
        rintro e w2 ⟨rfl, hb2⟩
        go_wp2_with fail
        refine Calls.mono (wakes1 _) ?_
        rintro e w6 ⟨rfl, hb6⟩
        go_wp2
        go_ret
        exact ⟨rfl, hbl.trans ((hb2.trans (hb6.mono hb2.size)).mono hbl.size)⟩
    · obtain ⟨v1, v2⟩ := end_downs
      have E1 := fun W => fix_mul (-1) 1 W (by omega) (by omega)
      have E2 := fun W => fix_div (-1) 131072 W (by omega) (by omega)
      rw [v1] at E1
      rw [v2] at E2
      clear ha v1 v2
      have E1 := Lib.hid E1
      have E2 := Lib.hid E2
      go_wp2_with (first | (go_at_call 26; ((with_reducible refine Calls.mono (E1.out _) ?_); rintro e w1 ⟨rfl, rfl⟩)))
      refine Calls.mono (E2.out _) ?_
      rintro e w2 ⟨rfl, hb2⟩
      go_wp2_with fail
      refine Calls.mono (wakes1 _) ?_
      rintro e w6 ⟨rfl, hb6⟩
      go_wp2
      go_ret
      exact ⟨rfl, hbl.trans ((hb2.trans (hb6.mono hb2.size)).mono hbl.size)⟩
end lawFixedDowns
end Go.Proofs.Ytpkdkkbmmkhhhaa
