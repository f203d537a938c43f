/- The page's products and quotients: what each computes. -/
import Derived.Test.YtpkdkkbmmkhhhaaFixMul
import Derived.Test.YtpkdkkbmmkhhhaaOverMath
namespace Go.Proofs.Ytpkdkkbmmkhhhaa
set_option maxRecDepth 20000
open Go.RowKit

theorem u64_and1 (x : Int) (h0 : 0 ≤ x) (h1 : x ≤ 18446744073709551615) : bits .and .u64 x 1 = x % 2 := by
  obtain ⟨p, rfl⟩ := Int.eq_ofNat_of_zero_le h0
  have e2 : (1 : Int) = ((1 : Nat) : Int) := rfl
  rw [e2, u64_and_nat _ _ (by omega) (by omega), Nat.and_one_is_mod]
  omega
theorem u64_or1 (x be : Int) (h0 : 0 ≤ x) (h1 : x ≤ 18446744073709551615) (he : x % 2 = 0) (b0 : 0 ≤ be) (b1 : be ≤ 1) : bits .or .u64 x be = x + be := by
  obtain ⟨p, rfl⟩ := Int.eq_ofNat_of_zero_le h0
  obtain ⟨q, rfl⟩ := Int.eq_ofNat_of_zero_le b0
  rw [u64_or_nat _ _ (by omega) (by omega)]
  have h := Nat.two_pow_add_eq_or_of_lt (i := 1) (b := q) (by omega) (p / 2)
  have e : 2 ^ 1 * (p / 2) = p := by omega
  rw [e] at h
  rw [← h]; simp
theorem div_range (x : Int) (k : Nat) (h0 : 0 ≤ x) (h1 : x ≤ 18446744073709551615) : 0 ≤ x / 2 ^ k ∧ x / 2 ^ k ≤ 18446744073709551615 := by
  have hp := two_pos k
  have h2 := Int.ediv_nonneg h0 (Int.le_of_lt hp)
  have h3 : x / 2 ^ k ≤ x := Int.ediv_le_self _ h0
  omega
theorem bit_of (hi lo z : Int) (j : Nat) (h0 : 0 ≤ hi) (h1 : hi ≤ 18446744073709551615) (l0 : 0 ≤ lo) (l1 : lo ≤ 18446744073709551615) (hz : z = (j : Int)) (hj : j < 128) :
    (64 ≤ z → bits .and .u64 (hi / 2 ^ (z % 64).toNat) 1 = (hi * 18446744073709551616 + lo) / 2 ^ j % 2) ∧ (z < 64 → bits .and .u64 (lo / 2 ^ (z % 64).toNat) 1 = (hi * 18446744073709551616 + lo) / 2 ^ j % 2) := by
  subst hz
  refine ⟨fun h => ?_, fun h => ?_⟩
  · have e : ((j : Int) % 64).toNat = j - 64 := by omega
    have e2 : j = 64 + (j - 64) := by omega
    have hd := div_range hi (j - 64) h0 h1
    rw [e, u64_and1 _ hd.1 hd.2]
    conv => rhs; rw [e2]
    rw [bit_hi _ _ _ l0 (by omega)]
  · have e : ((j : Int) % 64).toNat = j := by omega
    have hd := div_range lo j l0 l1
    rw [e, u64_and1 _ hd.1 hd.2, bit_lo _ _ _ (by omega)]

def overQ (W b : Int) : Int := if 18446744073709551616 ≤ W / b then 18446744073709551615 else W / b

set_option maxHeartbeats 1600000 in
set_option maxRecDepth 20000 in
theorem ref_over (hi lo b : Int) (w : World) (h0 : 0 ≤ hi) (h1 : hi ≤ 18446744073709551615) (l0 : 0 ≤ lo) (l1 : lo ≤ 18446744073709551615) (b0 : 0 < b) (b1 : b ≤ 18446744073709551615) :
    Calls Try.prog 66 #[.agg #[.int .u64 hi, .int .u64 lo], .int .u64 b] w fun e w' => e = .returned (.tuple #[.int .u64 (overQ (hi * 18446744073709551616 + lo) b), .bool (decide (0 < (hi * 18446744073709551616 + lo) % b))]) ∧ Below w.heap.size w w' := by
  have hW : 0 ≤ hi * 18446744073709551616 + lo := by omega
  have hW128 : hi * 18446744073709551616 + lo < 2 ^ 128 := by
    have : (2 : Int) ^ 128 = 340282366920938463463374607431768211456 := by decide
    omega
  have HS := Lib.hid (OverInv.start (b := b) hW hW128)
  have BIT := Lib.hid (fun z j => bit_of hi lo z j h0 h1 l0 l1)
  clear hW128
  generalize hWW : hi * 18446744073709551616 + lo = W at *
  clear hWW
  go_enter Try.func66, Try.ntmps66
  go_wp2
  go_loop [6, 7, 8, 9] (fun q r g i => ∃ (k : Nat) (z R Q : Int) (gg : Bool), i = .int .i64 z ∧ z = (k : Int) - 1 ∧ q = .int .u64 Q ∧ r = .int .u64 R ∧ g = .bool gg ∧ 0 ≤ R ∧ R < b ∧ 0 ≤ Q ∧ Q ≤ 18446744073709551615 ∧ k ≤ 128 ∧ OverInv W b k R Q gg) (fun _ _ _ i => (intOf i + 1).toNat)
  case atStart => exact ⟨128, _, _, _, _, rfl, by omega, rfl, rfl, rfl, by omega, by omega, by omega, by omega, by omega, HS.out⟩
  case round =>
    obtain ⟨k, z, R, Q, gg, rfl, hz, rfl, rfl, rfl, r0, r1, q0, q1, hk, hinv⟩ := hrel
    by_cases hk0 : 0 ≤ z
    · have hz127 : z ≤ 127 := by omega
      obtain ⟨j, rfl⟩ : ∃ j, k = j + 1 := ⟨k - 1, by omega⟩
      have HB := BIT.out z j (by omega) (by omega)
      have INO := Lib.hid (fun be h h' => OverInv.no (be := be) hinv b0 hW h h')
      have IYES := Lib.hid (fun be h h' => OverInv.yes (be := be) hinv b0 hW h h')
      have hbe0 : 0 ≤ W / 2 ^ j % 2 := by omega
      have hbe1 : W / 2 ^ j % 2 ≤ 1 := by omega
      generalize hbe : W / 2 ^ j % 2 = be at *
      have HBE := Lib.hid hbe
      have HZ := Lib.hid hz
      clear hbe hz hinv
      obtain ⟨Q2, hQ2⟩ : ∃ Q2, IntKind.u64.wrap (Q * 2) = Q2 := ⟨_, rfl⟩
      have hQ2' : Q2 = Q * 2 % 18446744073709551616 := by rw [← hQ2, u64_wrap]
      have hq1 : bits .or .u64 Q2 1 = Q2 + 1 := u64_or1 Q2 1 (by omega) (by omega) (by omega) (by omega) (by omega)
      have hq2 : bits .or .u64 (Q * 2) 1 = Q * 2 + 1 ∨ 9223372036854775808 ≤ Q := by
        by_cases h : 9223372036854775808 ≤ Q
        · exact .inr h
        · exact .inl (u64_or1 _ 1 (by omega) (by omega) (by omega) (by omega) (by omega))
      have HQ2 := Lib.hid hQ2'
      clear hQ2'
      have hX : ∃ X, X = 2 * R + be := ⟨_, rfl⟩
      obtain ⟨X, hX⟩ := hX
      have ho1 : R < 9223372036854775808 → bits .or .u64 (R * 2) be = X := fun h => by rw [u64_or1 _ _ (by omega) (by omega) (by omega) (by omega) (by omega)]; omega
      have ho2 : 9223372036854775808 ≤ R → bits .or .u64 (IntKind.u64.wrap (R * 2)) be = X - 18446744073709551616 := fun h => by
        rw [u64_wrap, u64_or1 _ _ (by omega) (by omega) (by omega) (by omega) (by omega)]; omega
      have ho3 : 9223372036854775808 ≤ R → IntKind.u64.wrap (X - 18446744073709551616 - b) = X - b := fun h => by rw [u64_wrap]; omega
      have hX0 : 0 ≤ X := by omega
      have hX1 : X < 2 * b := by omega
      have HX := Lib.hid hX
      clear hX
      by_cases h64 : 64 ≤ z
      · have hb1 := HB.1 h64
        clear HB
        by_cases ho : 9223372036854775808 ≤ R
        · have d1 : (R / 9223372036854775808 == 1) = true := by rw [beq_iff_eq]; omega
          have ho2 := ho2 ho
          have ho3 := ho3 ho
          have hc0 : 0 ≤ X - b := by have := HX.out; omega
          clear ho1
          by_cases hq : 9223372036854775808 ≤ Q
          · have d2 : (Q / 9223372036854775808 == 1) = true := by rw [beq_iff_eq]; omega
            have e1 : (gg || decide (9223372036854775808 ≤ Q)) = true := by simp [hq]
            have HI := IYES.out be rfl (by have := HX.out; omega)
            rw [← HX.out, ← HQ2.out, e1] at HI
            have HI := Lib.hid HI
            clear hq2 e1
            go_wp2
            go_round
            case rel => exact ⟨j, z - 1, X - b, Q2 + 1, true, rfl, by have := HZ.out; omega, by first | rfl | exact ret_val (by have := HQ2.out; omega), by first | rfl | exact ret_val (by omega), rfl, by omega, by omega, by have := HQ2.out; omega, by have := HQ2.out; omega, by omega, HI.out⟩
            case measure => simp [intOf]; omega
          · have d2 : (Q / 9223372036854775808 == 1) = false := by rw [beq_eq_false_iff_ne]; omega
            have e1 : (gg || decide (9223372036854775808 ≤ Q)) = gg := by simp only [decide_eq_false hq, Bool.or_false]
            have HI := IYES.out be rfl (by have := HX.out; omega)
            rw [← HX.out, ← HQ2.out, e1] at HI
            have HI := Lib.hid HI
            have hq2 := hq2.resolve_right hq
            clear e1
            go_wp2
            go_round
            case rel => exact ⟨j, z - 1, X - b, Q2 + 1, gg, rfl, by have := HZ.out; omega, by first | rfl | exact ret_val (by have := HQ2.out; omega), by first | rfl | exact ret_val (by omega), rfl, by omega, by omega, by have := HQ2.out; omega, by have := HQ2.out; omega, by omega, HI.out⟩
            case measure => simp [intOf]; omega
        · have d1 : (R / 9223372036854775808 == 1) = false := by rw [beq_eq_false_iff_ne]; omega
          have ho1 := ho1 (by omega)
          have ho' : R < 9223372036854775808 := by omega
          clear ho2 ho3
          by_cases hc : b ≤ X
          · have hc0 : 0 ≤ X - b := by omega
            by_cases hq : 9223372036854775808 ≤ Q
            · have d2 : (Q / 9223372036854775808 == 1) = true := by rw [beq_iff_eq]; omega
              have e1 : (gg || decide (9223372036854775808 ≤ Q)) = true := by simp [hq]
              have HI := IYES.out be rfl (by have := HX.out; omega)
              rw [← HX.out, ← HQ2.out, e1] at HI
              have HI := Lib.hid HI
              clear hq2 e1
              go_wp2
              go_round
              case rel => exact ⟨j, z - 1, X - b, Q2 + 1, true, rfl, by have := HZ.out; omega, by first | rfl | exact ret_val (by have := HQ2.out; omega), by first | rfl | exact ret_val (by omega), rfl, by omega, by omega, by have := HQ2.out; omega, by have := HQ2.out; omega, by omega, HI.out⟩
              case measure => simp [intOf]; omega
            · have d2 : (Q / 9223372036854775808 == 1) = false := by rw [beq_eq_false_iff_ne]; omega
              have e1 : (gg || decide (9223372036854775808 ≤ Q)) = gg := by simp only [decide_eq_false hq, Bool.or_false]
              have HI := IYES.out be rfl (by have := HX.out; omega)
              rw [← HX.out, ← HQ2.out, e1] at HI
              have HI := Lib.hid HI
              have hq2 := hq2.resolve_right hq
              clear e1
              go_wp2
              go_round
              case rel => exact ⟨j, z - 1, X - b, Q2 + 1, gg, rfl, by have := HZ.out; omega, by first | rfl | exact ret_val (by have := HQ2.out; omega), by first | rfl | exact ret_val (by omega), rfl, by omega, by omega, by have := HQ2.out; omega, by have := HQ2.out; omega, by omega, HI.out⟩
              case measure => simp [intOf]; omega
          · have hc' : X < b := by omega
            by_cases hq : 9223372036854775808 ≤ Q
            · have d2 : (Q / 9223372036854775808 == 1) = true := by rw [beq_iff_eq]; omega
              have e1 : (gg || decide (9223372036854775808 ≤ Q)) = true := by simp [hq]
              have HI := INO.out be rfl (by have := HX.out; omega)
              rw [← HX.out, ← HQ2.out, e1] at HI
              have HI := Lib.hid HI
              clear hq2 e1
              go_wp2
              go_round
              case rel => exact ⟨j, z - 1, X, Q2, true, rfl, by have := HZ.out; omega, by first | rfl | exact ret_val (by have := HQ2.out; omega), by first | rfl | exact ret_val (by omega), rfl, by omega, by omega, by have := HQ2.out; omega, by have := HQ2.out; omega, by omega, HI.out⟩
              case measure => simp [intOf]; omega
            · have d2 : (Q / 9223372036854775808 == 1) = false := by rw [beq_eq_false_iff_ne]; omega
              have e1 : (gg || decide (9223372036854775808 ≤ Q)) = gg := by simp only [decide_eq_false hq, Bool.or_false]
              have HI := INO.out be rfl (by have := HX.out; omega)
              rw [← HX.out, ← HQ2.out, e1] at HI
              have HI := Lib.hid HI
              have hq2 := hq2.resolve_right hq
              clear e1
              go_wp2
              go_round
              case rel => exact ⟨j, z - 1, X, Q2, gg, rfl, by have := HZ.out; omega, by first | rfl | exact ret_val (by have := HQ2.out; omega), by first | rfl | exact ret_val (by omega), rfl, by omega, by omega, by have := HQ2.out; omega, by have := HQ2.out; omega, by omega, HI.out⟩
              case measure => simp [intOf]; omega
      · have h64' : z < 64 := by omega
        have hb1 := HB.2 h64'
        clear HB
        by_cases ho : 9223372036854775808 ≤ R
        · have d1 : (R / 9223372036854775808 == 1) = true := by rw [beq_iff_eq]; omega
          have ho2 := ho2 ho
          have ho3 := ho3 ho
          have hc0 : 0 ≤ X - b := by have := HX.out; omega
          clear ho1
          by_cases hq : 9223372036854775808 ≤ Q
          · have d2 : (Q / 9223372036854775808 == 1) = true := by rw [beq_iff_eq]; omega
            have e1 : (gg || decide (9223372036854775808 ≤ Q)) = true := by simp [hq]
            have HI := IYES.out be rfl (by have := HX.out; omega)
            rw [← HX.out, ← HQ2.out, e1] at HI
            have HI := Lib.hid HI
            clear hq2 e1
            go_wp2
            go_round
            case rel => exact ⟨j, z - 1, X - b, Q2 + 1, true, rfl, by have := HZ.out; omega, by first | rfl | exact ret_val (by have := HQ2.out; omega), by first | rfl | exact ret_val (by omega), rfl, by omega, by omega, by have := HQ2.out; omega, by have := HQ2.out; omega, by omega, HI.out⟩
            case measure => simp [intOf]; omega
          · have d2 : (Q / 9223372036854775808 == 1) = false := by rw [beq_eq_false_iff_ne]; omega
            have e1 : (gg || decide (9223372036854775808 ≤ Q)) = gg := by simp only [decide_eq_false hq, Bool.or_false]
            have HI := IYES.out be rfl (by have := HX.out; omega)
            rw [← HX.out, ← HQ2.out, e1] at HI
            have HI := Lib.hid HI
            have hq2 := hq2.resolve_right hq
            clear e1
            go_wp2
            go_round
            case rel => exact ⟨j, z - 1, X - b, Q2 + 1, gg, rfl, by have := HZ.out; omega, by first | rfl | exact ret_val (by have := HQ2.out; omega), by first | rfl | exact ret_val (by omega), rfl, by omega, by omega, by have := HQ2.out; omega, by have := HQ2.out; omega, by omega, HI.out⟩
            case measure => simp [intOf]; omega
        · have d1 : (R / 9223372036854775808 == 1) = false := by rw [beq_eq_false_iff_ne]; omega
          have ho1 := ho1 (by omega)
          have ho' : R < 9223372036854775808 := by omega
          clear ho2 ho3
          by_cases hc : b ≤ X
          · have hc0 : 0 ≤ X - b := by omega
            by_cases hq : 9223372036854775808 ≤ Q
            · have d2 : (Q / 9223372036854775808 == 1) = true := by rw [beq_iff_eq]; omega
              have e1 : (gg || decide (9223372036854775808 ≤ Q)) = true := by simp [hq]
              have HI := IYES.out be rfl (by have := HX.out; omega)
              rw [← HX.out, ← HQ2.out, e1] at HI
              have HI := Lib.hid HI
              clear hq2 e1
              go_wp2
              go_round
              case rel => exact ⟨j, z - 1, X - b, Q2 + 1, true, rfl, by have := HZ.out; omega, by first | rfl | exact ret_val (by have := HQ2.out; omega), by first | rfl | exact ret_val (by omega), rfl, by omega, by omega, by have := HQ2.out; omega, by have := HQ2.out; omega, by omega, HI.out⟩
              case measure => simp [intOf]; omega
            · have d2 : (Q / 9223372036854775808 == 1) = false := by rw [beq_eq_false_iff_ne]; omega
              have e1 : (gg || decide (9223372036854775808 ≤ Q)) = gg := by simp only [decide_eq_false hq, Bool.or_false]
              have HI := IYES.out be rfl (by have := HX.out; omega)
              rw [← HX.out, ← HQ2.out, e1] at HI
              have HI := Lib.hid HI
              have hq2 := hq2.resolve_right hq
              clear e1
              go_wp2
              go_round
              case rel => exact ⟨j, z - 1, X - b, Q2 + 1, gg, rfl, by have := HZ.out; omega, by first | rfl | exact ret_val (by have := HQ2.out; omega), by first | rfl | exact ret_val (by omega), rfl, by omega, by omega, by have := HQ2.out; omega, by have := HQ2.out; omega, by omega, HI.out⟩
              case measure => simp [intOf]; omega
          · have hc' : X < b := by omega
            by_cases hq : 9223372036854775808 ≤ Q
            · have d2 : (Q / 9223372036854775808 == 1) = true := by rw [beq_iff_eq]; omega
              have e1 : (gg || decide (9223372036854775808 ≤ Q)) = true := by simp [hq]
              have HI := INO.out be rfl (by have := HX.out; omega)
              rw [← HX.out, ← HQ2.out, e1] at HI
              have HI := Lib.hid HI
              clear hq2 e1
              go_wp2
              go_round
              case rel => exact ⟨j, z - 1, X, Q2, true, rfl, by have := HZ.out; omega, by first | rfl | exact ret_val (by have := HQ2.out; omega), by first | rfl | exact ret_val (by omega), rfl, by omega, by omega, by have := HQ2.out; omega, by have := HQ2.out; omega, by omega, HI.out⟩
              case measure => simp [intOf]; omega
            · have d2 : (Q / 9223372036854775808 == 1) = false := by rw [beq_eq_false_iff_ne]; omega
              have e1 : (gg || decide (9223372036854775808 ≤ Q)) = gg := by simp only [decide_eq_false hq, Bool.or_false]
              have HI := INO.out be rfl (by have := HX.out; omega)
              rw [← HX.out, ← HQ2.out, e1] at HI
              have HI := Lib.hid HI
              have hq2 := hq2.resolve_right hq
              clear e1
              go_wp2
              go_round
              case rel => exact ⟨j, z - 1, X, Q2, gg, rfl, by have := HZ.out; omega, by first | rfl | exact ret_val (by have := HQ2.out; omega), by first | rfl | exact ret_val (by omega), rfl, by omega, by omega, by have := HQ2.out; omega, by have := HQ2.out; omega, by omega, HI.out⟩
              case measure => simp [intOf]; omega
    · have hk00 : k = 0 := by omega
      subst hk00
      obtain ⟨i1, i2, i3⟩ := hinv
      rw [Int.pow_zero, Int.ediv_one] at i1 i2 i3
      have hD : 0 ≤ W / b := Int.ediv_nonneg hW (Int.le_of_lt b0)
      by_cases hg : 18446744073709551616 ≤ W / b
      · have HQ : Hid (overQ W b = 18446744073709551615) := by show _ = _; unfold overQ; rw [if_pos hg]
        have e3 : gg = true := by rw [i3]; exact decide_eq_true hg
        have HR := Lib.hid i1
        subst e3
        clear i1 i2 i3 hz
        go_wp2
        go_ret2
        exact ⟨by rw [HQ.out, ← HR.out]; rfl, (Below.refl _ _).alloc (Nat.le_refl _) _⟩
      · have HQ : Hid (overQ W b = Q) := by show _ = _; unfold overQ; rw [if_neg hg, i2]; omega
        have e3 : gg = false := by rw [i3]; exact decide_eq_false hg
        have HR := Lib.hid i1
        subst e3
        clear i1 i2 i3 hz
        go_wp2
        go_ret2
        exact ⟨by rw [HQ.out, ← HR.out]; rfl, (Below.refl _ _).alloc (Nat.le_refl _) _⟩

end Go.Proofs.Ytpkdkkbmmkhhhaa
