/- math/bits.Div64: what it computes. -/
import Derived.Test.YtpkdkkbmmkhhhaaFixMul
import Derived.Test.YtpkdkkbmmkhhhaaMem
import Derived.Test.YtpkdkkbmmkhhhaaDivMath
namespace Go.Proofs.Ytpkdkkbmmkhhhaa
set_option maxRecDepth 20000
open Go.RowKit

set_option maxHeartbeats 1600000 in
set_option maxRecDepth 20000 in
theorem div64_zero (lo y : Int) (w : World) (l0 : 0 ≤ lo) (l1 : lo ≤ 18446744073709551615) (y0 : 0 < y) (y1 : y ≤ 18446744073709551615) :
    Calls Try.prog 76 #[.int .u64 0, .int .u64 lo, .int .u64 y] w fun e w' => e = .returned (.tuple #[.int .u64 (lo / y), .int .u64 (lo % y)]) ∧ Below w.heap.size w w' := by
  go_enter Try.func76, Try.ntmps76
  go_wp2
  go_quiet (fail)
  go_wp2
  go_ret2
  exact ⟨rfl, below_drewN (Below.refl _ _) _⟩

set_option maxHeartbeats 3200000 in
set_option maxRecDepth 20000 in
theorem div64_walk (hi lo y D y1 y0 N L a1 a0 : Int) (s : Nat) (w : World) (h0 : 0 < hi) (h1 : hi < y) (hs : s ≤ 63) (C : ∀ W, Calls Try.prog 79 #[.int .u64 y] W fun e w' => e = .returned (.int .i64 (s : Int)) ∧ W = w')
    (e1 : IntKind.u64.wrap (y * 2 ^ s) = D) (e2 : D / 4294967296 = y1) (e3 : bits .and .u64 D 4294967295 = y0) (e4 : bits .or .u64 (IntKind.u64.wrap (hi * 2 ^ s)) (lo / 2 ^ (64 - s)) = N)
    (e5 : IntKind.u64.wrap (lo * 2 ^ s) = L) (e6 : L / 4294967296 = a1) (e7 : bits .and .u64 L 4294967295 = a0)
    (g1 : Digit N D y1 y0 a1) (hD : D ≤ 18446744073709551615) (ha0 : 0 ≤ a0) (ha0' : a0 < 4294967296) :
    Calls Try.prog 76 #[.int .u64 hi, .int .u64 lo, .int .u64 y] w fun e w' => e = .returned (.tuple #[.int .u64 ((N * 4294967296 + a1) / D * 4294967296 + ((N * 4294967296 + a1) % D * 4294967296 + a0) / D), .int .u64 (((N * 4294967296 + a1) % D * 4294967296 + a0) % D / 2 ^ s)]) ∧ w = w' := by
  have C := Lib.hid C
  have G := Lib.hid g1
  have G0 := Lib.hid (Guess.start g1)
  have e8 : IntKind.u64.wrap (N - IntKind.u64.wrap (N / y1 * y1)) = N % y1 := by
    have k1 := Int.ediv_mul_add_emod N y1
    have k2 := g1.a1
    have k3 := Int.emod_nonneg N (show y1 ≠ 0 by omega)
    have k4 := Int.mul_nonneg (Int.ediv_nonneg g1.hN (show 0 ≤ y1 by omega)) (show 0 ≤ y1 by omega)
    have k5 := g1.hlt
    rw [u64_wrap, u64_wrap]
    omega
  rcases g1 with ⟨-, b1, b2, b3, b4, b5, b6, b7, b8⟩
  go_enter Try.func76, Try.ntmps76
  go_wp2_with fail
  refine Calls.mono (C.out _) ?_
  rintro e w1 ⟨rfl, rfl⟩
  go_wp2_with fail
  clear e1 e2 e3 e4 e5 e6 e7 e8
  go_loop [15, 16] (fun q r => ∃ Q R : Int, q = .int .u64 Q ∧ r = .int .u64 R ∧ Hid (Guess N D y1 a1 Q R) ∧ R < 4294967296) (fun q _ => (intOf q).toNat)
  case atStart => exact ⟨_, _, rfl, rfl, G0.out.1, G0.out.2⟩
  case round =>
    obtain ⟨Q, R, rfl, rfl, HG, hR⟩ := hrel
    have HG' := HG.out
    have hR0 := HG'.2.2.1
    have hQ0 := HG'.2.2.2.1
    have hQ1 := HG'.2.2.2.2
    clear HG' G0
    by_cases hge : 4294967296 ≤ Q
    · have hst := Lib.hid (HG.out.step G.out (.inl hge))
      have hQ2 := hst.out.2
      by_cases hbr : 4294967296 ≤ R + y1
      · have HQ := Lib.hid (hst.out.1.great G.out (by omega) hbr)
        have e9 : IntKind.u64.wrap (IntKind.u64.wrap (IntKind.u64.wrap (N * 4294967296) + a1) - IntKind.u64.wrap ((Q - 1) * D)) = (N * 4294967296 + a1) % D := by
          rw [HQ.out, u64_wrap, u64_wrap, u64_wrap, u64_wrap]
          exact G.out.wrap hD
        have kQ := G.out.quo
        rw [← HQ.out] at kQ
        have hQb : (Q - 1) < 4294967296 := kQ.2.2.2
        have hQz : 0 ≤ (Q - 1) := kQ.2.2.1
        have G2 := Lib.hid (G.out.next ha0 ha0')
        have G0 := Lib.hid (Guess.start G2.out)
        have m0 := G2.out.hN
        have m1 := G2.out.hlt
        generalize hM : (N * 4294967296 + a1) % D = M at *
        have HM := Lib.hid hM
        clear hM
        have e10 : IntKind.u64.wrap (M - IntKind.u64.wrap (M / y1 * y1)) = M % y1 := by
          have k1 := Int.ediv_mul_add_emod M y1
          have k3 := Int.emod_nonneg M (show y1 ≠ 0 by omega)
          have k4 := Int.mul_nonneg (Int.ediv_nonneg m0 (show 0 ≤ y1 by omega)) (show 0 ≤ y1 by omega)
          rw [u64_wrap, u64_wrap]
          omega
        clear kQ HG
        go_wp2_with fail
        clear e9 e10
        go_loop [18, 16] (fun q r => ∃ Q2 R2 : Int, q = .int .u64 Q2 ∧ r = .int .u64 R2 ∧ Hid (Guess M D y1 a0 Q2 R2) ∧ R2 < 4294967296) (fun q _ => (intOf q).toNat)
        case atStart => exact ⟨_, _, rfl, rfl, G0.out.1, G0.out.2⟩
        case round =>
          obtain ⟨Q2, R2, rfl, rfl, HG2, hR2⟩ := hrel
          have HG' := HG2.out
          have hR20 := HG'.2.2.1
          have hQ20 := HG'.2.2.2.1
          have hQ21 := HG'.2.2.2.2
          clear HG' G0
          by_cases hge2 : 4294967296 ≤ Q2
          · have hst2 := Lib.hid (HG2.out.step G2.out (.inl hge2))
            have hQ22 := hst2.out.2
            by_cases hbr2 : 4294967296 ≤ R2 + y1
            · have HQ2 := Lib.hid (hst2.out.1.great G2.out (by omega) hbr2)
              have e11 : IntKind.u64.wrap (IntKind.u64.wrap (IntKind.u64.wrap (M * 4294967296) + a0) - IntKind.u64.wrap ((Q2 - 1) * D)) = (M * 4294967296 + a0) % D := by
                rw [HQ2.out, u64_wrap, u64_wrap, u64_wrap, u64_wrap]
                exact G2.out.wrap hD
              have kq := G2.out.quo
              rw [← HQ2.out] at kq
              have kq1 : (Q2 - 1) < 4294967296 := kq.2.2.2
              have kq0 : 0 ≤ (Q2 - 1) := kq.2.2.1
              have kr0 := Int.emod_nonneg (M * 4294967296 + a0) (show D ≠ 0 by omega)
              have kr1 := Int.emod_lt_of_pos (M * 4294967296 + a0) (show 0 < D by omega)
              have KM := Lib.hid (show (Q - 1) * 4294967296 + (Q2 - 1) = (N * 4294967296 + a1) / D * 4294967296 + ((N * 4294967296 + a1) % D * 4294967296 + a0) / D by rw [HM.out, ← HQ2.out, ← HQ.out])
              have KZ := Lib.hid (show (M * 4294967296 + a0) % D / 2 ^ s = ((N * 4294967296 + a1) % D * 4294967296 + a0) % D / 2 ^ s by rw [HM.out])
              clear kq
              generalize (M * 4294967296 + a0) % D = Z at *
              go_wp2
              go_ret2
              exact ⟨by rw [← KM.out, ← KZ.out]; rfl, rfl⟩
            · go_wp2
              go_round
              case rel => exact ⟨Q2 - 1, R2 + y1, rfl, rfl, hst2.out.1, by omega⟩
              case measure => simp [intOf]; omega
          · have p20 : 0 ≤ Q2 * y0 := Int.mul_nonneg hQ20 b3
            have p21 : Q2 * y0 ≤ 4294967295 * 4294967295 := Int.mul_le_mul (by omega) (by omega) b3 (by omega)
            by_cases hgt2 : 4294967296 * R2 + a0 < Q2 * y0
            · have hst2 := Lib.hid (HG2.out.step G2.out (.inr hgt2))
              have hQ22 := hst2.out.2
              by_cases hbr2 : 4294967296 ≤ R2 + y1
              · have HQ2 := Lib.hid (hst2.out.1.great G2.out (by omega) hbr2)
                have e11 : IntKind.u64.wrap (IntKind.u64.wrap (IntKind.u64.wrap (M * 4294967296) + a0) - IntKind.u64.wrap ((Q2 - 1) * D)) = (M * 4294967296 + a0) % D := by
                  rw [HQ2.out, u64_wrap, u64_wrap, u64_wrap, u64_wrap]
                  exact G2.out.wrap hD
                have kq := G2.out.quo
                rw [← HQ2.out] at kq
                have kq1 : (Q2 - 1) < 4294967296 := kq.2.2.2
                have kq0 : 0 ≤ (Q2 - 1) := kq.2.2.1
                have kr0 := Int.emod_nonneg (M * 4294967296 + a0) (show D ≠ 0 by omega)
                have kr1 := Int.emod_lt_of_pos (M * 4294967296 + a0) (show 0 < D by omega)
                have KM := Lib.hid (show (Q - 1) * 4294967296 + (Q2 - 1) = (N * 4294967296 + a1) / D * 4294967296 + ((N * 4294967296 + a1) % D * 4294967296 + a0) / D by rw [HM.out, ← HQ2.out, ← HQ.out])
                have KZ := Lib.hid (show (M * 4294967296 + a0) % D / 2 ^ s = ((N * 4294967296 + a1) % D * 4294967296 + a0) % D / 2 ^ s by rw [HM.out])
                clear kq
                generalize (M * 4294967296 + a0) % D = Z at *
                go_wp2
                go_ret2
                exact ⟨by rw [← KM.out, ← KZ.out]; rfl, rfl⟩
              · go_wp2
                go_round
                case rel => exact ⟨Q2 - 1, R2 + y1, rfl, rfl, hst2.out.1, by omega⟩
                case measure => simp [intOf]; omega
            · have HQ2 := Lib.hid (HG2.out.done G2.out (by omega))
              have e11 : IntKind.u64.wrap (IntKind.u64.wrap (IntKind.u64.wrap (M * 4294967296) + a0) - IntKind.u64.wrap (Q2 * D)) = (M * 4294967296 + a0) % D := by
                rw [HQ2.out, u64_wrap, u64_wrap, u64_wrap, u64_wrap]
                exact G2.out.wrap hD
              have kq := G2.out.quo
              rw [← HQ2.out] at kq
              have kq1 : Q2 < 4294967296 := kq.2.2.2
              have kq0 : 0 ≤ Q2 := kq.2.2.1
              have kr0 := Int.emod_nonneg (M * 4294967296 + a0) (show D ≠ 0 by omega)
              have kr1 := Int.emod_lt_of_pos (M * 4294967296 + a0) (show 0 < D by omega)
              have KM := Lib.hid (show (Q - 1) * 4294967296 + Q2 = (N * 4294967296 + a1) / D * 4294967296 + ((N * 4294967296 + a1) % D * 4294967296 + a0) / D by rw [HM.out, ← HQ2.out, ← HQ.out])
              have KZ := Lib.hid (show (M * 4294967296 + a0) % D / 2 ^ s = ((N * 4294967296 + a1) % D * 4294967296 + a0) % D / 2 ^ s by rw [HM.out])
              clear kq
              generalize (M * 4294967296 + a0) % D = Z at *
              go_wp2
              go_ret2
              exact ⟨by rw [← KM.out, ← KZ.out]; rfl, rfl⟩
      · go_wp2
        go_round
        case rel => exact ⟨Q - 1, R + y1, rfl, rfl, hst.out.1, by omega⟩
        case measure => simp [intOf]; omega
    · have p0 : 0 ≤ Q * y0 := Int.mul_nonneg hQ0 b3
      have p1 : Q * y0 ≤ 4294967295 * 4294967295 := Int.mul_le_mul (by omega) (by omega) b3 (by omega)
      by_cases hgt : 4294967296 * R + a1 < Q * y0
      · have hst := Lib.hid (HG.out.step G.out (.inr hgt))
        have hQ2 := hst.out.2
        by_cases hbr : 4294967296 ≤ R + y1
        · have HQ := Lib.hid (hst.out.1.great G.out (by omega) hbr)
          have e9 : IntKind.u64.wrap (IntKind.u64.wrap (IntKind.u64.wrap (N * 4294967296) + a1) - IntKind.u64.wrap ((Q - 1) * D)) = (N * 4294967296 + a1) % D := by
            rw [HQ.out, u64_wrap, u64_wrap, u64_wrap, u64_wrap]
            exact G.out.wrap hD
          have kQ := G.out.quo
          rw [← HQ.out] at kQ
          have hQb : (Q - 1) < 4294967296 := kQ.2.2.2
          have hQz : 0 ≤ (Q - 1) := kQ.2.2.1
          have G2 := Lib.hid (G.out.next ha0 ha0')
          have G0 := Lib.hid (Guess.start G2.out)
          have m0 := G2.out.hN
          have m1 := G2.out.hlt
          generalize hM : (N * 4294967296 + a1) % D = M at *
          have HM := Lib.hid hM
          clear hM
          have e10 : IntKind.u64.wrap (M - IntKind.u64.wrap (M / y1 * y1)) = M % y1 := by
            have k1 := Int.ediv_mul_add_emod M y1
            have k3 := Int.emod_nonneg M (show y1 ≠ 0 by omega)
            have k4 := Int.mul_nonneg (Int.ediv_nonneg m0 (show 0 ≤ y1 by omega)) (show 0 ≤ y1 by omega)
            rw [u64_wrap, u64_wrap]
            omega
          clear kQ HG
          go_wp2_with fail
          clear e9 e10
          go_loop [18, 16] (fun q r => ∃ Q2 R2 : Int, q = .int .u64 Q2 ∧ r = .int .u64 R2 ∧ Hid (Guess M D y1 a0 Q2 R2) ∧ R2 < 4294967296) (fun q _ => (intOf q).toNat)
          case atStart => exact ⟨_, _, rfl, rfl, G0.out.1, G0.out.2⟩
          case round =>
            obtain ⟨Q2, R2, rfl, rfl, HG2, hR2⟩ := hrel
            have HG' := HG2.out
            have hR20 := HG'.2.2.1
            have hQ20 := HG'.2.2.2.1
            have hQ21 := HG'.2.2.2.2
            clear HG' G0
            by_cases hge2 : 4294967296 ≤ Q2
            · have hst2 := Lib.hid (HG2.out.step G2.out (.inl hge2))
              have hQ22 := hst2.out.2
              by_cases hbr2 : 4294967296 ≤ R2 + y1
              · have HQ2 := Lib.hid (hst2.out.1.great G2.out (by omega) hbr2)
                have e11 : IntKind.u64.wrap (IntKind.u64.wrap (IntKind.u64.wrap (M * 4294967296) + a0) - IntKind.u64.wrap ((Q2 - 1) * D)) = (M * 4294967296 + a0) % D := by
                  rw [HQ2.out, u64_wrap, u64_wrap, u64_wrap, u64_wrap]
                  exact G2.out.wrap hD
                have kq := G2.out.quo
                rw [← HQ2.out] at kq
                have kq1 : (Q2 - 1) < 4294967296 := kq.2.2.2
                have kq0 : 0 ≤ (Q2 - 1) := kq.2.2.1
                have kr0 := Int.emod_nonneg (M * 4294967296 + a0) (show D ≠ 0 by omega)
                have kr1 := Int.emod_lt_of_pos (M * 4294967296 + a0) (show 0 < D by omega)
                have KM := Lib.hid (show (Q - 1) * 4294967296 + (Q2 - 1) = (N * 4294967296 + a1) / D * 4294967296 + ((N * 4294967296 + a1) % D * 4294967296 + a0) / D by rw [HM.out, ← HQ2.out, ← HQ.out])
                have KZ := Lib.hid (show (M * 4294967296 + a0) % D / 2 ^ s = ((N * 4294967296 + a1) % D * 4294967296 + a0) % D / 2 ^ s by rw [HM.out])
                clear kq
                generalize (M * 4294967296 + a0) % D = Z at *
                go_wp2
                go_ret2
                exact ⟨by rw [← KM.out, ← KZ.out]; rfl, rfl⟩
              · go_wp2
                go_round
                case rel => exact ⟨Q2 - 1, R2 + y1, rfl, rfl, hst2.out.1, by omega⟩
                case measure => simp [intOf]; omega
            · have p20 : 0 ≤ Q2 * y0 := Int.mul_nonneg hQ20 b3
              have p21 : Q2 * y0 ≤ 4294967295 * 4294967295 := Int.mul_le_mul (by omega) (by omega) b3 (by omega)
              by_cases hgt2 : 4294967296 * R2 + a0 < Q2 * y0
              · have hst2 := Lib.hid (HG2.out.step G2.out (.inr hgt2))
                have hQ22 := hst2.out.2
                by_cases hbr2 : 4294967296 ≤ R2 + y1
                · have HQ2 := Lib.hid (hst2.out.1.great G2.out (by omega) hbr2)
                  have e11 : IntKind.u64.wrap (IntKind.u64.wrap (IntKind.u64.wrap (M * 4294967296) + a0) - IntKind.u64.wrap ((Q2 - 1) * D)) = (M * 4294967296 + a0) % D := by
                    rw [HQ2.out, u64_wrap, u64_wrap, u64_wrap, u64_wrap]
                    exact G2.out.wrap hD
                  have kq := G2.out.quo
                  rw [← HQ2.out] at kq
                  have kq1 : (Q2 - 1) < 4294967296 := kq.2.2.2
                  have kq0 : 0 ≤ (Q2 - 1) := kq.2.2.1
                  have kr0 := Int.emod_nonneg (M * 4294967296 + a0) (show D ≠ 0 by omega)
                  have kr1 := Int.emod_lt_of_pos (M * 4294967296 + a0) (show 0 < D by omega)
                  have KM := Lib.hid (show (Q - 1) * 4294967296 + (Q2 - 1) = (N * 4294967296 + a1) / D * 4294967296 + ((N * 4294967296 + a1) % D * 4294967296 + a0) / D by rw [HM.out, ← HQ2.out, ← HQ.out])
                  have KZ := Lib.hid (show (M * 4294967296 + a0) % D / 2 ^ s = ((N * 4294967296 + a1) % D * 4294967296 + a0) % D / 2 ^ s by rw [HM.out])
                  clear kq
                  generalize (M * 4294967296 + a0) % D = Z at *
                  go_wp2
                  go_ret2
                  exact ⟨by rw [← KM.out, ← KZ.out]; rfl, rfl⟩
                · go_wp2
                  go_round
                  case rel => exact ⟨Q2 - 1, R2 + y1, rfl, rfl, hst2.out.1, by omega⟩
                  case measure => simp [intOf]; omega
              · have HQ2 := Lib.hid (HG2.out.done G2.out (by omega))
                have e11 : IntKind.u64.wrap (IntKind.u64.wrap (IntKind.u64.wrap (M * 4294967296) + a0) - IntKind.u64.wrap (Q2 * D)) = (M * 4294967296 + a0) % D := by
                  rw [HQ2.out, u64_wrap, u64_wrap, u64_wrap, u64_wrap]
                  exact G2.out.wrap hD
                have kq := G2.out.quo
                rw [← HQ2.out] at kq
                have kq1 : Q2 < 4294967296 := kq.2.2.2
                have kq0 : 0 ≤ Q2 := kq.2.2.1
                have kr0 := Int.emod_nonneg (M * 4294967296 + a0) (show D ≠ 0 by omega)
                have kr1 := Int.emod_lt_of_pos (M * 4294967296 + a0) (show 0 < D by omega)
                have KM := Lib.hid (show (Q - 1) * 4294967296 + Q2 = (N * 4294967296 + a1) / D * 4294967296 + ((N * 4294967296 + a1) % D * 4294967296 + a0) / D by rw [HM.out, ← HQ2.out, ← HQ.out])
                have KZ := Lib.hid (show (M * 4294967296 + a0) % D / 2 ^ s = ((N * 4294967296 + a1) % D * 4294967296 + a0) % D / 2 ^ s by rw [HM.out])
                clear kq
                generalize (M * 4294967296 + a0) % D = Z at *
                go_wp2
                go_ret2
                exact ⟨by rw [← KM.out, ← KZ.out]; rfl, rfl⟩
        · go_wp2
          go_round
          case rel => exact ⟨Q - 1, R + y1, rfl, rfl, hst.out.1, by omega⟩
          case measure => simp [intOf]; omega
      · have HQ := Lib.hid (HG.out.done G.out (by omega))
        have e9 : IntKind.u64.wrap (IntKind.u64.wrap (IntKind.u64.wrap (N * 4294967296) + a1) - IntKind.u64.wrap (Q * D)) = (N * 4294967296 + a1) % D := by
          rw [HQ.out, u64_wrap, u64_wrap, u64_wrap, u64_wrap]
          exact G.out.wrap hD
        have kQ := G.out.quo
        rw [← HQ.out] at kQ
        have hQb : Q < 4294967296 := kQ.2.2.2
        have hQz : 0 ≤ Q := kQ.2.2.1
        have G2 := Lib.hid (G.out.next ha0 ha0')
        have G0 := Lib.hid (Guess.start G2.out)
        have m0 := G2.out.hN
        have m1 := G2.out.hlt
        generalize hM : (N * 4294967296 + a1) % D = M at *
        have HM := Lib.hid hM
        clear hM
        have e10 : IntKind.u64.wrap (M - IntKind.u64.wrap (M / y1 * y1)) = M % y1 := by
          have k1 := Int.ediv_mul_add_emod M y1
          have k3 := Int.emod_nonneg M (show y1 ≠ 0 by omega)
          have k4 := Int.mul_nonneg (Int.ediv_nonneg m0 (show 0 ≤ y1 by omega)) (show 0 ≤ y1 by omega)
          rw [u64_wrap, u64_wrap]
          omega
        clear kQ HG
        go_wp2_with fail
        clear e9 e10
        go_loop [18, 16] (fun q r => ∃ Q2 R2 : Int, q = .int .u64 Q2 ∧ r = .int .u64 R2 ∧ Hid (Guess M D y1 a0 Q2 R2) ∧ R2 < 4294967296) (fun q _ => (intOf q).toNat)
        case atStart => exact ⟨_, _, rfl, rfl, G0.out.1, G0.out.2⟩
        case round =>
          obtain ⟨Q2, R2, rfl, rfl, HG2, hR2⟩ := hrel
          have HG' := HG2.out
          have hR20 := HG'.2.2.1
          have hQ20 := HG'.2.2.2.1
          have hQ21 := HG'.2.2.2.2
          clear HG' G0
          by_cases hge2 : 4294967296 ≤ Q2
          · have hst2 := Lib.hid (HG2.out.step G2.out (.inl hge2))
            have hQ22 := hst2.out.2
            by_cases hbr2 : 4294967296 ≤ R2 + y1
            · have HQ2 := Lib.hid (hst2.out.1.great G2.out (by omega) hbr2)
              have e11 : IntKind.u64.wrap (IntKind.u64.wrap (IntKind.u64.wrap (M * 4294967296) + a0) - IntKind.u64.wrap ((Q2 - 1) * D)) = (M * 4294967296 + a0) % D := by
                rw [HQ2.out, u64_wrap, u64_wrap, u64_wrap, u64_wrap]
                exact G2.out.wrap hD
              have kq := G2.out.quo
              rw [← HQ2.out] at kq
              have kq1 : (Q2 - 1) < 4294967296 := kq.2.2.2
              have kq0 : 0 ≤ (Q2 - 1) := kq.2.2.1
              have kr0 := Int.emod_nonneg (M * 4294967296 + a0) (show D ≠ 0 by omega)
              have kr1 := Int.emod_lt_of_pos (M * 4294967296 + a0) (show 0 < D by omega)
              have KM := Lib.hid (show Q * 4294967296 + (Q2 - 1) = (N * 4294967296 + a1) / D * 4294967296 + ((N * 4294967296 + a1) % D * 4294967296 + a0) / D by rw [HM.out, ← HQ2.out, ← HQ.out])
              have KZ := Lib.hid (show (M * 4294967296 + a0) % D / 2 ^ s = ((N * 4294967296 + a1) % D * 4294967296 + a0) % D / 2 ^ s by rw [HM.out])
              clear kq
              generalize (M * 4294967296 + a0) % D = Z at *
              go_wp2
              go_ret2
              exact ⟨by rw [← KM.out, ← KZ.out]; rfl, rfl⟩
            · go_wp2
              go_round
              case rel => exact ⟨Q2 - 1, R2 + y1, rfl, rfl, hst2.out.1, by omega⟩
              case measure => simp [intOf]; omega
          · have p20 : 0 ≤ Q2 * y0 := Int.mul_nonneg hQ20 b3
            have p21 : Q2 * y0 ≤ 4294967295 * 4294967295 := Int.mul_le_mul (by omega) (by omega) b3 (by omega)
            by_cases hgt2 : 4294967296 * R2 + a0 < Q2 * y0
            · have hst2 := Lib.hid (HG2.out.step G2.out (.inr hgt2))
              have hQ22 := hst2.out.2
              by_cases hbr2 : 4294967296 ≤ R2 + y1
              · have HQ2 := Lib.hid (hst2.out.1.great G2.out (by omega) hbr2)
                have e11 : IntKind.u64.wrap (IntKind.u64.wrap (IntKind.u64.wrap (M * 4294967296) + a0) - IntKind.u64.wrap ((Q2 - 1) * D)) = (M * 4294967296 + a0) % D := by
                  rw [HQ2.out, u64_wrap, u64_wrap, u64_wrap, u64_wrap]
                  exact G2.out.wrap hD
                have kq := G2.out.quo
                rw [← HQ2.out] at kq
                have kq1 : (Q2 - 1) < 4294967296 := kq.2.2.2
                have kq0 : 0 ≤ (Q2 - 1) := kq.2.2.1
                have kr0 := Int.emod_nonneg (M * 4294967296 + a0) (show D ≠ 0 by omega)
                have kr1 := Int.emod_lt_of_pos (M * 4294967296 + a0) (show 0 < D by omega)
                have KM := Lib.hid (show Q * 4294967296 + (Q2 - 1) = (N * 4294967296 + a1) / D * 4294967296 + ((N * 4294967296 + a1) % D * 4294967296 + a0) / D by rw [HM.out, ← HQ2.out, ← HQ.out])
                have KZ := Lib.hid (show (M * 4294967296 + a0) % D / 2 ^ s = ((N * 4294967296 + a1) % D * 4294967296 + a0) % D / 2 ^ s by rw [HM.out])
                clear kq
                generalize (M * 4294967296 + a0) % D = Z at *
                go_wp2
                go_ret2
                exact ⟨by rw [← KM.out, ← KZ.out]; rfl, rfl⟩
              · go_wp2
                go_round
                case rel => exact ⟨Q2 - 1, R2 + y1, rfl, rfl, hst2.out.1, by omega⟩
                case measure => simp [intOf]; omega
            · have HQ2 := Lib.hid (HG2.out.done G2.out (by omega))
              have e11 : IntKind.u64.wrap (IntKind.u64.wrap (IntKind.u64.wrap (M * 4294967296) + a0) - IntKind.u64.wrap (Q2 * D)) = (M * 4294967296 + a0) % D := by
                rw [HQ2.out, u64_wrap, u64_wrap, u64_wrap, u64_wrap]
                exact G2.out.wrap hD
              have kq := G2.out.quo
              rw [← HQ2.out] at kq
              have kq1 : Q2 < 4294967296 := kq.2.2.2
              have kq0 : 0 ≤ Q2 := kq.2.2.1
              have kr0 := Int.emod_nonneg (M * 4294967296 + a0) (show D ≠ 0 by omega)
              have kr1 := Int.emod_lt_of_pos (M * 4294967296 + a0) (show 0 < D by omega)
              have KM := Lib.hid (show Q * 4294967296 + Q2 = (N * 4294967296 + a1) / D * 4294967296 + ((N * 4294967296 + a1) % D * 4294967296 + a0) / D by rw [HM.out, ← HQ2.out, ← HQ.out])
              have KZ := Lib.hid (show (M * 4294967296 + a0) % D / 2 ^ s = ((N * 4294967296 + a1) % D * 4294967296 + a0) % D / 2 ^ s by rw [HM.out])
              clear kq
              generalize (M * 4294967296 + a0) % D = Z at *
              go_wp2
              go_ret2
              exact ⟨by rw [← KM.out, ← KZ.out]; rfl, rfl⟩
end Go.Proofs.Ytpkdkkbmmkhhhaa
