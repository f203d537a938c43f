/- The walk of the law WireBack. -/
import Derived.Test.YtpklgghppmlklaaWireRawsWalk
import Derived.Test.YtpklgghppmlklaaWireBackMath
namespace Go.Proofs.Ytpklgghppmlklaa
open Go.RowKit Go.WideShapes Go.ChangeShapes

/-- The three cells of an Ask behind a call. -/
theorem keepw {wr wa wb : World} {b p : Nat} {x y z : Value} (h : wa.cell? ⟨b, p, none⟩ = some x ∧ wa.cell? ⟨b, p + 1, none⟩ = some y ∧ wa.cell? ⟨b, p + 2, none⟩ = some z ∧ b < wa.heap.size ∧ Below wr.heap.size wr wa) (hb : Below wa.heap.size wa wb) :
    wb.cell? ⟨b, p, none⟩ = some x ∧ wb.cell? ⟨b, p + 1, none⟩ = some y ∧ wb.cell? ⟨b, p + 2, none⟩ = some z ∧ b < wb.heap.size ∧ Below wr.heap.size wr wb := by
  obtain ⟨h0, h1, h2, h3, h4⟩ := h
  exact ⟨(hb.cell (p := ⟨b, p, none⟩) h3).trans h0, (hb.cell (p := ⟨b, p + 1, none⟩) h3).trans h1, (hb.cell (p := ⟨b, p + 2, none⟩) h3).trans h2, Nat.lt_of_lt_of_le h3 hb.size, h4.trans (hb.mono h4.size)⟩

namespace lawWireBack
set_option maxHeartbeats 3200000 in
set_option maxRecDepth 100000 in
theorem walk {H : Type} {enc : TypeId × Value → H} (w : World) {base : Nat} (v : Value) (d : DataW H) (p : List MemPlace) (hv : Value.okWide Try.prog w .any base 35 v)
    (ht : DataW.Trod enc Try.prog w 0 (fun _ => true) true 35 v d p) : Calls Try.prog 11 #[v] w fun e w' => e = .returned (.bool true) ∧ Below w.heap.size w w' := by
  obtain ⟨i0, hi0, hz0, hz1, hz2⟩ := info_parts info_u8
  obtain ⟨A, n, c, rfl, hnc, hcm, ha⟩ := open_asks4 hv ht
  unfold maxLen at hcm
  clear hv ht
  go_enter Try.func11, Try.ntmps11
  go_wp2
  go_loopw [3] (fun i wr => ∃ (k : Nat), k ≤ n ∧ k ≤ 15 ∧ i = .int .i64 k ∧ Below w.heap.size w wr) (fun i _ => n - (intOf i).toNat)
  case atStart => exact ⟨0, Nat.zero_le _, by omega, rfl, Below.refl _ _⟩
  case round =>
    obtain ⟨k, hk, hk20, rfl, hbl⟩ := hrel
    generalize wr = w0 at *
    by_cases hlt : k < n
    · by_cases h20 : k < 15
      · obtain ⟨b, o, x, A1, m1, c1, l1, A2, m2, c2, l2, rfl, hb, hc1, hc2, hc3, ⟨hx0, hx1⟩, hr1, hl1, hmc1, hcm1, hr2, hl2, hmc2, hcm2⟩ := ha.below hbl k hlt
        clear hmc1 hcm1 ha
        unfold maxLen at hcm2
        by_cases hh : m1 ≤ 5000 ∧ m2 ≤ 5000
        · obtain ⟨hm1, hm2⟩ := hh
          have hll1 : l1.length = m1 := by have := hr1.1; simpa [nums] using this
          have hll2 : l2.length = m2 := by have := hr2.1; simpa [nums] using this
          go_wp2_with fail
          refine (heavy_no _ _ _ _ _ _ _ _ hm1 hm2).mono ?_
          rintro e w1 ⟨rfl, hb1⟩
          have S1 := keepw ⟨hc1, hc2, hc3, hb, Below.refl _ _⟩ hb1
          clear hc1 hc2 hc3 hb1
          have C1 := fun W => wire_num x W hx1
          by_cases hneg : 0 ≤ x
          · rw [numR_pos (by omega)] at C1
            have C1 := Lib.hid C1
            obtain ⟨n0, rfl⟩ := Int.eq_ofNat_of_zero_le hneg
            rw [Int.toNat_natCast] at C1
            generalize hxx : ((n0 : Nat) : Int) = x at *
            obtain ⟨z0, z1, z2, z3, z4⟩ := id S1
            go_wp2_with fail
            refine Calls.mono (C1.out _) ?_
            rintro e w2 ⟨A3, c3, rfl, hown, hb2⟩
            have SC := keepw S1 hb2
            clear z0 z1 z2 z3 z4 C1
            obtain ⟨z0, z1, z2, z3, z4⟩ := id SC
            have hp0 := put_pos n0
            have hp9 : (put n0).length ≤ 9 := put_nine (by omega)
            obtain ⟨g, rfl⟩ := own_place hown hp0
            obtain ⟨hc3a, hc3b⟩ := own_cap hown
            have CB := Lib.hid (copy_bytes (some ⟨g, 0, none⟩) (put n0).length c3 _ (put n0) w2.drew (Reads.of_own hown).drew (Nat.le_refl _) (by omega))
            have G5 := fun A c B W hr => get_num_at (n := n0) (m := l1) (by omega) hl1 (by simp; omega) A c B W hr
            rw [hxx] at G5
            have G5 := Lib.hid G5
            have H5 := Lib.hid (fun j hj W (hr : Reads W W.heap.size 1 (some ⟨g, 0, none⟩) (put n0).length (nums .u8 (put n0))) => get_num_cut (n := n0) (j := j) (by omega) hj (some ⟨g, 0, none⟩) c3 _ W hr)
            have hrL := Reads.of_own hown
            have hlen5 : (put n0 ++ l1).length = (put n0).length + m1 := by rw [List.length_append, hll1]
            have HLEN := Lib.hid hlen5
            clear hlen5 hown hxx
            generalize hP : put n0 = P at *
            generalize hNP : P.length = N at *
            go_wp2_with (go_at_call 20; (with_reducible refine (num4 _ _).mono ?_); rintro e w19 ⟨rfl, rfl⟩)
            have SD := keepw SC (Below.refl _ _).drew
            go_region_held3 (fun w' => w'.cell? ⟨b, o + k * 3, none⟩ = some (.int .i64 x) ∧ w'.cell? ⟨b, o + k * 3 + 1, none⟩ = some (.slice A1 m1 c1) ∧ w'.cell? ⟨b, o + k * 3 + 2, none⟩ = some (.slice A2 m2 c2) ∧ b < w'.heap.size ∧ Below w0.heap.size w0 w')
              (first | exact SD | assumption)
              (first
                | (go_at_call 12; (with_reducible refine Calls.mono CB.out ?_); rintro e w3 ⟨A4, c4, rfl, hown4, hb3⟩; have S3 := keepw SD hb3)
                | (refine step_append_reads _ (by rfl) _ _ _ (by rfl) w2.drew.heap.size 5 i0 _ 1 1 Try.underlying24 hi0 hz0 hz1 hz2 rfl (by omega) _ _ _ (by rfl) hown4 _ _ _ _ _ (by rfl) (hr1.below S3.2.2.2.2) (nums_one _ _) (by unfold maxLen; omega) (by omega) hb3.size ?_; intro A5 c5 w4 hown5 hb4; have hb34 := hb3.trans hb4; have S4 := keepw SD hb34; rw [← nums_app] at hown5)
                | (go_at_call 27; (have hr5 := Reads.of_own hown5); rw [← HLEN.out] at hr5 ⊢; (with_reducible refine Calls.mono (G5.out _ _ _ _ hr5) ?_); rintro e w5 ⟨rfl, rfl⟩))
            clear SD z0 z1 z2 z3 z4 SC
            obtain ⟨z0, z1, z2, z3, z4⟩ := id S4
            have hrM := (hrL.drew.below hb34).more hb34.size
            clear CB G5 hown4 hown5 S3 hrL
            have hme : ((N : Int) != (N : Int)) = false := by simp
            have hmx : (x != x) = false := by simp
            go_wp2_with (go_at_call 20; (with_reducible refine (num4 _ _).mono ?_); rintro e w19 ⟨rfl, rfl⟩)
            clear hme hmx z0 z1 z2 z3 z4
            go_loopw [9] (fun i wr => ∃ (j : Nat), j ≤ N ∧ i = .int .i64 j ∧ wr.cell? ⟨b, o + k * 3, none⟩ = some (.int .i64 x) ∧ wr.cell? ⟨b, o + k * 3 + 1, none⟩ = some (.slice A1 m1 c1) ∧ wr.cell? ⟨b, o + k * 3 + 2, none⟩ = some (.slice A2 m2 c2) ∧ b < wr.heap.size ∧ Below w0.heap.size w0 wr ∧ Below w4.heap.size w4 wr) (fun i _ => N - (intOf i).toNat)
            case atStart => exact ⟨0, Nat.zero_le _, rfl, S4.1, S4.2.1, S4.2.2.1, S4.2.2.2.1, S4.2.2.2.2, Below.refl _ _⟩
            case round =>
              obtain ⟨j, hjN, rfl, z0, z1, z2, z3, z4, hb8⟩ := hrel
              by_cases hjl : j < N
              · have C6 := Lib.hid (H5.out j hjl wr ((hrM.below hb8).more hb8.size))
                have j1 : (j : Int) ≤ (c3 : Int) := by omega
                have j0 : (0 : Int) ≤ (j : Int) := by omega
                go_wp2_with fail
                refine Calls.mono C6.out ?_
                rintro e w9 ⟨rfl, rfl⟩
                go_wp2_with (go_at_call 20; (with_reducible refine (num4 _ _).mono ?_); rintro e w19 ⟨rfl, rfl⟩)
                go_roundw
                case rel => exact ⟨j + 1, by omega, by go_num, z0, z1, z2, z3, z4, hb8⟩
                case measure => simp [intOf]; omega
              · have S5 := keepw ⟨z0, z1, z2, z3, z4⟩ (Below.refl _ _)
                clear z0 z1 z2 z3 z4 hb8 H5 S4 hrM hb3 hb4 hb34 HLEN hP hNP hp0 hp9 hc3a hc3b hb2
                as_aux_lemma =>
                  have C3 := fun W => wire_int x W hx0 hx1
                  by_cases hin : -4611686018427387904 ≤ x ∧ x < 4611686018427387904
                  · rw [intR_in hin.1 hin.2] at C3
                    have C3 := Lib.hid C3
                    obtain ⟨z0, z1, z2, z3, z4⟩ := id S5
                    go_wp2_with fail
                    refine Calls.mono (C3.out _) ?_
                    rintro e w6 ⟨A3, c3, rfl, hown, hb6⟩
                    have SC := keepw S5 hb6
                    clear z0 z1 z2 z3 z4 C3
                    obtain ⟨z0, z1, z2, z3, z4⟩ := id SC
                    have hp0 := put_pos (zig x)
                    have hp9 : (put (zig x)).length ≤ 9 := put_nine (by have := zig_lt hin.1 hin.2; omega)
                    obtain ⟨g, rfl⟩ := own_place hown hp0
                    obtain ⟨hc3a, hc3b⟩ := own_cap hown
                    have CB := Lib.hid (copy_bytes (some ⟨g, 0, none⟩) (put (zig x)).length c3 _ (put (zig x)) w6.drew (Reads.of_own hown).drew (Nat.le_refl _) (by omega))
                    have G5 := Lib.hid (fun A c B W hr => get_int_at (m := l1) hin.1 hin.2 hl1 (by simp; omega) A c B W hr)
                    have H5 := Lib.hid (fun W (hr : Reads W W.heap.size 1 (some ⟨g, 0, none⟩) (put (zig x)).length (nums .u8 (put (zig x)))) => get_int_cut (j := (put (zig x)).length - 1) hin.1 hin.2 (by omega) (some ⟨g, 0, none⟩) c3 _ W hr)
                    have hrL := Reads.of_own hown
                    have hlen5 : (put (zig x) ++ l1).length = (put (zig x)).length + m1 := by rw [List.length_append, hll1]
                    have HLEN := Lib.hid hlen5
                    clear hlen5 hown
                    generalize hP : put (zig x) = P at *
                    generalize hNP : P.length = N at *
                    go_wp2_with (go_at_call 20; (with_reducible refine (num4 _ _).mono ?_); rintro e w19 ⟨rfl, rfl⟩)
                    have SD := keepw SC (Below.refl _ _).drew
                    go_region_held3 (fun w' => w'.cell? ⟨b, o + k * 3, none⟩ = some (.int .i64 x) ∧ w'.cell? ⟨b, o + k * 3 + 1, none⟩ = some (.slice A1 m1 c1) ∧ w'.cell? ⟨b, o + k * 3 + 2, none⟩ = some (.slice A2 m2 c2) ∧ b < w'.heap.size ∧ Below w0.heap.size w0 w')
                      (first | exact SD | assumption)
                      (first
                        | (go_at_call 12; (with_reducible refine Calls.mono CB.out ?_); rintro e w3 ⟨A4, c4, rfl, hown4, hb3⟩; have S3 := keepw SD hb3)
                        | (refine step_append_reads _ (by rfl) _ _ _ (by rfl) w6.drew.heap.size 5 i0 _ 1 1 Try.underlying24 hi0 hz0 hz1 hz2 rfl (by omega) _ _ _ (by rfl) hown4 _ _ _ _ _ (by rfl) (hr1.below S3.2.2.2.2) (nums_one _ _) (by unfold maxLen; omega) (by omega) hb3.size ?_; intro A5 c5 w4 hown5 hb4; have hb34 := hb3.trans hb4; have S4 := keepw SD hb34; rw [← nums_app] at hown5)
                        | (go_at_call 29; (have hr5 := Reads.of_own hown5); rw [← HLEN.out] at hr5 ⊢; (with_reducible refine Calls.mono (G5.out _ _ _ _ hr5) ?_); rintro e w5 ⟨rfl, rfl⟩))
                    clear SD z0 z1 z2 z3 z4 SC
                    obtain ⟨z0, z1, z2, z3, z4⟩ := id S4
                    have hrM := (hrL.drew.below hb34).more hb34.size
                    have C6 := Lib.hid (H5.out _ hrM)
                    clear CB G5 hown4 hown5 S3 hrL H5
                    have hs1 : IntKind.i64.wrap ((N : Int) - 1) = ((N - 1 : Nat) : Int) := by rw [IntWalk.i64_in _ (by omega)]; omega
                    have j1 : ((N - 1 : Nat) : Int) ≤ (c3 : Int) := by omega
                    have j0 : (0 : Int) ≤ ((N - 1 : Nat) : Int) := by omega
                    have hme : ((N : Int) != (N : Int)) = false := by simp
                    have hmx : (x != x) = false := by simp
                    generalize hJ : N - 1 = J at *
                    go_wp2_with fail
                    refine Calls.mono C6.out ?_
                    rintro e w9 ⟨rfl, rfl⟩
                    go_wp2_with (go_at_call 20; (with_reducible refine (num4 _ _).mono ?_); rintro e w19 ⟨rfl, rfl⟩)
                    have SB := S4
                    clear z0 z1 z2 z3 z4 S4 C6 hs1 j1 j0 hme hmx hJ hNP hP HLEN hb3 hb4 hb34 hb6 hrM hp0 hp9 hc3a hc3b
                    as_aux_lemma =>
                      obtain ⟨z0, z1, z2, z3, z4⟩ := id SB
                      have C5 := Lib.hid (wire_raw A1 m1 c1 _ l1 _ ((hr1.below z4).more z4.size) (Nat.le_refl _) (by omega))
                      go_wp2_with fail
                      refine Calls.mono C5.out ?_
                      rintro e w7 ⟨A3, c3, rfl, hown, hb7⟩
                      have SC := keepw SB hb7
                      clear z0 z1 z2 z3 z4 C5
                      obtain ⟨z0, z1, z2, z3, z4⟩ := id SC
                      have hlr : (put m1 ++ l1).length = (put m1).length + m1 := by rw [List.length_append, hll1]
                      simp only [hlr] at hown ⊢
                      have hp0 := put_pos m1
                      have hp9 : (put m1).length ≤ 9 := put_nine (by omega)
                      obtain ⟨g, rfl⟩ := own_place hown (by omega)
                      obtain ⟨hc3a, hc3b⟩ := own_cap hown
                      have CB := copy_bytes (some ⟨g, 0, none⟩) ((put m1).length + m1) c3 _ (put m1 ++ l1) w7.drew (Reads.of_own hown).drew (Nat.le_refl _) (by omega)
                      have G5 := fun A c W hr hnc hc => get_raw_at hll1 hm1 hl1 hl2 (by omega) A c W hr hnc hc
                      have H5 := fun j hj W (hr : Reads W W.heap.size 1 (some ⟨g, 0, none⟩) ((put m1).length + m1) (nums .u8 (put m1 ++ l1))) => get_raw_cut (j := j) hll1 hm1 hl1 hj (some ⟨g, 0, none⟩) c3 W hr hc3a hc3b
                      have hrL := Reads.of_own hown
                      have hlen5 : (put m1 ++ l1 ++ l2).length = (put m1).length + m1 + m2 := by rw [List.length_append, hlr, hll2]
                      generalize hN : (put m1).length + m1 = N at *
                      have hN5 : N ≤ 5009 := by omega
                      have CB := Lib.hid CB
                      have G5 := Lib.hid G5
                      have H5 := Lib.hid H5
                      have HLEN := Lib.hid hlen5
                      have HLR := Lib.hid hlr
                      clear hlen5 hlr hown hN
                      go_wp2_with fail
                      have SD := keepw SC (Below.refl _ _).drew
                      go_region_held3 (fun w' => w'.cell? ⟨b, o + k * 3, none⟩ = some (.int .i64 x) ∧ w'.cell? ⟨b, o + k * 3 + 1, none⟩ = some (.slice A1 m1 c1) ∧ w'.cell? ⟨b, o + k * 3 + 2, none⟩ = some (.slice A2 m2 c2) ∧ b < w'.heap.size ∧ Below w0.heap.size w0 w')
                        (first | exact SD | assumption)
                        (first
                          | (go_at_call 12; (with_reducible refine Calls.mono CB.out ?_); rintro e w3 ⟨A4, c4, rfl, hown4, hb3⟩; have S3 := keepw SD hb3)
                          | (refine step_append_reads _ (by rfl) _ _ _ (by rfl) w7.drew.heap.size 5 i0 _ 1 1 Try.underlying24 hi0 hz0 hz1 hz2 rfl (by omega) _ _ _ (by rfl) hown4 _ _ _ _ _ (by rfl) (hr2.below S3.2.2.2.2) (nums_one _ _) (by unfold maxLen; omega) (by omega) hb3.size ?_; intro A5 c5 w4 hown5 hb4; have hb34 := hb3.trans hb4; have S4 := keepw SD hb34; rw [← nums_app] at hown5)
                          | (go_at_call 32; (have hca := own_cap hown5); (have hr5 := Reads.of_own hown5); rw [← HLEN.out] at hr5 hca ⊢; (with_reducible refine Calls.mono (G5.out _ _ _ hr5 hca.1 hca.2) ?_); rintro e w5 ⟨A6, c6, rfl, hown6, hb5⟩; have S5 := keepw S4 hb5))
                      clear SD z0 z1 z2 z3 z4 SC
                      obtain ⟨z0, z1, z2, z3, z4⟩ := id S5
                      have hrM := (hrL.drew.below hb34).more hb34.size
                      have hrM := (hrM.below hb5).more hb5.size
                      clear CB G5 hb3 hb4 hb34 hb5 hown4 hown5 S3 S4 hrL
                      simp only [hll1] at hown6 ⊢
                      have E1 := Lib.hid (eq_bytes_b A6 A1 m1 c6 m1 c1 _ _ l1 l1 w5 true (Reads.of_own hown6) ((hr1.below z4).more z4.size) (by omega) (by omega) (by simp))
                      have hme : ((N : Int) != (N : Int)) = false := by simp
                      go_wp2_with (go_at_call 20; (with_reducible refine (num4 _ _).mono ?_); rintro e w19 ⟨rfl, rfl⟩)
                      refine Calls.mono E1.out ?_
                      rintro e w6 ⟨rfl, hb6⟩
                      have S6 := keepw S5 hb6
                      have hrN := (hrM.below hb6).more hb6.size
                      clear z0 z1 z2 z3 z4 S5 hrM E1 hown6
                      have hq : IntKind.i64.wrap ((N : Int).tdiv 15) = ((N / 15 : Nat) : Int) := by
                        rw [Int.tdiv_eq_ediv_of_nonneg (by omega)]
                        rw [IntWalk.i64_in _ (by omega)]
                        omega
                      go_wp2_with fail
                      go_loopw [22] (fun i wr => ∃ (j : Nat), j ≤ 6000 ∧ i = .int .i64 j ∧ wr.cell? ⟨b, o + k * 3, none⟩ = some (.int .i64 x) ∧ wr.cell? ⟨b, o + k * 3 + 1, none⟩ = some (.slice A1 m1 c1) ∧ wr.cell? ⟨b, o + k * 3 + 2, none⟩ = some (.slice A2 m2 c2) ∧ b < wr.heap.size ∧ Below w0.heap.size w0 wr ∧ Below w6.heap.size w6 wr) (fun i _ => N - (intOf i).toNat)
                      case atStart => exact ⟨0, by omega, rfl, S6.1, S6.2.1, S6.2.2.1, S6.2.2.2.1, S6.2.2.2.2, Below.refl _ _⟩
                      case round =>
                        obtain ⟨j, hj6, rfl, z0, z1, z2, z3, z4, hb8⟩ := hrel
                        by_cases hjN : j < N
                        · have C6 := Lib.hid (H5.out j (by omega) wr ((hrN.below hb8).more hb8.size))
                          have j1 : (j : Int) ≤ (c3 : Int) := by omega
                          have j0 : (0 : Int) ≤ (j : Int) := by omega
                          go_wp2_with fail
                          refine Calls.mono C6.out ?_
                          rintro e w9 ⟨A9, c9, rfl, hb9⟩
                          have S9 := keepw ⟨z0, z1, z2, z3, z4⟩ hb9
                          go_wp2_with (go_at_call 20; (with_reducible refine (num4 _ _).mono ?_); rintro e w19 ⟨rfl, rfl⟩)
                          go_roundw
                          case rel => exact ⟨j + 1 + N / 15, by omega, by go_num, S9.1, S9.2.1, S9.2.2.1, S9.2.2.2.1, S9.2.2.2.2, hb8.trans (hb9.mono hb8.size)⟩
                          case measure => simp [intOf]; omega
                        · have SZ := keepw ⟨z0, z1, z2, z3, z4⟩ (Below.refl _ _)
                          go_wp2
                          go_roundw
                          case rel => exact ⟨k + 1, by omega, by omega, by go_num, hbl.trans (SZ.2.2.2.2.mono hbl.size)⟩
                          case measure => simp [intOf]; omega
                  · rw [intR_out (by omega)] at C3
                    have C3 := Lib.hid C3
                    obtain ⟨z0, z1, z2, z3, z4⟩ := id S5
                    clear hin
                    go_wp2_with fail
                    refine Calls.mono (C3.out _) ?_
                    rintro e w6 ⟨A3, c3, rfl, hown, hb6⟩
                    have SB := keepw S5 hb6
                    clear z0 z1 z2 z3 z4 C3 hown hb6
                    go_wp2_with (go_at_call 20; (with_reducible refine (num4 _ _).mono ?_); rintro e w19 ⟨rfl, rfl⟩)
                    as_aux_lemma =>
                      obtain ⟨z0, z1, z2, z3, z4⟩ := id SB
                      have C5 := Lib.hid (wire_raw A1 m1 c1 _ l1 _ ((hr1.below z4).more z4.size) (Nat.le_refl _) (by omega))
                      go_wp2_with fail
                      refine Calls.mono C5.out ?_
                      rintro e w7 ⟨A3, c3, rfl, hown, hb7⟩
                      have SC := keepw SB hb7
                      clear z0 z1 z2 z3 z4 C5
                      obtain ⟨z0, z1, z2, z3, z4⟩ := id SC
                      have hlr : (put m1 ++ l1).length = (put m1).length + m1 := by rw [List.length_append, hll1]
                      simp only [hlr] at hown ⊢
                      have hp0 := put_pos m1
                      have hp9 : (put m1).length ≤ 9 := put_nine (by omega)
                      obtain ⟨g, rfl⟩ := own_place hown (by omega)
                      obtain ⟨hc3a, hc3b⟩ := own_cap hown
                      have CB := copy_bytes (some ⟨g, 0, none⟩) ((put m1).length + m1) c3 _ (put m1 ++ l1) w7.drew (Reads.of_own hown).drew (Nat.le_refl _) (by omega)
                      have G5 := fun A c W hr hnc hc => get_raw_at hll1 hm1 hl1 hl2 (by omega) A c W hr hnc hc
                      have H5 := fun j hj W (hr : Reads W W.heap.size 1 (some ⟨g, 0, none⟩) ((put m1).length + m1) (nums .u8 (put m1 ++ l1))) => get_raw_cut (j := j) hll1 hm1 hl1 hj (some ⟨g, 0, none⟩) c3 W hr hc3a hc3b
                      have hrL := Reads.of_own hown
                      have hlen5 : (put m1 ++ l1 ++ l2).length = (put m1).length + m1 + m2 := by rw [List.length_append, hlr, hll2]
                      generalize hN : (put m1).length + m1 = N at *
                      have hN5 : N ≤ 5009 := by omega
                      have CB := Lib.hid CB
                      have G5 := Lib.hid G5
                      have H5 := Lib.hid H5
                      have HLEN := Lib.hid hlen5
                      have HLR := Lib.hid hlr
                      clear hlen5 hlr hown hN
                      go_wp2_with fail
                      have SD := keepw SC (Below.refl _ _).drew
                      go_region_held3 (fun w' => w'.cell? ⟨b, o + k * 3, none⟩ = some (.int .i64 x) ∧ w'.cell? ⟨b, o + k * 3 + 1, none⟩ = some (.slice A1 m1 c1) ∧ w'.cell? ⟨b, o + k * 3 + 2, none⟩ = some (.slice A2 m2 c2) ∧ b < w'.heap.size ∧ Below w0.heap.size w0 w')
                        (first | exact SD | assumption)
                        (first
                          | (go_at_call 12; (with_reducible refine Calls.mono CB.out ?_); rintro e w3 ⟨A4, c4, rfl, hown4, hb3⟩; have S3 := keepw SD hb3)
                          | (refine step_append_reads _ (by rfl) _ _ _ (by rfl) w7.drew.heap.size 5 i0 _ 1 1 Try.underlying24 hi0 hz0 hz1 hz2 rfl (by omega) _ _ _ (by rfl) hown4 _ _ _ _ _ (by rfl) (hr2.below S3.2.2.2.2) (nums_one _ _) (by unfold maxLen; omega) (by omega) hb3.size ?_; intro A5 c5 w4 hown5 hb4; have hb34 := hb3.trans hb4; have S4 := keepw SD hb34; rw [← nums_app] at hown5)
                          | (go_at_call 32; (have hca := own_cap hown5); (have hr5 := Reads.of_own hown5); rw [← HLEN.out] at hr5 hca ⊢; (with_reducible refine Calls.mono (G5.out _ _ _ hr5 hca.1 hca.2) ?_); rintro e w5 ⟨A6, c6, rfl, hown6, hb5⟩; have S5 := keepw S4 hb5))
                      clear SD z0 z1 z2 z3 z4 SC
                      obtain ⟨z0, z1, z2, z3, z4⟩ := id S5
                      have hrM := (hrL.drew.below hb34).more hb34.size
                      have hrM := (hrM.below hb5).more hb5.size
                      clear CB G5 hb3 hb4 hb34 hb5 hown4 hown5 S3 S4 hrL
                      simp only [hll1] at hown6 ⊢
                      have E1 := Lib.hid (eq_bytes_b A6 A1 m1 c6 m1 c1 _ _ l1 l1 w5 true (Reads.of_own hown6) ((hr1.below z4).more z4.size) (by omega) (by omega) (by simp))
                      have hme : ((N : Int) != (N : Int)) = false := by simp
                      go_wp2_with (go_at_call 20; (with_reducible refine (num4 _ _).mono ?_); rintro e w19 ⟨rfl, rfl⟩)
                      refine Calls.mono E1.out ?_
                      rintro e w6 ⟨rfl, hb6⟩
                      have S6 := keepw S5 hb6
                      have hrN := (hrM.below hb6).more hb6.size
                      clear z0 z1 z2 z3 z4 S5 hrM E1 hown6
                      have hq : IntKind.i64.wrap ((N : Int).tdiv 15) = ((N / 15 : Nat) : Int) := by
                        rw [Int.tdiv_eq_ediv_of_nonneg (by omega)]
                        rw [IntWalk.i64_in _ (by omega)]
                        omega
                      go_wp2_with fail
                      go_loopw [22] (fun i wr => ∃ (j : Nat), j ≤ 6000 ∧ i = .int .i64 j ∧ wr.cell? ⟨b, o + k * 3, none⟩ = some (.int .i64 x) ∧ wr.cell? ⟨b, o + k * 3 + 1, none⟩ = some (.slice A1 m1 c1) ∧ wr.cell? ⟨b, o + k * 3 + 2, none⟩ = some (.slice A2 m2 c2) ∧ b < wr.heap.size ∧ Below w0.heap.size w0 wr ∧ Below w6.heap.size w6 wr) (fun i _ => N - (intOf i).toNat)
                      case atStart => exact ⟨0, by omega, rfl, S6.1, S6.2.1, S6.2.2.1, S6.2.2.2.1, S6.2.2.2.2, Below.refl _ _⟩
                      case round =>
                        obtain ⟨j, hj6, rfl, z0, z1, z2, z3, z4, hb8⟩ := hrel
                        by_cases hjN : j < N
                        · have C6 := Lib.hid (H5.out j (by omega) wr ((hrN.below hb8).more hb8.size))
                          have j1 : (j : Int) ≤ (c3 : Int) := by omega
                          have j0 : (0 : Int) ≤ (j : Int) := by omega
                          go_wp2_with fail
                          refine Calls.mono C6.out ?_
                          rintro e w9 ⟨A9, c9, rfl, hb9⟩
                          have S9 := keepw ⟨z0, z1, z2, z3, z4⟩ hb9
                          go_wp2_with (go_at_call 20; (with_reducible refine (num4 _ _).mono ?_); rintro e w19 ⟨rfl, rfl⟩)
                          go_roundw
                          case rel => exact ⟨j + 1 + N / 15, by omega, by go_num, S9.1, S9.2.1, S9.2.2.1, S9.2.2.2.1, S9.2.2.2.2, hb8.trans (hb9.mono hb8.size)⟩
                          case measure => simp [intOf]; omega
                        · have SZ := keepw ⟨z0, z1, z2, z3, z4⟩ (Below.refl _ _)
                          go_wp2
                          go_roundw
                          case rel => exact ⟨k + 1, by omega, by omega, by go_num, hbl.trans (SZ.2.2.2.2.mono hbl.size)⟩
                          case measure => simp [intOf]; omega
          · rw [numR_neg (by omega)] at C1
            have C1 := Lib.hid C1
            obtain ⟨z0, z1, z2, z3, z4⟩ := id S1
            go_wp2_with fail
            refine Calls.mono (C1.out _) ?_
            rintro e w2 ⟨A3, c3, rfl, hown, hb2⟩
            have S5 := keepw S1 hb2
            clear z0 z1 z2 z3 z4 C1 hown hb2
            go_wp2_with (go_at_call 20; (with_reducible refine (num4 _ _).mono ?_); rintro e w19 ⟨rfl, rfl⟩)
            as_aux_lemma =>
              have C3 := fun W => wire_int x W hx0 hx1
              by_cases hin : -4611686018427387904 ≤ x ∧ x < 4611686018427387904
              · rw [intR_in hin.1 hin.2] at C3
                have C3 := Lib.hid C3
                obtain ⟨z0, z1, z2, z3, z4⟩ := id S5
                go_wp2_with fail
                refine Calls.mono (C3.out _) ?_
                rintro e w6 ⟨A3, c3, rfl, hown, hb6⟩
                have SC := keepw S5 hb6
                clear z0 z1 z2 z3 z4 C3
                obtain ⟨z0, z1, z2, z3, z4⟩ := id SC
                have hp0 := put_pos (zig x)
                have hp9 : (put (zig x)).length ≤ 9 := put_nine (by have := zig_lt hin.1 hin.2; omega)
                obtain ⟨g, rfl⟩ := own_place hown hp0
                obtain ⟨hc3a, hc3b⟩ := own_cap hown
                have CB := Lib.hid (copy_bytes (some ⟨g, 0, none⟩) (put (zig x)).length c3 _ (put (zig x)) w6.drew (Reads.of_own hown).drew (Nat.le_refl _) (by omega))
                have G5 := Lib.hid (fun A c B W hr => get_int_at (m := l1) hin.1 hin.2 hl1 (by simp; omega) A c B W hr)
                have H5 := Lib.hid (fun W (hr : Reads W W.heap.size 1 (some ⟨g, 0, none⟩) (put (zig x)).length (nums .u8 (put (zig x)))) => get_int_cut (j := (put (zig x)).length - 1) hin.1 hin.2 (by omega) (some ⟨g, 0, none⟩) c3 _ W hr)
                have hrL := Reads.of_own hown
                have hlen5 : (put (zig x) ++ l1).length = (put (zig x)).length + m1 := by rw [List.length_append, hll1]
                have HLEN := Lib.hid hlen5
                clear hlen5 hown
                generalize hP : put (zig x) = P at *
                generalize hNP : P.length = N at *
                go_wp2_with (go_at_call 20; (with_reducible refine (num4 _ _).mono ?_); rintro e w19 ⟨rfl, rfl⟩)
                have SD := keepw SC (Below.refl _ _).drew
                go_region_held3 (fun w' => w'.cell? ⟨b, o + k * 3, none⟩ = some (.int .i64 x) ∧ w'.cell? ⟨b, o + k * 3 + 1, none⟩ = some (.slice A1 m1 c1) ∧ w'.cell? ⟨b, o + k * 3 + 2, none⟩ = some (.slice A2 m2 c2) ∧ b < w'.heap.size ∧ Below w0.heap.size w0 w')
                  (first | exact SD | assumption)
                  (first
                    | (go_at_call 12; (with_reducible refine Calls.mono CB.out ?_); rintro e w3 ⟨A4, c4, rfl, hown4, hb3⟩; have S3 := keepw SD hb3)
                    | (refine step_append_reads _ (by rfl) _ _ _ (by rfl) w6.drew.heap.size 5 i0 _ 1 1 Try.underlying24 hi0 hz0 hz1 hz2 rfl (by omega) _ _ _ (by rfl) hown4 _ _ _ _ _ (by rfl) (hr1.below S3.2.2.2.2) (nums_one _ _) (by unfold maxLen; omega) (by omega) hb3.size ?_; intro A5 c5 w4 hown5 hb4; have hb34 := hb3.trans hb4; have S4 := keepw SD hb34; rw [← nums_app] at hown5)
                    | (go_at_call 29; (have hr5 := Reads.of_own hown5); rw [← HLEN.out] at hr5 ⊢; (with_reducible refine Calls.mono (G5.out _ _ _ _ hr5) ?_); rintro e w5 ⟨rfl, rfl⟩))
                clear SD z0 z1 z2 z3 z4 SC
                obtain ⟨z0, z1, z2, z3, z4⟩ := id S4
                have hrM := (hrL.drew.below hb34).more hb34.size
                have C6 := Lib.hid (H5.out _ hrM)
                clear CB G5 hown4 hown5 S3 hrL H5
                have hs1 : IntKind.i64.wrap ((N : Int) - 1) = ((N - 1 : Nat) : Int) := by rw [IntWalk.i64_in _ (by omega)]; omega
                have j1 : ((N - 1 : Nat) : Int) ≤ (c3 : Int) := by omega
                have j0 : (0 : Int) ≤ ((N - 1 : Nat) : Int) := by omega
                have hme : ((N : Int) != (N : Int)) = false := by simp
                have hmx : (x != x) = false := by simp
                generalize hJ : N - 1 = J at *
                go_wp2_with fail
                refine Calls.mono C6.out ?_
                rintro e w9 ⟨rfl, rfl⟩
                go_wp2_with (go_at_call 20; (with_reducible refine (num4 _ _).mono ?_); rintro e w19 ⟨rfl, rfl⟩)
                have SB := S4
                clear z0 z1 z2 z3 z4 S4 C6 hs1 j1 j0 hme hmx hJ hNP hP HLEN hb3 hb4 hb34 hb6 hrM hp0 hp9 hc3a hc3b
                as_aux_lemma =>
                  obtain ⟨z0, z1, z2, z3, z4⟩ := id SB
                  have C5 := Lib.hid (wire_raw A1 m1 c1 _ l1 _ ((hr1.below z4).more z4.size) (Nat.le_refl _) (by omega))
                  go_wp2_with fail
                  refine Calls.mono C5.out ?_
                  rintro e w7 ⟨A3, c3, rfl, hown, hb7⟩
                  have SC := keepw SB hb7
                  clear z0 z1 z2 z3 z4 C5
                  obtain ⟨z0, z1, z2, z3, z4⟩ := id SC
                  have hlr : (put m1 ++ l1).length = (put m1).length + m1 := by rw [List.length_append, hll1]
                  simp only [hlr] at hown ⊢
                  have hp0 := put_pos m1
                  have hp9 : (put m1).length ≤ 9 := put_nine (by omega)
                  obtain ⟨g, rfl⟩ := own_place hown (by omega)
                  obtain ⟨hc3a, hc3b⟩ := own_cap hown
                  have CB := copy_bytes (some ⟨g, 0, none⟩) ((put m1).length + m1) c3 _ (put m1 ++ l1) w7.drew (Reads.of_own hown).drew (Nat.le_refl _) (by omega)
                  have G5 := fun A c W hr hnc hc => get_raw_at hll1 hm1 hl1 hl2 (by omega) A c W hr hnc hc
                  have H5 := fun j hj W (hr : Reads W W.heap.size 1 (some ⟨g, 0, none⟩) ((put m1).length + m1) (nums .u8 (put m1 ++ l1))) => get_raw_cut (j := j) hll1 hm1 hl1 hj (some ⟨g, 0, none⟩) c3 W hr hc3a hc3b
                  have hrL := Reads.of_own hown
                  have hlen5 : (put m1 ++ l1 ++ l2).length = (put m1).length + m1 + m2 := by rw [List.length_append, hlr, hll2]
                  generalize hN : (put m1).length + m1 = N at *
                  have hN5 : N ≤ 5009 := by omega
                  have CB := Lib.hid CB
                  have G5 := Lib.hid G5
                  have H5 := Lib.hid H5
                  have HLEN := Lib.hid hlen5
                  have HLR := Lib.hid hlr
                  clear hlen5 hlr hown hN
                  go_wp2_with fail
                  have SD := keepw SC (Below.refl _ _).drew
                  go_region_held3 (fun w' => w'.cell? ⟨b, o + k * 3, none⟩ = some (.int .i64 x) ∧ w'.cell? ⟨b, o + k * 3 + 1, none⟩ = some (.slice A1 m1 c1) ∧ w'.cell? ⟨b, o + k * 3 + 2, none⟩ = some (.slice A2 m2 c2) ∧ b < w'.heap.size ∧ Below w0.heap.size w0 w')
                    (first | exact SD | assumption)
                    (first
                      | (go_at_call 12; (with_reducible refine Calls.mono CB.out ?_); rintro e w3 ⟨A4, c4, rfl, hown4, hb3⟩; have S3 := keepw SD hb3)
                      | (refine step_append_reads _ (by rfl) _ _ _ (by rfl) w7.drew.heap.size 5 i0 _ 1 1 Try.underlying24 hi0 hz0 hz1 hz2 rfl (by omega) _ _ _ (by rfl) hown4 _ _ _ _ _ (by rfl) (hr2.below S3.2.2.2.2) (nums_one _ _) (by unfold maxLen; omega) (by omega) hb3.size ?_; intro A5 c5 w4 hown5 hb4; have hb34 := hb3.trans hb4; have S4 := keepw SD hb34; rw [← nums_app] at hown5)
                      | (go_at_call 32; (have hca := own_cap hown5); (have hr5 := Reads.of_own hown5); rw [← HLEN.out] at hr5 hca ⊢; (with_reducible refine Calls.mono (G5.out _ _ _ hr5 hca.1 hca.2) ?_); rintro e w5 ⟨A6, c6, rfl, hown6, hb5⟩; have S5 := keepw S4 hb5))
                  clear SD z0 z1 z2 z3 z4 SC
                  obtain ⟨z0, z1, z2, z3, z4⟩ := id S5
                  have hrM := (hrL.drew.below hb34).more hb34.size
                  have hrM := (hrM.below hb5).more hb5.size
                  clear CB G5 hb3 hb4 hb34 hb5 hown4 hown5 S3 S4 hrL
                  simp only [hll1] at hown6 ⊢
                  have E1 := Lib.hid (eq_bytes_b A6 A1 m1 c6 m1 c1 _ _ l1 l1 w5 true (Reads.of_own hown6) ((hr1.below z4).more z4.size) (by omega) (by omega) (by simp))
                  have hme : ((N : Int) != (N : Int)) = false := by simp
                  go_wp2_with (go_at_call 20; (with_reducible refine (num4 _ _).mono ?_); rintro e w19 ⟨rfl, rfl⟩)
                  refine Calls.mono E1.out ?_
                  rintro e w6 ⟨rfl, hb6⟩
                  have S6 := keepw S5 hb6
                  have hrN := (hrM.below hb6).more hb6.size
                  clear z0 z1 z2 z3 z4 S5 hrM E1 hown6
                  have hq : IntKind.i64.wrap ((N : Int).tdiv 15) = ((N / 15 : Nat) : Int) := by
                    rw [Int.tdiv_eq_ediv_of_nonneg (by omega)]
                    rw [IntWalk.i64_in _ (by omega)]
                    omega
                  go_wp2_with fail
                  go_loopw [22] (fun i wr => ∃ (j : Nat), j ≤ 6000 ∧ i = .int .i64 j ∧ wr.cell? ⟨b, o + k * 3, none⟩ = some (.int .i64 x) ∧ wr.cell? ⟨b, o + k * 3 + 1, none⟩ = some (.slice A1 m1 c1) ∧ wr.cell? ⟨b, o + k * 3 + 2, none⟩ = some (.slice A2 m2 c2) ∧ b < wr.heap.size ∧ Below w0.heap.size w0 wr ∧ Below w6.heap.size w6 wr) (fun i _ => N - (intOf i).toNat)
                  case atStart => exact ⟨0, by omega, rfl, S6.1, S6.2.1, S6.2.2.1, S6.2.2.2.1, S6.2.2.2.2, Below.refl _ _⟩
                  case round =>
                    obtain ⟨j, hj6, rfl, z0, z1, z2, z3, z4, hb8⟩ := hrel
                    by_cases hjN : j < N
                    · have C6 := Lib.hid (H5.out j (by omega) wr ((hrN.below hb8).more hb8.size))
                      have j1 : (j : Int) ≤ (c3 : Int) := by omega
                      have j0 : (0 : Int) ≤ (j : Int) := by omega
                      go_wp2_with fail
                      refine Calls.mono C6.out ?_
                      rintro e w9 ⟨A9, c9, rfl, hb9⟩
                      have S9 := keepw ⟨z0, z1, z2, z3, z4⟩ hb9
                      go_wp2_with (go_at_call 20; (with_reducible refine (num4 _ _).mono ?_); rintro e w19 ⟨rfl, rfl⟩)
                      go_roundw
                      case rel => exact ⟨j + 1 + N / 15, by omega, by go_num, S9.1, S9.2.1, S9.2.2.1, S9.2.2.2.1, S9.2.2.2.2, hb8.trans (hb9.mono hb8.size)⟩
                      case measure => simp [intOf]; omega
                    · have SZ := keepw ⟨z0, z1, z2, z3, z4⟩ (Below.refl _ _)
                      go_wp2
                      go_roundw
                      case rel => exact ⟨k + 1, by omega, by omega, by go_num, hbl.trans (SZ.2.2.2.2.mono hbl.size)⟩
                      case measure => simp [intOf]; omega
              · rw [intR_out (by omega)] at C3
                have C3 := Lib.hid C3
                obtain ⟨z0, z1, z2, z3, z4⟩ := id S5
                clear hin
                go_wp2_with fail
                refine Calls.mono (C3.out _) ?_
                rintro e w6 ⟨A3, c3, rfl, hown, hb6⟩
                have SB := keepw S5 hb6
                clear z0 z1 z2 z3 z4 C3 hown hb6
                go_wp2_with (go_at_call 20; (with_reducible refine (num4 _ _).mono ?_); rintro e w19 ⟨rfl, rfl⟩)
                as_aux_lemma =>
                  obtain ⟨z0, z1, z2, z3, z4⟩ := id SB
                  have C5 := Lib.hid (wire_raw A1 m1 c1 _ l1 _ ((hr1.below z4).more z4.size) (Nat.le_refl _) (by omega))
                  go_wp2_with fail
                  refine Calls.mono C5.out ?_
                  rintro e w7 ⟨A3, c3, rfl, hown, hb7⟩
                  have SC := keepw SB hb7
                  clear z0 z1 z2 z3 z4 C5
                  obtain ⟨z0, z1, z2, z3, z4⟩ := id SC
                  have hlr : (put m1 ++ l1).length = (put m1).length + m1 := by rw [List.length_append, hll1]
                  simp only [hlr] at hown ⊢
                  have hp0 := put_pos m1
                  have hp9 : (put m1).length ≤ 9 := put_nine (by omega)
                  obtain ⟨g, rfl⟩ := own_place hown (by omega)
                  obtain ⟨hc3a, hc3b⟩ := own_cap hown
                  have CB := copy_bytes (some ⟨g, 0, none⟩) ((put m1).length + m1) c3 _ (put m1 ++ l1) w7.drew (Reads.of_own hown).drew (Nat.le_refl _) (by omega)
                  have G5 := fun A c W hr hnc hc => get_raw_at hll1 hm1 hl1 hl2 (by omega) A c W hr hnc hc
                  have H5 := fun j hj W (hr : Reads W W.heap.size 1 (some ⟨g, 0, none⟩) ((put m1).length + m1) (nums .u8 (put m1 ++ l1))) => get_raw_cut (j := j) hll1 hm1 hl1 hj (some ⟨g, 0, none⟩) c3 W hr hc3a hc3b
                  have hrL := Reads.of_own hown
                  have hlen5 : (put m1 ++ l1 ++ l2).length = (put m1).length + m1 + m2 := by rw [List.length_append, hlr, hll2]
                  generalize hN : (put m1).length + m1 = N at *
                  have hN5 : N ≤ 5009 := by omega
                  have CB := Lib.hid CB
                  have G5 := Lib.hid G5
                  have H5 := Lib.hid H5
                  have HLEN := Lib.hid hlen5
                  have HLR := Lib.hid hlr
                  clear hlen5 hlr hown hN
                  go_wp2_with fail
                  have SD := keepw SC (Below.refl _ _).drew
                  go_region_held3 (fun w' => w'.cell? ⟨b, o + k * 3, none⟩ = some (.int .i64 x) ∧ w'.cell? ⟨b, o + k * 3 + 1, none⟩ = some (.slice A1 m1 c1) ∧ w'.cell? ⟨b, o + k * 3 + 2, none⟩ = some (.slice A2 m2 c2) ∧ b < w'.heap.size ∧ Below w0.heap.size w0 w')
                    (first | exact SD | assumption)
                    (first
                      | (go_at_call 12; (with_reducible refine Calls.mono CB.out ?_); rintro e w3 ⟨A4, c4, rfl, hown4, hb3⟩; have S3 := keepw SD hb3)
                      | (refine step_append_reads _ (by rfl) _ _ _ (by rfl) w7.drew.heap.size 5 i0 _ 1 1 Try.underlying24 hi0 hz0 hz1 hz2 rfl (by omega) _ _ _ (by rfl) hown4 _ _ _ _ _ (by rfl) (hr2.below S3.2.2.2.2) (nums_one _ _) (by unfold maxLen; omega) (by omega) hb3.size ?_; intro A5 c5 w4 hown5 hb4; have hb34 := hb3.trans hb4; have S4 := keepw SD hb34; rw [← nums_app] at hown5)
                      | (go_at_call 32; (have hca := own_cap hown5); (have hr5 := Reads.of_own hown5); rw [← HLEN.out] at hr5 hca ⊢; (with_reducible refine Calls.mono (G5.out _ _ _ hr5 hca.1 hca.2) ?_); rintro e w5 ⟨A6, c6, rfl, hown6, hb5⟩; have S5 := keepw S4 hb5))
                  clear SD z0 z1 z2 z3 z4 SC
                  obtain ⟨z0, z1, z2, z3, z4⟩ := id S5
                  have hrM := (hrL.drew.below hb34).more hb34.size
                  have hrM := (hrM.below hb5).more hb5.size
                  clear CB G5 hb3 hb4 hb34 hb5 hown4 hown5 S3 S4 hrL
                  simp only [hll1] at hown6 ⊢
                  have E1 := Lib.hid (eq_bytes_b A6 A1 m1 c6 m1 c1 _ _ l1 l1 w5 true (Reads.of_own hown6) ((hr1.below z4).more z4.size) (by omega) (by omega) (by simp))
                  have hme : ((N : Int) != (N : Int)) = false := by simp
                  go_wp2_with (go_at_call 20; (with_reducible refine (num4 _ _).mono ?_); rintro e w19 ⟨rfl, rfl⟩)
                  refine Calls.mono E1.out ?_
                  rintro e w6 ⟨rfl, hb6⟩
                  have S6 := keepw S5 hb6
                  have hrN := (hrM.below hb6).more hb6.size
                  clear z0 z1 z2 z3 z4 S5 hrM E1 hown6
                  have hq : IntKind.i64.wrap ((N : Int).tdiv 15) = ((N / 15 : Nat) : Int) := by
                    rw [Int.tdiv_eq_ediv_of_nonneg (by omega)]
                    rw [IntWalk.i64_in _ (by omega)]
                    omega
                  go_wp2_with fail
                  go_loopw [22] (fun i wr => ∃ (j : Nat), j ≤ 6000 ∧ i = .int .i64 j ∧ wr.cell? ⟨b, o + k * 3, none⟩ = some (.int .i64 x) ∧ wr.cell? ⟨b, o + k * 3 + 1, none⟩ = some (.slice A1 m1 c1) ∧ wr.cell? ⟨b, o + k * 3 + 2, none⟩ = some (.slice A2 m2 c2) ∧ b < wr.heap.size ∧ Below w0.heap.size w0 wr ∧ Below w6.heap.size w6 wr) (fun i _ => N - (intOf i).toNat)
                  case atStart => exact ⟨0, by omega, rfl, S6.1, S6.2.1, S6.2.2.1, S6.2.2.2.1, S6.2.2.2.2, Below.refl _ _⟩
                  case round =>
                    obtain ⟨j, hj6, rfl, z0, z1, z2, z3, z4, hb8⟩ := hrel
                    by_cases hjN : j < N
                    · have C6 := Lib.hid (H5.out j (by omega) wr ((hrN.below hb8).more hb8.size))
                      have j1 : (j : Int) ≤ (c3 : Int) := by omega
                      have j0 : (0 : Int) ≤ (j : Int) := by omega
                      go_wp2_with fail
                      refine Calls.mono C6.out ?_
                      rintro e w9 ⟨A9, c9, rfl, hb9⟩
                      have S9 := keepw ⟨z0, z1, z2, z3, z4⟩ hb9
                      go_wp2_with (go_at_call 20; (with_reducible refine (num4 _ _).mono ?_); rintro e w19 ⟨rfl, rfl⟩)
                      go_roundw
                      case rel => exact ⟨j + 1 + N / 15, by omega, by go_num, S9.1, S9.2.1, S9.2.2.1, S9.2.2.2.1, S9.2.2.2.2, hb8.trans (hb9.mono hb8.size)⟩
                      case measure => simp [intOf]; omega
                    · have SZ := keepw ⟨z0, z1, z2, z3, z4⟩ (Below.refl _ _)
                      go_wp2
                      go_roundw
                      case rel => exact ⟨k + 1, by omega, by omega, by go_num, hbl.trans (SZ.2.2.2.2.mono hbl.size)⟩
                      case measure => simp [intOf]; omega
        · go_wp2_with fail
          refine (heavy_yes _ _ _ _ _ _ _ _ (by omega)).mono ?_
          rintro e w1 ⟨rfl, hb1⟩
          go_wp2
          go_ret
          exact ⟨rfl, hbl.trans (hb1.mono hbl.size)⟩
      · go_wp2_with (first | (go_at_call 25; refine (wakes_wire _).mono ?_; rintro e w1 ⟨rfl, hb1⟩))
        go_ret
        exact ⟨rfl, hbl.trans (hb1.mono hbl.size)⟩
    · go_wp2_with (first | (go_at_call 25; refine (wakes_wire _).mono ?_; rintro e w1 ⟨rfl, hb1⟩))
      go_ret
      exact ⟨rfl, hbl.trans (hb1.mono hbl.size)⟩
end lawWireBack
end Go.Proofs.Ytpklgghppmlklaa
