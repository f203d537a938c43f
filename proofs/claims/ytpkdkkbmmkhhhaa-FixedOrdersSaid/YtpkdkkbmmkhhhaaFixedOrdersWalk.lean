/- The walk of the law FixedOrders. -/
import Derived.Test.YtpkdkkbmmkhhhaaFixLaws
namespace Go.Proofs.Ytpkdkkbmmkhhhaa
open Go.RowKit Go.WideShapes Go.ChangeShapes


namespace lawFixedOrders
set_option maxHeartbeats 3200000 in
set_option maxRecDepth 100000 in
theorem walk {H : Type} {enc : TypeId × Value → H} (w : World) {base : Nat} (v : Value) (d : DataW H) (p : List MemPlace) (hv : Value.okWide Try.prog w .any base 31 v)
    (ht : DataW.Trod enc Try.prog w 0 (fun _ => true) true 31 v d p) : Calls Try.prog 19 #[v] w fun e w' => e = .returned (.bool true) ∧ Below w.heap.size w w' := by
  obtain ⟨A, n, c, rfl, hnc, hcm, ha⟩ := open_asks1 hv ht
  unfold maxLen at hcm
  clear hv ht
  go_enter Try.func19, Try.ntmps19
  go_wp2
  go_loopw [3] (fun i wr => ∃ (k : Nat), k ≤ n ∧ k ≤ 30 ∧ i = .int .i64 k ∧ Below w.heap.size w wr) (fun i _ => n - (intOf i).toNat)
  case atStart => exact ⟨0, Nat.zero_le _, by omega, rfl, Below.refl _ _⟩
  case round =>
    obtain ⟨k, hk, hk20, rfl, hbl⟩ := hrel
    by_cases hlt : k < n
    · by_cases h20 : k < 30
      · obtain ⟨b, o, x, y, z, rfl, hb, hc1, hc2, hc3, ⟨hx0, hx1⟩, ⟨hy0, hy1⟩, ⟨hz0, hz1⟩⟩ := ha.below hbl k hlt
        clear ha
        have K := fcmp_cases x y
        have k5 : nrm x ≤ nrm y → fcmp (fadd x z) (fadd y z) ≤ 0 := fadd_mono
        have k6 : nrm x ≤ nrm y → 0 ≤ fcmp (fneg x) (fneg y) := fneg_mono hx1 hy1
        have C1 := Lib.hid (fun W => fix_cmp x y W)
        have C2 := Lib.hid (fun W => ref_cmp x y W)
        have C3 := fun W => fix_cmp y x W
        rw [fcmp_turn x y] at C3
        have C4 := fun W => fix_cmp x x W
        rw [fcmp_self] at C4
        have P1 := Lib.hid (fun W => fix_add x z W hx1 hz1)
        have P2 := Lib.hid (fun W => fix_add y z W hy1 hz1)
        have P3 := Lib.hid (fun W => fix_add x y W hx1 hy1)
        have P4 := fun W => fix_add y x W hy1 hx1
        rw [fadd_comm y x] at P4
        have U1 := fun W => fix_mul x 65536 W hx1 (by omega)
        rw [fmul_unit hx1] at U1
        have U2 := Lib.hid (fun W => fix_mul x y W hx1 hy1)
        have U3 := fun W => fix_mul y x W hy1 hx1
        rw [fmul_comm y x] at U3
        have N1 := Lib.hid (fun W => fix_neg x W hx1)
        have N2 := Lib.hid (fun W => fix_neg y W hy1)
        have C5 := Lib.hid (fun W => fix_cmp (fadd x z) (fadd y z) W)
        have C6 := Lib.hid (fun W => fix_cmp (fneg x) (fneg y) W)
        have C7 := fun W => fix_cmp (nrm x) x W
        rw [nrm_nrm'] at C7
        have D1 := fun W => fix_div x 65536 W hx1 (by omega)
        rw [fdiv_unit hx1] at D1
        have C3 := Lib.hid C3
        have C4 := Lib.hid C4
        have P4 := Lib.hid P4
        have U1 := Lib.hid U1
        have U3 := Lib.hid U3
        have C7 := Lib.hid C7
        have D1 := Lib.hid D1
        generalize fcmp (fadd x z) (fadd y z) = c5 at *
        generalize fcmp (fneg x) (fneg y) = c6 at *
        generalize fadd x z = s1 at *
        generalize fadd y z = s2 at *
        generalize fadd x y = s3 at *
        generalize fmul x y = s4 at *
        generalize fneg x = s5 at *
        generalize fneg y = s6 at *
        generalize fcmp x y = n0 at *
        generalize nrm x = X at *
        generalize nrm y = Y at *
        rcases K with ⟨rfl, hxy⟩ | ⟨rfl, hxy⟩ | ⟨rfl, hxy⟩
        · have k5 := k5 (by omega)
          have k6 := k6 (by omega)
          clear hxy
          go_wp2_with fail
          go_quiet (fail)
          go_wp2_with (first | (go_at_call 54; ((with_reducible refine Calls.mono (C1.out _) ?_); rintro e w1 ⟨rfl, rfl⟩)) | (go_at_call 55; ((with_reducible refine Calls.mono (C2.out _) ?_); rintro e w1 ⟨rfl, rfl⟩)) | (go_at_call 54; ((with_reducible refine Calls.mono (C3.out _) ?_); rintro e w1 ⟨rfl, rfl⟩)) | (go_at_call 54; ((with_reducible refine Calls.mono (C4.out _) ?_); rintro e w1 ⟨rfl, rfl⟩)) | (go_at_call 35; ((with_reducible refine Calls.mono (P1.out _) ?_); rintro e w1 ⟨rfl, rfl⟩)) | (go_at_call 35; ((with_reducible refine Calls.mono (P2.out _) ?_); rintro e w1 ⟨rfl, rfl⟩)) | (go_at_call 54; ((with_reducible refine Calls.mono (C5.out _) ?_); rintro e w1 ⟨rfl, rfl⟩)) | (go_at_call 39; ((with_reducible refine Calls.mono (N1.out _) ?_); rintro e w1 ⟨rfl, rfl⟩)) | (go_at_call 39; ((with_reducible refine Calls.mono (N2.out _) ?_); rintro e w1 ⟨rfl, rfl⟩)) | (go_at_call 54; ((with_reducible refine Calls.mono (C6.out _) ?_); rintro e w1 ⟨rfl, rfl⟩)) | (go_at_call 26; ((with_reducible refine Calls.mono (U1.out _) ?_); rintro e w1 ⟨rfl, rfl⟩)) | (go_at_call 54; ((with_reducible refine Calls.mono (C7.out _) ?_); rintro e w1 ⟨rfl, rfl⟩)) | (go_at_call 35; ((with_reducible refine Calls.mono (P3.out _) ?_); rintro e w1 ⟨rfl, rfl⟩)) | (go_at_call 35; ((with_reducible refine Calls.mono (P4.out _) ?_); rintro e w1 ⟨rfl, rfl⟩)) | (go_at_call 26; ((with_reducible refine Calls.mono (U2.out _) ?_); rintro e w1 ⟨rfl, rfl⟩)) | (go_at_call 26; ((with_reducible refine Calls.mono (U3.out _) ?_); rintro e w1 ⟨rfl, rfl⟩)))
          refine Calls.mono (D1.out _) ?_
          rintro e w2 ⟨rfl, hb2⟩
          go_wp2_with (first | (go_at_call 54; ((with_reducible refine Calls.mono (C1.out _) ?_); rintro e w1 ⟨rfl, rfl⟩)) | (go_at_call 55; ((with_reducible refine Calls.mono (C2.out _) ?_); rintro e w1 ⟨rfl, rfl⟩)) | (go_at_call 54; ((with_reducible refine Calls.mono (C3.out _) ?_); rintro e w1 ⟨rfl, rfl⟩)) | (go_at_call 54; ((with_reducible refine Calls.mono (C4.out _) ?_); rintro e w1 ⟨rfl, rfl⟩)) | (go_at_call 35; ((with_reducible refine Calls.mono (P1.out _) ?_); rintro e w1 ⟨rfl, rfl⟩)) | (go_at_call 35; ((with_reducible refine Calls.mono (P2.out _) ?_); rintro e w1 ⟨rfl, rfl⟩)) | (go_at_call 54; ((with_reducible refine Calls.mono (C5.out _) ?_); rintro e w1 ⟨rfl, rfl⟩)) | (go_at_call 39; ((with_reducible refine Calls.mono (N1.out _) ?_); rintro e w1 ⟨rfl, rfl⟩)) | (go_at_call 39; ((with_reducible refine Calls.mono (N2.out _) ?_); rintro e w1 ⟨rfl, rfl⟩)) | (go_at_call 54; ((with_reducible refine Calls.mono (C6.out _) ?_); rintro e w1 ⟨rfl, rfl⟩)) | (go_at_call 26; ((with_reducible refine Calls.mono (U1.out _) ?_); rintro e w1 ⟨rfl, rfl⟩)) | (go_at_call 54; ((with_reducible refine Calls.mono (C7.out _) ?_); rintro e w1 ⟨rfl, rfl⟩)) | (go_at_call 35; ((with_reducible refine Calls.mono (P3.out _) ?_); rintro e w1 ⟨rfl, rfl⟩)) | (go_at_call 35; ((with_reducible refine Calls.mono (P4.out _) ?_); rintro e w1 ⟨rfl, rfl⟩)) | (go_at_call 26; ((with_reducible refine Calls.mono (U2.out _) ?_); rintro e w1 ⟨rfl, rfl⟩)) | (go_at_call 26; ((with_reducible refine Calls.mono (U3.out _) ?_); rintro e w1 ⟨rfl, rfl⟩)))
          go_roundw
          case rel => exact ⟨k + 1, by omega, by omega, by go_num, hbl.trans (((below_drewN (Below.refl _ _) _).trans hb2).mono hbl.size)⟩
          case measure => simp [intOf]; omega
        · have k5 := k5 (by omega)
          have k6 := k6 (by omega)
          clear hxy
          go_wp2_with fail
          go_quiet (fail)
          go_wp2_with (first | (go_at_call 54; ((with_reducible refine Calls.mono (C1.out _) ?_); rintro e w1 ⟨rfl, rfl⟩)) | (go_at_call 55; ((with_reducible refine Calls.mono (C2.out _) ?_); rintro e w1 ⟨rfl, rfl⟩)) | (go_at_call 54; ((with_reducible refine Calls.mono (C3.out _) ?_); rintro e w1 ⟨rfl, rfl⟩)) | (go_at_call 54; ((with_reducible refine Calls.mono (C4.out _) ?_); rintro e w1 ⟨rfl, rfl⟩)) | (go_at_call 35; ((with_reducible refine Calls.mono (P1.out _) ?_); rintro e w1 ⟨rfl, rfl⟩)) | (go_at_call 35; ((with_reducible refine Calls.mono (P2.out _) ?_); rintro e w1 ⟨rfl, rfl⟩)) | (go_at_call 54; ((with_reducible refine Calls.mono (C5.out _) ?_); rintro e w1 ⟨rfl, rfl⟩)) | (go_at_call 39; ((with_reducible refine Calls.mono (N1.out _) ?_); rintro e w1 ⟨rfl, rfl⟩)) | (go_at_call 39; ((with_reducible refine Calls.mono (N2.out _) ?_); rintro e w1 ⟨rfl, rfl⟩)) | (go_at_call 54; ((with_reducible refine Calls.mono (C6.out _) ?_); rintro e w1 ⟨rfl, rfl⟩)) | (go_at_call 26; ((with_reducible refine Calls.mono (U1.out _) ?_); rintro e w1 ⟨rfl, rfl⟩)) | (go_at_call 54; ((with_reducible refine Calls.mono (C7.out _) ?_); rintro e w1 ⟨rfl, rfl⟩)) | (go_at_call 35; ((with_reducible refine Calls.mono (P3.out _) ?_); rintro e w1 ⟨rfl, rfl⟩)) | (go_at_call 35; ((with_reducible refine Calls.mono (P4.out _) ?_); rintro e w1 ⟨rfl, rfl⟩)) | (go_at_call 26; ((with_reducible refine Calls.mono (U2.out _) ?_); rintro e w1 ⟨rfl, rfl⟩)) | (go_at_call 26; ((with_reducible refine Calls.mono (U3.out _) ?_); rintro e w1 ⟨rfl, rfl⟩)))
          refine Calls.mono (D1.out _) ?_
          rintro e w2 ⟨rfl, hb2⟩
          go_wp2_with (first | (go_at_call 54; ((with_reducible refine Calls.mono (C1.out _) ?_); rintro e w1 ⟨rfl, rfl⟩)) | (go_at_call 55; ((with_reducible refine Calls.mono (C2.out _) ?_); rintro e w1 ⟨rfl, rfl⟩)) | (go_at_call 54; ((with_reducible refine Calls.mono (C3.out _) ?_); rintro e w1 ⟨rfl, rfl⟩)) | (go_at_call 54; ((with_reducible refine Calls.mono (C4.out _) ?_); rintro e w1 ⟨rfl, rfl⟩)) | (go_at_call 35; ((with_reducible refine Calls.mono (P1.out _) ?_); rintro e w1 ⟨rfl, rfl⟩)) | (go_at_call 35; ((with_reducible refine Calls.mono (P2.out _) ?_); rintro e w1 ⟨rfl, rfl⟩)) | (go_at_call 54; ((with_reducible refine Calls.mono (C5.out _) ?_); rintro e w1 ⟨rfl, rfl⟩)) | (go_at_call 39; ((with_reducible refine Calls.mono (N1.out _) ?_); rintro e w1 ⟨rfl, rfl⟩)) | (go_at_call 39; ((with_reducible refine Calls.mono (N2.out _) ?_); rintro e w1 ⟨rfl, rfl⟩)) | (go_at_call 54; ((with_reducible refine Calls.mono (C6.out _) ?_); rintro e w1 ⟨rfl, rfl⟩)) | (go_at_call 26; ((with_reducible refine Calls.mono (U1.out _) ?_); rintro e w1 ⟨rfl, rfl⟩)) | (go_at_call 54; ((with_reducible refine Calls.mono (C7.out _) ?_); rintro e w1 ⟨rfl, rfl⟩)) | (go_at_call 35; ((with_reducible refine Calls.mono (P3.out _) ?_); rintro e w1 ⟨rfl, rfl⟩)) | (go_at_call 35; ((with_reducible refine Calls.mono (P4.out _) ?_); rintro e w1 ⟨rfl, rfl⟩)) | (go_at_call 26; ((with_reducible refine Calls.mono (U2.out _) ?_); rintro e w1 ⟨rfl, rfl⟩)) | (go_at_call 26; ((with_reducible refine Calls.mono (U3.out _) ?_); rintro e w1 ⟨rfl, rfl⟩)))
          go_roundw
          case rel => exact ⟨k + 1, by omega, by omega, by go_num, hbl.trans (((below_drewN (Below.refl _ _) _).trans hb2).mono hbl.size)⟩
          case measure => simp [intOf]; omega
        · clear hxy k5 k6
          go_wp2_with fail
          go_quiet (fail)
          go_wp2_with (first | (go_at_call 54; ((with_reducible refine Calls.mono (C1.out _) ?_); rintro e w1 ⟨rfl, rfl⟩)) | (go_at_call 55; ((with_reducible refine Calls.mono (C2.out _) ?_); rintro e w1 ⟨rfl, rfl⟩)) | (go_at_call 54; ((with_reducible refine Calls.mono (C3.out _) ?_); rintro e w1 ⟨rfl, rfl⟩)) | (go_at_call 54; ((with_reducible refine Calls.mono (C4.out _) ?_); rintro e w1 ⟨rfl, rfl⟩)) | (go_at_call 35; ((with_reducible refine Calls.mono (P1.out _) ?_); rintro e w1 ⟨rfl, rfl⟩)) | (go_at_call 35; ((with_reducible refine Calls.mono (P2.out _) ?_); rintro e w1 ⟨rfl, rfl⟩)) | (go_at_call 54; ((with_reducible refine Calls.mono (C5.out _) ?_); rintro e w1 ⟨rfl, rfl⟩)) | (go_at_call 39; ((with_reducible refine Calls.mono (N1.out _) ?_); rintro e w1 ⟨rfl, rfl⟩)) | (go_at_call 39; ((with_reducible refine Calls.mono (N2.out _) ?_); rintro e w1 ⟨rfl, rfl⟩)) | (go_at_call 54; ((with_reducible refine Calls.mono (C6.out _) ?_); rintro e w1 ⟨rfl, rfl⟩)) | (go_at_call 26; ((with_reducible refine Calls.mono (U1.out _) ?_); rintro e w1 ⟨rfl, rfl⟩)) | (go_at_call 54; ((with_reducible refine Calls.mono (C7.out _) ?_); rintro e w1 ⟨rfl, rfl⟩)) | (go_at_call 35; ((with_reducible refine Calls.mono (P3.out _) ?_); rintro e w1 ⟨rfl, rfl⟩)) | (go_at_call 35; ((with_reducible refine Calls.mono (P4.out _) ?_); rintro e w1 ⟨rfl, rfl⟩)) | (go_at_call 26; ((with_reducible refine Calls.mono (U2.out _) ?_); rintro e w1 ⟨rfl, rfl⟩)) | (go_at_call 26; ((with_reducible refine Calls.mono (U3.out _) ?_); rintro e w1 ⟨rfl, rfl⟩)))
          refine Calls.mono (D1.out _) ?_
          rintro e w2 ⟨rfl, hb2⟩
          go_wp2_with (first | (go_at_call 54; ((with_reducible refine Calls.mono (C1.out _) ?_); rintro e w1 ⟨rfl, rfl⟩)) | (go_at_call 55; ((with_reducible refine Calls.mono (C2.out _) ?_); rintro e w1 ⟨rfl, rfl⟩)) | (go_at_call 54; ((with_reducible refine Calls.mono (C3.out _) ?_); rintro e w1 ⟨rfl, rfl⟩)) | (go_at_call 54; ((with_reducible refine Calls.mono (C4.out _) ?_); rintro e w1 ⟨rfl, rfl⟩)) | (go_at_call 35; ((with_reducible refine Calls.mono (P1.out _) ?_); rintro e w1 ⟨rfl, rfl⟩)) | (go_at_call 35; ((with_reducible refine Calls.mono (P2.out _) ?_); rintro e w1 ⟨rfl, rfl⟩)) | (go_at_call 54; ((with_reducible refine Calls.mono (C5.out _) ?_); rintro e w1 ⟨rfl, rfl⟩)) | (go_at_call 39; ((with_reducible refine Calls.mono (N1.out _) ?_); rintro e w1 ⟨rfl, rfl⟩)) | (go_at_call 39; ((with_reducible refine Calls.mono (N2.out _) ?_); rintro e w1 ⟨rfl, rfl⟩)) | (go_at_call 54; ((with_reducible refine Calls.mono (C6.out _) ?_); rintro e w1 ⟨rfl, rfl⟩)) | (go_at_call 26; ((with_reducible refine Calls.mono (U1.out _) ?_); rintro e w1 ⟨rfl, rfl⟩)) | (go_at_call 54; ((with_reducible refine Calls.mono (C7.out _) ?_); rintro e w1 ⟨rfl, rfl⟩)) | (go_at_call 35; ((with_reducible refine Calls.mono (P3.out _) ?_); rintro e w1 ⟨rfl, rfl⟩)) | (go_at_call 35; ((with_reducible refine Calls.mono (P4.out _) ?_); rintro e w1 ⟨rfl, rfl⟩)) | (go_at_call 26; ((with_reducible refine Calls.mono (U2.out _) ?_); rintro e w1 ⟨rfl, rfl⟩)) | (go_at_call 26; ((with_reducible refine Calls.mono (U3.out _) ?_); rintro e w1 ⟨rfl, rfl⟩)))
          go_roundw
          case rel => exact ⟨k + 1, by omega, by omega, by go_num, hbl.trans (((below_drewN (Below.refl _ _) _).trans hb2).mono hbl.size)⟩
          case measure => simp [intOf]; omega
      · go_wp2_with (first | (go_at_call 28; refine (wakes1 _).mono ?_; rintro e w1 ⟨rfl, hb1⟩))
        go_ret
        exact ⟨rfl, hbl.trans (hb1.mono hbl.size)⟩
    · go_wp2_with (first | (go_at_call 28; refine (wakes1 _).mono ?_; rintro e w1 ⟨rfl, hb1⟩))
      go_ret
      exact ⟨rfl, hbl.trans (hb1.mono hbl.size)⟩
end lawFixedOrders
end Go.Proofs.Ytpkdkkbmmkhhhaa
