/- The walk of the law CommandParses. -/
import Derived.Test.YtneigplmgellcaaCmdOpen
namespace Go.Proofs.Ytneigplmgellcaa
set_option maxRecDepth 20000
open Go.RowKit Go.WideShapes Go.ChangeShapes

namespace lawCommandParses
set_option maxHeartbeats 6400000 in
set_option maxRecDepth 100000 in
theorem walk {H : Type} {enc : TypeId × Value → H} (w : World) {base : Nat} (v : Value) (d : DataW H) (p : List MemPlace) (hv : Value.okWide Try.prog w .any base 22 v)
    (ht : DataW.Trod enc Try.prog w 0 (fun _ => true) true 22 v d p) : Calls Try.prog 4 #[v] w fun e w' => e = .returned (.bool true) ∧ Below w.heap.size w w' := by
  obtain ⟨A, n, c, rfl, hnc, hcm, ha⟩ := open_asks22 hv ht
  unfold maxLen at hcm
  clear hv ht
  go_enter Try.func4, Try.ntmps4
  go_wp2_with fail
  go_loopw [3] (fun i wr => ∃ (k : Nat), k ≤ n ∧ k ≤ 10 ∧ i = .int .i64 k ∧ Below w.heap.size w wr) (fun i _ => n - (intOf i).toNat)
  case atStart => exact ⟨0, Nat.zero_le _, by omega, rfl, Below.refl _ _⟩
  case round =>
    obtain ⟨k, hk, hk10, rfl, hbl⟩ := hrel
    by_cases hlt : k < n
    · by_cases h10 : k < 10
      · obtain ⟨b, o, ⟨pl, sq, kd, nn, us, ti, wd, ht, ax, ay⟩, A1, m1, c1, A2, m2, c2, l2, rfl, hb, k0, k1, k2, k3, k4, k5, k6, k7, k8, k9, k10, hr1, hr2, hl2, hmc2, hcm2, hA2⟩ := ha.below hbl k hlt
        simp only at k0 k1 k2 k3 k4 k5 k6 k7 k8 k9 k10
        clear ha hr1
        by_cases hh : m1 ≤ 300 ∧ m2 ≤ 3000
        · obtain ⟨hm1, hm2⟩ := hh
          go_wp2_with fail
          refine Calls.mono (heavy22_no pl sq kd nn ti wd ht ax ay A1 A2 m1 c1 m2 c2 _ hm1 hm2) ?_
          rintro e w1 ⟨rfl, hb1⟩
          have kx := (hb1.cell (p := ⟨b, o + k * 11 + 10, none⟩) hb).trans k10
          replace hr2 := (hr2.below hb1).more hb1.size
          have hbw := Nat.lt_of_lt_of_le hb hb1.size
          replace hbl := hbl.trans (hb1.mono hbl.size)
          clear k0 k1 k2 k3 k4 k5 k6 k7 k8 k9 k10 hb hb1
          go_wp2_with fail
          refine Calls.mono (copy_bytes A2 m2 c2 _ l2 w1 hr2 (Nat.le_refl _) (by omega)) ?_
          rintro e w2 ⟨A3, c3, rfl, hown3, hb2⟩
          have kx2 := (hb2.cell (p := ⟨b, o + k * 11 + 10, none⟩) hbw).trans kx
          replace hr2 := (hr2.below hb2).more hb2.size
          have hbw2 := Nat.lt_of_lt_of_le hbw hb2.size
          replace hbl := hbl.trans (hb2.mono hbl.size)
          obtain ⟨hnc3, hcm3⟩ := own_cap hown3
          have hR3 := Reads.of_own hown3
          have hbw2s := hbl.size
          clear kx hbw hb2
          have CP := Lib.hid (cmd_parse A3 m2 c3 _ l2 w2 ⟨hR3, hl2, hnc3, by omega, by omega⟩ (Nat.le_refl _))
          have CR := Lib.hid (fun W (h : Reads W W.heap.size 1 A2 m2 (nums .u8 l2)) => ref_parse A2 m2 c2 _ l2 W ⟨h, hl2, hmc2, hcm2, by omega⟩ hA2 (Nat.le_refl _))
          generalize parseR l2 = r at *
          obtain ⟨⟨ql, qs, qk, qn, qu, qt, qw, qh, qx, qy⟩, sz, er⟩ := r
          unfold GivesCmd at CP CR
          simp only [cmdV] at CP CR
          go_wp2_with fail
          refine Calls.mono CP.out ?_
          rintro e w3 ⟨A4, m4, c4, rfl, hown4, hm4, hb3⟩
          have kx3 := (hb3.cell (p := ⟨b, o + k * 11 + 10, none⟩) hbw2).trans kx2
          have hbw3 := Nat.lt_of_lt_of_le hbw2 hb3.size
          replace hr2 := (hr2.below hb3).more hb3.size
          replace hR3 := hR3.below hb3
          replace hbl := hbl.trans (hb3.mono hbl.size)
          have hs23 := hb3.size
          clear kx2 hbw2 CP hown3
          -- the first command's box
          have hX := Blk.new w3 (cmdCs ql qs qk qn A4 m4 c4 qt qw qh qx qy) 28
          have hbX : Below w3.heap.size w3 (w3.alloc (.cells (cmdCs ql qs qk qn A4 m4 c4 qt qw qh qx qy) 28)) := (Below.refl _ _).alloc (Nat.le_refl _) _
          have kx4 := (hbX.cell (p := ⟨b, o + k * 11 + 10, none⟩) hbw3).trans kx3
          replace hr2 := (hr2.below hbX).more hbX.size
          replace hR3 := hR3.below (hbX.mono hs23)
          replace hown4 := own_below hown4 hbX
          replace hbl := hbl.trans (hbX.mono hbl.size)
          have hbw4 := Nat.lt_of_lt_of_le hbw3 hbX.size
          have hs34 := hbX.size
          go_wp2_with fail
          generalize w3.alloc (.cells (cmdCs ql qs qk qn A4 m4 c4 qt qw qh qx qy) 28) = w4 at *
          generalize hX0 : w3.heap.size = X at *
          clear kx3 hbw3 hbX
          refine Calls.mono (CR.out _ hr2) ?_
          rintro e w5 ⟨A5, m5, c5, rfl, hown5, hm5, hb5⟩
          have kx5 := (hb5.cell (p := ⟨b, o + k * 11 + 10, none⟩) hbw4).trans kx4
          have hbw5 := Nat.lt_of_lt_of_le hbw4 hb5.size
          replace hr2 := (hr2.below hb5).more hb5.size
          replace hR3 := hR3.below (hb5.mono (by omega))
          replace hown4 := own_below hown4 hb5
          replace hX := hX.below hb5 hX.lt
          replace hbl := hbl.trans (hb5.mono hbl.size)
          have hs45 := hb5.size
          clear kx4 hbw4 CR hb5
          have hY := Blk.new w5 (cmdCs ql qs qk qn A5 m5 c5 qt qw qh qx qy) 28
          have hbY : Below w5.heap.size w5 (w5.alloc (.cells (cmdCs ql qs qk qn A5 m5 c5 qt qw qh qx qy) 28)) := (Below.refl _ _).alloc (Nat.le_refl _) _
          have kx6 := (hbY.cell (p := ⟨b, o + k * 11 + 10, none⟩) hbw5).trans kx5
          have hbw6 := Nat.lt_of_lt_of_le hbw5 hbY.size
          replace hr2 := (hr2.below hbY).more hbY.size
          replace hR3 := hR3.below (hbY.mono (by omega))
          replace hown4 := own_below hown4 hbY
          replace hown5 := own_below hown5 hbY
          replace hX := hX.alloc (.cells (cmdCs ql qs qk qn A5 m5 c5 qt qw qh qx qy) 28)
          replace hbl := hbl.trans (hbY.mono hbl.size)
          have hs56 := hbY.size
          go_wp2_with fail
          generalize w5.alloc (.cells (cmdCs ql qs qk qn A5 m5 c5 qt qw qh qx qy) 28) = w6 at *
          generalize hY0 : w5.heap.size = Y at *
          clear kx5 hbw5 hbY
          refine Calls.mono (num22 _ _) ?_
          rintro e wn ⟨rfl, rfl⟩
          have x0 := hX.cell (i := 0) rfl
          have y0 := hY.cell (i := 0) rfl
          have x1 := hX.cell (i := 1) rfl
          have y1 := hY.cell (i := 1) rfl
          have x2 := hX.cell (i := 2) rfl
          have y2 := hY.cell (i := 2) rfl
          have x3 := hX.cell (i := 3) rfl
          have y3 := hY.cell (i := 3) rfl
          have x4 := hX.cell (i := 4) rfl
          have y4 := hY.cell (i := 4) rfl
          have x5 := hX.cell (i := 5) rfl
          have y5 := hY.cell (i := 5) rfl
          have x6 := hX.cell (i := 6) rfl
          have y6 := hY.cell (i := 6) rfl
          have x7 := hX.cell (i := 7) rfl
          have y7 := hY.cell (i := 7) rfl
          have x8 := hX.cell (i := 8) rfl
          have y8 := hY.cell (i := 8) rfl
          have x9 := hX.cell (i := 9) rfl
          have y9 := hY.cell (i := 9) rfl
          have E := eq_cmd ⟨ql, qs, qk, qn, qu, qt, qw, qh, qx, qy⟩ ⟨ql, qs, qk, qn, qu, qt, qw, qh, qx, qy⟩ A4 A5 m4 c4 m5 c5 _ _ w6 (Reads.of_own hown4) (Reads.of_own hown5) (Nat.le_refl _) (Nat.le_refl _) (by omega) (by omega)
          rw [eqC_self] at E
          simp only [cmdV] at E
          replace E := Lib.hid E
          go_wp2_with fail
          refine Calls.mono E.out ?_
          rintro e w7 ⟨rfl, hb7⟩
          have kx7 := (hb7.cell (p := ⟨b, o + k * 11 + 10, none⟩) hbw6).trans kx6
          replace hr2 := (hr2.below hb7).more hb7.size
          replace hR3 := hR3.below (hb7.mono (by omega))
          replace hown4 := own_below hown4 hb7
          replace hX := hX.below hb7 hX.lt
          replace hbl := hbl.trans (hb7.mono hbl.size)
          have hs67 := hb7.size
          clear kx6 hbw6 E hb7 hY hown5 x0 y0 x1 y1 x2 y2 x3 y3 x4 y4 x5 y5 x6 y6 x7 y7 x8 y8 x9 y9
          have E2 := Lib.hid (eq_bytes_b A3 A2 m2 c3 m2 c2 _ _ l2 l2 w7 true hR3 hr2 (by omega) (by omega) (by simp))
          go_wp2_with fail
          refine Calls.mono E2.out ?_
          rintro e w8 ⟨rfl, hb8⟩
          replace hown4 := own_below hown4 hb8
          replace hX := hX.below hb8 hX.lt
          replace hbl := hbl.trans (hb8.mono hbl.size)
          have hs78 := hb8.size
          clear kx7 E2 hb8 hr2 hR3
          have x4 := hX.cell (i := 4) rfl
          go_wp2_with fail
          refine Calls.mono (spoil_nums A4 m4 c4 w2.heap.size qu w8 hown4 (by omega) (by omega)) ?_
          rintro e w9 ⟨rfl, hb9⟩
          have HB := Lib.hid (hbl.trans (hb9.mono (by have := hbw2s; omega)))
          clear hbl hb9 hown4 hX x4
          go_wp2_with fail
          go_roundw
          case rel => exact ⟨k + 1, by omega, by omega, by go_num, HB.out⟩
          case measure => simp [intOf]; omega
        · go_wp2_with fail
          refine Calls.mono (heavy22_yes pl sq kd nn ti wd ht ax ay A1 A2 m1 c1 m2 c2 _ (by omega)) ?_
          rintro e w1 ⟨rfl, hb1⟩
          go_wp2_with fail
          go_ret
          exact ⟨rfl, hbl.trans (hb1.mono hbl.size)⟩
      · go_wp2_with fail
        refine Calls.mono (wakes22 _) ?_
        rintro e w3 ⟨rfl, hb3⟩
        go_wp2_with fail
        go_ret
        exact ⟨rfl, hbl.trans (hb3.mono hbl.size)⟩
    · go_wp2_with fail
      refine Calls.mono (wakes22 _) ?_
      rintro e w3 ⟨rfl, hb3⟩
      go_wp2_with fail
      go_ret
      exact ⟨rfl, hbl.trans (hb3.mono hbl.size)⟩
end lawCommandParses
end Go.Proofs.Ytneigplmgellcaa
