/- The walk of the law CommandBytes. -/
import Derived.Test.YtneigplmgellcaaCmdKindMath
import Derived.Test.YtneigplmgellcaaGrow
namespace Go.Proofs.Ytneigplmgellcaa
set_option maxRecDepth 20000
open Go.RowKit Go.WideShapes Go.ChangeShapes

namespace lawCommandBytes
set_option maxHeartbeats 12800000 in
set_option maxRecDepth 100000 in
theorem walk {H : Type} {enc : TypeId × Value → H} (w : World) {base : Nat} (v : Value) (d : DataW H) (p : List MemPlace) (hv : Value.okWide Try.prog w .any base 22 v)
    (ht : DataW.Trod enc Try.prog w 0 (fun _ => true) true 22 v d p) : Calls Try.prog 3 #[v] w fun e w' => e = .returned (.bool true) ∧ Below w.heap.size w w' := by
  obtain ⟨A, n, c, rfl, hnc, hcm, ha⟩ := open_asks22 hv ht
  unfold maxLen at hcm
  clear hv ht
  go_enter Try.func3, Try.ntmps3
  go_wp2_with fail
  go_loopw [3] (fun i wr => ∃ (k : Nat), k ≤ n ∧ k ≤ 10 ∧ i = .int .i64 k ∧ Below w.heap.size w wr) (fun i _ => n - (intOf i).toNat)
  case atStart => exact ⟨0, Nat.zero_le _, by omega, rfl, Below.refl _ _⟩
  case round =>
    obtain ⟨k, hk, hk10, rfl, hbl⟩ := hrel
    by_cases hlt : k < n
    · by_cases h10 : k < 10
      · skip
        obtain ⟨b, o, ⟨pl, sq, kd, nn, us, ti, wd, ht, ax, ay⟩, A1, m1, c1, A2, m2, c2, l2, rfl, hb, k0, k1, k2, k3, k4, k5, k6, k7, k8, k9, k10, hr1, hr2, hl2, hmc2, hcm2, hA2⟩ := ha.below hbl k hlt
        simp only at hr1 k0 k1 k2 k3 k4 k5 k6 k7 k8 k9 k10
        clear ha hr2 hl2 hmc2 hcm2 hA2
        by_cases hh : m1 ≤ 300 ∧ m2 ≤ 3000
        case neg =>
          go_wp2_with fail
          refine Calls.mono (heavy22_yes pl sq kd nn ti wd ht ax ay A1 A2 m1 c1 m2 c2 _ (by omega)) ?_
          rintro e w1 ⟨rfl, hb1⟩
          go_wp2_with fail
          go_ret
          exact ⟨rfl, hbl.trans (hb1.mono hbl.size)⟩
        obtain ⟨hm1, hm2⟩ := hh
        go_wp2_with fail
        refine Calls.mono (heavy22_no pl sq kd nn ti wd ht ax ay A1 A2 m1 c1 m2 c2 _ hm1 hm2) ?_
        rintro e w1 ⟨rfl, hb1⟩
        clear k10
        replace k0 := (hb1.cell hb).trans k0
        replace k1 := (hb1.cell hb).trans k1
        replace k2 := (hb1.cell hb).trans k2
        replace k3 := (hb1.cell hb).trans k3
        replace k4 := (hb1.cell hb).trans k4
        replace k5 := (hb1.cell hb).trans k5
        replace k6 := (hb1.cell hb).trans k6
        replace k7 := (hb1.cell hb).trans k7
        replace k8 := (hb1.cell hb).trans k8
        replace k9 := (hb1.cell hb).trans k9
        replace hb := Nat.lt_of_lt_of_le hb hb1.size
        replace hr1 := (hr1.below hb1).more hb1.size
        replace hbl := hbl.trans (hb1.mono hbl.size)
        clear hb1
        have CC := copy_cmd ⟨pl, sq, kd, nn, us, ti, wd, ht, ax, ay⟩ A1 m1 c1 _ w1 hr1 (Nat.le_refl _) (by omega)
        simp only [cmdV] at CC
        replace CC := Lib.hid CC
        go_wp2_with fail
        refine Calls.mono CC.out ?_
        rintro e w2 ⟨A3, c3, rfl, hown3, hb2⟩
        clear CC
        replace k0 := (hb2.cell hb).trans k0
        replace k1 := (hb2.cell hb).trans k1
        replace k2 := (hb2.cell hb).trans k2
        replace k3 := (hb2.cell hb).trans k3
        replace k4 := (hb2.cell hb).trans k4
        replace k5 := (hb2.cell hb).trans k5
        replace k6 := (hb2.cell hb).trans k6
        replace k7 := (hb2.cell hb).trans k7
        replace k8 := (hb2.cell hb).trans k8
        replace k9 := (hb2.cell hb).trans k9
        replace hb := Nat.lt_of_lt_of_le hb hb2.size
        replace hr1 := (hr1.below hb2).more hb2.size
        replace hbl := hbl.trans (hb2.mono hbl.size)
        clear hb2
        have hX := Blk.new w2 (cmdCs pl sq kd nn A3 m1 c3 ti wd ht ax ay) 28
        have hbX : Below w2.heap.size w2 (w2.alloc (.cells (cmdCs pl sq kd nn A3 m1 c3 ti wd ht ax ay) 28)) := (Below.refl _ _).alloc (Nat.le_refl _) _
        replace k0 := (hbX.cell hb).trans k0
        replace k1 := (hbX.cell hb).trans k1
        replace k2 := (hbX.cell hb).trans k2
        replace k3 := (hbX.cell hb).trans k3
        replace k4 := (hbX.cell hb).trans k4
        replace k5 := (hbX.cell hb).trans k5
        replace k6 := (hbX.cell hb).trans k6
        replace k7 := (hbX.cell hb).trans k7
        replace k8 := (hbX.cell hb).trans k8
        replace k9 := (hbX.cell hb).trans k9
        replace hb := Nat.lt_of_lt_of_le hb hbX.size
        replace hr1 := (hr1.below hbX).more hbX.size
        replace hown3 := own_below hown3 hbX
        replace hbl := hbl.trans (hbX.mono hbl.size)
        have hR3 := Reads.of_own hown3
        have C1 := cmd_bytes ⟨pl, sq, kd, nn, us, ti, wd, ht, ax, ay⟩ A3 m1 c3 _ _ hR3 (Nat.le_refl _) (by omega)
        unfold GivesNum at C1
        have hNB : mayC ⟨pl, sq, kd, nn, us, ti, wd, ht, ax, ay⟩ = true → (encC ⟨pl, sq, kd, nn, us, ti, wd, ht, ax, ay⟩).length ≤ 3000 := fun h => (enc_facts h).2.1
        go_wp2_with fail
        generalize w2.alloc (.cells (cmdCs pl sq kd nn A3 m1 c3 ti wd ht ax ay) 28) = w3 at *
        generalize w2.heap.size = X at *
        clear hbX
        cases hM : mayC ⟨pl, sq, kd, nn, us, ti, wd, ht, ax, ay⟩ with
        | false =>
          have e1 : bytesR ⟨pl, sq, kd, nn, us, ti, wd, ht, ax, ay⟩ = ([], 1) := by unfold bytesR; rw [hM]; rfl
          rw [e1] at C1
          clear e1
          simp only [cmdV, List.length_nil] at C1
          replace C1 := Lib.hid C1
          refine Calls.mono C1.out ?_
          rintro e w4 ⟨A4, c4, rfl, hown4, hb4⟩
          clear C1
          replace k0 := (hb4.cell hb).trans k0
          replace k1 := (hb4.cell hb).trans k1
          replace k2 := (hb4.cell hb).trans k2
          replace k3 := (hb4.cell hb).trans k3
          replace k4 := (hb4.cell hb).trans k4
          replace k5 := (hb4.cell hb).trans k5
          replace k6 := (hb4.cell hb).trans k6
          replace k7 := (hb4.cell hb).trans k7
          replace k8 := (hb4.cell hb).trans k8
          replace k9 := (hb4.cell hb).trans k9
          replace hb := Nat.lt_of_lt_of_le hb hb4.size
          replace hr1 := (hr1.below hb4).more hb4.size
          replace hR3 := (hR3.below hb4).more hb4.size
          replace hX := hX.below hb4 hX.lt
          replace hbl := hbl.trans (hb4.mono hbl.size)
          clear hb4 hown3
          have C2 := ref_cmd_is ⟨pl, sq, kd, nn, us, ti, wd, ht, ax, ay⟩ A1 m1 c1 _ w4 hr1 (Nat.le_refl _) (by omega)
          rw [hM] at C2
          simp only [cmdV] at C2
          replace C2 := Lib.hid C2
          go_wp2_with fail
          refine Calls.mono C2.out ?_
          rintro e w5 ⟨rfl, hb5⟩
          clear C2
          replace k0 := (hb5.cell hb).trans k0
          replace k1 := (hb5.cell hb).trans k1
          replace k2 := (hb5.cell hb).trans k2
          replace k3 := (hb5.cell hb).trans k3
          replace k4 := (hb5.cell hb).trans k4
          replace k5 := (hb5.cell hb).trans k5
          replace k6 := (hb5.cell hb).trans k6
          replace k7 := (hb5.cell hb).trans k7
          replace k8 := (hb5.cell hb).trans k8
          replace k9 := (hb5.cell hb).trans k9
          replace hb := Nat.lt_of_lt_of_le hb hb5.size
          replace hr1 := (hr1.below hb5).more hb5.size
          replace hR3 := (hR3.below hb5).more hb5.size
          replace hX := hX.below hb5 hX.lt
          replace hown4 := own_below hown4 hb5
          replace hbl := hbl.trans (hb5.mono hbl.size)
          clear hb5
          have hr5 := hr1
          have M1 := fun W (h : Below w5.heap.size w5 W) => check_is ⟨pl, sq, kd, nn, us, ti, wd, ht, ax, ay⟩ A3 m1 c3 _ W (hR3.below h) h.size (by omega)
          have M5 := fun W (h : Below w5.heap.size w5 W) => eq_cmd ⟨pl, sq, kd, nn, us, ti, wd, ht, ax, ay⟩ ⟨pl, sq, kd, nn, us, ti, wd, ht, ax, ay⟩ A3 A1 m1 c3 m1 c1 _ _ W (hR3.below h) (hr1.below h) h.size h.size (by omega) (by omega)
          have hs0 : w5.heap.size ≤ w5.heap.size := Nat.le_refl _
          rw [hM] at M1
          simp only [eqC_self] at M5
          simp only [cmdV, if_true, if_false, Bool.false_eq_true] at M1 M5
          replace M1 := Lib.hid M1
          replace M5 := Lib.hid M5
          clear hNB hM
          go_wp2_with fail
          have HX := Lib.hid hX
          have H0 := Lib.hid k0
          have H1 := Lib.hid k1
          have H2 := Lib.hid k2
          have H3 := Lib.hid k3
          have H4 := Lib.hid k4
          have H5 := Lib.hid k5
          have H6 := Lib.hid k6
          have H7 := Lib.hid k7
          have H8 := Lib.hid k8
          have H9 := Lib.hid k9
          clear hX k0 k1 k2 k3 k4 k5 k6 k7 k8 k9
          refine wp_region_grow [Fact.val ?fn0, Fact.val ?fn1, Fact.val ?fn2, Fact.val ?fn3, Fact.val ?fn4, Fact.val ?fn5, Fact.val ?fn6, Fact.val ?fn7, Fact.val ?fn8, Fact.val ?fn9, Fact.val ?fn10, Fact.val ?fn11, Fact.val ?fn12, Fact.val ?fn13, Fact.val ?fn14, Fact.val ?fn15, Fact.val ?fn16, Fact.val ?fn17, Fact.val ?fn18, Fact.val ?fn19, Fact.val ?fn20, Fact.val ?fn21, Fact.val ?fn22, Fact.val ?fn23, Fact.val ?fn24, Fact.val ?fn25, Fact.val ?fn26, Fact.val ?fn27, Fact.val ?fn28, Fact.val ?fn29, Fact.val ?fn30, Fact.val ?fn31, Fact.val ?fn32, Fact.val ?fn33, Fact.val ?fn34, Fact.val ?fn35, Fact.val ?fn36, Fact.val ?fn37, Fact.val ?fn38, Fact.val ?fn39, Fact.val ?fn40, Fact.val ?fn41, Fact.val ?fn42, Fact.val ?fn43, Fact.val ?fn44] (A := ?An) ?hAn (by kernel_rfl) (by kernel_rfl) ?stepsn ?hendn
          case hAn =>
            intro us
            simp only [fillF, Act.put, List.setIfInBounds_toArray, List.set_cons_zero, List.set_cons_succ, Nat.reduceAdd]
            rfl
          case stepsn =>
            refine ⟨fun us W HB hd K hK => ?_, ?_⟩
            · clear hd
              have q0 := box_cell HX.out HB HX.out.lt 0 _ rfl
              have q1 := box_cell HX.out HB HX.out.lt 1 _ rfl
              have q2 := box_cell HX.out HB HX.out.lt 2 _ rfl
              have q3 := box_cell HX.out HB HX.out.lt 3 _ rfl
              have q4 := box_cell HX.out HB HX.out.lt 4 _ rfl
              have q5 := box_cell HX.out HB HX.out.lt 5 _ rfl
              have q6 := box_cell HX.out HB HX.out.lt 6 _ rfl
              have q7 := box_cell HX.out HB HX.out.lt 7 _ rfl
              have q8 := box_cell HX.out HB HX.out.lt 8 _ rfl
              have q9 := box_cell HX.out HB HX.out.lt 9 _ rfl
              skip
              go_simp
              refine hK _ _ (Below.refl _ _) ?_
              (show _ = _); rfl
            refine ⟨fun us W HB hd K hK => ?_, ?_⟩
            · clear hd
              have C := M1.out _ HB
              skip
              go_simp
              (with_reducible refine Calls.mono C ?_)
              rintro e wn ⟨rfl, hbn⟩
              refine hK _ _ hbn ?_
              (show _ = _); rfl
            refine ⟨fun us W HB hd K hK => ?_, ?_⟩
            · clear hd
              go_simp
              (with_reducible refine Calls.mono (num22 _ _) ?_)
              rintro e wn ⟨rfl, rfl⟩
              refine hK _ _ (Below.refl _ _) ?_
              (show _ = _); rfl
            refine ⟨fun us W HB hd K hK => ?_, ?_⟩
            · clear hd
              go_simp
              refine hK _ _ (Below.refl _ _) ?_
              (show _ = _); rfl
            refine ⟨fun us W HB hd K hK => ?_, ?_⟩
            · clear hd
              go_simp
              refine hK _ _ (Below.refl _ _) ?_
              (show _ = _); rfl
            refine ⟨fun us W HB hd K hK => ?_, ?_⟩
            · clear hd
              go_simp
              refine hK _ _ (Below.refl _ _) ?_
              (show _ = _); rfl
            refine ⟨fun us W HB hd K hK => ?_, ?_⟩
            · clear hd
              go_simp
              refine hK _ _ (Below.refl _ _) ?_
              (show _ = _); rfl
            refine ⟨fun us W HB hd K hK => ?_, ?_⟩
            · clear hd
              go_simp
              (with_reducible refine Calls.mono (num22 _ _) ?_)
              rintro e wn ⟨rfl, rfl⟩
              refine hK _ _ (Below.refl _ _) ?_
              (show _ = _); rfl
            refine ⟨fun us W HB hd K hK => ?_, ?_⟩
            · clear hd
              go_simp
              refine hK _ _ (Below.refl _ _) ?_
              (show _ = _); rfl
            refine ⟨fun us W HB hd K hK => ?_, ?_⟩
            · clear hd
              go_simp
              refine hK _ _ (Below.refl _ _) ?_
              (show _ = _); rfl
            refine ⟨fun us W HB hd K hK => ?_, ?_⟩
            · clear hd
              go_simp
              refine hK _ _ (Below.refl _ _) ?_
              (show _ = _); rfl
            refine ⟨fun us W HB hd K hK => ?_, ?_⟩
            · clear hd
              go_simp
              refine hK _ _ (Below.refl _ _) ?_
              (show _ = _); rfl
            refine ⟨fun us W HB hd K hK => ?_, ?_⟩
            · clear hd
              go_simp
              refine hK _ _ (Below.refl _ _) ?_
              (show _ = _); rfl
            refine ⟨fun us W HB hd K hK => ?_, ?_⟩
            · clear hd
              go_simp
              refine hK _ _ (Below.refl _ _) ?_
              (show _ = _); rfl
            refine ⟨fun us W HB hd K hK => ?_, ?_⟩
            · clear hd
              go_simp
              refine hK _ _ (Below.refl _ _) ?_
              (show _ = _); rfl
            refine ⟨fun us W HB hd K hK => ?_, ?_⟩
            · clear hd
              go_simp
              refine hK _ _ (Below.refl _ _) ?_
              (show _ = _); rfl
            refine ⟨fun us W HB hd K hK => ?_, ?_⟩
            · clear hd
              go_simp
              refine hK _ _ (Below.refl _ _) ?_
              (show _ = _); rfl
            refine ⟨fun us W HB hd K hK => ?_, ?_⟩
            · clear hd
              go_simp
              refine hK _ _ (Below.refl _ _) ?_
              (show _ = _); rfl
            refine ⟨fun us W HB hd K hK => ?_, ?_⟩
            · clear hd
              go_simp
              refine hK _ _ (Below.refl _ _) ?_
              (show _ = _); rfl
            refine ⟨fun us W HB hd K hK => ?_, ?_⟩
            · clear hd
              go_simp
              refine hK _ _ (Below.refl _ _) ?_
              (show _ = _); rfl
            refine ⟨fun us W HB hd K hK => ?_, ?_⟩
            · clear hd
              go_simp
              refine hK _ _ (Below.refl _ _) ?_
              (show _ = _); rfl
            refine ⟨fun us W HB hd K hK => ?_, ?_⟩
            · clear hd
              go_simp
              refine hK _ _ (Below.refl _ _) ?_
              (show _ = _); rfl
            refine ⟨fun us W HB hd K hK => ?_, ?_⟩
            · clear hd
              go_simp
              refine hK _ _ (Below.refl _ _) ?_
              (show _ = _); rfl
            refine ⟨fun us W HB hd K hK => ?_, ?_⟩
            · clear hd
              go_simp
              refine hK _ _ (Below.refl _ _) ?_
              (show _ = _); rfl
            refine ⟨fun us W HB hd K hK => ?_, ?_⟩
            · clear hd
              go_simp
              refine hK _ _ (Below.refl _ _) ?_
              (show _ = _); rfl
            refine ⟨fun us W HB hd K hK => ?_, ?_⟩
            · clear hd
              go_simp
              refine hK _ _ (Below.refl _ _) ?_
              (show _ = _); rfl
            refine ⟨fun us W HB hd K hK => ?_, ?_⟩
            · clear hd
              go_simp
              refine hK _ _ (Below.refl _ _) ?_
              (show _ = _); rfl
            refine ⟨fun us W HB hd K hK => ?_, ?_⟩
            · clear hd
              go_simp
              refine hK _ _ (Below.refl _ _) ?_
              (show _ = _); rfl
            refine ⟨fun us W HB hd K hK => ?_, ?_⟩
            · clear hd
              go_simp
              refine hK _ _ (Below.refl _ _) ?_
              (show _ = _); rfl
            refine ⟨fun us W HB hd K hK => ?_, ?_⟩
            · clear hd
              go_simp
              refine hK _ _ (Below.refl _ _) ?_
              (show _ = _); rfl
            refine ⟨fun us W HB hd K hK => ?_, ?_⟩
            · clear hd
              go_simp
              refine hK _ _ (Below.refl _ _) ?_
              (show _ = _); rfl
            refine ⟨fun us W HB hd K hK => ?_, ?_⟩
            · clear hd
              go_simp
              refine hK _ _ (Below.refl _ _) ?_
              (show _ = _); rfl
            refine ⟨fun us W HB hd K hK => ?_, ?_⟩
            · clear hd
              go_simp
              refine hK _ _ (Below.refl _ _) ?_
              (show _ = _); rfl
            refine ⟨fun us W HB hd K hK => ?_, ?_⟩
            · clear hd
              go_simp
              refine hK _ _ (Below.refl _ _) ?_
              (show _ = _); rfl
            refine ⟨fun us W HB hd K hK => ?_, ?_⟩
            · clear hd
              go_simp
              refine hK _ _ (Below.refl _ _) ?_
              (show _ = _); rfl
            refine ⟨fun us W HB hd K hK => ?_, ?_⟩
            · clear hd
              go_simp
              refine hK _ _ (Below.refl _ _) ?_
              (show _ = _); rfl
            refine ⟨fun us W HB hd K hK => ?_, ?_⟩
            · clear hd
              have q0 := box_cell HX.out HB HX.out.lt 0 _ rfl
              have q1 := box_cell HX.out HB HX.out.lt 1 _ rfl
              have q2 := box_cell HX.out HB HX.out.lt 2 _ rfl
              have q3 := box_cell HX.out HB HX.out.lt 3 _ rfl
              have q4 := box_cell HX.out HB HX.out.lt 4 _ rfl
              have q5 := box_cell HX.out HB HX.out.lt 5 _ rfl
              have q6 := box_cell HX.out HB HX.out.lt 6 _ rfl
              have q7 := box_cell HX.out HB HX.out.lt 7 _ rfl
              have q8 := box_cell HX.out HB HX.out.lt 8 _ rfl
              have q9 := box_cell HX.out HB HX.out.lt 9 _ rfl
              skip
              go_simp
              refine hK _ _ (Below.refl _ _) ?_
              (show _ = _); rfl
            refine ⟨fun us W HB hd K hK => ?_, ?_⟩
            · clear hd
              go_simp
              refine hK _ _ (Below.refl _ _) ?_
              (show _ = _); rfl
            refine ⟨fun us W HB hd K hK => ?_, ?_⟩
            · clear hd
              go_simp
              refine hK _ _ (Below.refl _ _) ?_
              (show _ = _); rfl
            refine ⟨fun us W HB hd K hK => ?_, ?_⟩
            · clear hd
              go_simp
              refine hK _ _ (Below.refl _ _) ?_
              (show _ = _); rfl
            refine ⟨fun us W HB hd K hK => ?_, ?_⟩
            · clear hd
              go_simp
              refine hK _ _ (Below.refl _ _) ?_
              (show _ = _); rfl
            refine ⟨fun us W HB hd K hK => ?_, ?_⟩
            · clear hd
              have g0 := (HB.cell hb).trans H0.out
              have g1 := (HB.cell hb).trans H1.out
              have g2 := (HB.cell hb).trans H2.out
              have g3 := (HB.cell hb).trans H3.out
              have g4 := (HB.cell hb).trans H4.out
              have g5 := (HB.cell hb).trans H5.out
              have g6 := (HB.cell hb).trans H6.out
              have g7 := (HB.cell hb).trans H7.out
              have g8 := (HB.cell hb).trans H8.out
              have g9 := (HB.cell hb).trans H9.out
              skip
              go_simp
              refine hK _ _ (Below.refl _ _) ?_
              (show _ = _); rfl
            refine ⟨fun us W HB hd K hK => ?_, ?_⟩
            · clear hd
              have C := M5.out _ HB
              skip
              go_simp
              (with_reducible refine Calls.mono C ?_)
              rintro e wn ⟨rfl, hbn⟩
              refine hK _ _ hbn ?_
              (show _ = _); rfl
            refine ⟨fun us W HB hd K hK => ?_, ?_⟩
            · clear hd
              go_simp
              refine hK _ _ (Below.refl _ _) ?_
              (show _ = _); rfl
            refine ⟨fun us W HB hd K hK => ?_, ?_⟩
            · clear hd
              go_simp
              refine hK _ _ (Below.refl _ _) ?_
              (show _ = _); rfl
            trivial
          case hendn =>
            intro us W HB hd
            clear hd
            replace HB : Below w5.heap.size w5 W := HB
            have HBF := Lib.hid (hbl.trans (HB.mono hbl.size))
            clear HB HX hown4 hr1 hR3 hr5 M1 M5 hbl H0 H1 H2 H3 H4 H5 H6 H7 H8 H9
            go_wp2_with fail
            go_roundw
            case rel => exact ⟨k + 1, by omega, by omega, by go_num, HBF.out⟩
            case measure => simp [intOf]; omega
        | true =>
          have e1 : bytesR ⟨pl, sq, kd, nn, us, ti, wd, ht, ax, ay⟩ = (encC ⟨pl, sq, kd, nn, us, ti, wd, ht, ax, ay⟩, 0) := by unfold bytesR; rw [hM]; rfl
          rw [e1] at C1
          clear e1
          simp only [cmdV] at C1
          replace C1 := Lib.hid C1
          refine Calls.mono C1.out ?_
          rintro e w4 ⟨A4, c4, rfl, hown4, hb4⟩
          clear C1
          replace k0 := (hb4.cell hb).trans k0
          replace k1 := (hb4.cell hb).trans k1
          replace k2 := (hb4.cell hb).trans k2
          replace k3 := (hb4.cell hb).trans k3
          replace k4 := (hb4.cell hb).trans k4
          replace k5 := (hb4.cell hb).trans k5
          replace k6 := (hb4.cell hb).trans k6
          replace k7 := (hb4.cell hb).trans k7
          replace k8 := (hb4.cell hb).trans k8
          replace k9 := (hb4.cell hb).trans k9
          replace hb := Nat.lt_of_lt_of_le hb hb4.size
          replace hr1 := (hr1.below hb4).more hb4.size
          replace hR3 := (hR3.below hb4).more hb4.size
          replace hX := hX.below hb4 hX.lt
          replace hbl := hbl.trans (hb4.mono hbl.size)
          clear hb4 hown3
          have C2 := ref_cmd_is ⟨pl, sq, kd, nn, us, ti, wd, ht, ax, ay⟩ A1 m1 c1 _ w4 hr1 (Nat.le_refl _) (by omega)
          rw [hM] at C2
          simp only [cmdV] at C2
          replace C2 := Lib.hid C2
          go_wp2_with fail
          refine Calls.mono C2.out ?_
          rintro e w5 ⟨rfl, hb5⟩
          clear C2
          replace k0 := (hb5.cell hb).trans k0
          replace k1 := (hb5.cell hb).trans k1
          replace k2 := (hb5.cell hb).trans k2
          replace k3 := (hb5.cell hb).trans k3
          replace k4 := (hb5.cell hb).trans k4
          replace k5 := (hb5.cell hb).trans k5
          replace k6 := (hb5.cell hb).trans k6
          replace k7 := (hb5.cell hb).trans k7
          replace k8 := (hb5.cell hb).trans k8
          replace k9 := (hb5.cell hb).trans k9
          replace hb := Nat.lt_of_lt_of_le hb hb5.size
          replace hr1 := (hr1.below hb5).more hb5.size
          replace hR3 := (hR3.below hb5).more hb5.size
          replace hX := hX.below hb5 hX.lt
          replace hown4 := own_below hown4 hb5
          replace hbl := hbl.trans (hb5.mono hbl.size)
          clear hb5
          have hr5 := hr1
          have M1 := fun W (h : Below w5.heap.size w5 W) => check_is ⟨pl, sq, kd, nn, us, ti, wd, ht, ax, ay⟩ A3 m1 c3 _ W (hR3.below h) h.size (by omega)
          have M5 := fun W (h : Below w5.heap.size w5 W) => eq_cmd ⟨pl, sq, kd, nn, us, ti, wd, ht, ax, ay⟩ ⟨pl, sq, kd, nn, us, ti, wd, ht, ax, ay⟩ A3 A1 m1 c3 m1 c1 _ _ W (hR3.below h) (hr1.below h) h.size h.size (by omega) (by omega)
          have hs0 : w5.heap.size ≤ w5.heap.size := Nat.le_refl _
          rw [hM] at M1
          simp only [eqC_self] at M5
          simp only [cmdV, if_true, if_false, Bool.false_eq_true] at M1 M5
          have M4 := fun W (h : Below w5.heap.size w5 W) => ref_bytes ⟨pl, sq, kd, nn, us, ti, wd, ht, ax, ay⟩ hM A1 m1 c1 _ W (hr1.below h) h.size
          unfold GivesBytes at M4
          have hlen := hNB hM
          generalize encC ⟨pl, sq, kd, nn, us, ti, wd, ht, ax, ay⟩ = bs at *
          simp only [cmdV] at M4
          replace M4 := Lib.hid M4
          replace M1 := Lib.hid M1
          replace M5 := Lib.hid M5
          clear hNB hM
          go_wp2_with fail
          have HX := Lib.hid hX
          have H0 := Lib.hid k0
          have H1 := Lib.hid k1
          have H2 := Lib.hid k2
          have H3 := Lib.hid k3
          have H4 := Lib.hid k4
          have H5 := Lib.hid k5
          have H6 := Lib.hid k6
          have H7 := Lib.hid k7
          have H8 := Lib.hid k8
          have H9 := Lib.hid k9
          clear hX k0 k1 k2 k3 k4 k5 k6 k7 k8 k9
          refine wp_region_grow [Fact.val ?fy0, Fact.val ?fy1, Fact.val ?fy2, Fact.val ?fy3, Fact.val ?fy4, Fact.val ?fy5, Fact.val ?fy6, Fact.val ?fy7, Fact.val ?fy8, Fact.val ?fy9, Fact.val ?fy10, Fact.val ?fy11, Fact.val ?fy12, Fact.val ?fy13, Fact.val ?fy14, Fact.val ?fy15, Fact.val ?fy16, Fact.val ?fy17, Fact.val ?fy18, Fact.val ?fy19, Fact.val ?fy20, Fact.val ?fy21, Fact.val ?fy22, Fact.val ?fy23, Fact.val ?fy24, Fact.val ?fy25, Fact.val ?fy26, Fact.val ?fy27, Fact.val ?fy28, Fact.val ?fy29, Fact.pred (fun v w' => ∃ A8 c8, v = .slice A8 bs.length c8 ∧ w'.ownsRow w5.heap.size 5 1 (.slice A8 bs.length c8) bs.length (nums .u8 bs)) (fun v w w' h hb => by obtain ⟨A8, c8, h1, h2⟩ := h; exact ⟨A8, c8, h1, own_below h2 hb⟩), Fact.val ?fy31, Fact.val ?fy32, Fact.val ?fy33, Fact.val ?fy34, Fact.val ?fy35, Fact.val ?fy36, Fact.val ?fy37, Fact.val ?fy38, Fact.val ?fy39, Fact.val ?fy40, Fact.val ?fy41, Fact.val ?fy42, Fact.val ?fy43, Fact.val ?fy44] (A := ?Ay) ?hAy (by kernel_rfl) (by kernel_rfl) ?stepsy ?hendy
          case hAy =>
            intro us
            simp only [fillF, Act.put, List.setIfInBounds_toArray, List.set_cons_zero, List.set_cons_succ, Nat.reduceAdd]
            rfl
          case stepsy =>
            refine ⟨fun us W HB hd K hK => ?_, ?_⟩
            · clear hd
              have q0 := box_cell HX.out HB HX.out.lt 0 _ rfl
              have q1 := box_cell HX.out HB HX.out.lt 1 _ rfl
              have q2 := box_cell HX.out HB HX.out.lt 2 _ rfl
              have q3 := box_cell HX.out HB HX.out.lt 3 _ rfl
              have q4 := box_cell HX.out HB HX.out.lt 4 _ rfl
              have q5 := box_cell HX.out HB HX.out.lt 5 _ rfl
              have q6 := box_cell HX.out HB HX.out.lt 6 _ rfl
              have q7 := box_cell HX.out HB HX.out.lt 7 _ rfl
              have q8 := box_cell HX.out HB HX.out.lt 8 _ rfl
              have q9 := box_cell HX.out HB HX.out.lt 9 _ rfl
              skip
              go_simp
              refine hK _ _ (Below.refl _ _) ?_
              (show _ = _); rfl
            refine ⟨fun us W HB hd K hK => ?_, ?_⟩
            · clear hd
              have C := M1.out _ HB
              skip
              go_simp
              (with_reducible refine Calls.mono C ?_)
              rintro e wn ⟨rfl, hbn⟩
              refine hK _ _ hbn ?_
              (show _ = _); rfl
            refine ⟨fun us W HB hd K hK => ?_, ?_⟩
            · clear hd
              go_simp
              (with_reducible refine Calls.mono (num22 _ _) ?_)
              rintro e wn ⟨rfl, rfl⟩
              refine hK _ _ (Below.refl _ _) ?_
              (show _ = _); rfl
            refine ⟨fun us W HB hd K hK => ?_, ?_⟩
            · clear hd
              go_simp
              refine hK _ _ (Below.refl _ _) ?_
              (show _ = _); rfl
            refine ⟨fun us W HB hd K hK => ?_, ?_⟩
            · clear hd
              go_simp
              refine hK _ _ (Below.refl _ _) ?_
              (show _ = _); rfl
            refine ⟨fun us W HB hd K hK => ?_, ?_⟩
            · clear hd
              go_simp
              refine hK _ _ (Below.refl _ _) ?_
              (show _ = _); rfl
            refine ⟨fun us W HB hd K hK => ?_, ?_⟩
            · clear hd
              go_simp
              refine hK _ _ (Below.refl _ _) ?_
              (show _ = _); rfl
            refine ⟨fun us W HB hd K hK => ?_, ?_⟩
            · clear hd
              go_simp
              (with_reducible refine Calls.mono (num22 _ _) ?_)
              rintro e wn ⟨rfl, rfl⟩
              refine hK _ _ (Below.refl _ _) ?_
              (show _ = _); rfl
            refine ⟨fun us W HB hd K hK => ?_, ?_⟩
            · clear hd
              go_simp
              refine hK _ _ (Below.refl _ _) ?_
              (show _ = _); rfl
            refine ⟨fun us W HB hd K hK => ?_, ?_⟩
            · clear hd
              go_simp
              refine hK _ _ (Below.refl _ _) ?_
              (show _ = _); rfl
            refine ⟨fun us W HB hd K hK => ?_, ?_⟩
            · clear hd
              go_simp
              refine hK _ _ (Below.refl _ _) ?_
              (show _ = _); rfl
            refine ⟨fun us W HB hd K hK => ?_, ?_⟩
            · clear hd
              go_simp
              refine hK _ _ (Below.refl _ _) ?_
              (show _ = _); rfl
            refine ⟨fun us W HB hd K hK => ?_, ?_⟩
            · clear hd
              go_simp
              refine hK _ _ (Below.refl _ _) ?_
              (show _ = _); rfl
            refine ⟨fun us W HB hd K hK => ?_, ?_⟩
            · clear hd
              go_simp
              refine hK _ _ (Below.refl _ _) ?_
              (show _ = _); rfl
            refine ⟨fun us W HB hd K hK => ?_, ?_⟩
            · clear hd
              go_simp
              refine hK _ _ (Below.refl _ _) ?_
              (show _ = _); rfl
            refine ⟨fun us W HB hd K hK => ?_, ?_⟩
            · clear hd
              go_simp
              refine hK _ _ (Below.refl _ _) ?_
              (show _ = _); rfl
            refine ⟨fun us W HB hd K hK => ?_, ?_⟩
            · clear hd
              go_simp
              refine hK _ _ (Below.refl _ _) ?_
              (show _ = _); rfl
            refine ⟨fun us W HB hd K hK => ?_, ?_⟩
            · clear hd
              go_simp
              refine hK _ _ (Below.refl _ _) ?_
              (show _ = _); rfl
            refine ⟨fun us W HB hd K hK => ?_, ?_⟩
            · clear hd
              go_simp
              refine hK _ _ (Below.refl _ _) ?_
              (show _ = _); rfl
            refine ⟨fun us W HB hd K hK => ?_, ?_⟩
            · clear hd
              go_simp
              refine hK _ _ (Below.refl _ _) ?_
              (show _ = _); rfl
            refine ⟨fun us W HB hd K hK => ?_, ?_⟩
            · clear hd
              go_simp
              refine hK _ _ (Below.refl _ _) ?_
              (show _ = _); rfl
            refine ⟨fun us W HB hd K hK => ?_, ?_⟩
            · clear hd
              go_simp
              refine hK _ _ (Below.refl _ _) ?_
              (show _ = _); rfl
            refine ⟨fun us W HB hd K hK => ?_, ?_⟩
            · clear hd
              go_simp
              refine hK _ _ (Below.refl _ _) ?_
              (show _ = _); rfl
            refine ⟨fun us W HB hd K hK => ?_, ?_⟩
            · clear hd
              go_simp
              refine hK _ _ (Below.refl _ _) ?_
              (show _ = _); rfl
            refine ⟨fun us W HB hd K hK => ?_, ?_⟩
            · clear hd
              go_simp
              refine hK _ _ (Below.refl _ _) ?_
              (show _ = _); rfl
            refine ⟨fun us W HB hd K hK => ?_, ?_⟩
            · clear hd
              go_simp
              refine hK _ _ (Below.refl _ _) ?_
              (show _ = _); rfl
            refine ⟨fun us W HB hd K hK => ?_, ?_⟩
            · clear hd
              go_simp
              refine hK _ _ (Below.refl _ _) ?_
              (show _ = _); rfl
            refine ⟨fun us W HB hd K hK => ?_, ?_⟩
            · clear hd
              go_simp
              refine hK _ _ (Below.refl _ _) ?_
              (show _ = _); rfl
            refine ⟨fun us W HB hd K hK => ?_, ?_⟩
            · clear hd
              go_simp
              refine hK _ _ (Below.refl _ _) ?_
              (show _ = _); rfl
            refine ⟨fun us W HB hd K hK => ?_, ?_⟩
            · clear hd
              have g0 := (HB.cell hb).trans H0.out
              have g1 := (HB.cell hb).trans H1.out
              have g2 := (HB.cell hb).trans H2.out
              have g3 := (HB.cell hb).trans H3.out
              have g4 := (HB.cell hb).trans H4.out
              have g5 := (HB.cell hb).trans H5.out
              have g6 := (HB.cell hb).trans H6.out
              have g7 := (HB.cell hb).trans H7.out
              have g8 := (HB.cell hb).trans H8.out
              have g9 := (HB.cell hb).trans H9.out
              skip
              go_simp
              refine hK _ _ (Below.refl _ _) ?_
              (show _ = _); rfl
            refine ⟨fun us W HB hd K hK => ?_, ?_⟩
            · clear hd
              have C := M4.out _ HB
              have HBs := HB.size
              skip
              go_simp
              (with_reducible refine Calls.mono C ?_)
              rintro e wn ⟨A8, c8, rfl, hown8, hbn⟩
              exact hK _ _ hbn ⟨A8, c8, rfl, own_mono hown8 HBs⟩
            refine ⟨fun us W HB hd K hK => ?_, ?_⟩
            · have h30 := hd 30 (by decide); clear hd
              obtain ⟨A8, c8, e30, hown8⟩ : ∃ A8 c8, us 30 = _ ∧ _ := h30
              simp only [e30] at hK ⊢
              have C := eq_bytes_b A4 A8 _ c4 _ c8 _ _ bs bs _ true ((Reads.of_own hown4).below HB) (Reads.of_own hown8) (by omega) (by omega) (by simp)
              skip
              go_simp
              (with_reducible refine Calls.mono C ?_)
              rintro e wn ⟨rfl, hbn⟩
              refine hK _ _ hbn ?_
              (show _ = _); rfl
            refine ⟨fun us W HB hd K hK => ?_, ?_⟩
            · clear hd
              go_simp
              refine hK _ _ (Below.refl _ _) ?_
              (show _ = _); rfl
            refine ⟨fun us W HB hd K hK => ?_, ?_⟩
            · clear hd
              go_simp
              refine hK _ _ (Below.refl _ _) ?_
              (show _ = _); rfl
            refine ⟨fun us W HB hd K hK => ?_, ?_⟩
            · clear hd
              go_simp
              refine hK _ _ (Below.refl _ _) ?_
              (show _ = _); rfl
            refine ⟨fun us W HB hd K hK => ?_, ?_⟩
            · clear hd
              go_simp
              refine hK _ _ (Below.refl _ _) ?_
              (show _ = _); rfl
            refine ⟨fun us W HB hd K hK => ?_, ?_⟩
            · clear hd
              have q0 := box_cell HX.out HB HX.out.lt 0 _ rfl
              have q1 := box_cell HX.out HB HX.out.lt 1 _ rfl
              have q2 := box_cell HX.out HB HX.out.lt 2 _ rfl
              have q3 := box_cell HX.out HB HX.out.lt 3 _ rfl
              have q4 := box_cell HX.out HB HX.out.lt 4 _ rfl
              have q5 := box_cell HX.out HB HX.out.lt 5 _ rfl
              have q6 := box_cell HX.out HB HX.out.lt 6 _ rfl
              have q7 := box_cell HX.out HB HX.out.lt 7 _ rfl
              have q8 := box_cell HX.out HB HX.out.lt 8 _ rfl
              have q9 := box_cell HX.out HB HX.out.lt 9 _ rfl
              skip
              go_simp
              refine hK _ _ (Below.refl _ _) ?_
              (show _ = _); rfl
            refine ⟨fun us W HB hd K hK => ?_, ?_⟩
            · clear hd
              go_simp
              refine hK _ _ (Below.refl _ _) ?_
              (show _ = _); rfl
            refine ⟨fun us W HB hd K hK => ?_, ?_⟩
            · clear hd
              go_simp
              refine hK _ _ (Below.refl _ _) ?_
              (show _ = _); rfl
            refine ⟨fun us W HB hd K hK => ?_, ?_⟩
            · clear hd
              go_simp
              refine hK _ _ (Below.refl _ _) ?_
              (show _ = _); rfl
            refine ⟨fun us W HB hd K hK => ?_, ?_⟩
            · clear hd
              go_simp
              refine hK _ _ (Below.refl _ _) ?_
              (show _ = _); rfl
            refine ⟨fun us W HB hd K hK => ?_, ?_⟩
            · clear hd
              have g0 := (HB.cell hb).trans H0.out
              have g1 := (HB.cell hb).trans H1.out
              have g2 := (HB.cell hb).trans H2.out
              have g3 := (HB.cell hb).trans H3.out
              have g4 := (HB.cell hb).trans H4.out
              have g5 := (HB.cell hb).trans H5.out
              have g6 := (HB.cell hb).trans H6.out
              have g7 := (HB.cell hb).trans H7.out
              have g8 := (HB.cell hb).trans H8.out
              have g9 := (HB.cell hb).trans H9.out
              skip
              go_simp
              refine hK _ _ (Below.refl _ _) ?_
              (show _ = _); rfl
            refine ⟨fun us W HB hd K hK => ?_, ?_⟩
            · clear hd
              have C := M5.out _ HB
              skip
              go_simp
              (with_reducible refine Calls.mono C ?_)
              rintro e wn ⟨rfl, hbn⟩
              refine hK _ _ hbn ?_
              (show _ = _); rfl
            refine ⟨fun us W HB hd K hK => ?_, ?_⟩
            · clear hd
              go_simp
              refine hK _ _ (Below.refl _ _) ?_
              (show _ = _); rfl
            refine ⟨fun us W HB hd K hK => ?_, ?_⟩
            · clear hd
              go_simp
              refine hK _ _ (Below.refl _ _) ?_
              (show _ = _); rfl
            trivial
          case hendy =>
            intro us W HB hd
            clear hd
            replace HB : Below w5.heap.size w5 W := HB
            have HBF := Lib.hid (hbl.trans (HB.mono hbl.size))
            clear HB HX hown4 hr1 hR3 hr5 M1 M5 hbl H0 H1 H2 H3 H4 H5 H6 H7 H8 H9
            go_wp2_with fail
            go_roundw
            case rel => exact ⟨k + 1, by omega, by omega, by go_num, HBF.out⟩
            case measure => simp [intOf]; omega
      · go_wp2_with fail
        refine Calls.mono (wakes22 _) ?_
        rintro e w3 ⟨rfl, hb3⟩
        go_wp2_with fail
        go_ret
        exact ⟨rfl, hbl.trans (hb3.mono hbl.size)⟩
    · go_wp2_with fail
      refine Calls.mono (wakes22 _) ?_
      rintro e w3 ⟨rfl, hb3⟩
      go_wp2_with fail
      go_ret
      exact ⟨rfl, hbl.trans (hb3.mono hbl.size)⟩
end lawCommandBytes
end Go.Proofs.Ytneigplmgellcaa
