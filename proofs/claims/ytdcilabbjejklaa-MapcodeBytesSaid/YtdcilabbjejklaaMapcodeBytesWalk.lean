/- The walk of the law MapcodeBytes. -/
import Derived.Test.YtdcilabbjejklaaMapOpen
namespace Go.Proofs.Ytdcilabbjejklaa
set_option maxRecDepth 20000
open Go.RowKit Go.WideShapes Go.ChangeShapes

namespace lawMapcodeBytes
set_option maxHeartbeats 6400000 in
set_option maxRecDepth 100000 in
theorem walk {H : Type} {enc : TypeId × Value → H} (w : World) {base : Nat} (v : Value) (d : DataW H) (p : List MemPlace) (hv : Value.okWide Try.prog w .any base 63 v)
    (ht : DataW.Trod enc Try.prog w 0 (fun _ => true) true 63 v d p) : Calls Try.prog 11 #[v] w fun e w' => e = .returned (.bool true) ∧ Below w.heap.size w w' := by
  obtain ⟨A, n, c, rfl, hnc, hcm, ha⟩ := open_asks7 hv ht
  unfold maxLen at hcm
  clear hv ht
  go_enter Try.func11, Try.ntmps11
  go_wp2_with fail
  go_loopw [3] (fun i wr => ∃ (k : Nat), k ≤ n ∧ k ≤ 6 ∧ i = .int .i64 k ∧ Below w.heap.size w wr) (fun i _ => n - (intOf i).toNat)
  case atStart => exact ⟨0, Nat.zero_le _, by omega, rfl, Below.refl _ _⟩
  case round =>
    obtain ⟨k, hk, hk10, rfl, hbl⟩ := hrel
    by_cases hlt : k < n
    · by_cases h10 : k < 6
      · skip
        obtain ⟨b, o, W, H, A1, m1, c1, l1, A2, m2, c2, l2, rfl, hb, k0, k1, k2, k3, hW, hH, hr1, hl1, hmc1, hcm1, hr2, hl2, hmc2, hcm2⟩ := ha.below hbl k hlt
        clear ha hr2 hl2 hmc2 hcm2
        by_cases hh : m1 ≤ 3000 ∧ m2 ≤ 5000
        case neg =>
          go_wp2_with fail
          refine Calls.mono (heavy7_yes W H A1 A2 m1 c1 m2 c2 _ (by omega)) ?_
          rintro e w1 ⟨rfl, hb1⟩
          go_wp2_with fail
          go_ret
          exact ⟨rfl, hbl.trans (hb1.mono hbl.size)⟩
        obtain ⟨hm1, hm2⟩ := hh
        go_wp2_with fail
        refine Calls.mono (heavy7_no W H A1 A2 m1 c1 m2 c2 _ hm1 hm2) ?_
        rintro e w1 ⟨rfl, hb1⟩
        clear k3
        replace k0 := (hb1.cell hb).trans k0
        replace k1 := (hb1.cell hb).trans k1
        replace k2 := (hb1.cell hb).trans k2
        replace hb := Nat.lt_of_lt_of_le hb hb1.size
        replace hr1 := (hr1.below hb1).more hb1.size
        replace hbl := hbl.trans (hb1.mono hbl.size)
        clear hb1
        have CC := Lib.hid (copy_ground W H A1 m1 c1 _ l1 w1 hr1 (Nat.le_refl _) (by omega))
        go_wp2_with fail
        refine Calls.mono CC.out ?_
        rintro e w2 ⟨A3, c3, rfl, hown3, hb2⟩
        clear CC
        replace k0 := (hb2.cell hb).trans k0
        replace k1 := (hb2.cell hb).trans k1
        replace k2 := (hb2.cell hb).trans k2
        replace hb := Nat.lt_of_lt_of_le hb hb2.size
        replace hr1 := (hr1.below hb2).more hb2.size
        replace hbl := hbl.trans (hb2.mono hbl.size)
        clear hb2
        have hX := Blk.new w2 #[.int .i64 W, .int .i64 H, .slice A3 m1 c3] 39
        have hbX : Below w2.heap.size w2 (w2.alloc (.cells #[.int .i64 W, .int .i64 H, .slice A3 m1 c3] 39)) := (Below.refl _ _).alloc (Nat.le_refl _) _
        replace k0 := (hbX.cell hb).trans k0
        replace k1 := (hbX.cell hb).trans k1
        replace k2 := (hbX.cell hb).trans k2
        replace hb := Nat.lt_of_lt_of_le hb hbX.size
        replace hr1 := (hr1.below hbX).more hbX.size
        replace hown3 := own_below hown3 hbX
        replace hbl := hbl.trans (hbX.mono hbl.size)
        clear hbX
        have hR3 := (Reads.of_own hown3)
        have hll := Lib.hid (show l1.length = m1 by have := hr1.1; simpa [nums] using this)
        cases hM : isG W H l1 with
        | false =>
          have C1 := Lib.hid (map_bytes_no W H A3 m1 c3 _ l1 _ hR3 (Nat.le_refl _) hl1 hM)
          go_wp2_with fail
          generalize w2.alloc (.cells #[.int .i64 W, .int .i64 H, .slice A3 m1 c3] 39) = w3 at *
          generalize w2.heap.size = X at *
          refine Calls.mono C1.out ?_
          rintro e w4 ⟨rfl, hb4⟩
          clear C1
          replace k0 := (hb4.cell hb).trans k0
          replace k1 := (hb4.cell hb).trans k1
          replace k2 := (hb4.cell hb).trans k2
          replace hb := Nat.lt_of_lt_of_le hb hb4.size
          replace hr1 := (hr1.below hb4).more hb4.size
          replace hR3 := (hR3.below hb4).more hb4.size
          replace hX := hX.below hb4 hX.lt
          replace hbl := hbl.trans (hb4.mono hbl.size)
          clear hb4
          have C2 := Lib.hid (ref_ground W H A1 m1 c1 _ l1 w4 hr1 (Nat.le_refl _) hl1 (by omega))
          rw [hM] at C2
          replace hM := Lib.hid hM
          go_wp2_with fail
          refine Calls.mono C2.out ?_
          rintro e w5 ⟨rfl, hb5⟩
          clear C2
          replace k0 := (hb5.cell hb).trans k0
          replace k1 := (hb5.cell hb).trans k1
          replace k2 := (hb5.cell hb).trans k2
          replace hb := Nat.lt_of_lt_of_le hb hb5.size
          replace hr1 := (hr1.below hb5).more hb5.size
          replace hR3 := (hR3.below hb5).more hb5.size
          replace hX := hX.below hb5 hX.lt
          replace hbl := hbl.trans (hb5.mono hbl.size)
          clear hb5
          have HBF := Lib.hid hbl
          clear hbl hX hR3 hr1 k0 k1 k2
          go_wp2_with (first | (go_at_call 42; refine Calls.mono (num7 _ _) ?_; rintro e wn ⟨rfl, rfl⟩))
          go_roundw
          case rel => exact ⟨k + 1, by omega, by omega, by go_num, HBF.out⟩
          case measure => simp [intOf]; omega
        | true =>
          have ok := okG_of hM
          have C1 := Lib.hid (map_bytes W H A3 m1 c3 _ l1 _ hR3 (Nat.le_refl _) hl1 hM)
          have hz := enc_len ok
          generalize hze : encG W H l1 = z at C1 hz
          replace hze := Lib.hid hze
          go_wp2_with fail
          generalize w2.alloc (.cells #[.int .i64 W, .int .i64 H, .slice A3 m1 c3] 39) = w3 at *
          generalize w2.heap.size = X at *
          refine Calls.mono C1.out ?_
          rintro e w4 ⟨A4, c4, rfl, hown4, hb4⟩
          clear C1
          replace k0 := (hb4.cell hb).trans k0
          replace k1 := (hb4.cell hb).trans k1
          replace k2 := (hb4.cell hb).trans k2
          replace hb := Nat.lt_of_lt_of_le hb hb4.size
          replace hr1 := (hr1.below hb4).more hb4.size
          replace hR3 := (hR3.below hb4).more hb4.size
          replace hX := hX.below hb4 hX.lt
          replace hbl := hbl.trans (hb4.mono hbl.size)
          clear hb4
          have C2 := Lib.hid (ref_ground W H A1 m1 c1 _ l1 w4 hr1 (Nat.le_refl _) hl1 (by omega))
          rw [hM] at C2
          replace hM := Lib.hid hM
          go_wp2_with fail
          refine Calls.mono C2.out ?_
          rintro e w5 ⟨rfl, hb5⟩
          clear C2
          replace k0 := (hb5.cell hb).trans k0
          replace k1 := (hb5.cell hb).trans k1
          replace k2 := (hb5.cell hb).trans k2
          replace hb := Nat.lt_of_lt_of_le hb hb5.size
          replace hr1 := (hr1.below hb5).more hb5.size
          replace hR3 := (hR3.below hb5).more hb5.size
          replace hX := hX.below hb5 hX.lt
          replace hown4 := own_below hown4 hb5
          replace hbl := hbl.trans (hb5.mono hbl.size)
          clear hb5
          have M4 := Lib.hid (fun W' (h : Below w5.heap.size w5 W') => ref_mapbytes W H A1 m1 c1 _ l1 W' (hr1.below h) h.size hl1 ok)
          have M5 := fun W' (h : Below w5.heap.size w5 W') => eq_ground W H W H A3 A1 m1 c3 m1 c1 _ _ l1 l1 W' (hR3.below h) (hr1.below h) h.size h.size (by omega) (by omega)
          simp only [eqG_self] at M5
          replace M5 := Lib.hid M5
          unfold GivesBytes at M4
          rw [hze.out] at M4
          have HX := Lib.hid hX
          have H0 := Lib.hid k0
          have H1 := Lib.hid k1
          have H2 := Lib.hid k2
          have hzl : z.length ≤ 10000 := by have := hll.out; omega
          clear hX k0 k1 k2 hz
          go_wp2_with fail
          refine' wp_region_grow [Fact.val _, Fact.val _, Fact.val _, Fact.val _, Fact.val _, Fact.val _, Fact.val _, Fact.val _, Fact.val _, Fact.val _, Fact.pred (fun v w' => ∃ A8 c8, v = .slice A8 z.length c8 ∧ w'.ownsRow w5.heap.size 5 1 (.slice A8 z.length c8) z.length (nums .u8 z)) (fun v w w' h hb => by obtain ⟨A8, c8, h1, h2⟩ := h; exact ⟨A8, c8, h1, own_below h2 hb⟩), Fact.val _, Fact.val _, Fact.val _, Fact.val _, Fact.val _, Fact.val _, Fact.val _, Fact.val _, Fact.val _, Fact.val _, Fact.val _, Fact.val _, Fact.val _] (A := _) ?hA (by kernel_rfl) (by kernel_rfl) ?steps ?hend
          case hA =>
            intro us X hX
            simp only [fillF, Act.put, List.setIfInBounds_toArray, List.set_cons_zero, List.set_cons_succ, Nat.reduceAdd]
            (try go_simp)
            exact hX
          case steps =>
            refine ⟨fun us W HB hd K hK => ?_, ?_⟩
            · clear hd
              go_simp
              refine hK _ _ (Below.refl _ _) ?_
              (show _ = _); rfl
            refine ⟨fun us W HB hd K hK => ?_, ?_⟩
            · clear hd
              go_simp
              (with_reducible refine Calls.mono (num7 _ _) ?_)
              rintro e wn ⟨rfl, rfl⟩
              refine hK _ _ (Below.refl _ _) ?_
              (show _ = _); rfl
            refine ⟨fun us W HB hd K hK => ?_, ?_⟩
            · clear hd
              go_simp
              refine hK _ _ (Below.refl _ _) ?_
              (show _ = _); rfl
            refine ⟨fun us W HB hd K hK => ?_, ?_⟩
            · clear hd
              go_simp
              refine hK _ _ (Below.refl _ _) ?_
              (show _ = _); rfl
            refine ⟨fun us W HB hd K hK => ?_, ?_⟩
            · clear hd
              go_simp
              refine hK _ _ (Below.refl _ _) ?_
              (show _ = _); rfl
            refine ⟨fun us W HB hd K hK => ?_, ?_⟩
            · clear hd
              go_simp
              refine hK _ _ (Below.refl _ _) ?_
              (show _ = _); rfl
            refine ⟨fun us W HB hd K hK => ?_, ?_⟩
            · clear hd
              go_simp
              refine hK _ _ (Below.refl _ _) ?_
              (show _ = _); rfl
            refine ⟨fun us W HB hd K hK => ?_, ?_⟩
            · clear hd
              go_simp
              refine hK _ _ (Below.refl _ _) ?_
              (show _ = _); rfl
            refine ⟨fun us W HB hd K hK => ?_, ?_⟩
            · clear hd
              go_simp
              refine hK _ _ (Below.refl _ _) ?_
              (show _ = _); rfl
            refine ⟨fun us W HB hd K hK => ?_, ?_⟩
            · clear hd
              have g0 := (HB.cell hb).trans H0.out
              have g1 := (HB.cell hb).trans H1.out
              have g2 := (HB.cell hb).trans H2.out
              go_simp
              refine hK _ _ (Below.refl _ _) ?_
              (show _ = _); rfl
            refine ⟨fun us W HB hd K hK => ?_, ?_⟩
            · clear hd
              have C := M4.out _ HB
              have HBs := HB.size
              go_simp
              (with_reducible refine Calls.mono C ?_)
              rintro e wn ⟨A8, c8, rfl, hown8, hbn⟩
              exact hK _ _ hbn ⟨A8, c8, rfl, own_mono hown8 HBs⟩
            refine ⟨fun us W HB hd K hK => ?_, ?_⟩
            · have h10 := hd 10 (by decide); clear hd
              obtain ⟨A8, c8, e10, hown8⟩ : ∃ A8 c8, us 10 = _ ∧ _ := h10
              simp only [e10] at hK ⊢
              have C := eq_bytes_b A4 A8 _ c4 _ c8 _ _ z z _ true ((Reads.of_own hown4).below HB) (Reads.of_own hown8) (by omega) (by omega) (by simp)
              go_simp
              (with_reducible refine Calls.mono C ?_)
              rintro e wn ⟨rfl, hbn⟩
              refine hK _ _ hbn ?_
              (show _ = _); rfl
            refine ⟨fun us W HB hd K hK => ?_, ?_⟩
            · clear hd
              go_simp
              refine hK _ _ (Below.refl _ _) ?_
              (show _ = _); rfl
            refine ⟨fun us W HB hd K hK => ?_, ?_⟩
            · clear hd
              go_simp
              refine hK _ _ (Below.refl _ _) ?_
              (show _ = _); rfl
            refine ⟨fun us W HB hd K hK => ?_, ?_⟩
            · clear hd
              go_simp
              refine hK _ _ (Below.refl _ _) ?_
              (show _ = _); rfl
            refine ⟨fun us W HB hd K hK => ?_, ?_⟩
            · clear hd
              have q0 := box_cell HX.out HB HX.out.lt 0 _ rfl
              have q1 := box_cell HX.out HB HX.out.lt 1 _ rfl
              have q2 := box_cell HX.out HB HX.out.lt 2 _ rfl
              go_simp
              refine hK _ _ (Below.refl _ _) ?_
              (show _ = _); rfl
            refine ⟨fun us W HB hd K hK => ?_, ?_⟩
            · clear hd
              go_simp
              refine hK _ _ (Below.refl _ _) ?_
              (show _ = _); rfl
            refine ⟨fun us W HB hd K hK => ?_, ?_⟩
            · clear hd
              go_simp
              refine hK _ _ (Below.refl _ _) ?_
              (show _ = _); rfl
            refine ⟨fun us W HB hd K hK => ?_, ?_⟩
            · clear hd
              go_simp
              refine hK _ _ (Below.refl _ _) ?_
              (show _ = _); rfl
            refine ⟨fun us W HB hd K hK => ?_, ?_⟩
            · clear hd
              go_simp
              refine hK _ _ (Below.refl _ _) ?_
              (show _ = _); rfl
            refine ⟨fun us W HB hd K hK => ?_, ?_⟩
            · clear hd
              have g0 := (HB.cell hb).trans H0.out
              have g1 := (HB.cell hb).trans H1.out
              have g2 := (HB.cell hb).trans H2.out
              go_simp
              refine hK _ _ (Below.refl _ _) ?_
              (show _ = _); rfl
            refine ⟨fun us W HB hd K hK => ?_, ?_⟩
            · clear hd
              have C := M5.out _ HB
              go_simp
              (with_reducible refine Calls.mono C ?_)
              rintro e wn ⟨rfl, hbn⟩
              refine hK _ _ hbn ?_
              (show _ = _); rfl
            refine ⟨fun us W HB hd K hK => ?_, ?_⟩
            · clear hd
              go_simp
              refine hK _ _ (Below.refl _ _) ?_
              (show _ = _); rfl
            refine ⟨fun us W HB hd K hK => ?_, ?_⟩
            · clear hd
              go_simp
              refine hK _ _ (Below.refl _ _) ?_
              (show _ = _); rfl
            trivial
          case hend =>
            intro us W HB hd
            clear hd
            have HBF := Lib.hid (hbl.trans (HB.mono hbl.size))
            clear HB HX hown4 hr1 hR3 M4 M5 hbl H0 H1 H2
            go_wp2_with fail
            go_roundw
            case rel => exact ⟨k + 1, by omega, by omega, by go_num, HBF.out⟩
            case measure => simp [intOf]; omega
      · go_wp2_with fail
        refine Calls.mono (wakes7 _) ?_
        rintro e w3 ⟨rfl, hb3⟩
        go_wp2_with fail
        go_ret
        exact ⟨rfl, hbl.trans (hb3.mono hbl.size)⟩
    · go_wp2_with fail
      refine Calls.mono (wakes7 _) ?_
      rintro e w3 ⟨rfl, hb3⟩
      go_wp2_with fail
      go_ret
      exact ⟨rfl, hbl.trans (hb3.mono hbl.size)⟩
end lawMapcodeBytes
end Go.Proofs.Ytdcilabbjejklaa
