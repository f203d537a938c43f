/- The walk of the law MapcodeBack. -/
import Derived.Test.YtdcilabbjejklaaMapTurn
import Derived.Test.YtdcilabbjejklaaMapOpen
namespace Go.Proofs.Ytdcilabbjejklaa
set_option maxRecDepth 20000
open Go.RowKit Go.WideShapes Go.ChangeShapes

namespace lawMapcodeBack
set_option maxHeartbeats 6400000 in
set_option maxRecDepth 100000 in
theorem walk {H : Type} {enc : TypeId × Value → H} (w : World) {base : Nat} (v : Value) (d : DataW H) (p : List MemPlace) (hv : Value.okWide Try.prog w .any base 63 v)
    (ht : DataW.Trod enc Try.prog w 0 (fun _ => true) true 63 v d p) : Calls Try.prog 13 #[v] w fun e w' => e = .returned (.bool true) ∧ Below w.heap.size w w' := by
  obtain ⟨A, n, c, rfl, hnc, hcm, ha⟩ := open_asks7 hv ht
  unfold maxLen at hcm
  clear hv ht
  go_enter Try.func13, Try.ntmps13
  go_wp2_with fail
  go_loopw [3] (fun i wr => ∃ (k : Nat), k ≤ n ∧ k ≤ 6 ∧ i = .int .i64 k ∧ Below w.heap.size w wr) (fun i _ => n - (intOf i).toNat)
  case atStart => exact ⟨0, Nat.zero_le _, by omega, rfl, Below.refl _ _⟩
  case round =>
    obtain ⟨k, hk, hk10, rfl, hbl⟩ := hrel
    by_cases hlt : k < n
    · by_cases h10 : k < 6
      · skip
        obtain ⟨b, o, W, H, A1, m1, c1, l1, A2, m2, c2, l2, rfl, hb, k0, k1, k2, k3, hW, hH, hr1, hl1, hmc1, hcm1, hr2, hl2, hmc2, hcm2⟩ := ha.below hbl k hlt
        clear hr2 hl2 hmc2 hcm2
        by_cases hh : m1 ≤ 3000 ∧ m2 ≤ 5000
        case neg =>
          clear ha
          go_wp2_with fail
          refine Calls.mono (heavy7_yes W H A1 A2 m1 c1 m2 c2 _ (by omega)) ?_
          rintro e w1 ⟨rfl, hb1⟩
          go_wp2_with fail
          go_ret
          exact ⟨rfl, hbl.trans (hb1.mono hbl.size)⟩
        obtain ⟨hm1, hm2⟩ := hh
        clear ha
        go_wp2_with fail
        refine Calls.mono (heavy7_no W H A1 A2 m1 c1 m2 c2 _ hm1 hm2) ?_
        rintro e w1 ⟨rfl, hb1⟩
        clear k3
        replace k0 := (hb1.cell hb).trans k0
        replace k1 := (hb1.cell hb).trans k1
        replace k2 := (hb1.cell hb).trans k2
        replace hb := Nat.lt_of_lt_of_le hb hb1.size
        replace hr1 := (hr1.below hb1).more hb1.size
        replace hbl := hbl.trans (hb1.mono hbl.size)
        clear hb1
        have hll := Lib.hid (show l1.length = m1 by have := hr1.1; simpa [nums] using this)
        cases hM : isG W H l1 with
        | false =>
          have C1 := Lib.hid (map_bytes_no W H A1 m1 c1 _ l1 _ hr1 (Nat.le_refl _) hl1 hM)
          go_wp2_with fail
          refine Calls.mono C1.out ?_
          rintro e w4 ⟨rfl, hb4⟩
          clear C1
          replace k0 := (hb4.cell hb).trans k0
          replace k1 := (hb4.cell hb).trans k1
          replace k2 := (hb4.cell hb).trans k2
          replace hb := Nat.lt_of_lt_of_le hb hb4.size
          replace hr1 := (hr1.below hb4).more hb4.size
          replace hbl := hbl.trans (hb4.mono hbl.size)
          clear hb4
          have HBF := Lib.hid hbl
          clear hbl hr1 k0 k1 k2
          go_wp2_with fail
          refine Calls.mono (num7 _ _) ?_
          rintro e wn ⟨rfl, rfl⟩
          go_wp2_with fail
          go_roundw
          case rel => exact ⟨k + 1, by omega, by omega, by go_num, HBF.out⟩
          case measure => simp [intOf]; omega
        | true =>
          have ok := okG_of hM
          have C1 := Lib.hid (map_bytes W H A1 m1 c1 _ l1 _ hr1 (Nat.le_refl _) hl1 hM)
          have hz := enc_len ok
          have hzb := enc_bytes W H hl1
          have hz14 : 12 ≤ (encG W H l1).length := by
            have h1 := side_len ok.1.1 ok.1.2
            have h2 := side_len ok.2.1.1 ok.2.1.2
            simp only [encG, headG, List.length_append, eight_len, List.length_cons, List.length_nil]
            omega
          have Hturn := Lib.hid (fun (j : Nat) (h4 : 4 ≤ j) (hj : j < (encG W H l1).length) (c : Int) (hc : 0 ≤ c ∧ c ≤ 255) (hne : c ≠ (encG W H l1).getD j 0) => parse_turnG ok hl1 h4 hj hc hne)
          have P1 := parse_encG ok
          have P2 := parse_moreG ok 0 []
          have Hcut := Lib.hid (fun (j : Nat) (hj : j < (encG W H l1).length) => parse_cutG ok hj)
          generalize encG W H l1 = z at *
          have hzl : z.length ≤ 3028 := by have := hll.out; omega
          clear hz
          go_wp2_with fail
          refine Calls.mono C1.out ?_
          rintro e w4 ⟨A4, c4, rfl, hown4, hb4⟩
          clear C1
          have hs4 := hb4.size
          replace k0 := (hb4.cell hb).trans k0
          replace k1 := (hb4.cell hb).trans k1
          replace k2 := (hb4.cell hb).trans k2
          replace hb := Nat.lt_of_lt_of_le hb hb4.size
          replace hr1 := (hr1.below hb4).more hb4.size
          replace hbl := hbl.trans (hb4.mono hbl.size)
          clear hb4
          have hcap4 := own_cap hown4
          obtain ⟨g, cap, hv, hgb, hgl⟩ := hown4.form (show 0 < z.length by omega)
          injection hv with hA4 _ hcp
          subst hA4; subst hcp
          generalize w1.heap.size = B4 at *
          have C1 := map_parse (some ⟨g, 0, none⟩) z.length c4 w4.heap.size z w4 ⟨Reads.of_own hown4, hzb, hcap4.1, by have := hcap4.2; omega, Nat.le_refl _, by omega⟩ (Nat.le_refl _)
          rw [P1] at C1
          unfold GivesG at C1
          simp only at C1
          replace C1 := Lib.hid C1
          clear P1
          go_wp2_with fail
          refine Calls.mono (num7 _ _) ?_
          rintro e wn ⟨rfl, rfl⟩
          go_wp2_with fail
          refine Calls.mono C1.out ?_
          rintro e w5 ⟨A5, c5, rfl, hown5, hb5⟩
          clear C1
          have hs5 := hb5.size
          replace k0 := (hb5.cell hb).trans k0
          replace k1 := (hb5.cell hb).trans k1
          replace k2 := (hb5.cell hb).trans k2
          replace hb := Nat.lt_of_lt_of_le hb hb5.size
          replace hr1 := (hr1.below hb5).more hb5.size
          replace hown4 := own_below hown4 hb5
          replace hbl := hbl.trans (hb5.mono hbl.size)
          clear hb5
          have hX := Blk.new w5 #[.int .i64 W, .int .i64 H, .slice A5 l1.length c5] 39
          have hbX : Below w5.heap.size w5 (w5.alloc (.cells #[.int .i64 W, .int .i64 H, .slice A5 l1.length c5] 39)) := (Below.refl _ _).alloc (Nat.le_refl _) _
          replace k0 := (hbX.cell hb).trans k0
          replace k1 := (hbX.cell hb).trans k1
          replace k2 := (hbX.cell hb).trans k2
          replace hb := Nat.lt_of_lt_of_le hb hbX.size
          replace hr1 := (hr1.below hbX).more hbX.size
          replace hown4 := own_below hown4 hbX
          replace hown5 := own_below hown5 hbX
          replace hbl := hbl.trans (hbX.mono hbl.size)
          clear hbX
          go_wp2_with fail
          generalize w5.alloc (.cells #[.int .i64 W, .int .i64 H, .slice A5 l1.length c5] 39) = w6 at *
          generalize w5.heap.size = X at *
          have C2 := Lib.hid (copy_bytes (some ⟨g, 0, none⟩) z.length c4 _ z w6 (Reads.of_own hown4) (Nat.le_refl _) (by omega))
          refine Calls.mono C2.out ?_
          rintro e w7 ⟨A7, c7, rfl, hown7, hb7⟩
          clear C2
          have hs7 := hb7.size
          go_wp2_with (at_builtin; go_loud (refine wpList_pushG w7 _ rfl _ _ rfl w6.heap.size A7 z.length c7 z rfl (.inl hown7) 0 rfl rfl (by omega) hs7 ?_); intro A8 c8 w8 hown8 hb8)
          have hb78 := hb7.trans hb8
          clear hb7 hb8 hown7 hs7
          replace k0 := (hb78.cell hb).trans k0
          replace k1 := (hb78.cell hb).trans k1
          replace k2 := (hb78.cell hb).trans k2
          replace hb := Nat.lt_of_lt_of_le hb hb78.size
          replace hr1 := (hr1.below hb78).more hb78.size
          replace hX := hX.below hb78 hX.lt
          replace hown4 := own_below hown4 hb78
          replace hown5 := own_below hown5 hb78
          replace hbl := hbl.trans (hb78.mono hbl.size)
          clear hb78
          have hcap8 := own_cap hown8
          have hzb8 : IsBytes (z ++ [0]) := IsBytes.app hzb (fun x hx => by simp at hx; omega)
          have C3 := map_parse A8 (z.length + 1) c8 w8.heap.size (z ++ [0]) w8 ⟨Reads.of_own hown8, hzb8, hcap8.1, by have := hcap8.2; omega, Nat.le_refl _, by omega⟩ (Nat.le_refl _)
          rw [P2] at C3
          unfold GivesG at C3
          simp only [List.length_nil] at C3
          replace C3 := Lib.hid C3
          clear P2 hzb8
          refine Calls.mono C3.out ?_
          rintro e w9 ⟨A9, c9, rfl, hown9, hb9⟩
          clear C3 hcap8 hown8 hown9
          replace k0 := (hb9.cell hb).trans k0
          replace k1 := (hb9.cell hb).trans k1
          replace k2 := (hb9.cell hb).trans k2
          replace hb := Nat.lt_of_lt_of_le hb hb9.size
          replace hr1 := (hr1.below hb9).more hb9.size
          replace hX := hX.below hb9 hX.lt
          replace hown4 := own_below hown4 hb9
          replace hown5 := own_below hown5 hb9
          replace hbl := hbl.trans (hb9.mono hbl.size)
          clear hb9
          have hbY : Below w9.heap.size w9 (w9.alloc (.cells #[.int .i64 0, .int .i64 0, .slice A9 0 c9] 39)) := (Below.refl _ _).alloc (Nat.le_refl _) _
          replace k0 := (hbY.cell hb).trans k0
          replace k1 := (hbY.cell hb).trans k1
          replace k2 := (hbY.cell hb).trans k2
          replace hb := Nat.lt_of_lt_of_le hb hbY.size
          replace hr1 := (hr1.below hbY).more hbY.size
          replace hX := hX.below hbY hX.lt
          replace hown4 := own_below hown4 hbY
          replace hown5 := own_below hown5 hbY
          replace hbl := hbl.trans (hbY.mono hbl.size)
          clear hbY
          go_wp2_with fail
          generalize w9.alloc (.cells #[.int .i64 0, .int .i64 0, .slice A9 0 c9] 39) = w10 at *
          have M5 := fun W' (h : Below w10.heap.size w10 W') => eq_ground W H W H A5 A1 l1.length c5 m1 c1 _ _ l1 l1 W' ((Reads.of_own hown5).below h) (hr1.below h) h.size h.size (by have := hll.out; omega) (by omega)
          simp only [eqG_self] at M5
          replace M5 := Lib.hid M5
          have HX := Lib.hid hX
          have H0 := Lib.hid k0
          have H1 := Lib.hid k1
          have H2 := Lib.hid k2
          clear hX k0 k1 k2
          refine' wp_region_grow [Fact.val _, Fact.val _, Fact.val _, Fact.val _, Fact.val _, Fact.val _, Fact.val _, Fact.val _, Fact.val _, Fact.val _, Fact.val _, Fact.val _, Fact.val _, Fact.val _, Fact.val _, Fact.val _, Fact.val _, Fact.val _] (A := _) ?hA (by kernel_rfl) (by kernel_rfl) ?steps ?hend
          case hA =>
            intro us X hX
            simp only [fillF, Act.put, List.setIfInBounds_toArray, List.set_cons_zero, List.set_cons_succ, Nat.reduceAdd]
            (try go_simp)
            exact hX
          case steps =>
            refine ⟨fun us W HB hd K hK => ?_, ?_⟩
            · clear hd
              go_simp
              refine hK _ _ (Below.refl _ _) ?_
              (show _ = _); rfl
            refine ⟨fun us W HB hd K hK => ?_, ?_⟩
            · clear hd
              go_simp
              (with_reducible refine Calls.mono (num7 _ _) ?_)
              rintro e wn ⟨rfl, rfl⟩
              refine hK _ _ (Below.refl _ _) ?_
              (show _ = _); rfl
            refine ⟨fun us W HB hd K hK => ?_, ?_⟩
            · clear hd
              go_simp
              refine hK _ _ (Below.refl _ _) ?_
              (show _ = _); rfl
            refine ⟨fun us W HB hd K hK => ?_, ?_⟩
            · clear hd
              go_simp
              refine hK _ _ (Below.refl _ _) ?_
              (show _ = _); rfl
            refine ⟨fun us W HB hd K hK => ?_, ?_⟩
            · clear hd
              have q0 := box_cell HX.out HB HX.out.lt 0 _ rfl
              have q1 := box_cell HX.out HB HX.out.lt 1 _ rfl
              have q2 := box_cell HX.out HB HX.out.lt 2 _ rfl
              go_simp
              refine hK _ _ (Below.refl _ _) ?_
              (show _ = _); rfl
            refine ⟨fun us W HB hd K hK => ?_, ?_⟩
            · clear hd
              go_simp
              refine hK _ _ (Below.refl _ _) ?_
              (show _ = _); rfl
            refine ⟨fun us W HB hd K hK => ?_, ?_⟩
            · clear hd
              go_simp
              refine hK _ _ (Below.refl _ _) ?_
              (show _ = _); rfl
            refine ⟨fun us W HB hd K hK => ?_, ?_⟩
            · clear hd
              go_simp
              refine hK _ _ (Below.refl _ _) ?_
              (show _ = _); rfl
            refine ⟨fun us W HB hd K hK => ?_, ?_⟩
            · clear hd
              go_simp
              refine hK _ _ (Below.refl _ _) ?_
              (show _ = _); rfl
            refine ⟨fun us W HB hd K hK => ?_, ?_⟩
            · clear hd
              have g0 := (HB.cell hb).trans H0.out
              have g1 := (HB.cell hb).trans H1.out
              have g2 := (HB.cell hb).trans H2.out
              go_simp
              refine hK _ _ (Below.refl _ _) ?_
              (show _ = _); rfl
            refine ⟨fun us W HB hd K hK => ?_, ?_⟩
            · clear hd
              have C := M5.out _ HB
              go_simp
              (with_reducible refine Calls.mono C ?_)
              rintro e wn ⟨rfl, hbn⟩
              refine hK _ _ hbn ?_
              (show _ = _); rfl
            refine ⟨fun us W HB hd K hK => ?_, ?_⟩
            · clear hd
              go_simp
              refine hK _ _ (Below.refl _ _) ?_
              (show _ = _); rfl
            refine ⟨fun us W HB hd K hK => ?_, ?_⟩
            · clear hd
              go_simp
              refine hK _ _ (Below.refl _ _) ?_
              (show _ = _); rfl
            refine ⟨fun us W HB hd K hK => ?_, ?_⟩
            · clear hd
              go_simp
              refine hK _ _ (Below.refl _ _) ?_
              (show _ = _); rfl
            refine ⟨fun us W HB hd K hK => ?_, ?_⟩
            · clear hd
              go_simp
              refine hK _ _ (Below.refl _ _) ?_
              (show _ = _); rfl
            refine ⟨fun us W HB hd K hK => ?_, ?_⟩
            · clear hd
              go_simp
              (with_reducible refine Calls.mono (num7 _ _) ?_)
              rintro e wn ⟨rfl, rfl⟩
              refine hK _ _ (Below.refl _ _) ?_
              (show _ = _); rfl
            refine ⟨fun us W HB hd K hK => ?_, ?_⟩
            · clear hd
              go_simp
              refine hK _ _ (Below.refl _ _) ?_
              (show _ = _); rfl
            refine ⟨fun us W HB hd K hK => ?_, ?_⟩
            · clear hd
              go_simp
              refine hK _ _ (Below.refl _ _) ?_
              (show _ = _); rfl
            trivial
          case hend =>
            intro us W HB hd
            clear hd
            have hown4 := own_below hown4 HB
            have hs10 : B4 ≤ W.heap.size := by have := HX.out.lt; have := HB.size; omega
            have HBF := hbl.trans (HB.mono hbl.size)
            clear HB HX H0 H1 H2 M5 hbl hr1 hown5
            go_wp2_with fail
            have HW := Lib.hid (show z.length ≤ 3028 from hzl)
            clear hcap4 hgl hgb hs4 hs5 hb hW hH hm1 hm2 hM ok hll hl1 hmc1 hcm1
            go_loopw [10] (fun jv wr => ∃ (j : Nat), jv = .int .i64 j ∧ j ≤ 7000 ∧ wr.ownsRow B4 5 1 (.slice (some ⟨g, 0, none⟩) z.length c4) z.length (nums .u8 z) ∧ B4 ≤ wr.heap.size ∧ Below w.heap.size w wr) (fun jv _ => z.length - (intOf jv).toNat)
            case atStart => exact ⟨0, rfl, by omega, hown4, hs10, HBF⟩
            case round =>
              clear hown4 hs10 HBF
              obtain ⟨j, rfl, hj7, hown4, hs10, hbl⟩ := hrel
              by_cases hj : j < z.length
              case neg =>
                have HB := Lib.hid hbl
                clear hbl hown4
                go_wp2_with fail
                go_roundw
                case rel => exact ⟨k + 1, by omega, by omega, by go_num, HB.out⟩
                case measure => simp [intOf]; omega
              have hcap4 := own_cap hown4
              have C1 := map_parse (some ⟨g, 0, none⟩) j c4 wr.heap.size (z.take j) wr ⟨(Reads.of_own hown4).first (by omega), fun x hx => hzb x (List.mem_of_mem_take hx), by omega, by omega, Nat.le_refl _, by omega⟩ (Nat.le_refl _)
              rw [Hcut.out j hj] at C1
              unfold GivesG at C1
              simp only [List.length_nil] at C1
              replace C1 := Lib.hid C1
              have hjc : (j : Int) ≤ (c4 : Int) := by omega
              go_wp2_with fail
              refine Calls.mono C1.out ?_
              rintro e w11 ⟨A11, c11, rfl, hown11, hb11⟩
              clear C1 hjc
              replace hs10 := Nat.le_trans hs10 hb11.size
              replace hown4 := own_below hown4 hb11
              replace hbl := hbl.trans (hb11.mono hbl.size)
              clear hb11
              have hZ := Blk.new w11 #[.int .i64 0, .int .i64 0, .slice A11 0 c11] 39
              have hbZ : Below w11.heap.size w11 (w11.alloc (.cells #[.int .i64 0, .int .i64 0, .slice A11 0 c11] 39)) := (Below.refl _ _).alloc (Nat.le_refl _) _
              replace hs10 := Nat.le_trans hs10 hbZ.size
              replace hown4 := own_below hown4 hbZ
              replace hown11 := own_below hown11 hbZ
              replace hbl := hbl.trans (hbZ.mono hbl.size)
              clear hbZ
              go_wp2_with fail
              generalize w11.alloc (.cells #[.int .i64 0, .int .i64 0, .slice A11 0 c11] 39) = w12 at *
              generalize w11.heap.size = Z at *
              refine Calls.mono (num7 _ _) ?_
              rintro e wn ⟨rfl, rfl⟩
              have E := eq_ground 0 0 0 0 A11 none 0 c11 0 0 _ w12.heap.size [] [] w12 (Reads.of_own hown11) Reads.none_ (Nat.le_refl _) (Nat.le_refl _) (by omega) (by omega)
              rw [eqG_self] at E
              replace E := Lib.hid E
              have x0 := hZ.cell (i := 0) rfl
              have x1 := hZ.cell (i := 1) rfl
              have x2 := hZ.cell (i := 2) rfl
              go_wp2_with fail
              refine Calls.mono E.out ?_
              rintro e w13 ⟨rfl, hb13⟩
              clear x0 x1 x2 E hZ hown11
              replace hs10 := Nat.le_trans hs10 hb13.size
              replace hown4 := own_below hown4 hb13
              replace hbl := hbl.trans (hb13.mono hbl.size)
              clear hb13
              by_cases hj4 : j < 4
              case pos =>
                have HO := Lib.hid hown4
                have HB := Lib.hid hbl
                clear hown4 hbl
                go_wp2_with fail
                go_roundw
                case rel => exact ⟨j + 1 + z.length / 30, by go_num, by omega, HO.out, hs10, HB.out⟩
                case measure => simp [intOf]; omega
              have C2 := Lib.hid (copy_bytes (some ⟨g, 0, none⟩) z.length c4 _ z w13 (Reads.of_own hown4) (Nat.le_refl _) (by omega))
              go_wp2_with fail
              refine Calls.mono C2.out ?_
              rintro e w14 ⟨A14, c14, rfl, hown14, hb14⟩
              clear C2
              have hcap14 := own_cap hown14
              obtain ⟨q, rfl, hq1, hq2, hqc, hqf⟩ := own_at hown14 hj
              have hx0 : 0 ≤ z.getD j 0 ∧ z.getD j 0 ≤ 255 := by
                refine hzb _ ?_
                simp only [List.getD, List.getElem?_eq_getElem hj, Option.getD_some]; exact List.getElem_mem hj
              have hwB := hbl.size
              have ht := Hturn.out j (by omega) hj
              generalize hx0e : z.getD j 0 = x0 at *
              go_wp2_with fail
              have hu := xor8m x0 (1 + ((k : Int) + (j : Int)) % 255) hx0 (by omega)
              have hown15 := own_store hown14 (k := j) (bits .xor .u8 x0 (1 + ((k : Int) + (j : Int)) % 255))
              generalize bits .xor .u8 x0 (1 + ((k : Int) + (j : Int)) % 255) = u at *
              have hpz := ht u ⟨hu.1, hu.2.1⟩ hu.2.2
              have hb15 : Below w13.heap.size w13 (w14.setCell ⟨q, j, none⟩ (.int .u8 u)) := hb14.setCell hq1 _
              have hzb15 : IsBytes (z.set j u) := fun x hx => by
                rcases List.mem_or_eq_of_mem_set hx with hx | rfl
                · exact hzb x hx
                · exact ⟨hu.1, hu.2.1⟩
              generalize w14.setCell ⟨q, j, none⟩ (.int .u8 u) = w15 at *
              clear hb14 hqc hqf hown14 hq1 hq2 ht hx0 hx0e
              replace hs10 := Nat.le_trans hs10 hb15.size
              replace hown4 := own_below hown4 hb15
              replace hbl := hbl.trans (hb15.mono hbl.size)
              clear hb15
              have C3 := map_parse (some ⟨q, 0, none⟩) z.length c14 w15.heap.size (z.set j u) w15 ⟨Reads.of_own hown15, hzb15, by omega, by omega, Nat.le_refl _, by omega⟩ (Nat.le_refl _)
              generalize parseG (z.set j u) = r at *
              obtain ⟨⟨W3, H3, t3⟩, e3⟩ := r
              unfold GivesG at C3
              simp only at C3 hpz
              replace C3 := Lib.hid C3
              have de : (e3 == 0) = false := by rw [beq_eq_false_iff_ne]; exact hpz
              clear hown15 hzb15 hu hpz
              refine Calls.mono C3.out ?_
              rintro e w16 ⟨A16, c16, rfl, _, hb16⟩
              clear C3
              replace hs10 := Nat.le_trans hs10 hb16.size
              replace hown4 := own_below hown4 hb16
              replace hbl := hbl.trans (hb16.mono hbl.size)
              clear hb16
              have hbV : Below w16.heap.size w16 (w16.alloc (.cells #[.int .i64 W3, .int .i64 H3, .slice A16 t3.length c16] 39)) := (Below.refl _ _).alloc (Nat.le_refl _) _
              replace hs10 := Nat.le_trans hs10 hbV.size
              replace hown4 := own_below hown4 hbV
              replace hbl := hbl.trans (hbV.mono hbl.size)
              clear hbV
              go_wp2_with fail
              generalize w16.alloc (.cells #[.int .i64 W3, .int .i64 H3, .slice A16 t3.length c16] 39) = w17 at *
              refine Calls.mono (num7 _ _) ?_
              rintro e wn ⟨rfl, rfl⟩
              have HO := Lib.hid hown4
              have HB := Lib.hid hbl
              clear hown4 hbl
              go_wp2_with fail
              go_roundw
              case rel => exact ⟨j + 1 + z.length / 30, by go_num, by omega, HO.out, hs10, HB.out⟩
              case measure => simp [intOf]; omega
      · go_wp2_with fail
        refine Calls.mono (wakes7 _) ?_
        rintro e w3 ⟨rfl, hb3⟩
        go_wp2_with fail
        go_ret
        exact ⟨rfl, hbl.trans (hb3.mono hbl.size)⟩
    · go_wp2_with fail
      refine Calls.mono (wakes7 _) ?_
      rintro e w3 ⟨rfl, hb3⟩
      go_wp2_with fail
      go_ret
      exact ⟨rfl, hbl.trans (hb3.mono hbl.size)⟩
end lawMapcodeBack
end Go.Proofs.Ytdcilabbjejklaa
