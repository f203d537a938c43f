/- The walk of the law MapcodeParses. -/
import Derived.Test.YtdcilabbjejklaaRefMapParse
import Derived.Test.YtdcilabbjejklaaWireRaw2
namespace Go.Proofs.Ytdcilabbjejklaa
set_option maxRecDepth 20000
open Go.RowKit Go.WideShapes Go.ChangeShapes

theorem parse_len {l : List Int} (hb : IsBytes l) : (parseG l).1.2.2.length ≤ 16384 := by
  by_cases h : (parseG l).2 = 0
  · exact okG_len (parse_backG hb h).1
  · unfold parseG at h ⊢
    split at h
    · exact absurd rfl h
    · simp

namespace lawMapcodeParses
set_option maxHeartbeats 6400000 in
set_option maxRecDepth 100000 in
theorem walk {H : Type} {enc : TypeId × Value → H} (w : World) {base : Nat} (v : Value) (d : DataW H) (p : List MemPlace) (hv : Value.okWide Try.prog w .any base 63 v)
    (ht : DataW.Trod enc Try.prog w 0 (fun _ => true) true 63 v d p) : Calls Try.prog 12 #[v] w fun e w' => e = .returned (.bool true) ∧ Below w.heap.size w w' := by
  obtain ⟨A, n, c, rfl, hnc, hcm, ha⟩ := open_asks7 hv ht
  unfold maxLen at hcm
  clear hv ht
  go_enter Try.func12, Try.ntmps12
  go_wp2_with fail
  go_loopw [3] (fun i wr => ∃ (k : Nat), k ≤ n ∧ k ≤ 6 ∧ i = .int .i64 k ∧ Below w.heap.size w wr) (fun i _ => n - (intOf i).toNat)
  case atStart => exact ⟨0, Nat.zero_le _, by omega, rfl, Below.refl _ _⟩
  case round =>
    obtain ⟨k, hk, hk10, rfl, hbl⟩ := hrel
    by_cases hlt : k < n
    · by_cases h10 : k < 6
      · skip
        obtain ⟨b, o, W, H, A1, m1, c1, l1, A2, m2, c2, l2, rfl, hb, k0, k1, k2, k3, hW, hH, hr1, hl1, hmc1, hcm1, hr2, hl2, hmc2, hcm2⟩ := ha.below hbl k hlt
        clear ha hr1 hl1 hmc1 hcm1
        by_cases hh : m1 ≤ 3000 ∧ m2 ≤ 5000
        case neg =>
          go_wp2_with fail
          refine Calls.mono (heavy7_yes W H A1 A2 m1 c1 m2 c2 _ (by omega)) ?_
          rintro e w1 ⟨rfl, hb1⟩
          go_wp2_with fail
          go_ret
          exact ⟨rfl, hbl.trans (hb1.mono hbl.size)⟩
        obtain ⟨hm1, hm2⟩ := hh
        go_wp2_with fail
        refine Calls.mono (heavy7_no W H A1 A2 m1 c1 m2 c2 _ hm1 hm2) ?_
        rintro e w1 ⟨rfl, hb1⟩
        clear k0 k1 k2
        replace k3 := (hb1.cell hb).trans k3
        replace hb := Nat.lt_of_lt_of_le hb hb1.size
        replace hr2 := (hr2.below hb1).more hb1.size
        replace hbl := hbl.trans (hb1.mono hbl.size)
        clear hb1
        have CC := Lib.hid (copy_bytes A2 m2 c2 _ l2 w1 hr2 (Nat.le_refl _) (by omega))
        go_wp2_with fail
        refine Calls.mono CC.out ?_
        rintro e w2 ⟨A3, c3, rfl, hown3, hb2⟩
        clear CC
        replace k3 := (hb2.cell hb).trans k3
        replace hb := Nat.lt_of_lt_of_le hb hb2.size
        replace hr2 := (hr2.below hb2).more hb2.size
        replace hbl := hbl.trans (hb2.mono hbl.size)
        clear hb2
        have hR3 := Reads.of_own hown3
        have hcc := own_cap hown3
        have C1 := map_parse A3 m2 c3 _ l2 w2 ⟨hR3, hl2, hcc.1, by have := hcc.2; omega, by omega, by omega⟩ (Nat.le_refl _)
        have C2 := fun W' (h : Below w2.heap.size w2 W') => ref_mapparse A2 m2 c2 _ l2 W' (hr2.below h) h.size hl2 hmc2 hcm2 (by omega)
        have hpl := parse_len hl2
        generalize parseG l2 = r at *
        obtain ⟨⟨W3, H3, t3⟩, e3⟩ := r
        unfold GivesG at C1 C2
        simp only at C1 C2 hpl
        replace C1 := Lib.hid C1
        replace C2 := Lib.hid C2
        clear hown3 hcc
        have R2 := Lib.hid hr2
        have R3 := Lib.hid hR3
        have K3 := Lib.hid k3
        have hbw := hb
        have hblw := Lib.hid hbl
        go_wp2_with fail
        refine Calls.mono C1.out ?_
        rintro e w4 ⟨A4, c4, rfl, hown4, hb4⟩
        clear C1
        have hX := Blk.new w4 #[.int .i64 W3, .int .i64 H3, .slice A4 t3.length c4] 39
        have hbX : Below w2.heap.size w2 (w4.alloc (.cells #[.int .i64 W3, .int .i64 H3, .slice A4 t3.length c4] 39)) := hb4.alloc hb4.size _
        have hown5 := hown4.alloc (.cells #[.int .i64 W3, .int .i64 H3, .slice A4 t3.length c4] 39)
        have k5 := (hbX.cell hb).trans k3
        go_wp2_with fail
        clear k5
        generalize w4.alloc (.cells #[.int .i64 W3, .int .i64 H3, .slice A4 t3.length c4] 39) = w5 at *
        generalize w4.heap.size = X at *
        have C3 := Lib.hid (C2.out w5 hbX)
        refine Calls.mono C3.out ?_
        rintro e w6 ⟨A6, c6, rfl, hown6, hb6⟩
        clear C2 C3 hown4 hb4
        have hX6 := hX.below hb6 hX.lt
        have hown7 := own_below hown5 hb6
        have hb7 := hbX.trans (hb6.mono hbX.size)
        have hY := Blk.new w6 #[.int .i64 W3, .int .i64 H3, .slice A6 t3.length c6] 39
        have hXY := hX6.alloc (.cells #[.int .i64 W3, .int .i64 H3, .slice A6 t3.length c6] 39)
        have hown8 := hown7.alloc (.cells #[.int .i64 W3, .int .i64 H3, .slice A6 t3.length c6] 39)
        have hown9 := hown6.alloc (.cells #[.int .i64 W3, .int .i64 H3, .slice A6 t3.length c6] 39)
        have hb9 : Below w2.heap.size w2 (w6.alloc (.cells #[.int .i64 W3, .int .i64 H3, .slice A6 t3.length c6] 39)) := hb7.alloc hb7.size _
        clear hX hbX hown5 hown6 hX6 hown7 hb7 hb6
        have x0 := hXY.cell (i := 0) rfl
        have x1 := hXY.cell (i := 1) rfl
        have x2 := hXY.cell (i := 2) rfl
        have y0 := hY.cell (i := 0) rfl
        have y1 := hY.cell (i := 1) rfl
        have y2 := hY.cell (i := 2) rfl
        have hl4 := own_len hown8
        have hlm : t3.length ≤ 4611686018427387904 ∨ True := .inr trivial
        have dd : ((e3 : Int) != e3) = false := by simp
        replace hb9 := Lib.hid hb9
        go_wp2_with fail
        generalize w6.alloc (.cells #[.int .i64 W3, .int .i64 H3, .slice A6 t3.length c6] 39) = w7 at *
        generalize w6.heap.size = Y at *
        replace k3 := (hb9.out.cell hb).trans k3
        replace hb := Nat.lt_of_lt_of_le hb hb9.out.size
        replace hR3 := (hR3.below hb9.out).more hb9.out.size
        replace hr2 := (hr2.below hb9.out).more hb9.out.size
        have hs9 := hb9.out.size
        have hch := Lib.hid hb9.out
        replace hbl := hbl.trans (hb9.out.mono hbl.size)
        clear hb9
        refine Calls.mono (num7 _ _) ?_
        rintro e wn ⟨rfl, rfl⟩
        have E := eq_ground W3 H3 W3 H3 A4 A6 t3.length c4 t3.length c6 _ _ t3 t3 w7 (Reads.of_own hown8) (Reads.of_own hown9) (Nat.le_refl _) (Nat.le_refl _) (by omega) (by omega)
        rw [eqG_self] at E
        replace E := Lib.hid E
        go_wp2_with fail
        refine Calls.mono E.out ?_
        rintro e w8 ⟨rfl, hb8⟩
        clear E hown9 hY y0 y1 y2 x0 x1 x2
        have hs8 := hb8.size
        replace hch := Lib.hid (hch.out.trans (hb8.mono hch.out.size))
        replace k3 := (hb8.cell hb).trans k3
        replace hb := Nat.lt_of_lt_of_le hb hb8.size
        replace hr2 := (hr2.below hb8).more hb8.size
        replace hR3 := (hR3.below hb8).more hb8.size
        replace hXY := hXY.below hb8 hXY.lt
        replace hown8 := own_below hown8 hb8
        replace hbl := hbl.trans (hb8.mono hbl.size)
        clear hb8
        have E := Lib.hid (eq_bytes_b A3 A2 m2 c3 m2 c2 _ _ l2 l2 w8 true hR3 hr2 (by omega) (by omega) (by simp))
        go_wp2_with fail
        refine Calls.mono E.out ?_
        rintro e w9 ⟨rfl, hb9⟩
        clear E
        have hs9' := hb9.size
        replace hch := Lib.hid (hch.out.trans (hb9.mono hch.out.size))
        replace k3 := (hb9.cell hb).trans k3
        replace hb := Nat.lt_of_lt_of_le hb hb9.size
        replace hr2 := (hr2.below hb9).more hb9.size
        replace hR3 := (hR3.below hb9).more hb9.size
        replace hXY := hXY.below hb9 hXY.lt
        replace hown8 := own_below hown8 hb9
        replace hbl := hbl.trans (hb9.mono hbl.size)
        clear hb9
        have E := Lib.hid (spoil_bytes A4 t3.length c4 w2.heap.size t3 w9 hown8 (by omega) (by omega))
        have x2 := hXY.cell (i := 2) rfl
        go_wp2_with fail
        refine Calls.mono E.out ?_
        rintro e w10 ⟨rfl, hb10⟩
        clear E x2 hXY hown8 hr2 hR3 k3 hb hbl hs8 hs9 hs9'
        replace hch := hch.out.trans hb10
        have hr2 := (R2.out.below hch).more hch.size
        have hR3 := (R3.out.below hch).more hch.size
        have k3 := (hch.cell hbw).trans K3.out
        have HBF := Lib.hid (hblw.out.trans (hch.mono hblw.out.size))
        clear R2 R3 K3 hbw hblw hch hb10
        have E := Lib.hid (eq_bytes_b A3 A2 m2 c3 m2 c2 _ _ l2 l2 w10 true hR3 hr2 (by omega) (by omega) (by simp))
        go_wp2_with fail
        refine Calls.mono E.out ?_
        rintro e w11 ⟨rfl, hb11⟩
        replace HBF := Lib.hid (HBF.out.trans (hb11.mono HBF.out.size))
        clear E hr2 hR3 k3 hb11
        go_wp2_with fail
        go_roundw
        case rel => exact ⟨k + 1, by omega, by omega, by go_num, HBF.out⟩
        case measure => simp [intOf]; omega
      · go_wp2_with fail
        refine Calls.mono (wakes7 _) ?_
        rintro e w3 ⟨rfl, hb3⟩
        go_wp2_with fail
        go_ret
        exact ⟨rfl, hbl.trans (hb3.mono hbl.size)⟩
    · go_wp2_with fail
      refine Calls.mono (wakes7 _) ?_
      rintro e w3 ⟨rfl, hb3⟩
      go_wp2_with fail
      go_ret
      exact ⟨rfl, hbl.trans (hb3.mono hbl.size)⟩
end lawMapcodeParses
end Go.Proofs.Ytdcilabbjejklaa
