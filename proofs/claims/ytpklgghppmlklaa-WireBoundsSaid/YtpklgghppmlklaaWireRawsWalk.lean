/- The walk of the law WireRaws. -/
import Derived.Test.YtpklgghppmlklaaWireReads
import Derived.Test.YtpklgghppmlklaaWireRaw2
import Derived.Deep.RegionHeld3
namespace Go.Proofs.Ytpklgghppmlklaa
open Go.RowKit Go.WideShapes Go.ChangeShapes


theorem getRawR_len (l : List Int) : (getRawR l).1.length ≤ l.length := by
  unfold getRawR
  split
  · simp
  · split
    · simp
    · split
      · simp
      · simp; omega

namespace lawWireRaws
set_option maxHeartbeats 3200000 in
set_option maxRecDepth 100000 in
theorem walk {H : Type} {enc : TypeId × Value → H} (w : World) {base : Nat} (v : Value) (d : DataW H) (p : List MemPlace) (hv : Value.okWide Try.prog w .any base 35 v)
    (ht : DataW.Trod enc Try.prog w 0 (fun _ => true) true 35 v d p) : Calls Try.prog 9 #[v] w fun e w' => e = .returned (.bool true) ∧ Below w.heap.size w w' := by
  obtain ⟨i0, hi0, hz0, hz1, hz2⟩ := info_parts info_u8
  obtain ⟨A, n, c, rfl, hnc, hcm, ha⟩ := open_asks4 hv ht
  unfold maxLen at hcm
  clear hv ht
  go_enter Try.func9, Try.ntmps9
  go_wp2
  go_loopw [3] (fun i wr => ∃ (k : Nat), k ≤ n ∧ k ≤ 15 ∧ i = .int .i64 k ∧ Below w.heap.size w wr) (fun i _ => n - (intOf i).toNat)
  case atStart => exact ⟨0, Nat.zero_le _, by omega, rfl, Below.refl _ _⟩
  case round =>
    obtain ⟨k, hk, hk20, rfl, hbl⟩ := hrel
    by_cases hlt : k < n
    · by_cases h20 : k < 15
      · obtain ⟨b, o, x, A1, m1, c1, l1, A2, m2, c2, l2, rfl, hb, hc1, hc2, hc3, ⟨hx0, hx1⟩, hr1, hl1, hmc1, hcm1, hr2, hl2, hmc2, hcm2⟩ := ha.below hbl k hlt
        clear hmc1 hcm1 ha hx0 hx1
        unfold maxLen at hcm2
        by_cases hh : m1 ≤ 5000 ∧ m2 ≤ 5000
        · obtain ⟨hm1, hm2⟩ := hh
          go_wp2_with fail
          refine (heavy_no _ _ _ _ _ _ _ _ hm1 hm2).mono ?_
          rintro e w1 ⟨rfl, hb1⟩
          have hb' : b < w1.heap.size := Nat.lt_of_lt_of_le hb hb1.size
          have hd2 := (hb1.cell (p := ⟨b, o + k * 3 + 1, none⟩) hb).trans hc2
          have hd3 := (hb1.cell (p := ⟨b, o + k * 3 + 2, none⟩) hb).trans hc3
          have hs1 := (hr1.below hb1).more hb1.size
          have hs2 := (hr2.below hb1).more hb1.size
          clear hc1 hc2 hc3 hr1 hr2
          go_wp2_with fail
          refine (wire_raw _ _ _ _ l1 _ hs1 (Nat.le_refl _) (by omega)).mono ?_
          rintro e w2 ⟨A3, c3, rfl, hown3, hb2⟩
          have hb'' : b < w2.heap.size := Nat.lt_of_lt_of_le hb' hb2.size
          have he2 := (hb2.cell (p := ⟨b, o + k * 3 + 1, none⟩) hb').trans hd2
          have he3 := (hb2.cell (p := ⟨b, o + k * 3 + 2, none⟩) hb').trans hd3
          have ht1 := (hs1.below hb2).more hb2.size
          have ht2 := (hs2.below hb2).more hb2.size
          clear hd2 hd3 hs1 hs2
          have hpl : (put m1).length ≤ 9 := put_nine (by omega)
          have hll1 : l1.length = m1 := by have := ht1.1; simpa [nums] using this
          have hlen : (put m1 ++ l1).length ≤ 5009 := by simp; omega
          have HLL := Lib.hid hll1
          clear hll1
          have R := Lib.hid (fun W => ref_num_i (m1 : Int) W (by omega) (by omega))
          rw [Int.toNat_natCast] at R
          go_wp2_with fail
          go_region_held3 (fun w' => w'.cell? ⟨b, o + k * 3 + 1, none⟩ = some (.slice A1 m1 c1))
            (first | assumption | exact he2)
            (first
              | (go_at_call 20; (with_reducible refine (num4 _ _).mono ?_); rintro e w3 ⟨rfl, rfl⟩)
              | (go_at_call 21; (with_reducible refine Calls.mono (R.out _) ?_); rintro e w3 ⟨A4, c4, rfl, hown4, hb3⟩; have hf2 := (hb3.cell (p := ⟨b, o + k * 3 + 1, none⟩) hb'').trans he2)
              | (refine step_append_reads _ (by rfl) _ _ _ (by rfl) w2.heap.size 5 i0 _ 1 1 Try.underlying24 hi0 hz0 hz1 hz2 rfl (by omega) _ _ _ (by rfl) hown4 _ _ _ _ _ (by rfl) (ht1.drew.below hb3) (nums_one _ _) (by unfold maxLen; omega) (by omega) hb3.size ?_; intro A5 c5 w4 hown5 hb4; have hg2 := (hb4.cell (p := ⟨b, o + k * 3 + 1, none⟩) hb'').trans hf2; rw [← nums_app] at hown5)
              | (go_at_call 15; (with_reducible refine (eq_bytes_b _ _ _ _ _ _ w2.heap.size w4.heap.size (put m1 ++ l1) (put m1 ++ l1) _ true ?r1 ?r2 ?r3 ?r4 ?r5).mono ?_); (rw [← List.length_append]; exact (((Reads.of_own hown3).drew.below hb3).below hb4)); exact Reads.of_own hown5; (simp at hlen; omega); omega; simp; rintro e w5 ⟨rfl, hb5⟩; have hh2 := (hb5.cell (p := ⟨b, o + k * 3 + 1, none⟩) (Nat.lt_of_lt_of_le hb'' (Nat.le_trans hb3.size hb4.size))).trans hg2))
          have hB : Below w2.heap.size w2 w5 := (((Below.refl w2.heap.size w2).drew.trans hb3).trans hb4).trans (hb5.mono (Nat.le_trans hb3.size hb4.size))
          have hb5' : b < w5.heap.size := Nat.lt_of_lt_of_le hb'' hB.size
          have hf3 := (hB.cell (p := ⟨b, o + k * 3 + 2, none⟩) hb'').trans he3
          have hu2 := (ht2.below hB).more hB.size
          have hbl5 : Below wr.heap.size wr w5 := hb1.trans ((hb2.trans (hB.mono hb2.size)).mono hb1.size)
          have hbl' := hbl.trans (hbl5.mono hbl.size)
          have hsz : w.heap.size ≤ w5.heap.size := hbl'.size
          clear hb1 hb2 hb3 hb4 hb5 hf2 hg2 hh2 hown3 hown4 hown5 he2 he3 ht1 ht2 hB hbl5 hbl HLL R hpl hlen hl1
          go_wp2_with fail
          refine (copy_bytes _ _ _ _ l2 _ hu2 (Nat.le_refl _) (by omega)).mono ?_
          rintro e w6 ⟨A6, c6, rfl, hown6, hb6⟩
          have hg3 := (hb6.cell (p := ⟨b, o + k * 3 + 2, none⟩) hb5').trans hf3
          have hv2 := (hu2.below hb6).more hb6.size
          obtain ⟨hnc6, hcm6⟩ := own_cap hown6
          have G1 := Lib.hid (get_raw A6 m2 c6 _ l2 w6 (Reads.of_own hown6) (Nat.le_refl _) hl2 (by omega) hnc6 (by omega))
          have G2 := Lib.hid (fun W (h : Reads W w6.heap.size 1 A2 m2 (nums .u8 l2)) => ref_get_raw A2 m2 c2 _ l2 W h hl2 (by omega) hmc2 (by omega))
          have hrl : (getRawR l2).1.length ≤ 5000 := by have h1 := getRawR_len l2; have h2 := own_len hown6; omega
          have hgw := hv2
          generalize getRawR l2 = r at *
          obtain ⟨rl, rn, re⟩ := r
          go_wp2_with fail
          refine Calls.mono G1.out ?_
          rintro e w7 ⟨A7, c7, rfl, hown7, hb7⟩
          have hh3 := (hb7.cell (p := ⟨b, o + k * 3 + 2, none⟩) (Nat.lt_of_lt_of_le hb5' hb6.size)).trans hg3
          go_wp2_with fail
          refine Calls.mono (G2.out _ (hgw.below hb7)) ?_
          rintro e w8 ⟨A8, c8, rfl, hr8, rfl⟩
          go_wp2_with (go_at_call 20; go_in)
          have hr7 := Reads.of_own hown7
          refine (eq_bytes_b _ _ _ _ _ _ _ _ rl rl _ true hr7 hr8 (by omega) (by omega) (by simp)).mono ?_
          rintro e w9 ⟨rfl, hb9⟩
          have hown9 := own_below hown7 hb9
          go_wp2_with fail
          refine (spoil_bytes _ _ _ _ rl _ hown9 (Nat.le_trans hb7.size hb9.size) (by omega)).mono ?_
          rintro e wz ⟨rfl, hbz⟩
          go_wp2
          go_roundw
          case rel =>
            have hz1 := hb6.trans (hb7.mono hb6.size)
            have hz2 := hz1.trans (hb9.mono hz1.size)
            have hz3 := hz2.trans (hbz.mono hb6.size)
            exact ⟨k + 1, by omega, by omega, by go_num, hbl'.trans (hz3.mono hsz)⟩
          case measure => simp [intOf]; omega
        · go_wp2_with fail
          refine (heavy_yes _ _ _ _ _ _ _ _ (by omega)).mono ?_
          rintro e w1 ⟨rfl, hb1⟩
          go_wp2
          go_ret
          exact ⟨rfl, hbl.trans (hb1.mono hbl.size)⟩
      · go_wp2_with (first | (go_at_call 25; refine (wakes_wire _).mono ?_; rintro e w1 ⟨rfl, hb1⟩))
        go_ret
        exact ⟨rfl, hbl.trans (hb1.mono hbl.size)⟩
    · go_wp2_with (first | (go_at_call 25; refine (wakes_wire _).mono ?_; rintro e w1 ⟨rfl, hb1⟩))
      go_ret
      exact ⟨rfl, hbl.trans (hb1.mono hbl.size)⟩
end lawWireRaws
end Go.Proofs.Ytpklgghppmlklaa
