/- The walk of the law WireSigns. -/
import Derived.Test.YtpklgghppmlklaaWireNums
namespace Go.Proofs.Ytpklgghppmlklaa
open Go.RowKit Go.WideShapes Go.ChangeShapes

namespace lawWireSigns
set_option maxHeartbeats 1600000 in
set_option maxRecDepth 100000 in
theorem walk {H : Type} {enc : TypeId × Value → H} (w : World) {base : Nat} (v : Value) (d : DataW H) (p : List MemPlace) (hv : Value.okWide Try.prog w .any base 35 v)
    (ht : DataW.Trod enc Try.prog w 0 (fun _ => true) true 35 v d p) : Calls Try.prog 7 #[v] w fun e w' => e = .returned (.bool true) ∧ Below w.heap.size w w' := by
  obtain ⟨A, n, c, rfl, hnc, hcm, ha⟩ := open_asks4 hv ht
  unfold maxLen at hcm
  clear hv ht
  go_enter Try.func7, Try.ntmps7
  go_wp2
  go_loopw [3] (fun i wr => ∃ (k : Nat), k ≤ n ∧ k ≤ 15 ∧ i = .int .i64 k ∧ Below w.heap.size w wr) (fun i _ => n - (intOf i).toNat)
  case atStart => exact ⟨0, Nat.zero_le _, by omega, rfl, Below.refl _ _⟩
  case round =>
    obtain ⟨k, hk, hk20, rfl, hbl⟩ := hrel
    by_cases hlt : k + 1 < n
    · by_cases h20 : k < 15
      · obtain ⟨b, o, x, A1, m1, c1, l1, A2, m2, c2, l2, hA, hb, hc1, hc2, hc3, ⟨hx0, hx1⟩, hr1, hl1, hmc1, hcm1, hr2, hl2, hmc2, hcm2⟩ := ha.below hbl k (by omega)
        obtain ⟨b', o', y, A1', m1', c1', l1', A2', m2', c2', l2', hA', hb', hd1, hd2, hd3, ⟨hy0, hy1⟩, _⟩ := ha.below hbl (k + 1) hlt
        subst hA
        simp only [Option.some.injEq, Addr.mk.injEq, and_true] at hA'
        obtain ⟨rfl, rfl⟩ := hA'
        clear hc2 hc3 hr1 hl1 hmc1 hcm1 hr2 hl2 hmc2 hcm2 ha hd2 hd3 hb'
        have hi1 : (0 : Int) ≤ (k : Int) + 1 := by omega
        have hi2 : (k : Int) + 1 < (n : Int) := by omega
        by_cases hin : -4611686018427387904 ≤ x ∧ x < 4611686018427387904
        · have C1 := fun W => wire_int x W hx0 hx1
          rw [intR_in hin.1 hin.2] at C1
          have C1 := Lib.hid C1
          by_cases hin2 : -4611686018427387904 ≤ y ∧ y < 4611686018427387904
          · have C2 := fun W => wire_int y W hy0 hy1
            rw [intR_in hin2.1 hin2.2] at C2
            have C2 := Lib.hid C2
            have hza := put_len_le (n := zig x) (by have := zig_lt hin.1 hin.2; omega)
            have hzb := put_len_le (n := zig y) (by have := zig_lt hin2.1 hin2.2; omega)
            have HE := Lib.hid (put_eq_iff x y)
            have HP := Lib.hid (put_pos (zig x))
            obtain ⟨c0, lt, hput, hpar⟩ := put_head (zig x)
            rw [zig_odd] at hpar
            have hcb := put_bytes (zig x) c0 (by rw [hput]; exact List.mem_cons_self ..)
            have hl0 : (((put (zig x)).length : Int) == 0) = false := by rw [beq_eq_false_iff_ne]; have := put_pos (zig x); omega
            have hl1 : (0 : Int) < ((put (zig x)).length : Int) := by have := put_pos (zig x); omega
            have HPUT := Lib.hid hput
            clear hput
            by_cases hneg : x < 0
            · have hodd : (c0 % 2 == 1) = true := by rw [beq_iff_eq, hpar, if_pos hneg]
              have C3 := fun W => wire_num 0 W (by omega)
              rw [numR_pos (by omega), Int.toNat_zero] at C3
              have hlen : decide ((put (zig x)).length < (put 0).length) = false := by
                have := put_len_mono (n := 0) (m := zig x) (Nat.zero_le _)
                simp only [decide_eq_false_iff_not]; omega
              have C3 := Lib.hid C3
              clear hin hin2 hpar
              go_wp2_with fail
              refine Calls.mono (C1.out _) ?_
              rintro e w1 ⟨A2, c2, rfl, hown, hb1⟩
              have hd1' := (hb1.cell (p := ⟨b, o + (k + 1) * 3, none⟩) hb).trans hd1
              have hc1' := (hb1.cell (p := ⟨b, o + k * 3, none⟩) hb).trans hc1
              have hbs1 : b < w1.heap.size := Nat.lt_of_lt_of_le hb hb1.size
              clear hd1 hc1
              go_wp2_with fail
              refine Calls.mono (C2.out _) ?_
              rintro e w2 ⟨A3, c3, rfl, hown3, hb2⟩
              have hd2 := (hb2.cell (p := ⟨b, o + (k + 1) * 3, none⟩) hbs1).trans hd1'
              have hc2 := (hb2.cell (p := ⟨b, o + k * 3, none⟩) hbs1).trans hc1'
              have hr1 := (Reads.of_own hown).below hb2
              have hr2 := Reads.of_own hown3
              have hown2 := own_below hown hb2
              have hfirst : ∃ g, A2 = some ⟨g, 0, none⟩ ∧ w1.heap.size ≥ 0 ∧ g < w2.heap.size ∧ w2.cell? ⟨g, 0, none⟩ = some (.int .u8 c0) := by
                have h := hown2
                rw [HPUT.out] at h
                obtain ⟨g, h1, h2, h3, h4⟩ := own_first h
                exact ⟨g, h1, Nat.zero_le _, h3, h4⟩
              obtain ⟨g, rfl, _, hg, hcg⟩ := hfirst
              clear hd1' hc1' hown hown2 hown3
              go_wp2_with (go_at_call 20; go_in)
              go_quiet (first | (go_at_call 15; exact Calls.quiet_of (eq_bytes_q _ _ _ _ _ _ _ _ _ _ _ _ (hr1.drewN _) (hr2.drewN _) hza hzb HE.out)))
              go_wp2_with fail
              refine Calls.mono (C3.out _) ?_
              rintro e w3 ⟨A4, c4, rfl, hown4, hb3⟩
              go_wp2_with (go_at_call 20; go_in)
              go_roundw
              case rel =>
                have h2 := hb1.trans (hb2.mono hb1.size)
                have h3 := (below_drewN h2 nq).trans (hb3.mono h2.size)
                exact ⟨k + 1, by omega, by omega, by go_num, hbl.trans (h3.mono hbl.size)⟩
              case measure => simp [intOf]; omega
            · have hneg' : 0 ≤ x := by omega
              have hdec : decide (x < 0) = false := by simpa using hneg
              have hodd : (c0 % 2 == 1) = false := by rw [beq_eq_false_iff_ne, hpar, if_neg hneg]; omega
              have C3 := fun W => wire_num x W hx1
              rw [numR_pos hneg] at C3
              have hlen : decide ((put (zig x)).length < (put x.toNat).length) = false := by
                have := put_len_mono (n := x.toNat) (m := zig x) (by unfold zig; rw [if_neg hneg]; omega)
                simp only [decide_eq_false_iff_not]; omega
              have C3 := Lib.hid C3
              clear hin hin2 hpar
              go_wp2_with fail
              refine Calls.mono (C1.out _) ?_
              rintro e w1 ⟨A2, c2, rfl, hown, hb1⟩
              have hd1' := (hb1.cell (p := ⟨b, o + (k + 1) * 3, none⟩) hb).trans hd1
              have hc1' := (hb1.cell (p := ⟨b, o + k * 3, none⟩) hb).trans hc1
              have hbs1 : b < w1.heap.size := Nat.lt_of_lt_of_le hb hb1.size
              clear hd1 hc1
              go_wp2_with fail
              refine Calls.mono (C2.out _) ?_
              rintro e w2 ⟨A3, c3, rfl, hown3, hb2⟩
              have hd2 := (hb2.cell (p := ⟨b, o + (k + 1) * 3, none⟩) hbs1).trans hd1'
              have hc2 := (hb2.cell (p := ⟨b, o + k * 3, none⟩) hbs1).trans hc1'
              have hr1 := (Reads.of_own hown).below hb2
              have hr2 := Reads.of_own hown3
              have hown2 := own_below hown hb2
              have hfirst : ∃ g, A2 = some ⟨g, 0, none⟩ ∧ w1.heap.size ≥ 0 ∧ g < w2.heap.size ∧ w2.cell? ⟨g, 0, none⟩ = some (.int .u8 c0) := by
                have h := hown2
                rw [HPUT.out] at h
                obtain ⟨g, h1, h2, h3, h4⟩ := own_first h
                exact ⟨g, h1, Nat.zero_le _, h3, h4⟩
              obtain ⟨g, rfl, _, hg, hcg⟩ := hfirst
              clear hd1' hc1' hown hown2 hown3
              go_wp2_with (go_at_call 20; go_in)
              go_quiet (first | (go_at_call 15; exact Calls.quiet_of (eq_bytes_q _ _ _ _ _ _ _ _ _ _ _ _ (hr1.drewN _) (hr2.drewN _) hza hzb HE.out)))
              go_wp2_with fail
              refine Calls.mono (C3.out _) ?_
              rintro e w3 ⟨A4, c4, rfl, hown4, hb3⟩
              go_wp2_with (go_at_call 20; go_in)
              go_roundw
              case rel =>
                have h2 := hb1.trans (hb2.mono hb1.size)
                have h3 := (below_drewN h2 nq).trans (hb3.mono h2.size)
                exact ⟨k + 1, by omega, by omega, by go_num, hbl.trans (h3.mono hbl.size)⟩
              case measure => simp [intOf]; omega
          · have C2 := fun W => wire_int y W hy0 hy1
            rw [intR_out (by omega)] at C2
            have C2 := Lib.hid C2
            clear hin hin2
            go_wp2_with fail
            refine Calls.mono (C1.out _) ?_
            rintro e w1 ⟨A2, c2, rfl, hown, hb1⟩
            have hd1' := (hb1.cell (p := ⟨b, o + (k + 1) * 3, none⟩) hb).trans hd1
            go_wp2_with fail
            refine Calls.mono (C2.out _) ?_
            rintro e w2 ⟨A3, c3, rfl, hown3, hb2⟩
            go_wp2_with (go_at_call 20; go_in)
            go_roundw
            case rel =>
              have h2 := hb1.trans (hb2.mono hb1.size)
              exact ⟨k + 1, by omega, by omega, by go_num, hbl.trans (h2.mono hbl.size)⟩
            case measure => simp [intOf]; omega
        · have C1 := fun W => wire_int x W hx0 hx1
          rw [intR_out (by omega)] at C1
          have C1 := Lib.hid C1
          have C2 := Lib.hid (fun W => wire_int y W hy0 hy1)
          clear hin
          go_wp2_with fail
          refine Calls.mono (C1.out _) ?_
          rintro e w1 ⟨A2, c2, rfl, hown, hb1⟩
          have hd1' := (hb1.cell (p := ⟨b, o + (k + 1) * 3, none⟩) hb).trans hd1
          go_wp2_with fail
          refine Calls.mono (C2.out _) ?_
          rintro e w2 ⟨A3, c3, rfl, hown3, hb2⟩
          go_wp2_with (go_at_call 20; go_in)
          go_roundw
          case rel =>
            have h2 := hb1.trans (hb2.mono hb1.size)
            exact ⟨k + 1, by omega, by omega, by go_num, hbl.trans (h2.mono hbl.size)⟩
          case measure => simp [intOf]; omega
      · go_wp2_with (first | (go_at_call 25; refine (wakes_wire _).mono ?_; rintro e w1 ⟨rfl, hb1⟩))
        go_ret
        exact ⟨rfl, hbl.trans (hb1.mono hbl.size)⟩
    · go_wp2_with (first | (go_at_call 25; refine (wakes_wire _).mono ?_; rintro e w1 ⟨rfl, hb1⟩))
      go_ret
      exact ⟨rfl, hbl.trans (hb1.mono hbl.size)⟩
end lawWireSigns
end Go.Proofs.Ytpklgghppmlklaa
