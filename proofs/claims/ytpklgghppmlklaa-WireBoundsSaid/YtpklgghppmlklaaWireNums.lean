/- The argument of the laws of layer 4, opened; the walk of the law WireNums. -/
import Derived.Test.YtpklgghppmlklaaWireNum
import Derived.Test.YtpklgghppmlklaaOpen
namespace Go.Proofs.Ytpklgghppmlklaa
open Go.RowKit Go.WideShapes Go.ChangeShapes

/-- A slice of thronglaw4.Ask that came in. -/
def Asks4 (w : World) (A : Option Addr) (n : Nat) : Prop := ∀ i, i < n → ∃ (b o : Nat) (k : Int) (A1 : Option Addr) (m1 c1 : Nat) (l1 : List Int) (A2 : Option Addr) (m2 c2 : Nat) (l2 : List Int),
  A = some ⟨b, o, none⟩ ∧ b < w.heap.size ∧ w.cell? ⟨b, o + i * 3, none⟩ = some (.int .i64 k) ∧ w.cell? ⟨b, o + i * 3 + 1, none⟩ = some (.slice A1 m1 c1) ∧ w.cell? ⟨b, o + i * 3 + 2, none⟩ = some (.slice A2 m2 c2) ∧
  (-9223372036854775808 ≤ k ∧ k ≤ 9223372036854775807) ∧ Reads w w.heap.size 1 A1 m1 (nums .u8 l1) ∧ IsBytes l1 ∧ m1 ≤ c1 ∧ c1 ≤ maxLen ∧ Reads w w.heap.size 1 A2 m2 (nums .u8 l2) ∧ IsBytes l2 ∧ m2 ≤ c2 ∧ c2 ≤ maxLen

theorem Asks4.below {w w' : World} {A : Option Addr} {n : Nat} (h : Asks4 w A n) (hb : Below w.heap.size w w') : Asks4 w' A n := fun i hi => by
  obtain ⟨b, o, k, A1, m1, c1, l1, A2, m2, c2, l2, h1, h2, h3, h4, h5, h6, h7, h8, h9, h10, h11, h12⟩ := h i hi
  exact ⟨b, o, k, A1, m1, c1, l1, A2, m2, c2, l2, h1, Nat.lt_of_lt_of_le h2 hb.size, (hb.cell h2).trans h3, (hb.cell h2).trans h4, (hb.cell h2).trans h5, h6, (h7.below hb).more hb.size, h8, h9, h10, (h11.below hb).more hb.size, h12⟩

theorem open_asks4 {H : Type} {enc : TypeId × Value → H} {w : World} {base : Nat} {v : Value} {d : DataW H} {p : List MemPlace} (hv : Value.okWide Try.prog w .any base 35 v)
    (ht : DataW.Trod enc Try.prog w 0 (fun _ => true) true 35 v d p) : ∃ A n c, v = .slice A n c ∧ n ≤ c ∧ c ≤ maxLen ∧ Asks4 w A n := by
  obtain ⟨A, n, c, rfl⟩ := okWide_slice Try.underlying35 hv
  obtain ⟨fuel, hf⟩ := ht
  obtain ⟨A1, n1, c1, he, hl, hm, hi⟩ := open_rows Try.underlying35 hf
  simp [Value.cells] at he
  obtain ⟨rfl, rfl, rfl⟩ := he
  refine ⟨A, n, c, rfl, hl, hm, fun i hlt => ?_⟩
  have hC : Try.prog.cellsOf 37 = 3 := by kernel_rfl
  obtain ⟨b, o, u1, x1, y1, e1, hb, hc1, ht1⟩ := hi i hlt 0 3 (Leaf.field Try.underlying37 0 _ rfl (of_decide_eq_true (by kernel_rfl))) (by kernel_rfl)
  obtain ⟨b2, o2, u2, x2, y2, e2, _, hc2, ht2⟩ := hi i hlt 1 24 (Leaf.field Try.underlying37 1 _ rfl (of_decide_eq_true (by kernel_rfl))) (by kernel_rfl)
  obtain ⟨b3, o3, u3, x3, y3, e3, _, hc3, ht3⟩ := hi i hlt 2 24 (Leaf.field Try.underlying37 2 _ rfl (of_decide_eq_true (by kernel_rfl))) (by kernel_rfl)
  subst e1
  simp only [Option.some.injEq, Addr.mk.injEq, and_true] at e2 e3
  obtain ⟨rfl, rfl⟩ := e2
  obtain ⟨rfl, rfl⟩ := e3
  rw [hC] at hc1 hc2 hc3
  obtain ⟨k, h1, w1⟩ := open_num Try.underlying3 ht1
  obtain ⟨A1, m1, c1, l1, h2, hl2, hm2, hr2, w2⟩ := open_nums Try.underlying24 Try.underlying5 (by kernel_rfl) ht2
  obtain ⟨A2, m2, c2, l2, h3, hl3, hm3, hr3, w3⟩ := open_nums Try.underlying24 Try.underlying5 (by kernel_rfl) ht3
  simp only [List.cons.injEq, and_true] at h1 h2 h3
  subst h1; subst h2; subst h3
  exact ⟨b, o, k, A1, m1, c1, l1, A2, m2, c2, l2, rfl, hb, hc1, by rw [Nat.add_assoc]; exact hc2, by rw [Nat.add_assoc]; exact hc3, i64_of_wf w1, hr2, bytes_of_wf w2, hl2, hm2, hr3, bytes_of_wf w3, hl3, hm3⟩

theorem numR_neg {n : Int} (h : n < 0) : numR n = ([], 1) := by unfold numR; rw [if_pos h]
theorem numR_pos {n : Int} (h : ¬ n < 0) : numR n = (put n.toNat, 0) := by unfold numR; rw [if_neg h]
theorem intR_in {n : Int} (h : -4611686018427387904 ≤ n) (h' : n < 4611686018427387904) : intR n = (put (zig n), 0) := by unfold intR; rw [if_pos (by simpa [mayInt] using ⟨h, h'⟩)]
theorem intR_out {n : Int} (h : n < -4611686018427387904 ∨ 4611686018427387904 ≤ n) : intR n = ([], 2) := by unfold intR; rw [if_neg (by simp [mayInt]; omega)]
theorem put_len_le {n : Nat} (h : (n : Int) ≤ 9223372036854775807) : (put n).length ≤ 4611686018427387904 := by have := put_nine h; omega

namespace lawWireNums
set_option maxHeartbeats 1600000 in
set_option maxRecDepth 100000 in
theorem walk {H : Type} {enc : TypeId × Value → H} (w : World) {base : Nat} (v : Value) (d : DataW H) (p : List MemPlace) (hv : Value.okWide Try.prog w .any base 35 v)
    (ht : DataW.Trod enc Try.prog w 0 (fun _ => true) true 35 v d p) : Calls Try.prog 6 #[v] w fun e w' => e = .returned (.bool true) ∧ Below w.heap.size w w' := by
  obtain ⟨A, n, c, rfl, hnc, hcm, ha⟩ := open_asks4 hv ht
  unfold maxLen at hcm
  clear hv ht
  go_enter Try.func6, Try.ntmps6
  go_wp2
  go_loopw [3] (fun i wr => ∃ (k : Nat), k ≤ n ∧ k ≤ 15 ∧ i = .int .i64 k ∧ Below w.heap.size w wr) (fun i _ => n - (intOf i).toNat)
  case atStart => exact ⟨0, Nat.zero_le _, by omega, rfl, Below.refl _ _⟩
  case round =>
    obtain ⟨k, hk, hk20, rfl, hbl⟩ := hrel
    by_cases hlt : k < n
    · by_cases h20 : k < 15
      · obtain ⟨b, o, x, A1, m1, c1, l1, A2, m2, c2, l2, rfl, hb, hc1, hc2, hc3, ⟨hx0, hx1⟩, hr1, hl1, hmc1, hcm1, hr2, hl2, hmc2, hcm2⟩ := ha.below hbl k hlt
        clear hc2 hc3 hr1 hl1 hmc1 hcm1 hr2 hl2 hmc2 hcm2 ha
        by_cases hneg : x < 0
        · have C1 := fun W => wire_num x W hx1
          rw [numR_neg hneg] at C1
          have C1 := Lib.hid C1
          by_cases hin : -4611686018427387904 ≤ x
          · have C2 := fun W => wire_int x W hx0 hx1
            rw [intR_in hin (by omega)] at C2
            have C2 := Lib.hid C2
            have hzl := put_len_le (n := zig x) (by have := zig_lt hin (by omega); omega)
            go_wp2_with fail
            refine Calls.mono (C1.out _) ?_
            rintro e w1 ⟨A2, c2, rfl, hown, hb1⟩
            go_wp2_with (go_at_call 20; go_in)
            refine Calls.mono (C2.out _) ?_
            rintro e w2 ⟨A3, c3, rfl, hown3, hb2⟩
            go_wp2_with (first | (go_at_call 20; go_in) | (go_at_call 23; refine (may_int_yes _ _ (by omega) (by omega)).mono ?_; rintro e w3 ⟨rfl, rfl⟩))
            refine (ref_int _ _ (by omega) (by omega)).mono ?_
            rintro e w3 ⟨A4, c4, rfl, hown4, hb3⟩
            go_wp2_with fail
            refine (eq_bytes_b _ _ _ _ _ _ _ _ _ _ _ true ((Reads.of_own hown3).below hb3) (Reads.of_own hown4) hzl hzl (by simp)).mono ?_
            rintro e w4 ⟨rfl, hb4⟩
            go_wp2
            go_roundw
            case rel =>
              have h2 := hb1.trans (hb2.mono hb1.size)
              have h3 := h2.trans (hb3.mono h2.size)
              have h4 := h3.trans (hb4.mono h3.size)
              exact ⟨k + 1, by omega, by omega, by go_num, hbl.trans (h4.mono hbl.size)⟩
            case measure => simp [intOf]; omega
          · have C2 := fun W => wire_int x W hx0 hx1
            rw [intR_out (by omega)] at C2
            have C2 := Lib.hid C2
            go_wp2_with fail
            refine Calls.mono (C1.out _) ?_
            rintro e w1 ⟨A2, c2, rfl, hown, hb1⟩
            go_wp2_with (go_at_call 20; go_in)
            refine Calls.mono (C2.out _) ?_
            rintro e w2 ⟨A3, c3, rfl, hown3, hb2⟩
            go_wp2_with (first | (go_at_call 20; go_in) | (go_at_call 23; refine (may_int_no _ _ (by omega)).mono ?_; rintro e w3 ⟨rfl, rfl⟩))
            go_roundw
            case rel =>
              have h2 := hb1.trans (hb2.mono hb1.size)
              exact ⟨k + 1, by omega, by omega, by go_num, hbl.trans (h2.mono hbl.size)⟩
            case measure => simp [intOf]; omega
        · have hneg' : 0 ≤ x := by omega
          have C1 := fun W => wire_num x W hx1
          rw [numR_pos hneg] at C1
          have C1 := Lib.hid C1
          have hml := put_len_le (n := x.toNat) (by omega)
          by_cases hin : x < 4611686018427387904
          · have C2 := fun W => wire_int x W hx0 hx1
            rw [intR_in (by omega) hin] at C2
            have C2 := Lib.hid C2
            have hzl := put_len_le (n := zig x) (by have := zig_lt (show -4611686018427387904 ≤ x by omega) hin; omega)
            clear hneg
            go_wp2_with fail
            refine Calls.mono (C1.out _) ?_
            rintro e w1 ⟨A2, c2, rfl, hown, hb1⟩
            go_wp2_with (go_at_call 20; go_in)
            refine (ref_num_i _ _ (by omega) (by omega)).mono ?_
            rintro e w1' ⟨A2', c2', rfl, hown', hb1'⟩
            go_wp2_with fail
            refine (eq_bytes_b _ _ _ _ _ _ _ _ _ _ _ true ((Reads.of_own hown).below hb1') (Reads.of_own hown') hml hml (by simp)).mono ?_
            rintro e w1'' ⟨rfl, hb1''⟩
            go_wp2_with fail
            refine Calls.mono (C2.out _) ?_
            rintro e w2 ⟨A3, c3, rfl, hown3, hb2⟩
            go_wp2_with (first | (go_at_call 20; go_in) | (go_at_call 23; refine (may_int_yes _ _ (by omega) (by omega)).mono ?_; rintro e w3 ⟨rfl, rfl⟩))
            refine (ref_int _ _ (by omega) (by omega)).mono ?_
            rintro e w3 ⟨A4, c4, rfl, hown4, hb3⟩
            go_wp2_with fail
            refine (eq_bytes_b _ _ _ _ _ _ _ _ _ _ _ true ((Reads.of_own hown3).below hb3) (Reads.of_own hown4) hzl hzl (by simp)).mono ?_
            rintro e w4 ⟨rfl, hb4⟩
            go_wp2
            go_roundw
            case rel =>
              have h1 := hb1.trans (hb1'.mono hb1.size)
              have h1' := h1.trans (hb1''.mono h1.size)
              have h2 := h1'.trans (hb2.mono h1'.size)
              have h3 := h2.trans (hb3.mono h2.size)
              have h4 := h3.trans (hb4.mono h3.size)
              exact ⟨k + 1, by omega, by omega, by go_num, hbl.trans (h4.mono hbl.size)⟩
            case measure => simp [intOf]; omega
          · have C2 := fun W => wire_int x W hx0 hx1
            rw [intR_out (by omega)] at C2
            have C2 := Lib.hid C2
            clear hneg
            go_wp2_with fail
            refine Calls.mono (C1.out _) ?_
            rintro e w1 ⟨A2, c2, rfl, hown, hb1⟩
            go_wp2_with (go_at_call 20; go_in)
            refine (ref_num_i _ _ (by omega) (by omega)).mono ?_
            rintro e w1' ⟨A2', c2', rfl, hown', hb1'⟩
            go_wp2_with fail
            refine (eq_bytes_b _ _ _ _ _ _ _ _ _ _ _ true ((Reads.of_own hown).below hb1') (Reads.of_own hown') hml hml (by simp)).mono ?_
            rintro e w1'' ⟨rfl, hb1''⟩
            go_wp2_with fail
            refine Calls.mono (C2.out _) ?_
            rintro e w2 ⟨A3, c3, rfl, hown3, hb2⟩
            go_wp2_with (first | (go_at_call 20; go_in) | (go_at_call 23; refine (may_int_no _ _ (by omega)).mono ?_; rintro e w3 ⟨rfl, rfl⟩))
            go_roundw
            case rel =>
              have h1 := hb1.trans (hb1'.mono hb1.size)
              have h1' := h1.trans (hb1''.mono h1.size)
              have h2 := h1'.trans (hb2.mono h1'.size)
              exact ⟨k + 1, by omega, by omega, by go_num, hbl.trans (h2.mono hbl.size)⟩
            case measure => simp [intOf]; omega
      · go_wp2_with (first | (go_at_call 25; refine (wakes_wire _).mono ?_; rintro e w1 ⟨rfl, hb1⟩))
        go_ret
        exact ⟨rfl, hbl.trans (hb1.mono hbl.size)⟩
    · go_wp2_with (first | (go_at_call 25; refine (wakes_wire _).mono ?_; rintro e w1 ⟨rfl, hb1⟩))
      go_ret
      exact ⟨rfl, hbl.trans (hb1.mono hbl.size)⟩
end lawWireNums
end Go.Proofs.Ytpklgghppmlklaa
