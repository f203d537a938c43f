/- The walk of the law FnvSums. -/
import Derived.Test.YtpklgghppmlklaaFnv
import Derived.Test.YtpklgghppmlklaaBytes
import Derived.Test.YtpklgghppmlklaaOpen
namespace Go.Proofs.Ytpklgghppmlklaa
open Go.RowKit Go.WideShapes Go.ChangeShapes

/-- A slice of thronglaw3.Ask that came in. -/
def Asks3 (w : World) (A : Option Addr) (n : Nat) : Prop := ∀ i, i < n → ∃ (b o : Nat) (s k : Int) (A' : Option Addr) (m c : Nat) (l : List Int),
  A = some ⟨b, o, none⟩ ∧ b < w.heap.size ∧ w.cell? ⟨b, o + i * 3, none⟩ = some (.int .u64 s) ∧ w.cell? ⟨b, o + i * 3 + 1, none⟩ = some (.slice A' m c) ∧ w.cell? ⟨b, o + i * 3 + 2, none⟩ = some (.int .i64 k) ∧
  Reads w w.heap.size 1 A' m (nums .u8 l) ∧ IsBytes l ∧ (0 ≤ s ∧ s ≤ 18446744073709551615) ∧ (-9223372036854775808 ≤ k ∧ k ≤ 9223372036854775807) ∧ m ≤ c ∧ c ≤ maxLen

theorem Asks3.below {w w' : World} {A : Option Addr} {n : Nat} (h : Asks3 w A n) (hb : Below w.heap.size w w') : Asks3 w' A n := fun i hi => by
  obtain ⟨b, o, s, k, A', m, c, l, h1, h2, h3, h4, h5, h6, h7⟩ := h i hi
  exact ⟨b, o, s, k, A', m, c, l, h1, Nat.lt_of_lt_of_le h2 hb.size, (hb.cell h2).trans h3, (hb.cell h2).trans h4, (hb.cell h2).trans h5, (h6.below hb).more hb.size, h7⟩

theorem open_asks3 {H : Type} {enc : TypeId × Value → H} {w : World} {base : Nat} {v : Value} {d : DataW H} {p : List MemPlace} (hv : Value.okWide Try.prog w .any base 22 v)
    (ht : DataW.Trod enc Try.prog w 0 (fun _ => true) true 22 v d p) : ∃ A n c, v = .slice A n c ∧ n ≤ c ∧ c ≤ maxLen ∧ Asks3 w A n := by
  obtain ⟨A, n, c, rfl⟩ := okWide_slice Try.underlying22 hv
  obtain ⟨fuel, hf⟩ := ht
  obtain ⟨A1, n1, c1, he, hl, hm, hi⟩ := open_rows Try.underlying22 hf
  simp [Value.cells] at he
  obtain ⟨rfl, rfl, rfl⟩ := he
  refine ⟨A, n, c, rfl, hl, hm, fun i hlt => ?_⟩
  have hC : Try.prog.cellsOf 26 = 3 := by kernel_rfl
  obtain ⟨b, o, u1, m1, y1, e1, hb, hc1, ht1⟩ := hi i hlt 0 23 (Leaf.field Try.underlying26 0 _ rfl (of_decide_eq_true (by kernel_rfl))) (by kernel_rfl)
  obtain ⟨b2, o2, u2, m2, y2, e2, _, hc2, ht2⟩ := hi i hlt 1 24 (Leaf.field Try.underlying26 1 _ rfl (of_decide_eq_true (by kernel_rfl))) (by kernel_rfl)
  obtain ⟨b3, o3, u3, m3, y3, e3, _, hc3, ht3⟩ := hi i hlt 2 3 (Leaf.field Try.underlying26 2 _ rfl (of_decide_eq_true (by kernel_rfl))) (by kernel_rfl)
  subst e1
  simp only [Option.some.injEq, Addr.mk.injEq, and_true] at e2 e3
  obtain ⟨rfl, rfl⟩ := e2
  obtain ⟨rfl, rfl⟩ := e3
  rw [hC] at hc1 hc2 hc3
  obtain ⟨s, h1, w1⟩ := open_num Try.underlying23 ht1
  obtain ⟨A', m, c', l, h2, hl2, hm2, hr2, w2⟩ := open_nums Try.underlying24 Try.underlying5 (by kernel_rfl) ht2
  obtain ⟨k, h3, w3⟩ := open_num Try.underlying3 ht3
  simp only [List.cons.injEq, and_true] at h1 h2 h3
  subst h1; subst h2; subst h3
  exact ⟨b, o, s, k, A', m, c', l, rfl, hb, hc1, by rw [Nat.add_assoc]; exact hc2, by rw [Nat.add_assoc]; exact hc3, hr2, bytes_of_wf w2, u64_of_wf w1, i64_of_wf w3, hl2, hm2⟩

namespace lawFnvSums
set_option maxHeartbeats 800000 in
theorem walk {H : Type} {enc : TypeId × Value → H} (w : World) {base : Nat} (v : Value) (d : DataW H) (p : List MemPlace) (hv : Value.okWide Try.prog w .any base 22 v)
    (ht : DataW.Trod enc Try.prog w 0 (fun _ => true) true 22 v d p) : Calls Try.prog 3 #[v] w fun e w' => e = .returned (.bool true) ∧ Below w.heap.size w w' := by
  obtain ⟨A, n, c, rfl, hnc, hcm, ha⟩ := open_asks3 hv ht
  unfold maxLen at hcm
  clear hv ht
  go_enter Try.func3, Try.ntmps3
  go_wp2
  go_loopw [3] (fun i wr => ∃ (k : Nat), k ≤ n ∧ k ≤ 20 ∧ i = .int .i64 k ∧ Below w.heap.size w wr) (fun i _ => n - (intOf i).toNat)
  case atStart => exact ⟨0, Nat.zero_le _, by omega, rfl, Below.refl _ _⟩
  case round =>
    obtain ⟨k, hk, hk20, rfl, hbl⟩ := hrel
    by_cases hlt : k < n
    · by_cases h20 : k < 20
      · obtain ⟨b, o, s, kk, A', m, c', l, rfl, hb, hc1, hc2, hc3, hr, hl, hs, hkk, hmc, hcm'⟩ := ha.below hbl k hlt
        by_cases hm : m ≤ 5000
        · go_wp2_with fail
          refine (copy_bytes A' m c' wr.heap.size l wr hr (Nat.le_refl _) (by omega)).mono ?_
          rintro e w1 ⟨A2, c2, rfl, hown, hb1⟩
          have hr2 := Reads.of_own hown
          have hr' := hr.below hb1
          have hc1' := (hb1.cell (p := ⟨b, o + k * 3, none⟩) hb).trans hc1
          have hc2' := (hb1.cell (p := ⟨b, o + k * 3 + 1, none⟩) hb).trans hc2
          have hbl1 := hbl.trans (hb1.mono hbl.size)
          clear hc1 hc2 hc3 hown hr
          go_wp2_with fail
          go_quiet (first | (go_at_call 13; exact quiet_of_same2 (fnv_sum _ _ _ _ _ _ _ (hr2.drewN _) hl (by unfold maxLen; omega))) | (go_at_call 14; exact quiet_of_same2 (ref_sum _ _ _ _ _ _ _ (hr'.drewN _) hl (by unfold maxLen; omega))) | (go_at_call 15; exact Calls.quiet_of (eq_bytes _ _ _ _ _ _ _ _ _ _ _ (hr2.drewN _) (hr'.drewN _) (by omega) (by omega))))
          go_wp2
          go_roundw
          case rel => exact ⟨k + 1, by omega, by omega, by go_num, below_drewN hbl1 _⟩
          case measure => simp [intOf]; omega
        · go_wp2
          go_ret
          exact ⟨rfl, hbl⟩
      · go_wp2_with (first | (go_at_call 16; go_in) | (go_at_call 17; refine (wakes_fnv _).mono ?_; rintro e w1 ⟨rfl, hb1⟩))
        go_ret
        exact ⟨rfl, hbl.trans (hb1.mono hbl.size)⟩
    · go_wp2_with (first | (go_at_call 16; go_in) | (go_at_call 17; refine (wakes_fnv _).mono ?_; rintro e w1 ⟨rfl, hb1⟩))
      go_ret
      exact ⟨rfl, hbl.trans (hb1.mono hbl.size)⟩
end lawFnvSums
end Go.Proofs.Ytpklgghppmlklaa
