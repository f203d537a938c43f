/- The walk of the law WireReads. -/
import Derived.Test.YtpklgghppmlklaaWireNums
namespace Go.Proofs.Ytpklgghppmlklaa
open Go.RowKit Go.WideShapes Go.ChangeShapes

theorem heavy_no (x : Int) (A1 A2 : Option Addr) (m1 c1 m2 c2 : Nat) (w : World) (h1 : m1 ≤ 5000) (h2 : m2 ≤ 5000) :
    Calls Try.prog 26 #[.agg #[.int .i64 x, .slice A1 m1 c1, .slice A2 m2 c2]] w fun e w' => e = .returned (.bool false) ∧ Below w.heap.size w w' := by
  have d1 : decide ((5000 : Int) < (m1 : Int)) = false := by simp; omega
  have d2 : decide ((5000 : Int) < (m2 : Int)) = false := by simp; omega
  go_enter Try.func26, Try.ntmps26
  go_wp2
  go_ret
  exact ⟨rfl, (Below.refl _ _).alloc (Nat.le_refl _) _⟩
theorem heavy_yes (x : Int) (A1 A2 : Option Addr) (m1 c1 m2 c2 : Nat) (w : World) (h : 5000 < m1 ∨ 5000 < m2) :
    Calls Try.prog 26 #[.agg #[.int .i64 x, .slice A1 m1 c1, .slice A2 m2 c2]] w fun e w' => e = .returned (.bool true) ∧ Below w.heap.size w w' := by
  by_cases h1 : 5000 < m1
  · clear h
    have d1 : decide ((5000 : Int) < (m1 : Int)) = true := by simp; omega
    go_enter Try.func26, Try.ntmps26
    go_wp2
    go_ret
    exact ⟨rfl, (Below.refl _ _).alloc (Nat.le_refl _) _⟩
  · have h2 : 5000 < m2 := by omega
    have h3 : m1 ≤ 5000 := by omega
    clear h h1
    have d1 : decide ((5000 : Int) < (m1 : Int)) = false := by simp; omega
    have d2 : decide ((5000 : Int) < (m2 : Int)) = true := by simp; omega
    go_enter Try.func26, Try.ntmps26
    go_wp2
    go_ret
    exact ⟨rfl, (Below.refl _ _).alloc (Nat.le_refl _) _⟩

namespace lawWireReads
set_option maxHeartbeats 1600000 in
set_option maxRecDepth 100000 in
theorem walk {H : Type} {enc : TypeId × Value → H} (w : World) {base : Nat} (v : Value) (d : DataW H) (p : List MemPlace) (hv : Value.okWide Try.prog w .any base 35 v)
    (ht : DataW.Trod enc Try.prog w 0 (fun _ => true) true 35 v d p) : Calls Try.prog 8 #[v] w fun e w' => e = .returned (.bool true) ∧ Below w.heap.size w w' := by
  obtain ⟨A, n, c, rfl, hnc, hcm, ha⟩ := open_asks4 hv ht
  unfold maxLen at hcm
  clear hv ht
  go_enter Try.func8, Try.ntmps8
  go_wp2
  go_loopw [3] (fun i wr => ∃ (k : Nat), k ≤ n ∧ k ≤ 15 ∧ i = .int .i64 k ∧ Below w.heap.size w wr) (fun i _ => n - (intOf i).toNat)
  case atStart => exact ⟨0, Nat.zero_le _, by omega, rfl, Below.refl _ _⟩
  case round =>
    obtain ⟨k, hk, hk20, rfl, hbl⟩ := hrel
    by_cases hlt : k < n
    · by_cases h20 : k < 15
      · obtain ⟨b, o, x, A1, m1, c1, l1, A2, m2, c2, l2, rfl, hb, hc1, hc2, hc3, ⟨hx0, hx1⟩, hr1, hl1, hmc1, hcm1, hr2, hl2, hmc2, hcm2⟩ := ha.below hbl k hlt
        clear hr1 hl1 hmc1 hcm1 hmc2 hcm2 ha hx0 hx1
        by_cases hh : m1 ≤ 5000 ∧ m2 ≤ 5000
        · obtain ⟨hm1, hm2⟩ := hh
          go_wp2_with fail
          refine (heavy_no _ _ _ _ _ _ _ _ hm1 hm2).mono ?_
          rintro e w1 ⟨rfl, hb1⟩
          have hc3' := (hb1.cell (p := ⟨b, o + k * 3 + 2, none⟩) hb).trans hc3
          have hr2' := (hr2.below hb1).more hb1.size
          clear hc1 hc2 hc3
          go_wp2_with fail
          refine (copy_bytes _ _ _ _ l2 _ hr2' (Nat.le_refl _) (by omega)).mono ?_
          rintro e w2 ⟨A3, c3, rfl, hown, hb2⟩
          have hb' : b < w1.heap.size := Nat.lt_of_lt_of_le hb hb1.size
          have hc4 := (hb2.cell (p := ⟨b, o + k * 3 + 2, none⟩) hb').trans hc3'
          have hr4 := hr2'.below hb2
          have hr3 := Reads.of_own hown
          clear hc3'
          rcases get_ok0 hl2 with ⟨g1, g2, hg, hg0, hg1, hg2⟩ | hg | hg
          all_goals
            have hgi := congrArg (fun r : Int × Int × Int => (zag r.1, r.2.1, r.2.2)) hg
            have G1 := Lib.hid ((get_num A3 m2 c3 _ l2 w2 hr3 hl2 (by omega)).mono (gives3 hg))
            have G2 := Lib.hid ((ref_get_num A2 m2 c2 _ l2 w2 hr4 hl2 (by omega)).mono (gives3 hg))
            have G3 := Lib.hid ((get_int A3 m2 c3 _ l2 w2 hr3 hl2 (by omega)).mono (gives3 hgi))
            have G4 := Lib.hid ((ref_get_int A2 m2 c2 _ l2 w2 hr4 hl2 (by omega)).mono (gives3 hgi))
            have G5 := Lib.hid (eq_bytes_b A3 A2 m2 c3 m2 c2 _ _ l2 l2 w2 true hr3 hr4 (by omega) (by omega) (by simp))
            clear hg hgi
            go_wp2_with fail
            refine Calls.mono G1.out ?_
            rintro e w3 ⟨rfl, rfl⟩
            go_wp2_with fail
            refine Calls.mono G2.out ?_
            rintro e w3 ⟨rfl, rfl⟩
            go_wp2_with (go_at_call 20; go_in)
            refine Calls.mono G3.out ?_
            rintro e w3 ⟨rfl, rfl⟩
            go_wp2_with fail
            refine Calls.mono G4.out ?_
            rintro e w3 ⟨rfl, rfl⟩
            go_wp2_with (go_at_call 20; go_in)
            refine Calls.mono G5.out ?_
            rintro e w3 ⟨rfl, hb3⟩
            go_wp2
            go_roundw
            case rel =>
              have h2 := hb1.trans (hb2.mono hb1.size)
              have h3 := h2.trans (hb3.mono h2.size)
              exact ⟨k + 1, by omega, by omega, by go_num, hbl.trans (h3.mono hbl.size)⟩
            case measure => simp [intOf]; omega
        · go_wp2_with fail
          refine (heavy_yes _ _ _ _ _ _ _ _ (by omega)).mono ?_
          rintro e w1 ⟨rfl, hb1⟩
          go_wp2
          go_ret
          exact ⟨rfl, hbl.trans (hb1.mono hbl.size)⟩
      · go_wp2_with (first | (go_at_call 25; refine (wakes_wire _).mono ?_; rintro e w1 ⟨rfl, hb1⟩))
        go_ret
        exact ⟨rfl, hbl.trans (hb1.mono hbl.size)⟩
    · go_wp2_with (first | (go_at_call 25; refine (wakes_wire _).mono ?_; rintro e w1 ⟨rfl, hb1⟩))
      go_ret
      exact ⟨rfl, hbl.trans (hb1.mono hbl.size)⟩
end lawWireReads
end Go.Proofs.Ytpklgghppmlklaa
