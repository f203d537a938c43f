/- The walk of the law FixedSums. -/
import Derived.Test.YtpkdkkbmmkhhhaaFixLaw
namespace Go.Proofs.Ytpkdkkbmmkhhhaa
open Go.RowKit Go.WideShapes Go.ChangeShapes

namespace lawFixedSums
set_option maxHeartbeats 1600000 in
set_option maxRecDepth 100000 in
theorem walk {H : Type} {enc : TypeId × Value → H} (w : World) {base : Nat} (v : Value) (d : DataW H) (p : List MemPlace) (hv : Value.okWide Try.prog w .any base 31 v)
    (ht : DataW.Trod enc Try.prog w 0 (fun _ => true) true 31 v d p) : Calls Try.prog 10 #[v] w fun e w' => e = .returned (.bool true) ∧ Below w.heap.size w w' := by
  obtain ⟨A, n, c, rfl, hnc, hcm, ha⟩ := open_asks1 hv ht
  unfold maxLen at hcm
  clear hv ht
  go_enter Try.func10, Try.ntmps10
  go_wp2
  go_loopw [3] (fun i wr => ∃ (k : Nat), k ≤ n ∧ k ≤ 30 ∧ i = .int .i64 k ∧ Below w.heap.size w wr) (fun i _ => n - (intOf i).toNat)
  case atStart => exact ⟨0, Nat.zero_le _, by omega, rfl, Below.refl _ _⟩
  case round =>
    obtain ⟨k, hk, hk20, rfl, hbl⟩ := hrel
    by_cases hlt : k < n
    · by_cases h20 : k < 30
      · obtain ⟨b, o, x, y, z, rfl, hb, hc1, hc2, hc3, ⟨hx0, hx1⟩, ⟨hy0, hy1⟩, ⟨hz0, hz1⟩⟩ := ha.below hbl k hlt
        clear ha hc3 hz0 hz1
        go_wp2_with fail
        go_quiet (fail)
        have C1 := Lib.hid (fun W => fix_add x y W hx1 hy1)
        have C2 := Lib.hid (fun W => ref_add x y W hx1 hy1)
        have C3 := Lib.hid (fun W => fix_sub x y W hx1 hy1)
        have C4 := Lib.hid (fun W => ref_sub x y W hx1 hy1)
        have C5 := Lib.hid (fun W => fix_neg x W hx1)
        have C6 := Lib.hid (fun W => ref_neg x W hx1)
        go_wp2_with (first | (go_at_call 35; refine Calls.mono (C1.out _) ?_; rintro e w1 ⟨rfl, rfl⟩) | (go_at_call 36; refine Calls.mono (C2.out _) ?_; rintro e w1 ⟨rfl, rfl⟩) | (go_at_call 37; refine Calls.mono (C3.out _) ?_; rintro e w1 ⟨rfl, rfl⟩) | (go_at_call 38; refine Calls.mono (C4.out _) ?_; rintro e w1 ⟨rfl, rfl⟩) | (go_at_call 39; refine Calls.mono (C5.out _) ?_; rintro e w1 ⟨rfl, rfl⟩) | (go_at_call 40; refine Calls.mono (C6.out _) ?_; rintro e w1 ⟨rfl, rfl⟩))
        go_roundw
        case rel => exact ⟨k + 1, by omega, by omega, by go_num, below_drewN hbl _⟩
        case measure => simp [intOf]; omega
      · go_wp2_with (first | (go_at_call 28; refine (wakes1 _).mono ?_; rintro e w1 ⟨rfl, hb1⟩))
        go_ret
        exact ⟨rfl, hbl.trans (hb1.mono hbl.size)⟩
    · go_wp2_with (first | (go_at_call 28; refine (wakes1 _).mono ?_; rintro e w1 ⟨rfl, hb1⟩))
      go_ret
      exact ⟨rfl, hbl.trans (hb1.mono hbl.size)⟩
end lawFixedSums
end Go.Proofs.Ytpkdkkbmmkhhhaa
