/- The walk of the law FixedQuotients. -/
import Derived.Test.YtpkdkkbmmkhhhaaRefDiv
namespace Go.Proofs.Ytpkdkkbmmkhhhaa
open Go.RowKit Go.WideShapes Go.ChangeShapes


namespace lawFixedQuotients
set_option maxHeartbeats 3200000 in
set_option maxRecDepth 100000 in
theorem walk {H : Type} {enc : TypeId × Value → H} (w : World) {base : Nat} (v : Value) (d : DataW H) (p : List MemPlace) (hv : Value.okWide Try.prog w .any base 31 v)
    (ht : DataW.Trod enc Try.prog w 0 (fun _ => true) true 31 v d p) : Calls Try.prog 15 #[v] w fun e w' => e = .returned (.bool true) ∧ Below w.heap.size w w' := by
  obtain ⟨A, n, c, rfl, hnc, hcm, ha⟩ := open_asks1 hv ht
  unfold maxLen at hcm
  clear hv ht
  go_enter Try.func15, Try.ntmps15
  go_wp2
  go_loopw [3] (fun i wr => ∃ (k : Nat), k ≤ n ∧ k ≤ 30 ∧ i = .int .i64 k ∧ Below w.heap.size w wr) (fun i _ => n - (intOf i).toNat)
  case atStart => exact ⟨0, Nat.zero_le _, by omega, rfl, Below.refl _ _⟩
  case round =>
    obtain ⟨k, hk, hk20, rfl, hbl⟩ := hrel
    by_cases hlt : k < n
    · by_cases h20 : k < 30
      · obtain ⟨b, o, x, y, z, rfl, hb, hc1, hc2, hc3, ⟨hx0, hx1⟩, ⟨hy0, hy1⟩, ⟨hz0, hz1⟩⟩ := ha.below hbl k hlt
        clear ha
        have M1 := Lib.hid (fun u => calls_over (x := u) (fix_div x y (over wr u) hx1 hy1))
        have M2 := Lib.hid (fun u => calls_over (x := u) (ref_div x y (over wr u) hx1 hy1))
        have M3 := Lib.hid (fun u => calls_over (x := u) (fix_div x 0 (over wr u) hx1 (by omega)))
        have M4 := Lib.hid (fun u => calls_over (x := u) (ref_div x 0 (over wr u) hx1 (by omega)))
        generalize fdiv x y = r1 at *
        generalize fdiv x 0 = r2 at *
        clear hc3 hz0 hz1
        go_wp2_with fail
        refine wp_region_over (by kernel_rfl) (by kernel_rfl) ?_
        repeat (go_big_quiet_step (first | (go_at_call 52; with_reducible (first | exact M1.out _ | exact M3.out _)) | (go_at_call 53; with_reducible (first | exact M2.out _ | exact M4.out _))))
        refine wpQuiet_nil ?_
        rintro wq ⟨xq, rfl⟩
        have hq := over_below wr xq
        generalize over wr xq = wq at *
        go_wp2
        go_roundw
        case rel => exact ⟨k + 1, by omega, by omega, by go_num, hbl.trans (hq.mono hbl.size)⟩
        case measure => simp [intOf]; omega
      · go_wp2_with (first | (go_at_call 28; refine (wakes1 _).mono ?_; rintro e w1 ⟨rfl, hb1⟩))
        go_ret
        exact ⟨rfl, hbl.trans (hb1.mono hbl.size)⟩
    · go_wp2_with (first | (go_at_call 28; refine (wakes1 _).mono ?_; rintro e w1 ⟨rfl, hb1⟩))
      go_ret
      exact ⟨rfl, hbl.trans (hb1.mono hbl.size)⟩
end lawFixedQuotients
end Go.Proofs.Ytpkdkkbmmkhhhaa
