/- The walk of the law VecClamps. -/
import Derived.Test.YtpkdkkbmmkhhhaaVecClamp2
import Derived.Test.YtpkdkkbmmkhhhaaVecSquaresWalk
import Derived.Test.YtpkdkkbmmkhhhaaVecScale
namespace Go.Proofs.Ytpkdkkbmmkhhhaa
open Go.RowKit Go.WideShapes Go.ChangeShapes


namespace lawVecClamps
set_option maxHeartbeats 3200000 in
set_option maxRecDepth 100000 in
theorem walk {H : Type} {enc : TypeId × Value → H} (w : World) {base : Nat} (v : Value) (d : DataW H) (p : List MemPlace) (hv : Value.okWide Try.prog w .any base 22 v)
    (ht : DataW.Trod enc Try.prog w 0 (fun _ => true) true 22 v d p) : Calls Try.prog 13 #[v] w fun e w' => e = .returned (.bool true) ∧ Below w.heap.size w w' := by
  obtain ⟨A, n, c, rfl, hnc, hcm, ha⟩ := open_asks2 hv ht
  unfold maxLen at hcm
  clear hv ht
  go_enter Try.func13, Try.ntmps13
  go_wp2
  go_loopw [3] (fun i wr => ∃ (k : Nat), k ≤ n ∧ k ≤ 30 ∧ i = .int .i64 k ∧ Below w.heap.size w wr) (fun i _ => n - (intOf i).toNat)
  case atStart => exact ⟨0, Nat.zero_le _, by omega, rfl, Below.refl _ _⟩
  case round =>
    obtain ⟨k, hk, hk20, rfl, hbl⟩ := hrel
    by_cases hlt : k < n
    · by_cases h20 : k < 30
      · obtain ⟨b, o, x, y, p, q, z, rfl, hb, hc1, hc2, hc3, hc4, hc5, ⟨hx0, hx1⟩, ⟨hy0, hy1⟩, ⟨hp0, hp1⟩, ⟨hq0, hq1⟩, ⟨hz0, hz1⟩⟩ := ha.below hbl k hlt
        clear ha
        have M1 := Lib.hid (fun u => calls_over (x := u) (vec_clamp x y z (over wr u) hx1 hy1 hz1))
        have M2 := Lib.hid (fun u => calls_over (x := u) (ref_clamp x y z (over wr u) hx1 hy1 hz1))
        generalize (clampV x y z).1 = r1 at *
        generalize (clampV x y z).2 = r2 at *
        go_wp2_with fail
        refine wp_region_over (by kernel_rfl) (by kernel_rfl) ?_
        repeat (go_big_quiet_step (first | (go_at_call 50; with_reducible exact M1.out _) | (go_at_call 51; with_reducible exact M2.out _)))
        refine wpQuiet_nil ?_
        rintro wq ⟨xq, rfl⟩
        have hq := over_below wr xq
        generalize over wr xq = wq at *
        go_wp2
        go_roundw
        case rel => exact ⟨k + 1, by omega, by omega, by go_num, hbl.trans (hq.mono hbl.size)⟩
        case measure => simp [intOf]; omega
      · go_wp2_with fail
        refine Calls.mono (wakes2 _) ?_
        rintro e w3 ⟨rfl, hb3⟩
        go_wp2
        go_ret
        exact ⟨rfl, hbl.trans (hb3.mono hbl.size)⟩
    · go_wp2_with fail
      refine Calls.mono (wakes2 _) ?_
      rintro e w3 ⟨rfl, hb3⟩
      go_wp2
      go_ret
      exact ⟨rfl, hbl.trans (hb3.mono hbl.size)⟩
end lawVecClamps
end Go.Proofs.Ytpkdkkbmmkhhhaa
