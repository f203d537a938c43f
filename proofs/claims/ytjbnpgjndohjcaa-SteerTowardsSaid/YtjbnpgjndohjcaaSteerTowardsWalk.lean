/- The walk of the law SteerTowards. -/
import Derived.Test.YtjbnpgjndohjcaaSteer
namespace Go.Proofs.Ytjbnpgjndohjcaa
set_option maxRecDepth 20000
open Go.RowKit Go.WideShapes Go.ChangeShapes


namespace lawSteerTowards
set_option maxHeartbeats 3200000 in
set_option maxRecDepth 100000 in
theorem walk {H : Type} {enc : TypeId × Value → H} (w : World) {base : Nat} (v : Value) (d : DataW H) (p : List MemPlace) (hv : Value.okWide Try.prog w .any base 44 v)
    (ht : DataW.Trod enc Try.prog w 0 (fun _ => true) true 44 v d p) : Calls Try.prog 6 #[v] w fun e w' => e = .returned (.bool true) ∧ Below w.heap.size w w' := by
  obtain ⟨A, n, c, rfl, hnc, hcm, ha⟩ := open_asks19 hv ht
  unfold maxLen at hcm
  clear hv ht
  go_enter Try.func6, Try.ntmps6
  go_wp2
  go_loopw [3] (fun i wr => ∃ (k : Nat), k ≤ n ∧ k ≤ 20 ∧ i = .int .i64 k ∧ Below w.heap.size w wr) (fun i _ => n - (intOf i).toNat)
  case atStart => exact ⟨0, Nat.zero_le _, by omega, rfl, Below.refl _ _⟩
  case round =>
    obtain ⟨k, hk, hk20, rfl, hbl⟩ := hrel
    by_cases hlt : k < n
    · by_cases h20 : k < 20
      · obtain ⟨b, o, x, y, p, q, z, A1, m1, c1, l1, rfl, hb, hc1, hc2, hc3, hc4, hc5, hc6, ⟨hx0, hx1⟩, ⟨hy0, hy1⟩, ⟨hp0, hp1⟩, ⟨hq0, hq1⟩, ⟨hz0, hz1⟩, hv1, hmc, hcm1⟩ := ha.below hbl k hlt
        clear ha
        clear hv1 hmc hcm1 hc6
        have M1 := Lib.hid (fun u => calls_over (x := u) (steer_toward x y p q z (over wr u) hx1 hy1 hp1 hq1 hz1))
        have M2 := Lib.hid (fun u => calls_over (x := u) (ref_toward x y p q z (over wr u) hx1 hy1 hp1 hq1 hz1))
        generalize (towV x y p q z).1 = r1 at *
        generalize (towV x y p q z).2 = r2 at *
        go_wp2_with fail
        refine wp_region_over (by kernel_rfl) (by kernel_rfl) ?_
        repeat (go_big_quiet_step (first | (go_at_call 24; with_reducible exact M1.out _) | (go_at_call 25; with_reducible exact M2.out _)))
        refine wpQuiet_nil ?_
        rintro wq ⟨xq, rfl⟩
        have hq := over_below wr xq
        generalize over wr xq = wq at *
        go_wp2
        go_roundw
        case rel => exact ⟨k + 1, by omega, by omega, by go_num, hbl.trans (hq.mono hbl.size)⟩
        case measure => simp [intOf]; omega
      · go_wp2_with fail
        refine Calls.mono (wakes19 _) ?_
        rintro e w3 ⟨rfl, hb3⟩
        go_wp2
        go_ret
        exact ⟨rfl, hbl.trans (hb3.mono hbl.size)⟩
    · go_wp2_with fail
      refine Calls.mono (wakes19 _) ?_
      rintro e w3 ⟨rfl, hb3⟩
      go_wp2
      go_ret
      exact ⟨rfl, hbl.trans (hb3.mono hbl.size)⟩
end lawSteerTowards
end Go.Proofs.Ytjbnpgjndohjcaa
