/- The walk of the law SteerCoheres. -/
import Derived.Test.YtjbnpgjndohjcaaCohere
namespace Go.Proofs.Ytjbnpgjndohjcaa
set_option maxRecDepth 20000
open Go.RowKit Go.WideShapes Go.ChangeShapes

theorem heavy19_no (x y p q z : Int) (A : Option Addr) (m c : Nat) (w : World) (h1 : m ≤ 100) :
    Calls Try.prog 27 #[.agg #[.int .i64 x, .int .i64 y, .int .i64 p, .int .i64 q, .int .i64 z, .slice A m c]] w fun e w' => e = .returned (.bool false) ∧ Below w.heap.size w w' := by
  have d1 : decide ((100 : Int) < (m : Int)) = false := by simp; omega
  go_enter Try.func27, Try.ntmps27
  go_wp2
  go_ret
  exact ⟨rfl, (Below.refl _ _).alloc (Nat.le_refl _) _⟩
theorem heavy19_yes (x y p q z : Int) (A : Option Addr) (m c : Nat) (w : World) (h1 : 100 < m) :
    Calls Try.prog 27 #[.agg #[.int .i64 x, .int .i64 y, .int .i64 p, .int .i64 q, .int .i64 z, .slice A m c]] w fun e w' => e = .returned (.bool true) ∧ Below w.heap.size w w' := by
  have d1 : decide ((100 : Int) < (m : Int)) = true := by simp; omega
  go_enter Try.func27, Try.ntmps27
  go_wp2
  go_ret
  exact ⟨rfl, (Below.refl _ _).alloc (Nat.le_refl _) _⟩

namespace lawSteerCoheres
set_option maxHeartbeats 3200000 in
set_option maxRecDepth 100000 in
theorem walk {H : Type} {enc : TypeId × Value → H} (w : World) {base : Nat} (v : Value) (d : DataW H) (p : List MemPlace) (hv : Value.okWide Try.prog w .any base 44 v)
    (ht : DataW.Trod enc Try.prog w 0 (fun _ => true) true 44 v d p) : Calls Try.prog 7 #[v] w fun e w' => e = .returned (.bool true) ∧ Below w.heap.size w w' := by
  obtain ⟨A, n, c, rfl, hnc, hcm, ha⟩ := open_asks19 hv ht
  unfold maxLen at hcm
  clear hv ht
  go_enter Try.func7, Try.ntmps7
  go_wp2
  go_loopw [3] (fun i wr => ∃ (k : Nat), k ≤ n ∧ k ≤ 20 ∧ i = .int .i64 k ∧ Below w.heap.size w wr) (fun i _ => n - (intOf i).toNat)
  case atStart => exact ⟨0, Nat.zero_le _, by omega, rfl, Below.refl _ _⟩
  case round =>
    obtain ⟨k, hk, hk20, rfl, hbl⟩ := hrel
    by_cases hlt : k < n
    · by_cases h20 : k < 20
      · obtain ⟨b, o, x, y, p, q, z, A1, m1, c1, l1, rfl, hb, hc1, hc2, hc3, hc4, hc5, hc6, ⟨hx0, hx1⟩, ⟨hy0, hy1⟩, ⟨hp0, hp1⟩, ⟨hq0, hq1⟩, ⟨hz0, hz1⟩, hv1, hmc, hcm1⟩ := ha.below hbl k hlt
        clear ha
        unfold maxLen at hcm1
        by_cases hm1 : m1 ≤ 100
        · go_wp2_with fail
          refine Calls.mono (heavy19_no _ _ _ _ _ _ _ _ _ hm1) ?_
          rintro e w1 ⟨rfl, hb1⟩
          have hb' : b < w1.heap.size := Nat.lt_of_lt_of_le hb hb1.size
          have hd1 := (hb1.cell (p := ⟨b, o + k * 6, none⟩) hb).trans hc1
          have hd2 := (hb1.cell (p := ⟨b, o + k * 6 + 1, none⟩) hb).trans hc2
          have hd5 := (hb1.cell (p := ⟨b, o + k * 6 + 4, none⟩) hb).trans hc5
          have hd6 := (hb1.cell (p := ⟨b, o + k * 6 + 5, none⟩) hb).trans hc6
          have hv1 := hv1.below hb1
          have hbl1 := hbl.trans (hb1.mono hbl.size)
          clear hc1 hc2 hc3 hc4 hc5 hc6 hb1
          have M1 := Lib.hid (fun u => calls_over (x := u) (steer_cohere x y z A1 m1 c1 l1 (over w1 u) (hv1.below (over_below w1 u)) hx1 hy1 hz1 (by omega)))
          have M2 := Lib.hid (fun u => calls_over (x := u) (ref_cohere x y z A1 m1 c1 l1 (over w1 u) (hv1.below (over_below w1 u)) hx1 hy1 hz1 (by omega)))
          generalize (cohV x y l1 (m1 : Int) z).1 = r1 at *
          generalize (cohV x y l1 (m1 : Int) z).2 = r2 at *
          go_wp2_with fail
          refine wp_region_over (by kernel_rfl) (by kernel_rfl) ?_
          repeat (go_big_quiet_step (first | (go_at_call 28; with_reducible exact M1.out _) | (go_at_call 29; with_reducible exact M2.out _)))
          refine wpQuiet_nil ?_
          rintro wq ⟨xq, rfl⟩
          have hq := over_below w1 xq
          generalize over w1 xq = wq at *
          go_wp2
          go_roundw
          case rel => exact ⟨k + 1, by omega, by omega, by go_num, hbl1.trans (hq.mono hbl1.size)⟩
          case measure => simp [intOf]; omega
        · go_wp2_with fail
          refine Calls.mono (heavy19_yes _ _ _ _ _ _ _ _ _ (by omega)) ?_
          rintro e w1 ⟨rfl, hb1⟩
          go_wp2
          go_ret
          exact ⟨rfl, hbl.trans (hb1.mono hbl.size)⟩
      · go_wp2_with fail
        refine Calls.mono (wakes19 _) ?_
        rintro e w3 ⟨rfl, hb3⟩
        go_wp2
        go_ret
        exact ⟨rfl, hbl.trans (hb3.mono hbl.size)⟩
    · go_wp2_with fail
      refine Calls.mono (wakes19 _) ?_
      rintro e w3 ⟨rfl, hb3⟩
      go_wp2
      go_ret
      exact ⟨rfl, hbl.trans (hb3.mono hbl.size)⟩
end lawSteerCoheres
end Go.Proofs.Ytjbnpgjndohjcaa
