/- The walk of the law SteerAparts. -/
import Derived.Test.YtjbnpgjndohjcaaVecsCopy
namespace Go.Proofs.Ytjbnpgjndohjcaa
set_option maxRecDepth 20000
open Go.RowKit Go.WideShapes Go.ChangeShapes

theorem heavy19_no (x y p q z : Int) (A : Option Addr) (m c : Nat) (w : World) (h1 : m ≤ 100) :
    Calls Try.prog 27 #[.agg #[.int .i64 x, .int .i64 y, .int .i64 p, .int .i64 q, .int .i64 z, .slice A m c]] w fun e w' => e = .returned (.bool false) ∧ Below w.heap.size w w' := by
  have d1 : decide ((100 : Int) < (m : Int)) = false := by simp; omega
  go_enter Try.func27, Try.ntmps27
  go_wp2
  go_ret
  exact ⟨rfl, (Below.refl _ _).alloc (Nat.le_refl _) _⟩
theorem heavy19_yes (x y p q z : Int) (A : Option Addr) (m c : Nat) (w : World) (h1 : 100 < m) :
    Calls Try.prog 27 #[.agg #[.int .i64 x, .int .i64 y, .int .i64 p, .int .i64 q, .int .i64 z, .slice A m c]] w fun e w' => e = .returned (.bool true) ∧ Below w.heap.size w w' := by
  have d1 : decide ((100 : Int) < (m : Int)) = true := by simp; omega
  go_enter Try.func27, Try.ntmps27
  go_wp2
  go_ret
  exact ⟨rfl, (Below.refl _ _).alloc (Nat.le_refl _) _⟩

namespace lawSteerAparts
set_option maxHeartbeats 3200000 in
set_option maxRecDepth 100000 in
theorem walk {H : Type} {enc : TypeId × Value → H} (w : World) {base : Nat} (v : Value) (d : DataW H) (p : List MemPlace) (hv : Value.okWide Try.prog w .any base 44 v)
    (ht : DataW.Trod enc Try.prog w 0 (fun _ => true) true 44 v d p) : Calls Try.prog 8 #[v] w fun e w' => e = .returned (.bool true) ∧ Below w.heap.size w w' := by
  obtain ⟨A, n, c, rfl, hnc, hcm, ha⟩ := open_asks19 hv ht
  unfold maxLen at hcm
  clear hv ht
  go_enter Try.func8, Try.ntmps8
  go_wp2
  go_loopw [3] (fun i wr => ∃ (k : Nat), k ≤ n ∧ k ≤ 20 ∧ i = .int .i64 k ∧ Below w.heap.size w wr) (fun i _ => n - (intOf i).toNat)
  case atStart => exact ⟨0, Nat.zero_le _, by omega, rfl, Below.refl _ _⟩
  case round =>
    obtain ⟨k, hk, hk20, rfl, hbl⟩ := hrel
    by_cases hlt : k < n
    · by_cases h20 : k < 20
      · obtain ⟨b, o, x, y, p, q, z, A1, m1, c1, l1, rfl, hb, hc1, hc2, hc3, hc4, hc5, hc6, ⟨hx0, hx1⟩, ⟨hy0, hy1⟩, ⟨hp0, hp1⟩, ⟨hq0, hq1⟩, ⟨hz0, hz1⟩, hv1, hmc, hcm1⟩ := ha.below hbl k hlt
        clear ha
        unfold maxLen at hcm1
        by_cases hm1 : m1 ≤ 100
        · go_wp2_with fail
          refine Calls.mono (heavy19_no _ _ _ _ _ _ _ _ _ hm1) ?_
          rintro e w1 ⟨rfl, hb1⟩
          have hb' : b < w1.heap.size := Nat.lt_of_lt_of_le hb hb1.size
          have hd1 := (hb1.cell (p := ⟨b, o + k * 6, none⟩) hb).trans hc1
          have hd2 := (hb1.cell (p := ⟨b, o + k * 6 + 1, none⟩) hb).trans hc2
          have hd5 := (hb1.cell (p := ⟨b, o + k * 6 + 4, none⟩) hb).trans hc5
          have hd6 := (hb1.cell (p := ⟨b, o + k * 6 + 5, none⟩) hb).trans hc6
          have hv1 := hv1.below hb1
          have hbl1 := hbl.trans (hb1.mono hbl.size)
          clear hc1 hc2 hc3 hc4 hc5 hc6 hb1
          go_wp2_with fail
          refine Calls.mono (copy_vecs A1 m1 c1 l1 w1 hv1 (by omega)) ?_
          rintro e w2 ⟨A2, c2, rfl, hv2, hb2⟩
          have hd1 := (hb2.cell (p := ⟨b, o + k * 6, none⟩) hb').trans hd1
          have hd2 := (hb2.cell (p := ⟨b, o + k * 6 + 1, none⟩) hb').trans hd2
          have hd5 := (hb2.cell (p := ⟨b, o + k * 6 + 4, none⟩) hb').trans hd5
          have hd6 := (hb2.cell (p := ⟨b, o + k * 6 + 5, none⟩) hb').trans hd6
          have hv1 := hv1.below hb2
          have hb' : b < w2.heap.size := Nat.lt_of_lt_of_le hb' hb2.size
          have hbl1 := hbl1.trans (hb2.mono hbl1.size)
          clear hb2
          generalize w2 = w1 at *
          have M1 := Lib.hid (fun u => calls_over (x := u) (steer_apart x y z A2 m1 c2 l1 (over w1 u) (hv2.below (over_below w1 u)) hx1 hy1 hz1 (by omega)))
          have M2 := Lib.hid (fun u => calls_over (x := u) (ref_push x y z A1 m1 c1 l1 (over w1 u) (hv1.below (over_below w1 u)) hx1 hy1 hz1 (by omega)))
          have M3 := Lib.hid (fun u => calls_over (x := u) (eq_vecs A2 A1 m1 c2 c1 l1 (over w1 u) (hv2.below (over_below w1 u)) (hv1.below (over_below w1 u)) (by omega)))
          generalize (apV x y z l1).1 = r1 at *
          generalize (apV x y z l1).2 = r2 at *
          go_wp2_with fail
          refine wp_region_over (by kernel_rfl) (by kernel_rfl) ?_
          repeat (go_big_quiet_step (first | (go_at_call 31; with_reducible exact M1.out _) | (go_at_call 32; with_reducible exact M2.out _) | (go_at_call 33; with_reducible exact M3.out _)))
          refine wpQuiet_nil ?_
          rintro wq ⟨xq, rfl⟩
          have hq := over_below w1 xq
          generalize over w1 xq = wq at *
          go_wp2
          go_roundw
          case rel => exact ⟨k + 1, by omega, by omega, by go_num, hbl1.trans (hq.mono hbl1.size)⟩
          case measure => simp [intOf]; omega
        · go_wp2_with fail
          refine Calls.mono (heavy19_yes _ _ _ _ _ _ _ _ _ (by omega)) ?_
          rintro e w1 ⟨rfl, hb1⟩
          go_wp2
          go_ret
          exact ⟨rfl, hbl.trans (hb1.mono hbl.size)⟩
      · go_wp2_with fail
        refine Calls.mono (wakes19 _) ?_
        rintro e w3 ⟨rfl, hb3⟩
        go_wp2
        go_ret
        exact ⟨rfl, hbl.trans (hb3.mono hbl.size)⟩
    · go_wp2_with fail
      refine Calls.mono (wakes19 _) ?_
      rintro e w3 ⟨rfl, hb3⟩
      go_wp2
      go_ret
      exact ⟨rfl, hbl.trans (hb3.mono hbl.size)⟩
end lawSteerAparts
end Go.Proofs.Ytjbnpgjndohjcaa
