/- Wide numbers and roots: what each function computes. -/
import Derived.Test.YtpkdkkbmmkhhhaaRefTimes
import Derived.Test.YtpkdkkbmmkhhhaaRootMath
namespace Go.Proofs.Ytpkdkkbmmkhhhaa
set_option maxRecDepth 20000
open Go.RowKit

/-- Which of two wide numbers is below the other one. -/
def lessW (h1 l1 h2 l2 : Int) : Bool := decide (h1 < h2 ∨ (h1 = h2 ∧ l1 < l2))
theorem lessW_eq {h1 l1 h2 l2 : Int} (a : 0 ≤ l1) (b : l1 < 18446744073709551616) (c : 0 ≤ l2) (d : l2 < 18446744073709551616) :
    lessW h1 l1 h2 l2 = decide (h1 * 18446744073709551616 + l1 < h2 * 18446744073709551616 + l2) := by
  unfold lessW
  rw [Bool.eq_iff_iff, decide_eq_true_iff, decide_eq_true_iff]
  omega

theorem fix_below (h1 l1 h2 l2 : Int) (w : World) : Calls Try.prog 70 #[.agg #[.int .u64 h1, .int .u64 l1], .agg #[.int .u64 h2, .int .u64 l2]] w fun e w' => e = .returned (.bool (lessW h1 l1 h2 l2)) ∧ Below w.heap.size w w' := by
  by_cases hc : h1 < h2
  · have H : Hid (lessW h1 l1 h2 l2 = true) := decide_eq_true (.inl hc)
    go_enter Try.func70, Try.ntmps70
    go_wp2
    go_ret
    exact ⟨by rw [H.out]; rfl, ((Below.refl _ _).alloc (Nat.le_refl _) _).alloc (by simp) _⟩
  · have d1 : decide (h1 < h2) = false := decide_eq_false hc
    by_cases he : h1 = h2
    · have d2 : (h1 == h2) = true := by rw [beq_iff_eq]; exact he
      by_cases hl : l1 < l2
      · have H : Hid (lessW h1 l1 h2 l2 = true) := decide_eq_true (.inr ⟨he, hl⟩)
        clear he hc
        go_enter Try.func70, Try.ntmps70
        go_wp2
        go_ret
        exact ⟨by rw [H.out]; rfl, ((Below.refl _ _).alloc (Nat.le_refl _) _).alloc (by simp) _⟩
      · have H : Hid (lessW h1 l1 h2 l2 = false) := decide_eq_false (by omega)
        have d3 : decide (l1 < l2) = false := decide_eq_false hl
        clear he hc
        go_enter Try.func70, Try.ntmps70
        go_wp2
        go_ret
        exact ⟨by rw [H.out]; rfl, ((Below.refl _ _).alloc (Nat.le_refl _) _).alloc (by simp) _⟩
    · have H : Hid (lessW h1 l1 h2 l2 = false) := decide_eq_false (by omega)
      have d2 : (h1 == h2) = false := by rw [beq_eq_false_iff_ne]; exact he
      clear he hc
      go_enter Try.func70, Try.ntmps70
      go_wp2
      go_ret
      exact ⟨by rw [H.out]; rfl, ((Below.refl _ _).alloc (Nat.le_refl _) _).alloc (by simp) _⟩

theorem fix_square (a : Int) (w : World) (h0 : 0 ≤ a) (h1 : a ≤ 18446744073709551615) : Calls Try.prog 71 #[.int .u64 a] w fun e w' => e = .returned (.agg #[.int .u64 (a * a / 18446744073709551616), .int .u64 (a * a % 18446744073709551616)]) ∧ Below w.heap.size w w' := by
  have M := Lib.hid (fun W => mul64 a a W h0 h1 h0 h1)
  generalize a * a = P at *
  go_enter Try.func71, Try.ntmps71
  go_wp2_with fail
  refine Calls.mono (M.out _) ?_
  rintro e w1 ⟨rfl, rfl⟩
  go_wp2
  refine bodyPost_ret (v := .agg #[.int .u64 (P / 18446744073709551616), .int .u64 (P % 18446744073709551616)]) (by simp [results, Try.results71, go_sem]) rfl ⟨rfl, ?_⟩
  exact (Below.refl _ _).alloc (Nat.le_refl _) _

theorem or_bit (R : Int) (j m : Nat) (hR : R = m * 2 ^ (j + 1)) (h : R + 2 ^ j ≤ 9223372036854775807) : bits .or .u64 R (2 ^ j) = R + 2 ^ j := by
  have hp := pow2_pos j
  have e1 : ((2 ^ j : Nat) : Int) = (2 : Int) ^ j := by simp
  have e2 : R = ((2 ^ (j + 1) * m : Nat) : Int) := by rw [hR]; simp [Int.mul_comm]
  rw [e2, ← e1] at h ⊢
  have hlt : 2 ^ j < 2 ^ (j + 1) := Nat.pow_lt_pow_right (by omega) (by omega)
  rw [u64_or_nat _ _ (by omega) (by omega), ← Nat.two_pow_add_eq_or_of_lt hlt]
  simp

set_option maxHeartbeats 800000 in
set_option maxRecDepth 20000 in
theorem fix_root (hi lo : Int) (w : World) (l0 : 0 ≤ lo) (l1 : lo ≤ 18446744073709551615) :
    Calls Try.prog 57 #[.agg #[.int .u64 hi, .int .u64 lo]] w fun e w' => e = .returned (.int .i64 (rootF (hi * 18446744073709551616 + lo))) ∧ Below w.heap.size w w' := by
  have HW : Hid (∀ h l : Int, 0 ≤ l → l < 18446744073709551616 → lessW hi lo h l = decide (hi * 18446744073709551616 + lo < h * 18446744073709551616 + l)) := fun h l a b => lessW_eq l0 (by omega) a b
  have HWW : ∃ W, W = hi * 18446744073709551616 + lo := ⟨_, rfl⟩
  obtain ⟨W, hWW⟩ := HWW
  rw [← hWW] at HW ⊢
  clear hWW
  go_enter Try.func57, Try.ntmps57
  go_wp2
  go_loopw [3, 4] (fun r i wr => ∃ (k : Nat) (z R : Int), i = .int .i64 z ∧ z = (k : Int) - 1 ∧ r = .int .u64 R ∧ k ≤ 63 ∧ RootInv W k R ∧ 0 ≤ R ∧ R ≤ 9223372036854775807 ∧ Below (w.heap.size + 1) (w.alloc (.cells #[.int .u64 hi, .int .u64 lo] 47)) wr) (fun _ i _ => (intOf i + 1).toNat)
  case atStart => exact ⟨63, _, _, rfl, by omega, rfl, by omega, RootInv.start W, by omega, by omega, Below.refl _ _⟩
  case round =>
    obtain ⟨k, z, R, rfl, hz, rfl, hk, hinv, r0, r1, hbl⟩ := hrel
    by_cases hk0 : 0 ≤ z
    · obtain ⟨j, rfl⟩ : ∃ j, k = j + 1 := ⟨k - 1, by omega⟩
      obtain ⟨hm, hle, hyes, hno⟩ := hinv.step
      have hp := pow2_pos j
      have hzj : z.toNat = j := by omega
      have HZ := Lib.hid hz
      have hz62 : z ≤ 62 := by omega
      obtain ⟨m, hm⟩ := hm
      have hor := or_bit R j m hm hle
      obtain ⟨t, ht⟩ : ∃ t, R + 2 ^ j = t := ⟨_, rfl⟩
      have t0 : 0 ≤ t := by omega
      have t1 : t ≤ 9223372036854775807 := by omega
      rw [ht] at hor hyes hno
      have hwr : IntKind.u64.wrap (2 ^ j) = 2 ^ j := by rw [u64_wrap]; omega
      have HT := Lib.hid ht
      clear hz hinv hm hle hp ht
      have hsz : w.heap.size < wr.heap.size := by have := hbl.size; simp at this; omega
      have c0 : wr.cell? ⟨w.heap.size, 0, none⟩ = some (.int .u64 hi) := (hbl.cell (p := ⟨w.heap.size, 0, none⟩) (by simp)).trans (by rw [World.cell?_alloc_at _ _ _ _ rfl]; rfl)
      have c1 : wr.cell? ⟨w.heap.size, 1, none⟩ = some (.int .u64 lo) := (hbl.cell (p := ⟨w.heap.size, 1, none⟩) (by simp)).trans (by rw [World.cell?_alloc_at _ _ _ _ rfl]; rfl)
      have S1 := Lib.hid (fun x => calls_over (x := x) (fix_square t (over wr x) t0 (by omega)))
      have S2 := Lib.hid (fun x => calls_over (x := x) (fix_below hi lo (t * t / 18446744073709551616) (t * t % 18446744073709551616) (over wr x)))
      have hls := HW.out (t * t / 18446744073709551616) (t * t % 18446744073709551616) (by omega) (by omega)
      have hls2 : t * t / 18446744073709551616 * 18446744073709551616 + t * t % 18446744073709551616 = t * t := by omega
      rw [hls2] at hls
      clear hls2
      by_cases hle : t * t ≤ W
      · have hls' : lessW hi lo (t * t / 18446744073709551616) (t * t % 18446744073709551616) = false := by rw [hls]; exact decide_eq_false (by omega)
        rw [hls'] at S2
        have HI := Lib.hid (hyes hle)
        clear hls hls' hyes hno
        go_wp2_with fail
        refine wp_region_over (by kernel_rfl) (by kernel_rfl) ?_
        repeat (go_big_quiet_step (first | (go_at_call 71; exact S1.out _) | (go_at_call 70; exact S2.out _)))
        refine wpQuiet_nil ?_
        rintro wq ⟨xq, rfl⟩
        have hq := over_below wr xq
        generalize over wr xq = wq at *
        go_wp2
        go_roundw
        case rel => exact ⟨j, z - 1, t, rfl, by have := HZ.out; omega, rfl, by omega, HI.out, by omega, by omega, hbl.trans (hq.mono (by have := hbl.size; simp at this; omega))⟩
        case measure => simp [intOf]; omega
      · have hls' : lessW hi lo (t * t / 18446744073709551616) (t * t % 18446744073709551616) = true := by rw [hls]; exact decide_eq_true (by omega)
        rw [hls'] at S2
        have HI := Lib.hid (hno hle)
        clear hls hls' hyes hno
        go_wp2_with fail
        refine wp_region_over (by kernel_rfl) (by kernel_rfl) ?_
        repeat (go_big_quiet_step (first | (go_at_call 71; exact S1.out _) | (go_at_call 70; exact S2.out _)))
        refine wpQuiet_nil ?_
        rintro wq ⟨xq, rfl⟩
        have hq := over_below wr xq
        generalize over wr xq = wq at *
        go_wp2
        go_roundw
        case rel => exact ⟨j, z - 1, R, rfl, by have := HZ.out; omega, rfl, by omega, HI.out, by omega, by omega, hbl.trans (hq.mono (by have := hbl.size; simp at this; omega))⟩
        case measure => simp [intOf]; omega
    · have hk00 : k = 0 := by omega
      subst hk00
      have HR := Lib.hid hinv.1
      clear hz hinv
      go_wp2
      go_ret
      refine ⟨by rw [HR.out]; rfl, ?_⟩
      exact ((Below.refl _ _).alloc (Nat.le_refl _) _).trans (hbl.mono (by omega))

end Go.Proofs.Ytpkdkkbmmkhhhaa
