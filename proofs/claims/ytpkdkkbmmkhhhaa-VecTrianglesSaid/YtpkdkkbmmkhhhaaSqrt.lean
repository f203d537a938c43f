/- Roots of numbers, and the page's. -/
import Derived.Test.YtpkdkkbmmkhhhaaRoot
namespace Go.Proofs.Ytpkdkkbmmkhhhaa
set_option maxRecDepth 20000
open Go.RowKit

theorem ref_less (h1 l1 h2 l2 : Int) (w : World) : Calls Try.prog 72 #[.agg #[.int .u64 h1, .int .u64 l1], .agg #[.int .u64 h2, .int .u64 l2]] w fun e w' => e = .returned (.bool (lessW h1 l1 h2 l2)) ∧ Below w.heap.size w w' := by
  by_cases hc : h1 < h2
  · have H : Hid (lessW h1 l1 h2 l2 = true) := decide_eq_true (.inl hc)
    go_enter Try.func72, Try.ntmps72
    go_wp2
    go_ret
    exact ⟨by rw [H.out]; rfl, ((Below.refl _ _).alloc (Nat.le_refl _) _).alloc (by simp) _⟩
  · have d1 : decide (h1 < h2) = false := decide_eq_false hc
    by_cases he : h1 = h2
    · have d2 : (h1 == h2) = true := by rw [beq_iff_eq]; exact he
      by_cases hl : l1 < l2
      · have H : Hid (lessW h1 l1 h2 l2 = true) := decide_eq_true (.inr ⟨he, hl⟩)
        clear he hc
        go_enter Try.func72, Try.ntmps72
        go_wp2
        go_ret
        exact ⟨by rw [H.out]; rfl, ((Below.refl _ _).alloc (Nat.le_refl _) _).alloc (by simp) _⟩
      · have H : Hid (lessW h1 l1 h2 l2 = false) := decide_eq_false (by omega)
        have d3 : decide (l1 < l2) = false := decide_eq_false hl
        clear he hc
        go_enter Try.func72, Try.ntmps72
        go_wp2
        go_ret
        exact ⟨by rw [H.out]; rfl, ((Below.refl _ _).alloc (Nat.le_refl _) _).alloc (by simp) _⟩
    · have H : Hid (lessW h1 l1 h2 l2 = false) := decide_eq_false (by omega)
      have d2 : (h1 == h2) = false := by rw [beq_eq_false_iff_ne]; exact he
      clear he hc
      go_enter Try.func72, Try.ntmps72
      go_wp2
      go_ret
      exact ⟨by rw [H.out]; rfl, ((Below.refl _ _).alloc (Nat.le_refl _) _).alloc (by simp) _⟩


/-- The greatest number, at most 'most', whose square is not above W. -/
def RootM (W most R : Int) : Prop := 0 ≤ R ∧ R ≤ most ∧ R * R ≤ W ∧ (R = most ∨ W < (R + 1) * (R + 1))
def GivesRoot (W most : Int) (w : World) (e : Ending) (w' : World) : Prop := ∃ R, e = .returned (.int .u64 R) ∧ RootM W most R ∧ Below w.heap.size w w'

/-- What the page's search holds. -/
def SearchInv (W most L H : Int) : Prop := 0 ≤ L ∧ L ≤ H ∧ H ≤ most ∧ L * L ≤ W ∧ (H = most ∨ W < (H + 1) * (H + 1))
theorem SearchInv.mid {W most L H : Int} (h : SearchInv W most L H) (hlt : L < H) : L < L + (H - L + 1) / 2 ∧ L + (H - L + 1) / 2 ≤ H ∧
    (W < (L + (H - L + 1) / 2) * (L + (H - L + 1) / 2) → SearchInv W most L (L + (H - L + 1) / 2 - 1)) ∧ (¬ W < (L + (H - L + 1) / 2) * (L + (H - L + 1) / 2) → SearchInv W most (L + (H - L + 1) / 2) H) := by
  obtain ⟨h0, h1, h2, h3, h4⟩ := h
  have e1 : L < L + (H - L + 1) / 2 := by omega
  have e2 : L + (H - L + 1) / 2 ≤ H := by omega
  generalize L + (H - L + 1) / 2 = m at *
  exact ⟨e1, e2, fun h => ⟨h0, by omega, by omega, h3, .inr (by rw [show m - 1 + 1 = m by omega]; exact h)⟩, fun h => ⟨by omega, e2, h2, by omega, h4⟩⟩

set_option maxHeartbeats 800000 in
set_option maxRecDepth 20000 in
theorem ref_root (hi lo most : Int) (w : World) (h0 : 0 ≤ hi) (l0 : 0 ≤ lo) (l1 : lo ≤ 18446744073709551615) (m0 : 0 ≤ most) (m1 : most ≤ 9223372036854775807) :
    Calls Try.prog 58 #[.agg #[.int .u64 hi, .int .u64 lo], .int .u64 most] w (GivesRoot (hi * 18446744073709551616 + lo) most w) := by
  have HW : Hid (∀ h l : Int, 0 ≤ l → l < 18446744073709551616 → lessW hi lo h l = decide (hi * 18446744073709551616 + lo < h * 18446744073709551616 + l)) := fun h l a b => lessW_eq l0 (by omega) a b
  have HWW : ∃ W, W = hi * 18446744073709551616 + lo := ⟨_, rfl⟩
  obtain ⟨W, hWW⟩ := HWW
  rw [← hWW] at HW ⊢
  have hW0 : 0 ≤ W := by omega
  clear hWW h0
  go_enter Try.func58, Try.ntmps58
  go_wp2
  go_loopw [5, 6] (fun u v wr => ∃ (L H : Int), u = .int .u64 L ∧ v = .int .u64 H ∧ 0 ≤ L ∧ L ≤ H ∧ H ≤ most ∧ SearchInv W most L H ∧ Below (w.heap.size + 1) (w.alloc (.cells #[.int .u64 hi, .int .u64 lo] 51)) wr) (fun u v _ => (intOf v - intOf u).toNat)
  case atStart => exact ⟨0, most, rfl, rfl, by omega, m0, by omega, ⟨by omega, m0, by omega, by omega, .inl rfl⟩, Below.refl _ _⟩
  case round =>
    obtain ⟨L, H, rfl, rfl, r0, r1, r2, hinv, hbl⟩ := hrel
    by_cases hlt : L < H
    · obtain ⟨q1, q2, hyes, hno⟩ := hinv.mid hlt
      obtain ⟨t, ht⟩ : ∃ t, L + (H - L + 1) / 2 = t := ⟨_, rfl⟩
      rw [ht] at q1 q2 hyes hno
      clear hinv
      have hsz : w.heap.size < wr.heap.size := by have := hbl.size; simp at this; omega
      have c0 : wr.cell? ⟨w.heap.size, 0, none⟩ = some (.int .u64 hi) := (hbl.cell (p := ⟨w.heap.size, 0, none⟩) (by simp)).trans (by rw [World.cell?_alloc_at _ _ _ _ rfl]; rfl)
      have c1 : wr.cell? ⟨w.heap.size, 1, none⟩ = some (.int .u64 lo) := (hbl.cell (p := ⟨w.heap.size, 1, none⟩) (by simp)).trans (by rw [World.cell?_alloc_at _ _ _ _ rfl]; rfl)
      have S1 := Lib.hid (fun x => calls_over (x := x) (ref_times t t (over wr x) (by omega) (by omega) (by omega) (by omega)))
      have S2 := Lib.hid (fun x => calls_over (x := x) (ref_less hi lo (t * t / 18446744073709551616) (t * t % 18446744073709551616) (over wr x)))
      have hls := HW.out (t * t / 18446744073709551616) (t * t % 18446744073709551616) (by omega) (by omega)
      have hls2 : t * t / 18446744073709551616 * 18446744073709551616 + t * t % 18446744073709551616 = t * t := by omega
      rw [hls2] at hls
      clear hls2
      by_cases hle : W < t * t
      · have hls' : lessW hi lo (t * t / 18446744073709551616) (t * t % 18446744073709551616) = true := by rw [hls]; exact decide_eq_true hle
        rw [hls'] at S2
        have HI := Lib.hid (hyes hle)
        clear hls hls' hyes hno
        go_wp2_with fail
        refine wp_region_over (by kernel_rfl) (by kernel_rfl) ?_
        repeat (go_big_quiet_step (first | (go_at_call 67; exact S1.out _) | (go_at_call 72; exact S2.out _)))
        refine wpQuiet_nil ?_
        rintro wq ⟨xq, rfl⟩
        have hq := over_below wr xq
        generalize over wr xq = wq at *
        go_wp2
        go_roundw
        case rel => exact ⟨L, t - 1, rfl, rfl, by omega, by omega, by omega, HI.out, hbl.trans (hq.mono (by have := hbl.size; simp at this; omega))⟩
        case measure => simp [intOf]; omega
      · have hls' : lessW hi lo (t * t / 18446744073709551616) (t * t % 18446744073709551616) = false := by rw [hls]; exact decide_eq_false hle
        rw [hls'] at S2
        have HI := Lib.hid (hno hle)
        clear hls hls' hyes hno
        go_wp2_with fail
        refine wp_region_over (by kernel_rfl) (by kernel_rfl) ?_
        repeat (go_big_quiet_step (first | (go_at_call 67; exact S1.out _) | (go_at_call 72; exact S2.out _)))
        refine wpQuiet_nil ?_
        rintro wq ⟨xq, rfl⟩
        have hq := over_below wr xq
        generalize over wr xq = wq at *
        go_wp2
        go_roundw
        case rel => exact ⟨t, H, rfl, rfl, by omega, by omega, by omega, HI.out, hbl.trans (hq.mono (by have := hbl.size; simp at this; omega))⟩
        case measure => simp [intOf]; omega
    · obtain ⟨i0, i1, i2, i3, i4⟩ := hinv
      have e : L = H := by omega
      have HI : Hid (RootM W most L) := by
        show RootM W most L
        rw [← e] at i4 i2
        exact ⟨i0, i2, i3, i4⟩
      clear i0 i1 i2 i3 i4 e
      go_wp2
      go_ret
      exact ⟨L, rfl, HI.out, ((Below.refl _ _).alloc (Nat.le_refl _) _).trans (hbl.mono (by omega))⟩

end Go.Proofs.Ytpkdkkbmmkhhhaa
