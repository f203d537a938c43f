/- Ground, buildings, class and size: may they be? The game's and the page's. -/
import Derived.Test.YtfgjiaakoacomaaClearMay
import Derived.Test.YtfgjiaakoacomaaRefMay8
import Derived.Test.YtfgjiaakoacomaaKindRef
namespace Go.Proofs.Ytfgjiaakoacomaa
set_option maxRecDepth 20000
open Go.RowKit

def allS (n : Nat) (W H : Int) (ts : List Int) (l : List Bd) (k s : Int) : Prop := allP n W H ts l k ∧ 0 ≤ s ∧ s ≤ 3
instance (n : Nat) (W H : Int) (ts : List Int) (l : List Bd) (k s : Int) : Decidable (allS n W H ts l k s) := by unfold allS; exact inferInstance

theorem num0 (x m : Int) (w : World) : Calls Try.prog 28 #[.int .i64 x, .int .i64 m] w fun e w' => e = .returned (.bool (decide (0 ≤ x ∧ x ≤ m))) ∧ w = w' := by
  by_cases h1 : 0 ≤ x
  · have d1 : decide (0 ≤ x) = true := decide_eq_true h1
    by_cases h2 : x ≤ m
    · have d2 : decide (x ≤ m) = true := decide_eq_true h2
      rw [decide_eq_true (show 0 ≤ x ∧ x ≤ m from ⟨h1, h2⟩)]
      clear h1 h2
      go_enter Try.func28, Try.ntmps28
      go_wp2_with fail
      go_ret
      exact ⟨rfl, rfl⟩
    · have d2 : decide (x ≤ m) = false := decide_eq_false h2
      rw [decide_eq_false (show ¬ (0 ≤ x ∧ x ≤ m) from fun h => h2 h.2)]
      clear h1 h2
      go_enter Try.func28, Try.ntmps28
      go_wp2_with fail
      go_ret
      exact ⟨rfl, rfl⟩
  · have d1 : decide (0 ≤ x) = false := decide_eq_false h1
    rw [decide_eq_false (show ¬ (0 ≤ x ∧ x ≤ m) from fun h => h1 h.1)]
    clear h1
    go_enter Try.func28, Try.ntmps28
    go_wp2_with fail
    go_ret
    exact ⟨rfl, rfl⟩

set_option maxHeartbeats 1600000 in
set_option maxRecDepth 20000 in
theorem field_may (W H k s : Int) (A : Option Addr) (n c B : Nat) (ts : List Int) (A1 : Option Addr) (n1 c1 : Nat) (l : List Bd) (w : World) (hr : Reads w B 1 A n (nums .u8 ts)) (hB : B ≤ w.heap.size) (hl : IsBytes ts) (hv : BdsL w A1 n1 l) (hn1 : n1 ≤ 1000000) :
    Calls Try.prog 45 #[.agg #[.int .i64 W, .int .i64 H, .slice A n c], .slice A1 n1 c1, .int .i64 k, .int .i64 s] w fun e w' => e = .returned (.bool (decide (allS n W H ts l k s))) ∧ Below w.heap.size w w' := by
  have hG := Blk.new w #[.int .i64 W, .int .i64 H, .slice A n c] 24
  have hb := (Below.refl w.heap.size w).alloc (Nat.le_refl _) (.cells #[.int .i64 W, .int .i64 H, .slice A n c] 24)
  have C := Lib.hid (clear_may W H k A n c B ts A1 n1 c1 l _ (hr.below (hb.mono hB)) (Nat.le_trans hB hb.size) hl (hv.below hb) hn1)
  have z0 := hG.cell (i := 0) rfl
  have z1 := hG.cell (i := 1) rfl
  have z2 := hG.cell (i := 2) rfl
  clear hr hv hn1 hl hB hG
  by_cases h0 : 0 ≤ s
  case neg =>
    have d1 : decide (0 ≤ s) = false := decide_eq_false h0
    rw [decide_eq_false (show ¬ allS n W H ts l k s from fun h => h0 h.2.1)]
    clear h0 C
    go_enter Try.func45, Try.ntmps45
    go_wp2_with fail
    go_ret
    exact ⟨rfl, hb⟩
  have d1 : decide (0 ≤ s) = true := decide_eq_true h0
  by_cases h1 : s ≤ 3
  case neg =>
    have d2 : decide (s ≤ 3) = false := decide_eq_false h1
    rw [decide_eq_false (show ¬ allS n W H ts l k s from fun h => h1 h.2.2)]
    clear h0 h1 C
    go_enter Try.func45, Try.ntmps45
    go_wp2_with fail
    go_ret
    exact ⟨rfl, hb⟩
  have d2 : decide (s ≤ 3) = true := decide_eq_true h1
  have e1 : decide (allS n W H ts l k s) = decide (allP n W H ts l k) := decide_eq_decide.2 ⟨fun h => h.1, fun h => ⟨h, h0, h1⟩⟩
  rw [e1]
  generalize decide (allP n W H ts l k) = r at *
  clear h0 h1 e1
  go_enter Try.func45, Try.ntmps45
  go_wp2_with fail
  refine Calls.mono C.out ?_
  rintro e w2 ⟨rfl, hb2⟩
  have HB := Lib.hid (hb.trans (hb2.mono hb.size))
  clear z0 z1 z2 hb hb2 C
  go_wp2_with fail
  go_ret
  exact ⟨rfl, HB.out⟩

set_option maxHeartbeats 1600000 in
set_option maxRecDepth 20000 in
theorem ref13_may (W H k s : Int) (A : Option Addr) (n c B : Nat) (ts : List Int) (A1 : Option Addr) (n1 c1 : Nat) (l : List Bd) (w : World) (hr : Reads w B 1 A n (nums .u8 ts)) (hB : B ≤ w.heap.size) (hl : IsBytes ts) (hv : BdsL w A1 n1 l) (hn1 : n1 ≤ 1000000) (hn9 : n ≤ 4611686018427387904) :
    Calls Try.prog 26 #[.agg #[.int .i64 W, .int .i64 H, .slice A n c], .slice A1 n1 c1, .int .i64 k, .int .i64 s] w fun e w' => e = .returned (.bool (decide (allS n W H ts l k s))) ∧ Below w.heap.size w w' := by
  generalize hr' : decide (allS n W H ts l k s) = r
  have HR := Lib.hid hr'
  clear hr'
  have hG := Blk.new w #[.int .i64 W, .int .i64 H, .slice A n c] 24
  have hb := (Below.refl w.heap.size w).alloc (Nat.le_refl _) (.cells #[.int .i64 W, .int .i64 H, .slice A n c] 24)
  have C := Lib.hid (ref_may8 W H A n c B ts A1 n1 c1 l _ (hr.below (hb.mono hB)) (Nat.le_trans hB hb.size) hl (hv.below hb) hn1 hn9)
  have K := Lib.hid (fun W' => ref_class k W')
  have N := Lib.hid (fun W' => num0 s 3 W')
  have z0 := hG.cell (i := 0) rfl
  have z1 := hG.cell (i := 1) rfl
  have z2 := hG.cell (i := 2) rfl
  clear hr hv hn1 hl hB hG hn9
  go_enter Try.func26, Try.ntmps26
  go_wp2_with fail
  refine Calls.mono C.out ?_
  rintro e w2 ⟨rfl, hb2⟩
  have HB := Lib.hid (hb.trans (hb2.mono hb.size))
  clear z0 z1 z2 hb hb2 C
  by_cases h1 : isG W H ts = true ∧ mayP n W H ts l
  case neg =>
    obtain rfl : r = false := by rw [← HR.out]; exact decide_eq_false fun h => h1 ⟨h.1.1, h.1.2.1⟩
    rw [decide_eq_false h1]
    clear h1 K N HR
    go_wp2_with fail
    go_ret
    exact ⟨rfl, HB.out⟩
  rw [decide_eq_true h1]
  go_wp2_with fail
  refine Calls.mono (K.out _) ?_
  rintro e w3 ⟨rfl, rfl⟩
  by_cases h2 : 0 ≤ k ∧ k ≤ 2
  case neg =>
    obtain rfl : r = false := by rw [← HR.out]; exact decide_eq_false fun h => h2 h.1.2.2
    rw [decide_eq_false h2]
    clear h1 h2 K N HR
    go_wp2_with fail
    go_ret
    exact ⟨rfl, HB.out⟩
  rw [decide_eq_true h2]
  go_wp2_with fail
  refine Calls.mono (N.out _) ?_
  rintro e w3 ⟨rfl, rfl⟩
  have e1 : decide (0 ≤ s ∧ s ≤ 3) = r := by rw [← HR.out]; exact decide_eq_decide.2 ⟨fun h => ⟨⟨h1.1, h1.2, h2⟩, h⟩, fun h => h.2⟩
  rw [e1]
  clear h1 h2 e1 K N HR
  go_wp2_with fail
  go_ret
  exact ⟨rfl, HB.out⟩
end Go.Proofs.Ytfgjiaakoacomaa
