/- May ground, buildings and class be? Which tiles are open? The game's own answers. -/
import Derived.Test.YtfgjiaakoacomaaClearOpen
namespace Go.Proofs.Ytfgjiaakoacomaa
set_option maxRecDepth 20000
open Go.RowKit

def allP (n : Nat) (W H : Int) (ts : List Int) (l : List Bd) (k : Int) : Prop := isG W H ts = true ∧ mayP n W H ts l ∧ classP k
instance (n : Nat) (W H : Int) (ts : List Int) (l : List Bd) (k : Int) : Decidable (allP n W H ts l k) := by unfold allP; exact inferInstance

set_option maxHeartbeats 1600000 in
set_option maxRecDepth 20000 in
theorem clear_may (W H k : Int) (A : Option Addr) (n c B : Nat) (ts : List Int) (A1 : Option Addr) (n1 c1 : Nat) (l : List Bd) (w : World) (hr : Reads w B 1 A n (nums .u8 ts)) (hB : B ≤ w.heap.size) (hl : IsBytes ts) (hv : BdsL w A1 n1 l) (hn1 : n1 ≤ 1000000) :
    Calls Try.prog 40 #[.agg #[.int .i64 W, .int .i64 H, .slice A n c], .slice A1 n1 c1, .int .i64 k] w fun e w' => e = .returned (.bool (decide (allP n W H ts l k))) ∧ Below w.heap.size w w' := by
  generalize hr' : decide (allP n W H ts l k) = r
  have HR := Lib.hid hr'
  clear hr'
  have hG := Blk.new w #[.int .i64 W, .int .i64 H, .slice A n c] 24
  have hb := (Below.refl w.heap.size w).alloc (Nat.le_refl _) (.cells #[.int .i64 W, .int .i64 H, .slice A n c] 24)
  have C := ground_may W H A n c B ts _ (hr.below (hb.mono hB)) (Nat.le_trans hB hb.size) hl
  go_enter Try.func40, Try.ntmps40
  go_wp2_with fail
  generalize w.alloc (.cells #[.int .i64 W, .int .i64 H, .slice A n c] 24) = w1 at *
  refine Calls.mono C ?_
  rintro e w2 ⟨rfl, hb2⟩
  clear C
  replace hG := hG.below hb2 hG.lt
  replace hb := hb.trans (hb2.mono hb.size)
  clear hb2
  cases hg : isG W H ts with
  | false =>
    obtain rfl : r = false := by rw [← HR.out]; exact decide_eq_false fun h => by have := h.1; rw [hg] at this; cases this
    clear hG
    go_wp2_with fail
    go_ret
    exact ⟨rfl, hb⟩
  | true =>
    obtain ⟨hW0, hW1, hH0, hH1, hlen, _⟩ := isG_bounds hg
    have hll : ts.length = n := by have := hr.1; simpa [nums] using this
    have C := build_may W H A n c B ts A1 n1 c1 l w2 (hr.below (hb.mono hB)) (Nat.le_trans hB hb.size) hW0 hW1 hH0 hH1 (by omega) (hv.below hb) hn1
    have z0 := hG.cell (i := 0) rfl
    have z1 := hG.cell (i := 1) rfl
    have z2 := hG.cell (i := 2) rfl
    by_cases hm : mayP n W H ts l
    case neg =>
      obtain rfl : r = false := by rw [← HR.out]; exact decide_eq_false fun h => hm h.2.1
      rw [decide_eq_false hm] at C
      replace C := Lib.hid C
      clear hlen hll
      go_wp2_with fail
      refine Calls.mono C.out ?_
      rintro e w3 ⟨rfl, hb3⟩
      replace hb := hb.trans (hb3.mono hb.size)
      clear hG z0 z1 z2 hb3 C
      go_wp2_with fail
      go_ret
      exact ⟨rfl, hb⟩
    rw [decide_eq_true hm] at C
    have HM := Lib.hid hm
    have HG := Lib.hid hg
    replace C := Lib.hid C
    clear hlen hll hm hg
    go_wp2_with fail
    refine Calls.mono C.out ?_
    rintro e w3 ⟨rfl, hb3⟩
    replace hb := hb.trans (hb3.mono hb.size)
    clear hG z0 z1 z2 hb3 C
    by_cases hc : classP k
    case neg =>
      obtain rfl : r = false := by rw [← HR.out]; exact decide_eq_false fun h => hc h.2.2
      have D := Lib.hid (kind_class k w3)
      rw [decide_eq_false (show ¬ (0 ≤ k ∧ k ≤ 2) from hc)] at D
      go_wp2_with fail
      refine Calls.mono D.out ?_
      rintro e w4 ⟨rfl, rfl⟩
      go_wp2_with fail
      go_ret
      exact ⟨rfl, hb⟩
    obtain rfl : r = true := by rw [← HR.out]; exact decide_eq_true ⟨HG.out, HM.out, hc⟩
    have D := Lib.hid (kind_class k w3)
    rw [decide_eq_true (show (0 ≤ k ∧ k ≤ 2) from hc)] at D
    go_wp2_with fail
    refine Calls.mono D.out ?_
    rintro e w4 ⟨rfl, rfl⟩
    go_wp2_with fail
    go_ret
    exact ⟨rfl, hb⟩

set_option maxHeartbeats 800000 in
set_option maxRecDepth 20000 in
theorem clear_open_no (W H k : Int) (A : Option Addr) (n c B : Nat) (ts : List Int) (A1 : Option Addr) (n1 c1 : Nat) (l : List Bd) (w : World) (hr : Reads w B 1 A n (nums .u8 ts)) (hB : B ≤ w.heap.size) (hl : IsBytes ts) (hv : BdsL w A1 n1 l) (hn1 : n1 ≤ 1000000) (h : ¬ allP n W H ts l k) :
    Calls Try.prog 20 #[.agg #[.int .i64 W, .int .i64 H, .slice A n c], .slice A1 n1 c1, .int .i64 k] w fun e w' => e = .returned (.tuple #[.slice none 0 0, .int .i64 1]) ∧ Below w.heap.size w w' := by
  have hb := (Below.refl w.heap.size w).alloc (Nat.le_refl _) (.cells #[.int .i64 W, .int .i64 H, .slice A n c] 24)
  have C := clear_may W H k A n c B ts A1 n1 c1 l _ (hr.below (hb.mono hB)) (Nat.le_trans hB hb.size) hl (hv.below hb) hn1
  rw [decide_eq_false h] at C
  replace C := Lib.hid C
  go_enter Try.func20, Try.ntmps20
  go_wp2_with fail
  generalize w.alloc (.cells #[.int .i64 W, .int .i64 H, .slice A n c] 24) = w1 at *
  refine Calls.mono C.out ?_
  rintro e w2 ⟨rfl, hb2⟩
  go_wp2_with fail
  go_ret2
  exact ⟨rfl, hb.trans (hb2.mono hb.size)⟩

def Gives2B (base : Nat) (w : World) (n : Nat) (f : Nat → Bool) (e : Ending) (w' : World) : Prop :=
  ∃ A c, e = .returned (.tuple #[.slice A n c, .int .i64 0]) ∧ w'.ownsRow base 4 1 (.slice A n c) n (bools n f) ∧ Below base w w'

set_option maxHeartbeats 800000 in
set_option maxRecDepth 20000 in
theorem clear_open (W H k : Int) (A : Option Addr) (n c B : Nat) (ts : List Int) (A1 : Option Addr) (n1 c1 : Nat) (l : List Bd) (w : World) (hr : Reads w B 1 A n (nums .u8 ts)) (hB : B ≤ w.heap.size) (hl : IsBytes ts) (hv : BdsL w A1 n1 l) (hn1 : n1 ≤ 1000000) (h : allP n W H ts l k) :
    Calls Try.prog 20 #[.agg #[.int .i64 W, .int .i64 H, .slice A n c], .slice A1 n1 c1, .int .i64 k] w (Gives2B w.heap.size w n (openT W ts l n1 k)) := by
  have hG := Blk.new w #[.int .i64 W, .int .i64 H, .slice A n c] 24
  have hb := (Below.refl w.heap.size w).alloc (Nat.le_refl _) (.cells #[.int .i64 W, .int .i64 H, .slice A n c] 24)
  have C := clear_may W H k A n c B ts A1 n1 c1 l _ (hr.below (hb.mono hB)) (Nat.le_trans hB hb.size) hl (hv.below hb) hn1
  rw [decide_eq_true h] at C
  replace C := Lib.hid C
  go_enter Try.func20, Try.ntmps20
  go_wp2_with fail
  generalize w.alloc (.cells #[.int .i64 W, .int .i64 H, .slice A n c] 24) = w1 at *
  refine Calls.mono C.out ?_
  rintro e w2 ⟨rfl, hb2⟩
  clear C
  replace hG := hG.below hb2 hG.lt
  replace hb := hb.trans (hb2.mono hb.size)
  have hll := hv.1
  have D := clear_tiles W H k A n c B ts A1 n1 c1 l w2 (hr.below (hb.mono hB)) (Nat.le_trans hB hb.size) h.1 hl (hv.below hb) hn1 (fun i hi => ⟨(h.2.1.2.2 i (by rw [hll]; exact hi)).1, (h.2.1.2.2 i (by rw [hll]; exact hi)).2.1⟩) h.2.2
  replace D := Lib.hid D
  have z0 := hG.cell (i := 0) rfl
  have z1 := hG.cell (i := 1) rfl
  have z2 := hG.cell (i := 2) rfl
  have HB := Lib.hid hb
  clear hb2 hll h hv hr hb
  go_wp2_with fail
  refine Calls.mono D.out ?_
  rintro e w3 ⟨A3, c3, rfl, hO, hb3⟩
  have HO := Lib.hid (own_mono hO HB.out.size)
  have HB3 := Lib.hid (HB.out.trans (hb3.mono HB.out.size))
  clear hO hb3 z0 z1 z2 hG D HB
  go_wp2_with fail
  go_ret2
  exact ⟨A3, c3, rfl, HO.out, HB3.out⟩
end Go.Proofs.Ytfgjiaakoacomaa
