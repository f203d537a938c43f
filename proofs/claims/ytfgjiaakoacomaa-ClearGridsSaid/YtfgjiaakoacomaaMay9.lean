/- May what the laws on room are asked be? -/
import Derived.Test.YtfgjiaakoacomaaClearAsk
import Derived.Test.YtfgjiaakoacomaaRefMay8
import Derived.Test.YtfgjiaakoacomaaRefOpen
namespace Go.Proofs.Ytfgjiaakoacomaa
set_option maxRecDepth 20000
open Go.RowKit

set_option maxHeartbeats 1600000 in
set_option maxRecDepth 20000 in
theorem may9 (W H k : Int) (A : Option Addr) (n c B : Nat) (ts : List Int) (A1 : Option Addr) (n1 c1 : Nat) (l : List Bd) (w : World) (hr : Reads w B 1 A n (nums .u8 ts)) (hB : B ≤ w.heap.size) (hl : IsBytes ts) (hv : BdsL w A1 n1 l) (hn1 : n1 ≤ 1000000) (hn9 : n ≤ 4611686018427387904) :
    Calls Try.prog 12 #[.agg #[.int .i64 W, .int .i64 H, .slice A n c, .slice A1 n1 c1, .int .i64 k]] w fun e w' => e = .returned (.int .i64 (if allP n W H ts l k then 0 else 1)) ∧ Below w.heap.size w w' := by
  generalize hr' : (if allP n W H ts l k then (0 : Int) else 1) = r
  have HR := Lib.hid hr'
  clear hr'
  have hG := Blk.new w #[.int .i64 W, .int .i64 H, .slice A n c, .slice A1 n1 c1, .int .i64 k] 27
  have hb := (Below.refl w.heap.size w).alloc (Nat.le_refl _) (.cells #[.int .i64 W, .int .i64 H, .slice A n c, .slice A1 n1 c1, .int .i64 k] 27)
  have C := Lib.hid (ref_may8 W H A n c B ts A1 n1 c1 l _ (hr.below (hb.mono hB)) (Nat.le_trans hB hb.size) hl (hv.below hb) hn1 hn9)
  have K := Lib.hid (fun W' => ref_class k W')
  clear hr hv hn1 hn9 hl
  go_enter Try.func12, Try.ntmps12
  go_wp2_with fail
  generalize w.alloc (.cells #[.int .i64 W, .int .i64 H, .slice A n c, .slice A1 n1 c1, .int .i64 k] 27) = w1 at *
  have x0 := hG.cell (i := 0) rfl
  have x1 := hG.cell (i := 1) rfl
  have x2 := hG.cell (i := 2) rfl
  have x3 := hG.cell (i := 3) rfl
  (try go_wp2_with fail)
  refine Calls.mono C.out ?_
  rintro e w2 ⟨rfl, hb2⟩
  clear C x0 x1 x2 x3
  replace hG := hG.below hb2 hG.lt
  have HB := Lib.hid (hb.trans (hb2.mono hb.size))
  clear hb2 hb hB
  by_cases hg : isG W H ts = true ∧ mayP n W H ts l
  · rw [decide_eq_true hg]
    have x4 := hG.cell (i := 4) rfl
    go_wp2_with fail
    refine Calls.mono (K.out _) ?_
    rintro e w3 ⟨rfl, rfl⟩
    by_cases hk : 0 ≤ k ∧ k ≤ 2
    · obtain rfl : r = 0 := by rw [← HR.out, if_pos ⟨hg.1, hg.2, hk⟩]
      rw [decide_eq_true hk]
      clear hg hk HR K hG
      go_wp2_with fail
      go_ret
      exact ⟨rfl, HB.out⟩
    · obtain rfl : r = 1 := by rw [← HR.out, if_neg (fun h => hk h.2.2)]
      rw [decide_eq_false hk]
      clear hg hk HR K hG
      go_wp2_with fail
      go_ret
      exact ⟨rfl, HB.out⟩
  · obtain rfl : r = 1 := by rw [← HR.out, if_neg (fun h => hg ⟨h.1, h.2.1⟩)]
    rw [decide_eq_false hg]
    clear hg HR K hG
    go_wp2_with fail
    go_ret
    exact ⟨rfl, HB.out⟩
end Go.Proofs.Ytfgjiaakoacomaa
