/- Is a disc free? The game's way. -/
import Derived.Test.YtjbnpgjndohjcaaBuildMathM
import Derived.Test.YtjbnpgjndohjcaaBools
namespace Go.Proofs.Ytjbnpgjndohjcaa
set_option maxRecDepth 20000
open Go.RowKit

set_option maxHeartbeats 6400000 in
set_option maxRecDepth 20000 in
theorem disc_fits (W H x y r : Int) (A A2 : Option Addr) (n c c2 B : Nat) (f : Nat → Bool) (w : World) (hr : Reads w B 1 A2 n (bools n f)) (hB : B ≤ w.heap.size) (hW0 : 1 ≤ W) (hW1 : W ≤ 128) (hH0 : 1 ≤ H) (hH1 : H ≤ 128) (hn : (n : Int) = W * H) (hf : formB x y r = true) :
    Calls Try.prog 73 #[.agg #[.int .i64 W, .int .i64 H, .slice A n c], .slice A2 n c2, .agg #[.int .i64 x, .int .i64 y], .int .i64 r] w fun e w' => e = .returned (.bool (freeB W H n f x y r)) ∧ Below w.heap.size w w' := by
  obtain ⟨r0, r1, x0, x1, y0, y1⟩ := formB_is hf
  have hp := prod_range hW0 hW1 hH0 hH1
  have hn4 : n ≤ 16384 := by omega
  have F := Lib.hid (fun W' => disc_form x y r W')
  rw [hf] at F
  generalize hFR : freeB W H n f x y r = fr
  have HOFF := Lib.hid (fun (h : ¬ onD W H x y r) => hFR.symm.trans (free_off (n := n) (f := f) h))
  have HHIT := Lib.hid (fun (t : Nat) (ht : t < n) (h1 : f t = false) (h2 : hitsB W (t : Int) x y r = true) => hFR.symm.trans (free_hit (H := H) ht h1 h2))
  have HON := Lib.hid (fun (h : onD W H x y r) (h2 : ∀ t, t < n → f t = false → hitsB W (t : Int) x y r = false) => hFR.symm.trans ((free_iff).2 ⟨h, h2⟩))
  clear hFR hf
  have HITS := Lib.hid (fun (t : Nat) (ht : t < n) W' => disc_hits W H (t : Int) x y r A n c W' hW0 hW1 (by omega) (by omega) x0 x1 y0 y1 (by omega))
  have NEAR := Lib.hid (fun (t : Nat) (ht : t < n) (h : hitsB W (t : Int) x y r = true) => hits_near (r := r) hW0 hW1 (t := t) (by omega) x0 x1 y0 y1 h)
  have XY := Lib.hid (fun (t : Nat) (ht : t < n) => tile_xy hW0 hn ht)
  have YX := Lib.hid (fun (a b : Int) (h : onG W H a b) => xy_tile hn h)
  have hG := (Blk.new w #[.int .i64 W, .int .i64 H, .slice A n c] 24).alloc (.cells #[.int .i64 x, .int .i64 y] 35)
  have hV := Blk.new (w.alloc (.cells #[.int .i64 W, .int .i64 H, .slice A n c] 24)) #[.int .i64 x, .int .i64 y] 35
  have hb : Below w.heap.size w ((w.alloc (.cells #[.int .i64 W, .int .i64 H, .slice A n c] 24)).alloc (.cells #[.int .i64 x, .int .i64 y] 35)) := two_below _ _ _
  rw [show (w.alloc (.cells #[.int .i64 W, .int .i64 H, .slice A n c] 24)).heap.size = w.heap.size + 1 by simp] at hV
  have hgd := (hr.more hB).below hb
  clear hr hB
  have z0 := hG.cell (i := 0) rfl
  have z1 := hG.cell (i := 1) rfl
  go_enter Try.func73, Try.ntmps73
  go_wp2_with fail
  generalize (w.alloc (.cells #[.int .i64 W, .int .i64 H, .slice A n c] 24)).alloc (.cells #[.int .i64 x, .int .i64 y] 35) = w1 at *
  go_quiet (fail)
  clear z0 z1
  replace hG := hG.below (below_drewN (Below.refl _ _) nq) hG.lt
  replace hV := hV.below (below_drewN (Below.refl _ _) nq) hV.lt
  replace hgd := hgd.below ((below_drewN (Below.refl _ _) nq).mono hb.size)
  replace hb := below_drewN hb nq
  generalize w1.drewN nq = w2 at *
  have v0 := hV.cell (i := 0) rfl
  have v1 := hV.cell (i := 1) rfl
  go_wp2_with fail
  clear v0 v1
  refine Calls.mono (F.out _) ?_
  rintro e w3 ⟨rfl, hb3⟩
  replace hG := hG.below hb3 hG.lt
  replace hV := hV.below hb3 hV.lt
  replace hgd := hgd.below (hb3.mono hb.size)
  replace hb := hb.trans (hb3.mono hb.size)
  clear hb3 F
  have v0 := hV.cell (i := 0) rfl
  have v1 := hV.cell (i := 1) rfl
  have hHB := Lib.hid hb
  by_cases c1 : x - r < 0
  case pos =>
    obtain rfl := HOFF.out (fun h => by have := h.1; omega)
    have d1 : decide (x - r < 0) = true := decide_eq_true c1
    clear HOFF HHIT HON HITS NEAR XY YX hb hG hV hgd
    go_wp2_with fail
    go_ret
    exact ⟨rfl, hHB.out⟩
  have d1 : decide (x - r < 0) = false := decide_eq_false c1
  by_cases c2 : W * 65536 < x + r
  case pos =>
    obtain rfl := HOFF.out (fun h => by have := h.2.1; omega)
    have d2 : decide (W * 65536 < x + r) = true := decide_eq_true c2
    clear HOFF HHIT HON HITS NEAR XY YX hb hG hV hgd
    go_wp2_with fail
    go_ret
    exact ⟨rfl, hHB.out⟩
  have d2 : decide (W * 65536 < x + r) = false := decide_eq_false c2
  by_cases c3 : y - r < 0
  case pos =>
    obtain rfl := HOFF.out (fun h => by have := h.2.2.1; omega)
    have d3 : decide (y - r < 0) = true := decide_eq_true c3
    clear HOFF HHIT HON HITS NEAR XY YX hb hG hV hgd
    go_wp2_with fail
    go_ret
    exact ⟨rfl, hHB.out⟩
  have d3 : decide (y - r < 0) = false := decide_eq_false c3
  by_cases c4 : H * 65536 < y + r
  case pos =>
    obtain rfl := HOFF.out (fun h => by have := h.2.2.2; omega)
    have d4 : decide (H * 65536 < y + r) = true := decide_eq_true c4
    clear HOFF HHIT HON HITS NEAR XY YX hb hG hV hgd
    go_wp2_with fail
    go_ret
    exact ⟨rfl, hHB.out⟩
  have d4 : decide (H * 65536 < y + r) = false := decide_eq_false c4
  have HON := Lib.hid (HON.out ⟨by omega, by omega, by omega, by omega⟩)
  clear HOFF hHB
  go_wp2_with fail
  clear d1 d2 d3 d4 v0 v1
  have hwy : 0 ≤ (y - r) / 65536 := by omega
  have hwx : 0 ≤ (x - r) / 65536 := by omega
  have hGl := hG.lt
  have hVl := hV.lt
  have hq3 := hb.size
  go_loopw [11] (fun yv wr => ∃ (j : Int), (y - r) / 65536 ≤ j ∧ j ≤ 16777216 ∧ yv = .int .i64 j ∧ upTo W n f x y r j 0 ∧ Below w3.heap.size w3 wr) (fun yv _ => (16777217 - intOf yv).toNat)
  case atStart => exact ⟨(y - r) / 65536, by omega, by omega, rfl, fun t ht h _ => by
    cases hh : hitsB W (t : Int) x y r with
    | false => rfl
    | true => have := NEAR.out t ht hh; have := (XY.out t ht).1; unfold onG at this; omega, Below.refl _ _⟩
  case round =>
    obtain ⟨j, hj0, hj1, rfl, hup, hbl⟩ := hrel
    have hG4 := hG.below hbl hGl
    have hV4 := hV.below hbl hVl
    have z1 := hG4.cell (i := 1) rfl
    have v1 := hV4.cell (i := 1) rfl
    by_cases hc : j ≤ (y + r) / 65536 ∧ j < H
    case neg =>
      obtain rfl := HON.out (fun t ht hft => by
        cases hh : hitsB W (t : Int) x y r with
        | false => rfl
        | true =>
          rw [← hh]
          exact hup t ht (by have := NEAR.out t ht hh; have := (XY.out t ht).1; unfold onG at this; omega) hft)
      have HB := Lib.hid (hb.trans (hbl.mono hq3))
      clear hup HITS NEAR XY YX HHIT HON hb hbl
      by_cases h1 : j ≤ (y + r) / 65536
      · have d1 : decide (j ≤ (y + r) / 65536) = true := decide_eq_true h1
        have d2 : decide (j < H) = false := decide_eq_false (by omega)
        go_wp2_with fail
        go_ret
        exact ⟨rfl, HB.out⟩
      · have d1 : decide (j ≤ (y + r) / 65536) = false := decide_eq_false h1
        go_wp2_with fail
        go_ret
        exact ⟨rfl, HB.out⟩
    obtain ⟨hc1, hc2⟩ := hc
    have d1 : decide (j ≤ (y + r) / 65536) = true := decide_eq_true hc1
    have d2 : decide (j < H) = true := decide_eq_true hc2
    have v0 := hV4.cell (i := 0) rfl
    have HUP := Lib.hid hup
    have HBL := Lib.hid hbl
    clear hup hbl
    go_wp2_with fail
    clear z1 v1 v0 d1 d2 hG4 hV4
    go_loopw [12] (fun xv wi => ∃ (i : Int), (x - r) / 65536 ≤ i ∧ i ≤ 16777216 ∧ xv = .int .i64 i ∧ upTo W n f x y r j i ∧ Below w3.heap.size w3 wi) (fun xv _ => (16777217 - intOf xv).toNat)
    case atStart => exact ⟨(x - r) / 65536, by omega, by omega, rfl, fun t ht h hft => by
      by_cases hlt : tY W t < j
      · exact HUP.out t ht (.inl hlt) hft
      · cases hh : hitsB W (t : Int) x y r with
        | false => rfl
        | true => have := NEAR.out t ht hh; omega, HBL.out⟩
    case round =>
      clear HUP HBL
      obtain ⟨i, hi0, hi1, rfl, hup, hbl⟩ := hrel
      have hG4 := hG.below hbl hGl
      have hV4 := hV.below hbl hVl
      have z0 := hG4.cell (i := 0) rfl
      have v0 := hV4.cell (i := 0) rfl
      by_cases hc : i ≤ (x + r) / 65536 ∧ i < W
      case neg =>
        have HU : Hid (upTo W n f x y r (j + 1) 0) := Lib.hid (fun t ht h hft => by
          cases hh : hitsB W (t : Int) x y r with
          | false => rfl
          | true =>
            rw [← hh]
            exact hup t ht (by have := NEAR.out t ht hh; have := (XY.out t ht).1; unfold onG at this; omega) hft)
        have HB := Lib.hid hbl
        clear hup HITS NEAR XY YX HHIT HON hb hbl
        by_cases h1 : i ≤ (x + r) / 65536
        · have d1 : decide (i ≤ (x + r) / 65536) = true := decide_eq_true h1
          have d2 : decide (i < W) = false := decide_eq_false (by omega)
          go_wp2_with fail
          go_roundw
          case rel => exact ⟨j + 1, by omega, by omega, by go_num, HU.out, HB.out⟩
          case measure => simp [intOf]; omega
        · have d1 : decide (i ≤ (x + r) / 65536) = false := decide_eq_false h1
          go_wp2_with fail
          go_roundw
          case rel => exact ⟨j + 1, by omega, by omega, by go_num, HU.out, HB.out⟩
          case measure => simp [intOf]; omega
      obtain ⟨hc3, hc4⟩ := hc
      have d1 : decide (i ≤ (x + r) / 65536) = true := decide_eq_true hc3
      have d2 : decide (i < W) = true := decide_eq_true hc4
      obtain ⟨e1, e2, e3, e4⟩ := YX.out i j ⟨by omega, hc4, by omega, hc2⟩
      have hq0 : 0 ≤ W * j := Int.mul_nonneg (by omega) (by omega)
      have hq1 : W * j ≤ 16384 := by
        have h5 := Int.mul_le_mul_of_nonneg_left (show j ≤ 128 by omega) (show 0 ≤ W by omega)
        omega
      have hij : ∀ t : Nat, t < n → tY W t = j → tX W t = i → t = (i + W * j).toNat := fun t ht h1 h2 => by have := (XY.out t ht).2; rw [h1, h2] at this; exact this.symm
      generalize (i + W * j).toNat = t at *
      have htz : (t : Int) < (n : Int) := by omega
      have ht0 : (0 : Int) ≤ (t : Int) := by omega
      have hwt : wrap64 (W * j) = W * j := by unfold wrap64; omega
      have hte : i + W * j = (t : Int) := e4.symm
      clear e4
      obtain ⟨bg, og, rfl, hbg, hcg⟩ := reads_bool (hgd.below (hbl.mono hq3)) e1
      have HN : Hid (hitsB W (t : Int) x y r = false ∨ f t = true → upTo W n f x y r j (i + 1)) := Lib.hid (fun hor u hu h hfu => by
        by_cases hlt : tY W u < j ∨ (tY W u = j ∧ tX W u < i)
        · exact hup u hu hlt hfu
        · obtain rfl := hij u hu (by omega) (by omega)
          rcases hor with h | h
          · exact h
          · rw [h] at hfu; cases hfu)
      have HHIT := Lib.hid (HHIT.out t e1)
      have HI := Lib.hid (HITS.out t e1)
      have HB := Lib.hid hbl
      clear hup HITS NEAR XY YX HON hbl hij e2 e3
      cases hft : f t with
      | true =>
        rw [hft] at hcg
        have HU := Lib.hid (HN.out (.inr hft))
        clear HN HHIT HI hft hb hG hV hG4 hV4
        go_wp2_with fail
        go_roundw
        case rel => exact ⟨i + 1, by omega, by omega, by go_num, HU.out, HB.out⟩
        case measure => simp [intOf]; omega
      | false =>
        rw [hft] at hcg
        have z1 := hG4.cell (i := 1) rfl
        have z2 := hG4.cell (i := 2) rfl
        have v1 := hV4.cell (i := 1) rfl
        go_wp2_with fail
        refine Calls.mono (HI.out _) ?_
        rintro e w5 ⟨rfl, hb5⟩
        have HB5 := Lib.hid (HB.out.trans (hb5.mono HB.out.size))
        clear hb5 HI z0 z1 z2 v0 v1 hcg
        cases hh : hitsB W (t : Int) x y r with
        | false =>
          have HU := Lib.hid (HN.out (.inl hh))
          clear HN HHIT hft hh hb HB
          go_wp2_with fail
          go_roundw
          case rel => exact ⟨i + 1, by omega, by omega, by go_num, HU.out, HB5.out⟩
          case measure => simp [intOf]; omega
        | true =>
          obtain rfl := HHIT.out hft hh
          have HBB := Lib.hid (hb.trans (HB5.out.mono hq3))
          clear HN HHIT hft hh hb HB
          go_wp2_with fail
          go_ret
          exact ⟨rfl, HBB.out⟩
end Go.Proofs.Ytjbnpgjndohjcaa
