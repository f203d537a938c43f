/- May buildings be, on a ground that may be? The game's own way. -/
import Derived.Test.YtfgjiaakoacomaaBuildRise
import Derived.Test.YtfgjiaakoacomaaBuildFirm
import Derived.Test.YtfgjiaakoacomaaBools
namespace Go.Proofs.Ytfgjiaakoacomaa
set_option maxRecDepth 20000
open Go.RowKit

theorem may_okTo {n : Nat} {W H : Int} {ts : List Int} {l : List Bd} {k : Nat} (hk : ∀ j, j < k → okAt n W H ts l j) (h : okAt n W H ts l k) : ∀ j, j < k + 1 → okAt n W H ts l j := fun j hj => by
  by_cases e : j < k
  · exact hk j e
  · obtain rfl : j = k := by omega
    exact h

theorem own_other {w : World} {base : Nat} {e : TypeId} {size n : Nat} {v : Value} {xs : List Value} (h : w.ownsRow base e size v n xs) {b o : Nat} (hb : ¬ base ≤ b) (u : Value) : (w.setCell ⟨b, o, none⟩ u).ownsRow base e size v n xs := by
  refine ⟨h.1, ?_⟩
  rcases h.2 with hn | ⟨g, cap, cur, hv, hg, hh, r⟩
  · exact .inl hn
  · exact .inr ⟨g, cap, cur, hv, hg, by rw [Below.heap_setCell _ _ _ _ (by show g ≠ b; omega)]; exact hh, r⟩

set_option maxHeartbeats 3200000 in
set_option maxRecDepth 20000 in
theorem build_may (W H : Int) (A : Option Addr) (n c B : Nat) (ts : List Int) (A1 : Option Addr) (n1 c1 : Nat) (l : List Bd) (w : World) (hr : Reads w B 1 A n (nums .u8 ts)) (hB : B ≤ w.heap.size) (hW0 : 1 ≤ W) (hW1 : W ≤ 128) (hH0 : 1 ≤ H) (hH1 : H ≤ 128) (hn : (n : Int) = W * H) (hv : BdsL w A1 n1 l) (hn1 : n1 ≤ 1000000) :
    Calls Try.prog 57 #[.agg #[.int .i64 W, .int .i64 H, .slice A n c], .slice A1 n1 c1] w fun e w' => e = .returned (.bool (decide (mayP n W H ts l))) ∧ Below w.heap.size w w' := by
  generalize hr' : decide (mayP n W H ts l) = r
  have HR := Lib.hid hr'
  clear hr'
  have hno : ¬ mayP n W H ts l → false = r := fun h => by rw [← HR.out]; exact (decide_eq_false h).symm
  have hp := prod_range hW0 hW1 hH0 hH1
  have hn4 : n ≤ 16384 := by omega
  have hll := Lib.hid hv.1
  replace hn := Lib.hid hn
  have hmk : ∀ w, (Instr.makeSlice 39 (.int .i64 (n : Int)) (.int .i64 (n : Int))).run Try.prog w = .ok (.slice (some ⟨w.heap.size, 0, none⟩) n n) (w.alloc (.cells (zrowB n) 4)) := fun w => make_bools n w (by omega)
  have hG := Blk.new w #[.int .i64 W, .int .i64 H, .slice A n c] 24
  have hb := (Below.refl w.heap.size w).alloc (Nat.le_refl _) (.cells #[.int .i64 W, .int .i64 H, .slice A n c] 24)
  go_enter Try.func57, Try.ntmps57
  by_cases h256 : n1 ≤ 256
  case neg =>
    obtain rfl := hno fun h => by have := h.1; rw [hll.out] at this; omega
    have d1 : decide ((256 : Int) < (n1 : Int)) = true := by simp; omega
    go_wp2_with fail
    go_ret
    exact ⟨rfl, hb⟩
  have d1 : decide ((256 : Int) < (n1 : Int)) = false := by simp; omega
  go_wp2_with fail
  generalize w.alloc (.cells #[.int .i64 W, .int .i64 H, .slice A n c] 24) = w1 at *
  refine Calls.mono (build_rising A1 n1 c1 l w1 (hv.below hb) hn1) ?_
  rintro e w2 ⟨rfl, hb2⟩
  have hG2 := hG.below hb2 hG.lt
  replace hb := hb.trans (hb2.mono hb.size)
  clear hG hb2 d1
  by_cases hris : risesP l
  case neg =>
    obtain rfl := hno fun h => hris h.2.1
    rw [decide_eq_false hris]
    go_wp2_with fail
    go_ret
    exact ⟨rfl, hb⟩
  rw [decide_eq_true hris]
  have x2 := hG2.cell (i := 2) rfl
  go_wp2_with fail
  clear x2
  have hO := ownb_made w2 n (by omega)
  have hbm := (Below.refl w2.heap.size w2).alloc (Nat.le_refl _) (.cells (zrowB n) 4)
  have hG3 := hG2.below hbm hG2.lt
  have hgw : w.heap.size ≤ w2.heap.size := hb.size
  have hGl := hG2.lt
  replace hb := hb.trans (hbm.mono hgw)
  clear hG2 hbm
  generalize w2.alloc (.cells (zrowB n) 4) = w3 at *
  generalize w2.heap.size = g at *
  rw [bools_congr (g := fun t => covK W l 0 (t : Int)) (fun t _ => by simp [covK])] at hO
  go_loopw [24] (fun i wr => ∃ (k : Nat), k ≤ n1 ∧ i = .int .i64 k ∧ (∀ j, j < k → okAt n W H ts l j) ∧ wr.ownsRow g 4 1 (.slice (some ⟨g, 0, none⟩) n n) n (bools n (fun t => covK W l k (t : Int))) ∧ Blk wr w.heap.size #[.int .i64 W, .int .i64 H, .slice A n c] 24 ∧ Below w.heap.size w wr) (fun i _ => n1 - (intOf i).toNat)
  case atStart => exact ⟨0, Nat.zero_le _, rfl, fun j hj => absurd hj (by omega), hO, hG3, hb⟩
  case round =>
    clear hO hG3 hb
    obtain ⟨k, hk, rfl, hall, hO, hG, hb⟩ := hrel
    by_cases hlt : k < n1
    case neg =>
      have hyes : true = r := by
        rw [← HR.out]
        exact (decide_eq_true ⟨by rw [hll.out]; exact h256, hris, fun i hi => hall i (by rw [hll.out] at hi; omega)⟩).symm
      subst hyes
      replace hb := Lib.hid hb
      clear hO hG hall hv hno
      go_wp2_with fail
      go_ret
      exact ⟨rfl, hb.out⟩
    obtain ⟨bb, o, rfl, hbb, ⟨k0, k1, k2, k3, k4, k5⟩, q0, q1, q2, q3, q4, q5⟩ := (hv.below hb).2 k hlt
    have hkl : k < l.length := by rw [hll.out]; exact hlt
    have hN := Lib.hid (fun (h : ¬ okAt n W H ts l k) => hno fun hm => h (hm.2.2 k hkl))
    have hA := Lib.hid (apart_iff (n := n) (W := W) (H := H) (ts := ts) (l := l) (i := k))
    have hcs := Lib.hid (fun t => covK_succ W l k t)
    have hok := Lib.hid (may_okTo hall)
    replace hall := Lib.hid hall
    have hbase : w.heap.size ≤ wr.heap.size := hb.size
    generalize hbk : bdAt l k = bd at *
    obtain ⟨id, ow, x, y, bw, bh⟩ := bd
    simp only at k0 k1 k2 k3 k4 k5 q0 q1 q2 q3 q4 q5
    have hX := Blk.new wr #[.int .i64 id, .int .i64 ow, .int .i64 x, .int .i64 y, .int .i64 bw, .int .i64 bh] 76
    have hbX : Below wr.heap.size wr (wr.alloc (.cells #[.int .i64 id, .int .i64 ow, .int .i64 x, .int .i64 y, .int .i64 bw, .int .i64 bh] 76)) := (Below.refl _ _).alloc (Nat.le_refl _) _
    replace hG := hG.below hbX hG.lt
    replace hO := own_below hO hbX
    replace hb := hb.trans (hbX.mono hbase)
    -- behind
    replace hbk := Lib.hid hbk
    clear hv
    have y0 := hX.cell (i := 0) rfl
    have y1 := hX.cell (i := 1) rfl
    have y2 := hX.cell (i := 2) rfl
    have y3 := hX.cell (i := 3) rfl
    have y4 := hX.cell (i := 4) rfl
    have y5 := hX.cell (i := 5) rfl
    have z0 := hG.cell (i := 0) rfl
    have z1 := hG.cell (i := 1) rfl
    have z2 := hG.cell (i := 2) rfl
    have CF := build_form id ow x y bw bh
    by_cases hf : formP ⟨id, ow, x, y, bw, bh⟩
    case neg =>
      obtain rfl := hN.out (fun h => hf (by have := h.1; rwa [hbk.out] at this))
      rw [decide_eq_false (show ¬ (1 ≤ id ∧ id ≤ 1099511627776 ∧ 1 ≤ ow ∧ ow ≤ 8 ∧ 1 ≤ bw ∧ bw ≤ 4 ∧ 1 ≤ bh ∧ bh ≤ 4) from hf)] at CF
      replace CF := Lib.hid CF
      clear hbX
      go_wp2_with fail
      generalize wr.alloc (.cells #[.int .i64 id, .int .i64 ow, .int .i64 x, .int .i64 y, .int .i64 bw, .int .i64 bh] 76) = w4 at *
      generalize wr.heap.size = X at *
      refine Calls.mono (CF.out _) ?_
      rintro e w9 ⟨rfl, hb9⟩
      replace hb := Lib.hid (hb.trans (hb9.mono hb.size))
      clear hb9 hG hX hO
      go_wp2_with fail
      go_ret
      exact ⟨rfl, hb.out⟩
    rw [decide_eq_true (show (1 ≤ id ∧ id ≤ 1099511627776 ∧ 1 ≤ ow ∧ ow ≤ 8 ∧ 1 ≤ bw ∧ bw ≤ 4 ∧ 1 ≤ bh ∧ bh ≤ 4) from hf)] at CF
    replace CF := Lib.hid CF
    have bnd := hf
    unfold formP at bnd
    simp only at bnd
    have CO := fun W' => build_on W H id ow x y bw bh W' A n c hW0 hW1 hH0 hH1 (by omega) (by omega) (by omega) (by omega)
    clear hbX
    go_wp2_with fail
    generalize wr.alloc (.cells #[.int .i64 id, .int .i64 ow, .int .i64 x, .int .i64 y, .int .i64 bw, .int .i64 bh] 76) = w4 at *
    generalize wr.heap.size = X at *
    refine Calls.mono (CF.out _) ?_
    rintro e w5 ⟨rfl, hb5⟩
    clear CF k0 k1 k2 k3 k4 k5
    clear y0 y1 y2 y3 y4 y5
    clear z0 z1 z2
    replace hG := hG.below hb5 hG.lt
    replace hX := hX.below hb5 hX.lt
    replace hO := own_below hO hb5
    replace hb := hb.trans (hb5.mono hb.size)
    clear hb5
    have y0 := hX.cell (i := 0) rfl
    have y1 := hX.cell (i := 1) rfl
    have y2 := hX.cell (i := 2) rfl
    have y3 := hX.cell (i := 3) rfl
    have y4 := hX.cell (i := 4) rfl
    have y5 := hX.cell (i := 5) rfl
    have z0 := hG.cell (i := 0) rfl
    have z1 := hG.cell (i := 1) rfl
    have z2 := hG.cell (i := 2) rfl
    by_cases ho : onP W H ⟨id, ow, x, y, bw, bh⟩
    case neg =>
      obtain rfl := hN.out (fun h => ho (by have := h.2.1; rwa [hbk.out] at this))
      rw [decide_eq_false (show ¬ (0 ≤ x ∧ x ≤ W - bw ∧ 0 ≤ y ∧ y ≤ H - bh) from ho)] at CO
      replace CO := Lib.hid CO
      skip
      go_wp2_with fail
      refine Calls.mono (CO.out _) ?_
      rintro e w9 ⟨rfl, hb9⟩
      replace hb := Lib.hid (hb.trans (hb9.mono hb.size))
      clear hb9 hG hX hO
      go_wp2_with fail
      go_ret
      exact ⟨rfl, hb.out⟩
    rw [decide_eq_true (show (0 ≤ x ∧ x ≤ W - bw ∧ 0 ≤ y ∧ y ≤ H - bh) from ho)] at CO
    replace CO := Lib.hid CO
    have bno := ho
    unfold onP at bno
    simp only at bno
    have hmt := fun z => mem_tiles (z := z) hf ho
    (try simp only at hmt)
    have hfi := firm_iff (ts := ts) hf ho hn.out
    (try simp only at hfi)
    have hlz : ∀ z ∈ tilesL W x y bw bh, 0 ≤ z ∧ z < n := fun z hz => by
      obtain ⟨z0, z1, _⟩ := (hmt z).1 hz
      have := hn.out
      omega
    have CR := fun (W' : World) (h : Below w.heap.size w W') => build_firm W H id ow x y bw bh A n c B ts W' (hr.below (h.mono hB)) (Nat.le_trans hB h.size) hn4 hW0 hW1 (by omega) (by omega) (by omega) (by omega) (by omega) (by omega) (by omega) (by omega) hlz
    simp only [hfi] at CR
    go_wp2_with fail
    refine Calls.mono (CO.out _) ?_
    rintro e w6 ⟨rfl, hb6⟩
    clear CO
    clear y0 y1 y2 y3 y4 y5
    clear z0 z1 z2
    replace hG := hG.below hb6 hG.lt
    replace hX := hX.below hb6 hX.lt
    replace hO := own_below hO hb6
    replace hb := hb.trans (hb6.mono hb.size)
    clear hb6
    have y0 := hX.cell (i := 0) rfl
    have y1 := hX.cell (i := 1) rfl
    have y2 := hX.cell (i := 2) rfl
    have y3 := hX.cell (i := 3) rfl
    have y4 := hX.cell (i := 4) rfl
    have y5 := hX.cell (i := 5) rfl
    have z0 := hG.cell (i := 0) rfl
    have z1 := hG.cell (i := 1) rfl
    have z2 := hG.cell (i := 2) rfl
    by_cases hfm : firmP n W ts ⟨id, ow, x, y, bw, bh⟩
    case neg =>
      obtain rfl := hN.out (fun h => hfm (by have := h.2.2.1; rwa [hbk.out] at this))
      simp only [decide_eq_false hfm] at CR
      replace CR := Lib.hid CR
      go_wp2_with fail
      refine Calls.mono (CR.out _ hb) ?_
      rintro e w9 ⟨rfl, hb9⟩
      replace hb := Lib.hid (hb.trans (hb9.mono hb.size))
      clear hb9 hG hX hO
      go_wp2_with fail
      go_ret
      exact ⟨rfl, hb.out⟩
    simp only [decide_eq_true hfm] at CR
    replace CR := Lib.hid CR
    have CT := Lib.hid (fun W' => build_tiles W H id ow x y bw bh A n c W' hW0 hW1 (by omega) (by omega) (by omega) (by omega) (by omega) (by omega) (by omega) (by omega))
    go_wp2_with fail
    refine Calls.mono (CR.out _ hb) ?_
    rintro e w7 ⟨rfl, hb7⟩
    clear CR
    clear y0 y1 y2 y3 y4 y5
    clear z0 z1 z2
    replace hG := hG.below hb7 hG.lt
    replace hX := hX.below hb7 hX.lt
    replace hO := own_below hO hb7
    replace hb := hb.trans (hb7.mono hb.size)
    clear hb7
    have y0 := hX.cell (i := 0) rfl
    have y1 := hX.cell (i := 1) rfl
    have y2 := hX.cell (i := 2) rfl
    have y3 := hX.cell (i := 3) rfl
    have y4 := hX.cell (i := 4) rfl
    have y5 := hX.cell (i := 5) rfl
    have z0 := hG.cell (i := 0) rfl
    have z1 := hG.cell (i := 1) rfl
    have z2 := hG.cell (i := 2) rfl
    go_wp2_with fail
    refine Calls.mono (CT.out _) ?_
    rintro e w8 ⟨A5, c5, rfl, hown5, hb8⟩
    clear CT
    clear y0 y1 y2 y3 y4 y5
    clear z0 z1 z2
    have hg7 : g < w7.heap.size := by
      obtain ⟨g', cap, hv, _, hlt⟩ := hO.form (show 0 < n by have := hn.out; omega)
      injection hv with hv
      injection hv with hv
      injection hv with hv
      omega
    have hw8 := hb8.size
    replace hG := hG.below hb8 hG.lt
    replace hX := hX.below hb8 hX.lt
    replace hO := own_below hO hb8
    replace hb := hb.trans (hb8.mono hb.size)
    clear hb8
    have hfr := fun q (hq : q < (tilesL W x y bw bh).length) => tiles_fresh (b := ⟨id, ow, x, y, bw, bh⟩) hf ho hq
    (try simp only at hfr)
    have hA2 := hA.out hf ho hall.out
    (try simp only at hA2)
    clear hA
    have hcov : ∀ t : Nat, t < n → covK W l (k + 1) (t : Int) = (covK W l k (t : Int) || decide ((t : Int) ∈ tilesL W x y bw bh)) := fun t ht => by
      rw [hcs.out]
      congr 1
      refine decide_eq_decide.2 ((hmt (t : Int)).trans ⟨fun h => h.2.2, fun h => ⟨by omega, by have := hn.out; omega, h⟩⟩).symm
    have hokk : apartP l k → okAt n W H ts l k := fun h => by
      unfold okAt
      rw [hbk.out]
      exact ⟨hf, ho, hfm, h⟩
    have htl16 : (tilesL W x y bw bh).length ≤ 16 := by
      unfold tilesL
      rw [tilesR_len]
      exact Nat.mul_le_mul (show bh.toNat ≤ 4 by omega) (show bw.toNat ≤ 4 by omega)
    generalize tilesL W x y bw bh = tl at *
    have hr5 := Reads.of_own hown5
    have htl := hr5.1
    have hfr2 := Lib.hid hfr
    clear hfr
    have hO' : w8.ownsRow g 4 1 (.slice (some ⟨g, 0, none⟩) n n) n (bools n (fun t => covK W l k (t : Int) || decide ((t : Int) ∈ tl.take 0))) := by
      rw [bools_congr (g := fun t => covK W l k (t : Int)) (fun t _ => by simp)]
      exact hO
    clear hX hr5 htl hO
    go_wp2_with fail
    go_loopw [47] (fun i wr => ∃ (q : Nat), q ≤ tl.length ∧ i = .int .i64 q ∧ wr.ownsRow g 4 1 (.slice (some ⟨g, 0, none⟩) n n) n (bools n (fun t => covK W l k (t : Int) || decide ((t : Int) ∈ tl.take q))) ∧ (∀ z ∈ tl.take q, covK W l k z = false) ∧ wr.ownsRow w7.heap.size 3 1 (.slice A5 tl.length c5) tl.length (nums .i64 tl) ∧ Blk wr w.heap.size #[.int .i64 W, .int .i64 H, .slice A n c] 24 ∧ Below w.heap.size w wr) (fun i _ => tl.length - (intOf i).toNat)
    case atStart => exact ⟨0, Nat.zero_le _, rfl, hO', fun z hz => absurd hz (by simp), hown5, hG, hb⟩
    case round =>
      clear hO' hown5 hG hb
      obtain ⟨q, hq, rfl, hO, hall2, hown5, hG, hb⟩ := hrel
      by_cases hqt : q < tl.length
      case neg =>
        obtain rfl : q = tl.length := by omega
        rw [List.take_of_length_le (Nat.le_refl _)] at hall2
        have HK := Lib.hid (hok.out (hokk (hA2.2 hall2)))
        have hO2 : wr.ownsRow g 4 1 (.slice (some ⟨g, 0, none⟩) n n) n (bools n (fun t => covK W l (k + 1) (t : Int))) := by
          rw [bools_congr (g := fun t => covK W l k (t : Int) || decide ((t : Int) ∈ tl.take tl.length)) (fun t ht => by rw [hcov t ht, List.take_of_length_le (Nat.le_refl _)])]
          exact hO
        have HO := Lib.hid hO2
        have HG := Lib.hid hG
        have HB := Lib.hid hb
        clear hO hO2 hall2 hown5 hG hb hA2 hokk hcov hmt hfi hlz hfr2
        go_wp2_with fail
        go_roundw
        case rel => exact ⟨k + 1, by omega, by go_num, HK.out, HO.out, HG.out, HB.out⟩
        case measure => simp [intOf]; omega
      have hmem : tl.getD q 0 ∈ tl := by simp only [List.getD, List.getElem?_eq_getElem hqt, Option.getD_some]; exact List.getElem_mem hqt
      have hfresh := hfr2.out q hqt
      have hz := hlz _ hmem
      have htk : tl.take (q + 1) = tl.take q ++ [tl.getD q 0] := by rw [List.take_succ_eq_append_getElem hqt]; simp only [List.getD, List.getElem?_eq_getElem hqt, Option.getD_some]
      obtain ⟨g5, rfl, hg5, hgl5, hc5, _⟩ := own_at hown5 hqt
      generalize tl.getD q 0 = z at *
      obtain ⟨t, rfl⟩ := Int.eq_ofNat_of_zero_le hz.1
      have ht : t < n := by omega
      obtain ⟨g', hg', _, hgl, hcb, hfb⟩ := ownb_at hO ht
      cases hg'
      rw [show decide ((t : Int) ∈ tl.take q) = false from decide_eq_false hfresh, Bool.or_false] at hcb
      cases hc : covK W l k (t : Int) with
      | true =>
        obtain rfl := hN.out (fun h => by
          have := hA2.1 h.2.2.2 _ hmem
          rw [hc] at this; cases this)
        rw [hc] at hcb
        have HB := Lib.hid hb
        clear hO hall2 hown5 hG hb hA2 hokk hcov hmt hfi hlz hfr2 hc
        go_wp2_with fail
        go_ret
        exact ⟨rfl, HB.out⟩
      | false =>
        rw [hc] at hcb
        have hO2 := ownb_store (k := t) hO true
        rw [bools_congr (g := fun u => covK W l k (u : Int) || decide ((u : Int) ∈ tl.take (q + 1))) (fun u _ => by
          rw [htk]
          by_cases e : u = t
          · subst e; simp
          · rw [if_neg e]
            congr 1
            refine decide_eq_decide.2 ?_
            simp only [List.mem_append, List.mem_singleton]
            exact ⟨fun h => .inl h, fun h => h.elim (fun h => h) fun h => absurd (by omega) e⟩)] at hO2
        have HO := Lib.hid hO2
        have H5 := Lib.hid (own_other hown5 (b := g) (o := t) (by omega) (.bool true))
        have HG := Lib.hid (hG.other (a := ⟨g, t, none⟩) (by show w.heap.size ≠ g; omega) (.bool true))
        have HB := Lib.hid (hb.setCell (p := ⟨g, t, none⟩) (by show w.heap.size ≤ g; omega) (.bool true))
        have HA := Lib.hid (show ∀ z ∈ tl.take (q + 1), covK W l k z = false from fun z hz => by
          rw [htk] at hz
          rcases List.mem_append.1 hz with h | h
          · exact hall2 z h
          · rw [List.mem_singleton.1 h]; exact hc)
        clear hO hO2 hall2 hown5 hG hb hA2 hokk hcov hmt hfi hlz hc hfresh htk hmem
        go_wp2_with fail
        go_roundw
        case rel => exact ⟨q + 1, by omega, by go_num, HO.out, HA.out, H5.out, HG.out, HB.out⟩
        case measure => simp [intOf]; omega
end Go.Proofs.Ytfgjiaakoacomaa
