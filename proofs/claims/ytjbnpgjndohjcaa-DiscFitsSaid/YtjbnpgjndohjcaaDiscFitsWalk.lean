/- The walk of the law DiscFits. -/
import Derived.Test.YtjbnpgjndohjcaaDiscFree
import Derived.Test.YtjbnpgjndohjcaaDiscFitsMath
import Derived.Test.YtjbnpgjndohjcaaRefMay17
import Derived.Test.YtjbnpgjndohjcaaRefMay8
import Derived.Test.YtjbnpgjndohjcaaGood13
import Derived.Test.YtjbnpgjndohjcaaSlotsAsk
import Derived.Test.YtjbnpgjndohjcaaRefCenter
namespace Go.Proofs.Ytjbnpgjndohjcaa
set_option maxRecDepth 20000
open Go.RowKit Go.WideShapes Go.ChangeShapes

namespace lawDiscFits
set_option maxHeartbeats 6400000 in
set_option maxRecDepth 100000 in
theorem walk {H : Type} {enc : TypeId × Value → H} (w : World) {base : Nat} (v : Value) (d : DataW H) (p : List MemPlace) (hv0 : Value.okWide Try.prog w .any base 63 v)
    (ht : DataW.Trod enc Try.prog w 0 (fun _ => true) true 63 v d p) : Calls Try.prog 12 #[v] w fun e w' => e = .returned (.bool true) ∧ Below w.heap.size w w' := by
  obtain ⟨W, H, A, n, c, ts, A1, n1, c1, l, k, s, A2, n2, c2, l2, rfl, hWr, hHr, hr, hby, ⟨hnc, hcm⟩, hv, ⟨hnc1, hcm1⟩, hkr, hsr, hr2, ⟨hnc2, hcm2⟩, hi2⟩ := open_ask13 hv0 ht
  unfold maxLen at hcm hcm1 hcm2
  clear hv0 ht hWr hHr hkr hsr hr2 hi2
  have hP := Blk.new w #[.int .i64 W, .int .i64 H, .slice A n c, .slice A1 n1 c1, .int .i64 k, .int .i64 s, .slice A2 n2 c2] 63
  have hb := (Below.refl w.heap.size w).alloc (Nat.le_refl _) (.cells #[.int .i64 W, .int .i64 H, .slice A n c, .slice A1 n1 c1, .int .i64 k, .int .i64 s, .slice A2 n2 c2] 63)
  have C0 := Lib.hid (heavy13 W H k s A A1 A2 n c n1 c1 n2 c2 (w.alloc (.cells #[.int .i64 W, .int .i64 H, .slice A n c, .slice A1 n1 c1, .int .i64 k, .int .i64 s, .slice A2 n2 c2] 63)) (by omega) (by omega) (by omega))
  have hnz : (n : Int) ≤ 9223372036854775807 := by omega
  clear hnc hcm hnc1 hcm1 hnc2 hcm2
  go_enter Try.func12, Try.ntmps12
  go_wp2_with fail
  generalize w.alloc (.cells #[.int .i64 W, .int .i64 H, .slice A n c, .slice A1 n1 c1, .int .i64 k, .int .i64 s, .slice A2 n2 c2] 63) = w1 at *
  refine Calls.mono C0.out ?_
  rintro e w2 ⟨rfl, hb2⟩
  clear C0 hnz
  replace hP := hP.below hb2 hP.lt
  replace hb := hb.trans (hb2.mono hb.size)
  clear hb2
  by_cases hh : 700 < n ∨ 30 < n1 ∨ 30 < n2
  case pos =>
    rw [decide_eq_true hh]
    clear hP hh
    go_wp2_with fail
    go_ret
    exact ⟨rfl, hb⟩
  rw [decide_eq_false hh]
  obtain ⟨hn7, hn31, hn32⟩ : n ≤ 700 ∧ n1 ≤ 30 ∧ n2 ≤ 30 := by omega
  clear hh
  have x0 := hP.cell (i := 0) rfl
  have x1 := hP.cell (i := 1) rfl
  have x2 := hP.cell (i := 2) rfl
  have x3 := hP.cell (i := 3) rfl
  have x4 := hP.cell (i := 4) rfl
  have x5 := hP.cell (i := 5) rfl
  have M := Lib.hid (ref13_may W H k s A n c w.heap.size ts A1 n1 c1 l w2 (hr.below hb) hb.size hby (hv.below hb) (by omega) (by omega))
  go_wp2_with fail
  refine Calls.mono M.out ?_
  rintro e w3 ⟨rfl, hb3⟩
  clear M x0 x1 x2 x3 x4 x5
  replace hP := hP.below hb3 hP.lt
  replace hb := hb.trans (hb3.mono hb.size)
  clear hb3
  by_cases hA : allS n W H ts l k s
  case neg =>
    rw [decide_eq_false hA]
    clear hP hA
    go_wp2_with fail
    go_ret
    exact ⟨rfl, hb⟩
  rw [decide_eq_true hA]
  have x2 := hP.cell (i := 2) rfl
  by_cases hn3 : 300 < n
  case pos =>
    have d1 : decide ((300 : Int) < (n : Int)) = true := by simp; omega
    clear hP hA
    go_wp2_with fail
    go_ret
    exact ⟨rfl, hb⟩
  have d1 : decide ((300 : Int) < (n : Int)) = false := by simp; omega
  obtain ⟨hW0, hW1, hH0, hH1, hlen, _⟩ := isG_bounds hA.1.1
  have hll := hv.1
  have hnn : (n : Int) = W * H := by have := hr.1; simp [nums] at this; omega
  obtain ⟨ml, hR, hK⟩ := room_ex (openT W ts l n1 k) hW0 hW1 hnn
  have hall : ∀ i, i < n1 → formP (bdAt l i) ∧ onP W H (bdAt l i) := fun i hi => ⟨(hA.1.2.1.2.2 i (by rw [hll]; exact hi)).1, (hA.1.2.1.2.2 i (by rw [hll]; exact hi)).2.1⟩
  have GC := Lib.hid (ref_good W H k s A n c w.heap.size ts A1 n1 c1 l w3 (hr.below hb) hb.size hA.1.1 hby (hv.below hb) (by omega) hall hA.1.2.2 ml hR hK)
  have OC := Lib.hid (fun W' (h : Below w.heap.size w W') => ref_open W H k A n c w.heap.size ts A1 n1 c1 l W' (hr.below h) h.size hA.1.1 hby (hv.below h) (by omega) hall hA.1.2.2)
  have FC := Lib.hid (fun (x y r : Int) (hf : formB x y r = true) W' (h : Below w.heap.size w W') => disc_free W H k x y r A n c w.heap.size ts A1 n1 c1 l W' (hr.below h) h.size hby (hv.below h) (by omega) hA.1 hf)
  have hs0 := hA.2.1
  have hs3 := hA.2.2
  have HMF := Lib.hid (fun (t : Nat) (ht : t < n) (hg : s < ml.getD t 0) => mid_free hW0 hW1 hH1 hnn (by omega) hR ht hs0 hg)
  have HML := Lib.hid (fun (t : Nat) (ht : t < n) => mid_low (f := openT W ts l n1 k) hW0 hW1 hH1 hnn (by omega) ht)
  have HG : Hid (∀ t, goodT ml s t = true → s < ml.getD t 0) := Lib.hid (fun t h => of_decide_eq_true h)
  have HNN := Lib.hid hnn
  generalize goodT ml s = good at *
  generalize openT W ts l n1 k = op at *
  clear hall hK hA hll hnn hlen hv hr hby hR
  have x0 := hP.cell (i := 0) rfl
  have x1 := hP.cell (i := 1) rfl
  have x3 := hP.cell (i := 3) rfl
  have x4 := hP.cell (i := 4) rfl
  have x5 := hP.cell (i := 5) rfl
  go_wp2_with fail
  refine Calls.mono GC.out ?_
  rintro e w4 ⟨A7, c7, rfl, hOg, hb4⟩
  clear GC d1
  clear x0 x1 x2 x3 x4 x5
  replace hP := hP.below hb4 hP.lt
  replace hb := hb.trans (hb4.mono hb.size)
  clear hb4
  have x0 := hP.cell (i := 0) rfl
  have x1 := hP.cell (i := 1) rfl
  have x2 := hP.cell (i := 2) rfl
  have x3 := hP.cell (i := 3) rfl
  have x4 := hP.cell (i := 4) rfl
  go_wp2_with fail
  refine Calls.mono (OC.out _ hb) ?_
  rintro e w5 ⟨A8, c8, rfl, hOo, hb5⟩
  clear x0 x1 x2 x3 x4 OC
  replace hP := hP.below hb5 hP.lt
  replace hb := hb.trans (hb5.mono hb.size)
  have hgd := Reads.of_own (own_below hOg hb5)
  have hop := Reads.of_own hOo
  clear hb5 hOg hOo
  have x5 := hP.cell (i := 5) rfl
  go_wp2_with fail
  clear x5
  have hpl := hP.lt
  have hs5 := hb.size
  go_loopw [6] (fun tv wr => ∃ (t : Nat), t ≤ 400 ∧ tv = .int .i64 (t : Int) ∧ Below w5.heap.size w5 wr) (fun tv _ => n - (intOf tv).toNat)
  case atStart => exact ⟨0, Nat.zero_le _, rfl, Below.refl _ _⟩
  case round =>
    obtain ⟨t, ht, rfl, hbl⟩ := hrel
    have HP := Lib.hid hP
    have HB := Lib.hid hb
    have HGD := Lib.hid hgd
    have HOP := Lib.hid hop
    have HL := Lib.hid hbl
    clear hP hb hgd hop hbl
    by_cases htn : t < n
    case neg =>
      clear HGD HOP FC HMF HML HG
      have HB2 := Lib.hid (HB.out.trans (HL.out.mono hs5))
      have htz : (n : Int) ≤ (t : Int) := by omega
      go_wp2_with fail
      refine Calls.mono (wakes17 _) ?_
      rintro e w7 ⟨rfl, hb7⟩
      have HB3 := Lib.hid (HB2.out.trans (hb7.mono HB2.out.size))
      clear hb7
      go_wp2_with fail
      go_ret
      exact ⟨rfl, HB3.out⟩
    have htz : (t : Int) < (n : Int) := by omega
    obtain ⟨⟨gx0, gx1, gy0, gy1⟩, _⟩ := tile_xy hW0 HNN.out htn
    unfold tX at gx0 gx1
    unfold tY at gy0 gy1
    have hT : tileB W H (t : Int) = true := decide_eq_true ⟨by omega, by rw [← HNN.out]; exact htz⟩
    have F1 := fun W' h => FC.out _ _ (s * 65536 + 32768) (mid_form (a := (t : Int) % W) (b := (t : Int) / W) ⟨gx0, by omega⟩ ⟨gy0, by omega⟩ (by omega) (by omega)) W' h
    have F2 := fun W' h => FC.out _ _ 1 (mid_form (a := (t : Int) % W) (b := (t : Int) / W) ⟨gx0, by omega⟩ ⟨gy0, by omega⟩ (by omega) (by omega)) W' h
    rw [HML.out t htn] at F2
    have CEN := fun W' => ref_center W H (t : Int) A n c W' hW0 hW1 hH0 hH1 hT
    have hB1 : good t = true → freeB W H n op ((t : Int) % W * 65536 + 32768) ((t : Int) / W * 65536 + 32768) (s * 65536 + 32768) = true := fun h => HMF.out t htn (HG.out t h)
    generalize freeB W H n op ((t : Int) % W * 65536 + 32768) ((t : Int) / W * 65536 + 32768) (s * 65536 + 32768) = B1 at *
    generalize (t : Int) % W * 65536 + 32768 = cx at *
    generalize (t : Int) / W * 65536 + 32768 = cy at *
    clear gx0 gx1 gy0 gy1 hT
    replace F1 := Lib.hid F1
    replace F2 := Lib.hid F2
    replace CEN := Lib.hid CEN
    obtain ⟨bg, og, rfl, hbg, hcg⟩ := reads_bool (HGD.out.below HL.out) htn
    obtain ⟨bo, oo, rfl, hbo, hco⟩ := reads_bool (HOP.out.below HL.out) htn
    generalize good t = G at *
    generalize op t = O at *
    clear HMF HML HG FC HGD HOP
    have hP := HP.out.below HL.out hpl
    have C9 := Lib.hid (fun u => calls_over (x := u) (CEN.out (over wr u)))
    have F9 := Lib.hid (fun u => calls_over (x := u) (F1.out (over wr u) (HB.out.trans ((HL.out.trans ((over_below wr u).mono HL.out.size)).mono hs5))))
    have hplw := Nat.lt_of_lt_of_le hpl HL.out.size
    have x0 := hP.cell (i := 0) rfl
    have x1 := hP.cell (i := 1) rfl
    have x2 := hP.cell (i := 2) rfl
    have x3 := hP.cell (i := 3) rfl
    have x4 := hP.cell (i := 4) rfl
    go_wp2_with fail
    refine wp_region_over (by kernel_rfl) (by kernel_rfl) ?_
    repeat (go_big_quiet_step (first | (go_at_call 46; with_reducible exact C9.out _) | (go_at_call 41; with_reducible exact F9.out _)))
    refine wpQuiet_nil ?_
    rintro wq ⟨xq, rfl⟩
    have HL6 := Lib.hid (HL.out.trans ((over_below wr xq).mono HL.out.size))
    replace hcg := ((over_below wr xq).cell (p := ⟨bg, og + t, none⟩) (Nat.lt_of_lt_of_le hbg HL.out.size)).trans hcg
    replace hco := ((over_below wr xq).cell (p := ⟨bo, oo + t, none⟩) (Nat.lt_of_lt_of_le hbo HL.out.size)).trans hco
    generalize over wr xq = w6 at *
    clear x0 x1 x2 x3 x4 hP C9 F9 hplw F1 HL
    have hP := HP.out.below HL6.out hpl
    have C9 := Lib.hid (fun u => calls_over (x := u) (CEN.out (over w6 u)))
    have F9 := Lib.hid (fun u => calls_over (x := u) (F2.out (over w6 u) (HB.out.trans ((HL6.out.trans ((over_below w6 u).mono HL6.out.size)).mono hs5))))
    have hplw := Nat.lt_of_lt_of_le hpl HL6.out.size
    have x0 := hP.cell (i := 0) rfl
    have x1 := hP.cell (i := 1) rfl
    have x2 := hP.cell (i := 2) rfl
    have x3 := hP.cell (i := 3) rfl
    have x4 := hP.cell (i := 4) rfl
    go_wp2_with fail
    refine wp_region_over (by kernel_rfl) (by kernel_rfl) ?_
    repeat (go_big_quiet_step (first | (go_at_call 46; with_reducible exact C9.out _) | (go_at_call 41; with_reducible exact F9.out _)))
    refine wpQuiet_nil ?_
    rintro wq ⟨xq, rfl⟩
    have HL7 := Lib.hid (HL6.out.trans ((over_below w6 xq).mono HL6.out.size))
    replace hcg := ((over_below w6 xq).cell (p := ⟨bg, og + t, none⟩) (Nat.lt_of_lt_of_le hbg HL6.out.size)).trans hcg
    replace hco := ((over_below w6 xq).cell (p := ⟨bo, oo + t, none⟩) (Nat.lt_of_lt_of_le hbo HL6.out.size)).trans hco
    generalize over w6 xq = w7 at *
    clear x0 x1 x2 x3 x4 hP C9 F9 hplw F2 HL6
    clear CEN
    cases G
    case' true => obtain rfl : B1 = true := hB1 rfl
    case' false => skip
    all_goals
      clear hB1
      cases O
      all_goals
        go_wp2_with (go_at_call 20; (with_reducible refine (num17 _ _).mono ?_); rintro e w19 ⟨rfl, rfl⟩)
        go_roundw
        case rel => exact ⟨t + 1 + n / 40, by omega, by first | go_num | (congr 1; omega) | (simp; omega), HL7.out⟩
        case measure => simp [intOf]; omega
end lawDiscFits
end Go.Proofs.Ytjbnpgjndohjcaa
