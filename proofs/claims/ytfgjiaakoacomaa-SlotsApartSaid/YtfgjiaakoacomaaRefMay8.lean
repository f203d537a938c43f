/- May buildings be? The page's way. -/
import Derived.Test.YtfgjiaakoacomaaRefFirm
namespace Go.Proofs.Ytfgjiaakoacomaa
set_option maxRecDepth 20000
open Go.RowKit

set_option maxHeartbeats 6400000 in
set_option maxRecDepth 20000 in
theorem ref_may8 (W H : Int) (A : Option Addr) (n c B : Nat) (ts : List Int) (A1 : Option Addr) (n1 c1 : Nat) (l : List Bd) (w : World) (hr : Reads w B 1 A n (nums .u8 ts)) (hB : B ≤ w.heap.size) (hl : IsBytes ts) (hv : BdsL w A1 n1 l) (hn1 : n1 ≤ 1000000) (hn9 : n ≤ 4611686018427387904) :
    Calls Try.prog 38 #[.agg #[.int .i64 W, .int .i64 H, .slice A n c], .slice A1 n1 c1] w fun e w' => e = .returned (.bool (decide (isG W H ts = true ∧ mayP n W H ts l))) ∧ Below w.heap.size w w' := by
  generalize hr' : decide (isG W H ts = true ∧ mayP n W H ts l) = r
  have HR := Lib.hid hr'
  clear hr'
  have hG := Blk.new w #[.int .i64 W, .int .i64 H, .slice A n c] 24
  have hb := (Below.refl w.heap.size w).alloc (Nat.le_refl _) (.cells #[.int .i64 W, .int .i64 H, .slice A n c] 24)
  have C := Lib.hid (ref_ground W H A n c B ts _ (hr.below (hb.mono hB)) (Nat.le_trans hB hb.size) hl hn9)
  go_enter Try.func38, Try.ntmps38
  go_wp2_with fail
  generalize w.alloc (.cells #[.int .i64 W, .int .i64 H, .slice A n c] 24) = w1 at *
  refine Calls.mono C.out ?_
  rintro e w2 ⟨rfl, hb2⟩
  clear C
  replace hG := hG.below hb2 hG.lt
  replace hb := hb.trans (hb2.mono hb.size)
  clear hb2
  cases hg : isG W H ts with
  | false =>
    obtain rfl : r = false := by rw [← HR.out]; exact decide_eq_false fun h => by have := h.1; rw [hg] at this; cases this
    clear hG
    go_wp2_with fail
    go_ret
    exact ⟨rfl, hb⟩
  | true =>
  obtain ⟨hW0, hW1, hH0, hH1, hlen, _⟩ := isG_bounds hg
  have hll0 : ts.length = n := by have := hr.1; simpa [nums] using this
  have hn' : (n : Int) = W * H := by omega
  have hn := Lib.hid hn'
  have hno : ¬ mayP n W H ts l → false = r := fun h => by rw [← HR.out]; exact (decide_eq_false fun k => h k.2).symm
  have hll := Lib.hid hv.1
  have HGG := Lib.hid hg
  clear hg hlen hll0 hn'
  by_cases h256 : n1 ≤ 256
  case neg =>
    obtain rfl := hno fun h => by have := h.1; rw [hll.out] at this; omega
    have d1 : decide ((256 : Int) < (n1 : Int)) = true := by simp; omega
    clear hG
    go_wp2_with fail
    go_ret
    exact ⟨rfl, hb⟩
  have d1 : decide ((256 : Int) < (n1 : Int)) = false := by simp; omega
  have CI := ref_ids A1 n1 c1 l w2 (hv.below hb) hn1
  by_cases hris : risesP l
  case neg =>
    obtain rfl := hno fun h => hris h.2.1
    rw [decide_eq_false hris] at CI
    replace CI := Lib.hid CI
    clear hG
    go_wp2_with fail
    refine Calls.mono CI.out ?_
    rintro e w3 ⟨rfl, hb3⟩
    replace hb := hb.trans (hb3.mono hb.size)
    clear hb3 CI
    go_wp2_with fail
    go_ret
    exact ⟨rfl, hb⟩
  rw [decide_eq_true hris] at CI
  replace CI := Lib.hid CI
  go_wp2_with fail
  refine Calls.mono CI.out ?_
  rintro e w3 ⟨rfl, hb3⟩
  replace hG := hG.below hb3 hG.lt
  replace hb := hb.trans (hb3.mono hb.size)
  clear hb3 CI d1
  go_wp2_with fail
  go_loopw [5] (fun i wr => ∃ (k : Nat), k ≤ n1 ∧ i = .int .i64 k ∧ (∀ j, j < k → okAt n W H ts l j) ∧ Blk wr w.heap.size #[.int .i64 W, .int .i64 H, .slice A n c] 24 ∧ Below w.heap.size w wr) (fun i _ => n1 - (intOf i).toNat)
  case atStart => exact ⟨0, Nat.zero_le _, rfl, fun j hj => absurd hj (by omega), hG, hb⟩
  case round =>
    clear hG hb
    obtain ⟨k, hk, rfl, hall, hG, hb⟩ := hrel
    by_cases hlt : k < n1
    case neg =>
      have hyes : true = r := by
        rw [← HR.out]
        exact (decide_eq_true ⟨HGG.out, by rw [hll.out]; exact h256, hris, fun i hi => hall i (by rw [hll.out] at hi; omega)⟩).symm
      subst hyes
      replace hb := Lib.hid hb
      clear hG hall hv hno
      go_wp2_with fail
      go_ret
      exact ⟨rfl, hb.out⟩
    obtain ⟨bb, o, rfl, hbb, ⟨k0, k1, k2, k3, k4, k5⟩, q0, q1, q2, q3, q4, q5⟩ := (hv.below hb).2 k hlt
    have hkl : k < l.length := by rw [hll.out]; exact hlt
    have hN := Lib.hid (fun (h : ¬ okAt n W H ts l k) => hno fun hm => h (hm.2.2 k hkl))
    have hok := Lib.hid (may_okTo hall)
    replace hall := Lib.hid hall
    generalize hbk : bdAt l k = bd at *
    obtain ⟨id, ow, x, y, bw, bh⟩ := bd
    simp only at k0 k1 k2 k3 k4 k5 q0 q1 q2 q3 q4 q5
    replace hbk := Lib.hid hbk
    have HG := Lib.hid hG
    have HBL := Lib.hid hb
    have HK0 := Lib.hid k0
    have HK1 := Lib.hid k1
    have HK2 := Lib.hid k2
    have HK3 := Lib.hid k3
    have HK4 := Lib.hid k4
    have HK5 := Lib.hid k5
    clear hG hb k0 k1 k2 k3 k4 k5 hno
    go_wp2_with fail
    have KW := Lib.hid (And.intro hW0 (And.intro hW1 (And.intro hH0 hH1)))
    have KQ := Lib.hid (And.intro hn1 hn9)
    have HV := Lib.hid hv
    clear hW0 hW1 hH0 hH1 hn1 hn9 hv q0 q1 q2 q3 q4 q5
    by_cases hf : formP ⟨id, ow, x, y, bw, bh⟩
    case neg =>
      obtain rfl := hN.out (fun h => hf (by have := h.1; rwa [hbk.out] at this))
      have CF := Lib.hid (fun W9 => ref_sides id ow x y bw bh W9)
      rw [decide_eq_false (show ¬ (1 ≤ id ∧ id ≤ 1099511627776 ∧ 1 ≤ ow ∧ ow ≤ 8 ∧ 1 ≤ bw ∧ bw ≤ 4 ∧ 1 ≤ bh ∧ bh ≤ 4) from hf)] at CF
      refine' wp_region_grow [Fact.val _, Fact.val _, Fact.val _, Fact.val _, Fact.val _, Fact.val _, Fact.val _, Fact.val _, Fact.val _, Fact.val _, Fact.val _, Fact.val _, Fact.val _, Fact.val _, Fact.val _, Fact.val _, Fact.val _, Fact.val _, Fact.val _, Fact.val _, Fact.val _, Fact.val _, Fact.val _, Fact.val _] (A := _) ?hAa (by kernel_rfl) (by kernel_rfl) ?stepsa ?henda
      case hAa =>
        intro us X9 hX9
        simp only [fillF, Act.put, List.setIfInBounds_toArray, List.set_cons_zero, List.set_cons_succ]
        (try go_simp)
        exact hX9
      case stepsa =>
        refine ⟨fun us W9 HB hd K hK => ?_, ?_⟩
        · clear hd
          go_simp
          refine hK _ _ (Below.refl _ _) ?_
          (show _ = _); rfl
        refine ⟨fun us W9 HB hd K hK => ?_, ?_⟩
        · clear hd
          go_simp
          refine hK _ _ (Below.refl _ _) ?_
          (show _ = _); rfl
        refine ⟨fun us W9 HB hd K hK => ?_, ?_⟩
        · clear hd
          go_simp
          refine hK _ _ (Below.refl _ _) ?_
          (show _ = _); rfl
        refine ⟨fun us W9 HB hd K hK => ?_, ?_⟩
        · clear hd
          have g0 := (HB.cell hbb).trans HK0.out
          have g1 := (HB.cell hbb).trans HK1.out
          have g2 := (HB.cell hbb).trans HK2.out
          have g3 := (HB.cell hbb).trans HK3.out
          have g4 := (HB.cell hbb).trans HK4.out
          have g5 := (HB.cell hbb).trans HK5.out
          go_simp
          refine hK _ _ (Below.refl _ _) ?_
          (show _ = _); rfl
        refine ⟨fun us W9 HB hd K hK => ?_, ?_⟩
        · clear hd
          have C := CF.out W9
          go_simp
          (with_reducible refine Calls.mono C ?_)
          rintro e wn ⟨rfl, hbn⟩
          refine hK _ _ hbn ?_
          (show _ = _); rfl
        refine ⟨fun us W9 HB hd K hK => ?_, ?_⟩
        · clear hd
          go_simp
          refine hK _ _ (Below.refl _ _) ?_
          (show _ = _); rfl
        refine ⟨fun us W9 HB hd K hK => ?_, ?_⟩
        · clear hd
          go_simp
          refine hK _ _ (Below.refl _ _) ?_
          (show _ = _); rfl
        refine ⟨fun us W9 HB hd K hK => ?_, ?_⟩
        · clear hd
          have z0 := (HG.out.below HB HG.out.lt).cell (i := 0) rfl
          have z1 := (HG.out.below HB HG.out.lt).cell (i := 1) rfl
          have z2 := (HG.out.below HB HG.out.lt).cell (i := 2) rfl
          go_simp
          refine hK _ _ (Below.refl _ _) ?_
          (show _ = _); rfl
        refine ⟨fun us W9 HB hd K hK => ?_, ?_⟩
        · clear hd
          go_simp
          refine hK _ _ (Below.refl _ _) ?_
          (show _ = _); rfl
        refine ⟨fun us W9 HB hd K hK => ?_, ?_⟩
        · clear hd
          go_simp
          refine hK _ _ (Below.refl _ _) ?_
          (show _ = _); rfl
        refine ⟨fun us W9 HB hd K hK => ?_, ?_⟩
        · clear hd
          go_simp
          refine hK _ _ (Below.refl _ _) ?_
          (show _ = _); rfl
        refine ⟨fun us W9 HB hd K hK => ?_, ?_⟩
        · clear hd
          have g0 := (HB.cell hbb).trans HK0.out
          have g1 := (HB.cell hbb).trans HK1.out
          have g2 := (HB.cell hbb).trans HK2.out
          have g3 := (HB.cell hbb).trans HK3.out
          have g4 := (HB.cell hbb).trans HK4.out
          have g5 := (HB.cell hbb).trans HK5.out
          go_simp
          refine hK _ _ (Below.refl _ _) ?_
          (show _ = _); rfl
        refine ⟨fun us W9 HB hd K hK => ?_, ?_⟩
        · clear hd
          go_simp
          refine hK _ _ (Below.refl _ _) ?_
          (show _ = _); rfl
        refine ⟨fun us W9 HB hd K hK => ?_, ?_⟩
        · clear hd
          go_simp
          refine hK _ _ (Below.refl _ _) ?_
          (show _ = _); rfl
        refine ⟨fun us W9 HB hd K hK => ?_, ?_⟩
        · clear hd
          go_simp
          refine hK _ _ (Below.refl _ _) ?_
          (show _ = _); rfl
        refine ⟨fun us W9 HB hd K hK => ?_, ?_⟩
        · clear hd
          go_simp
          refine hK _ _ (Below.refl _ _) ?_
          (show _ = _); rfl
        refine ⟨fun us W9 HB hd K hK => ?_, ?_⟩
        · clear hd
          have z0 := (HG.out.below HB HG.out.lt).cell (i := 0) rfl
          have z1 := (HG.out.below HB HG.out.lt).cell (i := 1) rfl
          have z2 := (HG.out.below HB HG.out.lt).cell (i := 2) rfl
          go_simp
          refine hK _ _ (Below.refl _ _) ?_
          (show _ = _); rfl
        refine ⟨fun us W9 HB hd K hK => ?_, ?_⟩
        · clear hd
          go_simp
          refine hK _ _ (Below.refl _ _) ?_
          (show _ = _); rfl
        refine ⟨fun us W9 HB hd K hK => ?_, ?_⟩
        · clear hd
          go_simp
          refine hK _ _ (Below.refl _ _) ?_
          (show _ = _); rfl
        refine ⟨fun us W9 HB hd K hK => ?_, ?_⟩
        · clear hd
          go_simp
          refine hK _ _ (Below.refl _ _) ?_
          (show _ = _); rfl
        refine ⟨fun us W9 HB hd K hK => ?_, ?_⟩
        · clear hd
          have g0 := (HB.cell hbb).trans HK0.out
          have g1 := (HB.cell hbb).trans HK1.out
          have g2 := (HB.cell hbb).trans HK2.out
          have g3 := (HB.cell hbb).trans HK3.out
          have g4 := (HB.cell hbb).trans HK4.out
          have g5 := (HB.cell hbb).trans HK5.out
          go_simp
          refine hK _ _ (Below.refl _ _) ?_
          (show _ = _); rfl
        refine ⟨fun us W9 HB hd K hK => ?_, ?_⟩
        · clear hd
          go_simp
          refine hK _ _ (Below.refl _ _) ?_
          (show _ = _); rfl
        refine ⟨fun us W9 HB hd K hK => ?_, ?_⟩
        · clear hd
          go_simp
          refine hK _ _ (Below.refl _ _) ?_
          (show _ = _); rfl
        refine ⟨fun us W9 HB hd K hK => ?_, ?_⟩
        · clear hd
          go_simp
          refine hK _ _ (Below.refl _ _) ?_
          (show _ = _); rfl
        trivial
      case henda =>
        intro us w5 HB hd
        clear hd
        replace HB := Lib.hid (HBL.out.trans (HB.mono HBL.out.size))
        clear HG HK0 HK1 HK2 HK3 HK4 HK5
        go_wp2_with fail
        go_ret
        exact ⟨rfl, HB.out⟩
    have CF := Lib.hid (fun W9 => ref_sides id ow x y bw bh W9)
    rw [decide_eq_true (show (1 ≤ id ∧ id ≤ 1099511627776 ∧ 1 ≤ ow ∧ ow ≤ 8 ∧ 1 ≤ bw ∧ bw ≤ 4 ∧ 1 ≤ bh ∧ bh ≤ 4) from hf)] at CF
    have bnd := hf
    unfold formP at bnd
    simp only at bnd
    have CO := Lib.hid (fun W9 => ref_on8 W H id ow x y bw bh W9 A n c KW.out.1 KW.out.2.1 KW.out.2.2.1 KW.out.2.2.2 (by omega) (by omega) (by omega) (by omega))
    replace bnd := Lib.hid bnd
    by_cases ho : onP W H ⟨id, ow, x, y, bw, bh⟩
    case neg =>
      obtain rfl := hN.out (fun h => ho (by have := h.2.1; rwa [hbk.out] at this))
      rw [decide_eq_false (show ¬ (0 ≤ x ∧ 0 ≤ y ∧ x < W ∧ y < H ∧ bw ≤ W - x ∧ bh ≤ H - y) from fun h => ho (by have := bnd.out; unfold onP; simp only; omega))] at CO
      refine' wp_region_grow [Fact.val _, Fact.val _, Fact.val _, Fact.val _, Fact.val _, Fact.val _, Fact.val _, Fact.val _, Fact.val _, Fact.val _, Fact.val _, Fact.val _, Fact.val _, Fact.val _, Fact.val _, Fact.val _, Fact.val _, Fact.val _, Fact.val _, Fact.val _, Fact.val _, Fact.val _, Fact.val _, Fact.val _] (A := _) ?hAb (by kernel_rfl) (by kernel_rfl) ?stepsb ?hendb
      case hAb =>
        intro us X9 hX9
        simp only [fillF, Act.put, List.setIfInBounds_toArray, List.set_cons_zero, List.set_cons_succ]
        (try go_simp)
        exact hX9
      case stepsb =>
        refine ⟨fun us W9 HB hd K hK => ?_, ?_⟩
        · clear hd
          go_simp
          refine hK _ _ (Below.refl _ _) ?_
          (show _ = _); rfl
        refine ⟨fun us W9 HB hd K hK => ?_, ?_⟩
        · clear hd
          go_simp
          refine hK _ _ (Below.refl _ _) ?_
          (show _ = _); rfl
        refine ⟨fun us W9 HB hd K hK => ?_, ?_⟩
        · clear hd
          go_simp
          refine hK _ _ (Below.refl _ _) ?_
          (show _ = _); rfl
        refine ⟨fun us W9 HB hd K hK => ?_, ?_⟩
        · clear hd
          have g0 := (HB.cell hbb).trans HK0.out
          have g1 := (HB.cell hbb).trans HK1.out
          have g2 := (HB.cell hbb).trans HK2.out
          have g3 := (HB.cell hbb).trans HK3.out
          have g4 := (HB.cell hbb).trans HK4.out
          have g5 := (HB.cell hbb).trans HK5.out
          go_simp
          refine hK _ _ (Below.refl _ _) ?_
          (show _ = _); rfl
        refine ⟨fun us W9 HB hd K hK => ?_, ?_⟩
        · clear hd
          have C := CF.out W9
          go_simp
          (with_reducible refine Calls.mono C ?_)
          rintro e wn ⟨rfl, hbn⟩
          refine hK _ _ hbn ?_
          (show _ = _); rfl
        refine ⟨fun us W9 HB hd K hK => ?_, ?_⟩
        · clear hd
          go_simp
          refine hK _ _ (Below.refl _ _) ?_
          (show _ = _); rfl
        refine ⟨fun us W9 HB hd K hK => ?_, ?_⟩
        · clear hd
          go_simp
          refine hK _ _ (Below.refl _ _) ?_
          (show _ = _); rfl
        refine ⟨fun us W9 HB hd K hK => ?_, ?_⟩
        · clear hd
          have z0 := (HG.out.below HB HG.out.lt).cell (i := 0) rfl
          have z1 := (HG.out.below HB HG.out.lt).cell (i := 1) rfl
          have z2 := (HG.out.below HB HG.out.lt).cell (i := 2) rfl
          go_simp
          refine hK _ _ (Below.refl _ _) ?_
          (show _ = _); rfl
        refine ⟨fun us W9 HB hd K hK => ?_, ?_⟩
        · clear hd
          go_simp
          refine hK _ _ (Below.refl _ _) ?_
          (show _ = _); rfl
        refine ⟨fun us W9 HB hd K hK => ?_, ?_⟩
        · clear hd
          go_simp
          refine hK _ _ (Below.refl _ _) ?_
          (show _ = _); rfl
        refine ⟨fun us W9 HB hd K hK => ?_, ?_⟩
        · clear hd
          go_simp
          refine hK _ _ (Below.refl _ _) ?_
          (show _ = _); rfl
        refine ⟨fun us W9 HB hd K hK => ?_, ?_⟩
        · clear hd
          have g0 := (HB.cell hbb).trans HK0.out
          have g1 := (HB.cell hbb).trans HK1.out
          have g2 := (HB.cell hbb).trans HK2.out
          have g3 := (HB.cell hbb).trans HK3.out
          have g4 := (HB.cell hbb).trans HK4.out
          have g5 := (HB.cell hbb).trans HK5.out
          go_simp
          refine hK _ _ (Below.refl _ _) ?_
          (show _ = _); rfl
        refine ⟨fun us W9 HB hd K hK => ?_, ?_⟩
        · clear hd
          have C := CO.out W9
          go_simp
          (with_reducible refine Calls.mono C ?_)
          rintro e wn ⟨rfl, hbn⟩
          refine hK _ _ hbn ?_
          (show _ = _); rfl
        refine ⟨fun us W9 HB hd K hK => ?_, ?_⟩
        · clear hd
          go_simp
          refine hK _ _ (Below.refl _ _) ?_
          (show _ = _); rfl
        refine ⟨fun us W9 HB hd K hK => ?_, ?_⟩
        · clear hd
          go_simp
          refine hK _ _ (Below.refl _ _) ?_
          (show _ = _); rfl
        refine ⟨fun us W9 HB hd K hK => ?_, ?_⟩
        · clear hd
          go_simp
          refine hK _ _ (Below.refl _ _) ?_
          (show _ = _); rfl
        refine ⟨fun us W9 HB hd K hK => ?_, ?_⟩
        · clear hd
          have z0 := (HG.out.below HB HG.out.lt).cell (i := 0) rfl
          have z1 := (HG.out.below HB HG.out.lt).cell (i := 1) rfl
          have z2 := (HG.out.below HB HG.out.lt).cell (i := 2) rfl
          go_simp
          refine hK _ _ (Below.refl _ _) ?_
          (show _ = _); rfl
        refine ⟨fun us W9 HB hd K hK => ?_, ?_⟩
        · clear hd
          go_simp
          refine hK _ _ (Below.refl _ _) ?_
          (show _ = _); rfl
        refine ⟨fun us W9 HB hd K hK => ?_, ?_⟩
        · clear hd
          go_simp
          refine hK _ _ (Below.refl _ _) ?_
          (show _ = _); rfl
        refine ⟨fun us W9 HB hd K hK => ?_, ?_⟩
        · clear hd
          go_simp
          refine hK _ _ (Below.refl _ _) ?_
          (show _ = _); rfl
        refine ⟨fun us W9 HB hd K hK => ?_, ?_⟩
        · clear hd
          have g0 := (HB.cell hbb).trans HK0.out
          have g1 := (HB.cell hbb).trans HK1.out
          have g2 := (HB.cell hbb).trans HK2.out
          have g3 := (HB.cell hbb).trans HK3.out
          have g4 := (HB.cell hbb).trans HK4.out
          have g5 := (HB.cell hbb).trans HK5.out
          go_simp
          refine hK _ _ (Below.refl _ _) ?_
          (show _ = _); rfl
        refine ⟨fun us W9 HB hd K hK => ?_, ?_⟩
        · clear hd
          go_simp
          refine hK _ _ (Below.refl _ _) ?_
          (show _ = _); rfl
        refine ⟨fun us W9 HB hd K hK => ?_, ?_⟩
        · clear hd
          go_simp
          refine hK _ _ (Below.refl _ _) ?_
          (show _ = _); rfl
        refine ⟨fun us W9 HB hd K hK => ?_, ?_⟩
        · clear hd
          go_simp
          refine hK _ _ (Below.refl _ _) ?_
          (show _ = _); rfl
        trivial
      case hendb =>
        intro us w5 HB hd
        clear hd
        replace HB := Lib.hid (HBL.out.trans (HB.mono HBL.out.size))
        clear HG HK0 HK1 HK2 HK3 HK4 HK5
        go_wp2_with fail
        go_ret
        exact ⟨rfl, HB.out⟩
    have bno := ho
    unfold onP at bno
    simp only at bno
    rw [decide_eq_true (show (0 ≤ x ∧ 0 ≤ y ∧ x < W ∧ y < H ∧ bw ≤ W - x ∧ bh ≤ H - y) by have := bnd.out; omega)] at CO
    have CR : ∀ (W9 : World) (h : Below w.heap.size w W9), _ := fun (W9 : World) (h : Below w.heap.size w W9) => ref_firm W H id ow x y bw bh A n c B ts W9 (hr.below (h.mono hB)) (Nat.le_trans hB h.size) hl KW.out.1 KW.out.2.1 KW.out.2.2.1 KW.out.2.2.2 hn.out (by have := KW.out; have := bnd.out; omega) (by have := KW.out; have := bnd.out; omega) (by have := bnd.out; omega) (by have := bnd.out; omega)
    replace bno := Lib.hid bno
    by_cases hfm : firmP n W ts ⟨id, ow, x, y, bw, bh⟩
    case neg =>
      obtain rfl := hN.out (fun h => hfm (by have := h.2.2.1; rwa [hbk.out] at this))
      simp only [decide_eq_false hfm] at CR
      replace CR := Lib.hid CR
      refine' wp_region_grow [Fact.val _, Fact.val _, Fact.val _, Fact.val _, Fact.val _, Fact.val _, Fact.val _, Fact.val _, Fact.val _, Fact.val _, Fact.val _, Fact.val _, Fact.val _, Fact.val _, Fact.val _, Fact.val _, Fact.val _, Fact.val _, Fact.val _, Fact.val _, Fact.val _, Fact.val _, Fact.val _, Fact.val _] (A := _) ?hAc (by kernel_rfl) (by kernel_rfl) ?stepsc ?hendc
      case hAc =>
        intro us X9 hX9
        simp only [fillF, Act.put, List.setIfInBounds_toArray, List.set_cons_zero, List.set_cons_succ]
        (try go_simp)
        exact hX9
      case stepsc =>
        refine ⟨fun us W9 HB hd K hK => ?_, ?_⟩
        · clear hd
          go_simp
          refine hK _ _ (Below.refl _ _) ?_
          (show _ = _); rfl
        refine ⟨fun us W9 HB hd K hK => ?_, ?_⟩
        · clear hd
          go_simp
          refine hK _ _ (Below.refl _ _) ?_
          (show _ = _); rfl
        refine ⟨fun us W9 HB hd K hK => ?_, ?_⟩
        · clear hd
          go_simp
          refine hK _ _ (Below.refl _ _) ?_
          (show _ = _); rfl
        refine ⟨fun us W9 HB hd K hK => ?_, ?_⟩
        · clear hd
          have g0 := (HB.cell hbb).trans HK0.out
          have g1 := (HB.cell hbb).trans HK1.out
          have g2 := (HB.cell hbb).trans HK2.out
          have g3 := (HB.cell hbb).trans HK3.out
          have g4 := (HB.cell hbb).trans HK4.out
          have g5 := (HB.cell hbb).trans HK5.out
          go_simp
          refine hK _ _ (Below.refl _ _) ?_
          (show _ = _); rfl
        refine ⟨fun us W9 HB hd K hK => ?_, ?_⟩
        · clear hd
          have C := CF.out W9
          go_simp
          (with_reducible refine Calls.mono C ?_)
          rintro e wn ⟨rfl, hbn⟩
          refine hK _ _ hbn ?_
          (show _ = _); rfl
        refine ⟨fun us W9 HB hd K hK => ?_, ?_⟩
        · clear hd
          go_simp
          refine hK _ _ (Below.refl _ _) ?_
          (show _ = _); rfl
        refine ⟨fun us W9 HB hd K hK => ?_, ?_⟩
        · clear hd
          go_simp
          refine hK _ _ (Below.refl _ _) ?_
          (show _ = _); rfl
        refine ⟨fun us W9 HB hd K hK => ?_, ?_⟩
        · clear hd
          have z0 := (HG.out.below HB HG.out.lt).cell (i := 0) rfl
          have z1 := (HG.out.below HB HG.out.lt).cell (i := 1) rfl
          have z2 := (HG.out.below HB HG.out.lt).cell (i := 2) rfl
          go_simp
          refine hK _ _ (Below.refl _ _) ?_
          (show _ = _); rfl
        refine ⟨fun us W9 HB hd K hK => ?_, ?_⟩
        · clear hd
          go_simp
          refine hK _ _ (Below.refl _ _) ?_
          (show _ = _); rfl
        refine ⟨fun us W9 HB hd K hK => ?_, ?_⟩
        · clear hd
          go_simp
          refine hK _ _ (Below.refl _ _) ?_
          (show _ = _); rfl
        refine ⟨fun us W9 HB hd K hK => ?_, ?_⟩
        · clear hd
          go_simp
          refine hK _ _ (Below.refl _ _) ?_
          (show _ = _); rfl
        refine ⟨fun us W9 HB hd K hK => ?_, ?_⟩
        · clear hd
          have g0 := (HB.cell hbb).trans HK0.out
          have g1 := (HB.cell hbb).trans HK1.out
          have g2 := (HB.cell hbb).trans HK2.out
          have g3 := (HB.cell hbb).trans HK3.out
          have g4 := (HB.cell hbb).trans HK4.out
          have g5 := (HB.cell hbb).trans HK5.out
          go_simp
          refine hK _ _ (Below.refl _ _) ?_
          (show _ = _); rfl
        refine ⟨fun us W9 HB hd K hK => ?_, ?_⟩
        · clear hd
          have C := CO.out W9
          go_simp
          (with_reducible refine Calls.mono C ?_)
          rintro e wn ⟨rfl, hbn⟩
          refine hK _ _ hbn ?_
          (show _ = _); rfl
        refine ⟨fun us W9 HB hd K hK => ?_, ?_⟩
        · clear hd
          go_simp
          refine hK _ _ (Below.refl _ _) ?_
          (show _ = _); rfl
        refine ⟨fun us W9 HB hd K hK => ?_, ?_⟩
        · clear hd
          go_simp
          refine hK _ _ (Below.refl _ _) ?_
          (show _ = _); rfl
        refine ⟨fun us W9 HB hd K hK => ?_, ?_⟩
        · clear hd
          go_simp
          refine hK _ _ (Below.refl _ _) ?_
          (show _ = _); rfl
        refine ⟨fun us W9 HB hd K hK => ?_, ?_⟩
        · clear hd
          have z0 := (HG.out.below HB HG.out.lt).cell (i := 0) rfl
          have z1 := (HG.out.below HB HG.out.lt).cell (i := 1) rfl
          have z2 := (HG.out.below HB HG.out.lt).cell (i := 2) rfl
          go_simp
          refine hK _ _ (Below.refl _ _) ?_
          (show _ = _); rfl
        refine ⟨fun us W9 HB hd K hK => ?_, ?_⟩
        · clear hd
          go_simp
          refine hK _ _ (Below.refl _ _) ?_
          (show _ = _); rfl
        refine ⟨fun us W9 HB hd K hK => ?_, ?_⟩
        · clear hd
          go_simp
          refine hK _ _ (Below.refl _ _) ?_
          (show _ = _); rfl
        refine ⟨fun us W9 HB hd K hK => ?_, ?_⟩
        · clear hd
          go_simp
          refine hK _ _ (Below.refl _ _) ?_
          (show _ = _); rfl
        refine ⟨fun us W9 HB hd K hK => ?_, ?_⟩
        · clear hd
          have g0 := (HB.cell hbb).trans HK0.out
          have g1 := (HB.cell hbb).trans HK1.out
          have g2 := (HB.cell hbb).trans HK2.out
          have g3 := (HB.cell hbb).trans HK3.out
          have g4 := (HB.cell hbb).trans HK4.out
          have g5 := (HB.cell hbb).trans HK5.out
          go_simp
          refine hK _ _ (Below.refl _ _) ?_
          (show _ = _); rfl
        refine ⟨fun us W9 HB hd K hK => ?_, ?_⟩
        · clear hd
          have C := CR.out W9 (HBL.out.trans (HB.mono HBL.out.size))
          go_simp
          (with_reducible refine Calls.mono C ?_)
          rintro e wn ⟨rfl, hbn⟩
          refine hK _ _ hbn ?_
          (show _ = _); rfl
        refine ⟨fun us W9 HB hd K hK => ?_, ?_⟩
        · clear hd
          go_simp
          refine hK _ _ (Below.refl _ _) ?_
          (show _ = _); rfl
        refine ⟨fun us W9 HB hd K hK => ?_, ?_⟩
        · clear hd
          go_simp
          refine hK _ _ (Below.refl _ _) ?_
          (show _ = _); rfl
        trivial
      case hendc =>
        intro us w5 HB hd
        clear hd
        replace HB := Lib.hid (HBL.out.trans (HB.mono HBL.out.size))
        clear HG HK0 HK1 HK2 HK3 HK4 HK5
        go_wp2_with fail
        go_ret
        exact ⟨rfl, HB.out⟩
    simp only [decide_eq_true hfm] at CR
    replace CR := Lib.hid CR
    refine' wp_region_grow [Fact.val _, Fact.val _, Fact.val _, Fact.val _, Fact.val _, Fact.val _, Fact.val _, Fact.val _, Fact.val _, Fact.val _, Fact.val _, Fact.val _, Fact.val _, Fact.val _, Fact.val _, Fact.val _, Fact.val _, Fact.val _, Fact.val _, Fact.val _, Fact.val _, Fact.val _, Fact.val _, Fact.val _] (A := _) ?hAd (by kernel_rfl) (by kernel_rfl) ?stepsd ?hendd
    case hAd =>
      intro us X9 hX9
      simp only [fillF, Act.put, List.setIfInBounds_toArray, List.set_cons_zero, List.set_cons_succ]
      (try go_simp)
      exact hX9
    case stepsd =>
      refine ⟨fun us W9 HB hd K hK => ?_, ?_⟩
      · clear hd
        go_simp
        refine hK _ _ (Below.refl _ _) ?_
        (show _ = _); rfl
      refine ⟨fun us W9 HB hd K hK => ?_, ?_⟩
      · clear hd
        go_simp
        refine hK _ _ (Below.refl _ _) ?_
        (show _ = _); rfl
      refine ⟨fun us W9 HB hd K hK => ?_, ?_⟩
      · clear hd
        go_simp
        refine hK _ _ (Below.refl _ _) ?_
        (show _ = _); rfl
      refine ⟨fun us W9 HB hd K hK => ?_, ?_⟩
      · clear hd
        have g0 := (HB.cell hbb).trans HK0.out
        have g1 := (HB.cell hbb).trans HK1.out
        have g2 := (HB.cell hbb).trans HK2.out
        have g3 := (HB.cell hbb).trans HK3.out
        have g4 := (HB.cell hbb).trans HK4.out
        have g5 := (HB.cell hbb).trans HK5.out
        go_simp
        refine hK _ _ (Below.refl _ _) ?_
        (show _ = _); rfl
      refine ⟨fun us W9 HB hd K hK => ?_, ?_⟩
      · clear hd
        have C := CF.out W9
        go_simp
        (with_reducible refine Calls.mono C ?_)
        rintro e wn ⟨rfl, hbn⟩
        refine hK _ _ hbn ?_
        (show _ = _); rfl
      refine ⟨fun us W9 HB hd K hK => ?_, ?_⟩
      · clear hd
        go_simp
        refine hK _ _ (Below.refl _ _) ?_
        (show _ = _); rfl
      refine ⟨fun us W9 HB hd K hK => ?_, ?_⟩
      · clear hd
        go_simp
        refine hK _ _ (Below.refl _ _) ?_
        (show _ = _); rfl
      refine ⟨fun us W9 HB hd K hK => ?_, ?_⟩
      · clear hd
        have z0 := (HG.out.below HB HG.out.lt).cell (i := 0) rfl
        have z1 := (HG.out.below HB HG.out.lt).cell (i := 1) rfl
        have z2 := (HG.out.below HB HG.out.lt).cell (i := 2) rfl
        go_simp
        refine hK _ _ (Below.refl _ _) ?_
        (show _ = _); rfl
      refine ⟨fun us W9 HB hd K hK => ?_, ?_⟩
      · clear hd
        go_simp
        refine hK _ _ (Below.refl _ _) ?_
        (show _ = _); rfl
      refine ⟨fun us W9 HB hd K hK => ?_, ?_⟩
      · clear hd
        go_simp
        refine hK _ _ (Below.refl _ _) ?_
        (show _ = _); rfl
      refine ⟨fun us W9 HB hd K hK => ?_, ?_⟩
      · clear hd
        go_simp
        refine hK _ _ (Below.refl _ _) ?_
        (show _ = _); rfl
      refine ⟨fun us W9 HB hd K hK => ?_, ?_⟩
      · clear hd
        have g0 := (HB.cell hbb).trans HK0.out
        have g1 := (HB.cell hbb).trans HK1.out
        have g2 := (HB.cell hbb).trans HK2.out
        have g3 := (HB.cell hbb).trans HK3.out
        have g4 := (HB.cell hbb).trans HK4.out
        have g5 := (HB.cell hbb).trans HK5.out
        go_simp
        refine hK _ _ (Below.refl _ _) ?_
        (show _ = _); rfl
      refine ⟨fun us W9 HB hd K hK => ?_, ?_⟩
      · clear hd
        have C := CO.out W9
        go_simp
        (with_reducible refine Calls.mono C ?_)
        rintro e wn ⟨rfl, hbn⟩
        refine hK _ _ hbn ?_
        (show _ = _); rfl
      refine ⟨fun us W9 HB hd K hK => ?_, ?_⟩
      · clear hd
        go_simp
        refine hK _ _ (Below.refl _ _) ?_
        (show _ = _); rfl
      refine ⟨fun us W9 HB hd K hK => ?_, ?_⟩
      · clear hd
        go_simp
        refine hK _ _ (Below.refl _ _) ?_
        (show _ = _); rfl
      refine ⟨fun us W9 HB hd K hK => ?_, ?_⟩
      · clear hd
        go_simp
        refine hK _ _ (Below.refl _ _) ?_
        (show _ = _); rfl
      refine ⟨fun us W9 HB hd K hK => ?_, ?_⟩
      · clear hd
        have z0 := (HG.out.below HB HG.out.lt).cell (i := 0) rfl
        have z1 := (HG.out.below HB HG.out.lt).cell (i := 1) rfl
        have z2 := (HG.out.below HB HG.out.lt).cell (i := 2) rfl
        go_simp
        refine hK _ _ (Below.refl _ _) ?_
        (show _ = _); rfl
      refine ⟨fun us W9 HB hd K hK => ?_, ?_⟩
      · clear hd
        go_simp
        refine hK _ _ (Below.refl _ _) ?_
        (show _ = _); rfl
      refine ⟨fun us W9 HB hd K hK => ?_, ?_⟩
      · clear hd
        go_simp
        refine hK _ _ (Below.refl _ _) ?_
        (show _ = _); rfl
      refine ⟨fun us W9 HB hd K hK => ?_, ?_⟩
      · clear hd
        go_simp
        refine hK _ _ (Below.refl _ _) ?_
        (show _ = _); rfl
      refine ⟨fun us W9 HB hd K hK => ?_, ?_⟩
      · clear hd
        have g0 := (HB.cell hbb).trans HK0.out
        have g1 := (HB.cell hbb).trans HK1.out
        have g2 := (HB.cell hbb).trans HK2.out
        have g3 := (HB.cell hbb).trans HK3.out
        have g4 := (HB.cell hbb).trans HK4.out
        have g5 := (HB.cell hbb).trans HK5.out
        go_simp
        refine hK _ _ (Below.refl _ _) ?_
        (show _ = _); rfl
      refine ⟨fun us W9 HB hd K hK => ?_, ?_⟩
      · clear hd
        have C := CR.out W9 (HBL.out.trans (HB.mono HBL.out.size))
        go_simp
        (with_reducible refine Calls.mono C ?_)
        rintro e wn ⟨rfl, hbn⟩
        refine hK _ _ hbn ?_
        (show _ = _); rfl
      refine ⟨fun us W9 HB hd K hK => ?_, ?_⟩
      · clear hd
        go_simp
        refine hK _ _ (Below.refl _ _) ?_
        (show _ = _); rfl
      refine ⟨fun us W9 HB hd K hK => ?_, ?_⟩
      · clear hd
        go_simp
        refine hK _ _ (Below.refl _ _) ?_
        (show _ = _); rfl
      trivial
    case hendd =>
      intro us w5 HB hd
      clear hd
      have hG5 := HG.out.below HB HG.out.lt
      have hb5 := HBL.out.trans (HB.mono HBL.out.size)
      have hs5 := HB.size
      clear HK0 HK1 HK2 HK3 HK4 HK5 HG CF CO CR HB
      go_wp2_with fail
      go_loopw [6] (fun i wr => ∃ (q : Nat), q ≤ k ∧ i = .int .i64 q ∧ (∀ j, j < q → ¬ meetP (bdAt l k) (bdAt l j)) ∧ Blk wr w.heap.size #[.int .i64 W, .int .i64 H, .slice A n c] 24 ∧ Below w.heap.size w wr) (fun i _ => k - (intOf i).toNat)
      case atStart => exact ⟨0, Nat.zero_le _, rfl, fun j hj => absurd hj (by omega), hG5, hb5⟩
      case round =>
        clear hG5 hb5 hs5 HBL
        obtain ⟨q, hq, rfl, hap, hG, hb⟩ := hrel
        by_cases hqk : q < k
        case neg =>
          obtain rfl : q = k := by omega
          have HO := Lib.hid (hok.out (show okAt n W H ts l q by unfold okAt; rw [hbk.out]; exact ⟨hf, ho, hfm, hap⟩))
          have HG := Lib.hid hG
          have HB := Lib.hid hb
          clear hG hb hap
          go_wp2_with fail
          go_roundw
          case rel => exact ⟨q + 1, by omega, by go_num, HO.out, HG.out, HB.out⟩
          case measure => simp [intOf]; omega
        obtain ⟨b1, o1, e1, hbb1, ⟨k0, k1, k2, k3, k4, k5⟩, _⟩ := (HV.out.below hb).2 k hlt
        obtain ⟨b2, o2, e2, hbb2, ⟨m0, m1, m2, m3, m4, m5⟩, _⟩ := (HV.out.below hb).2 q (by omega)
        simp only [Option.some.injEq, Addr.mk.injEq, and_true] at e1 e2
        obtain ⟨rfl, rfl⟩ := e1
        obtain ⟨rfl, rfl⟩ := e2
        have hokq := hall.out q hqk
        have HAP := Lib.hid hap
        clear hap
        rw [hbk.out] at k0 k1 k2 k3 k4 k5
        simp only at k0 k1 k2 k3 k4 k5
        have hmk := Lib.hid (show ¬ meetP (bdAt l k) (bdAt l q) → ∀ j, j < q + 1 → ¬ meetP (bdAt l k) (bdAt l j) from fun h j hj => by
          by_cases e : j < q
          · exact HAP.out j e
          · obtain rfl : j = q := by omega
            exact h)
        have hNm := Lib.hid (fun (h : meetP (bdAt l k) (bdAt l q)) => hN.out (fun hk => hk.2.2.2 q hqk h))
        rw [hbk.out] at hmk hNm
        obtain ⟨hf2, ho2, _, _⟩ := hokq
        generalize hb2 : bdAt l q = bd2 at *
        obtain ⟨id2, ow2, x2, y2, bw2, bh2⟩ := bd2
        simp only at m0 m1 m2 m3 m4 m5
        have bn2 := hf2
        unfold formP at bn2
        simp only at bn2
        have bo2 := ho2
        unfold onP at bo2
        simp only at bo2
        replace hb2 := Lib.hid hb2
        have hw' := KW.out
        have hn' := bnd.out
        have ho' := bno.out
        have CM := Lib.hid (fun W9 => ref_meet id ow x y bw bh id2 ow2 x2 y2 bw2 bh2 W9 (by omega) (by omega) (by omega) (by omega) (by omega) (by omega) (by omega) (by omega))
        have hqn : q < n1 := by omega
        clear hw' hn' ho' bn2 bo2
        have HG := Lib.hid hG
        have HBL := Lib.hid hb
        have HK0 := Lib.hid k0
        have HM0 := Lib.hid m0
        have HK1 := Lib.hid k1
        have HM1 := Lib.hid m1
        have HK2 := Lib.hid k2
        have HM2 := Lib.hid m2
        have HK3 := Lib.hid k3
        have HM3 := Lib.hid m3
        have HK4 := Lib.hid k4
        have HM4 := Lib.hid m4
        have HK5 := Lib.hid k5
        have HM5 := Lib.hid m5
        clear hG hb k0 k1 k2 k3 k4 k5 m0 m1 m2 m3 m4 m5
        by_cases hmt : meetP ⟨id, ow, x, y, bw, bh⟩ ⟨id2, ow2, x2, y2, bw2, bh2⟩
        case pos =>
          obtain rfl := hNm.out hmt
          rw [decide_eq_true (show (x < x2 + bw2 ∧ x2 < x + bw ∧ y < y2 + bh2 ∧ y2 < y + bh) from hmt)] at CM
          go_wp2_with fail
          refine' wp_region_grow [Fact.val _, Fact.val _, Fact.val _, Fact.val _, Fact.val _, Fact.val _, Fact.val _, Fact.val _, Fact.val _] (A := _) ?hAe (by kernel_rfl) (by kernel_rfl) ?stepse ?hende
          case hAe =>
            intro us X9 hX9
            simp only [fillF, Act.put, List.setIfInBounds_toArray, List.set_cons_zero, List.set_cons_succ]
            (try go_simp)
            exact hX9
          case stepse =>
            refine ⟨fun us W9 HB hd K hK => ?_, ?_⟩
            · clear hd
              go_simp
              refine hK _ _ (Below.refl _ _) ?_
              (show _ = _); rfl
            refine ⟨fun us W9 HB hd K hK => ?_, ?_⟩
            · clear hd
              go_simp
              refine hK _ _ (Below.refl _ _) ?_
              (show _ = _); rfl
            refine ⟨fun us W9 HB hd K hK => ?_, ?_⟩
            · clear hd
              go_simp
              refine hK _ _ (Below.refl _ _) ?_
              (show _ = _); rfl
            refine ⟨fun us W9 HB hd K hK => ?_, ?_⟩
            · clear hd
              have g0 := (HB.cell hbb1).trans HK0.out
              have g1 := (HB.cell hbb1).trans HK1.out
              have g2 := (HB.cell hbb1).trans HK2.out
              have g3 := (HB.cell hbb1).trans HK3.out
              have g4 := (HB.cell hbb1).trans HK4.out
              have g5 := (HB.cell hbb1).trans HK5.out
              go_simp
              refine hK _ _ (Below.refl _ _) ?_
              (show _ = _); rfl
            refine ⟨fun us W9 HB hd K hK => ?_, ?_⟩
            · clear hd
              go_simp
              refine hK _ _ (Below.refl _ _) ?_
              (show _ = _); rfl
            refine ⟨fun us W9 HB hd K hK => ?_, ?_⟩
            · clear hd
              go_simp
              refine hK _ _ (Below.refl _ _) ?_
              (show _ = _); rfl
            refine ⟨fun us W9 HB hd K hK => ?_, ?_⟩
            · clear hd
              go_simp
              refine hK _ _ (Below.refl _ _) ?_
              (show _ = _); rfl
            refine ⟨fun us W9 HB hd K hK => ?_, ?_⟩
            · clear hd
              have g0 := (HB.cell hbb1).trans HM0.out
              have g1 := (HB.cell hbb1).trans HM1.out
              have g2 := (HB.cell hbb1).trans HM2.out
              have g3 := (HB.cell hbb1).trans HM3.out
              have g4 := (HB.cell hbb1).trans HM4.out
              have g5 := (HB.cell hbb1).trans HM5.out
              go_simp
              refine hK _ _ (Below.refl _ _) ?_
              (show _ = _); rfl
            refine ⟨fun us W9 HB hd K hK => ?_, ?_⟩
            · clear hd
              have C := CM.out W9
              go_simp
              (with_reducible refine Calls.mono C ?_)
              rintro e wn ⟨rfl, hbn⟩
              refine hK _ _ hbn ?_
              (show _ = _); rfl
            trivial
          case hende =>
            intro us w5 HB hd
            clear hd
            replace HB := Lib.hid (HBL.out.trans (HB.mono HBL.out.size))
            clear HG HK0 HK1 HK2 HK3 HK4 HK5 HM0 HM1 HM2 HM3 HM4 HM5
            go_wp2_with fail
            go_ret
            exact ⟨rfl, HB.out⟩
        rw [decide_eq_false (show ¬ (x < x2 + bw2 ∧ x2 < x + bw ∧ y < y2 + bh2 ∧ y2 < y + bh) from hmt)] at CM
        go_wp2_with fail
        refine' wp_region_grow [Fact.val _, Fact.val _, Fact.val _, Fact.val _, Fact.val _, Fact.val _, Fact.val _, Fact.val _, Fact.val _] (A := _) ?hAf (by kernel_rfl) (by kernel_rfl) ?stepsf ?hendf
        case hAf =>
          intro us X9 hX9
          simp only [fillF, Act.put, List.setIfInBounds_toArray, List.set_cons_zero, List.set_cons_succ]
          (try go_simp)
          exact hX9
        case stepsf =>
          refine ⟨fun us W9 HB hd K hK => ?_, ?_⟩
          · clear hd
            go_simp
            refine hK _ _ (Below.refl _ _) ?_
            (show _ = _); rfl
          refine ⟨fun us W9 HB hd K hK => ?_, ?_⟩
          · clear hd
            go_simp
            refine hK _ _ (Below.refl _ _) ?_
            (show _ = _); rfl
          refine ⟨fun us W9 HB hd K hK => ?_, ?_⟩
          · clear hd
            go_simp
            refine hK _ _ (Below.refl _ _) ?_
            (show _ = _); rfl
          refine ⟨fun us W9 HB hd K hK => ?_, ?_⟩
          · clear hd
            have g0 := (HB.cell hbb1).trans HK0.out
            have g1 := (HB.cell hbb1).trans HK1.out
            have g2 := (HB.cell hbb1).trans HK2.out
            have g3 := (HB.cell hbb1).trans HK3.out
            have g4 := (HB.cell hbb1).trans HK4.out
            have g5 := (HB.cell hbb1).trans HK5.out
            go_simp
            refine hK _ _ (Below.refl _ _) ?_
            (show _ = _); rfl
          refine ⟨fun us W9 HB hd K hK => ?_, ?_⟩
          · clear hd
            go_simp
            refine hK _ _ (Below.refl _ _) ?_
            (show _ = _); rfl
          refine ⟨fun us W9 HB hd K hK => ?_, ?_⟩
          · clear hd
            go_simp
            refine hK _ _ (Below.refl _ _) ?_
            (show _ = _); rfl
          refine ⟨fun us W9 HB hd K hK => ?_, ?_⟩
          · clear hd
            go_simp
            refine hK _ _ (Below.refl _ _) ?_
            (show _ = _); rfl
          refine ⟨fun us W9 HB hd K hK => ?_, ?_⟩
          · clear hd
            have g0 := (HB.cell hbb1).trans HM0.out
            have g1 := (HB.cell hbb1).trans HM1.out
            have g2 := (HB.cell hbb1).trans HM2.out
            have g3 := (HB.cell hbb1).trans HM3.out
            have g4 := (HB.cell hbb1).trans HM4.out
            have g5 := (HB.cell hbb1).trans HM5.out
            go_simp
            refine hK _ _ (Below.refl _ _) ?_
            (show _ = _); rfl
          refine ⟨fun us W9 HB hd K hK => ?_, ?_⟩
          · clear hd
            have C := CM.out W9
            go_simp
            (with_reducible refine Calls.mono C ?_)
            rintro e wn ⟨rfl, hbn⟩
            refine hK _ _ hbn ?_
            (show _ = _); rfl
          trivial
        case hendf =>
          intro us w5 HB hd
          clear hd
          have HG5 := Lib.hid (HG.out.below HB HG.out.lt)
          replace HB := Lib.hid (HBL.out.trans (HB.mono HBL.out.size))
          have HO := Lib.hid (hmk.out hmt)
          clear HG HK0 HK1 HK2 HK3 HK4 HK5 HM0 HM1 HM2 HM3 HM4 HM5 CM
          go_wp2_with fail
          go_roundw
          case rel => exact ⟨q + 1, by omega, by go_num, by rw [hbk.out]; exact HO.out, HG5.out, HB.out⟩
          case measure => simp [intOf]; omega
end Go.Proofs.Ytfgjiaakoacomaa
