/- The walk of the law CommandBack. -/
import Derived.Test.YtneigplmgellcaaCmdKindMath
import Derived.Test.YtneigplmgellcaaBoxes
namespace Go.Proofs.Ytneigplmgellcaa
set_option maxRecDepth 20000
open Go.RowKit Go.WideShapes Go.ChangeShapes

theorem Reads.first {w : World} {B n q : Nat} {A : Option Addr} {k : IntKind} {l : List Int} (h : Reads w B 1 A n (nums k l)) (hq : q ≤ n) : Reads w B 1 A q (nums k (l.take q)) := by
  have hl : l.length = n := by have := h.1; simpa [nums] using this
  refine ⟨by simp [nums]; omega, fun hn => ?_⟩
  obtain ⟨ad, e, hb, hc⟩ := h.2 (by omega)
  refine ⟨ad, e, hb, fun j u hu => hc j u ?_⟩
  have hj := (List.getElem?_eq_some_iff.1 hu).1
  rw [← hu]
  unfold nums
  rw [List.map_take, List.getElem?_take, if_pos (by simp [nums] at hj; omega)]
theorem box_cell2 {W w' : World} {C B : Nat} {cs : Array Value} {t : TypeId} (h : Blk W C cs t) (hb : Below B W w') (hB : C < B) (i : Nat) (v : Value) (hv : cs[i]? = some v) : w'.cell? ⟨C, i, none⟩ = some v := (h.below hb hB).cell hv
theorem own_put10 {w : World} {base X n : Nat} {e t : TypeId} {v : Value} {xs : List Value} {cs : Array Value} {v0 v1 v2 v3 v4 v5 v6 v7 v8 v9 : Value} (h : w.ownsRow base e 1 v n xs) (ht : e ≠ t) (hC : Blk w X cs t) : (put10 w X v0 v1 v2 v3 v4 v5 v6 v7 v8 v9).ownsRow base e 1 v n xs :=
  own_kept (T := t) (B := X) h ⟨(put10_below _ _ _ _ _ _ _ _ _ _ (Nat.le_refl X)).size, put10_below _ _ _ _ _ _ _ _ _ _ (Nat.le_refl X), fun k _ hk => put10_other _ _ _ _ _ _ _ _ _ _ fun e => by subst e; exact hk _ _ hC⟩ ht

namespace lawCommandBack
set_option maxHeartbeats 12800000 in
set_option maxRecDepth 100000 in
theorem walk {H : Type} {enc : TypeId × Value → H} (w : World) {base : Nat} (v : Value) (d : DataW H) (p : List MemPlace) (hv : Value.okWide Try.prog w .any base 22 v)
    (ht : DataW.Trod enc Try.prog w 0 (fun _ => true) true 22 v d p) : Calls Try.prog 5 #[v] w fun e w' => e = .returned (.bool true) ∧ Below w.heap.size w w' := by
  obtain ⟨A, n, c, rfl, hnc, hcm, ha⟩ := open_asks22 hv ht
  unfold maxLen at hcm
  clear hv ht
  obtain ⟨i0, hi0, hy0, hy1, hy2⟩ := info_parts info_u8
  go_enter Try.func5, Try.ntmps5
  go_wp2_with fail
  go_loopw [3] (fun i wr => ∃ (k : Nat), k ≤ n ∧ k ≤ 10 ∧ i = .int .i64 k ∧ Below w.heap.size w wr) (fun i _ => n - (intOf i).toNat)
  case atStart => exact ⟨0, Nat.zero_le _, by omega, rfl, Below.refl _ _⟩
  case round =>
    obtain ⟨k, hk, hk10, rfl, hbl⟩ := hrel
    by_cases hlt : k < n
    · by_cases h10 : k < 10
      · skip
        obtain ⟨b, o, ⟨pl, sq, kd, nn, us, ti, wd, ht, ax, ay⟩, A1, m1, c1, A2, m2, c2, l2, rfl, hb, k0, k1, k2, k3, k4, k5, k6, k7, k8, k9, k10, hr1, hr2, hl2, hmc2, hcm2, hA2⟩ := ha.below hbl k hlt
        simp only at hr1 k0 k1 k2 k3 k4 k5 k6 k7 k8 k9 k10
        clear ha hA2
        by_cases hh : m1 ≤ 300 ∧ m2 ≤ 3000
        case neg =>
          go_wp2_with fail
          refine Calls.mono (heavy22_yes pl sq kd nn ti wd ht ax ay A1 A2 m1 c1 m2 c2 _ (by omega)) ?_
          rintro e w1 ⟨rfl, hb1⟩
          go_wp2_with fail
          go_ret
          exact ⟨rfl, hbl.trans (hb1.mono hbl.size)⟩
        obtain ⟨hm1, hm2⟩ := hh
        go_wp2_with fail
        refine Calls.mono (heavy22_no pl sq kd nn ti wd ht ax ay A1 A2 m1 c1 m2 c2 _ hm1 hm2) ?_
        rintro e w1 ⟨rfl, hb1⟩
        replace k0 := (hb1.cell hb).trans k0
        replace k1 := (hb1.cell hb).trans k1
        replace k2 := (hb1.cell hb).trans k2
        replace k3 := (hb1.cell hb).trans k3
        replace k4 := (hb1.cell hb).trans k4
        replace k5 := (hb1.cell hb).trans k5
        replace k6 := (hb1.cell hb).trans k6
        replace k7 := (hb1.cell hb).trans k7
        replace k8 := (hb1.cell hb).trans k8
        replace k9 := (hb1.cell hb).trans k9
        replace k10 := (hb1.cell hb).trans k10
        replace hb := Nat.lt_of_lt_of_le hb hb1.size
        replace hr1 := (hr1.below hb1).more hb1.size
        replace hr2 := (hr2.below hb1).more hb1.size
        replace hbl := hbl.trans (hb1.mono hbl.size)
        clear hb1
        have C1 := cmd_bytes ⟨pl, sq, kd, nn, us, ti, wd, ht, ax, ay⟩ A1 m1 c1 _ w1 hr1 (Nat.le_refl _) (by omega)
        unfold GivesNum cmdV at C1
        cases hM : mayC ⟨pl, sq, kd, nn, us, ti, wd, ht, ax, ay⟩ with
        | false =>
          rw [show bytesR ⟨pl, sq, kd, nn, us, ti, wd, ht, ax, ay⟩ = ([], 1) by unfold bytesR; rw [hM]; rfl] at C1
          simp only [List.length_nil] at C1
          replace C1 := Lib.hid C1
          go_wp2_with fail
          refine Calls.mono C1.out ?_
          rintro e w4 ⟨A4, c4, rfl, hown4, hb4⟩
          clear C1 hown4 hr1 k0 k1 k2 k3 k4 k5 k6 k7 k8 k9
          replace k10 := (hb4.cell hb).trans k10
          replace hb := Nat.lt_of_lt_of_le hb hb4.size
          replace hr2 := (hr2.below hb4).more hb4.size
          replace hbl := hbl.trans (hb4.mono hbl.size)
          clear hb4
          go_wp2_with fail
          refine Calls.mono (num22 _ _) ?_
          rintro e wn ⟨rfl, rfl⟩
          have C5 := cmd_parse A2 m2 c2 _ l2 _ ⟨hr2, hl2, hmc2, hcm2, by omega⟩ (Nat.le_refl _)
          have PB := parse_back hl2
          generalize parseR l2 = r at *
          obtain ⟨⟨pl2, sq2, kd2, nn2, us2, ti2, wd2, ht2, ax2, ay2⟩, n2, e2⟩ := r
          unfold GivesCmd cmdV at C5
          simp only at C5 PB
          replace C5 := Lib.hid C5
          replace PB := Lib.hid PB
          go_wp2_with fail
          refine Calls.mono C5.out ?_
          rintro e w9 ⟨A6, m6, c6, rfl, hown6, hm6, hb9⟩
          clear C5
          replace k10 := (hb9.cell hb).trans k10
          replace hb := Nat.lt_of_lt_of_le hb hb9.size
          replace hr2 := (hr2.below hb9).more hb9.size
          replace hbl := hbl.trans (hb9.mono hbl.size)
          clear hb9
          have hY := Blk.new w9 (cmdCs pl2 sq2 kd2 nn2 A6 m6 c6 ti2 wd2 ht2 ax2 ay2) 28
          have hbY : Below w9.heap.size w9 (w9.alloc (.cells (cmdCs pl2 sq2 kd2 nn2 A6 m6 c6 ti2 wd2 ht2 ax2 ay2) 28)) := (Below.refl _ _).alloc (Nat.le_refl _) _
          replace k10 := (hbY.cell hb).trans k10
          replace hb := Nat.lt_of_lt_of_le hb hbY.size
          replace hr2 := (hr2.below hbY).more hbY.size
          replace hown6 := own_below hown6 hbY
          replace hbl := hbl.trans (hbY.mono hbl.size)
          clear hbY
          go_wp2_with fail
          generalize w9.alloc (.cells (cmdCs pl2 sq2 kd2 nn2 A6 m6 c6 ti2 wd2 ht2 ax2 ay2) 28) = w10 at *
          generalize w9.heap.size = Y at *
          refine Calls.mono (num22 _ _) ?_
          rintro e wn ⟨rfl, rfl⟩
          by_cases he2 : e2 = 0
          case neg =>
            have de : (e2 == 0) = false := by rw [beq_eq_false_iff_ne]; exact he2
            have HBF := Lib.hid hbl
            clear hbl hY hown6 hr2 k10 PB
            go_wp2_with fail
            go_roundw
            case rel => exact ⟨k + 1, by omega, by omega, by go_num, HBF.out⟩
            case measure => simp [intOf]; omega
          obtain ⟨hM2, rfl, hT2, hL2⟩ := PB.out he2
          subst he2
          have C6 := cmd_bytes ⟨pl2, sq2, kd2, nn2, us2, ti2, wd2, ht2, ax2, ay2⟩ A6 m6 c6 _ w10 (Reads.of_own hown6) (Nat.le_refl _) (by omega)
          rw [show bytesR ⟨pl2, sq2, kd2, nn2, us2, ti2, wd2, ht2, ax2, ay2⟩ = (encC ⟨pl2, sq2, kd2, nn2, us2, ti2, wd2, ht2, ax2, ay2⟩, 0) by unfold bytesR; rw [hM2]; rfl] at C6
          obtain ⟨⟨z0, hz0⟩, hz3, _⟩ := enc_facts hM2
          have hzb2 := bytes_encC ⟨pl2, sq2, kd2, nn2, us2, ti2, wd2, ht2, ax2, ay2⟩
          simp only at hz0
          unfold GivesNum cmdV at C6
          simp only at C6
          have hzp : 0 < (encC ⟨pl2, sq2, kd2, nn2, us2, ti2, wd2, ht2, ax2, ay2⟩).length := by rw [hz0]; simp
          generalize encC ⟨pl2, sq2, kd2, nn2, us2, ti2, wd2, ht2, ax2, ay2⟩ = z2 at *
          have hll2 : l2.length = m2 := by have := hr2.1; simpa [nums] using this
          replace C6 := Lib.hid C6
          replace hll2 := Lib.hid hll2
          clear hz0 hM2 PB
          have y0 := hY.cell (i := 0) rfl
          have y1 := hY.cell (i := 1) rfl
          have y2 := hY.cell (i := 2) rfl
          have y3 := hY.cell (i := 3) rfl
          have y4 := hY.cell (i := 4) rfl
          have y5 := hY.cell (i := 5) rfl
          have y6 := hY.cell (i := 6) rfl
          have y7 := hY.cell (i := 7) rfl
          have y8 := hY.cell (i := 8) rfl
          have y9 := hY.cell (i := 9) rfl
          go_wp2_with fail
          refine Calls.mono C6.out ?_
          rintro e w11 ⟨A7, c7, rfl, hown7, hb11⟩
          clear C6 hown6 y0 y1 y2 y3 y4 y5 y6 y7 y8 y9 hY
          replace k10 := (hb11.cell hb).trans k10
          replace hb := Nat.lt_of_lt_of_le hb hb11.size
          replace hr2 := (hr2.below hb11).more hb11.size
          replace hbl := hbl.trans (hb11.mono hbl.size)
          clear hb11
          have hzm : z2.length ≤ m2 := by have := hll2.out; omega
          obtain ⟨_, b2, o2, rfl, _, _⟩ := hr2.num (i := 0) (by omega)
          have E := Lib.hid (eq_bytes_b A7 (some ⟨b2, o2, none⟩) z2.length c7 z2.length c2 _ _ z2 z2 w11 true (Reads.of_own hown7) (by have := hr2.first hzm; rwa [hT2] at this) (by omega) (by omega) (by simp))
          have d1 : decide ((m2 : Int) < (z2.length : Int)) = false := by simp; omega
          have d2 : (z2.length : Int) ≤ (c2 : Int) := by omega
          have HBF := Lib.hid hbl
          clear hT2 hown7 hbl hL2 hll2
          go_wp2_with fail
          refine Calls.mono (num22 _ _) ?_
          rintro e wn ⟨rfl, rfl⟩
          go_wp2_with fail
          refine Calls.mono E.out ?_
          rintro e w12 ⟨rfl, hb12⟩
          replace HBF := Lib.hid (HBF.out.trans (hb12.mono HBF.out.size))
          clear E k10 hb12 hr2
          go_wp2_with fail
          go_roundw
          case rel => exact ⟨k + 1, by omega, by omega, by go_num, HBF.out⟩
          case measure => simp [intOf]; omega
        | true =>
          rw [show bytesR ⟨pl, sq, kd, nn, us, ti, wd, ht, ax, ay⟩ = (encC ⟨pl, sq, kd, nn, us, ti, wd, ht, ax, ay⟩, 0) by unfold bytesR; rw [hM]; rfl] at C1
          obtain ⟨⟨z0, hz0⟩, hz3, _⟩ := enc_facts hM
          have hzb := bytes_encC ⟨pl, sq, kd, nn, us, ti, wd, ht, ax, ay⟩
          have PE := parse_enc hM l2
          have PC := Lib.hid (fun (j : Nat) (hj : j < (encC ⟨pl, sq, kd, nn, us, ti, wd, ht, ax, ay⟩).length) => parse_cut hM hj)
          have hzp : 0 < (encC ⟨pl, sq, kd, nn, us, ti, wd, ht, ax, ay⟩).length := by rw [hz0]; simp
          simp only at C1
          generalize hze : encC ⟨pl, sq, kd, nn, us, ti, wd, ht, ax, ay⟩ = z at *
          clear hz0 hze
          replace C1 := Lib.hid C1
          go_wp2_with fail
          refine Calls.mono C1.out ?_
          rintro e w4 ⟨A4, c4, rfl, hown4, hb4⟩
          clear C1
          have hs4 := hb4.size
          replace k0 := (hb4.cell hb).trans k0
          replace k1 := (hb4.cell hb).trans k1
          replace k2 := (hb4.cell hb).trans k2
          replace k3 := (hb4.cell hb).trans k3
          replace k4 := (hb4.cell hb).trans k4
          replace k5 := (hb4.cell hb).trans k5
          replace k6 := (hb4.cell hb).trans k6
          replace k7 := (hb4.cell hb).trans k7
          replace k8 := (hb4.cell hb).trans k8
          replace k9 := (hb4.cell hb).trans k9
          replace k10 := (hb4.cell hb).trans k10
          replace hb := Nat.lt_of_lt_of_le hb hb4.size
          replace hr1 := (hr1.below hb4).more hb4.size
          replace hr2 := (hr2.below hb4).more hb4.size
          replace hbl := hbl.trans (hb4.mono hbl.size)
          clear hb4
          have hcap4 := own_cap hown4
          obtain ⟨g, cap, hv, hgb, hgl⟩ := hown4.form hzp
          injection hv with hA4 _ hcp
          subst hA4; subst hcp
          generalize w1.heap.size = B4 at *
          go_wp2_with fail
          refine Calls.mono (num22 _ _) ?_
          rintro e wn ⟨rfl, rfl⟩
          have hR4 := Reads.of_own hown4
          have HK := Lib.hid (And.intro k0 (And.intro k1 (And.intro k2 (And.intro k3 (And.intro k4 (And.intro k5 (And.intro k6 (And.intro k7 (And.intro k8 (And.intro k9 k10))))))))))
          clear k0 k1 k2 k3 k4 k5 k6 k7 k8 k9 k10
          have cA : z.length + m2 ≤ maxLen := by unfold maxLen; omega
          have cB : (z.length + m2) * 1 ≤ 140737488355328 := by omega
          have hzl : z.length + m2 ≤ 6000 := by omega
          replace PE := Lib.hid PE
          have hbz2 : IsBytes (z ++ l2) := bytes_app hzb hl2
          have HBL := Lib.hid hbl
          have HO4 := Lib.hid hown4
          have HR4 := Lib.hid hR4
          clear hbl hown4 hR4
          go_wp2_with fail
          refine' wp_region_boxes (T := 28) (e := 5) (by decide) [.val _, .temp 7 (fun v w' => ∃ A' c', v = .slice A' z.length c' ∧ w'.ownsRow w4.heap.size 5 1 (.slice A' (z.length) c') (z.length) (nums .u8 (z))) (fun v w w' h hk => by obtain ⟨A, c, h1, h2⟩ := h; exact ⟨A, c, h1, own_kept h2 hk (by decide)⟩), .val _, .val _, .val _, .val _, .val _, .grow (fun v w' => ∃ A' c', v = .slice A' (z.length + m2) c' ∧ w'.ownsRow w4.heap.size 5 1 (.slice A' (z.length + m2) c') (z.length + m2) (nums .u8 (z ++ l2))) (fun v w w' h hk => by obtain ⟨A, c, h1, h2⟩ := h; exact ⟨A, c, h1, own_kept h2 hk (by decide)⟩), .pred (fun v w' => ∃ A m c, v = .tuple #[.agg #[.int .i64 pl, .int .i64 sq, .int .i64 kd, .int .i64 nn, .slice A m c, .int .i64 ti, .int .i64 wd, .int .i64 ht, .int .i64 ax, .int .i64 ay], .int .i64 z.length, .int .i64 0] ∧ w'.ownsRow w4.heap.size 3 1 (.slice A m c) m (nums .i64 us) ∧ m ≤ 66) (fun v w w' h hk => by obtain ⟨A, m, c, h1, h2, h3⟩ := h; exact ⟨A, m, c, h1, own_kept2 h2 hk (by decide) (by decide), h3⟩), .pred (fun v w' => ∃ A m c, v = .tuple #[.agg #[.int .i64 pl, .int .i64 sq, .int .i64 kd, .int .i64 nn, .slice A m c, .int .i64 ti, .int .i64 wd, .int .i64 ht, .int .i64 ax, .int .i64 ay], .int .i64 z.length, .int .i64 0] ∧ w'.ownsRow w4.heap.size 3 1 (.slice A m c) m (nums .i64 us) ∧ m ≤ 66) (fun v w w' h hk => by obtain ⟨A, m, c, h1, h2, h3⟩ := h; exact ⟨A, m, c, h1, own_kept2 h2 hk (by decide) (by decide), h3⟩), .pred (fun v w' => ∃ A m c, v = .agg #[.int .i64 pl, .int .i64 sq, .int .i64 kd, .int .i64 nn, .slice A m c, .int .i64 ti, .int .i64 wd, .int .i64 ht, .int .i64 ax, .int .i64 ay] ∧ w'.ownsRow w4.heap.size 3 1 (.slice A m c) m (nums .i64 us) ∧ m ≤ 66) (fun v w w' h hk => by obtain ⟨A, m, c, h1, h2, h3⟩ := h; exact ⟨A, m, c, h1, own_kept2 h2 hk (by decide) (by decide), h3⟩), .val _, .val _, .box (cmdCs 0 0 0 0 none 0 0 0 0 0 0 0), .put 13 (fun X w' => ∃ A m c, w'.heap[X]? = some (.cells (cmdCs pl sq kd nn A m c ti wd ht ax ay) 28 (0, 0)) ∧ w'.ownsRow w4.heap.size 3 1 (.slice A m c) m (nums .i64 us) ∧ m ≤ 66) (fun X w w' h hk hx => by obtain ⟨A, m, c, h1, h2, h3⟩ := h; exact ⟨A, m, c, hx.trans h1, own_kept2 h2 hk (by decide) (by decide), h3⟩), .val _, .val _] (A := _) ?hAa (by kernel_rfl) (by kernel_rfl) (by rfl) ?hxa ?stepsa ?henda
          case hAa =>
            intro uf X hX
            simp only [fillK, Act.put, List.setIfInBounds_toArray, List.set_cons_zero, List.set_cons_succ, Nat.reduceAdd]
            (try go_simp)
            exact hX
          case stepsa =>
            refine ⟨fun uf W HB hd => ?_, ?_⟩
            · clear hd
              intro K hK
              go_simp
              refine hK _ _ (Below.refl _ _) ?_
              (show _ = _); rfl
            refine ⟨fun uf W HB hd => ?_, ?_⟩
            · clear hd
              intro K hK
              have C := copy_bytes (some ⟨g, 0, none⟩) z.length c4 _ z W (HR4.out.below HB) HB.size (by omega)
              have HBs := HB.size
              go_simp
              (with_reducible refine Calls.mono C ?_)
              rintro e wn ⟨A8, c8, rfl, hO, hbn⟩
              exact hK _ _ hbn ⟨A8, c8, rfl, own_mono hO HBs⟩
            refine ⟨fun uf W HB hd => ?_, ?_⟩
            · clear hd
              intro K hK
              go_simp
              refine hK _ _ (Below.refl _ _) ?_
              (show _ = _); rfl
            refine ⟨fun uf W HB hd => ?_, ?_⟩
            · clear hd
              intro K hK
              go_simp
              refine hK _ _ (Below.refl _ _) ?_
              (show _ = _); rfl
            refine ⟨fun uf W HB hd => ?_, ?_⟩
            · clear hd
              intro K hK
              go_simp
              refine hK _ _ (Below.refl _ _) ?_
              (show _ = _); rfl
            refine ⟨fun uf W HB hd => ?_, ?_⟩
            · clear hd
              intro K hK
              go_simp
              refine hK _ _ (Below.refl _ _) ?_
              (show _ = _); rfl
            refine ⟨fun uf W HB hd => ?_, ?_⟩
            · clear hd
              have q10 := (HB.cell hb).trans HK.out.2.2.2.2.2.2.2.2.2.2
              intro K hK
              go_simp
              refine hK _ _ (Below.refl _ _) ?_
              (show _ = _); rfl
            refine ⟨fun uf W HB hd => ?_, ?_⟩
            · have h1 := hd 1 (by decide) rfl; clear hd
              obtain ⟨A8, c8, e1, hO⟩ : ∃ A' c', uf 1 = _ ∧ _ := h1
              intro K hK
              simp only [e1] at hK ⊢
              rw [if_pos (by rfl)]
              refine wp_append_any2 W (.tmp 47) (.tmp 52) _ (by rfl) w4.heap.size 5 i0 _ 1 1 Try.underlying29 hi0 hy0 hy1 hy2 rfl Nat.one_pos (.slice A8 z.length c8) _ _ (by rfl) hO _ _ _ _ _ (by rfl) (hr2.below HB) (nums_one _ _) cA cB HB.size ?_
              intro A9 c9 w9 hO9 hg9 hb9 hk9
              rw [← nums_app] at hO9
              exact hK _ _ (kept_grown hO hg9 hb9) ⟨A9, c9, rfl, hO9⟩
            refine ⟨fun uf W HB hd => ?_, ?_⟩
            · have h7 := hd 7 (by decide); clear hd
              obtain ⟨A9, c9, e7, hO9⟩ : ∃ A' c', uf 7 = _ ∧ _ := h7
              intro K hK
              simp only [e7] at hK ⊢
              have cap9 := own_cap hO9
              have C := cmd_parse A9 (z.length + m2) c9 _ (z ++ l2) W ⟨Reads.of_own hO9, hbz2, cap9.1, by have := cap9.2; omega, by omega⟩ (Nat.le_refl _)
              rw [PE.out] at C
              unfold GivesCmd cmdV at C
              simp only at C
              have HBs := HB.size
              go_simp
              (with_reducible refine Calls.mono C ?_)
              rintro e wn ⟨A, m, c, rfl, hO, hm, hbn⟩
              exact hK _ _ hbn ⟨A, m, c, rfl, own_mono hO HBs, hm⟩
            refine ⟨fun uf W HB hd => ?_, ?_⟩
            · have h8 := hd 8 (by decide); clear hd
              obtain ⟨A, m, c, e8, hO, hm⟩ : ∃ A m c, uf 8 = _ ∧ _ := h8
              intro K hK
              simp only [e8] at hK ⊢
              go_simp
              exact hK _ _ (Below.refl _ _) ⟨A, m, c, rfl, hO, hm⟩
            refine ⟨fun uf W HB hd => ?_, ?_⟩
            · have h9 := hd 9 (by decide); clear hd
              obtain ⟨A, m, c, e9, hO, hm⟩ : ∃ A m c, uf 9 = _ ∧ _ := h9
              intro K hK
              simp only [e9] at hK ⊢
              go_simp
              exact hK _ _ (Below.refl _ _) ⟨A, m, c, rfl, hO, hm⟩
            refine ⟨fun uf W HB hd => ?_, ?_⟩
            · have h9 := hd 9 (by decide); clear hd
              obtain ⟨A, m, c, e9, hO, hm⟩ : ∃ A m c, uf 9 = _ ∧ _ := h9
              intro K hK
              simp only [e9] at hK ⊢
              go_simp
              refine hK _ _ (Below.refl _ _) ?_
              (show _ = _); rfl
            refine ⟨fun uf W HB hd => ?_, ?_⟩
            · have h9 := hd 9 (by decide); clear hd
              obtain ⟨A, m, c, e9, hO, hm⟩ : ∃ A m c, uf 9 = _ ∧ _ := h9
              intro K hK
              simp only [e9] at hK ⊢
              go_simp
              refine hK _ _ (Below.refl _ _) ?_
              (show _ = _); rfl
            refine ⟨fun uf W HB hd => ?_, ?_⟩
            · clear hd
              intro K hK
              go_simp
              exact hK _ _ rfl rfl
            refine ⟨fun uf W HB hd => ?_, ?_⟩
            · have h10 := hd 10 (by decide); have h13 := hd 13 (by decide); clear hd
              obtain ⟨A, m, c, e10, hO, hm⟩ : ∃ A m c, uf 10 = _ ∧ _ := h10
              intro X hX hBX hz K hK
              have hC : Blk W X (cmdCs 0 0 0 0 none 0 0 0 0 0 0 0) 28 := hz
              have x0 := hC.cell (i := 0) rfl
              have x1 := hC.cell (i := 1) rfl
              have x2 := hC.cell (i := 2) rfl
              have x3 := hC.cell (i := 3) rfl
              have x4 := hC.cell (i := 4) rfl
              have x5 := hC.cell (i := 5) rfl
              have x6 := hC.cell (i := 6) rfl
              have x7 := hC.cell (i := 7) rfl
              have x8 := hC.cell (i := 8) rfl
              have x9 := hC.cell (i := 9) rfl
              have f0 := hC.free 0
              have f1 := hC.free 1
              have f2 := hC.free 2
              have f3 := hC.free 3
              have f4 := hC.free 4
              have f5 := hC.free 5
              have f6 := hC.free 6
              have f7 := hC.free 7
              have f8 := hC.free 8
              have f9 := hC.free 9
              simp only [e10, hX, boxPtr] at hK ⊢
              go_simp
              exact hK undef _ (put10_below _ _ _ _ _ _ _ _ _ _ (Nat.le_refl _)) (fun j hj => put10_other _ _ _ _ _ _ _ _ _ _ hj) ⟨_, put10_blk _ _ _ _ _ _ _ _ _ _ hC⟩ ⟨A, m, c, put10_blk _ _ _ _ _ _ _ _ _ _ hC, own_put10 hO (by decide) hC, hm⟩
            refine ⟨fun uf W HB hd => ?_, ?_⟩
            · clear hd
              intro K hK
              go_simp
              refine hK _ _ (Below.refl _ _) ?_
              (show _ = _); rfl
            refine ⟨fun uf W HB hd => ?_, ?_⟩
            · clear hd
              intro K hK
              go_simp
              refine hK _ _ (Below.refl _ _) ?_
              (show _ = _); rfl
            trivial
          case hxa => kernel_rfl
          case henda =>
            intro uf W HB hd
            have h14 := hd 14 (by decide)
            clear hd
            obtain ⟨X, e13, hBX, hXl, A5, m5, c5, hC, hO5, hm5⟩ : ∃ X, uf 13 = boxPtr X ∧ w4.heap.size ≤ X ∧ X < W.heap.size ∧ ∃ A m c, W.heap[X]? = some (.cells (cmdCs pl sq kd nn A m c ti wd ht ax ay) 28 (0, 0)) ∧ _ := h14
            simp only [e13, boxPtr]
            clear e13
            generalize uf 1 = u1
            generalize uf 7 = u7
            generalize uf 8 = u8
            generalize uf 9 = u9
            generalize uf 10 = u10
            obtain ⟨k0, k1, k2, k3, k4, k5, k6, k7, k8, k9, k10⟩ := HK.out
            have hbl := HBL.out
            have hown4 := HO4.out
            clear HK HBL HO4 HR4 PE hbz2 cA cB
            replace k0 := (HB.cell hb).trans k0
            replace k1 := (HB.cell hb).trans k1
            replace k2 := (HB.cell hb).trans k2
            replace k3 := (HB.cell hb).trans k3
            replace k4 := (HB.cell hb).trans k4
            replace k5 := (HB.cell hb).trans k5
            replace k6 := (HB.cell hb).trans k6
            replace k7 := (HB.cell hb).trans k7
            replace k8 := (HB.cell hb).trans k8
            replace k9 := (HB.cell hb).trans k9
            replace k10 := (HB.cell hb).trans k10
            replace hb := Nat.lt_of_lt_of_le hb HB.size
            replace hr1 := (hr1.below HB).more HB.size
            replace hr2 := (hr2.below HB).more HB.size
            replace hown4 := own_below hown4 HB
            replace hbl := hbl.trans (HB.mono hbl.size)
            clear HB
            have hX : Blk W X (cmdCs pl sq kd nn A5 m5 c5 ti wd ht ax ay) 28 := hC
            have M5 := fun W' (h : Below W.heap.size W W') => eq_cmd ⟨pl, sq, kd, nn, us, ti, wd, ht, ax, ay⟩ ⟨pl, sq, kd, nn, us, ti, wd, ht, ax, ay⟩ A5 A1 m5 c5 m1 c1 _ _ W' ((Reads.of_own hO5).below h) (hr1.below h) h.size h.size (by omega) (by omega)
            simp only [eqC_self, cmdV] at M5
            replace M5 := Lib.hid M5
            have hs0 : w4.heap.size ≤ W.heap.size := by omega
            clear hC hBX
            go_wp2_with fail
            have HX := Lib.hid hX
            have HO4 := Lib.hid hown4
            have HR2 := Lib.hid hr2
            have HBL := Lib.hid hbl
            have H0 := Lib.hid k0
            have H1 := Lib.hid k1
            have H2 := Lib.hid k2
            have H3 := Lib.hid k3
            have H4 := Lib.hid k4
            have H5 := Lib.hid k5
            have H6 := Lib.hid k6
            have H7 := Lib.hid k7
            have H8 := Lib.hid k8
            have H9 := Lib.hid k9
            have H10 := Lib.hid k10
            clear hX hown4 hr2 hbl k0 k1 k2 k3 k4 k5 k6 k7 k8 k9 k10
            refine' wp_region_grow [Fact.val _, Fact.val _, Fact.val _, Fact.val _, Fact.val _, Fact.val _, Fact.val _, Fact.val _, Fact.val _, Fact.val _, Fact.val _, Fact.val _, Fact.val _, Fact.val _, Fact.val _, Fact.val _, Fact.val _, Fact.val _, Fact.val _] (A := _) ?hAb (by kernel_rfl) (by kernel_rfl) ?stepsb ?hendb
            case hAb =>
              intro uf X9 hX9
              simp only [fillF, Act.put, List.setIfInBounds_toArray, List.set_cons_zero, List.set_cons_succ, Nat.reduceAdd]
              (try go_simp)
              exact hX9
            case stepsb =>
              refine ⟨fun uf W5 HB hd K hK => ?_, ?_⟩
              · clear hd
                go_simp
                refine hK _ _ (Below.refl _ _) ?_
                (show _ = _); rfl
              refine ⟨fun uf W5 HB hd K hK => ?_, ?_⟩
              · clear hd
                go_simp
                (with_reducible refine Calls.mono (num22 _ _) ?_)
                rintro e wn ⟨rfl, rfl⟩
                refine hK _ _ (Below.refl _ _) ?_
                (show _ = _); rfl
              refine ⟨fun uf W5 HB hd K hK => ?_, ?_⟩
              · clear hd
                go_simp
                refine hK _ _ (Below.refl _ _) ?_
                (show _ = _); rfl
              refine ⟨fun uf W5 HB hd K hK => ?_, ?_⟩
              · clear hd
                go_simp
                refine hK _ _ (Below.refl _ _) ?_
                (show _ = _); rfl
              refine ⟨fun uf W5 HB hd K hK => ?_, ?_⟩
              · clear hd
                go_simp
                refine hK _ _ (Below.refl _ _) ?_
                (show _ = _); rfl
              refine ⟨fun uf W5 HB hd K hK => ?_, ?_⟩
              · clear hd
                go_simp
                refine hK _ _ (Below.refl _ _) ?_
                (show _ = _); rfl
              refine ⟨fun uf W5 HB hd K hK => ?_, ?_⟩
              · clear hd
                go_simp
                refine hK _ _ (Below.refl _ _) ?_
                (show _ = _); rfl
              refine ⟨fun uf W5 HB hd K hK => ?_, ?_⟩
              · clear hd
                go_simp
                refine hK _ _ (Below.refl _ _) ?_
                (show _ = _); rfl
              refine ⟨fun uf W5 HB hd K hK => ?_, ?_⟩
              · clear hd
                go_simp
                refine hK _ _ (Below.refl _ _) ?_
                (show _ = _); rfl
              refine ⟨fun uf W5 HB hd K hK => ?_, ?_⟩
              · clear hd
                go_simp
                refine hK _ _ (Below.refl _ _) ?_
                (show _ = _); rfl
              refine ⟨fun uf W5 HB hd K hK => ?_, ?_⟩
              · clear hd
                have q0 := box_cell2 HX.out HB HX.out.lt 0 _ rfl
                have q1 := box_cell2 HX.out HB HX.out.lt 1 _ rfl
                have q2 := box_cell2 HX.out HB HX.out.lt 2 _ rfl
                have q3 := box_cell2 HX.out HB HX.out.lt 3 _ rfl
                have q4 := box_cell2 HX.out HB HX.out.lt 4 _ rfl
                have q5 := box_cell2 HX.out HB HX.out.lt 5 _ rfl
                have q6 := box_cell2 HX.out HB HX.out.lt 6 _ rfl
                have q7 := box_cell2 HX.out HB HX.out.lt 7 _ rfl
                have q8 := box_cell2 HX.out HB HX.out.lt 8 _ rfl
                have q9 := box_cell2 HX.out HB HX.out.lt 9 _ rfl
                go_simp
                refine hK _ _ (Below.refl _ _) ?_
                (show _ = _); rfl
              refine ⟨fun uf W5 HB hd K hK => ?_, ?_⟩
              · clear hd
                go_simp
                refine hK _ _ (Below.refl _ _) ?_
                (show _ = _); rfl
              refine ⟨fun uf W5 HB hd K hK => ?_, ?_⟩
              · clear hd
                go_simp
                refine hK _ _ (Below.refl _ _) ?_
                (show _ = _); rfl
              refine ⟨fun uf W5 HB hd K hK => ?_, ?_⟩
              · clear hd
                go_simp
                refine hK _ _ (Below.refl _ _) ?_
                (show _ = _); rfl
              refine ⟨fun uf W5 HB hd K hK => ?_, ?_⟩
              · clear hd
                go_simp
                refine hK _ _ (Below.refl _ _) ?_
                (show _ = _); rfl
              refine ⟨fun uf W5 HB hd K hK => ?_, ?_⟩
              · clear hd
                have g0 := (HB.cell hb).trans H0.out
                have g1 := (HB.cell hb).trans H1.out
                have g2 := (HB.cell hb).trans H2.out
                have g3 := (HB.cell hb).trans H3.out
                have g4 := (HB.cell hb).trans H4.out
                have g5 := (HB.cell hb).trans H5.out
                have g6 := (HB.cell hb).trans H6.out
                have g7 := (HB.cell hb).trans H7.out
                have g8 := (HB.cell hb).trans H8.out
                have g9 := (HB.cell hb).trans H9.out
                go_simp
                refine hK _ _ (Below.refl _ _) ?_
                (show _ = _); rfl
              refine ⟨fun uf W5 HB hd K hK => ?_, ?_⟩
              · clear hd
                have C := M5.out _ HB
                go_simp
                (with_reducible refine Calls.mono C ?_)
                rintro e wn ⟨rfl, hbn⟩
                refine hK _ _ hbn ?_
                (show _ = _); rfl
              refine ⟨fun uf W5 HB hd K hK => ?_, ?_⟩
              · clear hd
                go_simp
                refine hK _ _ (Below.refl _ _) ?_
                (show _ = _); rfl
              refine ⟨fun uf W5 HB hd K hK => ?_, ?_⟩
              · clear hd
                go_simp
                refine hK _ _ (Below.refl _ _) ?_
                (show _ = _); rfl
              trivial
            case hendb =>
              intro uf W5 HB hd
              clear hd
              have k10 := (HB.cell hb).trans H10.out
              have hown4 := own_below HO4.out HB
              have hr2 := (HR2.out.below HB).more HB.size
              have hbl := HBL.out.trans (HB.mono HBL.out.size)
              replace hb := Nat.lt_of_lt_of_le hb HB.size
              clear HB HX HO4 HR2 HBL M5 H0 H1 H2 H3 H4 H5 H6 H7 H8 H9 H10 hO5 hm5 hr1 hXl hs0 hs4
              go_wp2_with fail
              have K10 := Lib.hid k10
              have HO4 := Lib.hid hown4
              have HR2 := Lib.hid hr2
              have HBL := Lib.hid hbl
              clear k10 hown4 hr2 hbl
              go_loopw [9] (fun jv wr => ∃ (j : Nat), jv = .int .i64 j ∧ j ≤ z.length ∧ Below W5.heap.size W5 wr) (fun jv _ => z.length - (intOf jv).toNat)
              case atStart => exact ⟨0, rfl, Nat.zero_le _, Below.refl _ _⟩
              case round =>
                obtain ⟨j, rfl, hjz, hB5⟩ := hrel
                by_cases hj : j < z.length
                case neg =>
                  have k10 := (hB5.cell hb).trans K10.out
                  have hr2 := (HR2.out.below hB5).more hB5.size
                  have hbl := HBL.out.trans (hB5.mono HBL.out.size)
                  replace hb := Nat.lt_of_lt_of_le hb hB5.size
                  clear K10 HO4 HR2 HBL hB5 PC
                  have C5 := cmd_parse A2 m2 c2 _ l2 _ ⟨hr2, hl2, hmc2, hcm2, by omega⟩ (Nat.le_refl _)
                  have PB := parse_back hl2
                  generalize parseR l2 = r at *
                  obtain ⟨⟨pl2, sq2, kd2, nn2, us2, ti2, wd2, ht2, ax2, ay2⟩, n2, e2⟩ := r
                  unfold GivesCmd cmdV at C5
                  simp only at C5 PB
                  replace C5 := Lib.hid C5
                  replace PB := Lib.hid PB
                  go_wp2_with fail
                  refine Calls.mono C5.out ?_
                  rintro e w9 ⟨A6, m6, c6, rfl, hown6, hm6, hb9⟩
                  clear C5
                  replace k10 := (hb9.cell hb).trans k10
                  replace hb := Nat.lt_of_lt_of_le hb hb9.size
                  replace hr2 := (hr2.below hb9).more hb9.size
                  replace hbl := hbl.trans (hb9.mono hbl.size)
                  clear hb9
                  have hY := Blk.new w9 (cmdCs pl2 sq2 kd2 nn2 A6 m6 c6 ti2 wd2 ht2 ax2 ay2) 28
                  have hbY : Below w9.heap.size w9 (w9.alloc (.cells (cmdCs pl2 sq2 kd2 nn2 A6 m6 c6 ti2 wd2 ht2 ax2 ay2) 28)) := (Below.refl _ _).alloc (Nat.le_refl _) _
                  replace k10 := (hbY.cell hb).trans k10
                  replace hb := Nat.lt_of_lt_of_le hb hbY.size
                  replace hr2 := (hr2.below hbY).more hbY.size
                  replace hown6 := own_below hown6 hbY
                  replace hbl := hbl.trans (hbY.mono hbl.size)
                  clear hbY
                  go_wp2_with fail
                  generalize w9.alloc (.cells (cmdCs pl2 sq2 kd2 nn2 A6 m6 c6 ti2 wd2 ht2 ax2 ay2) 28) = w10 at *
                  generalize w9.heap.size = Y at *
                  refine Calls.mono (num22 _ _) ?_
                  rintro e wn ⟨rfl, rfl⟩
                  by_cases he2 : e2 = 0
                  case neg =>
                    have de : (e2 == 0) = false := by rw [beq_eq_false_iff_ne]; exact he2
                    have HBF := Lib.hid hbl
                    clear hbl hY hown6 hr2 k10 PB
                    go_wp2_with fail
                    go_roundw
                    case rel => exact ⟨k + 1, by omega, by omega, by go_num, HBF.out⟩
                    case measure => simp [intOf]; omega
                  obtain ⟨hM2, rfl, hT2, hL2⟩ := PB.out he2
                  subst he2
                  have C6 := cmd_bytes ⟨pl2, sq2, kd2, nn2, us2, ti2, wd2, ht2, ax2, ay2⟩ A6 m6 c6 _ w10 (Reads.of_own hown6) (Nat.le_refl _) (by omega)
                  rw [show bytesR ⟨pl2, sq2, kd2, nn2, us2, ti2, wd2, ht2, ax2, ay2⟩ = (encC ⟨pl2, sq2, kd2, nn2, us2, ti2, wd2, ht2, ax2, ay2⟩, 0) by unfold bytesR; rw [hM2]; rfl] at C6
                  obtain ⟨⟨z0, hz0⟩, hz3, _⟩ := enc_facts hM2
                  have hzb2 := bytes_encC ⟨pl2, sq2, kd2, nn2, us2, ti2, wd2, ht2, ax2, ay2⟩
                  simp only at hz0
                  unfold GivesNum cmdV at C6
                  simp only at C6
                  have hzp : 0 < (encC ⟨pl2, sq2, kd2, nn2, us2, ti2, wd2, ht2, ax2, ay2⟩).length := by rw [hz0]; simp
                  generalize encC ⟨pl2, sq2, kd2, nn2, us2, ti2, wd2, ht2, ax2, ay2⟩ = z2 at *
                  have hll2 : l2.length = m2 := by have := hr2.1; simpa [nums] using this
                  replace C6 := Lib.hid C6
                  replace hll2 := Lib.hid hll2
                  clear hz0 hM2 PB
                  have y0 := hY.cell (i := 0) rfl
                  have y1 := hY.cell (i := 1) rfl
                  have y2 := hY.cell (i := 2) rfl
                  have y3 := hY.cell (i := 3) rfl
                  have y4 := hY.cell (i := 4) rfl
                  have y5 := hY.cell (i := 5) rfl
                  have y6 := hY.cell (i := 6) rfl
                  have y7 := hY.cell (i := 7) rfl
                  have y8 := hY.cell (i := 8) rfl
                  have y9 := hY.cell (i := 9) rfl
                  go_wp2_with fail
                  refine Calls.mono C6.out ?_
                  rintro e w11 ⟨A7, c7, rfl, hown7, hb11⟩
                  clear C6 hown6 y0 y1 y2 y3 y4 y5 y6 y7 y8 y9 hY
                  replace k10 := (hb11.cell hb).trans k10
                  replace hb := Nat.lt_of_lt_of_le hb hb11.size
                  replace hr2 := (hr2.below hb11).more hb11.size
                  replace hbl := hbl.trans (hb11.mono hbl.size)
                  clear hb11
                  have hzm : z2.length ≤ m2 := by have := hll2.out; omega
                  obtain ⟨_, b2, o2, rfl, _, _⟩ := hr2.num (i := 0) (by omega)
                  have E := Lib.hid (eq_bytes_b A7 (some ⟨b2, o2, none⟩) z2.length c7 z2.length c2 _ _ z2 z2 w11 true (Reads.of_own hown7) (by have := hr2.first hzm; rwa [hT2] at this) (by omega) (by omega) (by simp))
                  have d1 : decide ((m2 : Int) < (z2.length : Int)) = false := by simp; omega
                  have d2 : (z2.length : Int) ≤ (c2 : Int) := by omega
                  have HBF := Lib.hid hbl
                  clear hT2 hown7 hbl hL2 hll2
                  go_wp2_with fail
                  refine Calls.mono (num22 _ _) ?_
                  rintro e wn ⟨rfl, rfl⟩
                  go_wp2_with fail
                  refine Calls.mono E.out ?_
                  rintro e w12 ⟨rfl, hb12⟩
                  replace HBF := Lib.hid (HBF.out.trans (hb12.mono HBF.out.size))
                  clear E k10 hb12 hr2
                  go_wp2_with fail
                  go_roundw
                  case rel => exact ⟨k + 1, by omega, by omega, by go_num, HBF.out⟩
                  case measure => simp [intOf]; omega
                have hown4 := own_below HO4.out hB5
                have hcap4 := own_cap hown4
                have C1 := cmd_parse (some ⟨g, 0, none⟩) j c4 wr.heap.size (z.take j) wr ⟨(Reads.of_own hown4).first (by omega), fun x hx => hzb x (List.mem_of_mem_take hx), by omega, by omega, by omega⟩ (Nat.le_refl _)
                rw [PC.out j hj] at C1
                unfold GivesCmd cmdV zeroC at C1
                simp only at C1
                replace C1 := Lib.hid C1
                have hjc : (j : Int) ≤ (c4 : Int) := by omega
                go_wp2_with fail
                refine Calls.mono C1.out ?_
                rintro e w11 ⟨A11, m11, c11, rfl, hown11, hm11, hb11⟩
                clear C1 hjc hown4
                obtain rfl : m11 = 0 := by have := hown11.1; simp [nums] at this; omega
                replace hB5 := hB5.trans (hb11.mono hB5.size)
                clear hb11
                have hZ := Blk.new w11 (cmdCs 0 0 0 0 A11 0 c11 0 0 0 0 0) 28
                have hbZ : Below W5.heap.size W5 (w11.alloc (.cells (cmdCs 0 0 0 0 A11 0 c11 0 0 0 0 0) 28)) := hB5.alloc hB5.size _
                replace hown11 := hown11.alloc (.cells (cmdCs 0 0 0 0 A11 0 c11 0 0 0 0 0) 28)
                go_wp2_with fail
                generalize w11.alloc (.cells (cmdCs 0 0 0 0 A11 0 c11 0 0 0 0 0) 28) = w12 at *
                generalize w11.heap.size = Z at *
                refine Calls.mono (num22 _ _) ?_
                rintro e wn ⟨rfl, rfl⟩
                have E := eq_cmd zeroC zeroC A11 none 0 c11 0 0 _ w12.heap.size w12 (Reads.of_own hown11) Reads.none_ (Nat.le_refl _) (Nat.le_refl _) (by omega) (by omega)
                rw [eqC_self] at E
                unfold cmdV zeroC at E
                simp only at E
                replace E := Lib.hid E
                have y0 := hZ.cell (i := 0) rfl
                have y1 := hZ.cell (i := 1) rfl
                have y2 := hZ.cell (i := 2) rfl
                have y3 := hZ.cell (i := 3) rfl
                have y4 := hZ.cell (i := 4) rfl
                have y5 := hZ.cell (i := 5) rfl
                have y6 := hZ.cell (i := 6) rfl
                have y7 := hZ.cell (i := 7) rfl
                have y8 := hZ.cell (i := 8) rfl
                have y9 := hZ.cell (i := 9) rfl
                go_wp2_with fail
                refine Calls.mono E.out ?_
                rintro e w13 ⟨rfl, hb13⟩
                have HB := Lib.hid (hbZ.trans (hb13.mono hbZ.size))
                clear E hZ hbZ hb13 hown11 hB5 y0 y1 y2 y3 y4 y5 y6 y7 y8 y9
                go_wp2_with fail
                go_roundw
                case rel => exact ⟨j + 1, by go_num, by omega, HB.out⟩
                case measure => simp [intOf]; omega
      · go_wp2_with fail
        refine Calls.mono (wakes22 _) ?_
        rintro e w3 ⟨rfl, hb3⟩
        go_wp2_with fail
        go_ret
        exact ⟨rfl, hbl.trans (hb3.mono hbl.size)⟩
    · go_wp2_with fail
      refine Calls.mono (wakes22 _) ?_
      rintro e w3 ⟨rfl, hb3⟩
      go_wp2_with fail
      go_ret
      exact ⟨rfl, hbl.trans (hb3.mono hbl.size)⟩
end lawCommandBack
end Go.Proofs.Ytneigplmgellcaa
