/- The walk of the law SlotsApart. -/
import Derived.Test.YtfgjiaakoacomaaSlotsWake
import Derived.Test.YtfgjiaakoacomaaBoxQM
import Derived.Test.YtfgjiaakoacomaaRefCenter
namespace Go.Proofs.Ytfgjiaakoacomaa
set_option maxRecDepth 20000
open Go.RowKit Go.WideShapes Go.ChangeShapes

/-- What the places about a goal are, one by one. -/
structure PlacesP (W : Int) (n g : Nat) (good : Nat → Bool) (gap : Int) (S : List Nat) : Prop where
  len : S.length ≤ 12
  lt : ∀ k, k < S.length → S.getD k 0 < n ∧ good (S.getD k 0) = true
  up : ∀ j k, j < k → k < S.length → stepsT W g (S.getD j 0) ≤ stepsT W g (S.getD k 0) ∧ S.getD j 0 ≠ S.getD k 0
  far : ∀ j k, j < k → k < S.length → gap ≤ tX W (S.getD j 0) - tX W (S.getD k 0) ∨ gap ≤ tX W (S.getD k 0) - tX W (S.getD j 0) ∨ gap ≤ tY W (S.getD j 0) - tY W (S.getD k 0) ∨ gap ≤ tY W (S.getD k 0) - tY W (S.getD j 0)
  head : good g = true → 0 < S.length ∧ S.getD 0 0 = g
theorem places_ok {W H : Int} {n g : Nat} {s : Int} {good : Nat → Bool} (hW : 1 ≤ W) (hH : 1 ≤ H) (hn : (n : Int) = W * H) (hg : g < n) (hs : 0 ≤ s) : PlacesP W n g good (2 * s + 1) (slotsN W H n g (2 * s + 1) good 12) := by
  have hmem : ∀ k, k < (slotsN W H n g (2 * s + 1) good 12).length → (slotsN W H n g (2 * s + 1) good 12).getD k 0 ∈ slotsN W H n g (2 * s + 1) good 12 := fun k hk => by
    rw [show (slotsN W H n g (2 * s + 1) good 12).getD k 0 = (slotsN W H n g (2 * s + 1) good 12)[k] by simp [List.getD, hk]]
    exact List.getElem_mem hk
  have hup : ∀ j k, j < k → k < (slotsN W H n g (2 * s + 1) good 12).length → befT W g ((slotsN W H n g (2 * s + 1) good 12).getD j 0) ((slotsN W H n g (2 * s + 1) good 12).getD k 0) := fun j k hjk hk => by
    have := List.pairwise_iff_getElem.1 (slots_pair (W := W) (H := H) (n := n) (g := g) (s := 2 * s + 1) (good := good) 12) j k (by omega) hk hjk
    rw [show (slotsN W H n g (2 * s + 1) good 12).getD j 0 = (slotsN W H n g (2 * s + 1) good 12)[j]'(by omega) by simp [List.getD, show j < (slotsN W H n g (2 * s + 1) good 12).length by omega], show (slotsN W H n g (2 * s + 1) good 12).getD k 0 = (slotsN W H n g (2 * s + 1) good 12)[k] by simp [List.getD, hk]]
    exact this
  refine ⟨slots_len 12, fun k hk => ⟨(slots_mem (hmem k hk)).1, (slots_mem (hmem k hk)).2.1⟩, hup, fun j k hjk hk => ?_, fun hgd => ?_⟩
  · have a := slots_mem (hmem j (by omega))
    have b := slots_mem (hmem k hk)
    exact slots_apart hW hn (by omega) a.1 b.1 (hup j k hjk hk).2 a.2.2.1 a.2.2.2 b.2.2.1 b.2.2.2
  · obtain ⟨Y, hY⟩ := slots_head (s := 2 * s + 1) hW (by omega) hn hg hgd 11
    rw [hY]
    exact ⟨by simp, rfl⟩
theorem reads_take {w : World} {B n m : Nat} {A : Option Addr} {xs : List Value} (h : Reads w B 1 A n xs) (hm : m ≤ n) : Reads w B 1 A m (xs.take m) := by
  refine ⟨by rw [List.length_take, h.1]; omega, fun h0 => ?_⟩
  obtain ⟨ad, e, hb, hc⟩ := h.2 (by omega)
  refine ⟨ad, e, hb, fun j u hu => hc j u ?_⟩
  rw [List.getElem?_take] at hu
  split at hu
  · exact hu
  · cases hu
theorem take5 (S : List Nat) : asI (S.take 5) = (asI S).take 5 := by simp [asI, List.map_take]

namespace lawSlotsApart
set_option maxHeartbeats 6400000 in
set_option maxRecDepth 100000 in
theorem walk {H : Type} {enc : TypeId × Value → H} (w : World) {base : Nat} (v : Value) (d : DataW H) (p : List MemPlace) (hv0 : Value.okWide Try.prog w .any base 50 v)
    (ht : DataW.Trod enc Try.prog w 0 (fun _ => true) true 50 v d p) : Calls Try.prog 9 #[v] w fun e w' => e = .returned (.bool true) ∧ Below w.heap.size w w' := by
  obtain ⟨W, H, A, n, c, ts, A1, n1, c1, l, k, s, A2, n2, c2, l2, A3, n3, c3, l3, rfl, hWr, hHr, hr, hby, ⟨hnc, hcm⟩, hv, ⟨hnc1, hcm1⟩, hkr, hsr, hr2, ⟨hnc2, hcm2⟩, hr3, ⟨hnc3, hcm3⟩, hi2, hi3⟩ := open_ask20 hv0 ht
  unfold maxLen at hcm hcm1 hcm2 hcm3
  clear hv0 ht hWr hHr hkr hsr hr3 hi3
  have hP := Blk.new w #[.int .i64 W, .int .i64 H, .slice A n c, .slice A1 n1 c1, .int .i64 k, .int .i64 s, .slice A2 n2 c2, .slice A3 n3 c3] 50
  have hb := (Below.refl w.heap.size w).alloc (Nat.le_refl _) (.cells #[.int .i64 W, .int .i64 H, .slice A n c, .slice A1 n1 c1, .int .i64 k, .int .i64 s, .slice A2 n2 c2, .slice A3 n3 c3] 50)
  have C0 := Lib.hid (heavy13 W H k s A A1 A2 n c n1 c1 n2 c2 (w.alloc (.cells #[.int .i64 W, .int .i64 H, .slice A n c, .slice A1 n1 c1, .int .i64 k, .int .i64 s, .slice A2 n2 c2, .slice A3 n3 c3] 50)) (by omega) (by omega) (by omega))
  clear hnc hcm hnc1 hcm1 hnc2 hcm2 hnc3 hcm3
  go_enter Try.func9, Try.ntmps9
  go_wp2_with fail
  generalize w.alloc (.cells #[.int .i64 W, .int .i64 H, .slice A n c, .slice A1 n1 c1, .int .i64 k, .int .i64 s, .slice A2 n2 c2, .slice A3 n3 c3] 50) = w1 at *
  refine Calls.mono C0.out ?_
  rintro e w2 ⟨rfl, hb2⟩
  clear C0
  replace hP := hP.below hb2 hP.lt
  replace hb := hb.trans (hb2.mono hb.size)
  clear hb2
  by_cases hh : 700 < n ∨ 30 < n1 ∨ 30 < n2
  case pos =>
    rw [decide_eq_true hh]
    clear hP hh
    go_wp2_with fail
    go_ret
    exact ⟨rfl, hb⟩
  rw [decide_eq_false hh]
  obtain ⟨hn7, hn31, hn32⟩ : n ≤ 700 ∧ n1 ≤ 30 ∧ n2 ≤ 30 := by omega
  clear hh
  have x0 := hP.cell (i := 0) rfl
  have x1 := hP.cell (i := 1) rfl
  have x2 := hP.cell (i := 2) rfl
  have x3 := hP.cell (i := 3) rfl
  have x4 := hP.cell (i := 4) rfl
  have x5 := hP.cell (i := 5) rfl
  have M := Lib.hid (ref13_may W H k s A n c w.heap.size ts A1 n1 c1 l w2 (hr.below hb) hb.size hby (hv.below hb) (by omega) (by omega))
  go_wp2_with fail
  refine Calls.mono M.out ?_
  rintro e w3 ⟨rfl, hb3⟩
  clear M x0 x1 x2 x3 x4 x5
  replace hP := hP.below hb3 hP.lt
  replace hb := hb.trans (hb3.mono hb.size)
  clear hb3
  by_cases hA : allS n W H ts l k s
  case neg =>
    rw [decide_eq_false hA]
    clear hP hA
    go_wp2_with fail
    go_ret
    exact ⟨rfl, hb⟩
  rw [decide_eq_true hA]
  obtain ⟨hW0, hW1, hH0, hH1, hlen, _⟩ := isG_bounds hA.1.1
  have hll := hv.1
  have hnn : (n : Int) = W * H := by have := hr.1; simp [nums] at this; omega
  obtain ⟨ml, hR, hK⟩ := room_ex (openT W ts l n1 k) hW0 hW1 hnn
  have hall : ∀ i, i < n1 → formP (bdAt l i) ∧ onP W H (bdAt l i) := fun i hi => ⟨(hA.1.2.1.2.2 i (by rw [hll]; exact hi)).1, (hA.1.2.1.2.2 i (by rw [hll]; exact hi)).2.1⟩
  have GC := Lib.hid (ref_good W H k s A n c w.heap.size ts A1 n1 c1 l w3 (hr.below hb) hb.size hA.1.1 hby (hv.below hb) (by omega) hall hA.1.2.2 ml hR hK)
  have FC := Lib.hid (fun (g : Nat) (hg : g < n) (N : Int) (h0 : 0 ≤ N) (h1 : N ≤ 64) W' (h : Below w.heap.size w W') => slots_find W H k s N A n c w.heap.size ts A1 n1 c1 l W' (hr.below h) h.size hby (hv.below h) (by omega) hA g hg h0 h1 ml hR)
  have hs0 := hA.2.1
  have hs3 := hA.2.2
  have HPL := Lib.hid (fun (g : Nat) (hg : g < n) => places_ok (good := goodT ml s) hW0 hH0 hnn hg hs0)
  have HS5 := Lib.hid (fun (g : Nat) => slots_few (W := W) (H := H) (n := n) (g := g) (s := 2 * s + 1) (good := goodT ml s) (M := 5) (N := 12) (by omega))
  have HNN := Lib.hid hnn
  generalize goodT ml s = good at *
  clear hall hR hK hA hll hnn hlen hv hr hby
  have x0 := hP.cell (i := 0) rfl
  have x1 := hP.cell (i := 1) rfl
  have x2 := hP.cell (i := 2) rfl
  have x3 := hP.cell (i := 3) rfl
  have x4 := hP.cell (i := 4) rfl
  have x5 := hP.cell (i := 5) rfl
  go_wp2_with fail
  refine Calls.mono GC.out ?_
  rintro e w4 ⟨A7, c7, rfl, hOg, hb4⟩
  clear GC
  clear x0 x1 x2 x3 x4 x5
  replace hP := hP.below hb4 hP.lt
  replace hb := hb.trans (hb4.mono hb.size)
  have hgd := Reads.of_own hOg
  clear hb4 hOg
  have x5 := hP.cell (i := 5) rfl
  go_wp2_with fail
  clear x5
  have hpl := hP.lt
  go_loopw [5] (fun iv wr => ∃ (i : Nat), i ≤ n2 ∧ iv = .int .i64 (i : Int) ∧ Below w4.heap.size w4 wr) (fun iv _ => n2 - (intOf iv).toNat)
  case atStart => exact ⟨0, Nat.zero_le _, rfl, Below.refl _ _⟩
  case round =>
    obtain ⟨i, hi, rfl, hbl⟩ := hrel
    have HP := Lib.hid hP
    have HB := Lib.hid hb
    have HGD := Lib.hid hgd
    have HL := Lib.hid hbl
    clear hP hb hgd hbl
    have hP := HP.out.below HL.out hpl
    have x6 := hP.cell (i := 6) rfl
    by_cases hic : i < n2 ∧ i < 4
    case neg =>
      clear HPL HS5 FC HGD hr2 hi2
      rcases (show i = n2 ∨ (i < n2 ∧ 4 ≤ i) by omega) with h1 | ⟨h1, h2⟩
      all_goals
        clear hic
        go_wp2_with fail
        refine Calls.mono (wakes20 _) ?_
        rintro e w5 ⟨rfl, hb5⟩
        have HB2 := Lib.hid (HB.out.trans ((HL.out.trans (hb5.mono HL.out.size)).mono HB.out.size))
        clear hb5
        go_wp2_with fail
        go_ret
        exact ⟨rfl, HB2.out⟩
    obtain ⟨hin, hi4⟩ := hic
    have hiz : (i : Int) < (n2 : Int) := by omega
    have hi4z : (i : Int) < 4 := by omega
    obtain ⟨_, bt, ot, rfl, hbt, hct⟩ := (hr2.below (HB.out.trans (HL.out.mono HB.out.size))).num hin
    have ht64 := hi2 (l2.getD i 0) (by have h := hr2.1; simp [nums] at h; rw [show l2.getD i 0 = l2[i]'(by omega) by simp [List.getD, show i < l2.length by omega]]; exact List.getElem_mem _)
    generalize l2.getD i 0 = t at *
    have T := fun W' => ref_tile W H t A n c W' hW0 hW1 hH0 hH1
    have x0 := hP.cell (i := 0) rfl
    have x1 := hP.cell (i := 1) rfl
    have x2 := hP.cell (i := 2) rfl
    have x3 := hP.cell (i := 3) rfl
    have x4 := hP.cell (i := 4) rfl
    have x5 := hP.cell (i := 5) rfl
    go_wp2_with fail
    clear hct
    by_cases hT : tileB W H t = true
    case neg =>
      rw [show tileB W H t = false by simpa using hT] at T
      replace T := Lib.hid T
      refine Calls.mono (T.out _) ?_
      rintro e w5 ⟨rfl, hb5⟩
      have HL2 := Lib.hid (HL.out.trans (hb5.mono HL.out.size))
      clear hb5 T x0 x1 x2 x3 x4 x5 x6 HPL HS5 FC HGD hP
      go_wp2_with fail
      go_roundw
      case rel => exact ⟨i + 1, by omega, by go_num, HL2.out⟩
      case measure => simp [intOf]; omega
    rw [hT] at T
    replace T := Lib.hid T
    refine Calls.mono (T.out _) ?_
    rintro e w5 ⟨rfl, hb5⟩
    have HL2 := Lib.hid (HL.out.trans (hb5.mono HL.out.size))
    clear hb5 T x0 x1 x2 x3 x4 x5 x6 hP HL
    obtain ⟨ht0, ht1⟩ : 0 ≤ t ∧ t < W * H := of_decide_eq_true hT
    obtain ⟨g, rfl⟩ := Int.eq_ofNat_of_zero_le ht0
    have hgn : g < n := by have := HNN.out; omega
    have F12 := FC.out g hgn 12 (by omega) (by omega)
    have F5 := FC.out g hgn 5 (by omega) (by omega)
    have hPL := HPL.out g hgn
    rw [show (12 : Int).toNat = 12 from rfl] at F12
    rw [show (5 : Int).toNat = 5 from rfl, HS5.out g, take5] at F5
    have FC' := FC
    generalize slotsN W H n g (2 * s + 1) good 12 = S at *
    clear FC'
    have hP := HP.out.below HL2.out hpl
    have x0 := hP.cell (i := 0) rfl
    have x1 := hP.cell (i := 1) rfl
    have x2 := hP.cell (i := 2) rfl
    have x3 := hP.cell (i := 3) rfl
    have x4 := hP.cell (i := 4) rfl
    have x5 := hP.cell (i := 5) rfl
    replace F12 := Lib.hid (F12 w5 (HB.out.trans (HL2.out.mono HB.out.size)))
    replace F5 := Lib.hid F5
    go_wp2_with fail
    refine Calls.mono F12.out ?_
    rintro e w6 ⟨A12, c12, rfl, hO12, hb6⟩
    clear F12 x0 x1 x2 x3 x4 x5 hP
    have HL3 := Lib.hid (HL2.out.trans (hb6.mono HL2.out.size))
    clear hb6
    have hP := HP.out.below HL3.out hpl
    have x0 := hP.cell (i := 0) rfl
    have x1 := hP.cell (i := 1) rfl
    have x2 := hP.cell (i := 2) rfl
    have x3 := hP.cell (i := 3) rfl
    have x4 := hP.cell (i := 4) rfl
    have x5 := hP.cell (i := 5) rfl
    have F5' := Lib.hid (F5.out w6 (HB.out.trans (HL3.out.mono HB.out.size)))
    clear F5
    go_wp2_with fail
    refine Calls.mono F5'.out ?_
    rintro e w7 ⟨A5, c5, rfl, hO5, hb7⟩
    clear F5' x0 x1 x2 x3 x4 x5 hP
    have HL4 := Lib.hid (HL3.out.trans (hb7.mono HL3.out.size))
    have hr12 := (Reads.of_own hO12).below hb7
    have hr12 := hr12.more hb7.size
    have hrm := Reads.of_own hO5
    have hcap := own_cap hO12
    rw [asI_len] at hr12 hcap ⊢
    rw [show ((asI S).take 5).length = min S.length 5 by rw [List.length_take, asI_len]; omega] at hrm ⊢
    have HR12 := Lib.hid hr12
    have HRM := Lib.hid hrm
    have HPLS := Lib.hid hPL
    have hlS := hPL.len
    obtain ⟨m12, hm12⟩ : ∃ m12, m12 = S.length := ⟨_, rfl⟩
    obtain ⟨m5, hm5⟩ : ∃ m5, m5 = min S.length 5 := ⟨_, rfl⟩
    have hrt : Reads w7 w7.heap.size 1 A12 m5 (nums .i64 (List.take 5 (asI S))) := by
      have h5 : List.take 5 (asI S) = List.take m5 (asI S) := by
        rw [hm5]
        by_cases h : S.length ≤ 5
        · rw [List.take_of_length_le (by rw [asI_len]; omega), List.take_of_length_le (by rw [asI_len]; omega)]
        · rw [show min S.length 5 = 5 by omega]
      rw [h5, show nums .i64 (List.take m5 (asI S)) = (nums .i64 (asI S)).take m5 by simp [nums, List.map_take]]
      exact reads_take HR12.out (by omega)
    rw [← hm12] at HR12 hlS hcap
    rw [← hm5] at HRM
    rw [← hm5, ← hm12]
    have hmin : min (m12 : Int) 5 = (m5 : Int) := by omega
    have E := Lib.hid (eq_nums_b A5 A12 m5 c5 m5 c12 _ _ _ _ w7 true HRM.out hrt (by omega) (by omega) (by simp))
    have HM12 := Lib.hid hm12
    obtain ⟨hcap0, hcap1⟩ := hcap
    have hcz : (m5 : Int) ≤ (c12 : Int) := by omega
    have hcz2 : (c12 : Int) ≤ 9223372036854775807 := by omega
    have hlz : decide ((12 : Int) < (m12 : Int)) = false := decide_eq_false (by omega)
    have hm5z : (m5 : Int) ≤ (m12 : Int) := by omega
    clear hb7 hO12 hO5 HL2 HL3 hPL hr12 hrm HPL HS5 FC hm12 hm5 hrt HRM
    obtain ⟨bg, og, rfl, hbg, hcg⟩ := reads_bool (HGD.out.below HL4.out) hgn
    have hgnz : (g : Int) < (n : Int) := by omega
    go_wp2_with fail
    refine Calls.mono (num20 _ _) ?_
    rintro e wn ⟨rfl, rfl⟩
    go_wp2_with fail
    refine Calls.mono (num20 _ _) ?_
    rintro e wn ⟨rfl, rfl⟩
    go_wp2_with fail
    refine Calls.mono E.out ?_
    rintro e w8 ⟨rfl, hb8⟩
    have HL5 := Lib.hid (HL4.out.trans (hb8.mono HL4.out.size))
    have HR8 := Lib.hid ((HR12.out.below hb8).more hb8.size)
    replace hcg := (hb8.cell (p := ⟨bg, og + g, none⟩) (Nat.lt_of_lt_of_le hbg HL4.out.size)).trans hcg
    clear hb8 E HL4 HR12 hcz hcz2 hm5z hmin hcap0 hcap1
    have hs8 := HL5.out.size
    rcases Bool.eq_false_or_eq_true (good g) with hgg | hgg
    case' inl =>
      obtain ⟨hl0, hhd⟩ := HPLS.out.head hgg
      rw [← HM12.out] at hl0
      obtain ⟨_, b12, o12, rfl, hb12, hc12⟩ := HR8.out.num hl0
      rw [asI_getD (by rw [← HM12.out]; exact hl0), hhd, Nat.add_zero] at hc12
      have hl0z : (0 : Int) < (m12 : Int) := by omega
      have hnez : ¬ (m12 = 0) := by omega
      rw [hgg] at hcg
      go_wp2_with fail
      clear hl0 hhd hc12 hl0z hnez
    case' inr =>
      rw [hgg] at hcg
      go_wp2_with fail
    all_goals
      as_aux_lemma =>
        clear hcg hgg
        go_loopw [11] (fun qv wr => ∃ (q : Nat), q ≤ m12 ∧ qv = .int .i64 (q : Int) ∧ Below w8.heap.size w8 wr) (fun qv _ => m12 - (intOf qv).toNat)
        case atStart => exact ⟨0, Nat.zero_le _, rfl, Below.refl _ _⟩
        case round =>
          obtain ⟨q, hq, rfl, hbq⟩ := hrel
          have HQ := Lib.hid hbq
          clear hbq
          by_cases hqm : q < m12
          case neg =>
            obtain rfl : q = m12 := by omega
            have HL6 := Lib.hid (HL5.out.trans (HQ.out.mono hs8))
            clear HPLS HR8 HGD
            go_wp2_with fail
            go_roundw
            case rel => exact ⟨i + 1, by omega, by go_num, HL6.out⟩
            case measure => simp [intOf]; omega
          have hqz : (q : Int) < (m12 : Int) := by omega
          have hqS : q < S.length := by rw [← HM12.out]; exact hqm
          obtain ⟨hun, hug⟩ := HPLS.out.lt q hqS
          have HL6 := Lib.hid (HL5.out.trans (HQ.out.mono hs8))
          obtain ⟨_, b13, o13, he13, hb13, hcq⟩ := (HR8.out.below HQ.out).num hqm
          first | subst he13 | (simp only [Option.some.injEq, Addr.mk.injEq, and_true] at he13; obtain ⟨rfl, rfl⟩ := he13)
          rw [asI_getD hqS] at hcq
          obtain ⟨_, _, heg, hbg2, hcu⟩ := reads_bool (HGD.out.below HL6.out) hun
          simp only [Option.some.injEq, Addr.mk.injEq, and_true] at heg
          obtain ⟨rfl, rfl⟩ := heg
          rw [hug] at hcu
          have hs6 := HL6.out.size
          have hq6 := HQ.out.size
          have hb12w := Nat.lt_of_lt_of_le hb13 hq6
          have hbgw := Nat.lt_of_lt_of_le hbg2 hs6
          have hplw : w.heap.size < wr.heap.size := by omega
          have hP := HP.out.below HL6.out hpl
          have x0 := hP.cell (i := 0) rfl
          have x1 := hP.cell (i := 1) rfl
          have x2 := hP.cell (i := 2) rfl
          have HUQ := Lib.hid (fun j (hj : j < q) => HPLS.out.up j q hj hqS)
          have HFQ := Lib.hid (fun j (hj : j < q) => HPLS.out.far j q hj hqS)
          have HLQ := Lib.hid (fun j (hj : j < q) => HPLS.out.lt j (by omega))
          generalize hu : S.getD q 0 = u at *
          have huz : (u : Int) < (n : Int) := by omega
          have hu0 : decide ((u : Int) < 0) = false := decide_eq_false (by omega)
          have hu1 : decide ((n : Int) ≤ (u : Int)) = false := decide_eq_false (by omega)
          have hu2 : decide (n ≤ u) = false := decide_eq_false (by omega)
          rcases (show q = 0 ∨ ∃ q', q = q' + 1 by cases q with | zero => exact .inl rfl | succ m => exact .inr ⟨m, rfl⟩) with hq0 | ⟨q', hq'⟩
          case' inl =>
            have hq1 : decide ((0 : Int) < (q : Int)) = false := decide_eq_false (by omega)
            have hq2 : decide (0 < q) = false := decide_eq_false (by omega)
            clear hq0
            go_wp2_with fail
            refine wp_region_over (by kernel_rfl) (by kernel_rfl) ?_
            repeat (go_big_quiet_step (fail))
          case' inr =>
            have hqp : q' < q := by omega
            have hqa : (0 : Int) ≤ (q : Int) - 1 := by omega
            have hqb : (q : Int) - 1 < (m12 : Int) := by omega
            have hq1 : decide ((0 : Int) < (q : Int)) = true := decide_eq_true (by omega)
            have hq2 : decide (0 < q) = true := decide_eq_true (by omega)
            obtain ⟨_, _, _, he2, _, hcp⟩ := (HR8.out.below HQ.out).num (show q' < m12 by omega)
            simp only [Option.some.injEq, Addr.mk.injEq, and_true] at he2
            obtain ⟨rfl, rfl⟩ := he2
            rw [asI_getD (show q' < S.length by omega)] at hcp
            obtain ⟨hle, _⟩ := HUQ.out q' hqp
            obtain ⟨hpn, _⟩ := HLQ.out q' hqp
            have S1 := fun y => calls_over (x := y) (steps20 W H g (S.getD q' 0) A n c (over wr y) hW0 hW1 hH1 HNN.out hgn hpn)
            have S2 := fun y => calls_over (x := y) (steps20 W H g u A n c (over wr y) hW0 hW1 hH1 HNN.out hgn hun)
            generalize S.getD q' 0 = u' at *
            rw [show q' = q - 1 by omega] at hcp
            generalize stepsT W g u' = s1 at *
            generalize stepsT W g u = s2 at *
            replace S1 := Lib.hid S1
            replace S2 := Lib.hid S2
            have hds : decide (s2 < s1) = false := decide_eq_false (by omega)
            clear hle hpn hq' hqp
            go_wp2_with fail
            refine wp_region_over (by kernel_rfl) (by kernel_rfl) ?_
            repeat (go_big_quiet_step (first | (go_at_call 34; with_reducible (first | exact S1.out _ | exact S2.out _))))
          all_goals
            as_aux_lemma =>
              refine wpQuiet_nil ?_
              rintro wq ⟨xq, rfl⟩
              have HQ2 := Lib.hid (HQ.out.trans ((over_below wr xq).mono HQ.out.size))
              generalize over wr xq = w9 at *
              clear hcq hcu x0 x1 x2 hP
              have hCU := (tile_xy hW0 HNN.out hun).1
              have hTu : tileB W H (u : Int) = true := decide_eq_true ⟨by omega, by rw [← HNN.out]; omega⟩
              have CU := Lib.hid (fun W' => ref_center W H (u : Int) A n c W' hW0 hW1 hH0 hH1 hTu)
              have HL9 := Lib.hid (HL5.out.trans (HQ2.out.mono hs8))
              have hs9 := HL9.out.size
              have hq9 := HQ2.out.size
              have hplw9 : w.heap.size < w9.heap.size := by omega
              have hb13w := Nat.lt_of_lt_of_le hb13 hq9
              have hcq := (HR8.out.below HQ2.out).num hqm
              rw [asI_getD (show q < S.length from by rw [← HM12.out]; exact hqm), hu] at hcq
              obtain ⟨_, b14, o14, he14, _, hcq⟩ := hcq
              simp only [Option.some.injEq, Addr.mk.injEq, and_true] at he14
              obtain ⟨rfl, rfl⟩ := he14
              clear hu
              go_wp2_with fail
              have hqz9 : (q : Int) < (m12 : Int) := by omega
              go_loopw [12] (fun jv wx => ∃ (j : Nat), j ≤ q ∧ jv = .int .i64 (j : Int) ∧ Below w9.heap.size w9 wx) (fun jv _ => q - (intOf jv).toNat)
              case atStart => exact ⟨0, Nat.zero_le _, rfl, Below.refl _ _⟩
              case round =>
                obtain ⟨j, hj, rfl, hbj⟩ := hrel
                have HJ := Lib.hid hbj
                clear hbj
                by_cases hjq : j < q
                case neg =>
                  obtain rfl : j = q := by omega
                  have HQ3 := Lib.hid (HQ2.out.trans (HJ.out.mono hq9))
                  clear HPLS HR8 HGD HUQ HFQ HLQ CU hcq
                  have hdj : decide ((j : Int) < (j : Int)) = false := decide_eq_false (by omega)
                  go_wp2_with fail
                  go_roundw
                  case rel => exact ⟨j + 1, by omega, by go_num, HQ3.out⟩
                  case measure => simp [intOf]; omega
                have hjz : (j : Int) < (q : Int) := by omega
                have hjm : (j : Int) < (m12 : Int) := by omega
                have hjS : j < S.length := by rw [← HM12.out]; omega
                obtain ⟨_, hne⟩ := HUQ.out j hjq
                have hfar := HFQ.out j hjq
                obtain ⟨hjn, _⟩ := HLQ.out j hjq
                obtain ⟨_, b15, o15, he15, _, hcj⟩ := ((HR8.out.below HQ2.out).below (HJ.out.mono hq9)).num (show j < m12 by omega)
                simp only [Option.some.injEq, Addr.mk.injEq, and_true] at he15
                obtain ⟨rfl, rfl⟩ := he15
                rw [asI_getD hjS] at hcj
                have hcq2 := (HJ.out.cell (p := ⟨_, _, none⟩) hb13w).trans hcq
                have hCJ := (tile_xy hW0 HNN.out hjn).1
                have hTj : tileB W H ((S.getD j 0 : Nat) : Int) = true := decide_eq_true ⟨by omega, by rw [← HNN.out]; omega⟩
                have CJ := Lib.hid (fun W' => ref_center W H ((S.getD j 0 : Nat) : Int) A n c W' hW0 hW1 hH0 hH1 hTj)
                generalize S.getD j 0 = u2 at *
                obtain ⟨j0, j1, j2, j3⟩ := hCJ
                obtain ⟨v0, v1, v2, v3⟩ := hCU
                unfold tX at hfar j0 j1 v0 v1
                unfold tY at hfar j2 j3 v2 v3
                have AP := fun W' => ref_apart ((u2 : Int) % W * 65536 + 32768) ((u2 : Int) / W * 65536 + 32768) (s * 65536 + 32768) ((u : Int) % W * 65536 + 32768) ((u : Int) / W * 65536 + 32768) (s * 65536 + 32768) W' (by omega) (by omega) (by omega) (by omega)
                rw [apart_mid ⟨j0, by omega⟩ ⟨j2, by omega⟩ ⟨v0, by omega⟩ ⟨v2, by omega⟩ ⟨hs0, hs3⟩ hfar] at AP
                generalize (u2 : Int) % W * 65536 + 32768 = cx2 at *
                generalize (u2 : Int) / W * 65536 + 32768 = cy2 at *
                generalize (u : Int) % W * 65536 + 32768 = cx at *
                generalize (u : Int) / W * 65536 + 32768 = cy at *
                clear hfar j0 j1 j2 j3 v0 v1 v2 v3 hTj
                replace AP := Lib.hid AP
                have A9 := Lib.hid (fun y => calls_over (x := y) (AP.out (over wr y)))
                have J9 := Lib.hid (fun y => calls_over (x := y) (CJ.out (over wr y)))
                have U9 := Lib.hid (fun y => calls_over (x := y) (CU.out (over wr y)))
                have hnez : ((u2 : Int) == (u : Int)) = false := beq_eq_false_iff_ne.2 (by omega)
                have hnez2 : (u2 == u) = false := beq_eq_false_iff_ne.2 hne
                have hP := HP.out.below (HL9.out.trans (HJ.out.mono hs9)) hpl
                have x0 := hP.cell (i := 0) rfl
                have x1 := hP.cell (i := 1) rfl
                have x2 := hP.cell (i := 2) rfl
                have hplx := hP.lt
                have hb13x := Nat.lt_of_lt_of_le hb13w HJ.out.size
                go_wp2_with fail
                refine wp_region_over (by kernel_rfl) (by kernel_rfl) ?_
                repeat (go_big_quiet_step (first | (go_at_call 36; with_reducible (first | exact J9.out _ | exact U9.out _)) | (go_at_call 35; with_reducible exact A9.out _)))
                refine wpQuiet_nil ?_
                rintro wq ⟨xq, rfl⟩
                have HJ2 := Lib.hid (HJ.out.trans ((over_below wr xq).mono HJ.out.size))
                generalize over wr xq = w10 at *
                clear x0 x1 x2 hcj hcq2 hnez hnez2 A9 J9 U9 AP CJ HJ hP
                go_wp2_with fail
                go_roundw
                case rel => exact ⟨j + 1, by omega, by go_num, HJ2.out⟩
                case measure => simp [intOf]; omega
end lawSlotsApart
end Go.Proofs.Ytfgjiaakoacomaa
