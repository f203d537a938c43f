/- The places about a goal: the page's way. -/
import Derived.Test.YtfgjiaakoacomaaSlotMathM
import Derived.Test.YtfgjiaakoacomaaGood13
import Derived.Test.YtfgjiaakoacomaaGroundOfM
import Derived.Lib.MinMax
namespace Go.Proofs.Ytfgjiaakoacomaa
set_option maxRecDepth 20000
open Go.RowKit

theorem tmod_zero {a b : Int} : a.tmod b = 0 ↔ a % b = 0 := by
  rw [← Int.dvd_iff_tmod_eq_zero, ← Int.dvd_iff_emod_eq_zero]
theorem nums_asI (l : List Nat) (t : Nat) : nums .i64 (asI (l ++ [t])) = nums .i64 (asI l) ++ [.int .i64 (t : Int)] := by simp [nums, asI]

set_option maxHeartbeats 6400000 in
set_option maxRecDepth 20000 in
theorem ref_slots (W H k s N : Int) (g : Nat) (A : Option Addr) (n c B : Nat) (ts : List Int) (A1 : Option Addr) (n1 c1 : Nat) (l : List Bd) (w : World) (hr : Reads w B 1 A n (nums .u8 ts)) (hB : B ≤ w.heap.size) (hg : isG W H ts = true) (hl : IsBytes ts) (hv : BdsL w A1 n1 l) (hn1 : n1 ≤ 1000000)
    (hall : ∀ i, i < n1 → formP (bdAt l i) ∧ onP W H (bdAt l i)) (hk : classP k) (ml : List Int) (hR : RoomL W H n (openT W ts l n1 k) ml) (hK : okK n ml) (hs0 : 0 ≤ s) (hs3 : s ≤ 3) (hgn : g < n) (hN0 : 0 ≤ N) (hN1 : N ≤ 64) :
    Calls Try.prog 29 #[.agg #[.int .i64 W, .int .i64 H, .slice A n c], .slice A1 n1 c1, .int .i64 k, .int .i64 s, .int .i64 (g : Int), .int .i64 N] w (GivesNums w.heap.size w (asI (slotsN W H n g (2 * s + 1) (goodT ml s) N.toNat))) := by
  obtain ⟨i0, hi0, hz0, hz1, hz2⟩ := info_parts info_int
  obtain ⟨M, hM⟩ : ∃ M : Nat, (M : Int) = N := ⟨N.toNat, by omega⟩
  rw [show N.toNat = M by omega]
  obtain ⟨hW0, hW1, hH0, hH1, hlen, hts⟩ := isG_bounds hg
  have hll : ts.length = n := by have := hr.1; simpa [nums] using this
  have hn : (n : Int) = W * H := by omega
  have hp := prod_range hW0 hW1 hH0 hH1
  have hn4 : n ≤ 16384 := by omega
  have hG := Blk.new w #[.int .i64 W, .int .i64 H, .slice A n c] 24
  have hb := (Below.refl w.heap.size w).alloc (Nat.le_refl _) (.cells #[.int .i64 W, .int .i64 H, .slice A n c] 24)
  have C := Lib.hid (ref_good W H k s A n c B ts A1 n1 c1 l _ (hr.below (hb.mono hB)) (Nat.le_trans hB hb.size) hg hl (hv.below hb) hn1 hall hk ml hR hK)
  clear hlen hts hl hll hr hv hall hR hK hN0
  generalize goodT ml s = good at *
  have z0 := hG.cell (i := 0) rfl
  have z1 := hG.cell (i := 1) rfl
  have z2 := hG.cell (i := 2) rfl
  go_enter Try.func29, Try.ntmps29
  go_wp2_with fail
  generalize w.alloc (.cells #[.int .i64 W, .int .i64 H, .slice A n c] 24) = w1 at *
  refine Calls.mono C.out ?_
  rintro e w2 ⟨A3, c3, rfl, hO, hb2⟩
  clear C z0 z1 z2
  replace hG := hG.below hb2 hG.lt
  replace hb := hb.trans (hb2.mono hb.size)
  clear hb2
  have hGD := Reads.of_own hO
  clear hO
  have z0 := hG.cell (i := 0) rfl
  have hw0 : ¬ W = 0 := by omega
  obtain ⟨⟨gx0, gx1, gy0, gy1⟩, _⟩ := tile_xy hW0 hn hgn
  unfold tX at gx0 gx1
  unfold tY at gy0 gy1
  have e1 : wrap64 ((g : Int) / W) = (g : Int) / W := by unfold wrap64; omega
  have hgi : (g : Int) < 16384 := by omega
  go_wp2_with fail
  go_quiet (fail)
  (try simp only [e1])
  clear z0 e1 hgi
  replace hG := hG.below (below_drewN (Below.refl _ _) nq) hG.lt
  replace hb := below_drewN hb nq
  replace hGD := (hGD.below (below_drewN (Below.refl _ _) nq)).more (below_drewN (Below.refl 0 _) nq).size
  generalize w2.drewN nq = w3 at *
  have hGl := hG.lt
  have hring : ∀ d t : Nat, t < n → ringB W g (2 * s + 1) d t = decide (cheb ((t : Int) % W - (g : Int) % W) ((t : Int) / W - (g : Int) / W) = d ∧ ((t : Int) % W - (g : Int) % W) % (2 * s + 1) = 0 ∧ ((t : Int) / W - (g : Int) / W) % (2 * s + 1) = 0) := fun d t _ => rfl
  replace hring := Lib.hid hring
  have hxy := Lib.hid (fun (t : Nat) (ht : t < n) => (tile_xy hW0 hn ht).1)
  clear hgn
  generalize hgx : (g : Int) % W = gx at *
  generalize hgy : (g : Int) / W = gy at *
  have hG1 : 1 ≤ 2 * s + 1 ∧ 2 * s + 1 ≤ 7 := by omega
  generalize hgap : 2 * s + 1 = gap at *
  obtain ⟨hG1, hG2⟩ := hG1
  clear hgx hgy
  replace hgap := Lib.hid hgap
  replace hn := Lib.hid hn
  replace hp := Lib.hid hp
  go_wp2_with fail
  go_loopw [14, 18] (fun ov fv wr => ∃ (D : Int) (d : Nat) (A' : Option Addr) (c' : Nat), (d : Int) = D ∧ D ≤ W + H + 1 ∧ fv = .int .i64 D ∧ ov = .slice A' ((lvls (lvl W n g gap good) d).take M).length c' ∧ wr.ownsRow w3.heap.size 3 1 (.slice A' ((lvls (lvl W n g gap good) d).take M).length c') ((lvls (lvl W n g gap good) d).take M).length (nums .i64 (asI ((lvls (lvl W n g gap good) d).take M))) ∧ Below w3.heap.size w3 wr) (fun _ fv _ => (W + H + 1 - intOf fv).toNat)
  case atStart => exact ⟨0, 0, none, 0, rfl, by omega, rfl, by simp [lvls], by simpa [lvls, nums, asI] using World.ownsRow_nil w3 w3.heap.size 3 1, Below.refl _ _⟩
  case round =>
    obtain ⟨D, d, A', c', hdD, hd, rfl, rfl, hown, hbl⟩ := hrel
    have hG3 := hG.below hbl hGl
    have z0 := hG3.cell (i := 0) rfl
    have z1 := hG3.cell (i := 1) rfl
    have hlM : ((lvls (lvl W n g gap good) d).take M).length ≤ M := by rw [List.length_take]; omega
    by_cases hcont : D ≤ W + H ∧ ((lvls (lvl W n g gap good) d).take M).length < M
    case neg =>
      have hfin : (lvls (lvl W n g gap good) d).take M = slotsN W H n g gap good M := by
        by_cases h1 : M ≤ ((lvls (lvl W n g gap good) d).take M).length
        · exact slots_stop (by omega) h1
        · rw [show d = (W + H + 1).toNat by omega]; rfl
      have HFIN := Lib.hid hfin
      clear hfin
      generalize (lvls (lvl W n g gap good) d).take M = X at *
      have hXl := asI_len X
      generalize hLn : X.length = Ln at *
      have HO := Lib.hid (own_mono hown hb.size)
      have HB := Lib.hid (hb.trans (hbl.mono hb.size))
      replace hXl := Lib.hid hXl
      have hcc : D ≤ W + H → ¬ Ln < M := fun h1 h2 => hcont ⟨h1, h2⟩
      clear hown hbl hb hG3 hLn hcont
      by_cases h1 : D ≤ W + H
      · have d1 : decide (D ≤ W + H) = true := decide_eq_true h1
        have d2 : decide ((Ln : Int) < N) = false := decide_eq_false (by have := hcc h1; omega)
        clear hcc hlM h1
        go_wp2_with fail
        go_ret
        exact ⟨A', c', by rw [← HFIN.out, hXl.out]; rfl, by rw [← HFIN.out, hXl.out]; exact HO.out, HB.out⟩
      · have d1 : decide (D ≤ W + H) = false := decide_eq_false h1
        go_wp2_with fail
        go_ret
        exact ⟨A', c', by rw [← HFIN.out, hXl.out]; rfl, by rw [← HFIN.out, hXl.out]; exact HO.out, HB.out⟩
    obtain ⟨hc1, hc2⟩ := hcont
    have d1 : decide (D ≤ W + H) = true := decide_eq_true hc1
    have d2 : decide ((((lvls (lvl W n g gap good) d).take M).length : Int) < N) = true := decide_eq_true (by omega)
    obtain ⟨F, hF⟩ : ∃ F : Nat → List Nat, F = fun t => (lvls (lvl W n g gap good) d ++ segT W g gap good d t).take M := ⟨_, rfl⟩
    have F0 : (lvls (lvl W n g gap good) d).take M = F 0 := by rw [hF]; simp [seg_none]
    have FE : Hid (∀ t, t ≤ n → (t = n ∨ M ≤ (F t).length) → F t = (lvls (lvl W n g gap good) (d + 1)).take M) := Lib.hid (by
      rw [hF]
      rintro t ht (rfl | h)
      · rfl
      · exact lvls_stop ht h)
    have FY : Hid (∀ t, ringB W g gap d t = true → good t = true → (F t).length < M → F (t + 1) = F t ++ [t]) := Lib.hid (by
      rw [hF]
      intro t h1 h2 h3
      show List.take M (_ ++ segT W g gap good d (t + 1)) = _
      rw [seg_yes h1 h2, ← List.append_assoc]
      exact take_step h3)
    have FN : Hid (∀ t, (ringB W g gap d t = true → good t = false) → F (t + 1) = F t) := Lib.hid (by
      rw [hF]
      intro t h1
      show List.take M (_ ++ segT W g gap good d (t + 1)) = _
      rw [seg_no h1])
    have FL : Hid (∀ t, (F t).length ≤ M) := Lib.hid (by rw [hF]; intro t; show (List.take M _).length ≤ M; rw [List.length_take]; omega)
    clear hF hlM
    rw [F0] at d2 hown ⊢
    have hG3' := hG3
    clear hG3
    obtain ⟨L0, hL0⟩ : ∃ L0, L0 = (F 0).length := ⟨_, rfl⟩
    rw [← hL0] at d2 hown ⊢
    replace hL0 := Lib.hid hL0
    go_wp2_with fail
    go_loopw [14, 19] (fun ov tv wi => ∃ (t : Nat) (A' : Option Addr) (c' : Nat), t ≤ n ∧ tv = .int .i64 (t : Int) ∧ ov = .slice A' (F t).length c' ∧ wi.ownsRow w3.heap.size 3 1 (.slice A' (F t).length c') (F t).length (nums .i64 (asI (F t))) ∧ Below w3.heap.size w3 wi) (fun _ tv _ => n - (intOf tv).toNat)
    case atStart => exact ⟨0, A', c', Nat.zero_le _, rfl, by rw [← hL0.out], by rw [← hL0.out]; exact hown, hbl⟩
    case round =>
      clear hown hbl hG3' z0 z1 d2 F0 hL0
      obtain ⟨t, A', c', ht, rfl, rfl, hown, hbl⟩ := hrel
      have hlM := FL.out t
      obtain ⟨Ft, hFt⟩ : ∃ Ft, Ft = F t := ⟨_, rfl⟩
      have hFE := Lib.hid (FE.out t ht)
      have hFY := Lib.hid (FY.out t)
      have hFN := Lib.hid (FN.out t)
      clear FE FY FN FL
      rw [← hFt] at hlM hFE hFY hFN hown ⊢
      clear hFt
      obtain ⟨Lt, hLt⟩ : ∃ Lt, Lt = Ft.length := ⟨_, rfl⟩
      rw [← hLt] at hlM hFE hFY hown ⊢
      by_cases hct : t < n ∧ Lt < M
      case neg =>
        have hfe := hFE.out (by omega)
        have HLT := Lib.hid hLt
        have HO := Lib.hid hown
        have HB := Lib.hid hbl
        clear hown hbl hFY hFN hFE hLt
        by_cases h1 : t < n
        · have d3 : decide ((t : Int) < (n : Int)) = true := decide_eq_true (by omega)
          have d4 : decide ((Lt : Int) < N) = false := decide_eq_false (by omega)
          have hfe := Lib.hid hfe
          go_wp2_with fail
          go_roundw
          case rel => exact ⟨D + 1, d + 1, A', c', by omega, by omega, by go_num, by rw [← hfe.out, HLT.out], by rw [← hfe.out, ← HLT.out]; exact HO.out, HB.out⟩
          case measure => simp [intOf]; omega
        · have d3 : decide ((t : Int) < (n : Int)) = false := decide_eq_false (by omega)
          have hfe := Lib.hid hfe
          go_wp2_with fail
          go_roundw
          case rel => exact ⟨D + 1, d + 1, A', c', by omega, by omega, by go_num, by rw [← hfe.out, HLT.out], by rw [← hfe.out, ← HLT.out]; exact HO.out, HB.out⟩
          case measure => simp [intOf]; omega
      obtain ⟨htn, hlt⟩ := hct
      have htz : (t : Int) < (n : Int) := by omega
      have d3 : decide ((t : Int) < (n : Int)) = true := decide_eq_true (by omega)
      have d4 : decide ((Lt : Int) < N) = true := decide_eq_true (by omega)
      have hG4 := hG.below hbl hGl
      have z0 := hG4.cell (i := 0) rfl
      have hGD4 := hGD.below hbl
      obtain ⟨bg, og, rfl, _, hcg⟩ := reads_bool hGD4 htn
      obtain ⟨tx0, tx1, ty0, ty1⟩ := hxy.out t htn
      unfold tX at tx0 tx1
      unfold tY at ty0 ty1
      have hRG := hring.out d t htn
      rw [hdD] at hRG hFN hFY
      have e1 : wrap64 ((t : Int) / W) = (t : Int) / W := by unfold wrap64; omega
      have hti : (t : Int) < 16384 := by omega
      have HO := Lib.hid hown
      have HB := Lib.hid hbl
      have hbs := hbl.size
      have hdx : -128 ≤ (t : Int) % W - gx ∧ (t : Int) % W - gx ≤ 128 := by omega
      have hdy : -128 ≤ (t : Int) / W - gy ∧ (t : Int) / W - gy ≤ 128 := by omega
      have HLT := Lib.hid hLt
      clear hown hbl hG4 hGD4 hFE hLt
      go_wp2_with fail
      go_quiet (fail)
      (try simp only [e1])
      clear z0 e1
      generalize (t : Int) % W - gx = dx at *
      generalize (t : Int) / W - gy = dy at *
      obtain ⟨hdx0, hdx1⟩ := hdx
      obtain ⟨hdy0, hdy1⟩ := hdy
      have hg0 : ¬ gap = 0 := by omega
      have hm : max dx (max (-dx) (max dy (-dy))) = cheb dx dy := by unfold cheb; omega
      have HNAT := Lib.hid (And.intro htn (And.intro hlt hlM))
      have hMH := Lib.hid hM
      clear tx0 tx1 ty0 ty1 htn ht hlM hM hti hc1 hc2 d1
      by_cases c1 : cheb dx dy = D
      case neg =>
        have dm : ¬ (max dx (max (-dx) (max dy (-dy))) = D) := by rw [hm]; exact c1
        have hN := Lib.hid (hFN.out (fun h => by rw [hRG] at h; exact absurd (of_decide_eq_true h).1 c1))
        clear hlt hRG hFY hFN c1 hm
        go_wp2_with fail
        go_roundw
        case rel => exact ⟨t + 1, A', c', by have := HNAT.out; omega, by go_num, by rw [hN.out, HLT.out], by rw [hN.out, ← HLT.out]; exact HO.out, below_drewN HB.out _⟩
        case measure => have := HNAT.out; simp [intOf]; omega
      have dm : max dx (max (-dx) (max dy (-dy))) = D := by rw [hm]; exact c1
      by_cases c2 : dx % gap = 0
      case neg =>
        have d5 : ¬ (dx.tmod gap = 0) := fun h => c2 (tmod_zero.1 h)
        have hN := Lib.hid (hFN.out (fun h => by rw [hRG] at h; exact absurd (of_decide_eq_true h).2.1 c2))
        clear hlt hRG hFY hFN c1 c2 hm
        go_wp2_with fail
        go_roundw
        case rel => exact ⟨t + 1, A', c', by have := HNAT.out; omega, by go_num, by rw [hN.out, HLT.out], by rw [hN.out, ← HLT.out]; exact HO.out, below_drewN HB.out _⟩
        case measure => have := HNAT.out; simp [intOf]; omega
      have d5 : dx.tmod gap = 0 := tmod_zero.2 c2
      by_cases c3 : dy % gap = 0
      case neg =>
        have d6 : ¬ (dy.tmod gap = 0) := fun h => c3 (tmod_zero.1 h)
        have hN := Lib.hid (hFN.out (fun h => by rw [hRG] at h; exact absurd (of_decide_eq_true h).2.2 c3))
        clear hlt hRG hFY hFN c1 c2 c3 hm
        go_wp2_with fail
        go_roundw
        case rel => exact ⟨t + 1, A', c', by have := HNAT.out; omega, by go_num, by rw [hN.out, HLT.out], by rw [hN.out, ← HLT.out]; exact HO.out, below_drewN HB.out _⟩
        case measure => have := HNAT.out; simp [intOf]; omega
      have d6 : dy.tmod gap = 0 := tmod_zero.2 c3
      rw [decide_eq_true (show cheb dx dy = D ∧ dx % gap = 0 ∧ dy % gap = 0 from ⟨c1, c2, c3⟩)] at hRG
      clear c1 c2 c3 hm
      cases hgt : good t with
      | false =>
        rw [hgt] at hcg
        have hN := Lib.hid (hFN.out (fun _ => hgt))
        clear hlt hRG hFY hFN hgt
        go_wp2_with fail
        go_roundw
        case rel => exact ⟨t + 1, A', c', by have := HNAT.out; omega, by go_num, by rw [hN.out, HLT.out], by rw [hN.out, ← HLT.out]; exact HO.out, below_drewN HB.out _⟩
        case measure => have := HNAT.out; simp [intOf]; omega
      | true =>
        rw [hgt] at hcg
        have hY := hFY.out hRG hgt hlt
        have HV : Hid (nums .i64 (asI Ft) ++ [.int .i64 (t : Int)] = nums .i64 (asI (F (t + 1)))) := Lib.hid (by rw [hY, nums_asI])
        have HL : Hid (Lt + 1 = (F (t + 1)).length) := Lib.hid (by rw [hY, HLT.out]; simp)
        have hown := HO.out
        have hl4 : Lt ≤ 64 := by have h1 := HNAT.out; have h2 := hMH.out; omega
        clear hlt hRG hFY hFN hgt hY HO
        go_wp2_with (at_builtin; refine wpList_push (wr.drewN nq) _ rfl _ _ _ rfl w3.heap.size 3 i0 _ 1 8 Try.underlying30 hi0 hz0 hz1 hz2 rfl (by omega) _ _ _ rfl hown [.int .i64 (t : Int)] rfl rfl rfl (one_int _ _) (by unfold maxLen; omega) (by omega) hbs ?_; intro A2 c2 w6 hown2 hb6)
        rw [HV.out, HL.out] at hown2
        rw [HL.out]
        go_roundw
        case rel => exact ⟨t + 1, A2, c2, by have := HNAT.out; omega, by go_num, rfl, hown2, (below_drewN HB.out _).trans hb6⟩
        case measure => have := HNAT.out; simp [intOf]; omega
end Go.Proofs.Ytfgjiaakoacomaa
