/- The tiles that stand so many steps away: the game's way. -/
import Derived.Test.YtfgjiaakoacomaaSlotMathM
import Derived.Test.YtfgjiaakoacomaaRefSlots
namespace Go.Proofs.Ytfgjiaakoacomaa
set_option maxRecDepth 20000
open Go.RowKit

@[go_sem high] theorem run_max_four {P : Program} (w : World) (ts : Array TypeId) (t : TypeId) (k k' k2 k3 : IntKind) (x y z u : Int) :
    (Builtin.max_ ts t #[.int k x, .int k' y, .int k2 z, .int k3 u]).run P w = .ok (.int k (max x (max y (max z u)))) w := by
  have e : (if u > (if z > (if y > x then y else x) then z else (if y > x then y else x)) then u else (if z > (if y > x then y else x) then z else (if y > x then y else x))) = max x (max y (max z u)) := by
    split <;> (try split) <;> (try split) <;> (try split) <;> omega
  rw [← e]
  simp [Builtin.max_, Builtin.max2]

set_option maxHeartbeats 6400000 in
set_option maxRecDepth 20000 in
theorem slots_ring (W H s D : Int) (g : Nat) (A : Option Addr) (n c : Nat) (w : World) (hW0 : 1 ≤ W) (hW1 : W ≤ 128) (hH0 : 1 ≤ H) (hH1 : H ≤ 128) (hn : (n : Int) = W * H) (hgn : g < n) (hD0 : 0 ≤ D) (hD1 : D ≤ 200) (hs1 : 1 ≤ s) (hs2 : s ≤ 7) :
    Calls Try.prog 62 #[.agg #[.int .i64 W, .int .i64 H, .slice A n c], .int .i64 (g : Int), .int .i64 D, .int .i64 s] w (GivesNums w.heap.size w (asI (ringT W n g s D))) := by
  obtain ⟨i0, hI0, hz0, hz1, hz2⟩ := info_parts info_int
  have hp := prod_range hW0 hW1 hH0 hH1
  have hn4 : n ≤ 16384 := by omega
  have hG := Blk.new w #[.int .i64 W, .int .i64 H, .slice A n c] 24
  have hb := (Below.refl w.heap.size w).alloc (Nat.le_refl _) (.cells #[.int .i64 W, .int .i64 H, .slice A n c] 24)
  have z0 := hG.cell (i := 0) rfl
  obtain ⟨P, hP⟩ : ∃ P : Int → Int → List Nat, P = ringP W n g s D := ⟨_, rfl⟩
  obtain ⟨R, hR⟩ : ∃ R : List Nat, R = ringT W n g s D := ⟨_, rfl⟩
  have P0 : P (-D) (-D) = [] := by rw [hP]; exact ring_start
  have PR : Hid (∀ j, P j (D + 1) = P (j + 1) (-D)) := Lib.hid (fun j => by rw [hP]; exact ring_row)
  have PE : Hid (P (D + 1) (-D) = R) := Lib.hid (by rw [hP, hR]; exact ring_end)
  have PN : Hid (∀ i j, ¬ (cheb i j = D ∧ i % s = 0 ∧ j % s = 0 ∧ onG W H ((g : Int) % W + i) ((g : Int) / W + j)) → P j i = P j (i + 1)) := Lib.hid (fun i j h => by rw [hP]; exact ring_no hW0 hn h)
  have PY : Hid (∀ i j, cheb i j = D ∧ i % s = 0 ∧ j % s = 0 → onG W H ((g : Int) % W + i) ((g : Int) / W + j) → P j (i + 1) = P j i ++ [((g : Int) % W + i + W * ((g : Int) / W + j)).toNat]) := Lib.hid (fun i j h ho => by rw [hP]; exact ring_yes hW0 hn h ho)
  have PL : Hid (∀ j i, (P j i).length ≤ 16384) := Lib.hid (fun j i => by rw [hP]; have := List.length_filter_le (fun t => ringB W g s D t && befB W g j i t) (List.range n); rw [List.length_range] at this; exact Nat.le_trans this hn4)
  rw [← hR]
  clear hP hR
  have hw0 : ¬ W = 0 := by omega
  obtain ⟨⟨gx0, gx1, gy0, gy1⟩, _⟩ := tile_xy hW0 hn hgn
  unfold tX at gx0 gx1
  unfold tY at gy0 gy1
  have e1 : wrap64 ((g : Int) / W) = (g : Int) / W := by unfold wrap64; omega
  have hgi : (g : Int) < 16384 := by omega
  go_enter Try.func62, Try.ntmps62
  go_wp2_with fail
  generalize w.alloc (.cells #[.int .i64 W, .int .i64 H, .slice A n c] 24) = w1 at *
  go_quiet (fail)
  (try simp only [e1])
  clear z0 e1 hgi
  replace hG := hG.below (below_drewN (Below.refl _ _) nq) hG.lt
  replace hb := below_drewN hb nq
  generalize w1.drewN nq = w3 at *
  have hGl := hG.lt
  generalize (g : Int) % W = gx at *
  generalize (g : Int) / W = gy at *
  clear hgn
  replace hn := Lib.hid hn
  replace hp := Lib.hid hp
  go_wp2_with fail
  go_loopw [8, 11] (fun lv jv wr => ∃ (j : Int) (A' : Option Addr) (c' : Nat), -D ≤ j ∧ j ≤ D + 1 ∧ jv = .int .i64 j ∧ lv = .slice A' (P j (-D)).length c' ∧ wr.ownsRow w3.heap.size 3 1 (.slice A' (P j (-D)).length c') (P j (-D)).length (nums .i64 (asI (P j (-D)))) ∧ Below w3.heap.size w3 wr) (fun _ jv _ => (D + 1 - intOf jv).toNat)
  case atStart => exact ⟨-D, none, 0, by omega, by omega, by go_num, by rw [P0]; rfl, by rw [P0]; exact World.ownsRow_nil w3 w3.heap.size 3 1, Below.refl _ _⟩
  case round =>
    clear P0
    obtain ⟨j, A', c', hj0, hj1, rfl, rfl, hown, hbl⟩ := hrel
    by_cases hj : j ≤ D
    case neg =>
      obtain rfl : j = D + 1 := by omega
      have HO := Lib.hid (own_mono hown hb.size)
      have HB := Lib.hid (hb.trans (hbl.mono hb.size))
      rw [PE.out] at HO ⊢
      clear hown hbl hb PN PY PR PL
      go_wp2_with fail
      go_ret
      exact ⟨A', c', by rw [asI_len]; rfl, by rw [asI_len]; exact HO.out, HB.out⟩
    have hPj : P j (-D) = P j (-D) := rfl
    go_wp2_with fail
    go_loopw [8, 12] (fun lv iv wi => ∃ (i : Int) (A' : Option Addr) (c' : Nat), -D ≤ i ∧ i ≤ D + 1 ∧ iv = .int .i64 i ∧ lv = .slice A' (P j i).length c' ∧ wi.ownsRow w3.heap.size 3 1 (.slice A' (P j i).length c') (P j i).length (nums .i64 (asI (P j i))) ∧ Below w3.heap.size w3 wi) (fun _ iv _ => (D + 1 - intOf iv).toNat)
    case atStart => exact ⟨-D, A', c', by omega, by omega, by go_num, rfl, hown, hbl⟩
    case round =>
      clear hown hbl hPj
      obtain ⟨i, A', c', hi0, hi1, rfl, rfl, hown, hbl⟩ := hrel
      by_cases hi : i ≤ D
      case neg =>
        obtain rfl : i = D + 1 := by omega
        rw [PR.out] at hown ⊢
        have HO := Lib.hid hown
        have HB := Lib.hid hbl
        clear hown hbl PN PY PR PL PE hb
        go_wp2_with fail
        go_roundw
        case rel => exact ⟨j + 1, A', c', by omega, by omega, by go_num, rfl, HO.out, HB.out⟩
        case measure => simp [intOf]; omega
      have hs0 : ¬ s = 0 := by omega
      have hm : max i (max (-i) (max j (-j))) = cheb i j := by unfold cheb; omega
      by_cases c1 : cheb i j = D
      case neg =>
        have dm : ¬ (max i (max (-i) (max j (-j))) = D) := by rw [hm]; exact c1
        have hN := PN.out i j (fun h => c1 h.1)
        rw [hN] at hown ⊢
        have HO := Lib.hid hown
        have HB := Lib.hid hbl
        clear hown hbl PN PY PR PL PE hb hN c1 hm
        go_wp2_with fail
        go_roundw
        case rel => exact ⟨i + 1, A', c', by omega, by omega, by go_num, rfl, HO.out, HB.out⟩
        case measure => simp [intOf]; omega
      have dm : max i (max (-i) (max j (-j))) = D := by rw [hm]; exact c1
      by_cases c2 : i % s = 0
      case neg =>
        have d2 : ¬ (i.tmod s = 0) := fun h => c2 (tmod_zero.1 h)
        have hN := PN.out i j (fun h => c2 h.2.1)
        rw [hN] at hown ⊢
        have HO := Lib.hid hown
        have HB := Lib.hid hbl
        clear hown hbl PN PY PR PL PE hb hN c1 c2 hm
        go_wp2_with fail
        go_roundw
        case rel => exact ⟨i + 1, A', c', by omega, by omega, by go_num, rfl, HO.out, HB.out⟩
        case measure => simp [intOf]; omega
      have d2 : i.tmod s = 0 := tmod_zero.2 c2
      by_cases c3 : j % s = 0
      case neg =>
        have d3 : ¬ (j.tmod s = 0) := fun h => c3 (tmod_zero.1 h)
        have hN := PN.out i j (fun h => c3 h.2.2.1)
        rw [hN] at hown ⊢
        have HO := Lib.hid hown
        have HB := Lib.hid hbl
        clear hown hbl PN PY PR PL PE hb hN c1 c2 c3 hm
        go_wp2_with fail
        go_roundw
        case rel => exact ⟨i + 1, A', c', by omega, by omega, by go_num, rfl, HO.out, HB.out⟩
        case measure => simp [intOf]; omega
      have d3 : j.tmod s = 0 := tmod_zero.2 c3
      have hG4 := hG.below hbl hGl
      have z0 := hG4.cell (i := 0) rfl
      have z1 := hG4.cell (i := 1) rfl
      have z2 := hG4.cell (i := 2) rfl
      have OC := Lib.hid (fun W' => ground_on W H (gx + i) (gy + j) A n c W')
      have HN := Lib.hid (PN.out i j)
      have HY := Lib.hid (PY.out i j ⟨c1, c2, c3⟩)
      have hPl := PL.out j i
      have hbs := hbl.size
      clear PN PY PR PL PE hb c1 c2 c3 hm
      have HO := Lib.hid hown
      have HB := Lib.hid hbl
      clear hown hbl hG4
      go_wp2_with fail
      clear z0 z1 z2
      refine Calls.mono (OC.out _) ?_
      rintro e w5 ⟨rfl, hb5⟩
      have hown := own_below HO.out hb5
      have hbl := HB.out.trans (hb5.mono HB.out.size)
      have hG5 := hG.below hbl hGl
      have z0 := hG5.cell (i := 0) rfl
      clear OC HO HB hG5
      by_cases c4 : onG W H (gx + i) (gy + j)
      case neg =>
        rw [show onB W H (gx + i) (gy + j) = false from decide_eq_false c4]
        have hN := HN.out (fun h => c4 h.2.2.2)
        rw [hN] at hown ⊢
        have HO := Lib.hid hown
        have HB := Lib.hid hbl
        clear hown hbl HN HY hN c4
        go_wp2_with fail
        go_roundw
        case rel => exact ⟨i + 1, A', c', by omega, by omega, by go_num, rfl, HO.out, HB.out⟩
        case measure => simp [intOf]; omega
      rw [show onB W H (gx + i) (gy + j) = true from decide_eq_true c4]
      have hY := HY.out c4
      obtain ⟨k1, k2, k3, k4⟩ := c4
      have hq0 : 0 ≤ W * (gy + j) := Int.mul_nonneg (by omega) k3
      have hq1 : W * (gy + j) ≤ 16384 := by
        have h5 := Int.mul_le_mul_of_nonneg_left (show gy + j ≤ 128 by omega) (show 0 ≤ W by omega)
        omega
      have hval : nums .i64 (asI (P j i)) ++ [.int .i64 (gx + i + W * (gy + j))] = nums .i64 (asI (P j (i + 1))) := by
        rw [hY, nums_asI, Int.toNat_of_nonneg (by omega)]
      have hlen : (P j i).length + 1 = (P j (i + 1)).length := by rw [hY]; simp
      have HV := Lib.hid hval
      have HL := Lib.hid hlen
      clear HN HY hY hval hlen
      have hbs5 := hbl.size
      go_wp2_with (at_builtin; (refine wpList_push w5 _ rfl _ _ _ rfl w3.heap.size 3 i0 _ 1 8 Try.underlying30 hI0 hz0 hz1 hz2 rfl (by omega) _ _ _ rfl hown [.int .i64 (gx + i + W * (gy + j))] rfl rfl rfl (one_int _ _) (by unfold maxLen; omega) (by omega) hbs5 ?_); intro A2 c2 w6 hown2 hb6)
      rw [HV.out, HL.out] at hown2
      rw [HL.out]
      go_roundw
      case rel => exact ⟨i + 1, A2, c2, by omega, by omega, by go_num, rfl, hown2, hbl.trans hb6⟩
      case measure => simp [intOf]; omega
end Go.Proofs.Ytfgjiaakoacomaa
