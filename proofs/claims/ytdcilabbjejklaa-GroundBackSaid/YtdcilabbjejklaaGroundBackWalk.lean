/- The walk of the law GroundBack. -/
import Derived.Test.YtdcilabbjejklaaGroundAsk
import Derived.Test.YtdcilabbjejklaaGroundBackMath
import Derived.Test.YtdcilabbjejklaaIn
namespace Go.Proofs.Ytdcilabbjejklaa
open Go.RowKit Go.WideShapes Go.ChangeShapes

theorem num6 (x : Int) (w : World) : Calls Try.prog 27 #[.int .i64 x] w fun e w' => e = .returned (.int .i64 x) ∧ w = w' := by
  go_enter Try.func27, Try.ntmps27
  go_wp2
  go_ret
  exact ⟨rfl, rfl⟩
/-- The ground's box, a cell of an own array, behind a call. -/
theorem keep9 {w w0 wa wb : World} {g g2 k n c : Nat} {W H y : Int} {A : Option Addr} (h : wa.cell? ⟨g, 0, none⟩ = some (.int .i64 W) ∧ wa.cell? ⟨g, 1, none⟩ = some (.int .i64 H) ∧ wa.cell? ⟨g, 2, none⟩ = some (.slice A n c) ∧ wa.cell? ⟨g2, k, none⟩ = some (.int .i64 y) ∧ g < wa.heap.size ∧ g2 < wa.heap.size ∧ Below w.heap.size w wa ∧ Below w0.heap.size w0 wa) (hb : Below wa.heap.size wa wb) :
    wb.cell? ⟨g, 0, none⟩ = some (.int .i64 W) ∧ wb.cell? ⟨g, 1, none⟩ = some (.int .i64 H) ∧ wb.cell? ⟨g, 2, none⟩ = some (.slice A n c) ∧ wb.cell? ⟨g2, k, none⟩ = some (.int .i64 y) ∧ g < wb.heap.size ∧ g2 < wb.heap.size ∧ Below w.heap.size w wb ∧ Below w0.heap.size w0 wb := by
  obtain ⟨h0, h1, h2, h3, hg, hq, hw, hv⟩ := h
  exact ⟨(hb.cell (p := ⟨g, 0, none⟩) hg).trans h0, (hb.cell (p := ⟨g, 1, none⟩) hg).trans h1, (hb.cell (p := ⟨g, 2, none⟩) hg).trans h2, (hb.cell (p := ⟨g2, k, none⟩) hq).trans h3, Nat.lt_of_lt_of_le hg hb.size, Nat.lt_of_lt_of_le hq hb.size, hw.trans (hb.mono hw.size), hv.trans (hb.mono hv.size)⟩
/-- A cell of an own array behind a call. -/
theorem keep10 {w0 w1 wa wb : World} {g2 k : Nat} {y : Int} (h : wa.cell? ⟨g2, k, none⟩ = some (.int .i64 y) ∧ g2 < wa.heap.size ∧ Below w0.heap.size w0 wa ∧ Below w1.heap.size w1 wa) (hb : Below wa.heap.size wa wb) :
    wb.cell? ⟨g2, k, none⟩ = some (.int .i64 y) ∧ g2 < wb.heap.size ∧ Below w0.heap.size w0 wb ∧ Below w1.heap.size w1 wb := by
  obtain ⟨h3, hq, hw, hv⟩ := h
  exact ⟨(hb.cell (p := ⟨g2, k, none⟩) hq).trans h3, Nat.lt_of_lt_of_le hq hb.size, hw.trans (hb.mono hw.size), hv.trans (hb.mono hv.size)⟩
theorem in_below (A : Option Addr) (n c B : Nat) (l : List Int) (x : Int) (w : World) (hr : Reads w B 1 A n (nums .i64 l)) (hn : n ≤ 4611686018427387904) :
    Calls Try.prog 38 #[.slice A n c, .int .i64 x] w fun e w' => e = .returned (.int .i64 (inV x l 0)) ∧ Below w.heap.size w w' :=
  (in_is A n c B l x w hr hn).mono fun e w' ⟨h, q, hq⟩ => ⟨h, by rw [hq]; exact below_drewN (Below.refl _ _) q⟩
theorem of_in {W H qx qy t : Int} {l : List Int} (hG : isG W H l = true) (h : atV W H qx qy = t) (t0 : 0 ≤ t) : ofR W H qx qy l = (t, 0) := by
  unfold ofR; rw [if_pos hG, h, if_neg (by omega)]

namespace lawGroundBack
set_option maxHeartbeats 3200000 in
set_option maxRecDepth 100000 in
theorem walk {H : Type} {enc : TypeId × Value → H} (w : World) {base : Nat} (v : Value) (d : DataW H) (p : List MemPlace) (hv : Value.okWide Try.prog w .any base 42 v)
    (ht : DataW.Trod enc Try.prog w 0 (fun _ => true) true 42 v d p) : Calls Try.prog 10 #[v] w fun e w' => e = .returned (.bool true) ∧ Below w.heap.size w w' := by
  obtain ⟨W, H, A, n, c, l, A1, n1, c1, l1, A2, n2, c2, rfl, hW, hH, hr, hl, ⟨hnc, hcm⟩, hr1, hl1, ⟨hnc1, hcm1⟩, hv2, hnc2⟩ := open_ask6 hv ht
  clear hv ht hv2 hnc2 hr1 hl1
  unfold maxLen at hcm hcm1
  by_cases hh : n ≤ 20000 ∧ n1 ≤ 60 ∧ n2 ≤ 60
  · obtain ⟨hn, hn1, hn2⟩ := hh
    have HV := Lib.hid (fun W' => heavy6_no W H A A1 A2 n c n1 c1 n2 c2 W' hn hn1 hn2)
    have hrw := fun (W' : World) (h : Below w.heap.size w W') => (hr.below h).more h.size
    have GC := fun (W' : World) (h : Below w.heap.size w W') => ground_check W H A n c W'.heap.size l W' (hrw W' h) (Nat.le_refl _) hl
    have hll : l.length = n := by have := hr.1; simpa [nums] using this
    by_cases hG : isG W H l = true
    · obtain ⟨g1, g2, g3, g4, g5, _⟩ := isG_bounds hG
      rw [hll] at g5
      rw [hG, if_pos rfl] at GC
      have GC := Lib.hid GC
      go_enter Try.func10, Try.ntmps10
      go_wp2_with fail
      refine Calls.mono (HV.out _) ?_
      rintro e w1 ⟨rfl, hb1⟩
      have B1 : Box1 w.heap.size W H A n c w w1 := by
        refine ⟨?_, ?_, ?_, ?_, ((Below.refl _ _).alloc (Nat.le_refl _) _).trans (hb1.mono (by simp))⟩
        · rw [hb1.cell (p := ⟨w.heap.size, 0, none⟩) (by simp), World.cell?_alloc_at _ _ _ _ rfl]; rfl
        · rw [hb1.cell (p := ⟨w.heap.size, 1, none⟩) (by simp), World.cell?_alloc_at _ _ _ _ rfl]; rfl
        · rw [hb1.cell (p := ⟨w.heap.size, 2, none⟩) (by simp), World.cell?_alloc_at _ _ _ _ rfl]; rfl
        · have := hb1.size; simp at this; omega
      clear hb1 HV
      obtain ⟨z0, z1, z2, z3, z4⟩ := id B1
      go_wp2_with fail
      refine Calls.mono (GC.out _ z4) ?_
      rintro e w2 ⟨rfl, hb2⟩
      have B2 := B1.next hb2
      clear z0 z1 z2 z3 z4 B1 hb2
      obtain ⟨z0, z1, z2, z3, z4⟩ := id B2
      by_cases h400 : n ≤ 400
      · go_wp2_with (go_at_call 27; refine Calls.mono (num6 _ _) ?_; rintro e w9 ⟨rfl, rfl⟩)
        clear z0 z1 z2 z3 z4 GC
        go_loopw [3] (fun i wr => ∃ (t : Nat), t ≤ n ∧ i = .int .i64 t ∧ Box1 w.heap.size W H A n c w wr) (fun i _ => n - (intOf i).toNat)
        case atStart => exact ⟨0, Nat.zero_le _, rfl, B2⟩
        case round =>
          clear B2
          obtain ⟨t, htn, rfl, BR⟩ := hrel
          obtain ⟨z0, z1, z2, z3, z4⟩ := id BR
          by_cases hlt : t < n
          · have ti : (t : Int) < W * H := by omega
            have ti0 : (0 : Int) ≤ (t : Int) := by omega
            have hT : tileB W H (t : Int) = true := decide_eq_true ⟨ti0, ti⟩
            obtain ⟨_, t1, x0, x1, y0, y1⟩ := tile_parts g1 g2 g3 g4 hT
            have XY := fun (W' : World) (h : Below w.heap.size w W') => ground_xy W H (t : Int) A n c W'.heap.size l W' (hrw W' h) (Nat.le_refl _) hl
            have CE := fun (W' : World) (h : Below w.heap.size w W') => ground_center W H (t : Int) A n c W'.heap.size l W' (hrw W' h) (Nat.le_refl _) hl
            have TI := fun (W' : World) (h : Below w.heap.size w W') => ground_tile W H ((t : Int) % W) ((t : Int) / W) A n c W'.heap.size l W' (hrw W' h) (Nat.le_refl _) hl
            have O1 := fun (W' : World) (h : Below w.heap.size w W') => ground_of W H ((t : Int) % W * 65536 + 32768) ((t : Int) / W * 65536 + 32768) A n c W'.heap.size l W' (hrw W' h) (Nat.le_refl _) hl (by omega) (by omega)
            have O2 := fun (W' : World) (h : Below w.heap.size w W') => ground_of W H ((t : Int) % W * 65536 + 32768 - 32768) ((t : Int) / W * 65536 + 32768 - 32768) A n c W'.heap.size l W' (hrw W' h) (Nat.le_refl _) hl (by omega) (by omega)
            have O3 := fun (W' : World) (h : Below w.heap.size w W') => ground_of W H ((t : Int) % W * 65536 + 32768 + 32768 - 1) ((t : Int) / W * 65536 + 32768 + 32768 - 1) A n c W'.heap.size l W' (hrw W' h) (Nat.le_refl _) hl (by omega) (by omega)
            have NR := fun (u : Int) (W' : World) (h : Below w.heap.size w W') (hu : tileB W H u = true) => near_yes (t := u) (c := c) W' (hrw W' h) (Nat.le_refl _) hl hG hu
            have a1 := of_in (l := l) hG (at_in (d := 32768) g1 ti0 y1 (by omega) (by omega)) ti0
            have a2 := of_in (l := l) hG (at_in (d := 0) g1 ti0 y1 (by omega) (by omega)) ti0
            have a3 := of_in (l := l) hG (at_in (d := 65535) g1 ti0 y1 (by omega) (by omega)) ti0
            rw [a1] at O1
            rw [show (t : Int) % W * 65536 + 32768 - 32768 = (t : Int) % W * 65536 + 0 by omega, show (t : Int) / W * 65536 + 32768 - 32768 = (t : Int) / W * 65536 + 0 by omega, a2, show (t : Int) % W * 65536 + 0 = (t : Int) % W * 65536 + 32768 - 32768 by omega, show (t : Int) / W * 65536 + 0 = (t : Int) / W * 65536 + 32768 - 32768 by omega] at O2
            rw [show (t : Int) % W * 65536 + 32768 + 32768 - 1 = (t : Int) % W * 65536 + 65535 by omega, show (t : Int) / W * 65536 + 32768 + 32768 - 1 = (t : Int) / W * 65536 + 65535 by omega, a3, show (t : Int) % W * 65536 + 65535 = (t : Int) % W * 65536 + 32768 + 32768 - 1 by omega, show (t : Int) / W * 65536 + 65535 = (t : Int) / W * 65536 + 32768 + 32768 - 1 by omega] at O3
            clear a1 a2 a3
            have e1 : xyR W H (t : Int) l = ((t : Int) % W, (t : Int) / W, 0) := by unfold xyR; rw [if_pos hG, if_pos hT]
            have e2 : cenR W H (t : Int) l = ((t : Int) % W * 65536 + 32768, (t : Int) / W * 65536 + 32768, 0) := by unfold cenR; rw [if_pos hG, if_pos hT]
            have e3 : numR W H ((t : Int) % W) ((t : Int) / W) l = ((t : Int), 0) := by
              unfold numR
              rw [if_pos hG, if_pos (show onB W H ((t : Int) % W) ((t : Int) / W) = true from decide_eq_true ⟨x0, x1, y0, y1⟩), Int.emod_add_mul_ediv]
            rw [e1] at XY
            rw [e2] at CE
            rw [e3] at TI
            clear e1 e2 e3
            have hb0 := fun (k : Nat) (hk : k < 8) (hn : 0 ≤ nearI W H (t : Int) k) => near_back g1 hk ti0 y1 hn
            have hb1 := fun (k : Nat) (hk : k < 8) (hn : 0 ≤ nearI W H (t : Int) k) => near_ne g1 hk hn
            have hb2 := fun (k j : Nat) (hk : k < 8) (hj : j < k) (hn : 0 ≤ nearI W H (t : Int) k) => near_apart g1 hk hj hn
            have hb3 := fun (k : Nat) (hn : 0 ≤ nearI W H (t : Int) k) => near_tile g1 hn
            have FB := Lib.hid (And.intro hb0 (And.intro hb1 (And.intro hb2 hb3)))
            clear hb0 hb1 hb2 hb3
            generalize (t : Int) % W = x at *
            generalize (t : Int) / W = y at *
            have q0 : 0 ≤ x * 65536 + 32768 ∧ x * 65536 + 32768 ≤ 8421376 := by omega
            have q1 : 0 ≤ y * 65536 + 32768 ∧ y * 65536 + 32768 ≤ 8421376 := by omega
            generalize x * 65536 + 32768 = qx at *
            generalize y * 65536 + 32768 = qy at *
            have XY := Lib.hid XY
            have CE := Lib.hid CE
            have TI := Lib.hid TI
            have O1 := Lib.hid O1
            have O2 := Lib.hid O2
            have O3 := Lib.hid O3
            have NT := Lib.hid (fun (W' : World) (h : Below w.heap.size w W') => NR (t : Int) W' h hT)
            have NR := Lib.hid NR
            go_wp2_with fail
            refine Calls.mono (XY.out _ z4) ?_
            rintro e w3 ⟨rfl, hb3⟩
            have B3 := BR.next hb3
            clear z0 z1 z2 z3 z4 BR hb3 XY
            obtain ⟨z0, z1, z2, z3, z4⟩ := id B3
            go_wp2_with fail
            refine Calls.mono (TI.out _ z4) ?_
            rintro e w4 ⟨rfl, hb4⟩
            have B4 := B3.next hb4
            clear z0 z1 z2 z3 z4 B3 hb4 TI
            obtain ⟨z0, z1, z2, z3, z4⟩ := id B4
            go_wp2_with fail
            refine Calls.mono (CE.out _ z4) ?_
            rintro e w5 ⟨rfl, hb5⟩
            have B5 := B4.next hb5
            clear z0 z1 z2 z3 z4 B4 hb5 CE
            have B6 := B5.next ((Below.refl _ _).alloc (Nat.le_refl _) (.cells #[.int .i64 qx, .int .i64 qy] 53))
            have Q6 := startq w5 53 qx qy
            obtain ⟨z0, z1, z2, z3, z4⟩ := id B6
            obtain ⟨v0, v1, v2, v3⟩ := id Q6
            go_wp2_with fail
            refine Calls.mono (O1.out _ z4) ?_
            rintro e w7 ⟨rfl, hb7⟩
            have B7 := B6.next hb7
            have Q7 := keepq Q6 hb7
            clear z0 z1 z2 z3 z4 v0 v1 v2 v3 B6 Q6 hb7 O1
            obtain ⟨z0, z1, z2, z3, z4⟩ := id B7
            obtain ⟨v0, v1, v2, v3⟩ := id Q7
            go_wp2_with fail
            refine Calls.mono (O2.out _ z4) ?_
            rintro e w8 ⟨rfl, hb8⟩
            have B8 := B7.next hb8
            have Q8 := keepq Q7 hb8
            clear z0 z1 z2 z3 z4 v0 v1 v2 v3 B7 Q7 hb8 O2
            obtain ⟨z0, z1, z2, z3, z4⟩ := id B8
            obtain ⟨v0, v1, v2, v3⟩ := id Q8
            go_wp2_with fail
            refine Calls.mono (O3.out _ z4) ?_
            rintro e w9 ⟨rfl, hb9⟩
            have B9 := B8.next hb9
            clear z0 z1 z2 z3 z4 v0 v1 v2 v3 B8 Q8 hb9 O3
            obtain ⟨z0, z1, z2, z3, z4⟩ := id B9
            have hme : ((t : Int) != (t : Int)) = false := by simp
            go_wp2_with (first | (go_at_call 27; refine Calls.mono (num6 _ _) ?_; rintro e w19 ⟨rfl, rfl⟩) | fail)
            refine Calls.mono (NT.out _ z4) ?_
            rintro e wn ⟨g, rfl, hg0, hg1, hcl, _, hbn⟩
            have hcl : Hid (∀ j, j < 8 → wn.cell? ⟨g, j, none⟩ = some (.int .i64 (nearI W H (t : Int) j))) := fun j hj => by
              rw [hcl j hj]
              rcases (show j = 0 ∨ j = 1 ∨ j = 2 ∨ j = 3 ∨ j = 4 ∨ j = 5 ∨ j = 6 ∨ j = 7 by omega) with rfl | rfl | rfl | rfl | rfl | rfl | rfl | rfl <;> rfl
            have BN := B9.next hbn
            clear z0 z1 z2 z3 z4 B9 hbn NT
            have HL8 : (nearL W H (t : Int)).length = 8 := rfl
            rw [HL8]
            clear HL8
            go_wp2_with (go_at_call 27; refine Calls.mono (num6 _ _) ?_; rintro e w19 ⟨rfl, rfl⟩)
            go_loopw [19] (fun i wr => ∃ (k : Nat), k ≤ 8 ∧ i = .int .i64 k ∧ Below wn.heap.size wn wr) (fun i _ => 8 - (intOf i).toNat)
            case atStart => exact ⟨0, Nat.zero_le _, rfl, Below.refl _ _⟩
            case round =>
              obtain ⟨k, hk, rfl, hbk⟩ := hrel
              by_cases hlk : k < 8
              · have ck := (hbk.cell (p := ⟨g, k, none⟩) hg1).trans (hcl.out k hlk)
                have BK := BN.next hbk
                obtain ⟨z0, z1, z2, z3, z4⟩ := id BK
                have hgk : g < wr.heap.size := Nat.lt_of_lt_of_le hg1 hbk.size
                obtain ⟨F0, F1, F2, F3⟩ := FB.out
                have F0 := F0 k hlk
                have F1 := F1 k hlk
                have F2 := fun j => F2 k j hlk
                have F3 := F3 k
                have kj : (k : Int) < 8 := by omega
                have kj0 : (0 : Int) ≤ (k : Int) := by omega
                have kj2 : (k : Int) ≤ 8 := by omega
                have HI : Hid (∀ j, j < k → (nearL W H (t : Int)).getD j 0 = nearI W H (t : Int) j) := fun j hj => by
                  rcases (show j = 0 ∨ j = 1 ∨ j = 2 ∨ j = 3 ∨ j = 4 ∨ j = 5 ∨ j = 6 ∨ j = 7 by omega) with rfl | rfl | rfl | rfl | rfl | rfl | rfl | rfl <;> rfl
                by_cases hneg : nearI W H (t : Int) k < 0
                · clear F0 F1 F2 F3 HI
                  generalize nearI W H (t : Int) k = u at *
                  go_wp2
                  go_roundw
                  case rel => exact ⟨k + 1, by omega, by go_num, hbk⟩
                  case measure => simp [intOf]; omega
                · have hu0 : 0 ≤ nearI W H (t : Int) k := by omega
                  have F0 := F0 hu0
                  have F1 := F1 hu0
                  have F2 := fun j hj => F2 j hj hu0
                  have F3 := F3 hu0
                  have HO : opp k < 8 := (opp_fin ⟨k, hlk⟩).2.2.1
                  have I1 : 0 ≤ inV (t : Int) (nearL W H (nearI W H (t : Int) k)) 0 := by
                    refine inV_some (j := opp k) (by show opp k < 8; exact HO) ?_
                    rw [show ∀ i, i < 8 → (nearL W H (nearI W H (t : Int) k)).getD i 0 = nearI W H (nearI W H (t : Int) k) i from fun i hi => by
                      rcases (show i = 0 ∨ i = 1 ∨ i = 2 ∨ i = 3 ∨ i = 4 ∨ i = 5 ∨ i = 6 ∨ i = 7 by omega) with rfl | rfl | rfl | rfl | rfl | rfl | rfl | rfl <;> rfl]
                    · exact F0
                    · exact HO
                  have I2 : inV (nearI W H (t : Int) k) ((nearL W H (t : Int)).take k) 0 = -1 := by
                    refine inV_none fun j hj => ?_
                    have hj' : j < k := by simp at hj; omega
                    rw [show ((nearL W H (t : Int)).take k).getD j 0 = (nearL W H (t : Int)).getD j 0 by simp [List.getD, hj'], HI.out j hj']
                    exact F2 j hj'
                  have hrk : Reads wr wr.heap.size 1 (some ⟨g, 0, none⟩) ((nearL W H (t : Int)).take k).length (nums .i64 ((nearL W H (t : Int)).take k)) := by
                    refine reads_arr hgk fun j hj => ?_
                    have hj' : j < k := by simp at hj; omega
                    rw [show ((nearL W H (t : Int)).take k).getD j 0 = (nearL W H (t : Int)).getD j 0 by simp [List.getD, hj'], HI.out j hj']
                    exact (hbk.cell (p := ⟨g, j, none⟩) hg1).trans (hcl.out j (by omega))
                  have hlk8 : ((nearL W H (t : Int)).take k).length = k := by
                    rw [List.length_take]; show min k 8 = k; omega
                  rw [hlk8] at hrk
                  have IN2 := fun (W' : World) (h : Below wr.heap.size wr W') => in_below (some ⟨g, 0, none⟩) k 8 _ ((nearL W H (t : Int)).take k) (nearI W H (t : Int) k) W' (hrk.below h) (by omega)
                  rw [I2] at IN2
                  have IN2 := Lib.hid IN2
                  have NU := Lib.hid (fun (W' : World) (h : Below w.heap.size w W') => NR.out (nearI W H (t : Int) k) W' h F3)
                  clear hrk hlk8 I2 F0 F2 F3 HI HO
                  have HNL : Hid ((nearL W H (nearI W H (t : Int) k)).length = 8) := rfl
                  have IN1 := fun (W' : World) (g' : Nat) (hr : Reads W' W'.heap.size 1 (some ⟨g', 0, none⟩) 8 (nums .i64 (nearL W H (nearI W H (t : Int) k)))) => in_below (some ⟨g', 0, none⟩) 8 8 _ _ (t : Int) W' hr (by omega)
                  have IN1 := Lib.hid IN1
                  generalize nearI W H (t : Int) k = u at *
                  have hme2 : (u == (t : Int)) = false := by rw [beq_eq_false_iff_ne]; exact F1
                  have S5 : wr.cell? ⟨w.heap.size, 0, none⟩ = some (.int .i64 W) ∧ wr.cell? ⟨w.heap.size, 1, none⟩ = some (.int .i64 H) ∧ wr.cell? ⟨w.heap.size, 2, none⟩ = some (.slice A n c) ∧ wr.cell? ⟨g, k, none⟩ = some (.int .i64 u) ∧ w.heap.size < wr.heap.size ∧ g < wr.heap.size ∧ Below w.heap.size w wr ∧ Below wr.heap.size wr wr := ⟨z0, z1, z2, ck, z3, hgk, z4, Below.refl _ _⟩
                  have SD := keep9 S5 (Below.refl _ _).drew
                  go_wp2_with fail
                  go_region_held3 (fun w' => w'.cell? ⟨w.heap.size, 0, none⟩ = some (.int .i64 W) ∧ w'.cell? ⟨w.heap.size, 1, none⟩ = some (.int .i64 H) ∧ w'.cell? ⟨w.heap.size, 2, none⟩ = some (.slice A n c) ∧ w'.cell? ⟨g, k, none⟩ = some (.int .i64 u) ∧ w.heap.size < w'.heap.size ∧ g < w'.heap.size ∧ Below w.heap.size w w' ∧ Below wr.heap.size wr w')
                    (first | exact SD | assumption)
                    (first
                      | (go_at_call 26; ((with_reducible refine Calls.mono (NU.out _ SD.2.2.2.2.2.2.1) ?_); rintro e w5 ⟨g6, rfl, hg6, hg7, hcl6, _, hb6⟩; have S6 := keep9 SD hb6)))
                  have hr6 := reads_arr hg7 hcl6
                  rw [HNL.out] at hr6 ⊢
                  have IN1 := Lib.hid (fun (W' : World) (h : Below w5.heap.size w5 W') => IN1.out W' g6 ((hr6.below h).more h.size))
                  generalize inV (t : Int) (nearL W H u) 0 = r1 at *
                  have hr1 : decide (r1 < 0) = false := decide_eq_false (by omega)
                  have S7 : w5.cell? ⟨g, k, none⟩ = some (.int .i64 u) ∧ g < w5.heap.size ∧ Below wr.heap.size wr w5 ∧ Below w5.heap.size w5 w5 := ⟨S6.2.2.2.1, S6.2.2.2.2.2.1, S6.2.2.2.2.2.2.2, Below.refl _ _⟩
                  have SE := keep10 S7 (Below.refl _ _).drew
                  clear hr6 hcl6 hg6 hg7 S5 SD S6 z0 z1 z2 z3 z4 NU HNL hb6 I1
                  go_wp2_with fail
                  go_region_held3 (fun w' => w'.cell? ⟨g, k, none⟩ = some (.int .i64 u) ∧ g < w'.heap.size ∧ Below wr.heap.size wr w' ∧ Below w5.heap.size w5 w')
                    (first | exact SE | assumption)
                    (first
                      | (go_at_call 27; ((with_reducible refine Calls.mono (num6 _ _) ?_); rintro e w6 ⟨rfl, rfl⟩))
                      | (go_at_call 38; ((with_reducible refine Calls.mono (IN1.out _ SE.2.2.2) ?_); rintro e w6 ⟨rfl, hb6⟩; have S8 := keep10 SE hb6))
                      | (go_at_call 38; ((with_reducible refine Calls.mono (IN2.out _ S8.2.2.1) ?_); rintro e w7 ⟨rfl, hb7⟩; have S9 := keep10 S8 hb7)))
                  have hb9 := S9.2.2.1
                  clear S7 S8 S9 SE
                  go_wp2
                  go_roundw
                  case rel => exact ⟨k + 1, by omega, by go_num, hbk.trans (hb9.mono hbk.size)⟩
                  case measure => simp [intOf]; omega
              · obtain rfl : k = 8 := by omega
                go_wp2
                go_roundw
                case rel => exact ⟨t + 1, by omega, by go_num, BN.next hbk⟩
                case measure => simp [intOf]; omega
          · have HK := Lib.hid (fun W' => wakes6 W')
            go_wp2_with fail
            refine Calls.mono (HK.out _) ?_
            rintro e w3 ⟨rfl, hb3⟩
            go_wp2
            go_ret
            exact ⟨rfl, z4.trans (hb3.mono z4.size)⟩
      · go_wp2_with (go_at_call 27; refine Calls.mono (num6 _ _) ?_; rintro e w9 ⟨rfl, rfl⟩)
        go_ret
        exact ⟨rfl, z4⟩
    · have hG' : isG W H l = false := by simpa using hG
      rw [hG', if_neg (by simp)] at GC
      have GC := Lib.hid GC
      go_enter Try.func10, Try.ntmps10
      go_wp2_with fail
      refine Calls.mono (HV.out _) ?_
      rintro e w1 ⟨rfl, hb1⟩
      have B1 : Box1 w.heap.size W H A n c w w1 := by
        refine ⟨?_, ?_, ?_, ?_, ((Below.refl _ _).alloc (Nat.le_refl _) _).trans (hb1.mono (by simp))⟩
        · rw [hb1.cell (p := ⟨w.heap.size, 0, none⟩) (by simp), World.cell?_alloc_at _ _ _ _ rfl]; rfl
        · rw [hb1.cell (p := ⟨w.heap.size, 1, none⟩) (by simp), World.cell?_alloc_at _ _ _ _ rfl]; rfl
        · rw [hb1.cell (p := ⟨w.heap.size, 2, none⟩) (by simp), World.cell?_alloc_at _ _ _ _ rfl]; rfl
        · have := hb1.size; simp at this; omega
      clear hb1 HV
      obtain ⟨z0, z1, z2, z3, z4⟩ := id B1
      go_wp2_with fail
      refine Calls.mono (GC.out _ z4) ?_
      rintro e w2 ⟨rfl, hb2⟩
      go_wp2_with (go_at_call 27; refine Calls.mono (num6 _ _) ?_; rintro e w9 ⟨rfl, rfl⟩)
      go_ret
      exact ⟨rfl, z4.trans (hb2.mono z4.size)⟩
  · have HV := Lib.hid (fun W' => heavy6_yes W H A A1 A2 n c n1 c1 n2 c2 W' hh)
    clear hh
    go_enter Try.func10, Try.ntmps10
    go_wp2_with fail
    refine Calls.mono (HV.out _) ?_
    rintro e w1 ⟨rfl, hb1⟩
    go_wp2
    go_ret
    exact ⟨rfl, ((Below.refl _ _).alloc (Nat.le_refl _) _).trans (hb1.mono (by simp))⟩
end lawGroundBack
end Go.Proofs.Ytdcilabbjejklaa
