/- The walk of the law GroundPlaces. -/
import Derived.Test.YtdcilabbjejklaaGroundAt
namespace Go.Proofs.Ytdcilabbjejklaa
open Go.RowKit Go.WideShapes Go.ChangeShapes

theorem keep7 {w wa wb : World} {g b o k n c n2 c2 : Nat} {W H x y : Int} {A A2 : Option Addr} (h : wa.cell? ⟨g, 0, none⟩ = some (.int .i64 W) ∧ wa.cell? ⟨g, 1, none⟩ = some (.int .i64 H) ∧ wa.cell? ⟨g, 2, none⟩ = some (.slice A n c) ∧ wa.cell? ⟨g, 4, none⟩ = some (.slice A2 n2 c2) ∧ wa.cell? ⟨b, o + k * 2, none⟩ = some (.int .i64 x) ∧ wa.cell? ⟨b, o + k * 2 + 1, none⟩ = some (.int .i64 y) ∧ g < wa.heap.size ∧ b < wa.heap.size ∧ Below w.heap.size w wa) (hb : Below wa.heap.size wa wb) : wb.cell? ⟨g, 0, none⟩ = some (.int .i64 W) ∧ wb.cell? ⟨g, 1, none⟩ = some (.int .i64 H) ∧ wb.cell? ⟨g, 2, none⟩ = some (.slice A n c) ∧ wb.cell? ⟨g, 4, none⟩ = some (.slice A2 n2 c2) ∧ wb.cell? ⟨b, o + k * 2, none⟩ = some (.int .i64 x) ∧ wb.cell? ⟨b, o + k * 2 + 1, none⟩ = some (.int .i64 y) ∧ g < wb.heap.size ∧ b < wb.heap.size ∧ Below w.heap.size w wb := by
  obtain ⟨h0, h1, h2, h3, h4, h5, hg, hq, hw⟩ := h
  exact ⟨(hb.cell (p := ⟨g, 0, none⟩) hg).trans h0, (hb.cell (p := ⟨g, 1, none⟩) hg).trans h1, (hb.cell (p := ⟨g, 2, none⟩) hg).trans h2, (hb.cell (p := ⟨g, 4, none⟩) hg).trans h3, (hb.cell (p := ⟨b, o + k * 2, none⟩) hq).trans h4, (hb.cell (p := ⟨b, o + k * 2 + 1, none⟩) hq).trans h5, Nat.lt_of_lt_of_le hg hb.size, Nat.lt_of_lt_of_le hq hb.size, hw.trans (hb.mono hw.size)⟩

namespace lawGroundPlaces
set_option maxHeartbeats 3200000 in
set_option maxRecDepth 100000 in
theorem walk {H : Type} {enc : TypeId × Value → H} (w : World) {base : Nat} (v : Value) (d : DataW H) (p : List MemPlace) (hv : Value.okWide Try.prog w .any base 42 v)
    (ht : DataW.Trod enc Try.prog w 0 (fun _ => true) true 42 v d p) : Calls Try.prog 8 #[v] w fun e w' => e = .returned (.bool true) ∧ Below w.heap.size w w' := by
  obtain ⟨W, H, A, n, c, l, A1, n1, c1, l1, A2, n2, c2, rfl, hW, hH, hr, hl, ⟨hnc, hcm⟩, hr1, hl1, ⟨hnc1, hcm1⟩, hv2, ⟨hnc2, hcm2⟩⟩ := open_ask6 hv ht
  clear hv ht hr1 hl1 hnc1 hcm1
  unfold maxLen at hcm hcm2
  by_cases hh : n ≤ 20000 ∧ n1 ≤ 60 ∧ n2 ≤ 60
  · obtain ⟨hn, hn1, hn2⟩ := hh
    have HV := Lib.hid (fun W' => heavy6_no W H A A1 A2 n c n1 c1 n2 c2 W' hn hn1 hn2)
    go_enter Try.func8, Try.ntmps8
    go_wp2_with fail
    refine Calls.mono (HV.out _) ?_
    rintro e w1 ⟨rfl, hb1⟩
    have q0 : w1.cell? ⟨w.heap.size, 0, none⟩ = some (.int .i64 W) := by rw [hb1.cell (p := ⟨w.heap.size, 0, none⟩) (by simp), World.cell?_alloc_at _ _ _ _ rfl]; rfl
    have q1 : w1.cell? ⟨w.heap.size, 1, none⟩ = some (.int .i64 H) := by rw [hb1.cell (p := ⟨w.heap.size, 1, none⟩) (by simp), World.cell?_alloc_at _ _ _ _ rfl]; rfl
    have q2 : w1.cell? ⟨w.heap.size, 2, none⟩ = some (.slice A n c) := by rw [hb1.cell (p := ⟨w.heap.size, 2, none⟩) (by simp), World.cell?_alloc_at _ _ _ _ rfl]; rfl
    have q3 : w1.cell? ⟨w.heap.size, 4, none⟩ = some (.slice A2 n2 c2) := by rw [hb1.cell (p := ⟨w.heap.size, 4, none⟩) (by simp), World.cell?_alloc_at _ _ _ _ rfl]; rfl
    have hbw1 : Below w.heap.size w w1 := ((Below.refl _ _).alloc (Nat.le_refl _) _).trans (hb1.mono (by simp))
    have hgs : w.heap.size < w1.heap.size := by have := hb1.size; simp at this; omega
    clear hb1 HV
    go_wp2_with fail
    go_loopw [3] (fun i wr => ∃ (k : Nat), k ≤ n2 ∧ i = .int .i64 k ∧ wr.cell? ⟨w.heap.size, 0, none⟩ = some (.int .i64 W) ∧ wr.cell? ⟨w.heap.size, 1, none⟩ = some (.int .i64 H) ∧ wr.cell? ⟨w.heap.size, 2, none⟩ = some (.slice A n c) ∧ wr.cell? ⟨w.heap.size, 4, none⟩ = some (.slice A2 n2 c2) ∧ w.heap.size < wr.heap.size ∧ Below w.heap.size w wr) (fun i _ => n2 - (intOf i).toNat)
    case atStart => exact ⟨0, Nat.zero_le _, rfl, q0, q1, q2, q3, hgs, hbw1⟩
    case round =>
      obtain ⟨k, hk, rfl, r0, r1, r2, r3, hgr, hbw⟩ := hrel
      clear q0 q1 q2 q3
      by_cases hlt : k < n2
      · obtain ⟨b, o, x, y, rfl, hb, hc1, hc2, ⟨hx0, hx1⟩, ⟨hy0, hy1⟩⟩ := (hv2.below hbw) k hlt
        clear hv2
        have ki : (k : Int) < (n2 : Int) := by omega
        have ki0 : (0 : Int) ≤ (k : Int) := by omega
        have S0 : wr.cell? ⟨w.heap.size, 0, none⟩ = some (.int .i64 W) ∧ wr.cell? ⟨w.heap.size, 1, none⟩ = some (.int .i64 H) ∧ wr.cell? ⟨w.heap.size, 2, none⟩ = some (.slice A n c) ∧ wr.cell? ⟨w.heap.size, 4, none⟩ = some (.slice (some ⟨b, o, none⟩) n2 c2) ∧ wr.cell? ⟨b, o + k * 2, none⟩ = some (.int .i64 x) ∧ wr.cell? ⟨b, o + k * 2 + 1, none⟩ = some (.int .i64 y) ∧ w.heap.size < wr.heap.size ∧ b < wr.heap.size ∧ Below w.heap.size w wr := ⟨r0, r1, r2, r3, hc1, hc2, hgr, hb, hbw⟩
        have hrw := fun (W' : World) (h : Below w.heap.size w W') => (hr.below h).more h.size
        have GO := fun (W' : World) (h : Below w.heap.size w W') => ground_of W H x y A n c W'.heap.size l W' (hrw W' h) (Nat.le_refl _) hl hx1 hy1
        have RG := fun (W' : World) (h : Below w.heap.size w W') => ref_ground W H A n c W'.heap.size l W' (hrw W' h) (Nat.le_refl _) hl (by omega)
        unfold ofR at GO
        by_cases hG : isG W H l = true
        · obtain ⟨g1, g2, g3, g4, _⟩ := isG_bounds hG
          rw [hG] at RG GO
          have RG := Lib.hid RG
          have AT := Lib.hid (fun (W' : World) => ref_at W H x y A n c W' g1 g2 g3 g4 hx1 hy1)
          clear hrw hG
          by_cases hneg : atV W H x y < 0
          · rw [if_pos rfl, if_pos hneg] at GO
            have GO := Lib.hid GO
            generalize atV W H x y = T at *
            go_wp2_with fail
            refine Calls.mono (RG.out _ hbw) ?_
            rintro e w2 ⟨rfl, hb2⟩
            have S1 := keep7 S0 hb2
            have SD := keep7 S1 (Below.refl _ _).drew
            obtain ⟨z0, z1, z2, z3, z4, z5, z6, z7, z8⟩ := id S1
            go_wp2_with fail
            go_region_held3 (fun w' => w'.cell? ⟨w.heap.size, 0, none⟩ = some (.int .i64 W) ∧ w'.cell? ⟨w.heap.size, 1, none⟩ = some (.int .i64 H) ∧ w'.cell? ⟨w.heap.size, 2, none⟩ = some (.slice A n c) ∧ w'.cell? ⟨w.heap.size, 4, none⟩ = some (.slice (some ⟨b, o, none⟩) n2 c2) ∧ w'.cell? ⟨b, o + k * 2, none⟩ = some (.int .i64 x) ∧ w'.cell? ⟨b, o + k * 2 + 1, none⟩ = some (.int .i64 y) ∧ w.heap.size < w'.heap.size ∧ b < w'.heap.size ∧ Below w.heap.size w w')
              (first | exact SD | assumption)
              (first
                | (go_at_call 31; ((with_reducible refine Calls.mono (AT.out _) ?_); rintro e w3 ⟨rfl, hb3⟩; have S3 := keep7 SD hb3)))
            clear SD z0 z1 z2 z3 z4 z5 z6 z7 z8
            have SD := keep7 S3 (Below.refl _ _).drew
            obtain ⟨z0, z1, z2, z3, z4, z5, z6, z7, z8⟩ := id S3
            go_wp2_with fail
            go_region_held3 (fun w' => w'.cell? ⟨w.heap.size, 0, none⟩ = some (.int .i64 W) ∧ w'.cell? ⟨w.heap.size, 1, none⟩ = some (.int .i64 H) ∧ w'.cell? ⟨w.heap.size, 2, none⟩ = some (.slice A n c) ∧ w'.cell? ⟨w.heap.size, 4, none⟩ = some (.slice (some ⟨b, o, none⟩) n2 c2) ∧ w'.cell? ⟨b, o + k * 2, none⟩ = some (.int .i64 x) ∧ w'.cell? ⟨b, o + k * 2 + 1, none⟩ = some (.int .i64 y) ∧ w.heap.size < w'.heap.size ∧ b < w'.heap.size ∧ Below w.heap.size w w')
              (first | exact SD | assumption)
              (first
                | (go_at_call 32; ((with_reducible refine Calls.mono (GO.out _ SD.2.2.2.2.2.2.2.2) ?_); rintro e w5 ⟨rfl, hb5⟩; have S5 := keep7 SD hb5)))
            go_wp2_with (go_at_call 27; go_in)
            go_roundw
            case rel =>
              obtain ⟨y0, y1, y2, y3, _, _, y5, _, y7⟩ := S5
              exact ⟨k + 1, by omega, by go_num, y0, y1, y2, y3, y5, y7⟩
            case measure => simp [intOf]; omega
          · rw [if_pos rfl, if_neg hneg] at GO
            have GO := Lib.hid GO
            generalize atV W H x y = T at *
            go_wp2_with fail
            refine Calls.mono (RG.out _ hbw) ?_
            rintro e w2 ⟨rfl, hb2⟩
            have S1 := keep7 S0 hb2
            have SD := keep7 S1 (Below.refl _ _).drew
            obtain ⟨z0, z1, z2, z3, z4, z5, z6, z7, z8⟩ := id S1
            go_wp2_with fail
            go_region_held3 (fun w' => w'.cell? ⟨w.heap.size, 0, none⟩ = some (.int .i64 W) ∧ w'.cell? ⟨w.heap.size, 1, none⟩ = some (.int .i64 H) ∧ w'.cell? ⟨w.heap.size, 2, none⟩ = some (.slice A n c) ∧ w'.cell? ⟨w.heap.size, 4, none⟩ = some (.slice (some ⟨b, o, none⟩) n2 c2) ∧ w'.cell? ⟨b, o + k * 2, none⟩ = some (.int .i64 x) ∧ w'.cell? ⟨b, o + k * 2 + 1, none⟩ = some (.int .i64 y) ∧ w.heap.size < w'.heap.size ∧ b < w'.heap.size ∧ Below w.heap.size w w')
              (first | exact SD | assumption)
              (first
                | (go_at_call 31; ((with_reducible refine Calls.mono (AT.out _) ?_); rintro e w3 ⟨rfl, hb3⟩; have S3 := keep7 SD hb3)))
            clear SD z0 z1 z2 z3 z4 z5 z6 z7 z8
            have SD := keep7 S3 (Below.refl _ _).drew
            obtain ⟨z0, z1, z2, z3, z4, z5, z6, z7, z8⟩ := id S3
            go_wp2_with fail
            go_region_held3 (fun w' => w'.cell? ⟨w.heap.size, 0, none⟩ = some (.int .i64 W) ∧ w'.cell? ⟨w.heap.size, 1, none⟩ = some (.int .i64 H) ∧ w'.cell? ⟨w.heap.size, 2, none⟩ = some (.slice A n c) ∧ w'.cell? ⟨w.heap.size, 4, none⟩ = some (.slice (some ⟨b, o, none⟩) n2 c2) ∧ w'.cell? ⟨b, o + k * 2, none⟩ = some (.int .i64 x) ∧ w'.cell? ⟨b, o + k * 2 + 1, none⟩ = some (.int .i64 y) ∧ w.heap.size < w'.heap.size ∧ b < w'.heap.size ∧ Below w.heap.size w w')
              (first | exact SD | assumption)
              (first
                | (go_at_call 32; ((with_reducible refine Calls.mono (GO.out _ SD.2.2.2.2.2.2.2.2) ?_); rintro e w5 ⟨rfl, hb5⟩; have S5 := keep7 SD hb5)))
            go_wp2_with (go_at_call 27; go_in)
            go_roundw
            case rel =>
              obtain ⟨y0, y1, y2, y3, _, _, y5, _, y7⟩ := S5
              exact ⟨k + 1, by omega, by go_num, y0, y1, y2, y3, y5, y7⟩
            case measure => simp [intOf]; omega
        · have hG' : isG W H l = false := by simpa using hG
          rw [hG'] at RG GO
          rw [if_neg (by simp)] at GO
          have RG := Lib.hid RG
          have GO := Lib.hid GO
          clear hrw hG hG'
          go_wp2_with fail
          refine Calls.mono (RG.out _ hbw) ?_
          rintro e w2 ⟨rfl, hb2⟩
          have S1 := keep7 S0 hb2
          have SD := keep7 S1 (Below.refl _ _).drew
          obtain ⟨z0, z1, z2, z3, z4, z5, z6, z7, z8⟩ := id S1
          go_wp2_with fail
          go_region_held3 (fun w' => w'.cell? ⟨w.heap.size, 0, none⟩ = some (.int .i64 W) ∧ w'.cell? ⟨w.heap.size, 1, none⟩ = some (.int .i64 H) ∧ w'.cell? ⟨w.heap.size, 2, none⟩ = some (.slice A n c) ∧ w'.cell? ⟨w.heap.size, 4, none⟩ = some (.slice (some ⟨b, o, none⟩) n2 c2) ∧ w'.cell? ⟨b, o + k * 2, none⟩ = some (.int .i64 x) ∧ w'.cell? ⟨b, o + k * 2 + 1, none⟩ = some (.int .i64 y) ∧ w.heap.size < w'.heap.size ∧ b < w'.heap.size ∧ Below w.heap.size w w')
            (first | exact SD | assumption)
            (first
              | (go_at_call 32; ((with_reducible refine Calls.mono (GO.out _ SD.2.2.2.2.2.2.2.2) ?_); rintro e w5 ⟨rfl, hb5⟩; have S5 := keep7 SD hb5)))
          go_wp2_with (go_at_call 27; go_in)
          go_roundw
          case rel =>
            obtain ⟨y0, y1, y2, y3, _, _, y5, _, y7⟩ := S5
            exact ⟨k + 1, by omega, by go_num, y0, y1, y2, y3, y5, y7⟩
          case measure => simp [intOf]; omega
      · have HK := Lib.hid (fun W' => wakes6 W')
        go_wp2_with fail
        refine Calls.mono (HK.out _) ?_
        rintro e w2 ⟨rfl, hb2⟩
        go_wp2
        go_ret
        exact ⟨rfl, hbw.trans (hb2.mono hbw.size)⟩
  · have HV := Lib.hid (fun W' => heavy6_yes W H A A1 A2 n c n1 c1 n2 c2 W' hh)
    clear hh
    go_enter Try.func8, Try.ntmps8
    go_wp2_with fail
    refine Calls.mono (HV.out _) ?_
    rintro e w1 ⟨rfl, hb1⟩
    go_wp2
    go_ret
    exact ⟨rfl, ((Below.refl _ _).alloc (Nat.le_refl _) _).trans (hb1.mono (by simp))⟩
end lawGroundPlaces
end Go.Proofs.Ytdcilabbjejklaa
