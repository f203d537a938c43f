/- The walk of the law GroundNears. -/
import Derived.Test.YtdcilabbjejklaaGroundWake
namespace Go.Proofs.Ytdcilabbjejklaa
open Go.RowKit Go.WideShapes Go.ChangeShapes

namespace lawGroundNears
set_option maxHeartbeats 3200000 in
set_option maxRecDepth 100000 in
theorem walk {H : Type} {enc : TypeId × Value → H} (w : World) {base : Nat} (v : Value) (d : DataW H) (p : List MemPlace) (hv : Value.okWide Try.prog w .any base 42 v)
    (ht : DataW.Trod enc Try.prog w 0 (fun _ => true) true 42 v d p) : Calls Try.prog 6 #[v] w fun e w' => e = .returned (.bool true) ∧ Below w.heap.size w w' := by
  obtain ⟨W, H, A, n, c, l, A1, n1, c1, l1, A2, n2, c2, rfl, hW, hH, hr, hl, ⟨hnc, hcm⟩, hr1, hl1, ⟨hnc1, hcm1⟩, hv2, hnc2⟩ := open_ask6 hv ht
  clear hv ht hv2 hnc2
  unfold maxLen at hcm hcm1
  by_cases hh : n ≤ 20000 ∧ n1 ≤ 60 ∧ n2 ≤ 60
  · obtain ⟨hn, hn1, hn2⟩ := hh
    have HV := Lib.hid (fun W' => heavy6_no W H A A1 A2 n c n1 c1 n2 c2 W' hn hn1 hn2)
    go_enter Try.func6, Try.ntmps6
    go_wp2_with fail
    refine Calls.mono (HV.out _) ?_
    rintro e w1 ⟨rfl, hb1⟩
    have q0 : w1.cell? ⟨w.heap.size, 0, none⟩ = some (.int .i64 W) := by rw [hb1.cell (p := ⟨w.heap.size, 0, none⟩) (by simp), World.cell?_alloc_at _ _ _ _ rfl]; rfl
    have q1 : w1.cell? ⟨w.heap.size, 1, none⟩ = some (.int .i64 H) := by rw [hb1.cell (p := ⟨w.heap.size, 1, none⟩) (by simp), World.cell?_alloc_at _ _ _ _ rfl]; rfl
    have q2 : w1.cell? ⟨w.heap.size, 2, none⟩ = some (.slice A n c) := by rw [hb1.cell (p := ⟨w.heap.size, 2, none⟩) (by simp), World.cell?_alloc_at _ _ _ _ rfl]; rfl
    have q3 : w1.cell? ⟨w.heap.size, 3, none⟩ = some (.slice A1 n1 c1) := by rw [hb1.cell (p := ⟨w.heap.size, 3, none⟩) (by simp), World.cell?_alloc_at _ _ _ _ rfl]; rfl
    have hbw1 : Below w.heap.size w w1 := ((Below.refl _ _).alloc (Nat.le_refl _) _).trans (hb1.mono (by simp))
    have hgs : w.heap.size < w1.heap.size := by have := hb1.size; simp at this; omega
    clear hb1 HV
    go_wp2_with fail
    go_loopw [3] (fun i wr => ∃ (k : Nat), k ≤ n1 ∧ i = .int .i64 k ∧ wr.cell? ⟨w.heap.size, 0, none⟩ = some (.int .i64 W) ∧ wr.cell? ⟨w.heap.size, 1, none⟩ = some (.int .i64 H) ∧ wr.cell? ⟨w.heap.size, 2, none⟩ = some (.slice A n c) ∧ wr.cell? ⟨w.heap.size, 3, none⟩ = some (.slice A1 n1 c1) ∧ w.heap.size < wr.heap.size ∧ Below w.heap.size w wr) (fun i _ => n1 - (intOf i).toNat)
    case atStart => exact ⟨0, Nat.zero_le _, rfl, q0, q1, q2, q3, hgs, hbw1⟩
    case round =>
      obtain ⟨k, hk, rfl, r0, r1, r2, r3, hgr, hbw⟩ := hrel
      clear q0 q1 q2 q3
      by_cases hlt : k < n1
      · obtain ⟨hll, b, o, rfl, hb, hc⟩ := (hr1.below hbw).num hlt
        generalize l1.getD k 0 = t at *
        have ki : (k : Int) < (n1 : Int) := by omega
        have ki0 : (0 : Int) ≤ (k : Int) := by omega
        have hbr : b < wr.heap.size := Nat.lt_of_lt_of_le hb hbw.size
        have S0 : wr.cell? ⟨w.heap.size, 0, none⟩ = some (.int .i64 W) ∧ wr.cell? ⟨w.heap.size, 1, none⟩ = some (.int .i64 H) ∧ wr.cell? ⟨w.heap.size, 2, none⟩ = some (.slice A n c) ∧ wr.cell? ⟨w.heap.size, 3, none⟩ = some (.slice (some ⟨b, o, none⟩) n1 c1) ∧ wr.cell? ⟨b, o + k, none⟩ = some (.int .i64 t) ∧ w.heap.size < wr.heap.size ∧ b < wr.heap.size ∧ Below w.heap.size w wr := ⟨r0, r1, r2, r3, hc, hgr, hbr, hbw⟩
        have hrw := fun (W' : World) (h : Below w.heap.size w W') => (hr.below h).more h.size
        have hN := fun (W' : World) => ref_ground W H A n c W'.heap.size l W'
        clear hr1 hl1
        by_cases hG : isG W H l = true
        · have RG := Lib.hid (fun (W' : World) (h : Below w.heap.size w W') => (show Calls Try.prog 23 #[.agg #[.int .i64 W, .int .i64 H, .slice A n c]] W' (fun e w' => e = .returned (.bool true) ∧ Below W'.heap.size W' w') by have := hN W' (hrw W' h) (Nat.le_refl _) hl (by omega); rw [hG] at this; exact this))
          clear hN
          obtain ⟨g1, g2, g3, g4, _⟩ := isG_bounds hG
          by_cases hT : tileB W H t = true
          · have RT := Lib.hid (fun (W' : World) => (show Calls Try.prog 24 #[.agg #[.int .i64 W, .int .i64 H, .slice A n c], .int .i64 t] W' (fun e w' => e = .returned (.bool true) ∧ Below W'.heap.size W' w') by have := ref_tile W H t A n c W' g1 g2 g3 g4; rw [hT] at this; exact this))
            obtain ⟨t0, t1⟩ := of_decide_eq_true hT
            have RN := Lib.hid (fun (W' : World) => ref_near W H t A n c W' g1 g2 g3 g4 t0 t1)
            have GN := Lib.hid (fun (W' : World) (h : Below w.heap.size w W') => near_yes (c := c) W' (hrw W' h) (Nat.le_refl _) hl hG hT)
            clear hG hT hrw g1 g2 g3 g4 t0 t1
            go_wp2_with fail
            refine Calls.mono (RG.out _ hbw) ?_
            rintro e w2 ⟨rfl, hb2⟩
            have S1 := keep6 S0 hb2
            have SD := keep6 S1 (Below.refl _ _).drew
            obtain ⟨z0, z1, z2, z3, z4, z5, z6, z7⟩ := id S1
            go_wp2_with fail
            go_region_held3 (fun w' => w'.cell? ⟨w.heap.size, 0, none⟩ = some (.int .i64 W) ∧ w'.cell? ⟨w.heap.size, 1, none⟩ = some (.int .i64 H) ∧ w'.cell? ⟨w.heap.size, 2, none⟩ = some (.slice A n c) ∧ w'.cell? ⟨w.heap.size, 3, none⟩ = some (.slice (some ⟨b, o, none⟩) n1 c1) ∧ w'.cell? ⟨b, o + k, none⟩ = some (.int .i64 t) ∧ w.heap.size < w'.heap.size ∧ b < w'.heap.size ∧ Below w.heap.size w w')
              (first | exact SD | assumption)
              (first
                | (go_at_call 24; ((with_reducible refine Calls.mono (RT.out _) ?_); rintro e w3 ⟨rfl, hb3⟩; have S3 := keep6 SD hb3)))
            have S3' := keep6 S3 (Below.refl _ _).drew
            clear z0 z1 z2 z3 z4 z5 z6 z7
            obtain ⟨z0, z1, z2, z3, z4, z5, z6, z7⟩ := id S3
            go_wp2_with fail
            go_region_held3 (fun w' => w'.cell? ⟨w.heap.size, 0, none⟩ = some (.int .i64 W) ∧ w'.cell? ⟨w.heap.size, 1, none⟩ = some (.int .i64 H) ∧ w'.cell? ⟨w.heap.size, 2, none⟩ = some (.slice A n c) ∧ w'.cell? ⟨w.heap.size, 3, none⟩ = some (.slice (some ⟨b, o, none⟩) n1 c1) ∧ w'.cell? ⟨b, o + k, none⟩ = some (.int .i64 t) ∧ w.heap.size < w'.heap.size ∧ b < w'.heap.size ∧ Below w.heap.size w w')
              (first | exact S3' | assumption)
              (first
                | (go_at_call 25; ((with_reducible refine Calls.mono (RN.out _) ?_); rintro e w4 ⟨A4, c4, rfl, hown4, hb4⟩; have S4 := keep6 S3' hb4)))
            have S4' := keep6 S4 (Below.refl _ _).drew
            clear z0 z1 z2 z3 z4 z5 z6 z7
            obtain ⟨z0, z1, z2, z3, z4, z5, z6, z7⟩ := id S4
            go_wp2_with fail
            go_region_held3 (fun w' => w'.cell? ⟨w.heap.size, 0, none⟩ = some (.int .i64 W) ∧ w'.cell? ⟨w.heap.size, 1, none⟩ = some (.int .i64 H) ∧ w'.cell? ⟨w.heap.size, 2, none⟩ = some (.slice A n c) ∧ w'.cell? ⟨w.heap.size, 3, none⟩ = some (.slice (some ⟨b, o, none⟩) n1 c1) ∧ w'.cell? ⟨b, o + k, none⟩ = some (.int .i64 t) ∧ w.heap.size < w'.heap.size ∧ b < w'.heap.size ∧ Below w.heap.size w w')
              (first | exact S4' | assumption)
              (first
                | (go_at_call 26; ((with_reducible refine Calls.mono (GN.out _ (S4'.2.2.2.2.2.2.2)) ?_); rintro e w5 ⟨g5, rfl, hg50, hg51, hc5, hf5, hb5⟩; have S5 := keep6 S4' hb5)))
            go_wp2_with (go_at_call 27; go_in)
            refine (eq_nums _ _ _ _ _ _ _ _ _ _ _ (reads_arr hg51 hc5) ((Reads.of_own hown4).drew.below hb5) (by simp [nearL]) (by simp [nearL])).mono ?_
            rintro e w8 ⟨he8, q8, rfl⟩
            rw [beq_self_eq_true] at he8
            subst he8
            go_wp2_with fail
            refine (spoil_arr g5 _ w4.heap.size (nearL W H t) (w5.drewN q8) rfl hg50 (show g5 < w5.heap.size from hg51) hc5 hf5 (by simp [nearL]) (by simp [nearL])).mono ?_
            rintro e w9 ⟨rfl, hb9⟩
            go_wp2
            go_roundw
            case rel =>
              obtain ⟨y0, y1, y2, y3, _, y5, _, y7⟩ := keep6b S5 ((below_drewN (Below.refl _ _) q8).trans hb9) S4.2.2.2.2.2.1 S4.2.2.2.2.2.2.1 S4.2.2.2.2.2.2.2.size
              exact ⟨k + 1, by omega, by go_num, y0, y1, y2, y3, y5, y7⟩
            case measure => simp [intOf]; omega
          · have hT' : tileB W H t = false := by simpa using hT
            have RT := Lib.hid (fun (W' : World) => (show Calls Try.prog 24 #[.agg #[.int .i64 W, .int .i64 H, .slice A n c], .int .i64 t] W' (fun e w' => e = .returned (.bool false) ∧ Below W'.heap.size W' w') by have := ref_tile W H t A n c W' g1 g2 g3 g4; rw [hT'] at this; exact this))
            have GN := Lib.hid (fun (W' : World) (h : Below w.heap.size w W') => near_none (c := c) W' (hrw W' h) (Nat.le_refl _) hl hG hT')
            clear hG hT hT' hrw g1 g2 g3 g4
            go_wp2_with fail
            refine Calls.mono (RG.out _ hbw) ?_
            rintro e w2 ⟨rfl, hb2⟩
            have S1 := keep6 S0 hb2
            have SD := keep6 S1 (Below.refl _ _).drew
            obtain ⟨z0, z1, z2, z3, z4, z5, z6, z7⟩ := id S1
            go_wp2_with fail
            go_region_held3 (fun w' => w'.cell? ⟨w.heap.size, 0, none⟩ = some (.int .i64 W) ∧ w'.cell? ⟨w.heap.size, 1, none⟩ = some (.int .i64 H) ∧ w'.cell? ⟨w.heap.size, 2, none⟩ = some (.slice A n c) ∧ w'.cell? ⟨w.heap.size, 3, none⟩ = some (.slice (some ⟨b, o, none⟩) n1 c1) ∧ w'.cell? ⟨b, o + k, none⟩ = some (.int .i64 t) ∧ w.heap.size < w'.heap.size ∧ b < w'.heap.size ∧ Below w.heap.size w w')
              (first | exact SD | assumption)
              (first
                | (go_at_call 24; ((with_reducible refine Calls.mono (RT.out _) ?_); rintro e w3 ⟨rfl, hb3⟩; have S3 := keep6 SD hb3)))
            have S3' := keep6 S3 (Below.refl _ _).drew
            clear z0 z1 z2 z3 z4 z5 z6 z7
            obtain ⟨z0, z1, z2, z3, z4, z5, z6, z7⟩ := id S3
            go_wp2_with fail
            go_region_held3 (fun w' => w'.cell? ⟨w.heap.size, 0, none⟩ = some (.int .i64 W) ∧ w'.cell? ⟨w.heap.size, 1, none⟩ = some (.int .i64 H) ∧ w'.cell? ⟨w.heap.size, 2, none⟩ = some (.slice A n c) ∧ w'.cell? ⟨w.heap.size, 3, none⟩ = some (.slice (some ⟨b, o, none⟩) n1 c1) ∧ w'.cell? ⟨b, o + k, none⟩ = some (.int .i64 t) ∧ w.heap.size < w'.heap.size ∧ b < w'.heap.size ∧ Below w.heap.size w w')
              (first | exact S3' | assumption)
              (first
                | (go_at_call 26; ((with_reducible refine Calls.mono (GN.out _ (S3'.2.2.2.2.2.2.2)) ?_); rintro e w5 ⟨rfl, hb5⟩; have S5 := keep6 S3' hb5)))
            go_wp2_with (go_at_call 27; go_in)
            refine (eq_nums none none 0 0 0 0 0 0 [] [] _ Reads.none_ Reads.none_ (by omega) (by omega)).mono ?_
            rintro e w8 ⟨he8, q8, rfl⟩
            rw [beq_self_eq_true] at he8
            subst he8
            go_wp2_with fail
            refine (spoil_nums none 0 0 w5.heap.size [] (w5.drewN q8) (World.ownsRow_nil _ _ _ _) (Nat.le_refl _) (by omega)).mono ?_
            rintro e w9 ⟨rfl, hb9⟩
            go_wp2
            go_roundw
            case rel =>
              obtain ⟨y0, y1, y2, y3, _, y5, _, y7⟩ := keep6b S5 ((below_drewN (Below.refl _ _) q8).trans hb9) S5.2.2.2.2.2.1 S5.2.2.2.2.2.2.1 S5.2.2.2.2.2.2.2.size
              exact ⟨k + 1, by omega, by go_num, y0, y1, y2, y3, y5, y7⟩
            case measure => simp [intOf]; omega
        · have hG' : isG W H l = false := by simpa using hG
          have RG := Lib.hid (fun (W' : World) (h : Below w.heap.size w W') => (show Calls Try.prog 23 #[.agg #[.int .i64 W, .int .i64 H, .slice A n c]] W' (fun e w' => e = .returned (.bool false) ∧ Below W'.heap.size W' w') by have := hN W' (hrw W' h) (Nat.le_refl _) hl (by omega); rw [hG'] at this; exact this))
          have GN := Lib.hid (fun (W' : World) (h : Below w.heap.size w W') => near_bad (c := c) (t := t) W' (hrw W' h) (Nat.le_refl _) hl hG')
          clear hN hG hG' hrw
          go_wp2_with fail
          refine Calls.mono (RG.out _ hbw) ?_
          rintro e w2 ⟨rfl, hb2⟩
          have S3 := keep6 S0 hb2
          have S3' := keep6 S3 (Below.refl _ _).drew
          obtain ⟨z0, z1, z2, z3, z4, z5, z6, z7⟩ := id S3
          go_wp2_with fail
          go_region_held3 (fun w' => w'.cell? ⟨w.heap.size, 0, none⟩ = some (.int .i64 W) ∧ w'.cell? ⟨w.heap.size, 1, none⟩ = some (.int .i64 H) ∧ w'.cell? ⟨w.heap.size, 2, none⟩ = some (.slice A n c) ∧ w'.cell? ⟨w.heap.size, 3, none⟩ = some (.slice (some ⟨b, o, none⟩) n1 c1) ∧ w'.cell? ⟨b, o + k, none⟩ = some (.int .i64 t) ∧ w.heap.size < w'.heap.size ∧ b < w'.heap.size ∧ Below w.heap.size w w')
            (first | exact S3' | assumption)
            (first
              | (go_at_call 26; ((with_reducible refine Calls.mono (GN.out _ (S3'.2.2.2.2.2.2.2)) ?_); rintro e w5 ⟨rfl, hb5⟩; have S5 := keep6 S3' hb5)))
          go_wp2_with (go_at_call 27; go_in)
          refine (eq_nums none none 0 0 0 0 0 0 [] [] _ Reads.none_ Reads.none_ (by omega) (by omega)).mono ?_
          rintro e w8 ⟨he8, q8, rfl⟩
          rw [beq_self_eq_true] at he8
          subst he8
          go_wp2_with fail
          refine (spoil_nums none 0 0 w5.heap.size [] (w5.drewN q8) (World.ownsRow_nil _ _ _ _) (Nat.le_refl _) (by omega)).mono ?_
          rintro e w9 ⟨rfl, hb9⟩
          go_wp2
          go_roundw
          case rel =>
            obtain ⟨y0, y1, y2, y3, _, y5, _, y7⟩ := keep6b S5 ((below_drewN (Below.refl _ _) q8).trans hb9) S5.2.2.2.2.2.1 S5.2.2.2.2.2.2.1 S5.2.2.2.2.2.2.2.size
            exact ⟨k + 1, by omega, by go_num, y0, y1, y2, y3, y5, y7⟩
          case measure => simp [intOf]; omega
      · have HK := Lib.hid (fun W' => wakes6 W')
        go_wp2_with fail
        refine Calls.mono (HK.out _) ?_
        rintro e w2 ⟨rfl, hb2⟩
        go_wp2
        go_ret
        exact ⟨rfl, hbw.trans (hb2.mono hbw.size)⟩
  · have HV := Lib.hid (fun W' => heavy6_yes W H A A1 A2 n c n1 c1 n2 c2 W' hh)
    clear hh
    go_enter Try.func6, Try.ntmps6
    go_wp2_with fail
    refine Calls.mono (HV.out _) ?_
    rintro e w1 ⟨rfl, hb1⟩
    go_wp2
    go_ret
    exact ⟨rfl, ((Below.refl _ _).alloc (Nat.le_refl _) _).trans (hb1.mono (by simp))⟩
end lawGroundNears
end Go.Proofs.Ytdcilabbjejklaa
