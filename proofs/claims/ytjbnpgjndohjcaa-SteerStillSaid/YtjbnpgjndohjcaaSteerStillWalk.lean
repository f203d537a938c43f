/- The walk of the law SteerStill. -/
import Derived.Test.YtjbnpgjndohjcaaSteerStillMath
import Derived.Deep.CutRange
import Derived.Test.YtjbnpgjndohjcaaPush
namespace Go.Proofs.Ytjbnpgjndohjcaa
set_option maxRecDepth 20000
open Go.RowKit Go.WideShapes Go.ChangeShapes

theorem small19 (x y : Int) (w : World) (hx0 : -9223372036854775808 ≤ x) (hx : x ≤ 9223372036854775807) (hy0 : -9223372036854775808 ≤ y) (hy : y ≤ 9223372036854775807) :
    Calls Try.prog 34 #[.agg #[.int .i64 x, .int .i64 y]] w fun e w' => e = .returned (.agg #[.int .i64 (x / 32), .int .i64 (y / 32)]) ∧ Below w.heap.size w w' := by
  go_enter Try.func34, Try.ntmps34
  go_wp2
  exact bodyPost_ret (v := .agg #[.int .i64 (x / 32), .int .i64 (y / 32)]) (by simp [results, Try.results34, go_sem]) rfl ⟨rfl, two_below _ _ _⟩
theorem vecs_one {x y : Int} (w : World) (hx : -9223372036854775808 ≤ x ∧ x ≤ 9223372036854775807) (hy : -9223372036854775808 ≤ y ∧ y ≤ 9223372036854775807) : VecsL (w.alloc (.cells #[.int .i64 x, .int .i64 y] 35)) (some ⟨w.heap.size, 0, none⟩) 1 [(x, y)] := by
  refine ⟨rfl, fun i hi => ?_⟩
  obtain rfl : i = 0 := by omega
  exact ⟨w.heap.size, 0, rfl, by simp, by rw [World.cell?_alloc_at _ _ _ _ rfl]; rfl, by rw [World.cell?_alloc_at _ _ _ _ rfl]; rfl, hx, hy⟩
theorem vecs_two {x y p q : Int} (w : World) (hx : -9223372036854775808 ≤ x ∧ x ≤ 9223372036854775807) (hy : -9223372036854775808 ≤ y ∧ y ≤ 9223372036854775807) (hp : -9223372036854775808 ≤ p ∧ p ≤ 9223372036854775807) (hq : -9223372036854775808 ≤ q ∧ q ≤ 9223372036854775807) : VecsL (w.alloc (.cells #[.int .i64 x, .int .i64 y, .int .i64 p, .int .i64 q] 35)) (some ⟨w.heap.size, 0, none⟩) 2 [(x, y), (p, q)] := by
  refine ⟨rfl, fun i hi => ?_⟩
  rcases (show i = 0 ∨ i = 1 by omega) with rfl | rfl
  · exact ⟨w.heap.size, 0, rfl, by simp, by rw [World.cell?_alloc_at _ _ _ _ rfl]; rfl, by rw [World.cell?_alloc_at _ _ _ _ rfl]; rfl, hx, hy⟩
  · exact ⟨w.heap.size, 0, rfl, by simp, by rw [World.cell?_alloc_at _ _ _ _ rfl]; rfl, by rw [World.cell?_alloc_at _ _ _ _ rfl]; rfl, hp, hq⟩
theorem rem17 (x : Int) : -65536 ≤ x.tmod 65536 ∧ x.tmod 65536 ≤ 65536 := by
  have h1 := Int.tmod_lt_of_pos x (b := 65536) (by omega)
  have h2 := Int.lt_tmod_of_pos x (b := 65536) (by omega)
  omega

namespace lawSteerStill
set_option maxHeartbeats 3200000 in
set_option maxRecDepth 100000 in
theorem walk {H : Type} {enc : TypeId × Value → H} (w : World) {base : Nat} (v : Value) (d : DataW H) (p : List MemPlace) (hv : Value.okWide Try.prog w .any base 44 v)
    (ht : DataW.Trod enc Try.prog w 0 (fun _ => true) true 44 v d p) : Calls Try.prog 9 #[v] w fun e w' => e = .returned (.bool true) ∧ Below w.heap.size w w' := by
  obtain ⟨A, n, c, rfl, hnc, hcm, ha⟩ := open_asks19 hv ht
  unfold maxLen at hcm
  clear hv ht
  go_enter Try.func9, Try.ntmps9
  go_wp2
  go_loopw [3] (fun i wr => ∃ (k : Nat), k ≤ n ∧ k ≤ 20 ∧ i = .int .i64 k ∧ Below w.heap.size w wr) (fun i _ => n - (intOf i).toNat)
  case atStart => exact ⟨0, Nat.zero_le _, by omega, rfl, Below.refl _ _⟩
  case round =>
    obtain ⟨k, hk, hk20, rfl, hbl⟩ := hrel
    by_cases hlt : k < n
    · by_cases h20 : k < 20
      · obtain ⟨b, o, x, y, p, q, z, A1, m1, c1, l1, rfl, hb, hc1, hc2, hc3, hc4, hc5, hc6, ⟨hx0, hx1⟩, ⟨hy0, hy1⟩, ⟨hp0, hp1⟩, ⟨hq0, hq1⟩, ⟨hz0, hz1⟩, hv1, hmc, hcm1⟩ := ha.below hbl k hlt
        clear ha
        clear hv1 hmc hcm1 hc6
        have S := Lib.hid (fun W => small19 x y W hx0 hx1 hy0 hy1)
        have bx : -288230376151711744 ≤ x / 32 ∧ x / 32 ≤ 288230376151711744 := by omega
        have by_ : -288230376151711744 ≤ y / 32 ∧ y / 32 ≤ 288230376151711744 := by omega
        obtain ⟨p2, p3⟩ := rem17 p
        obtain ⟨q2, q3⟩ := rem17 q
        generalize x / 32 = X at *
        generalize y / 32 = Y at *
        go_wp2_with fail
        refine Calls.mono (S.out _) ?_
        rintro e w1 ⟨rfl, hb1⟩
        have hc3 := (hb1.cell (p := ⟨b, o + k * 6 + 2, none⟩) hb).trans hc3
        have hc4 := (hb1.cell (p := ⟨b, o + k * 6 + 3, none⟩) hb).trans hc4
        have hc5 := (hb1.cell (p := ⟨b, o + k * 6 + 4, none⟩) hb).trans hc5
        have hb := Nat.lt_of_lt_of_le hb hb1.size
        have hbl1 := hbl.trans (hb1.mono hbl.size)
        clear hc1 hc2 hb1 S
        go_upto_region 5 with fail
        generalize hW1 : w1.alloc (.cells #[.int .i64 X, .int .i64 Y] 35) = W1
        have QP : BoxQ w1.heap.size X Y W1 := by rw [← hW1]; exact BoxQ.start w1 X Y
        have hbl2 : Below w.heap.size w W1 := by rw [← hW1]; exact hbl1.alloc hbl1.size _
        have hb2 : Below w1.heap.size w1 W1 := by rw [← hW1]; exact (Below.refl _ _).alloc (Nat.le_refl _) _
        have hc3 := (hb2.cell (p := ⟨b, o + k * 6 + 2, none⟩) hb).trans hc3
        have hc4 := (hb2.cell (p := ⟨b, o + k * 6 + 3, none⟩) hb).trans hc4
        have hc5 := (hb2.cell (p := ⟨b, o + k * 6 + 4, none⟩) hb).trans hc5
        have hb := Nat.lt_of_lt_of_le hb hb2.size
        clear hW1 hb2
        generalize w1.heap.size = gp at *
        go_wp2_with fail
        go_region
        go_wp2_with fail
        generalize p.tmod 65536 = dx at *
        generalize q.tmod 65536 = dy at *
        have QP2 := (QP.next ((Below.refl _ _).alloc (Nat.le_refl _) (.cells #[.int .i64 dx, .int .i64 dy] 35))).next ((Below.refl _ _).drew)
        have QD := (BoxQ.start W1 dx dy).next ((Below.refl _ _).drew)
        have hbl3 := (hbl2.alloc hbl2.size (.cells #[.int .i64 dx, .int .i64 dy] 35)).drew
        have hb3 := ((Below.refl W1.heap.size W1).alloc (Nat.le_refl _) (.cells #[.int .i64 dx, .int .i64 dy] 35)).drew
        have hbW : b < W1.heap.size := by assumption
        have hc5 := (hb3.cell (p := ⟨b, o + k * 6 + 4, none⟩) hbW).trans hc5
        have hbV := Nat.lt_of_lt_of_le hbW hb3.size
        have hgp : gp < W1.heap.size := QP.2.2.2
        clear hb3 QP hc3 hc4
        generalize (W1.alloc (.cells #[.int .i64 dx, .int .i64 dy] 35)).drew = V1 at *
        generalize W1.heap.size = gd at *
        clear hbl2
        obtain ⟨s0, s1, s2, s3⟩ := id QP2
        obtain ⟨r0, r1, r2, r3⟩ := id QD
        have wx1 : IntKind.i64.wrap (X + dx) = X + dx := IntWalk.i64_in _ (by omega)
        have wy1 : IntKind.i64.wrap (Y + dy) = Y + dy := IntWalk.i64_in _ (by omega)
        have wx2 : IntKind.i64.wrap (X - dx) = X - dx := IntWalk.i64_in _ (by omega)
        have wy2 : IntKind.i64.wrap (Y - dy) = Y - dy := IntWalk.i64_in _ (by omega)
        have SD : V1.drew.cell? ⟨gp, 0, none⟩ = some (.int .i64 X) ∧ V1.drew.cell? ⟨gp, 1, none⟩ = some (.int .i64 Y) ∧ V1.drew.cell? ⟨gd, 0, none⟩ = some (.int .i64 dx) ∧ V1.drew.cell? ⟨gd, 0 + 1, none⟩ = some (.int .i64 dy) ∧ gp < V1.heap.size ∧ gd < V1.heap.size ∧ Below V1.heap.size V1 V1.drew := ⟨s0, s1, r0, r1, s3, r3, (Below.refl _ _).drew⟩
        have one_b : ∀ o1, Below V1.heap.size V1.drew (V1.drew.alloc o1) := fun o1 => (Below.refl V1.heap.size V1.drew).alloc (Nat.le_refl _) o1
        have two_b : ∀ o1 o2, Below V1.heap.size V1.drew ((V1.drew.alloc o1).alloc o2) := fun o1 o2 => (one_b o1).alloc (one_b o1).size o2
        go_region_held3 (fun w' => w'.cell? ⟨gp, 0, none⟩ = some (.int .i64 X) ∧ w'.cell? ⟨gp, 1, none⟩ = some (.int .i64 Y) ∧ w'.cell? ⟨gd, 0, none⟩ = some (.int .i64 dx) ∧ w'.cell? ⟨gd, 1, none⟩ = some (.int .i64 dy) ∧ gp < V1.heap.size ∧ gd < V1.heap.size ∧ Below V1.heap.size V1 w')
          (first | exact SD | exact keepz SD (one_b _) | exact keepz SD (two_b _ _))
          (fail)
        all_goals (go_wp2_with fail)
        · have b2 : Below V1.heap.size V1 ((V1.alloc (.cells #[.int .i64 (X + dx), .int .i64 (Y + dy)] 35)).alloc (.cells #[.int .i64 (X - dx), .int .i64 (Y - dy)] 35)).drew := (((Below.refl _ _).alloc (Nat.le_refl _) _).alloc (by simp) _).drew
          have QP4 := QP2.next b2
          have QD4 := QD.next b2
          have QA := ((BoxQ.start V1 (X + dx) (Y + dy)).next ((Below.refl _ _).alloc (Nat.le_refl _) (.cells #[.int .i64 (X - dx), .int .i64 (Y - dy)] 35))).next ((Below.refl _ _).drew)
          have QB := (BoxQ.start (V1.alloc (.cells #[.int .i64 (X + dx), .int .i64 (Y + dy)] 35)) (X - dx) (Y - dy)).next ((Below.refl _ _).drew)
          rw [show (V1.alloc (.cells #[.int .i64 (X + dx), .int .i64 (Y + dy)] 35)).heap.size = V1.heap.size + 1 by simp] at QB
          have hbl4 := hbl3.trans (b2.mono hbl3.size)
          have hc6 := (b2.cell (p := ⟨b, o + k * 6 + 4, none⟩) hbV).trans hc5
          have hbX := Nat.lt_of_lt_of_le hbV b2.size
          clear b2 SD one_b two_b s0 s1 s2 s3 r0 r1 r2 r3 hc5 QP2 QD hbl3 wx1 wy1 wx2 wy2
          generalize ((V1.alloc (.cells #[.int .i64 (X + dx), .int .i64 (Y + dy)] 35)).alloc (.cells #[.int .i64 (X - dx), .int .i64 (Y - dy)] 35)).drew = V2 at *
          obtain ⟨s0, s1, s2, s3⟩ := id QP4
          obtain ⟨t0, t1, t2, t3⟩ := id QA
          have N1 := fun W' => steer_toward X Y X Y z W' (by omega) (by omega) (by omega) (by omega) hz1
          have N2 := fun W' => steer_toward X Y (X + dx) (Y + dy) 0 W' (by omega) (by omega) (by omega) (by omega) (by omega)
          have N3 := fun W' => steer_toward X Y (X + dx) (Y + dy) (-1) W' (by omega) (by omega) (by omega) (by omega) (by omega)
          rw [still_tow bx.1 bx.2 by_.1 by_.2] at N1
          rw [slow_tow bx.1 bx.2 by_.1 by_.2 p2 p3 q2 q3 (by omega)] at N2 
          rw [slow_tow bx.1 bx.2 by_.1 by_.2 p2 p3 q2 q3 (by omega)] at N3
          have N1 := Lib.hid (fun u => calls_over (x := u) (N1 (over V2 u)))
          have N2 := Lib.hid (fun u => calls_over (x := u) (N2 (over V2 u)))
          have N3 := Lib.hid (fun u => calls_over (x := u) (N3 (over V2 u)))
          refine wp_region_over (by kernel_rfl) (by kernel_rfl) ?_
          repeat (go_big_quiet_step (first | (go_at_call 24; with_reducible (first | exact N1.out _ | exact N2.out _ | exact N3.out _))))
          refine wpQuiet_nil ?_
          rintro wq ⟨xq, rfl⟩
          have hq := over_below V2 xq
          generalize over V2 xq = V3 at *
          have QP5 := QP4.next hq
          have QD5 := QD4.next hq
          have QA5 := QA.next hq
          have QB5 := QB.next hq
          have hbl5 := hbl4.trans (hq.mono hbl4.size)
          clear s0 s1 s2 s3 t0 t1 t2 t3 QP4 QD4 QA QB hbl4 hq N1 N2 N3 hc6
          have AP := fun W' h => steer_apart X Y 262144 (some ⟨V3.heap.size, 0, none⟩) 2 2 [(X + dx, Y + dy), (X - dx, Y - dy)] W' h (by omega) (by omega) (by omega) (by omega)
          have SP := fun A W' h => steer_apart X Y 262144 A 1 1 [(X, Y)] W' h (by omega) (by omega) (by omega) (by omega)
          rw [spot_is bx.1 bx.2 by_.1 by_.2] at SP
          have SP := Lib.hid SP
          obtain ⟨s0, s1, s2, s3⟩ := id QP5
          obtain ⟨t0, t1, t2, t3⟩ := id QA5
          obtain ⟨u0, u1, u2, u3⟩ := id QB5
          obtain ⟨v0, v1, v2, v3⟩ := id QD5
          by_cases hd : dx = 0 ∧ dy = 0
          · obtain ⟨rfl, rfl⟩ := hd
            clear AP
            go_upto_region 11 with fail
            have hv := vecs_one V3 (x := X) (y := Y) (by omega) (by omega)
            go_wp2_with fail
            refine Calls.mono (SP.out _ _ hv) ?_
            rintro e w8 ⟨rfl, hb8⟩
            have hbl8 := (hbl5.alloc hbl5.size _).trans (hb8.mono (hbl5.alloc hbl5.size (.cells #[.int .i64 X, .int .i64 Y] 35)).size)
            go_wp2
            go_roundw
            case rel => exact ⟨k + 1, by omega, by omega, by go_num, hbl8.alloc hbl8.size _⟩
            case measure => simp [intOf]; omega
          · rw [pair_none bx.1 bx.2 by_.1 by_.2 p2 p3 q2 q3 hd] at AP
            have AP := Lib.hid AP
            have hv2 := vecs_two V3 (x := X + dx) (y := Y + dy) (p := X - dx) (q := Y - dy) (by omega) (by omega) (by omega) (by omega)
            rcases (show ¬ dx = 0 ∨ (dx = 0 ∧ ¬ dy = 0) by omega) with f1 | ⟨f0, f1⟩
            · have g1 : (dx == 0) = false := by rw [beq_eq_false_iff_ne]; exact f1
              go_wp2_with fail
              refine Calls.mono (AP.out _ hv2) ?_
              rintro e w7 ⟨rfl, hb7⟩
              have b6 := (Below.refl V3.heap.size V3).alloc (Nat.le_refl _) (.cells #[.int .i64 (X + dx), .int .i64 (Y + dy), .int .i64 (X - dx), .int .i64 (Y - dy)] 35)
              have b7 := b6.trans (hb7.mono b6.size)
              have QP7 := QP5.next b7
              have hbl7 := hbl5.trans (b7.mono hbl5.size)
              clear s0 s1 s2 s3 t0 t1 t2 t3 u0 u1 u2 u3 v0 v1 v2 v3 b6 b7 hb7 hv2 AP QA5 QB5 QD5 QP5 hbl5
              obtain ⟨s0, s1, s2, s3⟩ := id QP7
              have hv := vecs_one w7 (x := X) (y := Y) (by omega) (by omega)
              go_wp2_with fail
              refine Calls.mono (SP.out _ _ hv) ?_
              rintro e w8 ⟨rfl, hb8⟩
              have hbl8 := (hbl7.alloc hbl7.size _).trans (hb8.mono (hbl7.alloc hbl7.size (.cells #[.int .i64 X, .int .i64 Y] 35)).size)
              go_wp2
              go_roundw
              case rel => exact ⟨k + 1, by omega, by omega, by go_num, hbl8.alloc hbl8.size _⟩
              case measure => simp [intOf]; omega
            · have g1 : (dx == 0) = true := by rw [f0]; rfl
              have g2 : (dy == 0) = false := by rw [beq_eq_false_iff_ne]; exact f1
              clear f0 f1 hd
              go_wp2_with fail
              refine Calls.mono (AP.out _ hv2) ?_
              rintro e w7 ⟨rfl, hb7⟩
              have b6 := (Below.refl V3.heap.size V3).alloc (Nat.le_refl _) (.cells #[.int .i64 (X + dx), .int .i64 (Y + dy), .int .i64 (X - dx), .int .i64 (Y - dy)] 35)
              have b7 := b6.trans (hb7.mono b6.size)
              have QP7 := QP5.next b7
              have hbl7 := hbl5.trans (b7.mono hbl5.size)
              clear s0 s1 s2 s3 t0 t1 t2 t3 u0 u1 u2 u3 v0 v1 v2 v3 b6 b7 hb7 hv2 AP QA5 QB5 QD5 QP5 hbl5
              obtain ⟨s0, s1, s2, s3⟩ := id QP7
              have hv := vecs_one w7 (x := X) (y := Y) (by omega) (by omega)
              go_wp2_with fail
              refine Calls.mono (SP.out _ _ hv) ?_
              rintro e w8 ⟨rfl, hb8⟩
              have hbl8 := (hbl7.alloc hbl7.size _).trans (hb8.mono (hbl7.alloc hbl7.size (.cells #[.int .i64 X, .int .i64 Y] 35)).size)
              go_wp2
              go_roundw
              case rel => exact ⟨k + 1, by omega, by omega, by go_num, hbl8.alloc hbl8.size _⟩
              case measure => simp [intOf]; omega
        · have b2 : Below V1.heap.size V1 ((V1.alloc (.cells #[.int .i64 (X - dx), .int .i64 (Y - dy)] 35)).alloc (.cells #[.int .i64 (X + dx), .int .i64 (Y + dy)] 35)).drew := (((Below.refl _ _).alloc (Nat.le_refl _) _).alloc (by simp) _).drew
          have QP4 := QP2.next b2
          have QD4 := QD.next b2
          have QB := ((BoxQ.start V1 (X - dx) (Y - dy)).next ((Below.refl _ _).alloc (Nat.le_refl _) (.cells #[.int .i64 (X + dx), .int .i64 (Y + dy)] 35))).next ((Below.refl _ _).drew)
          have QA := (BoxQ.start (V1.alloc (.cells #[.int .i64 (X - dx), .int .i64 (Y - dy)] 35)) (X + dx) (Y + dy)).next ((Below.refl _ _).drew)
          rw [show (V1.alloc (.cells #[.int .i64 (X - dx), .int .i64 (Y - dy)] 35)).heap.size = V1.heap.size + 1 by simp] at QA
          have hbl4 := hbl3.trans (b2.mono hbl3.size)
          have hc6 := (b2.cell (p := ⟨b, o + k * 6 + 4, none⟩) hbV).trans hc5
          have hbX := Nat.lt_of_lt_of_le hbV b2.size
          clear b2 SD one_b two_b s0 s1 s2 s3 r0 r1 r2 r3 hc5 QP2 QD hbl3 wx1 wy1 wx2 wy2
          generalize ((V1.alloc (.cells #[.int .i64 (X - dx), .int .i64 (Y - dy)] 35)).alloc (.cells #[.int .i64 (X + dx), .int .i64 (Y + dy)] 35)).drew = V2 at *
          obtain ⟨s0, s1, s2, s3⟩ := id QP4
          obtain ⟨t0, t1, t2, t3⟩ := id QA
          have N1 := fun W' => steer_toward X Y X Y z W' (by omega) (by omega) (by omega) (by omega) hz1
          have N2 := fun W' => steer_toward X Y (X + dx) (Y + dy) 0 W' (by omega) (by omega) (by omega) (by omega) (by omega)
          have N3 := fun W' => steer_toward X Y (X + dx) (Y + dy) (-1) W' (by omega) (by omega) (by omega) (by omega) (by omega)
          rw [still_tow bx.1 bx.2 by_.1 by_.2] at N1
          rw [slow_tow bx.1 bx.2 by_.1 by_.2 p2 p3 q2 q3 (by omega)] at N2 
          rw [slow_tow bx.1 bx.2 by_.1 by_.2 p2 p3 q2 q3 (by omega)] at N3
          have N1 := Lib.hid (fun u => calls_over (x := u) (N1 (over V2 u)))
          have N2 := Lib.hid (fun u => calls_over (x := u) (N2 (over V2 u)))
          have N3 := Lib.hid (fun u => calls_over (x := u) (N3 (over V2 u)))
          refine wp_region_over (by kernel_rfl) (by kernel_rfl) ?_
          repeat (go_big_quiet_step (first | (go_at_call 24; with_reducible (first | exact N1.out _ | exact N2.out _ | exact N3.out _))))
          refine wpQuiet_nil ?_
          rintro wq ⟨xq, rfl⟩
          have hq := over_below V2 xq
          generalize over V2 xq = V3 at *
          have QP5 := QP4.next hq
          have QD5 := QD4.next hq
          have QA5 := QA.next hq
          have QB5 := QB.next hq
          have hbl5 := hbl4.trans (hq.mono hbl4.size)
          clear s0 s1 s2 s3 t0 t1 t2 t3 QP4 QD4 QA QB hbl4 hq N1 N2 N3 hc6
          have AP := fun W' h => steer_apart X Y 262144 (some ⟨V3.heap.size, 0, none⟩) 2 2 [(X + dx, Y + dy), (X - dx, Y - dy)] W' h (by omega) (by omega) (by omega) (by omega)
          have SP := fun A W' h => steer_apart X Y 262144 A 1 1 [(X, Y)] W' h (by omega) (by omega) (by omega) (by omega)
          rw [spot_is bx.1 bx.2 by_.1 by_.2] at SP
          have SP := Lib.hid SP
          obtain ⟨s0, s1, s2, s3⟩ := id QP5
          obtain ⟨t0, t1, t2, t3⟩ := id QA5
          obtain ⟨u0, u1, u2, u3⟩ := id QB5
          obtain ⟨v0, v1, v2, v3⟩ := id QD5
          by_cases hd : dx = 0 ∧ dy = 0
          · obtain ⟨rfl, rfl⟩ := hd
            clear AP
            go_upto_region 11 with fail
            have hv := vecs_one V3 (x := X) (y := Y) (by omega) (by omega)
            go_wp2_with fail
            refine Calls.mono (SP.out _ _ hv) ?_
            rintro e w8 ⟨rfl, hb8⟩
            have hbl8 := (hbl5.alloc hbl5.size _).trans (hb8.mono (hbl5.alloc hbl5.size (.cells #[.int .i64 X, .int .i64 Y] 35)).size)
            go_wp2
            go_roundw
            case rel => exact ⟨k + 1, by omega, by omega, by go_num, hbl8.alloc hbl8.size _⟩
            case measure => simp [intOf]; omega
          · rw [pair_none bx.1 bx.2 by_.1 by_.2 p2 p3 q2 q3 hd] at AP
            have AP := Lib.hid AP
            have hv2 := vecs_two V3 (x := X + dx) (y := Y + dy) (p := X - dx) (q := Y - dy) (by omega) (by omega) (by omega) (by omega)
            rcases (show ¬ dx = 0 ∨ (dx = 0 ∧ ¬ dy = 0) by omega) with f1 | ⟨f0, f1⟩
            · have g1 : (dx == 0) = false := by rw [beq_eq_false_iff_ne]; exact f1
              go_wp2_with fail
              refine Calls.mono (AP.out _ hv2) ?_
              rintro e w7 ⟨rfl, hb7⟩
              have b6 := (Below.refl V3.heap.size V3).alloc (Nat.le_refl _) (.cells #[.int .i64 (X + dx), .int .i64 (Y + dy), .int .i64 (X - dx), .int .i64 (Y - dy)] 35)
              have b7 := b6.trans (hb7.mono b6.size)
              have QP7 := QP5.next b7
              have hbl7 := hbl5.trans (b7.mono hbl5.size)
              clear s0 s1 s2 s3 t0 t1 t2 t3 u0 u1 u2 u3 v0 v1 v2 v3 b6 b7 hb7 hv2 AP QA5 QB5 QD5 QP5 hbl5
              obtain ⟨s0, s1, s2, s3⟩ := id QP7
              have hv := vecs_one w7 (x := X) (y := Y) (by omega) (by omega)
              go_wp2_with fail
              refine Calls.mono (SP.out _ _ hv) ?_
              rintro e w8 ⟨rfl, hb8⟩
              have hbl8 := (hbl7.alloc hbl7.size _).trans (hb8.mono (hbl7.alloc hbl7.size (.cells #[.int .i64 X, .int .i64 Y] 35)).size)
              go_wp2
              go_roundw
              case rel => exact ⟨k + 1, by omega, by omega, by go_num, hbl8.alloc hbl8.size _⟩
              case measure => simp [intOf]; omega
            · have g1 : (dx == 0) = true := by rw [f0]; rfl
              have g2 : (dy == 0) = false := by rw [beq_eq_false_iff_ne]; exact f1
              clear f0 f1 hd
              go_wp2_with fail
              refine Calls.mono (AP.out _ hv2) ?_
              rintro e w7 ⟨rfl, hb7⟩
              have b6 := (Below.refl V3.heap.size V3).alloc (Nat.le_refl _) (.cells #[.int .i64 (X + dx), .int .i64 (Y + dy), .int .i64 (X - dx), .int .i64 (Y - dy)] 35)
              have b7 := b6.trans (hb7.mono b6.size)
              have QP7 := QP5.next b7
              have hbl7 := hbl5.trans (b7.mono hbl5.size)
              clear s0 s1 s2 s3 t0 t1 t2 t3 u0 u1 u2 u3 v0 v1 v2 v3 b6 b7 hb7 hv2 AP QA5 QB5 QD5 QP5 hbl5
              obtain ⟨s0, s1, s2, s3⟩ := id QP7
              have hv := vecs_one w7 (x := X) (y := Y) (by omega) (by omega)
              go_wp2_with fail
              refine Calls.mono (SP.out _ _ hv) ?_
              rintro e w8 ⟨rfl, hb8⟩
              have hbl8 := (hbl7.alloc hbl7.size _).trans (hb8.mono (hbl7.alloc hbl7.size (.cells #[.int .i64 X, .int .i64 Y] 35)).size)
              go_wp2
              go_roundw
              case rel => exact ⟨k + 1, by omega, by omega, by go_num, hbl8.alloc hbl8.size _⟩
              case measure => simp [intOf]; omega
      · go_wp2_with fail
        refine Calls.mono (wakes19 _) ?_
        rintro e w3 ⟨rfl, hb3⟩
        go_wp2
        go_ret
        exact ⟨rfl, hbl.trans (hb3.mono hbl.size)⟩
    · go_wp2_with fail
      refine Calls.mono (wakes19 _) ?_
      rintro e w3 ⟨rfl, hb3⟩
      go_wp2
      go_ret
      exact ⟨rfl, hbl.trans (hb3.mono hbl.size)⟩
end lawSteerStill
end Go.Proofs.Ytjbnpgjndohjcaa
