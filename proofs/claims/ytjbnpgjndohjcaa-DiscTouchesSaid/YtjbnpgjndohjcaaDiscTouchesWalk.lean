/- The walk of the law DiscTouches. -/
import Derived.Test.YtjbnpgjndohjcaaDiscMeet
import Derived.Test.YtjbnpgjndohjcaaDiscOpen
import Derived.Deep.CutRange
namespace Go.Proofs.Ytjbnpgjndohjcaa
set_option maxRecDepth 20000
open Go.RowKit Go.WideShapes Go.ChangeShapes

def zero9 : List Int := [0, 0, 0, 0, 0, 0, 0, 0, 0]
theorem touch_fin : ∀ t : Fin 9, meetR 3 3 (t.val : Int) (((t.val : Int) % 3 * 65536) - 32768) (((t.val : Int) / 3 * 65536) + 9) 32768 zero9 = (false, 0) ∧ meetR 3 3 (t.val : Int) (((t.val : Int) % 3 * 65536) - 32768 + 1) (((t.val : Int) / 3 * 65536) + 9) 32768 zero9 = (true, 0) ∧ meetR 3 3 (t.val : Int) (((t.val : Int) % 3 * 65536) + 65536 + 32768) (((t.val : Int) / 3 * 65536) + 9) 32768 zero9 = (false, 0) ∧ meetR 3 3 (t.val : Int) (((t.val : Int) % 3 * 65536) + 65536 + 32768 + -1) (((t.val : Int) / 3 * 65536) + 9) 32768 zero9 = (true, 0) ∧ meetR 3 3 (t.val : Int) (((t.val : Int) % 3 * 65536) + 9) (((t.val : Int) / 3 * 65536) - 32768) 32768 zero9 = (false, 0) ∧ meetR 3 3 (t.val : Int) (((t.val : Int) % 3 * 65536) + 9) (((t.val : Int) / 3 * 65536) - 32768 + 1) 32768 zero9 = (true, 0) ∧ meetR 3 3 (t.val : Int) (((t.val : Int) % 3 * 65536) + 9) (((t.val : Int) / 3 * 65536) + 65536 + 32768) 32768 zero9 = (false, 0) ∧ meetR 3 3 (t.val : Int) (((t.val : Int) % 3 * 65536) + 9) (((t.val : Int) / 3 * 65536) + 65536 + 32768 + -1) 32768 zero9 = (true, 0) ∧ meetR 3 3 (t.val : Int) (((t.val : Int) % 3 * 65536) - 3) (((t.val : Int) / 3 * 65536) - 4) 5 zero9 = (false, 0) ∧ meetR 3 3 (t.val : Int) (((t.val : Int) % 3 * 65536) - 3) (((t.val : Int) / 3 * 65536) - 4) 6 zero9 = (true, 0) := by decide +kernel
theorem touch_d1 : (!vwithin 0 0 65536 0 (rndV 32768 + rndV 32768)) = true := by decide +kernel
theorem touch_d2 : (!vwithin 0 0 65535 0 (rndV 32768 + rndV 32768)) = false := by decide +kernel
theorem touch_d3 : (!vwithin 0 0 65536 0 (rndV 32768 + rndV 32769)) = false := by decide +kernel
theorem four_below (w : World) (a b c d : Obj) : Below w.heap.size w ((((w.alloc a).alloc b).alloc c).alloc d) := ((((Below.refl _ _).alloc (Nat.le_refl _) _).alloc (by simp) _).alloc (by simp; omega) _).alloc (by simp; omega) _
theorem four_first {a c d : Obj} {x y : Int} (w : World) : BoxQ (w.heap.size + 1) x y ((((w.alloc a).alloc (.cells #[.int .i64 x, .int .i64 y] 35)).alloc c).alloc d) := by
  have := ((BoxQ.start (w.alloc a) x y).next ((Below.refl _ _).alloc (Nat.le_refl _) c)).next ((Below.refl _ _).alloc (Nat.le_refl _) d)
  rwa [show (w.alloc a).heap.size = w.heap.size + 1 by simp] at this
theorem four_last {a b c : Obj} {x y : Int} (w : World) : BoxQ (w.heap.size + 1 + 1 + 1) x y ((((w.alloc a).alloc b).alloc c).alloc (.cells #[.int .i64 x, .int .i64 y] 35)) := by
  have := BoxQ.start (((w.alloc a).alloc b).alloc c) x y
  rwa [show (((w.alloc a).alloc b).alloc c).heap.size = w.heap.size + 1 + 1 + 1 by simp] at this
theorem make_nine (w : World) : (Instr.makeSlice 22 (.int .i64 9) (.int .i64 9)).run Try.prog w = .ok (.slice (some ⟨w.heap.size, 0, none⟩) 9 9) (w.alloc (.cells #[.int .u8 0, .int .u8 0, .int .u8 0, .int .u8 0, .int .u8 0, .int .u8 0, .int .u8 0, .int .u8 0, .int .u8 0] 5)) := by kernel_rfl

namespace lawDiscTouches
set_option maxHeartbeats 6400000 in
set_option maxRecDepth 100000 in
theorem walk {H : Type} {enc : TypeId × Value → H} (w : World) {base : Nat} (v : Value) (d : DataW H) (p : List MemPlace) (hv : Value.okWide Try.prog w .any base 30 v)
    (ht : DataW.Trod enc Try.prog w 0 (fun _ => true) true 30 v d p) : Calls Try.prog 5 #[v] w fun e w' => e = .returned (.bool true) ∧ Below w.heap.size w w' := by
  obtain ⟨W, H, K, A, n, c, l, A0, n0, c0, A1, n1, c1, l1, A2, n2, c2, l2, A3, n3, c3, l3, rfl, hr, hl, ⟨hnc, hcm⟩, ⟨hnc0, hcm0⟩, hr1, ⟨hnc1, hcm1⟩, hv2, ⟨hnc2, hcm2⟩, hr3, hl3, ⟨hnc3, hcm3⟩⟩ := open_ask17 hv ht
  clear hv ht hr hl hr1 hv2 hr3 hl3 hnc hcm hnc0 hcm0 hnc2 hcm2 hnc3 hcm3
  unfold maxLen at hcm1
  have hmk := fun w => make_nine w
  have hB0 := (Below.refl w.heap.size w).alloc (Nat.le_refl _) (.cells #[.int .i64 W, .int .i64 H, .slice A n c, .slice A0 n0 c0, .int .i64 K, .slice A1 n1 c1, .slice A2 n2 c2, .slice A3 n3 c3] 30)
  have hp5 : (w.alloc (.cells #[.int .i64 W, .int .i64 H, .slice A n c, .slice A0 n0 c0, .int .i64 K, .slice A1 n1 c1, .slice A2 n2 c2, .slice A3 n3 c3] 30)).cell? ⟨w.heap.size, 5, none⟩ = some (.slice A1 n1 c1) := by rw [World.cell?_alloc_at _ _ _ _ rfl]; rfl
  have hps : w.heap.size < (w.alloc (.cells #[.int .i64 W, .int .i64 H, .slice A n c, .slice A0 n0 c0, .int .i64 K, .slice A1 n1 c1, .slice A2 n2 c2, .slice A3 n3 c3] 30)).heap.size := by simp
  go_enter Try.func5, Try.ntmps5
  go_upto_region 1 with fail
  generalize w.alloc (.cells #[.int .i64 W, .int .i64 H, .slice A n c, .slice A0 n0 c0, .int .i64 K, .slice A1 n1 c1, .slice A2 n2 c2, .slice A3 n3 c3] 30) = w0 at *
  have hrZ := (reads_new w0 (nums .u8 zero9) 5 (0, 0) 9 rfl)
  go_wp2_with fail
  generalize hW0 : (w0.alloc (.cells #[.int .u8 0, .int .u8 0, .int .u8 0, .int .u8 0, .int .u8 0, .int .u8 0, .int .u8 0, .int .u8 0, .int .u8 0] 5)).alloc (.cells #[.int .i64 3, .int .i64 3, .slice (some ⟨w0.heap.size, 0, none⟩) 9 9] 24) = W0
  have g0 : W0.cell? ⟨w0.heap.size + 1, 0, none⟩ = some (.int .i64 3) := by rw [← hW0, World.cell?_alloc_at _ _ _ _ (by simp)]; rfl
  have g1 : W0.cell? ⟨w0.heap.size + 1, 1, none⟩ = some (.int .i64 3) := by rw [← hW0, World.cell?_alloc_at _ _ _ _ (by simp)]; rfl
  have g2 : W0.cell? ⟨w0.heap.size + 1, 2, none⟩ = some (.slice (some ⟨w0.heap.size, 0, none⟩) 9 9) := by rw [← hW0, World.cell?_alloc_at _ _ _ _ (by simp)]; rfl
  have gs : w0.heap.size + 1 < W0.heap.size := by rw [← hW0]; simp
  have hBW : Below w0.heap.size w0 W0 := by rw [← hW0]; exact ((Below.refl _ _).alloc (Nat.le_refl _) _).alloc (by simp) _
  have hZ : Reads W0 W0.heap.size 1 (some ⟨w0.heap.size, 0, none⟩) 9 (nums .u8 zero9) := by
    rw [← hW0]
    exact (hrZ.alloc (by simp) _).more (by simp)
  have hp5 := (hBW.cell (p := ⟨w.heap.size, 5, none⟩) hps).trans hp5
  have hps0 : w.heap.size < W0.heap.size := Nat.lt_of_lt_of_le hps hBW.size
  have hB := hB0.trans (hBW.mono hB0.size)
  clear hW0 hrZ hBW hB0 hmk
  generalize w0.heap.size + 1 = g at *
  generalize w0.heap.size = gz at *
  have MEE := Lib.hid (fun (t x y r : Int) (W' : World) (h : Below W0.heap.size W0 W') => disc_meets 3 3 t x y r (some ⟨gz, 0, none⟩) 9 9 W'.heap.size zero9 W' ((hZ.below h).more h.size) (Nat.le_refl _) (by intro x hx; simp [zero9] at hx; omega))
  clear hZ
  go_loopw [5] (fun i wr => ∃ (t : Nat), t ≤ 9 ∧ i = .int .i64 t ∧ Below W0.heap.size W0 wr) (fun i _ => 9 - (intOf i).toNat)
  case atStart => exact ⟨0, by omega, rfl, Below.refl _ _⟩
  case round =>
    obtain ⟨t, ht9, rfl, hbt⟩ := hrel
    by_cases hlt : t < 9
    · have hF := touch_fin ⟨t, hlt⟩
      simp only at hF
      obtain ⟨F0, F1, F2, F3, F4, F5, F6, F7, F8, F9⟩ := hF
      have ME := MEE.out (t : Int)
      generalize hX : (t : Int) % 3 * 65536 = X at *
      generalize hY : (t : Int) / 3 * 65536 = Y at *
      have bX : 0 ≤ X ∧ X ≤ 131072 := by omega
      have bY : 0 ≤ Y ∧ Y ≤ 131072 := by omega
      have FF := Lib.hid (And.intro F0 (And.intro F1 (And.intro F2 (And.intro F3 (And.intro F4 (And.intro F5 (And.intro F6 (And.intro F7 (And.intro F8 F9)))))))))
      clear F0 F1 F2 F3 F4 F5 F6 F7 F8 F9
      go_wp2_with fail
      rw [show decide ((t : Int) < 9) = true from decide_eq_true (by omega)]
      go_loopw [8] (fun i wr => ∃ (k : Nat), k ≤ 4 ∧ i = .int .i64 k ∧ Below W0.heap.size W0 wr) (fun i _ => 4 - (intOf i).toNat)
      case atStart => exact ⟨0, by omega, rfl, hbt⟩
      case round =>
        clear hbt
        obtain ⟨k, hk4, rfl, hbt⟩ := hrel
        obtain ⟨F0, F1, F2, F3, F4, F5, F6, F7, F8, F9⟩ := FF.out
        by_cases hlk : k < 4
        · have hgr := Nat.lt_of_lt_of_le gs hbt.size
          rcases (show k = 0 ∨ k = 1 ∨ k = 2 ∨ k = 3 by omega) with rfl | rfl | rfl | rfl
          · have M1 := fun W' h => ME (X - 32768) (Y + 9) 32768 W' h
            have M2 := fun W' h => ME (X - 32768 + 1) (Y + 9) 32768 W' h
            rw [F0] at M1
            rw [F1] at M2
            have M1 := Lib.hid M1
            have M2 := Lib.hid M2
            clear F0 F1 F2 F3 F4 F5 F6 F7 F8 F9 ME
            go_upto_region 12 with fail
            generalize hW4 : (((wr.alloc _).alloc _).alloc _).alloc _ = W4
            have QA : BoxQ (wr.heap.size + 1) (X - 32768) (Y + 9) W4 := by rw [← hW4]; exact four_first wr
            have QB : BoxQ (wr.heap.size + 1 + 1 + 1) (1) (0) W4 := by rw [← hW4]; exact four_last wr
            have hbt4 : Below W0.heap.size W0 W4 := by rw [← hW4]; exact hbt.trans ((four_below wr _ _ _ _).mono hbt.size)
            clear hW4
            generalize wr.heap.size + 1 + 1 + 1 = gB at *
            generalize wr.heap.size + 1 = gA at *
            have z0 := (hbt4.cell (p := ⟨g, 0, none⟩) gs).trans g0
            have z1 := (hbt4.cell (p := ⟨g, 1, none⟩) gs).trans g1
            have z2 := (hbt4.cell (p := ⟨g, 2, none⟩) gs).trans g2
            obtain ⟨q0, q1, q2, q3⟩ := id QA
            go_wp2_with fail
            refine Calls.mono (M1.out _ hbt4) ?_
            rintro e w5 ⟨rfl, hb5⟩
            have hbt5 := hbt4.trans (hb5.mono hbt4.size)
            have QA5 := QA.next hb5
            have QB5 := QB.next hb5
            clear z0 z1 z2 q0 q1 q2 q3 QA QB hb5
            have z0 := (hbt5.cell (p := ⟨g, 0, none⟩) gs).trans g0
            have z1 := (hbt5.cell (p := ⟨g, 1, none⟩) gs).trans g1
            have z2 := (hbt5.cell (p := ⟨g, 2, none⟩) gs).trans g2
            obtain ⟨q0, q1, q2, q3⟩ := id QA5
            obtain ⟨r0, r1, r2, r3⟩ := id QB5
            go_wp2_with fail
            refine Calls.mono (M2.out _ hbt5) ?_
            rintro e w6 ⟨rfl, hb6⟩
            have hbt6 := hbt5.trans (hb6.mono hbt5.size)
            clear z0 z1 z2 q0 q1 q2 q3 r0 r1 r2 r3
            go_wp2_with (go_at_call 20; (with_reducible refine (num17 _ _).mono ?_); rintro e w19 ⟨rfl, rfl⟩)
            go_roundw
            case rel => (first | exact ⟨0 + 1, by omega, by go_num, hbt6⟩ | ((repeat apply Exists.intro); exact ⟨⟨0 + 1, by omega, by go_num, hbt6⟩, rfl⟩) | ((repeat apply Exists.intro); exact ⟨⟨0 + 1, by omega, rfl, hbt6⟩, rfl⟩))
            case measure => simp [intOf]
          · have M1 := fun W' h => ME (X + 65536 + 32768) (Y + 9) 32768 W' h
            have M2 := fun W' h => ME (X + 65536 + 32768 + -1) (Y + 9) 32768 W' h
            rw [F2] at M1
            rw [F3] at M2
            have M1 := Lib.hid M1
            have M2 := Lib.hid M2
            clear F0 F1 F2 F3 F4 F5 F6 F7 F8 F9 ME
            go_upto_region 12 with fail
            generalize hW4 : (((wr.alloc _).alloc _).alloc _).alloc _ = W4
            have QA : BoxQ (wr.heap.size + 1) (X + 65536 + 32768) (Y + 9) W4 := by rw [← hW4]; exact four_first wr
            have QB : BoxQ (wr.heap.size + 1 + 1 + 1) (-1) (0) W4 := by rw [← hW4]; exact four_last wr
            have hbt4 : Below W0.heap.size W0 W4 := by rw [← hW4]; exact hbt.trans ((four_below wr _ _ _ _).mono hbt.size)
            clear hW4
            generalize wr.heap.size + 1 + 1 + 1 = gB at *
            generalize wr.heap.size + 1 = gA at *
            have z0 := (hbt4.cell (p := ⟨g, 0, none⟩) gs).trans g0
            have z1 := (hbt4.cell (p := ⟨g, 1, none⟩) gs).trans g1
            have z2 := (hbt4.cell (p := ⟨g, 2, none⟩) gs).trans g2
            obtain ⟨q0, q1, q2, q3⟩ := id QA
            go_wp2_with fail
            refine Calls.mono (M1.out _ hbt4) ?_
            rintro e w5 ⟨rfl, hb5⟩
            have hbt5 := hbt4.trans (hb5.mono hbt4.size)
            have QA5 := QA.next hb5
            have QB5 := QB.next hb5
            clear z0 z1 z2 q0 q1 q2 q3 QA QB hb5
            have z0 := (hbt5.cell (p := ⟨g, 0, none⟩) gs).trans g0
            have z1 := (hbt5.cell (p := ⟨g, 1, none⟩) gs).trans g1
            have z2 := (hbt5.cell (p := ⟨g, 2, none⟩) gs).trans g2
            obtain ⟨q0, q1, q2, q3⟩ := id QA5
            obtain ⟨r0, r1, r2, r3⟩ := id QB5
            go_wp2_with fail
            refine Calls.mono (M2.out _ hbt5) ?_
            rintro e w6 ⟨rfl, hb6⟩
            have hbt6 := hbt5.trans (hb6.mono hbt5.size)
            clear z0 z1 z2 q0 q1 q2 q3 r0 r1 r2 r3
            go_wp2_with (go_at_call 20; (with_reducible refine (num17 _ _).mono ?_); rintro e w19 ⟨rfl, rfl⟩)
            go_roundw
            case rel => (first | exact ⟨1 + 1, by omega, by go_num, hbt6⟩ | ((repeat apply Exists.intro); exact ⟨⟨1 + 1, by omega, by go_num, hbt6⟩, rfl⟩) | ((repeat apply Exists.intro); exact ⟨⟨1 + 1, by omega, rfl, hbt6⟩, rfl⟩))
            case measure => simp [intOf]
          · have M1 := fun W' h => ME (X + 9) (Y - 32768) 32768 W' h
            have M2 := fun W' h => ME (X + 9) (Y - 32768 + 1) 32768 W' h
            rw [F4] at M1
            rw [F5] at M2
            have M1 := Lib.hid M1
            have M2 := Lib.hid M2
            clear F0 F1 F2 F3 F4 F5 F6 F7 F8 F9 ME
            go_upto_region 12 with fail
            generalize hW4 : (((wr.alloc _).alloc _).alloc _).alloc _ = W4
            have QA : BoxQ (wr.heap.size + 1) (X + 9) (Y - 32768) W4 := by rw [← hW4]; exact four_first wr
            have QB : BoxQ (wr.heap.size + 1 + 1 + 1) (0) (1) W4 := by rw [← hW4]; exact four_last wr
            have hbt4 : Below W0.heap.size W0 W4 := by rw [← hW4]; exact hbt.trans ((four_below wr _ _ _ _).mono hbt.size)
            clear hW4
            generalize wr.heap.size + 1 + 1 + 1 = gB at *
            generalize wr.heap.size + 1 = gA at *
            have z0 := (hbt4.cell (p := ⟨g, 0, none⟩) gs).trans g0
            have z1 := (hbt4.cell (p := ⟨g, 1, none⟩) gs).trans g1
            have z2 := (hbt4.cell (p := ⟨g, 2, none⟩) gs).trans g2
            obtain ⟨q0, q1, q2, q3⟩ := id QA
            go_wp2_with fail
            refine Calls.mono (M1.out _ hbt4) ?_
            rintro e w5 ⟨rfl, hb5⟩
            have hbt5 := hbt4.trans (hb5.mono hbt4.size)
            have QA5 := QA.next hb5
            have QB5 := QB.next hb5
            clear z0 z1 z2 q0 q1 q2 q3 QA QB hb5
            have z0 := (hbt5.cell (p := ⟨g, 0, none⟩) gs).trans g0
            have z1 := (hbt5.cell (p := ⟨g, 1, none⟩) gs).trans g1
            have z2 := (hbt5.cell (p := ⟨g, 2, none⟩) gs).trans g2
            obtain ⟨q0, q1, q2, q3⟩ := id QA5
            obtain ⟨r0, r1, r2, r3⟩ := id QB5
            go_wp2_with fail
            refine Calls.mono (M2.out _ hbt5) ?_
            rintro e w6 ⟨rfl, hb6⟩
            have hbt6 := hbt5.trans (hb6.mono hbt5.size)
            clear z0 z1 z2 q0 q1 q2 q3 r0 r1 r2 r3
            go_wp2_with (go_at_call 20; (with_reducible refine (num17 _ _).mono ?_); rintro e w19 ⟨rfl, rfl⟩)
            go_roundw
            case rel => (first | exact ⟨2 + 1, by omega, by go_num, hbt6⟩ | ((repeat apply Exists.intro); exact ⟨⟨2 + 1, by omega, by go_num, hbt6⟩, rfl⟩) | ((repeat apply Exists.intro); exact ⟨⟨2 + 1, by omega, rfl, hbt6⟩, rfl⟩))
            case measure => simp [intOf]
          · have M1 := fun W' h => ME (X + 9) (Y + 65536 + 32768) 32768 W' h
            have M2 := fun W' h => ME (X + 9) (Y + 65536 + 32768 + -1) 32768 W' h
            rw [F6] at M1
            rw [F7] at M2
            have M1 := Lib.hid M1
            have M2 := Lib.hid M2
            clear F0 F1 F2 F3 F4 F5 F6 F7 F8 F9 ME
            go_upto_region 12 with fail
            generalize hW4 : (((wr.alloc _).alloc _).alloc _).alloc _ = W4
            have QA : BoxQ (wr.heap.size + 1) (X + 9) (Y + 65536 + 32768) W4 := by rw [← hW4]; exact four_first wr
            have QB : BoxQ (wr.heap.size + 1 + 1 + 1) (0) (-1) W4 := by rw [← hW4]; exact four_last wr
            have hbt4 : Below W0.heap.size W0 W4 := by rw [← hW4]; exact hbt.trans ((four_below wr _ _ _ _).mono hbt.size)
            clear hW4
            generalize wr.heap.size + 1 + 1 + 1 = gB at *
            generalize wr.heap.size + 1 = gA at *
            have z0 := (hbt4.cell (p := ⟨g, 0, none⟩) gs).trans g0
            have z1 := (hbt4.cell (p := ⟨g, 1, none⟩) gs).trans g1
            have z2 := (hbt4.cell (p := ⟨g, 2, none⟩) gs).trans g2
            obtain ⟨q0, q1, q2, q3⟩ := id QA
            go_wp2_with fail
            refine Calls.mono (M1.out _ hbt4) ?_
            rintro e w5 ⟨rfl, hb5⟩
            have hbt5 := hbt4.trans (hb5.mono hbt4.size)
            have QA5 := QA.next hb5
            have QB5 := QB.next hb5
            clear z0 z1 z2 q0 q1 q2 q3 QA QB hb5
            have z0 := (hbt5.cell (p := ⟨g, 0, none⟩) gs).trans g0
            have z1 := (hbt5.cell (p := ⟨g, 1, none⟩) gs).trans g1
            have z2 := (hbt5.cell (p := ⟨g, 2, none⟩) gs).trans g2
            obtain ⟨q0, q1, q2, q3⟩ := id QA5
            obtain ⟨r0, r1, r2, r3⟩ := id QB5
            go_wp2_with fail
            refine Calls.mono (M2.out _ hbt5) ?_
            rintro e w6 ⟨rfl, hb6⟩
            have hbt6 := hbt5.trans (hb6.mono hbt5.size)
            clear z0 z1 z2 q0 q1 q2 q3 r0 r1 r2 r3
            go_wp2_with (go_at_call 20; (with_reducible refine (num17 _ _).mono ?_); rintro e w19 ⟨rfl, rfl⟩)
            go_roundw
            case rel => (first | exact ⟨3 + 1, by omega, by go_num, hbt6⟩ | ((repeat apply Exists.intro); exact ⟨⟨3 + 1, by omega, by go_num, hbt6⟩, rfl⟩) | ((repeat apply Exists.intro); exact ⟨⟨3 + 1, by omega, rfl, hbt6⟩, rfl⟩))
            case measure => simp [intOf]
        · have M1 := fun W' h => ME (X - 3) (Y - 4) 5 W' h
          have M2 := fun W' h => ME (X - 3) (Y - 4) 6 W' h
          rw [F8] at M1
          rw [F9] at M2
          have M1 := Lib.hid M1
          have M2 := Lib.hid M2
          clear F0 F1 F2 F3 F4 F5 F6 F7 F8 F9 ME
          have z0 := (hbt.cell (p := ⟨g, 0, none⟩) gs).trans g0
          have z1 := (hbt.cell (p := ⟨g, 1, none⟩) gs).trans g1
          have z2 := (hbt.cell (p := ⟨g, 2, none⟩) gs).trans g2
          go_wp2_with fail
          refine Calls.mono (M1.out _ hbt) ?_
          rintro e w5 ⟨rfl, hb5⟩
          have hbt5 := hbt.trans (hb5.mono hbt.size)
          clear z0 z1 z2 hb5
          have z0 := (hbt5.cell (p := ⟨g, 0, none⟩) gs).trans g0
          have z1 := (hbt5.cell (p := ⟨g, 1, none⟩) gs).trans g1
          have z2 := (hbt5.cell (p := ⟨g, 2, none⟩) gs).trans g2
          go_wp2_with fail
          refine Calls.mono (M2.out _ hbt5) ?_
          rintro e w6 ⟨rfl, hb6⟩
          have hbt6 := hbt5.trans (hb6.mono hbt5.size)
          clear z0 z1 z2
          go_wp2_with (go_at_call 20; (with_reducible refine (num17 _ _).mono ?_); rintro e w19 ⟨rfl, rfl⟩)
          go_roundw
          case rel => exact ⟨t + 1, by omega, by go_num, hbt6⟩
          case measure => simp [intOf]; omega
    · have D1 := fun W' => disc_apart 0 0 32768 65536 0 32768 W' (by omega) (by omega) (by omega) (by omega)
      have D2 := fun W' => disc_apart 0 0 32768 65535 0 32768 W' (by omega) (by omega) (by omega) (by omega)
      have D3 := fun W' => disc_apart 0 0 32768 65536 0 32769 W' (by omega) (by omega) (by omega) (by omega)
      rw [touch_d1] at D1
      rw [touch_d2] at D2
      rw [touch_d3] at D3
      have D1 := Lib.hid D1
      have D2 := Lib.hid D2
      have D3 := Lib.hid D3
      have HK := Lib.hid (fun W' => wakes17 W')
      have hbw := hB.trans (hbt.mono hB.size)
      go_wp2_with fail
      refine Calls.mono (D1.out _) ?_
      rintro e w5 ⟨rfl, hb5⟩
      have hbt5 := hbt.trans (hb5.mono hbt.size)
      go_wp2_with fail
      refine Calls.mono (D2.out _) ?_
      rintro e w6 ⟨rfl, hb6⟩
      have hbt6 := hbt5.trans (hb6.mono hbt5.size)
      go_wp2_with fail
      refine Calls.mono (D3.out _) ?_
      rintro e w7 ⟨rfl, hb7⟩
      have hbt7 := hbt6.trans (hb7.mono hbt6.size)
      have z5 := (hbt7.cell (p := ⟨w.heap.size, 5, none⟩) hps0).trans hp5
      have hn0 : (0 : Int) ≤ (n1 : Int) := by omega
      go_wp2_with fail
      refine Calls.mono (HK.out _) ?_
      rintro e w8 ⟨rfl, hb8⟩
      have hbt8 := hbt7.trans (hb8.mono hbt7.size)
      go_wp2
      go_ret
      exact ⟨rfl, hB.trans (hbt8.mono hB.size)⟩
end lawDiscTouches
end Go.Proofs.Ytjbnpgjndohjcaa
