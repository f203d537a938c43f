/- The walk of the law DiscAparts. -/
import Derived.Test.YtjbnpgjndohjcaaDiscMeet
import Derived.Test.YtjbnpgjndohjcaaDiscOpen
namespace Go.Proofs.Ytjbnpgjndohjcaa
set_option maxRecDepth 20000
open Go.RowKit Go.WideShapes Go.ChangeShapes

/-- The Ask's box behind a call: places, radiuses. -/
theorem keep17 {w wa wb : World} {A2 A3 : Option Addr} {n2 c2 n3 c3 : Nat} (h : wa.cell? ⟨w.heap.size, 6, none⟩ = some (.slice A2 n2 c2) ∧ wa.cell? ⟨w.heap.size, 7, none⟩ = some (.slice A3 n3 c3) ∧ w.heap.size < wa.heap.size ∧ Below w.heap.size w wa) (hb : Below wa.heap.size wa wb) :
    wb.cell? ⟨w.heap.size, 6, none⟩ = some (.slice A2 n2 c2) ∧ wb.cell? ⟨w.heap.size, 7, none⟩ = some (.slice A3 n3 c3) ∧ w.heap.size < wb.heap.size ∧ Below w.heap.size w wb := by
  obtain ⟨h0, h1, hg, hw⟩ := h
  exact ⟨(hb.cell (p := ⟨w.heap.size, 6, none⟩) hg).trans h0, (hb.cell (p := ⟨w.heap.size, 7, none⟩) hg).trans h1, Nat.lt_of_lt_of_le hg hb.size, hw.trans (hb.mono hw.size)⟩
namespace lawDiscAparts
set_option maxHeartbeats 3200000 in
set_option maxRecDepth 100000 in
theorem walk {H : Type} {enc : TypeId × Value → H} (w : World) {base : Nat} (v : Value) (d : DataW H) (p : List MemPlace) (hv : Value.okWide Try.prog w .any base 30 v)
    (ht : DataW.Trod enc Try.prog w 0 (fun _ => true) true 30 v d p) : Calls Try.prog 4 #[v] w fun e w' => e = .returned (.bool true) ∧ Below w.heap.size w w' := by
  obtain ⟨W, H, K, A, n, c, l, A0, n0, c0, A1, n1, c1, l1, A2, n2, c2, l2, A3, n3, c3, l3, rfl, hr, hl, ⟨hnc, hcm⟩, ⟨hnc0, hcm0⟩, hr1, ⟨hnc1, hcm1⟩, hv2, ⟨hnc2, hcm2⟩, hr3, hl3, ⟨hnc3, hcm3⟩⟩ := open_ask17 hv ht
  clear hv ht hr hl hr1
  unfold maxLen at hcm hcm0 hcm1 hcm2 hcm3
  by_cases hh : light n n0 n1 n2 n3
  · have HV := Lib.hid (fun W' => heavy17 W H K A A0 A1 A2 A3 n c n0 c0 n1 c1 n2 c2 n3 c3 W' false (by simp [hh]))
    obtain ⟨_, _, hn2, hn3⟩ := hh
    go_enter Try.func4, Try.ntmps4
    go_wp2_with fail
    refine Calls.mono (HV.out _) ?_
    rintro e w1 ⟨rfl, hb1⟩
    have S1 : w1.cell? ⟨w.heap.size, 6, none⟩ = some (.slice A2 n2 c2) ∧ w1.cell? ⟨w.heap.size, 7, none⟩ = some (.slice A3 n3 c3) ∧ w.heap.size < w1.heap.size ∧ Below w.heap.size w w1 := by
      refine ⟨?_, ?_, ?_, ((Below.refl _ _).alloc (Nat.le_refl _) _).trans (hb1.mono (by simp))⟩
      · rw [hb1.cell (p := ⟨w.heap.size, 6, none⟩) (by simp), World.cell?_alloc_at _ _ _ _ rfl]; rfl
      · rw [hb1.cell (p := ⟨w.heap.size, 7, none⟩) (by simp), World.cell?_alloc_at _ _ _ _ rfl]; rfl
      · have := hb1.size; simp at this; omega
    clear hb1 HV hcm hcm0 hcm1 hnc hnc0 hnc1
    go_wp2_with fail
    go_loopw [3] (fun i wr => ∃ (k : Nat), k ≤ n2 ∧ i = .int .i64 k ∧ wr.cell? ⟨w.heap.size, 6, none⟩ = some (.slice A2 n2 c2) ∧ wr.cell? ⟨w.heap.size, 7, none⟩ = some (.slice A3 n3 c3) ∧ w.heap.size < wr.heap.size ∧ Below w.heap.size w wr) (fun i _ => n2 - (intOf i).toNat)
    case atStart => exact ⟨0, Nat.zero_le _, rfl, S1⟩
    case round =>
      clear S1
      obtain ⟨k, hk, rfl, SR⟩ := hrel
      obtain ⟨z0, z1, z2, z3⟩ := id SR
      by_cases hlt : k < n2 ∧ k < n3
      · obtain ⟨hlt, hlt3⟩ := hlt
        go_wp2_with fail
        clear z0 z1 z2 z3
        go_loopw [4] (fun i wr => ∃ (j : Nat), j ≤ n2 ∧ i = .int .i64 j ∧ wr.cell? ⟨w.heap.size, 6, none⟩ = some (.slice A2 n2 c2) ∧ wr.cell? ⟨w.heap.size, 7, none⟩ = some (.slice A3 n3 c3) ∧ w.heap.size < wr.heap.size ∧ Below w.heap.size w wr) (fun i _ => n2 - (intOf i).toNat)
        case atStart => exact ⟨0, Nat.zero_le _, rfl, SR⟩
        case round =>
          clear SR
          obtain ⟨j, hj, rfl, SR⟩ := hrel
          obtain ⟨z0, z1, z2, z3⟩ := id SR
          by_cases hlj : j < n2 ∧ j < n3
          · obtain ⟨hlj, hlj3⟩ := hlj
            obtain ⟨b, o, rfl, hb, ha1, ha2, ⟨x0, x1⟩, ⟨y0, y1⟩⟩ := (hv2.below z3).2 k hlt
            obtain ⟨b', o', e', hb', hc1, hc2, ⟨p0, p1⟩, ⟨q0, q1⟩⟩ := (hv2.below z3).2 j hlj
            simp only [Option.some.injEq, Addr.mk.injEq, and_true] at e'
            obtain ⟨rfl, rfl⟩ := e'
            obtain ⟨hll, b3, o3, rfl, hb3, hd1⟩ := (hr3.below z3).num hlt3
            obtain ⟨_, b4, o4, e4, _, hd2⟩ := (hr3.below z3).num hlj3
            simp only [Option.some.injEq, Addr.mk.injEq, and_true] at e4
            obtain ⟨rfl, rfl⟩ := e4
            have hb3 : b3 < wr.heap.size := Nat.lt_of_lt_of_le hb3 z3.size
            have ki : (k : Int) < (n2 : Int) := by omega
            have ki3 : (k : Int) < (n3 : Int) := by omega
            have ki0 : (0 : Int) ≤ (k : Int) := by omega
            have ji : (j : Int) < (n2 : Int) := by omega
            have ji3 : (j : Int) < (n3 : Int) := by omega
            have ji0 : (0 : Int) ≤ (j : Int) := by omega
            clear hll
            generalize (l2.getD k (0, 0)).1 = x at *
            generalize (l2.getD k (0, 0)).2 = y at *
            generalize (l2.getD j (0, 0)).1 = p at *
            generalize (l2.getD j (0, 0)).2 = q at *
            generalize l3.getD k 0 = r at *
            generalize l3.getD j 0 = s at *
            have M1 := fun W' => disc_apart x y r p q s W' x1 y1 p1 q1
            have M2 := fun W' => ref_apart x y r p q s W' x1 y1 p1 q1
            have M3 := fun W' => disc_apart p q s x y r W' p1 q1 x1 y1
            rw [vwithin_sym x1 y1 p1 q1, Int.add_comm (rndV s)] at M3
            generalize (!vwithin x y p q (rndV r + rndV s)) = B at *
            have M1 := Lib.hid M1
            have M2 := Lib.hid M2
            have M3 := Lib.hid M3
            cases B
            all_goals
              have N1 := Lib.hid (fun u => calls_over (x := u) (M1.out (over wr u)))
              go_wp2_with fail
              refine wp_region_over (by kernel_rfl) (by kernel_rfl) ?_
              repeat (go_big_quiet_step (first | (go_at_call 22; with_reducible exact N1.out _)))
              refine wpQuiet_nil ?_
              rintro wq ⟨xq, rfl⟩
              have hq := over_below wr xq
              generalize over wr xq = wq at *
              have SQ := keep17 SR hq
              have ha1 := (hq.cell (p := ⟨b, o + k * 2, none⟩) hb).trans ha1
              have ha2 := (hq.cell (p := ⟨b, o + k * 2 + 1, none⟩) hb).trans ha2
              have hc1 := (hq.cell (p := ⟨b, o + j * 2, none⟩) hb).trans hc1
              have hc2 := (hq.cell (p := ⟨b, o + j * 2 + 1, none⟩) hb).trans hc2
              have hd1 := (hq.cell (p := ⟨b3, o3 + k, none⟩) hb3).trans hd1
              have hd2 := (hq.cell (p := ⟨b3, o3 + j, none⟩) hb3).trans hd2
              have hb := Nat.lt_of_lt_of_le hb hq.size
              have hb3 := Nat.lt_of_lt_of_le hb3 hq.size
              clear z0 z1 z2 z3 SR hq N1
              obtain ⟨z0, z1, z2, z3⟩ := id SQ
              have N1 := Lib.hid (fun u => calls_over (x := u) (M2.out (over wq u)))
              have N2 := Lib.hid (fun u => calls_over (x := u) (M3.out (over wq u)))
              go_wp2_with fail
              refine wp_region_over (by kernel_rfl) (by kernel_rfl) ?_
              repeat (go_big_quiet_step (first | (go_at_call 22; with_reducible exact N2.out _) | (go_at_call 23; with_reducible exact N1.out _)))
              refine wpQuiet_nil ?_
              rintro wp ⟨xp, rfl⟩
              have hq := over_below wq xp
              generalize over wq xp = wp at *
              have SP := keep17 SQ hq
              go_wp2
              go_roundw
              case rel => exact ⟨j + 1, by omega, by go_num, SP⟩
              case measure => simp [intOf]; omega
          · rcases (show n2 ≤ j ∨ (j < n2 ∧ n3 ≤ j) by omega) with f1 | ⟨f1, f2⟩
            all_goals
              go_wp2
              go_roundw
              case rel => exact ⟨k + 1, by omega, by go_num, SR⟩
              case measure => simp [intOf]; omega
      · rcases (show n2 ≤ k ∨ (k < n2 ∧ n3 ≤ k) by omega) with f1 | ⟨f1, f2⟩
        all_goals
          have HK := Lib.hid (fun W' => wakes17 W')
          go_wp2_with fail
          refine Calls.mono (HK.out _) ?_
          rintro e w2 ⟨rfl, hb2⟩
          go_wp2
          go_ret
          exact ⟨rfl, z3.trans (hb2.mono z3.size)⟩
  · have HV := Lib.hid (fun W' => heavy17 W H K A A0 A1 A2 A3 n c n0 c0 n1 c1 n2 c2 n3 c3 W' true (by simp [hh]))
    clear hh
    go_enter Try.func4, Try.ntmps4
    go_wp2_with fail
    refine Calls.mono (HV.out _) ?_
    rintro e w1 ⟨rfl, hb1⟩
    go_wp2
    go_ret
    exact ⟨rfl, ((Below.refl _ _).alloc (Nat.le_refl _) _).trans (hb1.mono (by simp))⟩
end lawDiscAparts
end Go.Proofs.Ytjbnpgjndohjcaa
