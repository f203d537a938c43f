/- The walk of the law WireBounds. -/
import Derived.Test.YtpklgghppmlklaaWireRawsWalk
import Derived.Test.YtpklgghppmlklaaWireBoundsMath
namespace Go.Proofs.Ytpklgghppmlklaa
open Go.RowKit Go.WideShapes Go.ChangeShapes

namespace lawWireBounds
set_option maxHeartbeats 3200000 in
set_option maxRecDepth 100000 in
theorem walk {H : Type} {enc : TypeId × Value → H} (w : World) {base : Nat} (v : Value) (d : DataW H) (p : List MemPlace) (hv : Value.okWide Try.prog w .any base 35 v)
    (ht : DataW.Trod enc Try.prog w 0 (fun _ => true) true 35 v d p) : Calls Try.prog 10 #[v] w fun e w' => e = .returned (.bool true) ∧ Below w.heap.size w w' := by
  obtain ⟨A, n, c, rfl, hnc, hcm, ha⟩ := open_asks4 hv ht
  unfold maxLen at hcm
  clear hv ht ha
  go_enter Try.func10, Try.ntmps10
  go_wp2
  go_loopw [3] (fun i wr => ∃ (k : Nat), k ≤ 63 ∧ i = .int .i64 k ∧ Below w.heap.size w wr) (fun i _ => 63 - (intOf i).toNat)
  case atStart => exact ⟨0, by omega, rfl, Below.refl _ _⟩
  case round =>
    obtain ⟨k, hk, rfl, hbl⟩ := hrel
    by_cases hlt : k < 63
    · have hk0 : (0 : Int) ≤ (k : Int) := by omega
      have hk1 : (k : Int) < 63 := by omega
      obtain ⟨p0, p1, p2, p3⟩ := pow63 hlt
      have hL1 : (put ((2 : Int) ^ k - 1).toNat).length = max 1 ((k + 6) / 7) := by rw [p3]; exact put_pow1
      have hL2 : (put ((2 : Int) ^ k).toNat).length = k / 7 + 1 := by rw [p2]; exact put_pow
      clear p2 p3
      generalize hT : (2 : Int) ^ k = T at *
      have e1 : wrap64 ((2 : Int) ^ k) = T := by rw [hT]; exact IntWalk.wrap64_in _ (by omega)
      clear hT
      have C1 := fun W => wire_num (T - 1) W (by omega)
      have C2 := fun W => wire_num T W (by omega)
      rw [numR_pos (by omega)] at C1 C2
      have hm1 : max (1 : Int) (((k : Int) + 6) / 7) = ((put (T - 1).toNat).length : Int) := by rw [hL1]; omega
      have hm2 : (k : Int) / 7 + 1 = ((put T.toNat).length : Int) := by rw [hL2]; omega
      generalize put (T - 1).toNat = P1 at *
      generalize put T.toNat = P2 at *
      have C1 := Lib.hid C1
      have C2 := Lib.hid C2
      clear hL1 hL2
      go_wp2_with fail
      refine Calls.mono (C1.out _) ?_
      rintro e w1 ⟨A1, c1, rfl, hown1, hb1⟩
      go_wp2_with fail
      refine Calls.mono (C2.out _) ?_
      rintro e w2 ⟨A2, c2, rfl, hown2, hb2⟩
      clear e1 C1 C2
      generalize hN1 : P1.length = N1 at *
      generalize hN2 : P2.length = N2 at *
      clear hN1 hN2 hown1 hown2
      go_wp2_with (go_at_call 20; (with_reducible refine (num4 _ _).mono ?_); rintro e w19 ⟨rfl, rfl⟩)
      all_goals
        go_roundw
        case rel => exact ⟨k + 1, by omega, by go_num, hbl.trans ((hb1.trans (hb2.mono hb1.size)).mono hbl.size)⟩
        case measure => simp [intOf]; omega
    · go_wp2_with fail
      generalize hW2 : wr.alloc _ = W2
      have hcl : Hid (∀ j, j < 7 → W2.cell? ⟨wr.heap.size, j, none⟩ = some (.int .i64 (lowsL.getD j 0))) := fun j hj => by
        rw [← hW2, World.cell?_alloc_at _ _ _ _ rfl]
        rcases (show j = 0 ∨ j = 1 ∨ j = 2 ∨ j = 3 ∨ j = 4 ∨ j = 5 ∨ j = 6 by omega) with rfl | rfl | rfl | rfl | rfl | rfl | rfl <;> rfl
      have hb2 : Below w.heap.size w W2 := by rw [← hW2]; exact hbl.alloc hbl.size _
      have hg2 : wr.heap.size < W2.heap.size := by rw [← hW2]; simp
      clear hW2 hbl
      generalize wr.heap.size = g at *
      go_loopw [9] (fun i wr => ∃ (k : Nat), k ≤ 7 ∧ i = .int .i64 k ∧ Below W2.heap.size W2 wr) (fun i _ => 7 - (intOf i).toNat)
      case atStart => exact ⟨0, by omega, rfl, Below.refl _ _⟩
      case round =>
        obtain ⟨j, hj, rfl, hbj⟩ := hrel
        by_cases hlj : j < 7
        · have cj := (hbj.cell (p := ⟨g, j, none⟩) hg2).trans (hcl.out j hlj)
          obtain ⟨x0, x1⟩ := lows_in ⟨j, hlj⟩
          simp only at x0 x1
          have j0 : (0 : Int) ≤ (j : Int) := by omega
          have j1 : (j : Int) < 7 := by omega
          generalize lowsL.getD j 0 = x at *
          have C1 := fun W => wire_int x W (by omega) (by omega)
          rw [intR_in x0 x1] at C1
          have C1 := Lib.hid C1
          have h9 := put_nine (n := zig x) (by have := zig_lt x0 x1; omega)
          have G1 := Lib.hid (fun A c B W (hr : Reads W B 1 A (put (zig x)).length (nums .u8 (put (zig x)))) => (get_int A (put (zig x)).length c B (put (zig x)) W hr (put_bytes (zig x)) (by omega)).mono (gives3 (getI_all x0 x1)))
          generalize hP : put (zig x) = P at *
          clear hP
          go_wp2_with fail
          refine Calls.mono (C1.out _) ?_
          rintro e w1 ⟨A1, c1, rfl, hown1, hb1⟩
          have dj := (hb1.cell (p := ⟨g, j, none⟩) (Nat.lt_of_lt_of_le hg2 hbj.size)).trans cj
          go_wp2_with fail
          refine Calls.mono (G1.out _ _ _ _ (Reads.of_own hown1)) ?_
          rintro e w2 ⟨rfl, rfl⟩
          generalize hN : P.length = N at *
          have hme : ((N : Int) != (N : Int)) = false := by simp
          have hmx : (x != x) = false := by simp
          clear hown1 C1 G1 cj hN
          go_wp2_with (go_at_call 20; (with_reducible refine (num4 _ _).mono ?_); rintro e w19 ⟨rfl, rfl⟩)
          go_roundw
          case rel => exact ⟨j + 1, by omega, by go_num, hbj.trans (hb1.mono hbj.size)⟩
          case measure => simp [intOf]; omega
        · have hb3 := hb2.trans (hbj.mono hb2.size)
          clear hcl hb2 hbj hg2
          have C1 := fun W => wire_int 4611686018427387904 W (by omega) (by omega)
          have C2 := fun W => wire_int (-4611686018427387905) W (by omega) (by omega)
          rw [show intR 4611686018427387904 = ([], 2) from intR_out (by omega)] at C1
          rw [show intR (-4611686018427387905) = ([], 2) from intR_out (by omega)] at C2
          have G1 := Lib.hid (fun A c B W hr => (get_num A 2 c B [128, 0] W hr (by intro x hx; simp at hx; omega) (by omega)).mono (gives3 get_long))
          have G2 := Lib.hid (fun A c B W hr => (get_num A 9 c B [255, 255, 255, 255, 255, 255, 255, 255, 255] W hr (by intro x hx; simp at hx; omega) (by omega)).mono (gives3 get_nine))
          have G3 := Lib.hid (fun A c B W hr => (get_num A 8 c B [255, 255, 255, 255, 255, 255, 255, 255] W hr (by intro x hx; simp at hx; omega) (by omega)).mono (gives3 get_eight))
          have G4 := Lib.hid (fun W => (get_num none 0 0 0 [] W Reads.none_ (by intro x hx; simp at hx) (by omega)).mono (gives3 (get_nil 0 0)))
          have C3 := fun W => wire_num 1048577 W (by omega)
          rw [numR_pos (by omega), show (1048577 : Int).toNat = 1048577 from rfl] at C3
          have h9 := put_nine (n := 1048577) (by omega)
          have G5 := fun A c W (hr : Reads W W.heap.size 1 A (put 1048577).length (nums .u8 (put 1048577))) hnc hc => get_raw A (put 1048577).length c _ (put 1048577) W hr (Nat.le_refl _) (put_bytes 1048577) (by omega) hnc hc
          rw [getRaw_big] at G5
          generalize put 1048577 = P at *
          have C1 := Lib.hid C1
          have C2 := Lib.hid C2
          have C3 := Lib.hid C3
          have G5 := Lib.hid G5
          go_wp2_with fail
          refine Calls.mono (C1.out _) ?_
          rintro e w1 ⟨A1, c1, rfl, _, hb4⟩
          have hb5 := hb3.trans (hb4.mono hb3.size)
          go_wp2_with fail
          refine Calls.mono (C2.out _) ?_
          rintro e w2 ⟨A2, c2, rfl, _, hb6⟩
          have hb7 := hb5.trans (hb6.mono hb5.size)
          clear hb3 hb4 hb5 hb6 C1 C2
          go_wp2_with fail
          refine Calls.mono (G1.out _ _ _ _ (reads_new w2 (nums .u8 [128, 0]) 5 (0, 0) 2 rfl)) ?_
          rintro e w3 ⟨rfl, hw⟩
          have hb8 : Below w.heap.size w w3 := by rw [← hw]; exact hb7.alloc hb7.size _
          clear hw hb7 G1
          go_wp2_with fail
          refine Calls.mono (G2.out _ _ _ _ (reads_new w3 (nums .u8 [255, 255, 255, 255, 255, 255, 255, 255, 255]) 5 (0, 0) 9 rfl)) ?_
          rintro e w4 ⟨rfl, hw⟩
          have hb9 : Below w.heap.size w w4 := by rw [← hw]; exact hb8.alloc hb8.size _
          clear hw hb8 G2
          go_wp2_with fail
          refine Calls.mono (G3.out _ _ _ _ (reads_new w4 (nums .u8 [255, 255, 255, 255, 255, 255, 255, 255]) 5 (0, 0) 8 rfl)) ?_
          rintro e w5 ⟨rfl, hw⟩
          have hb10 : Below w.heap.size w w5 := by rw [← hw]; exact hb9.alloc hb9.size _
          clear hw hb9 G3
          go_wp2_with fail
          refine Calls.mono (G4.out _) ?_
          rintro e w6 ⟨rfl, rfl⟩
          go_wp2_with fail
          refine Calls.mono (C3.out _) ?_
          rintro e w7 ⟨A3, c3, rfl, hown, hb11⟩
          obtain ⟨hca, hcb⟩ := own_cap hown
          have hb12 := hb10.trans (hb11.mono hb10.size)
          clear hb10 hb11 C3
          go_wp2_with fail
          refine Calls.mono (G5.out _ _ _ (Reads.of_own hown) hca hcb) ?_
          rintro e w8 ⟨A4, c4, rfl, _, hb13⟩
          have hb14 := hb12.trans (hb13.mono hb12.size)
          clear hb12 hb13 G5 hown
          have hn0 : (0 : Int) ≤ (n : Int) := by omega
          go_wp2_with (first
            | (go_at_call 20; (with_reducible refine (num4 _ _).mono ?_); rintro e w19 ⟨rfl, rfl⟩)
            | (go_at_call 25; refine (wakes_wire _).mono ?_; rintro e w9 ⟨rfl, hb15⟩))
          go_ret
          exact ⟨rfl, hb14.trans (hb15.mono hb14.size)⟩
end lawWireBounds
end Go.Proofs.Ytpklgghppmlklaa
