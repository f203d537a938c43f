/- The walk of the law SlotsRings. -/
import Derived.Test.YtfgjiaakoacomaaRingsMath
import Derived.Test.YtfgjiaakoacomaaZrow
namespace Go.Proofs.Ytfgjiaakoacomaa
set_option maxRecDepth 20000
open Go.RowKit Go.WideShapes Go.ChangeShapes

namespace lawSlotsRings
theorem make_625 (w : World) : (Instr.makeSlice 22 (.int .i64 625) (.int .i64 625)).run Try.prog w = .ok (.slice (some ⟨w.heap.size, 0, none⟩) 625 625) (w.alloc (.cells (zrow 625) 5)) := by
  have := make_row 625 w (by omega)
  exact this
set_option maxHeartbeats 6400000 in
set_option maxRecDepth 100000 in
theorem walk {H : Type} {enc : TypeId × Value → H} (w : World) {base : Nat} (v : Value) (d : DataW H) (p : List MemPlace) (hv0 : Value.okWide Try.prog w .any base 50 v)
    (ht : DataW.Trod enc Try.prog w 0 (fun _ => true) true 50 v d p) : Calls Try.prog 10 #[v] w fun e w' => e = .returned (.bool true) ∧ Below w.heap.size w w' := by
  obtain ⟨W, H, A, n, c, ts, A1, n1, c1, l, k, s, A2, n2, c2, l2, A3, n3, c3, l3, rfl, hWr, hHr, hr, hby, hcc, hv, hcc1, hkr, hsr, hr2, hcc2, hr3, hcc3, hi2, hi3⟩ := open_ask20 hv0 ht
  clear hv0 ht hWr hHr hr hby hcc hv hcc1 hkr hsr hr2 hcc2 hr3 hcc3 hi2 hi3
  have hmk := make_625
  have hP := Blk.new w #[.int .i64 W, .int .i64 H, .slice A n c, .slice A1 n1 c1, .int .i64 k, .int .i64 s, .slice A2 n2 c2, .slice A3 n3 c3] 50
  have hb := (Below.refl w.heap.size w).alloc (Nat.le_refl _) (.cells #[.int .i64 W, .int .i64 H, .slice A n c, .slice A1 n1 c1, .int .i64 k, .int .i64 s, .slice A2 n2 c2, .slice A3 n3 c3] 50)
  have hT := own_made (w.alloc (.cells #[.int .i64 W, .int .i64 H, .slice A n c, .slice A1 n1 c1, .int .i64 k, .int .i64 s, .slice A2 n2 c2, .slice A3 n3 c3] 50)) 625 (by omega)
  have hba := (Below.refl (w.alloc (.cells #[.int .i64 W, .int .i64 H, .slice A n c, .slice A1 n1 c1, .int .i64 k, .int .i64 s, .slice A2 n2 c2, .slice A3 n3 c3] 50)).heap.size (w.alloc (.cells #[.int .i64 W, .int .i64 H, .slice A n c, .slice A1 n1 c1, .int .i64 k, .int .i64 s, .slice A2 n2 c2, .slice A3 n3 c3] 50))).alloc (Nat.le_refl _) (.cells (zrow 625) 5)
  have hG := Blk.new ((w.alloc (.cells #[.int .i64 W, .int .i64 H, .slice A n c, .slice A1 n1 c1, .int .i64 k, .int .i64 s, .slice A2 n2 c2, .slice A3 n3 c3] 50)).alloc (.cells (zrow 625) 5)) #[.int .i64 25, .int .i64 25, .slice (some ⟨w.heap.size + 1, 0, none⟩) 625 625] 24
  have hbb := (Below.refl ((w.alloc (.cells #[.int .i64 W, .int .i64 H, .slice A n c, .slice A1 n1 c1, .int .i64 k, .int .i64 s, .slice A2 n2 c2, .slice A3 n3 c3] 50)).alloc (.cells (zrow 625) 5)).heap.size ((w.alloc (.cells #[.int .i64 W, .int .i64 H, .slice A n c, .slice A1 n1 c1, .int .i64 k, .int .i64 s, .slice A2 n2 c2, .slice A3 n3 c3] 50)).alloc (.cells (zrow 625) 5))).alloc (Nat.le_refl _) (.cells #[.int .i64 25, .int .i64 25, .slice (some ⟨w.heap.size + 1, 0, none⟩) 625 625] 24)
  replace hP := (hP.below hba hP.lt).below hbb (Nat.lt_of_lt_of_le hP.lt hba.size)
  replace hT := own_below hT hbb
  replace hb := (hb.trans (hba.mono hb.size)).trans (hbb.mono (Nat.le_trans hb.size hba.size))
  rw [show ((w.alloc (.cells #[.int .i64 W, .int .i64 H, .slice A n c, .slice A1 n1 c1, .int .i64 k, .int .i64 s, .slice A2 n2 c2, .slice A3 n3 c3] 50)).alloc (.cells (zrow 625) 5)).heap.size = w.heap.size + 1 + 1 by simp] at hG
  rw [show (w.alloc (.cells #[.int .i64 W, .int .i64 H, .slice A n c, .slice A1 n1 c1, .int .i64 k, .int .i64 s, .slice A2 n2 c2, .slice A3 n3 c3] 50)).heap.size = w.heap.size + 1 by simp] at hT
  clear hba hbb
  go_enter Try.func10, Try.ntmps10
  go_wp2_with fail
  generalize ((w.alloc (.cells #[.int .i64 W, .int .i64 H, .slice A n c, .slice A1 n1 c1, .int .i64 k, .int .i64 s, .slice A2 n2 c2, .slice A3 n3 c3] 50)).alloc (.cells (zrow 625) 5)).alloc (.cells #[.int .i64 25, .int .i64 25, .slice (some ⟨w.heap.size + 1, 0, none⟩) 625 625] 24) = w1 at *
  generalize w.heap.size + 1 + 1 = gg at *
  generalize w.heap.size + 1 = gt at *
  clear hmk
  go_loopw [4] (fun zv wr => ∃ (z : Int), (z = 0 ∨ z = 1 ∨ z = 2) ∧ zv = .int .i64 z ∧ Blk wr w.heap.size #[.int .i64 W, .int .i64 H, .slice A n c, .slice A1 n1 c1, .int .i64 k, .int .i64 s, .slice A2 n2 c2, .slice A3 n3 c3] 50 ∧ Blk wr gg #[.int .i64 25, .int .i64 25, .slice (some ⟨gt, 0, none⟩) 625 625] 24 ∧ wr.ownsRow gt 5 1 (.slice (some ⟨gt, 0, none⟩) 625 625) 625 (nums .u8 (List.replicate 625 0)) ∧ Below w.heap.size w wr) (fun zv _ => (2 - intOf zv).toNat)
  case atStart => exact ⟨0, .inl rfl, rfl, hP, hG, hT, hb⟩
  case round =>
    clear hP hG hT hb
    obtain ⟨z, hz, rfl, hP, hG, hT, hb⟩ := hrel
    have y0 := hG.cell (i := 0) rfl
    have y1 := hG.cell (i := 1) rfl
    have y2 := hG.cell (i := 2) rfl
    have hrT := Reads.of_own hT
    rcases hz with rfl | rfl | rfl
    case inl =>
      have C := slots_find 25 25 0 0 25 (some ⟨gt, 0, none⟩) 625 625 wr.heap.size (List.replicate 625 0) none 0 0 [] wr hrT (Nat.le_refl _) (zero_bytes 625) (bds_none _) (by omega) ⟨plain_ok plain_25 ⟨by omega, by omega⟩, by omega, by omega⟩ 312 (by omega) (by omega) (by omega) _ room_25
      rw [rings_0] at C
      replace C : Calls Try.prog 30 #[.agg #[.int .i64 25, .int .i64 25, .slice (some ⟨gt, 0, none⟩) 625 625], .slice none 0 0, .int .i64 0, .int .i64 0, .int .i64 312, .int .i64 25] _ _ := C
      replace C := Lib.hid C
      clear hrT
      go_wp2_with fail
      refine Calls.mono C.out ?_
      rintro e w5 ⟨A5, c5, rfl, hO, hb5⟩
      clear C y0 y1 y2
      rw [show rings0.length = 25 from rfl] at hO ⊢
      have HP := Lib.hid (hP.below hb5 hP.lt)
      have HG := Lib.hid (hG.below hb5 hG.lt)
      have HT := Lib.hid (own_below hT hb5)
      have HB := Lib.hid (hb.trans (hb5.mono hb.size))
      have hrO := Reads.of_own hO
      obtain ⟨_, b5, o5, rfl, hbb5, hc5⟩ := hrO.num (show 0 < 25 by omega)
      rw [show rings0.getD 0 0 = 312 from rfl, Nat.add_zero] at hc5
      clear hP hG hT hb hb5 hO
      go_wp2_with fail
      refine Calls.mono (num20 _ _) ?_
      rintro e wn ⟨rfl, rfl⟩
      go_wp2_with fail
      clear hc5
      have HRO := Lib.hid hrO
      clear hrO
      go_loopw [8] (fun iv wx => ∃ (i : Nat), i ≤ 25 ∧ iv = .int .i64 (i : Int) ∧ Below w5.heap.size w5 wx) (fun iv _ => 25 - (intOf iv).toNat)
      case atStart => exact ⟨0, by omega, rfl, Below.refl _ _⟩
      case round =>
        obtain ⟨i, hi, rfl, hbl⟩ := hrel
        have HL := Lib.hid hbl
        clear hbl
        by_cases hi25 : i < 25
        case neg =>
          obtain rfl : i = 25 := by omega
          clear HRO hbb5
          go_wp2_with fail
          go_roundw
          case rel => exact ⟨1, .inr (.inl rfl), by go_num, HP.out.below HL.out HP.out.lt, HG.out.below HL.out HG.out.lt, own_below HT.out HL.out, HB.out.trans (HL.out.mono HB.out.size)⟩
          case measure => simp [intOf]
        have hiz : (i : Int) < 25 := by omega
        obtain ⟨_, b6, o6, he6, hbb6, hc6⟩ := (HRO.out.below HL.out).num hi25
        simp only [Option.some.injEq, Addr.mk.injEq, and_true] at he6
        obtain ⟨rfl, rfl⟩ := he6
        rcases (show i < 1 ∨ (1 ≤ i ∧ i < 9) ∨ 9 ≤ i by omega) with hw | ⟨hw, hw2⟩ | hw
        case inl =>
          have R := ring_at0 hi25 (show wantI i = 0 from by unfold wantI; rw [if_neg (by omega), if_neg (by omega)]) (show (0 : Int) * 1 = 0 from rfl)
          unfold ringP4 at R
          obtain ⟨v0, v1, hm, e1, e2⟩ := R
          generalize rings0.getD i 0 = v at *
          have hz1 : (i : Int) < 1 := by omega
          clear HRO
          go_wp2_with fail
          go_quiet (fail)
          have hx : -12 ≤ v % 25 - 12 ∧ v % 25 - 12 ≤ 12 := by omega
          have hy : -12 ≤ v / 25 - 12 ∧ v / 25 - 12 ≤ 12 := by omega
          clear hc6
          generalize v % 25 - 12 = dx at *
          generalize v / 25 - 12 = dy at *
          obtain ⟨hx0, hx1⟩ := hx
          obtain ⟨hy0, hy1⟩ := hy
          clear v0 v1
          go_wp2_with fail
          go_roundw
          case rel => exact ⟨i + 1, by omega, by go_num, below_drewN HL.out _⟩
          case measure => simp [intOf]; omega
        case inr.inl =>
          have R := ring_at0 hi25 (show wantI i = 1 from by unfold wantI; rw [if_neg (by omega), if_pos hw]) (show (1 : Int) * 1 = 1 from rfl)
          unfold ringP4 at R
          obtain ⟨v0, v1, hm, e1, e2⟩ := R
          generalize rings0.getD i 0 = v at *
          have hz1 : (1 : Int) ≤ (i : Int) := by omega
          have hz2 : (i : Int) < 9 := by omega
          clear HRO
          go_wp2_with fail
          go_quiet (fail)
          have hx : -12 ≤ v % 25 - 12 ∧ v % 25 - 12 ≤ 12 := by omega
          have hy : -12 ≤ v / 25 - 12 ∧ v / 25 - 12 ≤ 12 := by omega
          clear hc6
          generalize v % 25 - 12 = dx at *
          generalize v / 25 - 12 = dy at *
          obtain ⟨hx0, hx1⟩ := hx
          obtain ⟨hy0, hy1⟩ := hy
          clear v0 v1
          go_wp2_with fail
          go_roundw
          case rel => exact ⟨i + 1, by omega, by go_num, below_drewN HL.out _⟩
          case measure => simp [intOf]; omega
        case inr.inr =>
          have R := ring_at0 hi25 (show wantI i = 2 from by unfold wantI; rw [if_pos hw]) (show (2 : Int) * 1 = 2 from rfl)
          unfold ringP4 at R
          obtain ⟨v0, v1, hm, e1, e2⟩ := R
          generalize rings0.getD i 0 = v at *
          have hz1 : (9 : Int) ≤ (i : Int) := by omega
          clear HRO
          go_wp2_with fail
          go_quiet (fail)
          have hx : -12 ≤ v % 25 - 12 ∧ v % 25 - 12 ≤ 12 := by omega
          have hy : -12 ≤ v / 25 - 12 ∧ v / 25 - 12 ≤ 12 := by omega
          clear hc6
          generalize v % 25 - 12 = dx at *
          generalize v / 25 - 12 = dy at *
          obtain ⟨hx0, hx1⟩ := hx
          obtain ⟨hy0, hy1⟩ := hy
          clear v0 v1
          go_wp2_with fail
          go_roundw
          case rel => exact ⟨i + 1, by omega, by go_num, below_drewN HL.out _⟩
          case measure => simp [intOf]; omega
    case inr.inl =>
      have C := slots_find 25 25 0 1 25 (some ⟨gt, 0, none⟩) 625 625 wr.heap.size (List.replicate 625 0) none 0 0 [] wr hrT (Nat.le_refl _) (zero_bytes 625) (bds_none _) (by omega) ⟨plain_ok plain_25 ⟨by omega, by omega⟩, by omega, by omega⟩ 312 (by omega) (by omega) (by omega) _ room_25
      rw [rings_1] at C
      replace C : Calls Try.prog 30 #[.agg #[.int .i64 25, .int .i64 25, .slice (some ⟨gt, 0, none⟩) 625 625], .slice none 0 0, .int .i64 0, .int .i64 1, .int .i64 312, .int .i64 25] _ _ := C
      replace C := Lib.hid C
      clear hrT
      go_wp2_with fail
      refine Calls.mono C.out ?_
      rintro e w5 ⟨A5, c5, rfl, hO, hb5⟩
      clear C y0 y1 y2
      rw [show rings1.length = 25 from rfl] at hO ⊢
      have HP := Lib.hid (hP.below hb5 hP.lt)
      have HG := Lib.hid (hG.below hb5 hG.lt)
      have HT := Lib.hid (own_below hT hb5)
      have HB := Lib.hid (hb.trans (hb5.mono hb.size))
      have hrO := Reads.of_own hO
      obtain ⟨_, b5, o5, rfl, hbb5, hc5⟩ := hrO.num (show 0 < 25 by omega)
      rw [show rings1.getD 0 0 = 312 from rfl, Nat.add_zero] at hc5
      clear hP hG hT hb hb5 hO
      go_wp2_with fail
      refine Calls.mono (num20 _ _) ?_
      rintro e wn ⟨rfl, rfl⟩
      go_wp2_with fail
      clear hc5
      have HRO := Lib.hid hrO
      clear hrO
      go_loopw [8] (fun iv wx => ∃ (i : Nat), i ≤ 25 ∧ iv = .int .i64 (i : Int) ∧ Below w5.heap.size w5 wx) (fun iv _ => 25 - (intOf iv).toNat)
      case atStart => exact ⟨0, by omega, rfl, Below.refl _ _⟩
      case round =>
        obtain ⟨i, hi, rfl, hbl⟩ := hrel
        have HL := Lib.hid hbl
        clear hbl
        by_cases hi25 : i < 25
        case neg =>
          obtain rfl : i = 25 := by omega
          clear HRO hbb5
          go_wp2_with fail
          go_roundw
          case rel => exact ⟨2, .inr (.inr rfl), by go_num, HP.out.below HL.out HP.out.lt, HG.out.below HL.out HG.out.lt, own_below HT.out HL.out, HB.out.trans (HL.out.mono HB.out.size)⟩
          case measure => simp [intOf]
        have hiz : (i : Int) < 25 := by omega
        obtain ⟨_, b6, o6, he6, hbb6, hc6⟩ := (HRO.out.below HL.out).num hi25
        simp only [Option.some.injEq, Addr.mk.injEq, and_true] at he6
        obtain ⟨rfl, rfl⟩ := he6
        rcases (show i < 1 ∨ (1 ≤ i ∧ i < 9) ∨ 9 ≤ i by omega) with hw | ⟨hw, hw2⟩ | hw
        case inl =>
          have R := ring_at1 hi25 (show wantI i = 0 from by unfold wantI; rw [if_neg (by omega), if_neg (by omega)]) (show (0 : Int) * 3 = 0 from rfl)
          unfold ringP4 at R
          obtain ⟨v0, v1, hm, e1, e2⟩ := R
          generalize rings1.getD i 0 = v at *
          have hz1 : (i : Int) < 1 := by omega
          clear HRO
          go_wp2_with fail
          go_quiet (fail)
          have hx : -12 ≤ v % 25 - 12 ∧ v % 25 - 12 ≤ 12 := by omega
          have hy : -12 ≤ v / 25 - 12 ∧ v / 25 - 12 ≤ 12 := by omega
          clear hc6
          generalize v % 25 - 12 = dx at *
          generalize v / 25 - 12 = dy at *
          obtain ⟨hx0, hx1⟩ := hx
          obtain ⟨hy0, hy1⟩ := hy
          clear v0 v1
          go_wp2_with fail
          go_roundw
          case rel => exact ⟨i + 1, by omega, by go_num, below_drewN HL.out _⟩
          case measure => simp [intOf]; omega
        case inr.inl =>
          have R := ring_at1 hi25 (show wantI i = 1 from by unfold wantI; rw [if_neg (by omega), if_pos hw]) (show (1 : Int) * 3 = 3 from rfl)
          unfold ringP4 at R
          obtain ⟨v0, v1, hm, e1, e2⟩ := R
          generalize rings1.getD i 0 = v at *
          have hz1 : (1 : Int) ≤ (i : Int) := by omega
          have hz2 : (i : Int) < 9 := by omega
          clear HRO
          go_wp2_with fail
          go_quiet (fail)
          have hx : -12 ≤ v % 25 - 12 ∧ v % 25 - 12 ≤ 12 := by omega
          have hy : -12 ≤ v / 25 - 12 ∧ v / 25 - 12 ≤ 12 := by omega
          clear hc6
          generalize v % 25 - 12 = dx at *
          generalize v / 25 - 12 = dy at *
          obtain ⟨hx0, hx1⟩ := hx
          obtain ⟨hy0, hy1⟩ := hy
          clear v0 v1
          go_wp2_with fail
          go_roundw
          case rel => exact ⟨i + 1, by omega, by go_num, below_drewN HL.out _⟩
          case measure => simp [intOf]; omega
        case inr.inr =>
          have R := ring_at1 hi25 (show wantI i = 2 from by unfold wantI; rw [if_pos hw]) (show (2 : Int) * 3 = 6 from rfl)
          unfold ringP4 at R
          obtain ⟨v0, v1, hm, e1, e2⟩ := R
          generalize rings1.getD i 0 = v at *
          have hz1 : (9 : Int) ≤ (i : Int) := by omega
          clear HRO
          go_wp2_with fail
          go_quiet (fail)
          have hx : -12 ≤ v % 25 - 12 ∧ v % 25 - 12 ≤ 12 := by omega
          have hy : -12 ≤ v / 25 - 12 ∧ v / 25 - 12 ≤ 12 := by omega
          clear hc6
          generalize v % 25 - 12 = dx at *
          generalize v / 25 - 12 = dy at *
          obtain ⟨hx0, hx1⟩ := hx
          obtain ⟨hy0, hy1⟩ := hy
          clear v0 v1
          go_wp2_with fail
          go_roundw
          case rel => exact ⟨i + 1, by omega, by go_num, below_drewN HL.out _⟩
          case measure => simp [intOf]; omega
    case inr.inr =>
      have C := slots_find 25 25 0 0 0 (some ⟨gt, 0, none⟩) 625 625 wr.heap.size (List.replicate 625 0) none 0 0 [] wr hrT (Nat.le_refl _) (zero_bytes 625) (bds_none _) (by omega) ⟨plain_ok plain_25 ⟨by omega, by omega⟩, by omega, by omega⟩ 0 (by omega) (by omega) (by omega) _ room_25
      rw [show asI (slotsN 25 25 625 0 (2 * 0 + 1) (goodT room25 0) (0 : Int).toNat) = [] from rfl] at C
      replace C : Calls Try.prog 30 #[.agg #[.int .i64 25, .int .i64 25, .slice (some ⟨gt, 0, none⟩) 625 625], .slice none 0 0, .int .i64 0, .int .i64 0, .int .i64 0, .int .i64 0] _ _ := C
      replace C := Lib.hid C
      clear hrT
      go_wp2_with fail
      refine Calls.mono C.out ?_
      rintro e w5 ⟨A5, c5, rfl, hO, hb5⟩
      clear C y0 y1 y2 hO
      have hP5 := hP.below hb5 hP.lt
      have HB := Lib.hid (hb.trans (hb5.mono hb.size))
      rw [show ([] : List Int).length = 0 from rfl]
      clear hP hG hT hb hb5
      have x7 := hP5.cell (i := 7) rfl
      have h30 : (0 : Int) ≤ (n3 : Int) := by omega
      go_wp2_with fail
      refine Calls.mono (num20 _ _) ?_
      rintro e wn ⟨rfl, rfl⟩
      go_wp2_with fail
      refine Calls.mono (wakes20 _) ?_
      rintro e w6 ⟨rfl, hb6⟩
      have HB2 := Lib.hid (HB.out.trans (hb6.mono HB.out.size))
      clear hb6 x7
      go_wp2_with fail
      go_ret
      exact ⟨rfl, HB2.out⟩
end lawSlotsRings
end Go.Proofs.Ytfgjiaakoacomaa
