/- The walk of the law ClearWalls. -/
import Derived.Test.YtfgjiaakoacomaaClearWake
import Derived.Lib.MinMax
namespace Go.Proofs.Ytfgjiaakoacomaa
set_option maxRecDepth 20000
open Go.RowKit Go.WideShapes Go.ChangeShapes

def zrow (n : Nat) : Array Value := madeCells #[.int .u8 0] (n * 1)
theorem make_row (n : Nat) (w : World) (h : n ≤ 100000) : (Instr.makeSlice 22 (.int .i64 (n : Int)) (.int .i64 (n : Int))).run Try.prog w = .ok (.slice (some ⟨w.heap.size, 0, none⟩) n n) (w.alloc (.cells (zrow n) 5)) := by
  obtain ⟨i0, hi0, hz0, hz1, hz2⟩ := info_parts info_u8
  have := run_make (P := Try.prog) w 22 5 i0 _ Try.underlying22 hi0 hz0 .i64 .i64 (n : Int) (n : Int) (by omega) (Int.le_refl _) (by rw [hz2]; omega) (by omega)
  rw [hz1] at this
  simpa [zrow, show (Value.int .u8 0).cells = #[Value.int .u8 0] from rfl] using this
theorem zrow_nums (n : Nat) : (zrow n).toList = nums .u8 (List.replicate n 0) := by
  unfold zrow madeCells nums
  refine List.ext_getElem (by simp) fun i h1 h2 => ?_
  simp [Nat.mod_one]
theorem own_made (w : World) (n : Nat) (h : n ≤ 100000) : (w.alloc (.cells (zrow n) 5)).ownsRow w.heap.size 5 1 (.slice (some ⟨w.heap.size, 0, none⟩) n n) n (nums .u8 (List.replicate n 0)) := by
  have := World.ownsRow_lit (e := 5) (size := 1) w (zrow n) n (Nat.le_refl _) (by unfold maxLen; omega) (size_madeCells _ _)
  rwa [zrow_nums] at this
theorem wall_ok {W H : Int} {n rk : Nat} (hW1 : 1 ≤ W) (hW2 : W ≤ 128) (hH1 : 1 ≤ H) (hH2 : H ≤ 128) (hn : (n : Int) = W * H) (hr : rk < n) :
    isG W H ((List.replicate n (0 : Int)).set rk 5) = true ∧ IsBytes ((List.replicate n (0 : Int)).set rk 5) ∧ ∀ k : Nat, k ≤ 2 → ∀ t, t < n → openT W ((List.replicate n (0 : Int)).set rk 5) [] 0 k t = !decide (t = rk) := by
  have hm : ∀ x ∈ (List.replicate n (0 : Int)).set rk 5, x = 0 ∨ x = 5 := fun x hx => by
    rcases List.mem_or_eq_of_mem_set hx with h | h
    · exact .inl (List.eq_of_mem_replicate h)
    · exact .inr h
  refine ⟨?_, fun x hx => by rcases hm x hx with rfl | rfl <;> omega, fun k hk t ht => ?_⟩
  · unfold isG
    rw [decide_eq_true_eq]
    exact ⟨hW1, hW2, hH1, hH2, by simpa using hn, fun x hx => by rcases hm x hx with rfl | rfl <;> omega⟩
  · unfold openT
    have hc : covK W [] 0 (t : Int) = false := rfl
    rw [hc]
    have hx : ((List.replicate n (0 : Int)).set rk 5).getD t 0 = if t = rk then 5 else 0 := by
      by_cases e : t = rk
      · subst e; simp [List.getD, ht]
      · rw [if_neg e]; simp [List.getD, ht, Ne.symm e]
    rw [hx]
    by_cases e : t = rk
    · rw [if_pos e, decide_eq_true e]
      rcases (show k = 0 ∨ k = 1 ∨ k = 2 by omega) with rfl | rfl | rfl <;> decide
    · rw [if_neg e, decide_eq_false e]
      rcases (show k = 0 ∨ k = 1 ∨ k = 2 by omega) with rfl | rfl | rfl <;> decide
theorem and15 (a : Int) : 0 ≤ bits .and .i64 a 15 ∧ bits .and .i64 a 15 ≤ 15 := by
  show 0 ≤ IntKind.i64.wrap ((BitVec.ofInt 64 a &&& BitVec.ofInt 64 15).toNat : Int) ∧ IntKind.i64.wrap ((BitVec.ofInt 64 a &&& BitVec.ofInt 64 15).toNat : Int) ≤ 15
  have h : (BitVec.ofInt 64 a &&& BitVec.ofInt 64 15).toNat ≤ 15 := by
    rw [BitVec.toNat_and]
    exact Nat.le_trans Nat.and_le_right (by decide)
  generalize (BitVec.ofInt 64 a &&& BitVec.ofInt 64 15).toNat = z at *
  rw [IntWalk.i64_in _ (by omega)]
  omega

namespace lawClearWalls
set_option maxHeartbeats 6400000 in
set_option maxRecDepth 100000 in
theorem walk {H : Type} {enc : TypeId × Value → H} (w : World) {base : Nat} (v : Value) (d : DataW H) (p : List MemPlace) (hv0 : Value.okWide Try.prog w .any base 27 v)
    (ht : DataW.Trod enc Try.prog w 0 (fun _ => true) true 27 v d p) : Calls Try.prog 5 #[v] w fun e w' => e = .returned (.bool true) ∧ Below w.heap.size w w' := by
  obtain ⟨W0, H0, A, n0, c, ts0, A1, n1, c1, l, k, rfl, hWr, hHr, hr, hby, ⟨hnc, hcm⟩, hv, ⟨hnc1, hcm1⟩, hkr⟩ := open_ask9 hv0 ht
  unfold maxLen at hcm hcm1
  clear hv0 ht hWr hHr hr hby hv hnc hcm
  have hn1 : (n1 : Int) ≤ 9223372036854775807 := by omega
  have hP := Blk.new w #[.int .i64 W0, .int .i64 H0, .slice A n0 c, .slice A1 n1 c1, .int .i64 k] 27
  have hb := (Below.refl w.heap.size w).alloc (Nat.le_refl _) (.cells #[.int .i64 W0, .int .i64 H0, .slice A n0 c, .slice A1 n1 c1, .int .i64 k] 27)
  have hm0 : (0 : Int) ≤ (n1 : Int) := by omega
  have hx := and15 k
  go_enter Try.func5, Try.ntmps5
  go_wp2_with fail
  generalize w.alloc (.cells #[.int .i64 W0, .int .i64 H0, .slice A n0 c, .slice A1 n1 c1, .int .i64 k] 27) = w1 at *
  go_loopw [3] (fun iv wr => ∃ (q : Nat), q ≤ 4 ∧ iv = .int .i64 q ∧ Blk wr w.heap.size #[.int .i64 W0, .int .i64 H0, .slice A n0 c, .slice A1 n1 c1, .int .i64 k] 27 ∧ Below w.heap.size w wr) (fun iv _ => 4 - (intOf iv).toNat)
  case atStart => exact ⟨0, by omega, rfl, hP, hb⟩
  case round =>
    clear hP hb
    obtain ⟨q, hq, rfl, hP, hb⟩ := hrel
    by_cases hq4 : q < 4
    case neg =>
      obtain rfl : q = 4 := by omega
      have HB := Lib.hid hb
      clear hP hb
      go_wp2_with fail
      refine Calls.mono (wakes9 _) ?_
      rintro e w5 ⟨rfl, hb5⟩
      replace hb := Lib.hid (HB.out.trans (hb5.mono HB.out.size))
      clear hb5
      go_wp2_with fail
      go_ret
      exact ⟨rfl, hb.out⟩
    have hq0 : (0 : Int) ≤ (q : Int) := by omega
    have hq4' : (q : Int) < 4 := by omega
    have x3 := hP.cell (i := 3) rfl
    have x4 := hP.cell (i := 4) rfl
    go_wp2_with fail
    clear x3
    have hW1 : 3 ≤ 3 + (q : Int) * 2 + (n1 : Int) % 3 ∧ 3 + (q : Int) * 2 + (n1 : Int) % 3 ≤ 11 := by omega
    have hH1 : 4 ≤ 4 + (q : Int) ∧ 4 + (q : Int) ≤ 7 := by omega
    generalize 3 + (q : Int) * 2 + (n1 : Int) % 3 = W at *
    generalize 4 + (q : Int) = H at *
    obtain ⟨hW1, hW2⟩ := hW1
    obtain ⟨hH1, hH2⟩ := hH1
    have hp0 : 12 ≤ W * H := by have := Int.mul_le_mul hW1 hH1 (by omega) (by omega); omega
    have hp1 : W * H ≤ 77 := by have := Int.mul_le_mul hW2 hH2 (by omega) (by omega); omega
    obtain ⟨n, hn⟩ := Int.eq_ofNat_of_zero_le (show 0 ≤ W * H by omega)
    rw [hn] at hp0 hp1
    have hwh : wrap64 (W * H) = (n : Int) := by rw [hn]; unfold wrap64; omega
    have hmk : ∀ w, (Instr.makeSlice 22 (.int .i64 (n : Int)) (.int .i64 (n : Int))).run Try.prog w = .ok (.slice (some ⟨w.heap.size, 0, none⟩) n n) (w.alloc (.cells (zrow n) 5)) := fun w => make_row n w (by omega)
    replace hn := Lib.hid hn.symm
    rw [hwh, hmk]
    generalize hz : bits .and .i64 k 15 = z at *
    obtain ⟨hx0, hx1⟩ := hx
    obtain ⟨rk, hrk⟩ := Int.eq_ofNat_of_zero_le (show 0 ≤ ((q : Int) * 7 + z) % (n : Int) from Int.emod_nonneg _ (by omega))
    have hrn : (rk : Int) < (n : Int) := by rw [← hrk]; exact Int.emod_lt_of_pos _ (by omega)
    have hn0 : ¬ (n : Int) = 0 := by omega
    have hqz : 0 ≤ (q : Int) * 7 + z := by omega
    have hP0 := hP
    have hb0 := hb
    have hT := own_made wr n (by omega)
    have hba := (Below.refl wr.heap.size wr).alloc (Nat.le_refl _) (.cells (zrow n) 5)
    replace hP := hP.below hba hP.lt
    replace hb := hb.trans (hba.mono hb.size)
    have hG := Blk.new (wr.alloc (.cells (zrow n) 5)) #[.int .i64 W, .int .i64 H, .slice (some ⟨wr.heap.size, 0, none⟩) n n] 24
    have hbb := (Below.refl (wr.alloc (.cells (zrow n) 5)).heap.size (wr.alloc (.cells (zrow n) 5))).alloc (Nat.le_refl _) (.cells #[.int .i64 W, .int .i64 H, .slice (some ⟨wr.heap.size, 0, none⟩) n n] 24)
    replace hP := hP.below hbb hP.lt
    replace hT := own_below hT hbb
    replace hb := hb.trans (hbb.mono hb.size)
    have hsz : (wr.alloc (.cells (zrow n) 5)).heap.size = wr.heap.size + 1 := by simp
    rw [hsz] at hG
    clear hba hbb x4
    have x4 := hP.cell (i := 4) rfl
    have g2 := hG.cell (i := 2) rfl
    obtain ⟨g', hg', _, hgl, hct, hft⟩ := own_at hT (show rk < n by omega)
    cases hg'
    go_wp2_with fail
    clear x4 g2 hct hft hgl hmk hT hP hG hb hsz
    have hT := World.ownsRow_lit (e := 5) (size := 1) wr ((zrow n).setIfInBounds rk (.int .u8 5)) n (Nat.le_refl _) (by unfold maxLen; omega) (by rw [Array.size_setIfInBounds]; exact size_madeCells _ _)
    rw [Array.toList_setIfInBounds, zrow_nums, show (nums .u8 (List.replicate n 0)).set rk (.int .u8 5) = nums .u8 ((List.replicate n 0).set rk 5) by unfold nums; rw [List.map_set]] at hT
    have hba := (Below.refl wr.heap.size wr).alloc (Nat.le_refl _) (.cells ((zrow n).setIfInBounds rk (.int .u8 5)) 5)
    have hP := hP0.below hba hP0.lt
    have hb := hb0.trans (hba.mono hb0.size)
    have hG := Blk.new (wr.alloc (.cells ((zrow n).setIfInBounds rk (.int .u8 5)) 5)) #[.int .i64 W, .int .i64 H, .slice (some ⟨wr.heap.size, 0, none⟩) n n] 24
    have hbb := (Below.refl (wr.alloc (.cells ((zrow n).setIfInBounds rk (.int .u8 5)) 5)).heap.size (wr.alloc (.cells ((zrow n).setIfInBounds rk (.int .u8 5)) 5))).alloc (Nat.le_refl _) (.cells #[.int .i64 W, .int .i64 H, .slice (some ⟨wr.heap.size, 0, none⟩) n n] 24)
    replace hP := hP.below hbb hP.lt
    replace hT := own_below hT hbb
    replace hb := hb.trans (hbb.mono hb.size)
    rw [show (wr.alloc (.cells ((zrow n).setIfInBounds rk (.int .u8 5)) 5)).heap.size = wr.heap.size + 1 by simp] at hG
    clear hba hbb hP0 hb0
    simp only [hrk, hwh]
    clear hrk hqz hx0 hx1
    generalize (wr.alloc (.cells ((zrow n).setIfInBounds rk (.int .u8 5)) 5)).alloc (.cells #[.int .i64 W, .int .i64 H, .slice (some ⟨wr.heap.size, 0, none⟩) n n] 24) = w3 at *
    generalize wr.heap.size + 1 = gg at *
    generalize wr.heap.size = gt at *
    obtain ⟨hg, hby, hop⟩ := wall_ok (W := W) (H := H) (n := n) (rk := rk) (by omega) (by omega) (by omega) (by omega) hn.out (by omega)
    generalize (List.replicate n (0 : Int)).set rk 5 = ts at *
    go_loopw [8] (fun iv wq => ∃ (q : Nat), q ≤ 3 ∧ iv = .int .i64 q ∧ Blk wq w.heap.size #[.int .i64 W0, .int .i64 H0, .slice A n0 c, .slice A1 n1 c1, .int .i64 k] 27 ∧ Blk wq gg #[.int .i64 W, .int .i64 H, .slice (some ⟨gt, 0, none⟩) n n] 24 ∧ wq.ownsRow gt 5 1 (.slice (some ⟨gt, 0, none⟩) n n) n (nums .u8 ts) ∧ Below w.heap.size w wq) (fun iv _ => 3 - (intOf iv).toNat)
    case atStart => exact ⟨0, by omega, rfl, hP, hG, hT, hb⟩
    case round =>
      clear hP hG hT hb
      obtain ⟨q2, hq2, rfl, hP, hG, hT, hb⟩ := hrel
      by_cases hq3 : q2 < 3
      case neg =>
        obtain rfl : q2 = 3 := by omega
        have HB := Lib.hid hb
        have HP := Lib.hid hP
        clear hP hb hG hT
        go_wp2_with fail
        go_roundw
        case rel => exact ⟨q + 1, by omega, by go_num, HP.out, HB.out⟩
        case measure => simp [intOf]; omega
      have d1 : decide ((q2 : Int) ≤ 2) = true := by simp; omega
      have z0 := hG.cell (i := 0) rfl
      have z1 := hG.cell (i := 1) rfl
      have z2 := hG.cell (i := 2) rfl
      have C := Lib.hid (clear_grid W H q2 (some ⟨gt, 0, none⟩) n n wr.heap.size ts none 0 0 [] wr (Reads.of_own hT) (Nat.le_refl _) hby (bds_none _) (by omega) (plain_ok hg ⟨by omega, by omega⟩))
      go_wp2_with fail
      refine Calls.mono C.out ?_
      rintro e w5 ⟨A2, c2, l2, rfl, hO, hR, hK, hb5⟩
      clear C z0 z1 z2
      obtain rfl := wall_list (by omega) hn.out (fun t ht => hop q2 (by omega) t ht) (by omega) hR
      have HP := Lib.hid (hP.below hb5 hP.lt)
      have HG := Lib.hid (hG.below hb5 hG.lt)
      have HT := Lib.hid (own_below hT hb5)
      have HB := Lib.hid (hb.trans (hb5.mono hb.size))
      clear hP hG hT hb hR hK hb5
      go_wp2_with fail
      refine Calls.mono (num9 _ _) ?_
      rintro e wn ⟨rfl, rfl⟩
      go_wp2_with fail
      have hr2 := Reads.of_own hO
      clear hO
      simp only [hwh]
      go_loopw [11] (fun iv wx => ∃ (t : Nat), t ≤ n ∧ iv = .int .i64 t ∧ Below w5.heap.size w5 wx) (fun iv _ => n - (intOf iv).toNat)
      case atStart => exact ⟨0, by omega, rfl, Below.refl _ _⟩
      case round =>
        obtain ⟨t, ht, rfl, hbl⟩ := hrel
        by_cases htn : t < n
        case neg =>
          obtain rfl : t = n := by omega
          have HL := Lib.hid hbl
          clear hbl hr2
          go_wp2_with fail
          go_roundw
          case rel => exact ⟨q2 + 1, by omega, by go_num, HP.out.below HL.out HP.out.lt, HG.out.below HL.out HG.out.lt, own_below HT.out HL.out, HB.out.trans (HL.out.mono HB.out.size)⟩
          case measure => simp [intOf]; omega
        have htz : (t : Int) < (n : Int) := by omega
        obtain ⟨_, b2, o2, rfl, hbb2, hc2⟩ := (hr2.below hbl).num htn
        rw [intsOf_at htn] at hc2
        have HL := Lib.hid hbl
        have HR2 := Lib.hid hr2
        clear hbl hr2
        have hw0 : ¬ W = 0 := by omega
        have hyl : 0 ≤ (t : Int) / W ∧ (t : Int) / W < H := ⟨Int.ediv_nonneg (by omega) (by omega), Int.ediv_lt_of_lt_mul (by omega) (by rw [Int.mul_comm, ← hn.out]; exact htz)⟩
        have hry : 0 ≤ (rk : Int) / W ∧ (rk : Int) / W < H := ⟨Int.ediv_nonneg (by omega) (by omega), Int.ediv_lt_of_lt_mul (by omega) (by rw [Int.mul_comm, ← hn.out]; exact hrn)⟩
        have hxl : 0 ≤ (t : Int) % W ∧ (t : Int) % W < W := ⟨Int.emod_nonneg _ hw0, Int.emod_lt_of_pos _ (by omega)⟩
        have hrx : 0 ≤ (rk : Int) % W ∧ (rk : Int) % W < W := ⟨Int.emod_nonneg _ hw0, Int.emod_lt_of_pos _ (by omega)⟩
        rw [wall_on (show onG W H (tX W t) (tY W t) from ⟨hxl.1, hxl.2, hyl.1, hyl.2⟩)] at hc2
        unfold tX tY at hc2
        have e1 : wrap64 ((t : Int) / W) = (t : Int) / W := by unfold wrap64; omega
        have e2 : wrap64 ((rk : Int) / W) = (rk : Int) / W := by unfold wrap64; omega
        go_wp2_with fail
        go_quiet (fail)
        (try simp only [e1])
        replace HL := Lib.hid (below_drewN HL.out nq)
        generalize wr.drewN nq = wr at *
        generalize hX : (t : Int) % W = X at *
        generalize hY : (t : Int) / W = Y at *
        obtain ⟨hx0, hx1⟩ := hxl
        obtain ⟨hy0, hy1⟩ := hyl
        go_wp2_with fail
        go_quiet (fail)
        (try simp only [e2])
        generalize hRX : (rk : Int) % W = RX at *
        generalize hRY : (rk : Int) / W = RY at *
        obtain ⟨rx0, rx1⟩ := hrx
        obtain ⟨ry0, ry1⟩ := hry
        replace HL := Lib.hid (below_drewN HL.out nq)
        generalize wr.drewN nq = wr at *
        obtain ⟨_, b3, o3, hbo, hbb3, hc3⟩ := (HR2.out.below HL.out).num htn
        simp only [Option.some.injEq, Addr.mk.injEq, and_true] at hbo
        obtain ⟨rfl, rfl⟩ := hbo
        rw [intsOf_at htn, wall_on (show onG W H (tX W t) (tY W t) from by unfold tX tY; rw [hX, hY]; exact ⟨hx0, hx1, hy0, hy1⟩)] at hc3
        unfold tX tY at hc3
        simp only [hX, hY, hRX, hRY] at hc3
        have htm : n - (intOf (.int .i64 ((t : Int) + 1))).toNat < n - (intOf (.int .i64 (t : Int))).toNat := by simp [intOf]; omega
        have HTM := Lib.hid htm
        have htn' := Lib.hid (show t + 1 ≤ n by omega)
        have hbo := hbb3
        have ht128 : (t : Int) < 128 := by omega
        (try clear hX)
        (try clear hY)
        (try clear hRX)
        (try clear hRY)
        (try clear hq0)
        (try clear hq4')
        (try clear hn1)
        (try clear hm0)
        (try clear hp0)
        (try clear hp1)
        (try clear hwh)
        (try clear hrn)
        (try clear hn0)
        (try clear e1)
        (try clear e2)
        (try clear htm)
        (try clear htz)
        (try clear hw0)
        (try clear d1)
        (try clear hq)
        (try clear hq2)
        (try clear hq4)
        (try clear hq3)
        (try clear ht)
        (try clear hbb2)
        (try clear hc2)
        (try clear hnc1)
        (try clear hcm1)
        (try clear hop)
        (try clear hg)
        (try clear hby)
        rw [show RX - X = -(X - RX) by omega, show RY - Y = -(Y - RY) by omega] at hc3
        have hdx : -128 ≤ X - RX ∧ X - RX ≤ 128 := by omega
        have hdy : -128 ≤ Y - RY ∧ Y - RY ≤ 128 := by omega
        generalize X - RX = DX at *
        generalize Y - RY = DY at *
        obtain ⟨hdx0, hdx1⟩ := hdx
        obtain ⟨hdy0, hdy1⟩ := hdy
        generalize m1 : max DX (-DX) = M1 at *
        generalize m2 : max DY (-DY) = M2 at *
        generalize m3 : max M1 M2 = M3 at *
        generalize m4 : min (X + 1) (W - X) = N1 at *
        generalize m5 : min (Y + 1) (H - Y) = N2 at *
        generalize m6 : min N1 N2 = N3 at *
        generalize m7 : min M3 N3 = N4 at *
        (try clear rx0)
        (try clear rx1)
        (try clear ry0)
        (try clear ry1)
        go_wp2_with fail
        exact ⟨⟨t + 1, htn'.out, by go_num, HL.out⟩, HTM.out⟩
end lawClearWalls
end Go.Proofs.Ytfgjiaakoacomaa
