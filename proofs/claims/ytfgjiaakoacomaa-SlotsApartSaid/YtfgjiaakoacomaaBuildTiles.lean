/- A building's tiles. -/
import Derived.Test.YtfgjiaakoacomaaBuild
import Derived.Test.YtfgjiaakoacomaaBlk
namespace Go.Proofs.Ytfgjiaakoacomaa
set_option maxRecDepth 20000
open Go.RowKit

/-- The first i tiles of row j. -/
def rowT (W x y : Int) (j i : Nat) : List Int := (List.range i).map fun a : Nat => x + (a : Int) + W * (y + (j : Int))
/-- The tiles of the first j rows, b wide. -/
def tilesR (W x y : Int) (b : Nat) : Nat → List Int
  | 0 => []
  | j + 1 => tilesR W x y b j ++ rowT W x y j b
theorem rowT_succ (W x y : Int) (j i : Nat) : rowT W x y j (i + 1) = rowT W x y j i ++ [x + (i : Int) + W * (y + (j : Int))] := by
  simp [rowT, List.range_succ]
theorem rowT_len (W x y : Int) (j i : Nat) : (rowT W x y j i).length = i := by simp [rowT]
theorem tilesR_len (W x y : Int) (b : Nat) : ∀ j, (tilesR W x y b j).length = j * b
  | 0 => by simp [tilesR]
  | j + 1 => by rw [tilesR, List.length_append, tilesR_len W x y b j, rowT_len, Nat.succ_mul]
/-- A building's tiles. -/
def tilesL (W x y bw bh : Int) : List Int := tilesR W x y bw.toNat bh.toNat

set_option maxHeartbeats 1600000 in
set_option maxRecDepth 20000 in
theorem build_tiles (W H id ow x y bw bh : Int) (A : Option Addr) (n c : Nat) (w : World) (hW0 : 1 ≤ W) (hW1 : W ≤ 128) (hb0 : 1 ≤ bw) (hb1 : bw ≤ 4) (hb2 : 1 ≤ bh) (hb3 : bh ≤ 4) (hx0 : 0 ≤ x) (hx1 : x ≤ 128) (hy0 : 0 ≤ y) (hy1 : y ≤ 128) :
    Calls Try.prog 75 #[.agg #[.int .i64 W, .int .i64 H, .slice A n c], .agg #[.int .i64 id, .int .i64 ow, .int .i64 x, .int .i64 y, .int .i64 bw, .int .i64 bh]] w (GivesNums w.heap.size w (tilesL W x y bw bh)) := by
  obtain ⟨i0, hi0, hz0, hz1, hz2⟩ := info_parts info_int
  obtain ⟨p, rfl⟩ := Int.eq_ofNat_of_zero_le (show 0 ≤ bw by omega)
  obtain ⟨q, rfl⟩ := Int.eq_ofNat_of_zero_le (show 0 ≤ bh by omega)
  have HT : Hid (tilesL W x y (p : Int) (q : Int) = tilesR W x y p q) := rfl
  have hG := Blk.new w #[.int .i64 W, .int .i64 H, .slice A n c] 24
  have hB := Blk.new (w.alloc (.cells #[.int .i64 W, .int .i64 H, .slice A n c] 24)) #[.int .i64 id, .int .i64 ow, .int .i64 x, .int .i64 y, .int .i64 (p : Int), .int .i64 (q : Int)] 76
  replace hG := hG.alloc (.cells #[.int .i64 id, .int .i64 ow, .int .i64 x, .int .i64 y, .int .i64 (p : Int), .int .i64 (q : Int)] 76)
  have hb := two_boxes w (.cells #[.int .i64 W, .int .i64 H, .slice A n c] 24) (.cells #[.int .i64 id, .int .i64 ow, .int .i64 x, .int .i64 y, .int .i64 (p : Int), .int .i64 (q : Int)] 76)
  rw [show (w.alloc (.cells #[.int .i64 W, .int .i64 H, .slice A n c] 24)).heap.size = w.heap.size + 1 by simp] at hB
  go_enter Try.func75, Try.ntmps75
  go_wp2_with fail
  generalize (w.alloc (.cells #[.int .i64 W, .int .i64 H, .slice A n c] 24)).alloc (.cells #[.int .i64 id, .int .i64 ow, .int .i64 x, .int .i64 y, .int .i64 (p : Int), .int .i64 (q : Int)] 76) = w1 at *
  generalize hgg : w.heap.size = g at *
  have hg1 : g + 1 < w1.heap.size := hB.lt
  go_loopw [4, 9] (fun l j wr => ∃ (k : Nat) (A1 : Option Addr) (c1 : Nat), k ≤ q ∧ j = .int .i64 (k : Int) ∧ l = .slice A1 (k * p) c1 ∧ wr.ownsRow w1.heap.size 3 1 (.slice A1 (k * p) c1) (k * p) (nums .i64 (tilesR W x y p k)) ∧ Below w1.heap.size w1 wr) (fun _ j _ => q - (intOf j).toNat)
  case atStart => exact ⟨0, none, 0, Nat.zero_le _, rfl, by simp, by simpa [tilesR, nums] using World.ownsRow_nil w1 w1.heap.size 3 1, Below.refl _ _⟩
  case round =>
    obtain ⟨k, A1, c1, hk, rfl, rfl, hown, hbl⟩ := hrel
    have hG1 := hG.below hbl (by omega)
    have hB1 := hB.below hbl (by omega)
    by_cases hlt : k < q
    case neg =>
      obtain rfl : k = q := by omega
      have hl := tilesR_len W x y p k
      clear hG hB hG1 hB1
      have HB := Lib.hid (hb.trans (hbl.mono (by omega)))
      have HO := Lib.hid hown
      clear hown hbl hb
      go_wp2_with fail
      go_ret
      refine ⟨A1, c1, ?_, ?_, HB.out⟩
      · rw [HT.out, hl]; rfl
      · rw [HT.out, hl]; exact own_mono HO.out (by omega)
    have x4 := hB1.cell (i := 4) rfl
    go_wp2_with fail
    clear x4
    have hs1 := hbl.size
    go_loopw [4, 14] (fun l j wr => ∃ (i : Nat) (A2 : Option Addr) (c2 : Nat), i ≤ p ∧ j = .int .i64 (i : Int) ∧ l = .slice A2 (k * p + i) c2 ∧ wr.ownsRow w1.heap.size 3 1 (.slice A2 (k * p + i) c2) (k * p + i) (nums .i64 (tilesR W x y p k ++ rowT W x y k i)) ∧ Below w1.heap.size w1 wr) (fun _ j _ => p - (intOf j).toNat)
    case atStart => exact ⟨0, A1, c1, Nat.zero_le _, rfl, rfl, by simpa [rowT] using hown, hbl⟩
    case round =>
      clear hown hG1 hB1 hbl hs1
      obtain ⟨i, A2, c2, hi, rfl, rfl, hown, hbl⟩ := hrel
      by_cases hlt2 : i < p
      case neg =>
        obtain rfl : i = p := by omega
        have HB := Lib.hid hbl
        have HO := Lib.hid hown
        clear hown hbl
        go_wp2_with fail
        go_roundw
        case rel =>
          refine ⟨k + 1, A2, c2, by omega, by go_num, by rw [Nat.succ_mul], ?_, HB.out⟩
          rw [Nat.succ_mul, tilesR]; exact HO.out
        case measure => simp [intOf]; omega
      have hG1 := hG.below hbl (by omega)
      have hB1 := hB.below hbl (by omega)
      have x0 := hG1.cell (i := 0) rfl
      have x2 := hB1.cell (i := 2) rfl
      have x3 := hB1.cell (i := 3) rfl
      have hm0 : 0 ≤ W * (y + (k : Int)) := Int.mul_nonneg (by omega) (by omega)
      have hm1 : W * (y + (k : Int)) ≤ 128 * 132 := Int.mul_le_mul hW1 (by omega) (by omega) (by omega)
      have hkp : k * p ≤ 4 * 4 := Nat.mul_le_mul (by omega) (by omega)
      have HN := Lib.hid (rowT_succ W x y k i)
      generalize hmm : W * (y + (k : Int)) = m at *
      have cA : k * p + i + 1 ≤ maxLen := by unfold maxLen; omega
      have cB : (k * p + i + 1) * 8 ≤ 140737488355328 := by omega
      generalize hNN : k * p + i = N at *
      replace hNN := Lib.hid hNN
      go_wp2_with (at_builtin; refine wpList_push wr _ rfl _ _ _ rfl w1.heap.size 3 i0 _ 1 8 Try.underlying30 hi0 hz0 hz1 hz2 rfl Nat.one_pos _ _ _ rfl hown [.int .i64 (x + (i : Int) + m)] rfl rfl rfl (by simp [Value.oneCell']) cA cB hbl.size ?_; intro A3 c3 w3 hown3 hb3)
      have HB := Lib.hid (hbl.trans hb3)
      have HO := Lib.hid hown3
      clear hown3 hb3 hown hbl hG1 hB1 x0 x2 x3
      go_wp2_with fail
      go_roundw
      case rel =>
        refine ⟨i + 1, A3, c3, by omega, by go_num, by rw [← Nat.add_assoc, hNN.out], ?_, HB.out⟩
        rw [← Nat.add_assoc, hNN.out, HN.out]
        have := HO.out
        rwa [show nums .i64 (tilesR W x y p k ++ rowT W x y k i) ++ [.int .i64 (x + (i : Int) + m)] = nums .i64 (tilesR W x y p k ++ (rowT W x y k i ++ [x + (i : Int) + m])) by simp [nums]] at this
      case measure => simp [intOf]; omega
end Go.Proofs.Ytfgjiaakoacomaa
