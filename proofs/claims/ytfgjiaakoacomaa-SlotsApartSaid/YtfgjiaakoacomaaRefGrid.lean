/- How much room has each tile? The page's way: in rounds. -/
import Derived.Test.YtfgjiaakoacomaaPeelMath
import Derived.Test.YtfgjiaakoacomaaRefOpen
import Derived.Test.YtfgjiaakoacomaaGroundOfM
namespace Go.Proofs.Ytfgjiaakoacomaa
set_option maxRecDepth 20000
open Go.RowKit

def bitV : Value → Nat
  | .bool true => 1
  | _ => 0
/-- The tile beside one is in, still. -/
def okN (W H : Int) (F : Nat → Int) (r t q : Nat) : Prop := 0 ≤ nearI W H t q ∧ (r : Int) < F (nearI W H t q).toNat
instance (W H : Int) (F : Nat → Int) (r t q : Nat) : Decidable (okN W H F r t q) := by unfold okN; exact inferInstance
def okAll (W H : Int) (F : Nat → Int) (r t : Nat) : Nat → Bool
  | 0 => true
  | i + 1 => decide (okN W H F r t i) && okAll W H F r t i
theorem okAll_iff {W H : Int} {F : Nat → Int} {r t : Nat} : ∀ i, okAll W H F r t i = true ↔ ∀ q, q < i → okN W H F r t q
  | 0 => ⟨fun _ q hq => absurd hq (by omega), fun _ => rfl⟩
  | i + 1 => by
    simp only [okAll, Bool.and_eq_true, decide_eq_true_eq, okAll_iff i]
    exact ⟨fun ⟨h1, h2⟩ q hq => by
      by_cases e : q = i
      · subst e; exact h1
      · exact h2 q (by omega), fun h => ⟨h i (by omega), fun q hq => h q (by omega)⟩⟩
def anyB (F : Nat → Int) (r : Nat) : Nat → Bool
  | 0 => false
  | t + 1 => anyB F r t || decide ((r : Int) + 1 < F t)
theorem anyB_iff {F : Nat → Int} {r : Nat} : ∀ t, anyB F r t = true ↔ ∃ j, j < t ∧ (r : Int) + 1 < F j
  | 0 => ⟨(fun h => by cases h), fun ⟨j, hj, _⟩ => absurd hj (by omega)⟩
  | t + 1 => by
    simp only [anyB, Bool.or_eq_true, decide_eq_true_eq, anyB_iff t]
    constructor
    · rintro (⟨j, h1, h2⟩ | h)
      · exact ⟨j, by omega, h2⟩
      · exact ⟨t, by omega, h⟩
    · rintro ⟨j, h1, h2⟩
      by_cases e : j < t
      · exact .inl ⟨j, e, h2⟩
      · obtain rfl : j = t := by omega
        exact .inr h2
theorem lack_le (x : Int) (r : Nat) : 128 - (min x ((r + 1 : Nat) : Int)).toNat ≤ 128 - (min x (r : Int)).toNat := by omega
theorem lack_lt {x : Int} {r : Nat} (h : (r : Int) + 1 < x) (h2 : x ≤ 128) : 128 - (min x ((r + 1 : Nat) : Int)).toNat < 128 - (min x (r : Int)).toNat := by omega

set_option maxHeartbeats 6400000 in
set_option maxRecDepth 20000 in
theorem ref_grid (W H k : Int) (A : Option Addr) (n c B : Nat) (ts : List Int) (A1 : Option Addr) (n1 c1 : Nat) (l : List Bd) (w : World) (hr : Reads w B 1 A n (nums .u8 ts)) (hB : B ≤ w.heap.size) (hg : isG W H ts = true) (hl : IsBytes ts) (hv : BdsL w A1 n1 l) (hn1 : n1 ≤ 1000000)
    (hall : ∀ i, i < n1 → formP (bdAt l i) ∧ onP W H (bdAt l i)) (hk : classP k) (ml : List Int) (hR : RoomL W H n (openT W ts l n1 k) ml) (hK : okK n ml) :
    Calls Try.prog 13 #[.agg #[.int .i64 W, .int .i64 H, .slice A n c], .slice A1 n1 c1, .int .i64 k] w (fun e w' => ∃ A c, e = .returned (.slice A n c) ∧ w'.ownsRow w.heap.size 3 1 (.slice A n c) n (nums .i64 ml) ∧ Below w.heap.size w w') := by
  obtain ⟨hW0, hW1, hH0, hH1, hlen, hts⟩ := isG_bounds hg
  have hll : ts.length = n := by have := hr.1; simpa [nums] using this
  have hn : (n : Int) = W * H := by omega
  have hp := prod_range hW0 hW1 hH0 hH1
  have hn4 : n ≤ 16384 := by omega
  have hn0 : 0 < n := by omega
  have hmk : ∀ w, (Instr.makeSlice 30 (.int .i64 (n : Int)) (.int .i64 (n : Int))).run Try.prog w = .ok (.slice (some ⟨w.heap.size, 0, none⟩) n n) (w.alloc (.cells (zrowI n) 3)) := fun w => make_ints n w (by omega) info_int
  have hmb : ∀ w, (Instr.makeSlice 39 (.int .i64 (n : Int)) (.int .i64 (n : Int))).run Try.prog w = .ok (.slice (some ⟨w.heap.size, 0, none⟩) n n) (w.alloc (.cells (zrowB n) 4)) := fun w => make_bools n w (by omega)
  obtain ⟨F, hFe⟩ : ∃ F : Nat → Int, F = fun t => ml.getD t 0 := ⟨_, rfl⟩
  have hF1 : ∀ t, 0 ≤ F t ∧ F t ≤ 128 := by rw [hFe]; exact okK_at hK
  have hml : ml = intsOf n F := by rw [hFe]; exact List.ext_getElem (by rw [hK.1, intsOf_len]) fun i h1 h2 => by simp [intsOf, List.getD, h1]
  have hop : ∀ t, t < n → openT W ts l n1 k t = decide (0 < F t) := fun t ht => by rw [hFe]; exact room_open hW0 hn ht hR
  have hpe : Hid (∀ t, t < n → ∀ r : Nat, (r : Int) < F t → ((r : Int) + 1 < F t ↔ ∀ q, q < 8 → okN W H F r t q)) := by rw [hFe]; exact Lib.hid (fun t ht r hr => near_peel hW0 hn ht hR (r := r) hr)
  have hna : Hid (∀ t q : Nat, (0 ≤ nearI W H t q → (nearI W H t q).toNat < n ∧ ((nearI W H t q).toNat : Int) = nearI W H t q) ∧ -1 ≤ nearI W H t q) := Lib.hid (fun t q => by
    have := near_at (l := ml) (t := t) (q := q) hn
    exact ⟨fun h => ⟨(this.2.1 h).1, (this.2.1 h).2.1⟩, this.2.2⟩)
  clear hFe
  have hG := Blk.new w #[.int .i64 W, .int .i64 H, .slice A n c] 24
  have hb := (Below.refl w.heap.size w).alloc (Nat.le_refl _) (.cells #[.int .i64 W, .int .i64 H, .slice A n c] 24)
  have C := Lib.hid (ref_open W H k A n c B ts A1 n1 c1 l _ (hr.below (hb.mono hB)) (Nat.le_trans hB hb.size) hg hl (hv.below hb) hn1 hall hk)
  rw [show (w.alloc (.cells #[.int .i64 W, .int .i64 H, .slice A n c] 24)).heap.size = w.heap.size + 1 by simp] at C
  have NR := Lib.hid (fun (t : Nat) (h : t < n) W' => ref_near W H t A n c W' hW0 hW1 hH0 hH1 (by omega) (by omega))
  clear hlen hts hl hll hr hv hall hR hK hp
  replace hn := Lib.hid hn
  replace hml := Lib.hid hml
  have z0 := hG.cell (i := 0) rfl
  have z1 := hG.cell (i := 1) rfl
  have z2 := hG.cell (i := 2) rfl
  go_enter Try.func13, Try.ntmps13
  go_wp2_with fail
  have hs1 : w.heap.size + 1 = (w.alloc (.cells #[.int .i64 W, .int .i64 H, .slice A n c] 24)).heap.size := by simp
  generalize w.alloc (.cells #[.int .i64 W, .int .i64 H, .slice A n c] 24) = w1 at *
  generalize hgb : w.heap.size + 1 = gb at *
  have hgw : w.heap.size < gb := by omega
  clear hgb
  refine Calls.mono C.out ?_
  rintro e w2 ⟨A2, c2, rfl, hO, hb2⟩
  clear C z0 z1 z2
  replace hG := hG.below hb2 hgw
  have hgs : gb ≤ w2.heap.size := Nat.le_trans (Nat.le_of_eq hs1) hb2.size
  replace hb := hb.trans (hb2.mono (Nat.le_of_lt hgw))
  clear hb2 hs1
  obtain ⟨g7, cap7, hv7, hg7, hl7⟩ := hO.form hn0
  injection hv7 with hv7 _ hcap7
  subst hv7; subst hcap7
  have hN := owni_made w2 n (by omega)
  have hbm := (Below.refl w2.heap.size w2).alloc (Nat.le_refl _) (.cells (zrowI n) 3)
  replace hO := own_below hO hbm
  replace hG := hG.below hbm hG.lt
  replace hb := hb.trans (hbm.mono hb.size)
  have hl8 : w2.heap.size < (w2.alloc (.cells (zrowI n) 3)).heap.size := by simp
  replace hN := own_mono hN hgs
  have h78 : g7 ≠ w2.heap.size := by omega
  have hgb3 := Nat.le_trans hgs hbm.size
  clear hbm
  go_wp2_with fail
  generalize w2.alloc (.cells (zrowI n) 3) = w3 at *
  generalize w2.heap.size = g8 at *
  have hN' : w3.ownsRow gb 3 1 (.slice (some ⟨g8, 0, none⟩) n n) n (nums .i64 (intsOf n (fun t => min (F t) ((0 : Nat) : Int)))) := by
    rw [intsOf_congr (g := fun _ => 0) (fun t _ => by have := hF1 t; show min _ _ = (0 : Int); omega), ← intsOf_zero]
    exact hN
  have hO' : w3.ownsRow gb 4 1 (.slice (some ⟨g7, 0, none⟩) n c2) n (bools n (fun t => decide (((0 : Nat) : Int) < F t))) := by
    rw [bools_congr (f := fun t => decide (((0 : Nat) : Int) < F t)) (g := openT W ts l n1 k) (fun t ht => (hop t ht).symm)]
    exact hO
  clear hN hO hop
  have hF := Lib.hid hF1
  clear hF1
  go_loopw [7, 9] (fun iv lv wr => ∃ (r g7 c7 : Nat) (lb : Bool), iv = .slice (some ⟨g7, 0, none⟩) n c7 ∧ lv = .bool lb ∧ (lb = false → ∀ t, t < n → F t ≤ (r : Int)) ∧ wr.ownsRow gb 4 1 (.slice (some ⟨g7, 0, none⟩) n c7) n (bools n (fun t => decide ((r : Int) < F t))) ∧ wr.ownsRow gb 3 1 (.slice (some ⟨g8, 0, none⟩) n n) n (nums .i64 (intsOf n (fun t => min (F t) (r : Int)))) ∧ g7 ≠ g8 ∧ gb ≤ g8 ∧ gb ≤ wr.heap.size ∧ Blk wr w.heap.size #[.int .i64 W, .int .i64 H, .slice A n c] 24 ∧ Below w.heap.size w wr) (fun _ lv w' => lackW w' g8 n + bitV lv)
  case atStart => exact ⟨0, g7, c2, true, rfl, rfl, (fun h => by cases h), hO', hN', h78, hgs, hgb3, hG, hb⟩
  case round =>
    clear hO' hN' hG hb h78 hg7 hl7 hl8 hgs hgb3
    obtain ⟨r, g7, c7, lb, rfl, rfl, hdone, hO, hN, h78, hgs, hgb3, hG, hb⟩ := hrel
    cases lb with
    | false =>
      have hN2 : wr.ownsRow gb 3 1 (.slice (some ⟨g8, 0, none⟩) n n) n (nums .i64 ml) := by
        rw [hml.out, ← intsOf_congr (f := fun t => min (F t) (r : Int)) (fun t ht => by have := hdone rfl t ht; show min _ _ = _; omega)]
        exact hN
      have HN := Lib.hid (own_mono hN2 (Nat.le_of_lt hgw))
      have HB := Lib.hid hb
      clear hO hN hN2 hG hb hdone
      go_wp2_with fail
      go_ret
      exact ⟨_, _, rfl, HN.out, HB.out⟩
    | true =>
      have hL0 := Lib.hid (lack_own hN)
      have hX := ownb_made wr n (by omega)
      have hbm := (Below.refl wr.heap.size wr).alloc (Nat.le_refl _) (.cells (zrowB n) 4)
      have hl8 : g8 < wr.heap.size := by
        obtain ⟨g', cap', hv', _, hlt'⟩ := hN.form hn0
        cases hv'
        exact hlt'
      have hl7 : g7 < wr.heap.size := by
        obtain ⟨g', cap', hv', _, hlt'⟩ := hO.form hn0
        cases hv'
        exact hlt'
      replace hX := own_mono hX hgb3
      replace hO := own_below hO hbm
      replace hN := own_below hN hbm
      replace hG := hG.below hbm hG.lt
      replace hb := hb.trans (hbm.mono hb.size)
      replace hgb3 := Nat.le_trans hgb3 hbm.size
      clear hbm hdone
      go_wp2_with fail
      generalize wr.alloc (.cells (zrowB n) 4) = w4 at *
      have h7x : g7 ≠ wr.heap.size := by omega
      have h8x : g8 ≠ wr.heap.size := by omega
      have hgx : gb ≤ wr.heap.size := by omega
      generalize wr.heap.size = g10 at *
      have hX' : w4.ownsRow gb 4 1 (.slice (some ⟨g10, 0, none⟩) n n) n (bools n (fun j => decide (j < 0 ∧ (r : Int) + 1 < F j))) := by
        rw [bools_congr (g := fun _ => false) (fun t _ => by simp)]
        exact hX
      have hN' : w4.ownsRow gb 3 1 (.slice (some ⟨g8, 0, none⟩) n n) n (nums .i64 (intsOf n (fun j => if j < 0 then min (F j) ((r : Int) + 1) else min (F j) (r : Int)))) := by
        rw [intsOf_congr (g := fun j => min (F j) (r : Int)) (fun t _ => by simp)]
        exact hN
      clear hX hN hl7 hl8
      go_loopw [9, 11] (fun lv tv wq => ∃ (t : Nat), t ≤ n ∧ tv = .int .i64 t ∧ lv = .bool (anyB F r t) ∧ wq.ownsRow gb 4 1 (.slice (some ⟨g7, 0, none⟩) n c7) n (bools n (fun t => decide ((r : Int) < F t))) ∧ wq.ownsRow gb 3 1 (.slice (some ⟨g8, 0, none⟩) n n) n (nums .i64 (intsOf n (fun j => if j < t then min (F j) ((r : Int) + 1) else min (F j) (r : Int)))) ∧ wq.ownsRow gb 4 1 (.slice (some ⟨g10, 0, none⟩) n n) n (bools n (fun j => decide (j < t ∧ (r : Int) + 1 < F j))) ∧ g10 < wq.heap.size ∧ gb ≤ wq.heap.size ∧ Blk wq w.heap.size #[.int .i64 W, .int .i64 H, .slice A n c] 24 ∧ Below w.heap.size w wq) (fun _ tv _ => n - (intOf tv).toNat)
      case atStart =>
        have hl10 : g10 < w4.heap.size := by
          obtain ⟨g', cap', hv', _, hlt'⟩ := hX'.form hn0
          cases hv'
          exact hlt'
        exact ⟨0, Nat.zero_le _, rfl, by simp [anyB], hO, hN', hX', hl10, hgb3, hG, hb⟩
      case round =>
        clear hO hN' hX' hG hb hgb3
        obtain ⟨t, ht, rfl, rfl, hO, hN, hX, hl10, hgb3, hG, hb⟩ := hrel
        by_cases htn : t < n
        case neg =>
          obtain rfl : t = n := by omega
          have hX2 : wr.ownsRow gb 4 1 (.slice (some ⟨g10, 0, none⟩) t t) t (bools t (fun j => decide ((((r + 1 : Nat)) : Int) < F j))) := by
            rw [bools_congr (g := fun j => decide (j < t ∧ (r : Int) + 1 < F j)) (fun j hj => by simp [hj])]
            exact hX
          have hN2 : wr.ownsRow gb 3 1 (.slice (some ⟨g8, 0, none⟩) t t) t (nums .i64 (intsOf t (fun j => min (F j) ((r + 1 : Nat) : Int)))) := by
            rw [intsOf_congr (g := fun j => if j < t then min (F j) ((r : Int) + 1) else min (F j) (r : Int)) (fun j hj => by rw [if_pos hj]; simp)]
            exact hN
          have hL1 := lack_own hN2
          have hL : lackW wr g8 t + bitV (.bool (anyB F r t)) < sumTo (fun j => 128 - (min (F j) (r : Int)).toNat) t + 1 := by
            show _ < sumTo _ _ + 1
            rw [hL1]
            by_cases hex : ∃ j, j < t ∧ (r : Int) + 1 < F j
            · rw [(anyB_iff t).2 hex]
              have := sumTo_lt (f := fun j => 128 - (min (F j) ((r + 1 : Nat) : Int)).toNat) (g := fun j => 128 - (min (F j) (r : Int)).toNat) t (fun j _ => lack_le _ _) (by
                obtain ⟨j, h1, h2⟩ := hex
                exact ⟨j, h1, lack_lt h2 (hF.out j).2⟩)
              show _ + 1 < _
              omega
            · rw [Bool.eq_false_iff.2 (fun h => hex ((anyB_iff t).1 h))]
              have := sumTo_le (f := fun j => 128 - (min (F j) ((r + 1 : Nat) : Int)).toNat) (g := fun j => 128 - (min (F j) (r : Int)).toNat) t (fun j _ => lack_le _ _)
              show _ + 0 < _
              omega
          have HL := Lib.hid hL
          have HX := Lib.hid hX2
          have HN := Lib.hid hN2
          have HG := Lib.hid hG
          have HB := Lib.hid hb
          have HD := Lib.hid (show anyB F r t = false → ∀ j, j < t → F j ≤ ((r + 1 : Nat) : Int) from fun h j hj => by
            have h3 : ¬ (r : Int) + 1 < F j := fun hc => by rw [(anyB_iff t).2 ⟨j, hj, hc⟩] at h; cases h
            omega)
          generalize anyB F r t = lb at *
          clear hX hX2 hN hN2 hO hG hb hL hL1
          go_wp2_with fail
          go_roundw
          case rel => exact ⟨r + 1, g10, t, lb, rfl, rfl, HD.out, HX.out, HN.out, fun h => h8x h.symm, hgs, hgb3, HG.out, HB.out⟩
          case measure =>
            have := HL.out
            rw [hL0.out]
            exact this
        have htz : (t : Int) < (n : Int) := by omega
        have hrow := hpe.out t htn r
        obtain ⟨g', hg', _, hl7, hc7, hf7⟩ := ownb_at hO htn
        cases hg'
        by_cases hin : (r : Int) < F t
        case neg =>
          rw [decide_eq_false hin] at hc7
          rw [bools_congr (g := fun j => decide (j < t + 1 ∧ (r : Int) + 1 < F j)) (fun j _ => by
            refine decide_eq_decide.2 ⟨fun h => ⟨by omega, h.2⟩, fun ⟨h1, h2⟩ => ⟨?_, h2⟩⟩
            by_cases e : j = t
            · subst e; omega
            · omega)] at hX
          rw [intsOf_congr (g := fun j => if j < t + 1 then min (F j) ((r : Int) + 1) else min (F j) (r : Int)) (fun j _ => by
            by_cases e : j = t
            · subst e; rw [if_neg (Nat.lt_irrefl _), if_pos (by omega)]; omega
            · have : (j < t) ↔ (j < t + 1) := by omega
              simp only [this])] at hN
          have hA : anyB F r t = anyB F r (t + 1) := by
            show _ = (anyB F r t || decide ((r : Int) + 1 < F t))
            rw [decide_eq_false (by omega), Bool.or_false]
          rw [hA]
          have HX := Lib.hid hX
          have HN := Lib.hid hN
          have HO := Lib.hid hO
          have HG := Lib.hid hG
          have HB := Lib.hid hb
          generalize hlb : anyB F r (t + 1) = lb at *
          have HLB := Lib.hid hlb
          clear hX hN hO hG hb hA hrow hlb
          go_wp2_with fail
          go_roundw
          case rel => exact ⟨t + 1, by omega, by go_num, by rw [HLB.out], HO.out, HN.out, HX.out, hl10, hgb3, HG.out, HB.out⟩
          case measure => simp [intOf]; omega
        rw [decide_eq_true hin] at hc7
        have hr0 : (0 : Int) ≤ (r : Int) := by omega
        have hr1 : (r : Int) < 128 := by have := hF.out t; omega
        have HROW := Lib.hid (hrow hin)
        clear hrow
        obtain ⟨g', hg', _, hl8, hc8, hf8⟩ := own_at hN htn
        cases hg'
        rw [intsOf_at htn, if_neg (Nat.lt_irrefl t), show min (F t) (r : Int) = (r : Int) by omega] at hc8
        have hN1 := own_store (k := t) hN ((r : Int) + 1)
        rw [intsOf_set, intsOf_congr (g := fun j => if j < t + 1 then min (F j) ((r : Int) + 1) else min (F j) (r : Int)) (fun j _ => by
          by_cases e : j = t
          · subst e; rw [if_pos rfl, if_pos (by omega)]; omega
          · have : (j < t) ↔ (j < t + 1) := by omega
            rw [if_neg e]
            simp only [this])] at hN1
        have hX1 := own_off hX (b := g8) (o := t) (fun h => h8x h.symm) (.int .i64 ((r : Int) + 1))
        have hO1 := own_off hO (b := g8) (o := t) h78 (.int .i64 ((r : Int) + 1))
        have hG1 := hG.other (a := ⟨g8, t, none⟩) (by show w.heap.size ≠ g8; omega) (.int .i64 ((r : Int) + 1))
        have hb1 := hb.setCell (p := ⟨g8, t, none⟩) (by show w.heap.size ≤ g8; omega) (.int .i64 ((r : Int) + 1))
        obtain ⟨g', hg', _, _, hc10, hf10⟩ := ownb_at hX1 htn
        cases hg'
        have hN2 := own_off hN1 (b := g10) (o := t) h8x (.bool true)
        have hX2 := ownb_store (k := t) hX1 true
        have hO2 := own_off hO1 (b := g10) (o := t) h7x (.bool true)
        have hG2 := hG1.other (a := ⟨g10, t, none⟩) (by show w.heap.size ≠ g10; omega) (.bool true)
        have hb2 := hb1.setCell (p := ⟨g10, t, none⟩) (by show w.heap.size ≤ g10; omega) (.bool true)
        have z0 := hG2.cell (i := 0) rfl
        have z1 := hG2.cell (i := 1) rfl
        have z2 := hG2.cell (i := 2) rfl
        have y0 := hG.cell (i := 0) rfl
        have y1 := hG.cell (i := 1) rfl
        have y2 := hG.cell (i := 2) rfl
        have hgg8 : w.heap.size ≠ g8 := by omega
        have hgg10 : w.heap.size ≠ g10 := by omega
        have hg810 : g10 ≠ g8 := fun h => h8x h.symm
        have HX := Lib.hid hX2
        have HN := Lib.hid hN2
        have HO := Lib.hid hO2
        have HG := Lib.hid hG2
        have HB := Lib.hid hb2
        clear hX hN hO hG hb hX1 hN1 hO1 hG1 hb1 hX2 hN2 hO2 hG2 hb2
        have hsz : ((wr.setCell ⟨g8, t, none⟩ (.int .i64 ((r : Int) + 1))).setCell ⟨g10, t, none⟩ (.bool true)).heap.size = wr.heap.size := by simp
        go_wp2_with fail
        generalize (wr.setCell ⟨g8, t, none⟩ (.int .i64 ((r : Int) + 1))).setCell ⟨g10, t, none⟩ (.bool true) = w5 at *
        clear z0 z1 z2 y0 y1 y2 hc7 hf7 hc8 hf8 hc10 hf10
        refine Calls.mono (NR.out t htn _) ?_
        rintro e w6 ⟨A12, c12, rfl, hV, hb6⟩
        have hlen : (nearL W H (t : Int)).length = 8 := rfl
        rw [hlen] at hV ⊢
        have hn8 : ∀ q, q < 8 → (nearL W H (t : Int)).getD q 0 = nearI W H t q := fun q hq => by
          rcases (show q = 0 ∨ q = 1 ∨ q = 2 ∨ q = 3 ∨ q = 4 ∨ q = 5 ∨ q = 6 ∨ q = 7 by omega) with rfl | rfl | rfl | rfl | rfl | rfl | rfl | rfl <;> rfl
        replace hn8 := Lib.hid hn8
        clear hlen
        generalize nearL W H (t : Int) = nl at *
        obtain ⟨g12, cap12, hv12, hg12, hl12⟩ := hV.form (by omega)
        injection hv12 with hv12 _ hcap12
        subst hv12; subst hcap12
        rw [hsz] at hg12
        have h12x : g12 ≠ g10 := by omega
        replace hV := own_mono hV (show gb ≤ w5.heap.size by omega)
        have hX := own_below HX.out hb6
        have hN := own_below HN.out hb6
        have hO := own_below HO.out hb6
        have hG := HG.out.below hb6 HG.out.lt
        have hb := HB.out.trans (hb6.mono HB.out.size)
        have hl10' : g10 < w6.heap.size := by have := hb6.size; omega
        have hgb4 : gb ≤ w6.heap.size := by have := hb6.size; omega
        clear HX HN HO HG HB hb6 hl10 hsz hg12 hl12
        have hX' : w6.ownsRow gb 4 1 (.slice (some ⟨g10, 0, none⟩) n n) n (bools n (fun j => if j = t then okAll W H F r t 0 else decide (j < t ∧ (r : Int) + 1 < F j))) := by
          exact hX
        clear hX
        go_wp2_with fail
        go_loopw [13] (fun iv wx => ∃ (i : Nat), i ≤ 8 ∧ iv = .int .i64 i ∧ wx.ownsRow gb 4 1 (.slice (some ⟨g7, 0, none⟩) n c7) n (bools n (fun t => decide ((r : Int) < F t))) ∧ wx.ownsRow gb 3 1 (.slice (some ⟨g8, 0, none⟩) n n) n (nums .i64 (intsOf n (fun j => if j < t + 1 then min (F j) ((r : Int) + 1) else min (F j) (r : Int)))) ∧ wx.ownsRow gb 4 1 (.slice (some ⟨g10, 0, none⟩) n n) n (bools n (fun j => if j = t then okAll W H F r t i else decide (j < t ∧ (r : Int) + 1 < F j))) ∧ wx.ownsRow gb 3 1 (.slice (some ⟨g12, 0, none⟩) 8 c12) 8 (nums .i64 nl) ∧ g10 < wx.heap.size ∧ gb ≤ wx.heap.size ∧ Blk wx w.heap.size #[.int .i64 W, .int .i64 H, .slice A n c] 24 ∧ Below w.heap.size w wx) (fun iv _ => 8 - (intOf iv).toNat)
        case atStart => exact ⟨0, by omega, rfl, hO, hN, hX', hV, hl10', hgb4, hG, hb⟩
        case round =>
          clear hO hN hX' hV hl10' hgb4 hG hb
          obtain ⟨i, hi, rfl, hO, hN, hX, hV, hl10, hgb4, hG, hb⟩ := hrel
          by_cases hi8 : i < 8
          case neg =>
            obtain rfl : i = 8 := by omega
            have hfin : okAll W H F r t 8 = decide ((r : Int) + 1 < F t) := by rw [Bool.eq_iff_iff, okAll_iff, decide_eq_true_eq, HROW.out]
            rw [bools_congr (g := fun j => decide (j < t + 1 ∧ (r : Int) + 1 < F j)) (fun j _ => by
              by_cases e : j = t
              · subst e; rw [if_pos rfl, hfin]; exact decide_eq_decide.2 ⟨fun h => ⟨by omega, h⟩, fun h => h.2⟩
              · rw [if_neg e]; exact decide_eq_decide.2 ⟨fun h => ⟨by omega, h.2⟩, fun h => ⟨by omega, h.2⟩⟩)] at hX
            obtain ⟨g', hg', _, _, hc10, hf10⟩ := ownb_at hX htn
            cases hg'
            have hA : anyB F r (t + 1) = (anyB F r t || decide (t < t + 1 ∧ (r : Int) + 1 < F t)) := by
              show (anyB F r t || decide ((r : Int) + 1 < F t)) = _
              congr 1
              exact decide_eq_decide.2 ⟨fun h => ⟨by omega, h⟩, fun h => h.2⟩
            have HA := Lib.hid hA
            have HX := Lib.hid hX
            have HN := Lib.hid hN
            have HO := Lib.hid hO
            have HG := Lib.hid hG
            have HB := Lib.hid hb
            clear hX hN hO hG hb hA hfin hV
            generalize anyB F r t = lb at *
            generalize decide (t < t + 1 ∧ (r : Int) + 1 < F t) = lc at *
            cases lb
            all_goals
              go_wp2_with fail
              go_roundw
              case rel => exact ⟨t + 1, by omega, by go_num, by rw [HA.out]; first | rfl | simp, HO.out, HN.out, HX.out, hl10, hgb4, HG.out, HB.out⟩
              case measure => simp [intOf]; omega
          have hiz : (i : Int) < 8 := by omega
          obtain ⟨g', hg', _, _, hcv, _⟩ := own_at hV hi8
          cases hg'
          rw [hn8.out i hi8] at hcv
          obtain ⟨hnb, hnlo⟩ := hna.out t i
          have hST : okAll W H F r t (i + 1) = (decide (okN W H F r t i) && okAll W H F r t i) := rfl
          have hSTORE : Hid (∀ b : Bool, okAll W H F r t (i + 1) = (b && okAll W H F r t i) → b = false → (wr.setCell ⟨g10, t, none⟩ (.bool false)).ownsRow gb 4 1 (.slice (some ⟨g10, 0, none⟩) n n) n (bools n (fun j => if j = t then okAll W H F r t (i + 1) else decide (j < t ∧ (r : Int) + 1 < F j)))) := Lib.hid (fun b h1 h2 => by
            have := ownb_store (k := t) hX false
            rwa [bools_congr (g := fun j => if j = t then okAll W H F r t (i + 1) else decide (j < t ∧ (r : Int) + 1 < F j)) (fun j _ => by
              by_cases e : j = t
              · rw [if_pos e, if_pos e, h1, h2]; rfl
              · rw [if_neg e, if_neg e, if_neg e])] at this)
          have hO1 := Lib.hid (own_off hO (b := g10) (o := t) h7x (.bool false))
          have hN1 := Lib.hid (own_off hN (b := g10) (o := t) h8x (.bool false))
          have hV1 := Lib.hid (own_off hV (b := g10) (o := t) h12x (.bool false))
          have hG1 := Lib.hid (hG.other (a := ⟨g10, t, none⟩) (by show w.heap.size ≠ g10; omega) (.bool false))
          have hb1 := Lib.hid (hb.setCell (p := ⟨g10, t, none⟩) (by show w.heap.size ≤ g10; omega) (.bool false))
          have hsz : (wr.setCell ⟨g10, t, none⟩ (.bool false)).heap.size = wr.heap.size := by simp
          obtain ⟨g', hg', _, _, hc10, hf10⟩ := ownb_at hX htn
          cases hg'
          generalize (if t = t then okAll W H F r t i else decide (t < t ∧ (r : Int) + 1 < F t)) = old at *
          by_cases hneg : nearI W H t i < 0
          case pos =>
            have HX := Lib.hid (hSTORE.out false (by rw [hST, decide_eq_false (fun h => by have := h.1; omega)]) rfl)
            have d1 : decide (nearI W H t i < 0) = true := by simp; omega
            generalize nearI W H t i = v at *
            clear hX hN hO hG hb hV hnb hnlo hST hSTORE
            go_wp2_with fail
            go_roundw
            case rel => exact ⟨i + 1, by omega, by go_num, hO1.out, hN1.out, HX.out, hV1.out, by rw [hsz]; exact hl10, by rw [hsz]; exact hgb4, hG1.out, hb1.out⟩
            case measure => simp [intOf]; omega
          obtain ⟨hz1, hz2⟩ := hnb (by omega)
          have hokN : decide (okN W H F r t i) = decide ((r : Int) < F (nearI W H t i).toNat) := decide_eq_decide.2 ⟨fun h => h.2, fun h => ⟨by omega, h⟩⟩
          rw [hokN] at hST
          generalize (nearI W H t i).toNat = z at *
          rw [← hz2] at hcv hneg
          have hzz : (z : Int) < (n : Int) := by omega
          obtain ⟨g', hg', _, _, hcz, hfz⟩ := ownb_at hO hz1
          cases hg'
          clear hnb hnlo hokN hz2
          by_cases hF2 : (r : Int) < F z
          case neg =>
            rw [decide_eq_false hF2] at hcz hST
            have HX := Lib.hid (hSTORE.out false hST rfl)
            clear hX hN hO hG hb hV hST hSTORE hF2
            go_wp2_with fail
            go_roundw
            case rel => exact ⟨i + 1, by omega, by go_num, hO1.out, hN1.out, HX.out, hV1.out, by rw [hsz]; exact hl10, by rw [hsz]; exact hgb4, hG1.out, hb1.out⟩
            case measure => simp [intOf]; omega
          rw [decide_eq_true hF2] at hcz hST
          have hX2 : wr.ownsRow gb 4 1 (.slice (some ⟨g10, 0, none⟩) n n) n (bools n (fun j => if j = t then okAll W H F r t (i + 1) else decide (j < t ∧ (r : Int) + 1 < F j))) := by
            rw [hST, Bool.true_and]
            exact hX
          have HX := Lib.hid hX2
          have HN := Lib.hid hN
          have HO := Lib.hid hO
          have HV := Lib.hid hV
          have HG := Lib.hid hG
          have HB := Lib.hid hb
          clear hX hX2 hN hO hG hb hV hST hSTORE hF2 hO1 hN1 hV1 hG1 hb1 hsz
          go_wp2_with fail
          go_roundw
          case rel => exact ⟨i + 1, by omega, by go_num, HO.out, HN.out, HX.out, HV.out, hl10, hgb4, HG.out, HB.out⟩
          case measure => simp [intOf]; omega
end Go.Proofs.Ytfgjiaakoacomaa
