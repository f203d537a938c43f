/- Which tiles are good for a size? The game's and the page's. -/
import Derived.Test.YtfgjiaakoacomaaFieldMay
import Derived.Test.YtfgjiaakoacomaaRefGrid
namespace Go.Proofs.Ytfgjiaakoacomaa
set_option maxRecDepth 20000
open Go.RowKit

/-- Room for a size. -/
def goodT (ml : List Int) (s : Int) (t : Nat) : Bool := decide (s < ml.getD t 0)

set_option maxHeartbeats 3200000 in
set_option maxRecDepth 20000 in
theorem field_fit (W H k s : Int) (A : Option Addr) (n c B : Nat) (ts : List Int) (A1 : Option Addr) (n1 c1 : Nat) (l : List Bd) (w : World) (hr : Reads w B 1 A n (nums .u8 ts)) (hB : B ≤ w.heap.size) (hg : isG W H ts = true) (hl : IsBytes ts) (hv : BdsL w A1 n1 l) (hn1 : n1 ≤ 1000000)
    (hall : ∀ i, i < n1 → formP (bdAt l i) ∧ onP W H (bdAt l i)) (hk : classP k) (ml : List Int) (hR : RoomL W H n (openT W ts l n1 k) ml) :
    Calls Try.prog 48 #[.agg #[.int .i64 W, .int .i64 H, .slice A n c], .slice A1 n1 c1, .int .i64 k, .int .i64 s] w (GivesBools w.heap.size w n (goodT ml s)) := by
  obtain ⟨hW0, hW1, hH0, hH1, hlen, hts⟩ := isG_bounds hg
  have hll : ts.length = n := by have := hr.1; simpa [nums] using this
  have hn : (n : Int) = W * H := by omega
  have hp := prod_range hW0 hW1 hH0 hH1
  have hn4 : n ≤ 16384 := by omega
  have hn0 : 0 < n := by omega
  have hmb : ∀ w, (Instr.makeSlice 39 (.int .i64 (n : Int)) (.int .i64 (n : Int))).run Try.prog w = .ok (.slice (some ⟨w.heap.size, 0, none⟩) n n) (w.alloc (.cells (zrowB n) 4)) := fun w => make_bools n w (by omega)
  have hG := Blk.new w #[.int .i64 W, .int .i64 H, .slice A n c] 24
  have hb := (Below.refl w.heap.size w).alloc (Nat.le_refl _) (.cells #[.int .i64 W, .int .i64 H, .slice A n c] 24)
  have hO := ownb_made (w.alloc (.cells #[.int .i64 W, .int .i64 H, .slice A n c] 24)) n (by omega)
  have hbm := (Below.refl (w.alloc (.cells #[.int .i64 W, .int .i64 H, .slice A n c] 24)).heap.size (w.alloc (.cells #[.int .i64 W, .int .i64 H, .slice A n c] 24))).alloc (Nat.le_refl _) (.cells (zrowB n) 4)
  have z2' := hG.cell (i := 2) rfl
  replace hG := hG.below hbm hG.lt
  replace hb := hb.trans (hbm.mono hb.size)
  rw [show (w.alloc (.cells #[.int .i64 W, .int .i64 H, .slice A n c] 24)).heap.size = w.heap.size + 1 by simp] at hO
  have C := Lib.hid (clear_room W H k A n c B ts A1 n1 c1 l _ (hr.below (hb.mono hB)) (Nat.le_trans hB hb.size) hg hl (hv.below hb) hn1 hall hk)
  have HSAME := Lib.hid (fun m h => roomL_same (m := m) hW0 hn hR h)
  clear hbm hlen hts hl hll hr hv hall hR hp hn
  have z0 := hG.cell (i := 0) rfl
  have z1 := hG.cell (i := 1) rfl
  have z2 := hG.cell (i := 2) rfl
  go_enter Try.func48, Try.ntmps48
  go_wp2_with fail
  generalize (w.alloc (.cells #[.int .i64 W, .int .i64 H, .slice A n c] 24)).alloc (.cells (zrowB n) 4) = w3 at *
  generalize hge : w.heap.size + 1 = g at *
  have hgw : w.heap.size < g := by omega
  clear hge
  refine Calls.mono C.out ?_
  rintro e w4 ⟨A3, c3, ml', rfl, hOi, hR', hK, hb4⟩
  obtain rfl := HSAME.out _ hR'
  clear C z0 z1 z2 z2' HSAME hR'
  have hgl : g < w3.heap.size := by
    obtain ⟨g', cap, hv, _, hlt⟩ := hO.form hn0
    cases hv
    exact hlt
  have hs3 := hb4.size
  replace hO := own_below hO hb4
  replace hb := hb.trans (hb4.mono hb.size)
  clear hb4 hG
  have hF := okK_at hK
  obtain ⟨g3, cap3, hv3, hg3, hgl3⟩ := hOi.form hn0
  injection hv3 with hv3 _ hcap3
  subst hv3; subst hcap3
  have h3g : g3 ≠ g := by omega
  clear hK hgl3
  have hO' : w4.ownsRow g 4 1 (.slice (some ⟨g, 0, none⟩) n n) n (bools n (fun t => if t < 0 then goodT ml s t else false)) := by
    rw [bools_congr (g := fun _ => false) (fun t _ => by simp)]
    exact hO
  clear hO
  go_wp2_with fail
  go_loopw [21] (fun i wr => ∃ (q : Nat), q ≤ n ∧ i = .int .i64 q ∧ wr.ownsRow g 4 1 (.slice (some ⟨g, 0, none⟩) n n) n (bools n (fun t => if t < q then goodT ml s t else false)) ∧ wr.ownsRow w3.heap.size 3 1 (.slice (some ⟨g3, 0, none⟩) n c3) n (nums .i64 ml) ∧ Below w.heap.size w wr) (fun i _ => n - (intOf i).toNat)
  case atStart => exact ⟨0, Nat.zero_le _, rfl, hO', hOi, hb⟩
  case round =>
    clear hO' hOi hb
    obtain ⟨q, hq, rfl, hO, hOi, hb⟩ := hrel
    by_cases hqn : q < n
    case neg =>
      obtain rfl : q = n := by omega
      rw [bools_congr (g := goodT ml s) (fun t ht => by rw [if_pos ht])] at hO
      have HO := Lib.hid (own_mono hO (Nat.le_of_lt hgw))
      have HB := Lib.hid hb
      clear hO hOi hb
      go_wp2_with fail
      go_ret
      exact ⟨_, _, rfl, HO.out, HB.out⟩
    obtain ⟨g', hg', _, hgl', hcb, hfb⟩ := ownb_at hO hqn
    cases hg'
    rw [if_neg (Nat.lt_irrefl q)] at hcb
    obtain ⟨g', hg', _, _, hc2, _⟩ := own_at hOi hqn
    cases hg'
    have hFq := hF q
    have hO2 := ownb_store (k := q) hO (decide (s < ml.getD q 0))
    rw [bools_congr (g := fun t => if t < q + 1 then goodT ml s t else false) (fun t _ => by
      by_cases e : t = q
      · subst e; rw [if_pos rfl, if_pos (by omega)]; rfl
      · have : (t < q) ↔ (t < q + 1) := by omega
        rw [if_neg e]
        simp only [this])] at hO2
    have HO := Lib.hid hO2
    have HB := Lib.hid (hb.setCell (p := ⟨g, q, none⟩) (by show w.heap.size ≤ g; omega) (.bool (decide (s < ml.getD q 0))))
    have HRI := Lib.hid (own_off hOi (b := g) (o := q) h3g (.bool (decide (s < ml.getD q 0))))
    clear hO hO2 hb hOi
    generalize ml.getD q 0 = Fq at *
    go_wp2_with fail
    go_roundw
    case rel => exact ⟨q + 1, by omega, by go_num, HO.out, HRI.out, HB.out⟩
    case measure => simp [intOf]; omega

set_option maxHeartbeats 3200000 in
set_option maxRecDepth 20000 in
theorem ref_good (W H k s : Int) (A : Option Addr) (n c B : Nat) (ts : List Int) (A1 : Option Addr) (n1 c1 : Nat) (l : List Bd) (w : World) (hr : Reads w B 1 A n (nums .u8 ts)) (hB : B ≤ w.heap.size) (hg : isG W H ts = true) (hl : IsBytes ts) (hv : BdsL w A1 n1 l) (hn1 : n1 ≤ 1000000)
    (hall : ∀ i, i < n1 → formP (bdAt l i) ∧ onP W H (bdAt l i)) (hk : classP k) (ml : List Int) (hR : RoomL W H n (openT W ts l n1 k) ml) (hK : okK n ml) :
    Calls Try.prog 33 #[.agg #[.int .i64 W, .int .i64 H, .slice A n c], .slice A1 n1 c1, .int .i64 k, .int .i64 s] w (GivesBools w.heap.size w n (goodT ml s)) := by
  obtain ⟨hW0, hW1, hH0, hH1, hlen, hts⟩ := isG_bounds hg
  have hll : ts.length = n := by have := hr.1; simpa [nums] using this
  have hn : (n : Int) = W * H := by omega
  have hp := prod_range hW0 hW1 hH0 hH1
  have hn4 : n ≤ 16384 := by omega
  have hn0 : 0 < n := by omega
  have hmb : ∀ w, (Instr.makeSlice 39 (.int .i64 (n : Int)) (.int .i64 (n : Int))).run Try.prog w = .ok (.slice (some ⟨w.heap.size, 0, none⟩) n n) (w.alloc (.cells (zrowB n) 4)) := fun w => make_bools n w (by omega)
  have hG := Blk.new w #[.int .i64 W, .int .i64 H, .slice A n c] 24
  have hb := (Below.refl w.heap.size w).alloc (Nat.le_refl _) (.cells #[.int .i64 W, .int .i64 H, .slice A n c] 24)
  have C := Lib.hid (ref_grid W H k A n c B ts A1 n1 c1 l _ (hr.below (hb.mono hB)) (Nat.le_trans hB hb.size) hg hl (hv.below hb) hn1 hall hk ml hR hK)
  have hF := okK_at hK
  clear hlen hts hl hll hr hv hall hR hp hn hK
  have z0 := hG.cell (i := 0) rfl
  have z1 := hG.cell (i := 1) rfl
  have z2 := hG.cell (i := 2) rfl
  go_enter Try.func33, Try.ntmps33
  go_wp2_with fail
  generalize w.alloc (.cells #[.int .i64 W, .int .i64 H, .slice A n c] 24) = w1 at *
  refine Calls.mono C.out ?_
  rintro e w2 ⟨A3, c3, rfl, hOi, hb2⟩
  clear C z0 z1 z2 hG
  have hs1 := hb.size
  replace hb := hb.trans (hb2.mono hb.size)
  have hs2 := hb.size
  clear hb2
  obtain ⟨g3, cap3, hv3, hg3, hgl3⟩ := hOi.form hn0
  injection hv3 with hv3 _ hcap3
  subst hv3; subst hcap3
  have hO := ownb_made w2 n (by omega)
  have hbm := (Below.refl w2.heap.size w2).alloc (Nat.le_refl _) (.cells (zrowB n) 4)
  replace hOi := own_below hOi hbm
  replace hb := hb.trans (hbm.mono hb.size)
  have h3g : g3 ≠ w2.heap.size := by omega
  clear hbm hgl3
  go_wp2_with fail
  generalize w2.alloc (.cells (zrowB n) 4) = w3 at *
  generalize w2.heap.size = g at *
  have hO' : w3.ownsRow g 4 1 (.slice (some ⟨g, 0, none⟩) n n) n (bools n (fun t => if t < 0 then goodT ml s t else false)) := by
    rw [bools_congr (g := fun _ => false) (fun t _ => by simp)]
    exact hO
  clear hO
  go_loopw [11] (fun i wr => ∃ (q : Nat), q ≤ n ∧ i = .int .i64 q ∧ wr.ownsRow g 4 1 (.slice (some ⟨g, 0, none⟩) n n) n (bools n (fun t => if t < q then goodT ml s t else false)) ∧ wr.ownsRow w1.heap.size 3 1 (.slice (some ⟨g3, 0, none⟩) n c3) n (nums .i64 ml) ∧ Below w.heap.size w wr) (fun i _ => n - (intOf i).toNat)
  case atStart => exact ⟨0, Nat.zero_le _, rfl, hO', hOi, hb⟩
  case round =>
    clear hO' hOi hb
    obtain ⟨q, hq, rfl, hO, hOi, hb⟩ := hrel
    by_cases hqn : q < n
    case neg =>
      obtain rfl : q = n := by omega
      rw [bools_congr (g := goodT ml s) (fun t ht => by rw [if_pos ht])] at hO
      have HO := Lib.hid (own_mono hO hs2)
      have HB := Lib.hid hb
      clear hO hOi hb
      go_wp2_with fail
      go_ret
      exact ⟨_, _, rfl, HO.out, HB.out⟩
    obtain ⟨g', hg', _, hgl', hcb, hfb⟩ := ownb_at hO hqn
    cases hg'
    rw [if_neg (Nat.lt_irrefl q)] at hcb
    obtain ⟨g', hg', _, _, hc2, _⟩ := own_at hOi hqn
    cases hg'
    have hFq := hF q
    have hO2 := ownb_store (k := q) hO (decide (s < ml.getD q 0))
    rw [bools_congr (g := fun t => if t < q + 1 then goodT ml s t else false) (fun t _ => by
      by_cases e : t = q
      · subst e; rw [if_pos rfl, if_pos (by omega)]; rfl
      · have : (t < q) ↔ (t < q + 1) := by omega
        rw [if_neg e]
        simp only [this])] at hO2
    have HO := Lib.hid hO2
    have HB := Lib.hid (hb.setCell (p := ⟨g, q, none⟩) hs2 (.bool (decide (s < ml.getD q 0))))
    have HRI := Lib.hid (own_off hOi (b := g) (o := q) h3g (.bool (decide (s < ml.getD q 0))))
    clear hO hO2 hb hOi
    generalize ml.getD q 0 = Fq at *
    go_wp2_with fail
    go_roundw
    case rel => exact ⟨q + 1, by omega, by go_num, HO.out, HRI.out, HB.out⟩
    case measure => simp [intOf]; omega
end Go.Proofs.Ytfgjiaakoacomaa
