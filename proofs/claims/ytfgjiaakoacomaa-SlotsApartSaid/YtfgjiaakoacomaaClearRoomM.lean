/- How much room has each tile? The game's own way. -/
import Derived.Test.YtfgjiaakoacomaaTileMathM
import Derived.Test.YtfgjiaakoacomaaBuildRise
import Derived.Test.YtfgjiaakoacomaaOpen
namespace Go.Proofs.Ytfgjiaakoacomaa
set_option maxRecDepth 20000
open Go.RowKit

def intsOf (n : Nat) (f : Nat → Int) : List Int := (List.range n).map f
theorem intsOf_len (n : Nat) (f : Nat → Int) : (intsOf n f).length = n := by simp [intsOf]
theorem intsOf_at {n : Nat} {f : Nat → Int} {t : Nat} (h : t < n) : (intsOf n f).getD t 0 = f t := by simp [intsOf, List.getD, h]
theorem intsOf_congr {n : Nat} {f g : Nat → Int} (h : ∀ t, t < n → f t = g t) : intsOf n f = intsOf n g := List.map_congr_left fun t ht => h t (List.mem_range.1 ht)
theorem intsOf_set (n : Nat) (f : Nat → Int) (k : Nat) (v : Int) : (intsOf n f).set k v = intsOf n (fun t => if t = k then v else f t) := by
  refine List.ext_getElem (by simp [intsOf]) fun i h1 h2 => ?_
  simp only [intsOf, List.getElem_set, List.getElem_map, List.getElem_range]
  by_cases e : k = i
  · subst e; simp
  · rw [if_neg e, if_neg (fun h => e h.symm)]
theorem intsOf_zero (n : Nat) : List.replicate n (0 : Int) = intsOf n (fun _ => 0) := List.ext_getElem (by simp [intsOf]) fun i h1 h2 => by simp [intsOf]

theorem upW_small : ∀ d ∈ upW, (-1 ≤ d.1 ∧ d.1 ≤ 1) ∧ (-1 ≤ d.2 ∧ d.2 ≤ 1) := by unfold upW; simp
theorem upW_cells {w : World} {b : Nat} (h : Blk w b #[.int .i64 (-1), .int .i64 0, .int .i64 (-1), .int .i64 (-1), .int .i64 0, .int .i64 (-1), .int .i64 1, .int .i64 (-1)] 80) : ∀ i, i < 4 → w.cell? ⟨b, i * 2, none⟩ = some (.int .i64 (upW.getD i (0, 0)).1) ∧ w.cell? ⟨b, i * 2 + 1, none⟩ = some (.int .i64 (upW.getD i (0, 0)).2) := fun i hi => by
  rcases (show i = 0 ∨ i = 1 ∨ i = 2 ∨ i = 3 by omega) with rfl | rfl | rfl | rfl
  all_goals exact ⟨h.cell rfl, h.cell rfl⟩
theorem dnW_small : ∀ d ∈ dnW, (-1 ≤ d.1 ∧ d.1 ≤ 1) ∧ (-1 ≤ d.2 ∧ d.2 ≤ 1) := by unfold dnW; simp
theorem dnW_cells {w : World} {b : Nat} (h : Blk w b #[.int .i64 1, .int .i64 0, .int .i64 1, .int .i64 1, .int .i64 0, .int .i64 1, .int .i64 (-1), .int .i64 1] 80) : ∀ i, i < 4 → w.cell? ⟨b, i * 2, none⟩ = some (.int .i64 (dnW.getD i (0, 0)).1) ∧ w.cell? ⟨b, i * 2 + 1, none⟩ = some (.int .i64 (dnW.getD i (0, 0)).2) := fun i hi => by
  rcases (show i = 0 ∨ i = 1 ∨ i = 2 ∨ i = 3 by omega) with rfl | rfl | rfl | rfl
  all_goals exact ⟨h.cell rfl, h.cell rfl⟩

def GivesRoom (W H : Int) (w : World) (n : Nat) (f : Nat → Bool) (e : Ending) (w' : World) : Prop :=
  ∃ A c l, e = .returned (.slice A n c) ∧ w'.ownsRow w.heap.size 3 1 (.slice A n c) n (nums .i64 l) ∧ RoomL W H n f l ∧ okK n l ∧ Below w.heap.size w w'

set_option maxHeartbeats 3200000 in
set_option maxRecDepth 20000 in
theorem clear_room (W H k : Int) (A : Option Addr) (n c B : Nat) (ts : List Int) (A1 : Option Addr) (n1 c1 : Nat) (l : List Bd) (w : World) (hr : Reads w B 1 A n (nums .u8 ts)) (hB : B ≤ w.heap.size) (hg : isG W H ts = true) (hl : IsBytes ts) (hv : BdsL w A1 n1 l) (hn1 : n1 ≤ 1000000)
    (hall : ∀ i, i < n1 → formP (bdAt l i) ∧ onP W H (bdAt l i)) (hk : classP k) :
    Calls Try.prog 41 #[.agg #[.int .i64 W, .int .i64 H, .slice A n c], .slice A1 n1 c1, .int .i64 k] w (GivesRoom W H w n (openT W ts l n1 k)) := by
  obtain ⟨hW0, hW1, hH0, hH1, hlen, hts⟩ := isG_bounds hg
  have hll : ts.length = n := by have := hr.1; simpa [nums] using this
  have hn : (n : Int) = W * H := by omega
  have hp := prod_range hW0 hW1 hH0 hH1
  have hn4 : n ≤ 16384 := by omega
  have hn0 : 0 < n := by omega
  have hmk : ∀ w, (Instr.makeSlice 30 (.int .i64 (n : Int)) (.int .i64 (n : Int))).run Try.prog w = .ok (.slice (some ⟨w.heap.size, 0, none⟩) n n) (w.alloc (.cells (zrowI n) 3)) := fun w => make_ints n w (by omega) info_int
  have hG := Blk.new w #[.int .i64 W, .int .i64 H, .slice A n c] 24
  have hb := (Below.refl w.heap.size w).alloc (Nat.le_refl _) (.cells #[.int .i64 W, .int .i64 H, .slice A n c] 24)
  have hO := owni_made (w.alloc (.cells #[.int .i64 W, .int .i64 H, .slice A n c] 24)) n (by omega)
  have hbm := (Below.refl (w.alloc (.cells #[.int .i64 W, .int .i64 H, .slice A n c] 24)).heap.size (w.alloc (.cells #[.int .i64 W, .int .i64 H, .slice A n c] 24))).alloc (Nat.le_refl _) (.cells (zrowI n) 3)
  replace hG := hG.below hbm hG.lt
  replace hb := hb.trans (hbm.mono hb.size)
  rw [show (w.alloc (.cells #[.int .i64 W, .int .i64 H, .slice A n c] 24)).heap.size = w.heap.size + 1 by simp] at hO
  have C := Lib.hid (clear_tiles W H k A n c B ts A1 n1 c1 l _ (hr.below (hb.mono hB)) (Nat.le_trans hB hb.size) hg hl (hv.below hb) hn1 hall hk)
  clear hbm hlen hts hl hll hr hv hall
  replace hn := Lib.hid hn
  have z0 := hG.cell (i := 0) rfl
  have z1 := hG.cell (i := 1) rfl
  have z2 := hG.cell (i := 2) rfl
  go_enter Try.func41, Try.ntmps41
  go_wp2_with fail
  generalize (w.alloc (.cells #[.int .i64 W, .int .i64 H, .slice A n c] 24)).alloc (.cells (zrowI n) 3) = w3 at *
  generalize hge : w.heap.size + 1 = g at *
  have hgw : w.heap.size < g := by omega
  replace hge := Lib.hid hge
  refine Calls.mono C.out ?_
  rintro e w4 ⟨A3, c3, rfl, hOb, hb4⟩
  clear C z0 z1 z2
  have hgl : g < w3.heap.size := by
    obtain ⟨g', cap, hv, _, hlt⟩ := hO.form hn0
    cases hv
    exact hlt
  have hs3 := hb4.size
  replace hG := hG.below hb4 hG.lt
  replace hO := own_below hO hb4
  replace hb := hb.trans (hb4.mono hb.size)
  clear hb4
  obtain ⟨g3, cap3, hv3, hg3, hgl3⟩ := hOb.form hn0
  injection hv3 with hv3 _ hcap3
  subst hv3; subst hcap3
  generalize openT W ts l n1 k = f at *
  have hO' : w4.ownsRow g 3 1 (.slice (some ⟨g, 0, none⟩) n n) n (nums .i64 (intsOf n (fun t => if t < 0 ∧ f t = true then 128 else 0))) := by
    rw [intsOf_congr (g := fun _ => 0) (fun t _ => by simp), ← intsOf_zero]
    exact hO
  clear hO
  go_wp2_with fail
  go_loopw [21] (fun i wr => ∃ (q : Nat), q ≤ n ∧ i = .int .i64 q ∧ wr.ownsRow g 3 1 (.slice (some ⟨g, 0, none⟩) n n) n (nums .i64 (intsOf n (fun t => if t < q ∧ f t = true then 128 else 0))) ∧ wr.ownsRow w3.heap.size 4 1 (.slice (some ⟨g3, 0, none⟩) n c3) n (bools n f) ∧ Blk wr w.heap.size #[.int .i64 W, .int .i64 H, .slice A n c] 24 ∧ Below w.heap.size w wr) (fun i _ => n - (intOf i).toNat)
  case atStart => exact ⟨0, Nat.zero_le _, rfl, hO', hOb, hG, hb⟩
  case round =>
    clear hO' hOb hG hb
    obtain ⟨q, hq, rfl, hO, hOb, hG, hb⟩ := hrel
    by_cases hqn : q < n
    · obtain ⟨g', hg', _, _, hcb, _⟩ := ownb_at hOb hqn
      cases hg'
      obtain ⟨g', hg', _, hgl', hci, hfi⟩ := own_at hO hqn
      cases hg'
      cases hf : f q with
      | false =>
        rw [hf] at hcb
        rw [intsOf_congr (g := fun t => if t < q + 1 ∧ f t = true then 128 else 0) (fun t _ => by
          by_cases e : t = q
          · subst e; simp [hf]
          · have : (t < q) ↔ (t < q + 1) := by omega
            simp only [this])] at hO
        have HO := Lib.hid hO
        have HOb := Lib.hid hOb
        have HG := Lib.hid hG
        have HB := Lib.hid hb
        clear hO hOb hG hb hci hfi hf
        go_wp2_with fail
        go_roundw
        case rel => exact ⟨q + 1, by omega, by go_num, HO.out, HOb.out, HG.out, HB.out⟩
        case measure => simp [intOf]; omega
      | true =>
        rw [hf] at hcb
        have hO2 := own_store (k := q) hO 128
        rw [intsOf_set, intsOf_congr (g := fun t => if t < q + 1 ∧ f t = true then 128 else 0) (fun t _ => by
          by_cases e : t = q
          · subst e; simp [hf]
          · rw [if_neg e]
            have : (t < q) ↔ (t < q + 1) := by omega
            simp only [this])] at hO2
        have HO := Lib.hid hO2
        have HOb := Lib.hid (own_other hOb (b := g) (o := q) (by omega) (.int .i64 128))
        have HG := Lib.hid (hG.other (a := ⟨g, q, none⟩) (by show w.heap.size ≠ g; omega) (.int .i64 128))
        have HB := Lib.hid (hb.setCell (p := ⟨g, q, none⟩) (by show w.heap.size ≤ g; omega) (.int .i64 128))
        rw [intsOf_at hqn] at hci
        clear hO hO2 hOb hG hb hf
        go_wp2_with fail
        go_roundw
        case rel => exact ⟨q + 1, by omega, by go_num, HO.out, HOb.out, HG.out, HB.out⟩
        case measure => simp [intOf]; omega
    obtain rfl : q = n := by omega
    have hok0 : okK q (intsOf q (fun t => if t < q ∧ f t = true then 128 else 0)) := ⟨intsOf_len _ _, fun v hv => by
      obtain ⟨t, _, rfl⟩ := List.mem_map.1 hv
      show 0 ≤ (if t < q ∧ f t = true then (128 : Int) else 0) ∧ _
      split <;> omega⟩
    have h0 : ∀ t, t < q → (intsOf q (fun t => if t < q ∧ f t = true then (128 : Int) else 0)).getD t 0 = if f t then 128 else 0 := fun t ht => by rw [intsOf_at ht]; simp [ht]
    have hF0 := Fwd.start (W := W) (H := H) hok0
    generalize intsOf q (fun t => if t < q ∧ f t = true then (128 : Int) else 0) = l0 at *
    replace h0 := Lib.hid h0
    replace hF0 := Lib.hid hF0
    clear hOb hok0
    go_wp2_with fail
    go_loopw [33] (fun i wr => ∃ (t : Nat) (l1 : List Int), t ≤ q ∧ i = .int .i64 t ∧ wr.ownsRow g 3 1 (.slice (some ⟨g, 0, none⟩) q q) q (nums .i64 l1) ∧ Hid (Fwd W H q l0 t l1) ∧ Blk wr w.heap.size #[.int .i64 W, .int .i64 H, .slice A q c] 24 ∧ Below w.heap.size w wr) (fun i _ => q - (intOf i).toNat)
    case atStart => exact ⟨0, l0, Nat.zero_le _, rfl, hO, hF0, hG, hb⟩
    case round =>
      clear hO hF0 hG hb
      obtain ⟨t, l1, ht, rfl, hO, hFw, hG, hb⟩ := hrel
      by_cases htq : t < q
      case neg =>
        obtain rfl : t = q := by omega
        have hBk0 := Lib.hid (Bwd.start (W := W) (H := H) hFw.out.ok)
        go_wp2_with fail
        go_loopw [11] (fun i wr => ∃ (s : Nat) (l2 : List Int), s ≤ t ∧ i = .int .i64 ((s : Int) - 1) ∧ wr.ownsRow g 3 1 (.slice (some ⟨g, 0, none⟩) t t) t (nums .i64 l2) ∧ Hid (Bwd W H t l1 s l2) ∧ Blk wr w.heap.size #[.int .i64 W, .int .i64 H, .slice A t c] 24 ∧ Below w.heap.size w wr) (fun i _ => (intOf i + 1).toNat)
        case atStart => exact ⟨t, l1, Nat.le_refl _, rfl, hO, hBk0, hG, hb⟩
        case round =>
          clear hO hBk0 hG hb
          obtain ⟨s, l2, hs, rfl, hO, hBw, hG, hb⟩ := hrel
          by_cases hs0 : s = 0
          · subst hs0
            have hR := Lib.hid (passes_room hW1 hn.out h0.out hFw.out hBw.out)
            have HO := Lib.hid hO
            have HB := Lib.hid hb
            clear hO hG hb
            go_wp2_with fail
            go_ret
            exact ⟨_, _, l2, rfl, own_mono HO.out (by omega), hR.out, hBw.out.ok, HB.out⟩
          · obtain ⟨u, rfl⟩ : ∃ u, s = u + 1 := ⟨s - 1, by omega⟩
            have hu : ((u + 1 : Nat) : Int) - 1 = (u : Int) := by omega
            rw [hu]
            clear hu
            have z0 := hG.cell (i := 0) rfl
            have z1 := hG.cell (i := 1) rfl
            have z2 := hG.cell (i := 2) rfl
            have hWb := Blk.new wr #[.int .i64 1, .int .i64 0, .int .i64 1, .int .i64 1, .int .i64 0, .int .i64 1, .int .i64 (-1), .int .i64 1] 80
            have hbW : Below wr.heap.size wr (wr.alloc (.cells #[.int .i64 1, .int .i64 0, .int .i64 1, .int .i64 1, .int .i64 0, .int .i64 1, .int .i64 (-1), .int .i64 1] 80)) := (Below.refl _ _).alloc (Nat.le_refl _) _
            have hgr : g < wr.heap.size := by
              obtain ⟨g', cap, hv, _, hlt⟩ := hO.form hn0
              cases hv
              exact hlt
            replace hO := own_below hO hbW
            replace hG := hG.below hbW hG.lt
            have hs := hb.size
            replace hb := hb.trans (hbW.mono hs)
            have C := clear_pass W H A t c g t u g wr.heap.size l2 dnW _ hW0 hW1 hH0 hH1 hn.out hO (Nat.le_trans (by omega) hbW.size) hBw.out.ok (by omega) rfl dnW_small hWb.lt (by omega) (dnW_cells hWb)
            replace C := Lib.hid C
            clear hWb hbW
            go_wp2_with fail
            generalize wr.alloc (.cells #[.int .i64 1, .int .i64 0, .int .i64 1, .int .i64 1, .int .i64 0, .int .i64 1, .int .i64 (-1), .int .i64 1] 80) = w5 at *
            generalize wr.heap.size = Z at *
            refine Calls.mono C.out ?_
            rintro e w6 ⟨rfl, hO6, hb6, _⟩
            have hG6 := Lib.hid (hG.below hb6 hgw)
            have hB6 := Lib.hid (hb.trans (hb6.mono (by omega)))
            have hO6' := Lib.hid hO6
            have hF6 := Lib.hid (hBw.out.step hW0 hn.out (by omega))
            clear C z0 z1 z2 hO hG hb hO6 hb6 hFw hBw
            go_wp2_with fail
            go_roundw
            case rel => exact ⟨u, _, by omega, by go_num, hO6'.out, hF6, hG6.out, hB6.out⟩
            case measure => simp [intOf]
      have z0 := hG.cell (i := 0) rfl
      have z1 := hG.cell (i := 1) rfl
      have z2 := hG.cell (i := 2) rfl
      have hWb := Blk.new wr #[.int .i64 (-1), .int .i64 0, .int .i64 (-1), .int .i64 (-1), .int .i64 0, .int .i64 (-1), .int .i64 1, .int .i64 (-1)] 80
      have hbW : Below wr.heap.size wr (wr.alloc (.cells #[.int .i64 (-1), .int .i64 0, .int .i64 (-1), .int .i64 (-1), .int .i64 0, .int .i64 (-1), .int .i64 1, .int .i64 (-1)] 80)) := (Below.refl _ _).alloc (Nat.le_refl _) _
      have hgr : g < wr.heap.size := by
        obtain ⟨g', cap, hv, _, hlt⟩ := hO.form hn0
        cases hv
        exact hlt
      replace hO := own_below hO hbW
      replace hG := hG.below hbW hG.lt
      have hs := hb.size
      replace hb := hb.trans (hbW.mono hs)
      have C := clear_pass W H A q c g q t g wr.heap.size l1 upW _ hW0 hW1 hH0 hH1 hn.out hO (Nat.le_trans (by omega) hbW.size) hFw.out.ok (by omega) rfl upW_small hWb.lt (by omega) (upW_cells hWb)
      replace C := Lib.hid C
      clear hWb hbW
      go_wp2_with fail
      generalize wr.alloc (.cells #[.int .i64 (-1), .int .i64 0, .int .i64 (-1), .int .i64 (-1), .int .i64 0, .int .i64 (-1), .int .i64 1, .int .i64 (-1)] 80) = w5 at *
      generalize wr.heap.size = Z at *
      refine Calls.mono C.out ?_
      rintro e w6 ⟨rfl, hO6, hb6, _⟩
      have hG6 := Lib.hid (hG.below hb6 hgw)
      have hB6 := Lib.hid (hb.trans (hb6.mono (by omega)))
      have hO6' := Lib.hid hO6
      have hF6 := Lib.hid (hFw.out.step hW0 hn.out htq)
      clear C z0 z1 z2 hO hG hb hO6 hb6 hFw
      go_wp2_with fail
      go_roundw
      case rel => exact ⟨t + 1, _, by omega, by go_num, hO6'.out, hF6, hG6.out, hB6.out⟩
      case measure => simp [intOf]; omega
end Go.Proofs.Ytfgjiaakoacomaa
namespace Go.Proofs.Ytfgjiaakoacomaa
set_option maxRecDepth 20000
open Go.RowKit

set_option maxHeartbeats 800000 in
set_option maxRecDepth 20000 in
theorem clear_grid_no (W H k : Int) (A : Option Addr) (n c B : Nat) (ts : List Int) (A1 : Option Addr) (n1 c1 : Nat) (l : List Bd) (w : World) (hr : Reads w B 1 A n (nums .u8 ts)) (hB : B ≤ w.heap.size) (hl : IsBytes ts) (hv : BdsL w A1 n1 l) (hn1 : n1 ≤ 1000000) (h : ¬ allP n W H ts l k) :
    Calls Try.prog 14 #[.agg #[.int .i64 W, .int .i64 H, .slice A n c], .slice A1 n1 c1, .int .i64 k] w fun e w' => e = .returned (.tuple #[.slice none 0 0, .int .i64 1]) ∧ Below w.heap.size w w' := by
  have hb := (Below.refl w.heap.size w).alloc (Nat.le_refl _) (.cells #[.int .i64 W, .int .i64 H, .slice A n c] 24)
  have C := clear_may W H k A n c B ts A1 n1 c1 l _ (hr.below (hb.mono hB)) (Nat.le_trans hB hb.size) hl (hv.below hb) hn1
  rw [decide_eq_false h] at C
  replace C := Lib.hid C
  go_enter Try.func14, Try.ntmps14
  go_wp2_with fail
  generalize w.alloc (.cells #[.int .i64 W, .int .i64 H, .slice A n c] 24) = w1 at *
  refine Calls.mono C.out ?_
  rintro e w2 ⟨rfl, hb2⟩
  go_wp2_with fail
  go_ret2
  exact ⟨rfl, hb.trans (hb2.mono hb.size)⟩

def Gives2R (W H : Int) (w : World) (n : Nat) (f : Nat → Bool) (e : Ending) (w' : World) : Prop :=
  ∃ A c l, e = .returned (.tuple #[.slice A n c, .int .i64 0]) ∧ w'.ownsRow w.heap.size 3 1 (.slice A n c) n (nums .i64 l) ∧ RoomL W H n f l ∧ okK n l ∧ Below w.heap.size w w'

set_option maxHeartbeats 800000 in
set_option maxRecDepth 20000 in
theorem clear_grid (W H k : Int) (A : Option Addr) (n c B : Nat) (ts : List Int) (A1 : Option Addr) (n1 c1 : Nat) (l : List Bd) (w : World) (hr : Reads w B 1 A n (nums .u8 ts)) (hB : B ≤ w.heap.size) (hl : IsBytes ts) (hv : BdsL w A1 n1 l) (hn1 : n1 ≤ 1000000) (h : allP n W H ts l k) :
    Calls Try.prog 14 #[.agg #[.int .i64 W, .int .i64 H, .slice A n c], .slice A1 n1 c1, .int .i64 k] w (Gives2R W H w n (openT W ts l n1 k)) := by
  have hG := Blk.new w #[.int .i64 W, .int .i64 H, .slice A n c] 24
  have hb := (Below.refl w.heap.size w).alloc (Nat.le_refl _) (.cells #[.int .i64 W, .int .i64 H, .slice A n c] 24)
  have C := clear_may W H k A n c B ts A1 n1 c1 l _ (hr.below (hb.mono hB)) (Nat.le_trans hB hb.size) hl (hv.below hb) hn1
  rw [decide_eq_true h] at C
  replace C := Lib.hid C
  go_enter Try.func14, Try.ntmps14
  go_wp2_with fail
  generalize w.alloc (.cells #[.int .i64 W, .int .i64 H, .slice A n c] 24) = w1 at *
  refine Calls.mono C.out ?_
  rintro e w2 ⟨rfl, hb2⟩
  clear C
  replace hG := hG.below hb2 hG.lt
  replace hb := hb.trans (hb2.mono hb.size)
  have hll := hv.1
  have D := clear_room W H k A n c B ts A1 n1 c1 l w2 (hr.below (hb.mono hB)) (Nat.le_trans hB hb.size) h.1 hl (hv.below hb) hn1 (fun i hi => ⟨(h.2.1.2.2 i (by rw [hll]; exact hi)).1, (h.2.1.2.2 i (by rw [hll]; exact hi)).2.1⟩) h.2.2
  replace D := Lib.hid D
  have z0 := hG.cell (i := 0) rfl
  have z1 := hG.cell (i := 1) rfl
  have z2 := hG.cell (i := 2) rfl
  have HB := Lib.hid hb
  clear hb2 hll h hv hr hb
  go_wp2_with fail
  refine Calls.mono D.out ?_
  rintro e w3 ⟨A3, c3, l3, rfl, hO, hR, hK, hb3⟩
  have HO := Lib.hid (own_mono hO HB.out.size)
  have HB3 := Lib.hid (HB.out.trans (hb3.mono HB.out.size))
  clear hO hb3 z0 z1 z2 hG D HB
  go_wp2_with fail
  go_ret2
  exact ⟨A3, c3, l3, rfl, HO.out, hR, hK, HB3.out⟩
end Go.Proofs.Ytfgjiaakoacomaa
namespace Go.Proofs.Ytfgjiaakoacomaa
set_option maxRecDepth 20000
open Go.RowKit Go.WideShapes Go.ChangeShapes Go.ChangeAt

theorem bd_list {P : Nat → Bd → Prop} : ∀ n : Nat, (∀ i, i < n → ∃ z, P i z) → ∃ l : List Bd, l.length = n ∧ ∀ i, i < n → P i (bdAt l i)
  | 0, _ => ⟨[], rfl, fun i hi => absurd hi (by omega)⟩
  | n + 1, h => by
    obtain ⟨l, hl, hp⟩ := bd_list n (fun i hi => h i (by omega))
    obtain ⟨z, hz⟩ := h n (by omega)
    refine ⟨l ++ [z], by simp [hl], fun i hi => ?_⟩
    by_cases hin : i = n
    · subst hin
      have : bdAt (l ++ [z]) i = z := by simp [bdAt, List.getD, ← hl]
      rw [this]; exact hz
    · have : bdAt (l ++ [z]) i = bdAt l i := by simp [bdAt, List.getD, List.getElem?_append, hl, show i < n by omega]
      rw [this]; exact hp i (by omega)
set_option maxHeartbeats 800000 in
set_option maxRecDepth 20000 in
theorem open_bds {H : Type} {enc : TypeId × Value → H} {w : World} {fuel : Nat} {u : Value} {x : DataW H × List MemPlace} (hf : DataW.trod enc Try.prog w 0 (fun _ => true) true fuel 25 [u] = some x) :
    ∃ A n c l, u = .slice A n c ∧ n ≤ c ∧ c ≤ maxLen ∧ BdsL w A n l := by
  obtain ⟨A, n, c, he, hl, hm, hi⟩ := open_rows Try.underlying25 hf
  simp only [List.cons.injEq, and_true] at he
  have hC : Try.prog.cellsOf 76 = 6 := by kernel_rfl
  obtain ⟨l, hl1, hl2⟩ := bd_list (P := fun i z => ∃ b o : Nat, A = some ⟨b, o, none⟩ ∧ b < w.heap.size ∧ (w.cell? ⟨b, o + i * 6, none⟩ = some (.int .i64 z.id) ∧ w.cell? ⟨b, o + i * 6 + 1, none⟩ = some (.int .i64 z.ow) ∧ w.cell? ⟨b, o + i * 6 + 2, none⟩ = some (.int .i64 z.x) ∧ w.cell? ⟨b, o + i * 6 + 3, none⟩ = some (.int .i64 z.y) ∧ w.cell? ⟨b, o + i * 6 + 4, none⟩ = some (.int .i64 z.w) ∧ w.cell? ⟨b, o + i * 6 + 5, none⟩ = some (.int .i64 z.h)) ∧ i64P z.id ∧ i64P z.ow ∧ i64P z.x ∧ i64P z.y ∧ i64P z.w ∧ i64P z.h) n (fun i hlt => by
    obtain ⟨b0, o0, u0, x0, y0, e0, hb, hc0, ht0⟩ := hi i hlt 0 3 (Leaf.field Try.underlying76 0 _ rfl (of_decide_eq_true (by kernel_rfl))) (by kernel_rfl)
    obtain ⟨b1, o1, u1, x1, y1, e1, _, hc1, ht1⟩ := hi i hlt 1 3 (Leaf.field Try.underlying76 1 _ rfl (of_decide_eq_true (by kernel_rfl))) (by kernel_rfl)
    obtain ⟨b2, o2, u2, x2, y2, e2, _, hc2, ht2⟩ := hi i hlt 2 3 (Leaf.field Try.underlying76 2 _ rfl (of_decide_eq_true (by kernel_rfl))) (by kernel_rfl)
    obtain ⟨b3, o3, u3, x3, y3, e3, _, hc3, ht3⟩ := hi i hlt 3 3 (Leaf.field Try.underlying76 3 _ rfl (of_decide_eq_true (by kernel_rfl))) (by kernel_rfl)
    obtain ⟨b4, o4, u4, x4, y4, e4, _, hc4, ht4⟩ := hi i hlt 4 3 (Leaf.field Try.underlying76 4 _ rfl (of_decide_eq_true (by kernel_rfl))) (by kernel_rfl)
    obtain ⟨b5, o5, u5, x5, y5, e5, _, hc5, ht5⟩ := hi i hlt 5 3 (Leaf.field Try.underlying76 5 _ rfl (of_decide_eq_true (by kernel_rfl))) (by kernel_rfl)
    subst e0
    simp only [Option.some.injEq, Addr.mk.injEq, and_true] at e1
    obtain ⟨rfl, rfl⟩ := e1
    simp only [Option.some.injEq, Addr.mk.injEq, and_true] at e2
    obtain ⟨rfl, rfl⟩ := e2
    simp only [Option.some.injEq, Addr.mk.injEq, and_true] at e3
    obtain ⟨rfl, rfl⟩ := e3
    simp only [Option.some.injEq, Addr.mk.injEq, and_true] at e4
    obtain ⟨rfl, rfl⟩ := e4
    simp only [Option.some.injEq, Addr.mk.injEq, and_true] at e5
    obtain ⟨rfl, rfl⟩ := e5
    rw [hC] at hc0 hc1 hc2 hc3 hc4 hc5
    obtain ⟨v0, h0, w0⟩ := open_num Try.underlying3 ht0
    obtain ⟨v1, h1, w1⟩ := open_num Try.underlying3 ht1
    obtain ⟨v2, h2, w2⟩ := open_num Try.underlying3 ht2
    obtain ⟨v3, h3, w3⟩ := open_num Try.underlying3 ht3
    obtain ⟨v4, h4, w4⟩ := open_num Try.underlying3 ht4
    obtain ⟨v5, h5, w5⟩ := open_num Try.underlying3 ht5
    simp only [List.cons.injEq, and_true] at h0 h1 h2 h3 h4 h5
    subst h0; subst h1; subst h2; subst h3; subst h4; subst h5
    exact ⟨⟨v0, v1, v2, v3, v4, v5⟩, _, _, rfl, hb, ⟨hc0, by rw [Nat.add_assoc]; exact hc1, by rw [Nat.add_assoc]; exact hc2, by rw [Nat.add_assoc]; exact hc3, by rw [Nat.add_assoc]; exact hc4, by rw [Nat.add_assoc]; exact hc5⟩, i64_of_wf w0, i64_of_wf w1, i64_of_wf w2, i64_of_wf w3, i64_of_wf w4, i64_of_wf w5⟩)
  exact ⟨A, n, c, l, he, hl, hm, hl1, hl2⟩
end Go.Proofs.Ytfgjiaakoacomaa
namespace Go.Proofs.Ytfgjiaakoacomaa
set_option maxRecDepth 20000
open Go.RowKit Go.WideShapes Go.ChangeShapes Go.ChangeAt

theorem Leaf.one9 {H : Type} {enc : TypeId × Value → H} {P : Program} {w : World} {fuel : Nat} {t l : TypeId} {off : Nat} {cs : List Value} {x : DataW H × List MemPlace} (h : Leaf P t off l) (h1 : P.cellsOf l = 1) (hlen : cs.length = P.cellsOf t)
    (hf : DataW.trod enc P w 0 (fun _ => true) true fuel t cs = some x) : ∃ (u : Value) (m : Nat) (y : DataW H × List MemPlace), cs[off]? = some u ∧ DataW.trod enc P w 0 (fun _ => true) true m l [u] = some y := by
  obtain ⟨n, y, hy⟩ := h.2 H enc w 0 _ true fuel cs x hf
  have hoff : off < cs.length := by have := h.1; omega
  refine ⟨cs[off], n, y, List.getElem?_eq_getElem hoff, ?_⟩
  rw [← hy, h1, List.drop_eq_getElem_cons hoff]
  rfl
theorem arr_of9 {cs : Array Value} {a b c d e : Value} (h : cs.size = 5) (h0 : cs.toList[0]? = some a) (h1 : cs.toList[1]? = some b) (h2 : cs.toList[2]? = some c) (h3 : cs.toList[3]? = some d) (h4 : cs.toList[4]? = some e) : cs = #[a, b, c, d, e] := by
  apply Array.ext_getElem?
  intro i
  rw [← Array.getElem?_toList]
  rcases (show i = 0 ∨ i = 1 ∨ i = 2 ∨ i = 3 ∨ i = 4 ∨ 5 ≤ i by omega) with rfl | rfl | rfl | rfl | rfl | hi
  · exact h0
  · exact h1
  · exact h2
  · exact h3
  · exact h4
  · rw [List.getElem?_eq_none (by simpa [h] using hi), Array.getElem?_eq_none (by simpa using hi)]
set_option maxHeartbeats 800000 in
set_option maxRecDepth 20000 in
theorem open_ask9 {H : Type} {enc : TypeId × Value → H} {w : World} {base : Nat} {v : Value} {d : DataW H} {p : List MemPlace} (hv : Value.okWide Try.prog w .any base 27 v)
    (ht : DataW.Trod enc Try.prog w 0 (fun _ => true) true 27 v d p) : ∃ (W H : Int) (A : Option Addr) (n c : Nat) (l : List Int) (A1 : Option Addr) (n1 c1 : Nat) (l1 : List Bd) (k : Int),
      v = .agg #[.int .i64 W, .int .i64 H, .slice A n c, .slice A1 n1 c1, .int .i64 k] ∧ i64P W ∧ i64P H ∧ Reads w w.heap.size 1 A n (nums .u8 l) ∧ IsBytes l ∧ (n ≤ c ∧ c ≤ maxLen) ∧ BdsL w A1 n1 l1 ∧ (n1 ≤ c1 ∧ c1 ≤ maxLen) ∧ i64P k := by
  obtain ⟨cs, rfl, hsz⟩ := okWide_struct Try.underlying27 hv
  obtain ⟨fuel, hf⟩ := ht
  have hC : Try.prog.cellsOf 27 = 5 := by kernel_rfl
  have hlen : (Value.agg cs).cells.toList.length = Try.prog.cellsOf 27 := by simpa [Value.cells] using hsz
  obtain ⟨u0, m0, y0, g0, t0⟩ := Leaf.one9 (Leaf.trans (Leaf.field Try.underlying27 0 _ rfl (of_decide_eq_true (by kernel_rfl))) (Leaf.field Try.underlying24 0 _ rfl (of_decide_eq_true (by kernel_rfl))) rfl) (by kernel_rfl) hlen hf
  obtain ⟨u1, m1, y1, g1, t1⟩ := Leaf.one9 (Leaf.trans (Leaf.field Try.underlying27 0 _ rfl (of_decide_eq_true (by kernel_rfl))) (Leaf.field Try.underlying24 1 _ rfl (of_decide_eq_true (by kernel_rfl))) rfl) (by kernel_rfl) hlen hf
  obtain ⟨u2, m2, y2, g2, t2⟩ := Leaf.one9 (Leaf.trans (Leaf.field Try.underlying27 0 _ rfl (of_decide_eq_true (by kernel_rfl))) (Leaf.field Try.underlying24 2 _ rfl (of_decide_eq_true (by kernel_rfl))) rfl) (by kernel_rfl) hlen hf
  obtain ⟨u3, m3, y3, g3, t3⟩ := Leaf.one9 (Leaf.field Try.underlying27 1 _ rfl (of_decide_eq_true (by kernel_rfl))) (by kernel_rfl) hlen hf
  obtain ⟨u4, m4, y4, g4, t4⟩ := Leaf.one9 (Leaf.field Try.underlying27 2 _ rfl (of_decide_eq_true (by kernel_rfl))) (by kernel_rfl) hlen hf
  obtain ⟨W, k0, w0⟩ := open_num Try.underlying3 t0
  obtain ⟨H, k1, w1⟩ := open_num Try.underlying3 t1
  obtain ⟨A, n, c, l, k2, hl2, hm2, hr2, w2⟩ := open_nums Try.underlying22 Try.underlying5 (by kernel_rfl) t2
  obtain ⟨A1, n1, c1, l1, k3, hl3, hm3, hv3⟩ := open_bds t3
  obtain ⟨k, k4, w4⟩ := open_num Try.underlying3 t4
  simp only [List.cons.injEq, and_true] at k0 k1 k2 k4
  subst k0; subst k1; subst k2; subst k3; subst k4
  refine ⟨W, H, A, n, c, l, A1, n1, c1, l1, k, ?_, i64_of_wf w0, i64_of_wf w1, hr2, bytes_of_wf w2, ⟨hl2, hm2⟩, hv3, ⟨hl3, hm3⟩, i64_of_wf w4⟩
  congr 1
  exact arr_of9 (hsz.trans hC) g0 g1 g2 g3 g4

set_option maxHeartbeats 800000 in
set_option maxRecDepth 20000 in
theorem great_is (W H : Int) (A A1 : Option Addr) (n c n1 c1 : Nat) (w : World) (hn : (n : Int) ≤ 9223372036854775807) (hn1 : (n1 : Int) ≤ 9223372036854775807) :
    Calls Try.prog 37 #[.agg #[.int .i64 W, .int .i64 H, .slice A n c], .slice A1 n1 c1] w fun e w' => e = .returned (.bool (decide (700 < n ∨ 30 < n1))) ∧ Below w.heap.size w w' := by
  have hb := (Below.refl w.heap.size w).alloc (Nat.le_refl _) (.cells #[.int .i64 W, .int .i64 H, .slice A n c] 24)
  by_cases h1 : 700 < n
  · have d1 : decide ((700 : Int) < (n : Int)) = true := by simp; omega
    rw [decide_eq_true (show 700 < n ∨ 30 < n1 from .inl h1)]
    go_enter Try.func37, Try.ntmps37
    go_wp2_with fail
    go_ret
    exact ⟨rfl, hb⟩
  · have d1 : decide ((700 : Int) < (n : Int)) = false := by simp; omega
    by_cases h2 : 30 < n1
    · have d2 : decide ((30 : Int) < (n1 : Int)) = true := by simp; omega
      rw [decide_eq_true (show 700 < n ∨ 30 < n1 from .inr h2)]
      go_enter Try.func37, Try.ntmps37
      go_wp2_with fail
      go_ret
      exact ⟨rfl, hb⟩
    · have d2 : decide ((30 : Int) < (n1 : Int)) = false := by simp; omega
      rw [decide_eq_false (show ¬ (700 < n ∨ 30 < n1) by omega)]
      go_enter Try.func37, Try.ntmps37
      go_wp2_with fail
      go_ret
      exact ⟨rfl, hb⟩
set_option maxHeartbeats 800000 in
set_option maxRecDepth 20000 in
theorem heavy9 (W H k : Int) (A A1 : Option Addr) (n c n1 c1 : Nat) (w : World) (hn : (n : Int) ≤ 9223372036854775807) (hn1 : (n1 : Int) ≤ 9223372036854775807) :
    Calls Try.prog 11 #[.agg #[.int .i64 W, .int .i64 H, .slice A n c, .slice A1 n1 c1, .int .i64 k]] w fun e w' => e = .returned (.bool (decide (700 < n ∨ 30 < n1))) ∧ Below w.heap.size w w' := by
  have hb := (Below.refl w.heap.size w).alloc (Nat.le_refl _) (.cells #[.int .i64 W, .int .i64 H, .slice A n c, .slice A1 n1 c1, .int .i64 k] 27)
  have C := Lib.hid (fun W' => great_is W H A A1 n c n1 c1 W' hn hn1)
  generalize decide (700 < n ∨ 30 < n1) = dd at *
  go_enter Try.func11, Try.ntmps11
  go_wp2_with fail
  refine Calls.mono (C.out _) ?_
  rintro e w2 ⟨rfl, hb2⟩
  go_wp2_with fail
  go_ret
  exact ⟨rfl, hb.trans (hb2.mono hb.size)⟩
theorem num9 (x : Int) (w : World) : Calls Try.prog 15 #[.int .i64 x] w fun e w' => e = .returned (.int .i64 x) ∧ w = w' := by
  go_enter Try.func15, Try.ntmps15
  go_wp2_with fail
  go_ret
  exact ⟨rfl, rfl⟩
end Go.Proofs.Ytfgjiaakoacomaa
namespace Go.Proofs.Ytfgjiaakoacomaa
set_option maxRecDepth 20000
open Go.RowKit

def wallF (W H rx ry x y : Int) : Int := if onG W H x y then min (max (max (x - rx) (rx - x)) (max (y - ry) (ry - y))) (min (min (x + 1) (W - x)) (min (y + 1) (H - y))) else 0
theorem wall_on {W H rx ry x y : Int} (h : onG W H x y) : wallF W H rx ry x y = min (max (max (x - rx) (rx - x)) (max (y - ry) (ry - y))) (min (min (x + 1) (W - x)) (min (y + 1) (H - y))) := if_pos h
theorem wall_off {W H rx ry x y : Int} (h : ¬ onG W H x y) : wallF W H rx ry x y = 0 := if_neg h
theorem wall_lip {W H rx ry x y dx dy : Int} (ho : onG W H x y) (h1 : -1 ≤ dx) (h2 : dx ≤ 1) (h3 : -1 ≤ dy) (h4 : dy ≤ 1) : wallF W H rx ry x y ≤ wallF W H rx ry (x + dx) (y + dy) + 1 := by
  rw [wall_on ho]
  by_cases hn : onG W H (x + dx) (y + dy)
  · rw [wall_on hn]
    have a1 : max (x - rx) (rx - x) ≤ max (x + dx - rx) (rx - (x + dx)) + 1 := by omega
    have a2 : max (y - ry) (ry - y) ≤ max (y + dy - ry) (ry - (y + dy)) + 1 := by omega
    have a3 : min (x + 1) (W - x) ≤ min (x + dx + 1) (W - (x + dx)) + 1 := by omega
    have a4 : min (y + 1) (H - y) ≤ min (y + dy + 1) (H - (y + dy)) + 1 := by omega
    generalize max (x - rx) (rx - x) = b1 at *
    generalize max (y - ry) (ry - y) = b2 at *
    generalize min (x + 1) (W - x) = b3 at *
    generalize min (y + 1) (H - y) = b4 at *
    generalize max (x + dx - rx) (rx - (x + dx)) = c1 at *
    generalize max (y + dy - ry) (ry - (y + dy)) = c2 at *
    generalize min (x + dx + 1) (W - (x + dx)) = c3 at *
    generalize min (y + dy + 1) (H - (y + dy)) = c4 at *
    clear hn ho
    omega
  · rw [wall_off hn]
    have a3 : min (min (x + 1) (W - x)) (min (y + 1) (H - y)) ≤ 1 := by unfold onG at ho hn; omega
    generalize min (min (x + 1) (W - x)) (min (y + 1) (H - y)) = m at *
    generalize max (max (x - rx) (rx - x)) (max (y - ry) (ry - y)) = k at *
    omega
theorem wall_room (W H rx ry : Int) : Room W H (fun x y => ¬ (x = rx ∧ y = ry)) (wallF W H rx ry) := by
  refine ⟨fun x y h => wall_off h, fun x y => ?_, fun x y ho hs => ?_, fun x y ho hs => ?_, fun x y dx dy ho h1 h2 h3 h4 => wall_lip ho h1 h2 h3 h4, fun x y ho hs => ?_⟩
  · by_cases ho : onG W H x y
    · rw [wall_on ho]; unfold onG at ho; omega
    · rw [wall_off ho]; omega
  · rw [wall_on ho]; unfold onG at ho; omega
  · rw [wall_on ho]; unfold onG at ho; omega
  · have key : ∀ dx dy : Int, -1 ≤ dx → dx ≤ 1 → -1 ≤ dy → dy ≤ 1 → wallF W H rx ry (x + dx) (y + dy) ≤ wallF W H rx ry x y - 1 → ∃ dx dy, -1 ≤ dx ∧ dx ≤ 1 ∧ -1 ≤ dy ∧ dy ≤ 1 ∧ wallF W H rx ry x y = wallF W H rx ry (x + dx) (y + dy) + 1 := fun dx dy h1 h2 h3 h4 h5 =>
      ⟨dx, dy, h1, h2, h3, h4, by have := wall_lip (rx := rx) (ry := ry) ho h1 h2 h3 h4; omega⟩
    have hv := wall_on (rx := rx) (ry := ry) ho
    have h1 : 1 ≤ wallF W H rx ry x y := by rw [hv]; unfold onG at ho; omega
    have off : ∀ a b, ¬ onG W H a b → wallF W H rx ry a b ≤ wallF W H rx ry x y - 1 := fun a b h => by rw [wall_off h]; omega
    by_cases e1 : wallF W H rx ry x y = x + 1
    · refine key (-1) 0 (by omega) (by omega) (by omega) (by omega) ?_
      by_cases hn : onG W H (x + -1) (y + 0)
      · rw [e1, wall_on hn]; unfold onG at ho hn; omega
      · exact off _ _ hn
    by_cases e2 : wallF W H rx ry x y = W - x
    · refine key 1 0 (by omega) (by omega) (by omega) (by omega) ?_
      by_cases hn : onG W H (x + 1) (y + 0)
      · rw [e2, wall_on hn]; unfold onG at ho hn; omega
      · exact off _ _ hn
    by_cases e3 : wallF W H rx ry x y = y + 1
    · refine key 0 (-1) (by omega) (by omega) (by omega) (by omega) ?_
      by_cases hn : onG W H (x + 0) (y + -1)
      · rw [e3, wall_on hn]; unfold onG at ho hn; omega
      · exact off _ _ hn
    by_cases e4 : wallF W H rx ry x y = H - y
    · refine key 0 1 (by omega) (by omega) (by omega) (by omega) ?_
      by_cases hn : onG W H (x + 0) (y + 1)
      · rw [e4, wall_on hn]; unfold onG at ho hn; omega
      · exact off _ _ hn
    have e5 : wallF W H rx ry x y = max (max (x - rx) (rx - x)) (max (y - ry) (ry - y)) := by rw [hv] at e1 e2 e3 e4 ⊢; omega
    refine key (sgw (rx - x)) (sgw (ry - y)) (by unfold sgw; split <;> (try split) <;> omega) (by unfold sgw; split <;> (try split) <;> omega) (by unfold sgw; split <;> (try split) <;> omega) (by unfold sgw; split <;> (try split) <;> omega) ?_
    by_cases hn : onG W H (x + sgw (rx - x)) (y + sgw (ry - y))
    · have hx : max (x + sgw (rx - x) - rx) (rx - (x + sgw (rx - x))) = max (max (x - rx) (rx - x) - 1) 0 := by unfold sgw; split <;> (try split) <;> omega
      have hy : max (y + sgw (ry - y) - ry) (ry - (y + sgw (ry - y))) = max (max (y - ry) (ry - y) - 1) 0 := by unfold sgw; split <;> (try split) <;> omega
      rw [e5, wall_on hn, hx, hy]
      generalize min (min (x + sgw (rx - x) + 1) (W - (x + sgw (rx - x)))) (min (y + sgw (ry - y) + 1) (H - (y + sgw (ry - y)))) = m
      omega
    · exact off _ _ hn
/-- A list of room, from a function. -/
theorem roomL_of {W H : Int} {n : Nat} {f : Nat → Bool} {F : Int → Int → Int} (hn : (n : Int) = W * H) (h : Room W H (opP W f) F) : RoomL W H n f (intsOf n fun t => F (tX W t) (tY W t)) := by
  refine ⟨intsOf_len _ _, ?_⟩
  have e : atK W H (intsOf n fun t => F (tX W t) (tY W t)) = F := by
    funext x y
    by_cases ho : onG W H x y
    · obtain ⟨e1, e2, e3, _⟩ := xy_tile hn ho
      rw [show atK W H (intsOf n fun t => F (tX W t) (tY W t)) x y = (intsOf n fun t => F (tX W t) (tY W t)).getD (x + W * y).toNat 0 from if_pos ho, intsOf_at e1, e2, e3]
    · rw [h.out x y ho]; exact if_neg ho
  rw [e]; exact h
theorem room_congr {W H : Int} {op op' : Int → Int → Prop} {F : Int → Int → Int} (h : Room W H op F) (he : ∀ x y, onG W H x y → (op x y ↔ op' x y)) : Room W H op' F :=
  ⟨h.out, h.nn, fun x y ho hs => h.shut x y ho fun k => hs ((he x y ho).1 k), fun x y ho hs => h.pos x y ho ((he x y ho).2 hs), h.lip, fun x y ho hs => h.got x y ho ((he x y ho).2 hs)⟩
/-- Where all but one tile is open. -/
theorem wall_list {W H : Int} {n : Nat} {f : Nat → Bool} {r : Nat} {l : List Int} (hW : 1 ≤ W) (hn : (n : Int) = W * H) (hf : ∀ t, t < n → f t = !decide (t = r)) (hr : r < n) (h : RoomL W H n f l) : l = intsOf n fun t => wallF W H (tX W r) (tY W r) (tX W t) (tY W t) := by
  refine roomL_same hW hn h (roomL_of hn (room_congr (wall_room W H (tX W r) (tY W r)) fun x y ho => ?_))
  obtain ⟨e1, e2, e3, e4⟩ := xy_tile hn ho
  unfold opP
  rw [hf _ e1, Bool.not_eq_true', decide_eq_false_iff_not]
  constructor
  · intro h e
    exact h ⟨by rw [← e, e2], by rw [← e, e3]⟩
  · rintro h ⟨rfl, rfl⟩
    exact h (tile_xy hW hn hr).2
theorem plain_list {W H : Int} {n : Nat} {f : Nat → Bool} {l : List Int} (hW : 1 ≤ W) (hn : (n : Int) = W * H) (hf : ∀ t, t < n → f t = true) (h : RoomL W H n f l) : l = intsOf n fun t => wallF W H (-1) (-1) (tX W t) (tY W t) := by
  refine roomL_same hW hn h (roomL_of hn (room_congr (wall_room W H (-1) (-1)) fun x y ho => ?_))
  obtain ⟨e1, _, _, _⟩ := xy_tile hn ho
  unfold opP
  rw [hf _ e1]
  unfold onG at ho
  exact ⟨fun _ => rfl, fun _ h => by omega⟩
theorem three_list : (intsOf 9 fun t => wallF 3 3 (-1) (-1) (tX 3 t) (tY 3 t)) = [1, 1, 1, 1, 2, 1, 1, 1, 1] := by decide +kernel
end Go.Proofs.Ytfgjiaakoacomaa
