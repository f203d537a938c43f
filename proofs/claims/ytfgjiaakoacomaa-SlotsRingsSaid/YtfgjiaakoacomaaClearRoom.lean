/- How much room has each tile? The game's own way. -/
import Derived.Test.YtfgjiaakoacomaaTileMathM
namespace Go.Proofs.Ytfgjiaakoacomaa
set_option maxRecDepth 20000
open Go.RowKit

def intsOf (n : Nat) (f : Nat → Int) : List Int := (List.range n).map f
theorem intsOf_len (n : Nat) (f : Nat → Int) : (intsOf n f).length = n := by simp [intsOf]
theorem intsOf_at {n : Nat} {f : Nat → Int} {t : Nat} (h : t < n) : (intsOf n f).getD t 0 = f t := by simp [intsOf, List.getD, h]
theorem intsOf_congr {n : Nat} {f g : Nat → Int} (h : ∀ t, t < n → f t = g t) : intsOf n f = intsOf n g := List.map_congr_left fun t ht => h t (List.mem_range.1 ht)
theorem intsOf_set (n : Nat) (f : Nat → Int) (k : Nat) (v : Int) : (intsOf n f).set k v = intsOf n (fun t => if t = k then v else f t) := by
  refine List.ext_getElem (by simp [intsOf]) fun i h1 h2 => ?_
  simp only [intsOf, List.getElem_set, List.getElem_map, List.getElem_range]
  by_cases e : k = i
  · subst e; simp
  · rw [if_neg e, if_neg (fun h => e h.symm)]
theorem intsOf_zero (n : Nat) : List.replicate n (0 : Int) = intsOf n (fun _ => 0) := List.ext_getElem (by simp [intsOf]) fun i h1 h2 => by simp [intsOf]

theorem upW_small : ∀ d ∈ upW, (-1 ≤ d.1 ∧ d.1 ≤ 1) ∧ (-1 ≤ d.2 ∧ d.2 ≤ 1) := by unfold upW; simp
theorem upW_cells {w : World} {b : Nat} (h : Blk w b #[.int .i64 (-1), .int .i64 0, .int .i64 (-1), .int .i64 (-1), .int .i64 0, .int .i64 (-1), .int .i64 1, .int .i64 (-1)] 80) : ∀ i, i < 4 → w.cell? ⟨b, i * 2, none⟩ = some (.int .i64 (upW.getD i (0, 0)).1) ∧ w.cell? ⟨b, i * 2 + 1, none⟩ = some (.int .i64 (upW.getD i (0, 0)).2) := fun i hi => by
  rcases (show i = 0 ∨ i = 1 ∨ i = 2 ∨ i = 3 by omega) with rfl | rfl | rfl | rfl
  all_goals exact ⟨h.cell rfl, h.cell rfl⟩
theorem dnW_small : ∀ d ∈ dnW, (-1 ≤ d.1 ∧ d.1 ≤ 1) ∧ (-1 ≤ d.2 ∧ d.2 ≤ 1) := by unfold dnW; simp
theorem dnW_cells {w : World} {b : Nat} (h : Blk w b #[.int .i64 1, .int .i64 0, .int .i64 1, .int .i64 1, .int .i64 0, .int .i64 1, .int .i64 (-1), .int .i64 1] 80) : ∀ i, i < 4 → w.cell? ⟨b, i * 2, none⟩ = some (.int .i64 (dnW.getD i (0, 0)).1) ∧ w.cell? ⟨b, i * 2 + 1, none⟩ = some (.int .i64 (dnW.getD i (0, 0)).2) := fun i hi => by
  rcases (show i = 0 ∨ i = 1 ∨ i = 2 ∨ i = 3 by omega) with rfl | rfl | rfl | rfl
  all_goals exact ⟨h.cell rfl, h.cell rfl⟩

def GivesRoom (W H : Int) (w : World) (n : Nat) (f : Nat → Bool) (e : Ending) (w' : World) : Prop :=
  ∃ A c l, e = .returned (.slice A n c) ∧ w'.ownsRow w.heap.size 3 1 (.slice A n c) n (nums .i64 l) ∧ RoomL W H n f l ∧ okK n l ∧ Below w.heap.size w w'

set_option maxHeartbeats 3200000 in
set_option maxRecDepth 20000 in
theorem clear_room (W H k : Int) (A : Option Addr) (n c B : Nat) (ts : List Int) (A1 : Option Addr) (n1 c1 : Nat) (l : List Bd) (w : World) (hr : Reads w B 1 A n (nums .u8 ts)) (hB : B ≤ w.heap.size) (hg : isG W H ts = true) (hl : IsBytes ts) (hv : BdsL w A1 n1 l) (hn1 : n1 ≤ 1000000)
    (hall : ∀ i, i < n1 → formP (bdAt l i) ∧ onP W H (bdAt l i)) (hk : classP k) :
    Calls Try.prog 41 #[.agg #[.int .i64 W, .int .i64 H, .slice A n c], .slice A1 n1 c1, .int .i64 k] w (GivesRoom W H w n (openT W ts l n1 k)) := by
  obtain ⟨hW0, hW1, hH0, hH1, hlen, hts⟩ := isG_bounds hg
  have hll : ts.length = n := by have := hr.1; simpa [nums] using this
  have hn : (n : Int) = W * H := by omega
  have hp := prod_range hW0 hW1 hH0 hH1
  have hn4 : n ≤ 16384 := by omega
  have hn0 : 0 < n := by omega
  have hmk : ∀ w, (Instr.makeSlice 30 (.int .i64 (n : Int)) (.int .i64 (n : Int))).run Try.prog w = .ok (.slice (some ⟨w.heap.size, 0, none⟩) n n) (w.alloc (.cells (zrowI n) 3)) := fun w => make_ints n w (by omega) info_int
  have hG := Blk.new w #[.int .i64 W, .int .i64 H, .slice A n c] 24
  have hb := (Below.refl w.heap.size w).alloc (Nat.le_refl _) (.cells #[.int .i64 W, .int .i64 H, .slice A n c] 24)
  have hO := owni_made (w.alloc (.cells #[.int .i64 W, .int .i64 H, .slice A n c] 24)) n (by omega)
  have hbm := (Below.refl (w.alloc (.cells #[.int .i64 W, .int .i64 H, .slice A n c] 24)).heap.size (w.alloc (.cells #[.int .i64 W, .int .i64 H, .slice A n c] 24))).alloc (Nat.le_refl _) (.cells (zrowI n) 3)
  replace hG := hG.below hbm hG.lt
  replace hb := hb.trans (hbm.mono hb.size)
  rw [show (w.alloc (.cells #[.int .i64 W, .int .i64 H, .slice A n c] 24)).heap.size = w.heap.size + 1 by simp] at hO
  have C := Lib.hid (clear_tiles W H k A n c B ts A1 n1 c1 l _ (hr.below (hb.mono hB)) (Nat.le_trans hB hb.size) hg hl (hv.below hb) hn1 hall hk)
  clear hbm hlen hts hl hll hr hv hall
  replace hn := Lib.hid hn
  have z0 := hG.cell (i := 0) rfl
  have z1 := hG.cell (i := 1) rfl
  have z2 := hG.cell (i := 2) rfl
  go_enter Try.func41, Try.ntmps41
  go_wp2_with fail
  generalize (w.alloc (.cells #[.int .i64 W, .int .i64 H, .slice A n c] 24)).alloc (.cells (zrowI n) 3) = w3 at *
  generalize hge : w.heap.size + 1 = g at *
  have hgw : w.heap.size < g := by omega
  replace hge := Lib.hid hge
  refine Calls.mono C.out ?_
  rintro e w4 ⟨A3, c3, rfl, hOb, hb4⟩
  clear C z0 z1 z2
  have hgl : g < w3.heap.size := by
    obtain ⟨g', cap, hv, _, hlt⟩ := hO.form hn0
    cases hv
    exact hlt
  have hs3 := hb4.size
  replace hG := hG.below hb4 hG.lt
  replace hO := own_below hO hb4
  replace hb := hb.trans (hb4.mono hb.size)
  clear hb4
  obtain ⟨g3, cap3, hv3, hg3, hgl3⟩ := hOb.form hn0
  injection hv3 with hv3 _ hcap3
  subst hv3; subst hcap3
  generalize openT W ts l n1 k = f at *
  have hO' : w4.ownsRow g 3 1 (.slice (some ⟨g, 0, none⟩) n n) n (nums .i64 (intsOf n (fun t => if t < 0 ∧ f t = true then 128 else 0))) := by
    rw [intsOf_congr (g := fun _ => 0) (fun t _ => by simp), ← intsOf_zero]
    exact hO
  clear hO
  go_wp2_with fail
  go_loopw [21] (fun i wr => ∃ (q : Nat), q ≤ n ∧ i = .int .i64 q ∧ wr.ownsRow g 3 1 (.slice (some ⟨g, 0, none⟩) n n) n (nums .i64 (intsOf n (fun t => if t < q ∧ f t = true then 128 else 0))) ∧ wr.ownsRow w3.heap.size 4 1 (.slice (some ⟨g3, 0, none⟩) n c3) n (bools n f) ∧ Blk wr w.heap.size #[.int .i64 W, .int .i64 H, .slice A n c] 24 ∧ Below w.heap.size w wr) (fun i _ => n - (intOf i).toNat)
  case atStart => exact ⟨0, Nat.zero_le _, rfl, hO', hOb, hG, hb⟩
  case round =>
    clear hO' hOb hG hb
    obtain ⟨q, hq, rfl, hO, hOb, hG, hb⟩ := hrel
    by_cases hqn : q < n
    · obtain ⟨g', hg', _, _, hcb, _⟩ := ownb_at hOb hqn
      cases hg'
      obtain ⟨g', hg', _, hgl', hci, hfi⟩ := own_at hO hqn
      cases hg'
      cases hf : f q with
      | false =>
        rw [hf] at hcb
        rw [intsOf_congr (g := fun t => if t < q + 1 ∧ f t = true then 128 else 0) (fun t _ => by
          by_cases e : t = q
          · subst e; simp [hf]
          · have : (t < q) ↔ (t < q + 1) := by omega
            simp only [this])] at hO
        have HO := Lib.hid hO
        have HOb := Lib.hid hOb
        have HG := Lib.hid hG
        have HB := Lib.hid hb
        clear hO hOb hG hb hci hfi hf
        go_wp2_with fail
        go_roundw
        case rel => exact ⟨q + 1, by omega, by go_num, HO.out, HOb.out, HG.out, HB.out⟩
        case measure => simp [intOf]; omega
      | true =>
        rw [hf] at hcb
        have hO2 := own_store (k := q) hO 128
        rw [intsOf_set, intsOf_congr (g := fun t => if t < q + 1 ∧ f t = true then 128 else 0) (fun t _ => by
          by_cases e : t = q
          · subst e; simp [hf]
          · rw [if_neg e]
            have : (t < q) ↔ (t < q + 1) := by omega
            simp only [this])] at hO2
        have HO := Lib.hid hO2
        have HOb := Lib.hid (own_other hOb (b := g) (o := q) (by omega) (.int .i64 128))
        have HG := Lib.hid (hG.other (a := ⟨g, q, none⟩) (by show w.heap.size ≠ g; omega) (.int .i64 128))
        have HB := Lib.hid (hb.setCell (p := ⟨g, q, none⟩) (by show w.heap.size ≤ g; omega) (.int .i64 128))
        rw [intsOf_at hqn] at hci
        clear hO hO2 hOb hG hb hf
        go_wp2_with fail
        go_roundw
        case rel => exact ⟨q + 1, by omega, by go_num, HO.out, HOb.out, HG.out, HB.out⟩
        case measure => simp [intOf]; omega
    obtain rfl : q = n := by omega
    have hok0 : okK q (intsOf q (fun t => if t < q ∧ f t = true then 128 else 0)) := ⟨intsOf_len _ _, fun v hv => by
      obtain ⟨t, _, rfl⟩ := List.mem_map.1 hv
      show 0 ≤ (if t < q ∧ f t = true then (128 : Int) else 0) ∧ _
      split <;> omega⟩
    have h0 : ∀ t, t < q → (intsOf q (fun t => if t < q ∧ f t = true then (128 : Int) else 0)).getD t 0 = if f t then 128 else 0 := fun t ht => by rw [intsOf_at ht]; simp [ht]
    have hF0 := Fwd.start (W := W) (H := H) hok0
    generalize intsOf q (fun t => if t < q ∧ f t = true then (128 : Int) else 0) = l0 at *
    replace h0 := Lib.hid h0
    replace hF0 := Lib.hid hF0
    clear hOb hok0
    go_wp2_with fail
    go_loopw [33] (fun i wr => ∃ (t : Nat) (l1 : List Int), t ≤ q ∧ i = .int .i64 t ∧ wr.ownsRow g 3 1 (.slice (some ⟨g, 0, none⟩) q q) q (nums .i64 l1) ∧ Hid (Fwd W H q l0 t l1) ∧ Blk wr w.heap.size #[.int .i64 W, .int .i64 H, .slice A q c] 24 ∧ Below w.heap.size w wr) (fun i _ => q - (intOf i).toNat)
    case atStart => exact ⟨0, l0, Nat.zero_le _, rfl, hO, hF0, hG, hb⟩
    case round =>
      clear hO hF0 hG hb
      obtain ⟨t, l1, ht, rfl, hO, hFw, hG, hb⟩ := hrel
      by_cases htq : t < q
      case neg =>
        obtain rfl : t = q := by omega
        have hBk0 := Lib.hid (Bwd.start (W := W) (H := H) hFw.out.ok)
        go_wp2_with fail
        go_loopw [11] (fun i wr => ∃ (s : Nat) (l2 : List Int), s ≤ t ∧ i = .int .i64 ((s : Int) - 1) ∧ wr.ownsRow g 3 1 (.slice (some ⟨g, 0, none⟩) t t) t (nums .i64 l2) ∧ Hid (Bwd W H t l1 s l2) ∧ Blk wr w.heap.size #[.int .i64 W, .int .i64 H, .slice A t c] 24 ∧ Below w.heap.size w wr) (fun i _ => (intOf i + 1).toNat)
        case atStart => exact ⟨t, l1, Nat.le_refl _, rfl, hO, hBk0, hG, hb⟩
        case round =>
          clear hO hBk0 hG hb
          obtain ⟨s, l2, hs, rfl, hO, hBw, hG, hb⟩ := hrel
          by_cases hs0 : s = 0
          · subst hs0
            have hR := Lib.hid (passes_room hW1 hn.out h0.out hFw.out hBw.out)
            have HO := Lib.hid hO
            have HB := Lib.hid hb
            clear hO hG hb
            go_wp2_with fail
            go_ret
            exact ⟨_, _, l2, rfl, own_mono HO.out (by omega), hR.out, hBw.out.ok, HB.out⟩
          · obtain ⟨u, rfl⟩ : ∃ u, s = u + 1 := ⟨s - 1, by omega⟩
            have hu : ((u + 1 : Nat) : Int) - 1 = (u : Int) := by omega
            rw [hu]
            clear hu
            have z0 := hG.cell (i := 0) rfl
            have z1 := hG.cell (i := 1) rfl
            have z2 := hG.cell (i := 2) rfl
            have hWb := Blk.new wr #[.int .i64 1, .int .i64 0, .int .i64 1, .int .i64 1, .int .i64 0, .int .i64 1, .int .i64 (-1), .int .i64 1] 80
            have hbW : Below wr.heap.size wr (wr.alloc (.cells #[.int .i64 1, .int .i64 0, .int .i64 1, .int .i64 1, .int .i64 0, .int .i64 1, .int .i64 (-1), .int .i64 1] 80)) := (Below.refl _ _).alloc (Nat.le_refl _) _
            have hgr : g < wr.heap.size := by
              obtain ⟨g', cap, hv, _, hlt⟩ := hO.form hn0
              cases hv
              exact hlt
            replace hO := own_below hO hbW
            replace hG := hG.below hbW hG.lt
            have hs := hb.size
            replace hb := hb.trans (hbW.mono hs)
            have C := clear_pass W H A t c g t u g wr.heap.size l2 dnW _ hW0 hW1 hH0 hH1 hn.out hO (Nat.le_trans (by omega) hbW.size) hBw.out.ok (by omega) rfl dnW_small hWb.lt (by omega) (dnW_cells hWb)
            replace C := Lib.hid C
            clear hWb hbW
            go_wp2_with fail
            generalize wr.alloc (.cells #[.int .i64 1, .int .i64 0, .int .i64 1, .int .i64 1, .int .i64 0, .int .i64 1, .int .i64 (-1), .int .i64 1] 80) = w5 at *
            generalize wr.heap.size = Z at *
            refine Calls.mono C.out ?_
            rintro e w6 ⟨rfl, hO6, hb6, _⟩
            have hG6 := Lib.hid (hG.below hb6 hgw)
            have hB6 := Lib.hid (hb.trans (hb6.mono (by omega)))
            have hO6' := Lib.hid hO6
            have hF6 := Lib.hid (hBw.out.step hW0 hn.out (by omega))
            clear C z0 z1 z2 hO hG hb hO6 hb6 hFw hBw
            go_wp2_with fail
            go_roundw
            case rel => exact ⟨u, _, by omega, by go_num, hO6'.out, hF6, hG6.out, hB6.out⟩
            case measure => simp [intOf]
      have z0 := hG.cell (i := 0) rfl
      have z1 := hG.cell (i := 1) rfl
      have z2 := hG.cell (i := 2) rfl
      have hWb := Blk.new wr #[.int .i64 (-1), .int .i64 0, .int .i64 (-1), .int .i64 (-1), .int .i64 0, .int .i64 (-1), .int .i64 1, .int .i64 (-1)] 80
      have hbW : Below wr.heap.size wr (wr.alloc (.cells #[.int .i64 (-1), .int .i64 0, .int .i64 (-1), .int .i64 (-1), .int .i64 0, .int .i64 (-1), .int .i64 1, .int .i64 (-1)] 80)) := (Below.refl _ _).alloc (Nat.le_refl _) _
      have hgr : g < wr.heap.size := by
        obtain ⟨g', cap, hv, _, hlt⟩ := hO.form hn0
        cases hv
        exact hlt
      replace hO := own_below hO hbW
      replace hG := hG.below hbW hG.lt
      have hs := hb.size
      replace hb := hb.trans (hbW.mono hs)
      have C := clear_pass W H A q c g q t g wr.heap.size l1 upW _ hW0 hW1 hH0 hH1 hn.out hO (Nat.le_trans (by omega) hbW.size) hFw.out.ok (by omega) rfl upW_small hWb.lt (by omega) (upW_cells hWb)
      replace C := Lib.hid C
      clear hWb hbW
      go_wp2_with fail
      generalize wr.alloc (.cells #[.int .i64 (-1), .int .i64 0, .int .i64 (-1), .int .i64 (-1), .int .i64 0, .int .i64 (-1), .int .i64 1, .int .i64 (-1)] 80) = w5 at *
      generalize wr.heap.size = Z at *
      refine Calls.mono C.out ?_
      rintro e w6 ⟨rfl, hO6, hb6, _⟩
      have hG6 := Lib.hid (hG.below hb6 hgw)
      have hB6 := Lib.hid (hb.trans (hb6.mono (by omega)))
      have hO6' := Lib.hid hO6
      have hF6 := Lib.hid (hFw.out.step hW0 hn.out htq)
      clear C z0 z1 z2 hO hG hb hO6 hb6 hFw
      go_wp2_with fail
      go_roundw
      case rel => exact ⟨t + 1, _, by omega, by go_num, hO6'.out, hF6, hG6.out, hB6.out⟩
      case measure => simp [intOf]; omega
end Go.Proofs.Ytfgjiaakoacomaa
