/- Is a disc free? The game's answer, and the page's. -/
import Derived.Test.YtjbnpgjndohjcaaDiscFits
import Derived.Test.YtjbnpgjndohjcaaClearMay
import Derived.Test.YtjbnpgjndohjcaaRefOpen
import Derived.Deep.RegionHeld3
namespace Go.Proofs.Ytjbnpgjndohjcaa
set_option maxRecDepth 20000
open Go.RowKit

theorem box_cell5 {W w' : World} {C B : Nat} {cs : Array Value} {t : TypeId} (h : Blk W C cs t) (hb : Below B W w') (hB : C < B) (i : Nat) (v : Value) (hv : cs[i]? = some v) : w'.cell? ⟨C, i, none⟩ = some v := (h.below hb hB).cell hv

section
variable (W H k x y r : Int) (A : Option Addr) (n c B : Nat) (ts : List Int) (A1 : Option Addr) (n1 c1 : Nat) (l : List Bd) (w : World)
set_option maxHeartbeats 1600000 in
set_option maxRecDepth 20000 in
theorem disc_free_no (hr : Reads w B 1 A n (nums .u8 ts)) (hB : B ≤ w.heap.size) (hl : IsBytes ts) (hv : BdsL w A1 n1 l) (hn1 : n1 ≤ 1000000) (h : ¬ (allP n W H ts l k ∧ formB x y r = true)) :
    Calls Try.prog 41 #[.agg #[.int .i64 W, .int .i64 H, .slice A n c], .slice A1 n1 c1, .int .i64 k, .agg #[.int .i64 x, .int .i64 y], .int .i64 r] w fun e w' => e = .returned (.tuple #[.bool false, .int .i64 1]) ∧ Below w.heap.size w w' := by
  have hV := Blk.new (w.alloc (.cells #[.int .i64 W, .int .i64 H, .slice A n c] 24)) #[.int .i64 x, .int .i64 y] 35
  have hb : Below w.heap.size w ((w.alloc (.cells #[.int .i64 W, .int .i64 H, .slice A n c] 24)).alloc (.cells #[.int .i64 x, .int .i64 y] 35)) := two_below _ _ _
  rw [show (w.alloc (.cells #[.int .i64 W, .int .i64 H, .slice A n c] 24)).heap.size = w.heap.size + 1 by simp] at hV
  have hG := (Blk.new w #[.int .i64 W, .int .i64 H, .slice A n c] 24).alloc (.cells #[.int .i64 x, .int .i64 y] 35)
  have C := Lib.hid (clear_may W H k A n c B ts A1 n1 c1 l _ (hr.below (hb.mono hB)) (Nat.le_trans hB hb.size) hl (hv.below hb) hn1)
  have F := Lib.hid (fun W' => disc_form x y r W')
  have z0 := hG.cell (i := 0) rfl
  have z1 := hG.cell (i := 1) rfl
  have z2 := hG.cell (i := 2) rfl
  clear hr hB hl hv hn1 hG
  go_enter Try.func41, Try.ntmps41
  go_wp2_with fail
  generalize (w.alloc (.cells #[.int .i64 W, .int .i64 H, .slice A n c] 24)).alloc (.cells #[.int .i64 x, .int .i64 y] 35) = w1 at *
  refine Calls.mono C.out ?_
  rintro e w2 ⟨rfl, hb2⟩
  replace hV := hV.below hb2 hV.lt
  replace hb := hb.trans (hb2.mono hb.size)
  clear hb2 C z0 z1 z2
  by_cases hA : allP n W H ts l k
  · have hff : formB x y r = false := by
      cases hf : formB x y r with
      | false => rfl
      | true => exact absurd ⟨hA, hf⟩ h
    rw [decide_eq_true hA]
    rw [hff] at F
    have v0 := hV.cell (i := 0) rfl
    have v1 := hV.cell (i := 1) rfl
    clear h hA hff
    go_wp2_with fail
    refine Calls.mono (F.out _) ?_
    rintro e w3 ⟨rfl, hb3⟩
    have HB := Lib.hid (hb.trans (hb3.mono hb.size))
    clear hb hb3 v0 v1 hV F
    go_wp2_with fail
    go_ret2
    exact ⟨rfl, HB.out⟩
  · rw [decide_eq_false hA]
    clear h hA F hV
    go_wp2_with fail
    go_ret2
    exact ⟨rfl, hb⟩
set_option maxHeartbeats 3200000 in
set_option maxRecDepth 20000 in
theorem disc_free (hr : Reads w B 1 A n (nums .u8 ts)) (hB : B ≤ w.heap.size) (hl : IsBytes ts) (hv : BdsL w A1 n1 l) (hn1 : n1 ≤ 1000000) (h : allP n W H ts l k) (hf : formB x y r = true) :
    Calls Try.prog 41 #[.agg #[.int .i64 W, .int .i64 H, .slice A n c], .slice A1 n1 c1, .int .i64 k, .agg #[.int .i64 x, .int .i64 y], .int .i64 r] w fun e w' => e = .returned (.tuple #[.bool (freeB W H n (openT W ts l n1 k) x y r), .int .i64 0]) ∧ Below w.heap.size w w' := by
  obtain ⟨hW0, hW1, hH0, hH1, hlen, _⟩ := isG_bounds h.1
  have hn : (n : Int) = W * H := by have := hr.1; simp [nums] at this; omega
  have hll := hv.1
  have hV := Blk.new (w.alloc (.cells #[.int .i64 W, .int .i64 H, .slice A n c] 24)) #[.int .i64 x, .int .i64 y] 35
  have hb : Below w.heap.size w ((w.alloc (.cells #[.int .i64 W, .int .i64 H, .slice A n c] 24)).alloc (.cells #[.int .i64 x, .int .i64 y] 35)) := two_below _ _ _
  rw [show (w.alloc (.cells #[.int .i64 W, .int .i64 H, .slice A n c] 24)).heap.size = w.heap.size + 1 by simp] at hV
  have hG := (Blk.new w #[.int .i64 W, .int .i64 H, .slice A n c] 24).alloc (.cells #[.int .i64 x, .int .i64 y] 35)
  have C := clear_may W H k A n c B ts A1 n1 c1 l _ (hr.below (hb.mono hB)) (Nat.le_trans hB hb.size) hl (hv.below hb) hn1
  rw [decide_eq_true h] at C
  replace C := Lib.hid C
  have F := Lib.hid (fun W' => disc_form x y r W')
  rw [hf] at F
  have TC := Lib.hid (fun W' (hb' : Below w.heap.size w W') => clear_tiles W H k A n c B ts A1 n1 c1 l W' (hr.below (hb'.mono hB)) (Nat.le_trans hB hb'.size) h.1 hl (hv.below hb') hn1 (fun i hi => ⟨(h.2.1.2.2 i (by rw [hll]; exact hi)).1, (h.2.1.2.2 i (by rw [hll]; exact hi)).2.1⟩) h.2.2)
  have FC := Lib.hid (fun W' A2 c2 (hr2 : Reads W' W'.heap.size 1 A2 n (bools n (openT W ts l n1 k))) => disc_fits W H x y r A A2 n c c2 _ (openT W ts l n1 k) W' hr2 (Nat.le_refl _) hW0 hW1 hH0 hH1 hn hf)
  generalize freeB W H n (openT W ts l n1 k) x y r = fr at *
  generalize openT W ts l n1 k = op at *
  have z0 := hG.cell (i := 0) rfl
  have z1 := hG.cell (i := 1) rfl
  have z2 := hG.cell (i := 2) rfl
  clear hr hB hl hv hn1 h hf hn hll hlen
  go_enter Try.func41, Try.ntmps41
  go_wp2_with fail
  generalize (w.alloc (.cells #[.int .i64 W, .int .i64 H, .slice A n c] 24)).alloc (.cells #[.int .i64 x, .int .i64 y] 35) = w1 at *
  refine Calls.mono C.out ?_
  rintro e w2 ⟨rfl, hb2⟩
  replace hV := hV.below hb2 hV.lt
  replace hG := hG.below hb2 hG.lt
  replace hb := hb.trans (hb2.mono hb.size)
  clear hb2 C z0 z1 z2
  have v0 := hV.cell (i := 0) rfl
  have v1 := hV.cell (i := 1) rfl
  go_wp2_with fail
  refine Calls.mono (F.out _) ?_
  rintro e w3 ⟨rfl, hb3⟩
  replace hV := hV.below hb3 hV.lt
  replace hG := hG.below hb3 hG.lt
  replace hb := hb.trans (hb3.mono hb.size)
  clear hb3 F v0 v1
  go_wp2_with fail
  generalize hgg : w.heap.size = gg at *
  have hgl := hV.lt
  have HB : Below (gg + 2) w3 w3.drew := (Below.refl _ _).drew
  have hs : w3.heap.size ≤ w3.drew.heap.size := Nat.le_refl _
  have g1 : gg < gg + 2 := by omega
  have g2 : gg + 1 < gg + 2 := by omega
  have g3 : gg ≤ gg + 2 := by omega
  have SD : (fun w' => w'.cell? ⟨gg, 0, none⟩ = some (.int .i64 W) ∧ w'.cell? ⟨gg, 1, none⟩ = some (.int .i64 H) ∧ w'.cell? ⟨gg, 2, none⟩ = some (.slice A n c) ∧ w'.cell? ⟨gg + 1, 0, none⟩ = some (.int .i64 x) ∧ w'.cell? ⟨gg + 1, 1, none⟩ = some (.int .i64 y) ∧ Below (gg + 2) w3 w') w3.drew := ⟨box_cell5 hG HB g1 0 _ rfl, box_cell5 hG HB g1 1 _ rfl, box_cell5 hG HB g1 2 _ rfl, box_cell5 hV HB g2 0 _ rfl, box_cell5 hV HB g2 1 _ rfl, HB⟩
  go_region_held3 (fun w' => w'.cell? ⟨gg, 0, none⟩ = some (.int .i64 W) ∧ w'.cell? ⟨gg, 1, none⟩ = some (.int .i64 H) ∧ w'.cell? ⟨gg, 2, none⟩ = some (.slice A n c) ∧ w'.cell? ⟨gg + 1, 0, none⟩ = some (.int .i64 x) ∧ w'.cell? ⟨gg + 1, 1, none⟩ = some (.int .i64 y) ∧ Below (gg + 2) w3 w')
    (first | exact SD | assumption)
    (first
      | (go_at_call 74; (with_reducible refine Calls.mono (TC.out _ (hb.trans (HB.mono g3))) ?_); rintro e wn ⟨A5, c5, rfl, hO5, hbn⟩; replace HB := HB.trans (hbn.mono (by omega)); replace hs := Nat.le_trans hs hbn.size; have SD : (fun w' => w'.cell? ⟨gg, 0, none⟩ = some (.int .i64 W) ∧ w'.cell? ⟨gg, 1, none⟩ = some (.int .i64 H) ∧ w'.cell? ⟨gg, 2, none⟩ = some (.slice A n c) ∧ w'.cell? ⟨gg + 1, 0, none⟩ = some (.int .i64 x) ∧ w'.cell? ⟨gg + 1, 1, none⟩ = some (.int .i64 y) ∧ Below (gg + 2) w3 w') wn := ⟨box_cell5 hG HB g1 0 _ rfl, box_cell5 hG HB g1 1 _ rfl, box_cell5 hG HB g1 2 _ rfl, box_cell5 hV HB g2 0 _ rfl, box_cell5 hV HB g2 1 _ rfl, HB⟩)
      | (go_at_call 73; (with_reducible refine Calls.mono (FC.out _ _ _ (Reads.of_own hO5)) ?_); rintro e wm ⟨rfl, hbm⟩; replace HB := HB.trans (hbm.mono (by omega)); have SD : (fun w' => w'.cell? ⟨gg, 0, none⟩ = some (.int .i64 W) ∧ w'.cell? ⟨gg, 1, none⟩ = some (.int .i64 H) ∧ w'.cell? ⟨gg, 2, none⟩ = some (.slice A n c) ∧ w'.cell? ⟨gg + 1, 0, none⟩ = some (.int .i64 x) ∧ w'.cell? ⟨gg + 1, 1, none⟩ = some (.int .i64 y) ∧ Below (gg + 2) w3 w') wm := ⟨box_cell5 hG HB g1 0 _ rfl, box_cell5 hG HB g1 1 _ rfl, box_cell5 hG HB g1 2 _ rfl, box_cell5 hV HB g2 0 _ rfl, box_cell5 hV HB g2 1 _ rfl, HB⟩))
  all_goals
    have HBB := Lib.hid (hb.trans (HB.mono g3))
    clear SD HB hO5 hbn hbm hb
    go_wp2_with fail
    go_ret2
    exact ⟨rfl, by rw [hgg]; exact HBB.out⟩
set_option maxHeartbeats 3200000 in
set_option maxRecDepth 20000 in
theorem ref_free (hr : Reads w B 1 A n (nums .u8 ts)) (hB : B ≤ w.heap.size) (hl : IsBytes ts) (hv : BdsL w A1 n1 l) (hn1 : n1 ≤ 1000000) (h : allP n W H ts l k) (hf : formB x y r = true) :
    Calls Try.prog 40 #[.agg #[.int .i64 W, .int .i64 H, .slice A n c], .slice A1 n1 c1, .int .i64 k, .agg #[.int .i64 x, .int .i64 y], .int .i64 r] w fun e w' => e = .returned (.bool (freeB W H n (openT W ts l n1 k) x y r)) ∧ Below w.heap.size w w' := by
  obtain ⟨hW0, hW1, hH0, hH1, hlen, _⟩ := isG_bounds h.1
  obtain ⟨r0, r1, x0, x1, y0, y1⟩ := formB_is hf
  have hp := prod_range hW0 hW1 hH0 hH1
  have hn : (n : Int) = W * H := by have := hr.1; simp [nums] at this; omega
  have hn4 : n ≤ 16384 := by omega
  have hll := hv.1
  have hG := (Blk.new w #[.int .i64 W, .int .i64 H, .slice A n c] 24).alloc (.cells #[.int .i64 x, .int .i64 y] 35)
  have hV := Blk.new (w.alloc (.cells #[.int .i64 W, .int .i64 H, .slice A n c] 24)) #[.int .i64 x, .int .i64 y] 35
  have hb : Below w.heap.size w ((w.alloc (.cells #[.int .i64 W, .int .i64 H, .slice A n c] 24)).alloc (.cells #[.int .i64 x, .int .i64 y] 35)) := two_below _ _ _
  rw [show (w.alloc (.cells #[.int .i64 W, .int .i64 H, .slice A n c] 24)).heap.size = w.heap.size + 1 by simp] at hV
  have OC := Lib.hid (fun W' (hb' : Below w.heap.size w W') => ref_open W H k A n c B ts A1 n1 c1 l W' (hr.below (hb'.mono hB)) (Nat.le_trans hB hb'.size) h.1 hl (hv.below hb') hn1 (fun i hi => ⟨(h.2.1.2.2 i (by rw [hll]; exact hi)).1, (h.2.1.2.2 i (by rw [hll]; exact hi)).2.1⟩) h.2.2)
  have MC := Lib.hid (fun (t : Nat) (ht : t < n) W' => ref_meets W H (t : Int) x y r A n c W' hW0 hW1 (by omega) (by omega) x0 x1 y0 y1 r0 r1)
  have HREF := Lib.hid (fun (t : Nat) (ht : t < n) => hits_ref (t := (t : Int)) (r := r) hW0 hW1 (by omega) (by omega) x0 x1 y0 y1)
  generalize openT W ts l n1 k = op at *
  generalize hFR : freeB W H n op x y r = fr
  have HOFF := Lib.hid (fun (h : ¬ onD W H x y r) => hFR.symm.trans (free_off (n := n) (f := op) h))
  have HHIT := Lib.hid (fun (t : Nat) (ht : t < n) (h1 : op t = false) (h2 : hitsB W (t : Int) x y r = true) => hFR.symm.trans (free_hit (H := H) ht h1 h2))
  have HON := Lib.hid (fun (h : onD W H x y r) (h2 : ∀ t, t < n → op t = false → hitsB W (t : Int) x y r = false) => hFR.symm.trans ((free_iff).2 ⟨h, h2⟩))
  clear hFR hr hB hl hv hn1 h hf hll hlen
  have hHB := Lib.hid hb
  by_cases c1 : x < r
  case pos =>
    obtain rfl := HOFF.out (fun h => by have := h.1; omega)
    have d1 : decide (x < r) = true := decide_eq_true c1
    clear HOFF HHIT HON HREF MC OC hb hG hV
    go_enter Try.func40, Try.ntmps40
    go_wp2_with fail
    go_ret
    exact ⟨rfl, hHB.out⟩
  have d1 : decide (x < r) = false := decide_eq_false c1
  by_cases c2 : y < r
  case pos =>
    obtain rfl := HOFF.out (fun h => by have := h.2.2.1; omega)
    have d2 : decide (y < r) = true := decide_eq_true c2
    clear HOFF HHIT HON HREF MC OC hb hG hV
    go_enter Try.func40, Try.ntmps40
    go_wp2_with fail
    go_ret
    exact ⟨rfl, hHB.out⟩
  have d2 : decide (y < r) = false := decide_eq_false c2
  by_cases c3 : W * 65536 - r < x
  case pos =>
    obtain rfl := HOFF.out (fun h => by have := h.2.1; omega)
    have d3 : decide (W * 65536 - r < x) = true := decide_eq_true c3
    clear HOFF HHIT HON HREF MC OC hb hG hV
    go_enter Try.func40, Try.ntmps40
    go_wp2_with fail
    go_ret
    exact ⟨rfl, hHB.out⟩
  have d3 : decide (W * 65536 - r < x) = false := decide_eq_false c3
  by_cases c4 : H * 65536 - r < y
  case pos =>
    obtain rfl := HOFF.out (fun h => by have := h.2.2.2; omega)
    have d4 : decide (H * 65536 - r < y) = true := decide_eq_true c4
    clear HOFF HHIT HON HREF MC OC hb hG hV
    go_enter Try.func40, Try.ntmps40
    go_wp2_with fail
    go_ret
    exact ⟨rfl, hHB.out⟩
  have d4 : decide (H * 65536 - r < y) = false := decide_eq_false c4
  have HON := Lib.hid (HON.out ⟨by omega, by omega, by omega, by omega⟩)
  clear HOFF hHB
  go_enter Try.func40, Try.ntmps40
  go_wp2_with fail
  generalize (w.alloc (.cells #[.int .i64 W, .int .i64 H, .slice A n c] 24)).alloc (.cells #[.int .i64 x, .int .i64 y] 35) = w1 at *
  clear d1 d2 d3 d4 c1 c2 c3 c4
  refine Calls.mono (OC.out _ hb) ?_
  rintro e w3 ⟨A3, c3, rfl, hO, hb3⟩
  clear OC
  replace hG := hG.below hb3 hG.lt
  replace hV := hV.below hb3 hV.lt
  have hgd := Reads.of_own hO
  replace hb := hb.trans (hb3.mono hb.size)
  clear hb3 hO
  go_wp2_with fail
  have hGl := hG.lt
  have hVl := hV.lt
  go_loopw [12] (fun tv wr => ∃ (t : Nat), t ≤ n ∧ tv = .int .i64 (t : Int) ∧ (∀ u, u < t → op u = false → hitsB W (u : Int) x y r = false) ∧ Below w3.heap.size w3 wr) (fun tv _ => n - (intOf tv).toNat)
  case atStart => exact ⟨0, Nat.zero_le _, rfl, fun u hu => absurd hu (by omega), Below.refl _ _⟩
  case round =>
    obtain ⟨t, ht, rfl, hup, hbl⟩ := hrel
    have HB := Lib.hid hbl
    have HUP := Lib.hid hup
    clear hup hbl
    by_cases htn : t < n
    case neg =>
      obtain rfl : t = n := by omega
      obtain rfl := HON.out HUP.out
      have HBB := Lib.hid (hb.trans (HB.out.mono hb.size))
      clear HB HUP HON HHIT HREF MC hb hgd
      go_wp2_with fail
      go_ret
      exact ⟨rfl, HBB.out⟩
    have htz : (t : Int) < (n : Int) := by omega
    have hG4 := hG.below HB.out hGl
    have hV4 := hV.below HB.out hVl
    obtain ⟨bg, og, rfl, hbg, hcg⟩ := reads_bool (hgd.below HB.out) htn
    have HN : Hid (hitsB W (t : Int) x y r = false ∨ op t = true → ∀ u, u < t + 1 → op u = false → hitsB W (u : Int) x y r = false) := Lib.hid (fun hor u hu hfu => by
      by_cases hlt : u < t
      · exact HUP.out u hlt hfu
      · obtain rfl : u = t := by omega
        rcases hor with h | h
        · exact h
        · rw [h] at hfu; cases hfu)
    have HHIT := Lib.hid (HHIT.out t htn)
    have HI := MC.out t htn
    rw [← HREF.out t htn] at HI
    replace HI := Lib.hid HI
    clear MC HREF HUP HON hgd
    cases hft : op t with
    | true =>
      rw [hft] at hcg
      have HU := Lib.hid (HN.out (.inr hft))
      clear HN HHIT HI hft hb hG hV hG4 hV4
      go_wp2_with fail
      go_roundw
      case rel => exact ⟨t + 1, by omega, by go_num, HU.out, HB.out⟩
      case measure => simp [intOf]; omega
    | false =>
      rw [hft] at hcg
      have z0 := hG4.cell (i := 0) rfl
      have z1 := hG4.cell (i := 1) rfl
      have z2 := hG4.cell (i := 2) rfl
      have v0 := hV4.cell (i := 0) rfl
      have v1 := hV4.cell (i := 1) rfl
      go_wp2_with fail
      refine Calls.mono (HI.out _) ?_
      rintro e w5 ⟨rfl, hb5⟩
      have HB5 := Lib.hid (HB.out.trans (hb5.mono HB.out.size))
      clear hb5 HI z0 z1 z2 v0 v1 hcg hG4 hV4
      cases hh : hitsB W (t : Int) x y r with
      | false =>
        have HU := Lib.hid (HN.out (.inl hh))
        clear HN HHIT hft hh hb HB
        go_wp2_with fail
        go_roundw
        case rel => exact ⟨t + 1, by omega, by go_num, HU.out, HB5.out⟩
        case measure => simp [intOf]; omega
      | true =>
        obtain rfl := HHIT.out hft hh
        have HBB := Lib.hid (hb.trans (HB5.out.mono hb.size))
        clear HN HHIT hft hh hb HB
        go_wp2_with fail
        go_ret
        exact ⟨rfl, HBB.out⟩
end
end Go.Proofs.Ytjbnpgjndohjcaa
