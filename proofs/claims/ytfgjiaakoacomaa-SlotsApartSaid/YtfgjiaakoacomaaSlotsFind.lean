/- The places about a goal, or why not: the game's answer. -/
import Derived.Test.YtfgjiaakoacomaaSlotsAbout
import Derived.Deep.RegionHeld3
namespace Go.Proofs.Ytfgjiaakoacomaa
set_option maxRecDepth 20000
open Go.RowKit

def GivesFind (w : World) (l : List Int) (e : Ending) (w' : World) : Prop :=
  ∃ A c, e = .returned (.tuple #[.slice A l.length c, .int .i64 0]) ∧ w'.ownsRow w.heap.size 3 1 (.slice A l.length c) l.length (nums .i64 l) ∧ Below w.heap.size w w'

theorem box_cell4 {W w' : World} {C B : Nat} {cs : Array Value} {t : TypeId} (h : Blk W C cs t) (hb : Below B W w') (hB : C < B) (i : Nat) (v : Value) (hv : cs[i]? = some v) : w'.cell? ⟨C, i, none⟩ = some v := (h.below hb hB).cell hv

section
variable (W H k s t N : Int) (A : Option Addr) (n c B : Nat) (ts : List Int) (A1 : Option Addr) (n1 c1 : Nat) (l : List Bd) (w : World)
set_option maxHeartbeats 800000 in
set_option maxRecDepth 20000 in
theorem slots_find_form (hr : Reads w B 1 A n (nums .u8 ts)) (hB : B ≤ w.heap.size) (hl : IsBytes ts) (hv : BdsL w A1 n1 l) (hn1 : n1 ≤ 1000000) (h : ¬ allS n W H ts l k s) :
    Calls Try.prog 30 #[.agg #[.int .i64 W, .int .i64 H, .slice A n c], .slice A1 n1 c1, .int .i64 k, .int .i64 s, .int .i64 t, .int .i64 N] w fun e w' => e = .returned (.tuple #[.slice none 0 0, .int .i64 1]) ∧ Below w.heap.size w w' := by
  have hb := (Below.refl w.heap.size w).alloc (Nat.le_refl _) (.cells #[.int .i64 W, .int .i64 H, .slice A n c] 24)
  have C := field_may W H k s A n c B ts A1 n1 c1 l _ (hr.below (hb.mono hB)) (Nat.le_trans hB hb.size) hl (hv.below hb) hn1
  rw [decide_eq_false h] at C
  replace C := Lib.hid C
  go_enter Try.func30, Try.ntmps30
  go_wp2_with fail
  generalize w.alloc (.cells #[.int .i64 W, .int .i64 H, .slice A n c] 24) = w1 at *
  refine Calls.mono C.out ?_
  rintro e w2 ⟨rfl, hb2⟩
  go_wp2_with fail
  go_ret2
  exact ⟨rfl, hb.trans (hb2.mono hb.size)⟩
set_option maxHeartbeats 800000 in
set_option maxRecDepth 20000 in
theorem slots_find_none (hr : Reads w B 1 A n (nums .u8 ts)) (hB : B ≤ w.heap.size) (hl : IsBytes ts) (hv : BdsL w A1 n1 l) (hn1 : n1 ≤ 1000000) (h : allS n W H ts l k s) (ht : tileB W H t = false) :
    Calls Try.prog 30 #[.agg #[.int .i64 W, .int .i64 H, .slice A n c], .slice A1 n1 c1, .int .i64 k, .int .i64 s, .int .i64 t, .int .i64 N] w fun e w' => e = .returned (.tuple #[.slice none 0 0, .int .i64 3]) ∧ Below w.heap.size w w' := by
  obtain ⟨hW0, hW1, hH0, hH1, _, _⟩ := isG_bounds h.1.1
  have hG := Blk.new w #[.int .i64 W, .int .i64 H, .slice A n c] 24
  have hb := (Below.refl w.heap.size w).alloc (Nat.le_refl _) (.cells #[.int .i64 W, .int .i64 H, .slice A n c] 24)
  have C := field_may W H k s A n c B ts A1 n1 c1 l _ (hr.below (hb.mono hB)) (Nat.le_trans hB hb.size) hl (hv.below hb) hn1
  rw [decide_eq_true h] at C
  replace C := Lib.hid C
  have T := Lib.hid (fun W' => ground_is W H t A n c W' hW0 hW1 hH0 hH1)
  rw [ht] at T
  clear hr hB hl hv hn1 h ht
  go_enter Try.func30, Try.ntmps30
  go_wp2_with fail
  generalize w.alloc (.cells #[.int .i64 W, .int .i64 H, .slice A n c] 24) = w1 at *
  refine Calls.mono C.out ?_
  rintro e w2 ⟨rfl, hb2⟩
  replace hG := hG.below hb2 hG.lt
  replace hb := hb.trans (hb2.mono hb.size)
  have z0 := hG.cell (i := 0) rfl
  have z1 := hG.cell (i := 1) rfl
  have z2 := hG.cell (i := 2) rfl
  clear hb2 C
  go_wp2_with fail
  refine Calls.mono (T.out _) ?_
  rintro e w3 ⟨rfl, hb3⟩
  go_wp2_with fail
  go_ret2
  exact ⟨rfl, hb.trans (hb3.mono hb.size)⟩
set_option maxHeartbeats 800000 in
set_option maxRecDepth 20000 in
theorem slots_find_limit (hr : Reads w B 1 A n (nums .u8 ts)) (hB : B ≤ w.heap.size) (hl : IsBytes ts) (hv : BdsL w A1 n1 l) (hn1 : n1 ≤ 1000000) (h : allS n W H ts l k s) (ht : tileB W H t = true) (hN : ¬ (0 ≤ N ∧ N ≤ 64)) :
    Calls Try.prog 30 #[.agg #[.int .i64 W, .int .i64 H, .slice A n c], .slice A1 n1 c1, .int .i64 k, .int .i64 s, .int .i64 t, .int .i64 N] w fun e w' => e = .returned (.tuple #[.slice none 0 0, .int .i64 2]) ∧ Below w.heap.size w w' := by
  obtain ⟨hW0, hW1, hH0, hH1, _, _⟩ := isG_bounds h.1.1
  have hG := Blk.new w #[.int .i64 W, .int .i64 H, .slice A n c] 24
  have hb := (Below.refl w.heap.size w).alloc (Nat.le_refl _) (.cells #[.int .i64 W, .int .i64 H, .slice A n c] 24)
  have C := field_may W H k s A n c B ts A1 n1 c1 l _ (hr.below (hb.mono hB)) (Nat.le_trans hB hb.size) hl (hv.below hb) hn1
  rw [decide_eq_true h] at C
  replace C := Lib.hid C
  have T := Lib.hid (fun W' => ground_is W H t A n c W' hW0 hW1 hH0 hH1)
  rw [ht] at T
  clear hr hB hl hv hn1 h ht
  go_enter Try.func30, Try.ntmps30
  go_wp2_with fail
  generalize w.alloc (.cells #[.int .i64 W, .int .i64 H, .slice A n c] 24) = w1 at *
  refine Calls.mono C.out ?_
  rintro e w2 ⟨rfl, hb2⟩
  replace hG := hG.below hb2 hG.lt
  replace hb := hb.trans (hb2.mono hb.size)
  have z0 := hG.cell (i := 0) rfl
  have z1 := hG.cell (i := 1) rfl
  have z2 := hG.cell (i := 2) rfl
  clear hb2 C
  go_wp2_with fail
  refine Calls.mono (T.out _) ?_
  rintro e w3 ⟨rfl, hb3⟩
  by_cases h0 : N < 0
  · have d1 : decide (N < 0) = true := decide_eq_true h0
    go_wp2_with fail
    go_ret2
    exact ⟨rfl, hb.trans (hb3.mono hb.size)⟩
  · have d1 : decide (N < 0) = false := decide_eq_false h0
    have d2 : decide (64 < N) = true := decide_eq_true (by omega)
    go_wp2_with fail
    go_ret2
    exact ⟨rfl, hb.trans (hb3.mono hb.size)⟩
set_option maxHeartbeats 1600000 in
set_option maxRecDepth 20000 in
theorem slots_find (hr : Reads w B 1 A n (nums .u8 ts)) (hB : B ≤ w.heap.size) (hl : IsBytes ts) (hv : BdsL w A1 n1 l) (hn1 : n1 ≤ 1000000) (h : allS n W H ts l k s) (g : Nat) (hgn : g < n) (hN0 : 0 ≤ N) (hN1 : N ≤ 64) (ml : List Int) (hR : RoomL W H n (openT W ts l n1 k) ml) :
    Calls Try.prog 30 #[.agg #[.int .i64 W, .int .i64 H, .slice A n c], .slice A1 n1 c1, .int .i64 k, .int .i64 s, .int .i64 (g : Int), .int .i64 N] w (GivesFind w (asI (slotsN W H n g (2 * s + 1) (goodT ml s) N.toNat))) := by
  obtain ⟨hW0, hW1, hH0, hH1, hlen, _⟩ := isG_bounds h.1.1
  have hn : (n : Int) = W * H := by have := hr.1; simp [nums] at this; omega
  have hll := hv.1
  have hG := Blk.new w #[.int .i64 W, .int .i64 H, .slice A n c] 24
  have hb := (Below.refl w.heap.size w).alloc (Nat.le_refl _) (.cells #[.int .i64 W, .int .i64 H, .slice A n c] 24)
  have C := field_may W H k s A n c B ts A1 n1 c1 l _ (hr.below (hb.mono hB)) (Nat.le_trans hB hb.size) hl (hv.below hb) hn1
  rw [decide_eq_true h] at C
  replace C := Lib.hid C
  have T := Lib.hid (fun W' => ground_is W H (g : Int) A n c W' hW0 hW1 hH0 hH1)
  rw [show tileB W H (g : Int) = true from decide_eq_true ⟨by omega, by omega⟩] at T
  have FC := Lib.hid (fun W' (hb' : Below w.heap.size w W') => field_fit W H k s A n c B ts A1 n1 c1 l W' (hr.below (hb'.mono hB)) (Nat.le_trans hB hb'.size) h.1.1 hl (hv.below hb') hn1 (fun i hi => ⟨(h.1.2.1.2.2 i (by rw [hll]; exact hi)).1, (h.1.2.1.2.2 i (by rw [hll]; exact hi)).2.1⟩) h.1.2.2 ml hR)
  have AC := Lib.hid (fun W' A2 c2 (hr2 : Reads W' W'.heap.size 1 A2 n (bools n (goodT ml s))) => slots_about W H s N g A A2 n c c2 _ (goodT ml s) W' hr2 (Nat.le_refl _) hW0 hW1 hH0 hH1 hn hgn h.2.1 h.2.2 hN0 hN1)
  have d1 : decide (N < 0) = false := decide_eq_false (by omega)
  have d2 : decide (64 < N) = false := decide_eq_false (by omega)
  generalize asI (slotsN W H n g (2 * s + 1) (goodT ml s) N.toNat) = X at *
  generalize goodT ml s = good at *
  clear hr hB hl hv hn1 h hR hn hll hlen hN0 hN1
  go_enter Try.func30, Try.ntmps30
  go_wp2_with fail
  generalize w.alloc (.cells #[.int .i64 W, .int .i64 H, .slice A n c] 24) = w1 at *
  refine Calls.mono C.out ?_
  rintro e w2 ⟨rfl, hb2⟩
  replace hG := hG.below hb2 hG.lt
  replace hb := hb.trans (hb2.mono hb.size)
  have z0 := hG.cell (i := 0) rfl
  have z1 := hG.cell (i := 1) rfl
  have z2 := hG.cell (i := 2) rfl
  clear hb2 C
  go_wp2_with fail
  refine Calls.mono (T.out _) ?_
  rintro e w3 ⟨rfl, hb3⟩
  clear z0 z1 z2 T
  replace hG := hG.below hb3 hG.lt
  replace hb := hb.trans (hb3.mono hb.size)
  clear hb3
  generalize hgg : w.heap.size = gg at *
  have hgl := hG.lt
  go_wp2_with fail
  clear d1 d2
  have HB : Below (gg + 1) w3 w3.drew := (Below.refl _ _).drew
  have hs : w3.heap.size ≤ w3.drew.heap.size := Nat.le_refl _
  have SD : (fun w' => w'.cell? ⟨gg, 0, none⟩ = some (.int .i64 W) ∧ w'.cell? ⟨gg, 1, none⟩ = some (.int .i64 H) ∧ w'.cell? ⟨gg, 2, none⟩ = some (.slice A n c) ∧ Below (gg + 1) w3 w') w3.drew := ⟨box_cell4 hG HB (Nat.lt_succ_self _) 0 _ rfl, box_cell4 hG HB (Nat.lt_succ_self _) 1 _ rfl, box_cell4 hG HB (Nat.lt_succ_self _) 2 _ rfl, HB⟩
  go_region_held3 (fun w' => w'.cell? ⟨gg, 0, none⟩ = some (.int .i64 W) ∧ w'.cell? ⟨gg, 1, none⟩ = some (.int .i64 H) ∧ w'.cell? ⟨gg, 2, none⟩ = some (.slice A n c) ∧ Below (gg + 1) w3 w')
    (first | exact SD | assumption)
    (first
      | (go_at_call 48; (with_reducible refine Calls.mono (FC.out _ (hb.trans (HB.mono (Nat.le_succ _)))) ?_); rintro e wn ⟨A5, c5, rfl, hO5, hbn⟩; replace HB := HB.trans (hbn.mono (by omega)); replace hs := Nat.le_trans hs hbn.size; have SD : (fun w' => w'.cell? ⟨gg, 0, none⟩ = some (.int .i64 W) ∧ w'.cell? ⟨gg, 1, none⟩ = some (.int .i64 H) ∧ w'.cell? ⟨gg, 2, none⟩ = some (.slice A n c) ∧ Below (gg + 1) w3 w') wn := ⟨box_cell4 hG HB (Nat.lt_succ_self _) 0 _ rfl, box_cell4 hG HB (Nat.lt_succ_self _) 1 _ rfl, box_cell4 hG HB (Nat.lt_succ_self _) 2 _ rfl, HB⟩)
      | (go_at_call 47; (with_reducible refine Calls.mono (AC.out _ _ _ (Reads.of_own hO5)) ?_); rintro e wm ⟨A6, c6, rfl, hO6, hbm⟩; replace hO6 := own_mono hO6 (show gg ≤ _ by omega); replace HB := HB.trans (hbm.mono (by omega)); have SD : (fun w' => w'.cell? ⟨gg, 0, none⟩ = some (.int .i64 W) ∧ w'.cell? ⟨gg, 1, none⟩ = some (.int .i64 H) ∧ w'.cell? ⟨gg, 2, none⟩ = some (.slice A n c) ∧ Below (gg + 1) w3 w') wm := ⟨box_cell4 hG HB (Nat.lt_succ_self _) 0 _ rfl, box_cell4 hG HB (Nat.lt_succ_self _) 1 _ rfl, box_cell4 hG HB (Nat.lt_succ_self _) 2 _ rfl, HB⟩))
  all_goals
    have HO := Lib.hid hO6
    have HBB := Lib.hid (hb.trans (HB.mono (Nat.le_succ _)))
    clear SD HB hO5 hbn hbm hb
    go_wp2_with fail
    go_ret2
    exact ⟨A6, c6, rfl, by rw [hgg]; exact HO.out, by rw [hgg]; exact HBB.out⟩
end
end Go.Proofs.Ytfgjiaakoacomaa
