/- A tile's place, its middle and its number: ground's answer and the page's. -/
import Derived.Test.YtdcilabbjejklaaGroundAt
import Derived.StillTailTactics
namespace Go.Proofs.Ytdcilabbjejklaa
open Go.RowKit

theorem tile_parts {W H t : Int} (h1 : 1 ≤ W) (h2 : W ≤ 128) (h3 : 1 ≤ H) (h4 : H ≤ 128) (ht : tileB W H t = true) : 0 ≤ t ∧ t < 16384 ∧ 0 ≤ t % W ∧ t % W < W ∧ 0 ≤ t / W ∧ t / W < H := by
  obtain ⟨t0, t1⟩ := of_decide_eq_true ht
  have p2 := (prod_range h1 h2 h3 h4).2
  exact ⟨t0, by omega, Int.emod_nonneg _ (by omega), Int.emod_lt_of_pos _ (by omega), Int.ediv_nonneg t0 (by omega), Int.ediv_lt_of_lt_mul (by omega) (by rw [Int.mul_comm]; exact t1)⟩

set_option maxRecDepth 20000 in
set_option maxHeartbeats 800000 in
theorem ground_mid (W H t : Int) (A : Option Addr) (n c : Nat) (w : World) (h1 : 1 ≤ W) (h2 : W ≤ 128) (h3 : 1 ≤ H) (h4 : H ≤ 128) (ht : tileB W H t = true) :
    Calls Try.prog 59 #[.agg #[.int .i64 W, .int .i64 H, .slice A n c], .int .i64 t] w fun e w' => e = .returned (.agg #[.int .i64 (t % W * 65536 + 32768), .int .i64 (t / W * 65536 + 32768)]) ∧ Below w.heap.size w w' := by
  obtain ⟨t0, t1, x0, x1, y0, y1⟩ := tile_parts h1 h2 h3 h4 ht
  clear ht
  have hw0 : ¬ W = 0 := by omega
  have hm : t.tmod W = t % W := Int.tmod_eq_emod_of_nonneg t0
  have hd : t.tdiv W = t / W := Int.tdiv_eq_ediv_of_nonneg t0
  have wx1 : IntKind.i64.wrap (t % W * 65536) = t % W * 65536 := IntWalk.i64_in _ (by omega)
  have wx2 : IntKind.i64.wrap (t % W * 65536 + 32768) = t % W * 65536 + 32768 := IntWalk.i64_in _ (by omega)
  have wy1 : IntKind.i64.wrap (t / W * 65536) = t / W * 65536 := IntWalk.i64_in _ (by omega)
  have wy2 : IntKind.i64.wrap (t / W * 65536 + 32768) = t / W * 65536 + 32768 := IntWalk.i64_in _ (by omega)
  go_enter Try.func59, Try.ntmps59
  go_wp2_with fail
  generalize hW : (w.alloc (.cells #[.int .i64 W, .int .i64 H, .slice A n c] 39)).alloc _ = X
  have hc0 : X.cell? ⟨w.heap.size, 0, none⟩ = some (.int .i64 W) := by rw [← hW, World.cell?_alloc_lt _ _ _ (by simp), World.cell?_alloc_at _ _ _ _ rfl]; rfl
  refine wp_region_still_tail 13 (by kernel_rfl) (by kernel_rfl) ?_
  simp only [List.take_succ_cons, List.take_zero, List.drop_succ_cons, List.drop_zero]
  repeat (refine wpStill_step (fun K hK => ?_); go_simp; (try simp only [hw0, if_false, hm, hd, wx1, wx2, wy1, wy2]); refine hK _ ?_; clear hK K)
  refine wpStill_nil ?_
  change wpList _ _ _ _ _ X.drew
  subst hW
  go_wp2
  exact bodyPost_ret (v := .agg #[.int .i64 (t % W * 65536 + 32768), .int .i64 (t / W * 65536 + 32768)]) (by simp [results, Try.results59, go_sem]) rfl ⟨rfl, (two_below' _ _ _).drew⟩

set_option maxRecDepth 20000 in
set_option maxHeartbeats 800000 in
theorem ref_center (W H t : Int) (A : Option Addr) (n c : Nat) (w : World) (h1 : 1 ≤ W) (h2 : W ≤ 128) (h3 : 1 ≤ H) (h4 : H ≤ 128) (ht : tileB W H t = true) :
    Calls Try.prog 34 #[.agg #[.int .i64 W, .int .i64 H, .slice A n c], .int .i64 t] w fun e w' => e = .returned (.agg #[.int .i64 (t % W * 65536 + 32768), .int .i64 (t / W * 65536 + 32768)]) ∧ Below w.heap.size w w' := by
  obtain ⟨t0, t1, x0, x1, y0, y1⟩ := tile_parts h1 h2 h3 h4 ht
  clear ht
  have hw0 : ¬ W = 0 := by omega
  have hm : t.tmod W = t % W := Int.tmod_eq_emod_of_nonneg t0
  have hd : t.tdiv W = t / W := Int.tdiv_eq_ediv_of_nonneg t0
  have wx1 : IntKind.i64.wrap (t % W * 65536) = t % W * 65536 := IntWalk.i64_in _ (by omega)
  have wx2 : IntKind.i64.wrap (t % W * 65536 + 32768) = t % W * 65536 + 32768 := IntWalk.i64_in _ (by omega)
  have wy1 : IntKind.i64.wrap (t / W * 65536) = t / W * 65536 := IntWalk.i64_in _ (by omega)
  have wy2 : IntKind.i64.wrap (t / W * 65536 + 32768) = t / W * 65536 + 32768 := IntWalk.i64_in _ (by omega)
  go_enter Try.func34, Try.ntmps34
  go_wp2_with fail
  generalize hW : (w.alloc (.cells #[.int .i64 W, .int .i64 H, .slice A n c] 39)).alloc _ = X
  have hc0 : X.cell? ⟨w.heap.size, 0, none⟩ = some (.int .i64 W) := by rw [← hW, World.cell?_alloc_lt _ _ _ (by simp), World.cell?_alloc_at _ _ _ _ rfl]; rfl
  refine wp_region_still_tail 13 (by kernel_rfl) (by kernel_rfl) ?_
  simp only [List.take_succ_cons, List.take_zero, List.drop_succ_cons, List.drop_zero]
  repeat (refine wpStill_step (fun K hK => ?_); go_simp; (try simp only [hw0, if_false, hm, hd, wx1, wx2, wy1, wy2]); refine hK _ ?_; clear hK K)
  refine wpStill_nil ?_
  change wpList _ _ _ _ _ X.drew
  subst hW
  go_wp2
  exact bodyPost_ret (v := .agg #[.int .i64 (t % W * 65536 + 32768), .int .i64 (t / W * 65536 + 32768)]) (by simp [results, Try.results34, go_sem]) rfl ⟨rfl, (two_below' _ _ _).drew⟩

/-- What 'ground.XY' gives. -/
def xyR (W H t : Int) (l : List Int) : Int × Int × Int := if isG W H l = true then (if tileB W H t = true then (t % W, t / W, 0) else (0, 0, 3)) else (0, 0, 1)
/-- What 'ground.Center' gives. -/
def cenR (W H t : Int) (l : List Int) : Int × Int × Int := if isG W H l = true then (if tileB W H t = true then (t % W * 65536 + 32768, t / W * 65536 + 32768, 0) else (0, 0, 3)) else (0, 0, 1)
/-- What 'ground.Tile' gives. -/
def numR (W H x y : Int) (l : List Int) : Int × Int := if isG W H l = true then (if onB W H x y = true then (x + W * y, 0) else (0, 3)) else (0, 1)

/-- A ground's box behind a call. -/
def Box1 (g : Nat) (W H : Int) (A : Option Addr) (n c : Nat) (w w' : World) : Prop :=
  w'.cell? ⟨g, 0, none⟩ = some (.int .i64 W) ∧ w'.cell? ⟨g, 1, none⟩ = some (.int .i64 H) ∧ w'.cell? ⟨g, 2, none⟩ = some (.slice A n c) ∧ g < w'.heap.size ∧ Below w.heap.size w w'
theorem Box1.start {w : World} {W H : Int} {A : Option Addr} {n c : Nat} {t : TypeId} : Box1 w.heap.size W H A n c w (w.alloc (.cells #[.int .i64 W, .int .i64 H, .slice A n c] t)) := by
  refine ⟨?_, ?_, ?_, by simp, (Below.refl _ _).alloc (Nat.le_refl _) _⟩
  all_goals
    rw [World.cell?_alloc_at _ _ _ _ rfl]; rfl
theorem Box1.next {g : Nat} {W H : Int} {A : Option Addr} {n c : Nat} {w wa wb : World} (h : Box1 g W H A n c w wa) (hb : Below wa.heap.size wa wb) : Box1 g W H A n c w wb := by
  obtain ⟨h0, h1, h2, h3, h4⟩ := h
  exact ⟨(hb.cell (p := ⟨g, 0, none⟩) h3).trans h0, (hb.cell (p := ⟨g, 1, none⟩) h3).trans h1, (hb.cell (p := ⟨g, 2, none⟩) h3).trans h2, Nat.lt_of_lt_of_le h3 hb.size, h4.trans (hb.mono h4.size)⟩

set_option maxHeartbeats 800000 in
theorem ground_xy (W H t : Int) (A : Option Addr) (n c B : Nat) (l : List Int) (w : World) (hr : Reads w B 1 A n (nums .u8 l)) (hB : B ≤ w.heap.size) (hl : IsBytes l) :
    Calls Try.prog 35 #[.agg #[.int .i64 W, .int .i64 H, .slice A n c], .int .i64 t] w fun e w' => e = .returned (.tuple #[.int .i64 (xyR W H t l).1, .int .i64 (xyR W H t l).2.1, .int .i64 (xyR W H t l).2.2]) ∧ Below w.heap.size w w' := by
  have M := fun W' (hr : Reads W' W'.heap.size 1 A n (nums .u8 l)) => ground_may W H A n c _ l W' hr (Nat.le_refl _) hl
  have hr' := (hr.alloc hB (.cells #[.int .i64 W, .int .i64 H, .slice A n c] 39)).more (Nat.le_trans hB ((Below.refl w.heap.size w).alloc (Nat.le_refl _) (.cells #[.int .i64 W, .int .i64 H, .slice A n c] 39)).size)
  clear hr
  by_cases hG : isG W H l = true
  · obtain ⟨h1, h2, h3, h4, _⟩ := isG_bounds hG
    have U := fun W' => ground_is W H t A n c W' h1 h2 h3 h4
    by_cases hT : tileB W H t = true
    · have HR : Hid (xyR W H t l = (t % W, t / W, 0)) := by show _ = _; unfold xyR; rw [if_pos hG, if_pos hT]
      obtain ⟨t0, t1, x0, x1, y0, y1⟩ := tile_parts h1 h2 h3 h4 hT
      rw [hG] at M
      rw [hT] at U
      have M := Lib.hid M
      have U := Lib.hid U
      clear hG hT
      go_enter Try.func35, Try.ntmps35
      go_wp2_with fail
      refine Calls.mono (M.out _ hr') ?_
      rintro e w1 ⟨rfl, hb1⟩
      have B1 := Box1.start.next hb1
      clear hb1
      obtain ⟨c0, c1, c2, c3, c4⟩ := id B1
      go_wp2_with fail
      refine Calls.mono (U.out _) ?_
      rintro e w2 ⟨rfl, hb2⟩
      obtain ⟨e0, e1, e2, e3, e4⟩ := B1.next hb2
      clear c0 c1 c2 c3 c4 hb2 B1
      go_wp2_with fail
      go_quiet (fail)
      go_wp2
      exact bodyPost_ret (v := .tuple #[.int .i64 (t % W), .int .i64 (t / W), .int .i64 0]) (by simp [results, Try.results35, go_sem]) rfl ⟨by rw [HR.out], below_drewN e4 _⟩
    · have HR : Hid (xyR W H t l = (0, 0, 3)) := by show _ = _; unfold xyR; rw [if_pos hG, if_neg hT]
      rw [hG] at M
      rw [show tileB W H t = false by simpa using hT] at U
      have M := Lib.hid M
      have U := Lib.hid U
      clear hG hT
      go_enter Try.func35, Try.ntmps35
      go_wp2_with fail
      refine Calls.mono (M.out _ hr') ?_
      rintro e w1 ⟨rfl, hb1⟩
      have B1 := Box1.start.next hb1
      clear hb1
      obtain ⟨c0, c1, c2, c3, c4⟩ := id B1
      go_wp2_with fail
      refine Calls.mono (U.out _) ?_
      rintro e w2 ⟨rfl, hb2⟩
      go_wp2
      exact bodyPost_ret (v := .tuple #[.int .i64 0, .int .i64 0, .int .i64 3]) (by simp [results, Try.results35, go_sem]) rfl ⟨by rw [HR.out], c4.trans (hb2.mono c4.size)⟩
  · have HR : Hid (xyR W H t l = (0, 0, 1)) := by show _ = _; unfold xyR; rw [if_neg hG]
    rw [show isG W H l = false by simpa using hG] at M
    have M := Lib.hid M
    clear hG
    go_enter Try.func35, Try.ntmps35
    go_wp2_with fail
    refine Calls.mono (M.out _ hr') ?_
    rintro e w1 ⟨rfl, hb1⟩
    go_wp2
    exact bodyPost_ret (v := .tuple #[.int .i64 0, .int .i64 0, .int .i64 1]) (by simp [results, Try.results35, go_sem]) rfl ⟨by rw [HR.out], (Box1.start.next hb1).2.2.2.2⟩

set_option maxHeartbeats 800000 in
theorem ground_tile (W H x y : Int) (A : Option Addr) (n c B : Nat) (l : List Int) (w : World) (hr : Reads w B 1 A n (nums .u8 l)) (hB : B ≤ w.heap.size) (hl : IsBytes l) :
    Calls Try.prog 37 #[.agg #[.int .i64 W, .int .i64 H, .slice A n c], .int .i64 x, .int .i64 y] w fun e w' => e = .returned (.tuple #[.int .i64 (numR W H x y l).1, .int .i64 (numR W H x y l).2]) ∧ Below w.heap.size w w' := by
  have M := fun W' (hr : Reads W' W'.heap.size 1 A n (nums .u8 l)) => ground_may W H A n c _ l W' hr (Nat.le_refl _) hl
  have hr' := (hr.alloc hB (.cells #[.int .i64 W, .int .i64 H, .slice A n c] 39)).more (Nat.le_trans hB ((Below.refl w.heap.size w).alloc (Nat.le_refl _) (.cells #[.int .i64 W, .int .i64 H, .slice A n c] 39)).size)
  clear hr
  by_cases hG : isG W H l = true
  · obtain ⟨h1, h2, h3, h4, _⟩ := isG_bounds hG
    have U := fun W' => ground_on W H x y A n c W'
    by_cases hT : onB W H x y = true
    · have HR : Hid (numR W H x y l = (x + W * y, 0)) := by show _ = _; unfold numR; rw [if_pos hG, if_pos hT]
      obtain ⟨x0, x1, y0, y1⟩ := of_decide_eq_true hT
      have q0 : 0 ≤ W * y := Int.mul_nonneg (by omega) y0
      have q1 : W * y ≤ 128 * 128 := Int.mul_le_mul h2 (by omega) y0 (by omega)
      rw [hG] at M
      rw [hT] at U
      have M := Lib.hid M
      have U := Lib.hid U
      clear hG hT
      go_enter Try.func37, Try.ntmps37
      go_wp2_with fail
      refine Calls.mono (M.out _ hr') ?_
      rintro e w1 ⟨rfl, hb1⟩
      have B1 := Box1.start.next hb1
      clear hb1
      obtain ⟨c0, c1, c2, c3, c4⟩ := id B1
      go_wp2_with fail
      refine Calls.mono (U.out _) ?_
      rintro e w2 ⟨rfl, hb2⟩
      obtain ⟨e0, e1, e2, e3, e4⟩ := B1.next hb2
      clear c0 c1 c2 c3 c4 hb2 B1
      go_wp2
      go_ret2
      exact ⟨by rw [HR.out]; rfl, e4⟩
    · have HR : Hid (numR W H x y l = (0, 3)) := by show _ = _; unfold numR; rw [if_pos hG, if_neg hT]
      rw [hG] at M
      rw [show onB W H x y = false by simpa using hT] at U
      have M := Lib.hid M
      have U := Lib.hid U
      clear hG hT
      go_enter Try.func37, Try.ntmps37
      go_wp2_with fail
      refine Calls.mono (M.out _ hr') ?_
      rintro e w1 ⟨rfl, hb1⟩
      have B1 := Box1.start.next hb1
      clear hb1
      obtain ⟨c0, c1, c2, c3, c4⟩ := id B1
      go_wp2_with fail
      refine Calls.mono (U.out _) ?_
      rintro e w2 ⟨rfl, hb2⟩
      go_wp2
      go_ret2
      exact ⟨by rw [HR.out]; rfl, c4.trans (hb2.mono c4.size)⟩
  · have HR : Hid (numR W H x y l = (0, 1)) := by show _ = _; unfold numR; rw [if_neg hG]
    rw [show isG W H l = false by simpa using hG] at M
    have M := Lib.hid M
    clear hG
    go_enter Try.func37, Try.ntmps37
    go_wp2_with fail
    refine Calls.mono (M.out _ hr') ?_
    rintro e w1 ⟨rfl, hb1⟩
    go_wp2
    go_ret2
    exact ⟨by rw [HR.out]; rfl, (Box1.start.next hb1).2.2.2.2⟩
/-- Two cells of the call's own, behind a call. -/
theorem keepq {wa wb : World} {g : Nat} {a b : Int} (h : wa.cell? ⟨g, 0, none⟩ = some (.int .i64 a) ∧ wa.cell? ⟨g, 1, none⟩ = some (.int .i64 b) ∧ (∀ j, wa.frozen? ⟨g, j, none⟩ = false) ∧ g < wa.heap.size) (hb : Below wa.heap.size wa wb) : wb.cell? ⟨g, 0, none⟩ = some (.int .i64 a) ∧ wb.cell? ⟨g, 1, none⟩ = some (.int .i64 b) ∧ (∀ j, wb.frozen? ⟨g, j, none⟩ = false) ∧ g < wb.heap.size := by
  obtain ⟨h0, h1, h2, h3⟩ := h
  exact ⟨(hb.cell (p := ⟨g, 0, none⟩) h3).trans h0, (hb.cell (p := ⟨g, 1, none⟩) h3).trans h1, fun j => (hb.frozen (p := ⟨g, j, none⟩) h3).trans (h2 j), Nat.lt_of_lt_of_le h3 hb.size⟩
theorem startq (w : World) (t : TypeId) (a b : Int) : (w.alloc (.cells #[.int .i64 a, .int .i64 b] t)).cell? ⟨w.heap.size, 0, none⟩ = some (.int .i64 a) ∧ (w.alloc (.cells #[.int .i64 a, .int .i64 b] t)).cell? ⟨w.heap.size, 1, none⟩ = some (.int .i64 b) ∧ (∀ j, (w.alloc (.cells #[.int .i64 a, .int .i64 b] t)).frozen? ⟨w.heap.size, j, none⟩ = false) ∧ w.heap.size < (w.alloc (.cells #[.int .i64 a, .int .i64 b] t)).heap.size := by
  refine ⟨?_, ?_, fun j => ?_, by simp⟩
  · rw [World.cell?_alloc_at _ _ _ _ rfl]; rfl
  · rw [World.cell?_alloc_at _ _ _ _ rfl]; rfl
  · exact World.frozen?_alloc_at _ _ _ _ rfl

set_option maxHeartbeats 800000 in
theorem ground_center (W H t : Int) (A : Option Addr) (n c B : Nat) (l : List Int) (w : World) (hr : Reads w B 1 A n (nums .u8 l)) (hB : B ≤ w.heap.size) (hl : IsBytes l) :
    Calls Try.prog 36 #[.agg #[.int .i64 W, .int .i64 H, .slice A n c], .int .i64 t] w fun e w' => e = .returned (.tuple #[.agg #[.int .i64 (cenR W H t l).1, .int .i64 (cenR W H t l).2.1], .int .i64 (cenR W H t l).2.2]) ∧ Below w.heap.size w w' := by
  have M := fun W' (hr : Reads W' W'.heap.size 1 A n (nums .u8 l)) => ground_may W H A n c _ l W' hr (Nat.le_refl _) hl
  have hr' := (((hr.alloc hB (.cells #[.int .i64 W, .int .i64 H, .slice A n c] 39)).alloc (Nat.le_trans hB (by simp)) (.cells #[.int .i64 0, .int .i64 0] 53))).more (Nat.le_trans hB (two_below' w (.cells #[.int .i64 W, .int .i64 H, .slice A n c] 39) (.cells #[.int .i64 0, .int .i64 0] 53)).size)
  clear hr
  have B0 : Box1 w.heap.size W H A n c w ((w.alloc (.cells #[.int .i64 W, .int .i64 H, .slice A n c] 39)).alloc (.cells #[.int .i64 0, .int .i64 0] 53)) := Box1.start.next ((Below.refl _ _).alloc (Nat.le_refl _) _)
  have Q0 := startq (w.alloc (.cells #[.int .i64 W, .int .i64 H, .slice A n c] 39)) 53 0 0
  have hsz : (w.alloc (.cells #[.int .i64 W, .int .i64 H, .slice A n c] 39)).heap.size = w.heap.size + 1 := by simp
  rw [hsz] at Q0
  clear hsz
  by_cases hG : isG W H l = true
  · obtain ⟨h1, h2, h3, h4, _⟩ := isG_bounds hG
    have U := fun W' => ground_is W H t A n c W' h1 h2 h3 h4
    by_cases hT : tileB W H t = true
    · have HR : Hid (cenR W H t l = (t % W * 65536 + 32768, t / W * 65536 + 32768, 0)) := by show _ = _; unfold cenR; rw [if_pos hG, if_pos hT]
      have D := Lib.hid (fun W' => ground_mid W H t A n c W' h1 h2 h3 h4 hT)
      rw [hG] at M
      rw [hT] at U
      have M := Lib.hid M
      have U := Lib.hid U
      clear hG hT h1 h2 h3 h4
      generalize t % W * 65536 + 32768 = X at *
      generalize t / W * 65536 + 32768 = Y at *
      go_enter Try.func36, Try.ntmps36
      go_wp2_with fail
      refine Calls.mono (M.out _ hr') ?_
      rintro e w1 ⟨rfl, hb1⟩
      have B1 := B0.next hb1
      have Q1 := keepq Q0 hb1
      clear hb1 B0 Q0
      obtain ⟨c0, c1, c2, c3, c4⟩ := id B1
      go_wp2_with fail
      refine Calls.mono (U.out _) ?_
      rintro e w2 ⟨rfl, hb2⟩
      have B2 := B1.next hb2
      have Q2 := keepq Q1 hb2
      clear c0 c1 c2 c3 c4 hb2 B1 Q1
      obtain ⟨c0, c1, c2, c3, c4⟩ := id B2
      go_wp2_with fail
      refine Calls.mono (D.out _) ?_
      rintro e w3 ⟨rfl, hb3⟩
      have Q3 := keepq Q2 hb3
      have B3 := B2.next hb3
      clear c0 c1 c2 c3 c4 hb3 B2 Q2
      obtain ⟨x0, x1, x2, x3⟩ := id Q3
      go_wp2
      have y0 : ((w3.setCell ⟨w.heap.size + 1, 0, none⟩ (.int .i64 X)).setCell ⟨w.heap.size + 1, 1, none⟩ (.int .i64 Y)).cell? ⟨w.heap.size + 1, 0, none⟩ = some (.int .i64 X) := by
        rw [World.cell?_setCell_other _ _ _ _ (by simp)]; exact World.cell?_setCell_same _ _ _ x0
      have y1 : ((w3.setCell ⟨w.heap.size + 1, 0, none⟩ (.int .i64 X)).setCell ⟨w.heap.size + 1, 1, none⟩ (.int .i64 Y)).cell? ⟨w.heap.size + 1, 1, none⟩ = some (.int .i64 Y) :=
        World.cell?_setCell_same _ _ _ (by rw [World.cell?_setCell_other _ _ _ _ (by simp)]; exact x1)
      exact bodyPost_ret (v := .tuple #[.agg #[.int .i64 X, .int .i64 Y], .int .i64 0]) (by simp [results, Try.results36, go_sem, y0, y1]) rfl ⟨by rw [HR.out], ((B3.2.2.2.2).setCell (by simp) _).setCell (by simp) _⟩
    · have HR : Hid (cenR W H t l = (0, 0, 3)) := by show _ = _; unfold cenR; rw [if_pos hG, if_neg hT]
      rw [hG] at M
      rw [show tileB W H t = false by simpa using hT] at U
      have M := Lib.hid M
      have U := Lib.hid U
      clear hG hT
      go_enter Try.func36, Try.ntmps36
      go_wp2_with fail
      refine Calls.mono (M.out _ hr') ?_
      rintro e w1 ⟨rfl, hb1⟩
      have B1 := B0.next hb1
      have Q1 := keepq Q0 hb1
      clear hb1 B0 Q0
      obtain ⟨c0, c1, c2, c3, c4⟩ := id B1
      go_wp2_with fail
      refine Calls.mono (U.out _) ?_
      rintro e w2 ⟨rfl, hb2⟩
      have Q2 := keepq Q1 hb2
      obtain ⟨x0, x1, x2, x3⟩ := id Q2
      go_wp2
      have y0 : ((w2.setCell ⟨w.heap.size + 1, 0, none⟩ (.int .i64 0)).setCell ⟨w.heap.size + 1, 1, none⟩ (.int .i64 0)).cell? ⟨w.heap.size + 1, 0, none⟩ = some (.int .i64 0) := by
        rw [World.cell?_setCell_other _ _ _ _ (by simp)]; exact World.cell?_setCell_same _ _ _ x0
      have y1 : ((w2.setCell ⟨w.heap.size + 1, 0, none⟩ (.int .i64 0)).setCell ⟨w.heap.size + 1, 1, none⟩ (.int .i64 0)).cell? ⟨w.heap.size + 1, 1, none⟩ = some (.int .i64 0) :=
        World.cell?_setCell_same _ _ _ (by rw [World.cell?_setCell_other _ _ _ _ (by simp)]; exact x1)
      exact bodyPost_ret (v := .tuple #[.agg #[.int .i64 0, .int .i64 0], .int .i64 3]) (by simp [results, Try.results36, go_sem, y0, y1]) rfl ⟨by rw [HR.out], ((c4.trans (hb2.mono c4.size)).setCell (by simp) _).setCell (by simp) _⟩
  · have HR : Hid (cenR W H t l = (0, 0, 1)) := by show _ = _; unfold cenR; rw [if_neg hG]
    rw [show isG W H l = false by simpa using hG] at M
    have M := Lib.hid M
    clear hG
    go_enter Try.func36, Try.ntmps36
    go_wp2_with fail
    refine Calls.mono (M.out _ hr') ?_
    rintro e w1 ⟨rfl, hb1⟩
    have Q1 := keepq Q0 hb1
    obtain ⟨x0, x1, x2, x3⟩ := id Q1
    go_wp2
    have y0 : ((w1.setCell ⟨w.heap.size + 1, 0, none⟩ (.int .i64 0)).setCell ⟨w.heap.size + 1, 1, none⟩ (.int .i64 0)).cell? ⟨w.heap.size + 1, 0, none⟩ = some (.int .i64 0) := by
      rw [World.cell?_setCell_other _ _ _ _ (by simp)]; exact World.cell?_setCell_same _ _ _ x0
    have y1 : ((w1.setCell ⟨w.heap.size + 1, 0, none⟩ (.int .i64 0)).setCell ⟨w.heap.size + 1, 1, none⟩ (.int .i64 0)).cell? ⟨w.heap.size + 1, 1, none⟩ = some (.int .i64 0) :=
      World.cell?_setCell_same _ _ _ (by rw [World.cell?_setCell_other _ _ _ _ (by simp)]; exact x1)
    exact bodyPost_ret (v := .tuple #[.agg #[.int .i64 0, .int .i64 0], .int .i64 1]) (by simp [results, Try.results36, go_sem, y0, y1]) rfl ⟨by rw [HR.out], (((B0.next hb1).2.2.2.2).setCell (by simp) _).setCell (by simp) _⟩
end Go.Proofs.Ytdcilabbjejklaa
