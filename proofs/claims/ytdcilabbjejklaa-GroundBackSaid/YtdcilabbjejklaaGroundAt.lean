/- In which tile a place lies: ground's answer and the page's. -/
import Derived.Test.YtdcilabbjejklaaGroundWake
namespace Go.Proofs.Ytdcilabbjejklaa
open Go.RowKit

/-- The tile of a place; -1: there is none. -/
def atV (W H x y : Int) : Int := if x < 0 ∨ W * 65536 ≤ x ∨ y < 0 ∨ H * 65536 ≤ y then -1 else x / 65536 + W * (y / 65536)
theorem atV_range {W H x y : Int} (h1 : 1 ≤ W) : atV W H x y = -1 ∨ 0 ≤ atV W H x y := by
  unfold atV
  split
  · exact .inl rfl
  · exact .inr (by
      have : 0 ≤ W * (y / 65536) := Int.mul_nonneg (by omega) (by omega)
      omega)
theorem two_below' (w : World) (x y : Obj) : Below w.heap.size w ((w.alloc x).alloc y) := ((Below.refl _ _).alloc (Nat.le_refl _) _).alloc (by simp) _

set_option maxHeartbeats 800000 in
theorem ground_under (W H x y : Int) (A : Option Addr) (n c : Nat) (w : World) (h1 : 1 ≤ W) (h2 : W ≤ 128) (h3 : 1 ≤ H) (h4 : H ≤ 128) (hx : x ≤ 9223372036854775807) (hy : y ≤ 9223372036854775807) :
    Calls Try.prog 58 #[.agg #[.int .i64 W, .int .i64 H, .slice A n c], .agg #[.int .i64 x, .int .i64 y]] w fun e w' => e = .returned (.int .i64 (atV W H x y)) ∧ Below w.heap.size w w' := by
  by_cases ha : x < 0
  · have HR : Hid (atV W H x y = -1) := by show _ = _; unfold atV; rw [if_pos (by omega)]
    go_enter Try.func58, Try.ntmps58
    go_wp2
    go_ret
    exact ⟨by rw [HR.out]; rfl, two_below' _ _ _⟩
  by_cases hb : W * 65536 ≤ x
  · have HR : Hid (atV W H x y = -1) := by show _ = _; unfold atV; rw [if_pos (by omega)]
    have d1 : ¬ x < 0 := ha
    go_enter Try.func58, Try.ntmps58
    go_wp2
    go_ret
    exact ⟨by rw [HR.out]; rfl, two_below' _ _ _⟩
  by_cases hc : y < 0
  · have HR : Hid (atV W H x y = -1) := by show _ = _; unfold atV; rw [if_pos (by omega)]
    have d1 : 0 ≤ x := by omega
    have d2 : x < W * 65536 := by omega
    clear ha hb
    go_enter Try.func58, Try.ntmps58
    go_wp2
    go_ret
    exact ⟨by rw [HR.out]; rfl, two_below' _ _ _⟩
  by_cases hd : H * 65536 ≤ y
  · have HR : Hid (atV W H x y = -1) := by show _ = _; unfold atV; rw [if_pos (by omega)]
    have d1 : 0 ≤ x := by omega
    have d2 : x < W * 65536 := by omega
    have d3 : 0 ≤ y := by omega
    clear ha hb hc
    go_enter Try.func58, Try.ntmps58
    go_wp2
    go_ret
    exact ⟨by rw [HR.out]; rfl, two_below' _ _ _⟩
  have HR : Hid (atV W H x y = x / 65536 + W * (y / 65536)) := by show _ = _; unfold atV; rw [if_neg (by omega)]
  have d1 : 0 ≤ x := by omega
  have d2 : x < W * 65536 := by omega
  have d3 : 0 ≤ y := by omega
  have d4 : y < H * 65536 := by omega
  have q0 : 0 ≤ W * (y / 65536) := Int.mul_nonneg (by omega) (by omega)
  have q1 : W * (y / 65536) ≤ 128 * 128 := Int.mul_le_mul h2 (by omega) (by omega) (by omega)
  clear ha hb hc hd
  go_enter Try.func58, Try.ntmps58
  go_wp2
  go_ret
  exact ⟨by rw [HR.out]; rfl, two_below' _ _ _⟩

set_option maxHeartbeats 800000 in
theorem ref_at (W H x y : Int) (A : Option Addr) (n c : Nat) (w : World) (h1 : 1 ≤ W) (h2 : W ≤ 128) (h3 : 1 ≤ H) (h4 : H ≤ 128) (hx : x ≤ 9223372036854775807) (hy : y ≤ 9223372036854775807) :
    Calls Try.prog 31 #[.agg #[.int .i64 W, .int .i64 H, .slice A n c], .agg #[.int .i64 x, .int .i64 y]] w fun e w' => e = .returned (.int .i64 (atV W H x y)) ∧ Below w.heap.size w w' := by
  by_cases ha : x < 0
  · have HR : Hid (atV W H x y = -1) := by show _ = _; unfold atV; rw [if_pos (by omega)]
    go_enter Try.func31, Try.ntmps31
    go_wp2
    go_ret
    exact ⟨by rw [HR.out]; rfl, two_below' _ _ _⟩
  by_cases hb : W * 65536 ≤ x
  · have HR : Hid (atV W H x y = -1) := by show _ = _; unfold atV; rw [if_pos (by omega)]
    have d1 : ¬ x < 0 := ha
    go_enter Try.func31, Try.ntmps31
    go_wp2
    go_ret
    exact ⟨by rw [HR.out]; rfl, two_below' _ _ _⟩
  by_cases hc : y < 0
  · have HR : Hid (atV W H x y = -1) := by show _ = _; unfold atV; rw [if_pos (by omega)]
    have d1 : 0 ≤ x := by omega
    have d2 : x < W * 65536 := by omega
    clear ha hb
    go_enter Try.func31, Try.ntmps31
    go_wp2
    go_ret
    exact ⟨by rw [HR.out]; rfl, two_below' _ _ _⟩
  by_cases hd : H * 65536 ≤ y
  · have HR : Hid (atV W H x y = -1) := by show _ = _; unfold atV; rw [if_pos (by omega)]
    have d1 : 0 ≤ x := by omega
    have d2 : x < W * 65536 := by omega
    have d3 : 0 ≤ y := by omega
    clear ha hb hc
    go_enter Try.func31, Try.ntmps31
    go_wp2
    go_ret
    exact ⟨by rw [HR.out]; rfl, two_below' _ _ _⟩
  have HR : Hid (atV W H x y = x / 65536 + W * (y / 65536)) := by show _ = _; unfold atV; rw [if_neg (by omega)]
  have d1 : 0 ≤ x := by omega
  have d2 : x < W * 65536 := by omega
  have d3 : 0 ≤ y := by omega
  have d4 : y < H * 65536 := by omega
  have q0 : 0 ≤ W * (y / 65536) := Int.mul_nonneg (by omega) (by omega)
  have q1 : W * (y / 65536) ≤ 128 * 128 := Int.mul_le_mul h2 (by omega) (by omega) (by omega)
  clear ha hb hc hd
  go_enter Try.func31, Try.ntmps31
  go_wp2
  go_ret
  exact ⟨by rw [HR.out]; rfl, two_below' _ _ _⟩


/-- The boxes of a ground and a place behind a call. -/
def Box5 (g : Nat) (W H x y : Int) (A : Option Addr) (n c : Nat) (w w' : World) : Prop :=
  w'.cell? ⟨g, 0, none⟩ = some (.int .i64 W) ∧ w'.cell? ⟨g, 1, none⟩ = some (.int .i64 H) ∧ w'.cell? ⟨g, 2, none⟩ = some (.slice A n c) ∧ w'.cell? ⟨g + 1, 0, none⟩ = some (.int .i64 x) ∧ w'.cell? ⟨g + 1, 1, none⟩ = some (.int .i64 y) ∧ g + 1 < w'.heap.size ∧ Below w.heap.size w w'
theorem Box5.start {w : World} {W H x y : Int} {A : Option Addr} {n c : Nat} {t u : TypeId} : Box5 w.heap.size W H x y A n c w ((w.alloc (.cells #[.int .i64 W, .int .i64 H, .slice A n c] t)).alloc (.cells #[.int .i64 x, .int .i64 y] u)) := by
  refine ⟨?_, ?_, ?_, ?_, ?_, by simp, two_below' _ _ _⟩
  · rw [World.cell?_alloc_lt _ _ _ (by simp), World.cell?_alloc_at _ _ _ _ rfl]; rfl
  · rw [World.cell?_alloc_lt _ _ _ (by simp), World.cell?_alloc_at _ _ _ _ rfl]; rfl
  · rw [World.cell?_alloc_lt _ _ _ (by simp), World.cell?_alloc_at _ _ _ _ rfl]; rfl
  · rw [World.cell?_alloc_at _ _ _ _ (by simp)]; rfl
  · rw [World.cell?_alloc_at _ _ _ _ (by simp)]; rfl
theorem Box5.next {g : Nat} {W H x y : Int} {A : Option Addr} {n c : Nat} {w wa wb : World} (h : Box5 g W H x y A n c w wa) (hb : Below wa.heap.size wa wb) : Box5 g W H x y A n c w wb := by
  obtain ⟨h0, h1, h2, h3, h4, h5, h6⟩ := h
  exact ⟨(hb.cell (p := ⟨g, 0, none⟩) (Nat.lt_of_succ_lt h5)).trans h0, (hb.cell (p := ⟨g, 1, none⟩) (Nat.lt_of_succ_lt h5)).trans h1, (hb.cell (p := ⟨g, 2, none⟩) (Nat.lt_of_succ_lt h5)).trans h2, (hb.cell (p := ⟨g + 1, 0, none⟩) h5).trans h3, (hb.cell (p := ⟨g + 1, 1, none⟩) h5).trans h4, Nat.lt_of_lt_of_le h5 hb.size, h6.trans (hb.mono h6.size)⟩

/-- What 'ground.Of' gives. -/
def ofR (W H x y : Int) (l : List Int) : Int × Int := if isG W H l = true then (if atV W H x y < 0 then (0, 3) else (atV W H x y, 0)) else (0, 1)
set_option maxHeartbeats 800000 in
theorem ground_of (W H x y : Int) (A : Option Addr) (n c B : Nat) (l : List Int) (w : World) (hr : Reads w B 1 A n (nums .u8 l)) (hB : B ≤ w.heap.size) (hl : IsBytes l) (hx : x ≤ 9223372036854775807) (hy : y ≤ 9223372036854775807) :
    Calls Try.prog 32 #[.agg #[.int .i64 W, .int .i64 H, .slice A n c], .agg #[.int .i64 x, .int .i64 y]] w fun e w' => e = .returned (.tuple #[.int .i64 (ofR W H x y l).1, .int .i64 (ofR W H x y l).2]) ∧ Below w.heap.size w w' := by
  have M := fun W' (hr : Reads W' W'.heap.size 1 A n (nums .u8 l)) => ground_may W H A n c _ l W' hr (Nat.le_refl _) hl
  have hr' := ((hr.alloc hB (.cells #[.int .i64 W, .int .i64 H, .slice A n c] 39)).alloc (Nat.le_trans hB (by simp)) (.cells #[.int .i64 x, .int .i64 y] 53)).more (Nat.le_trans hB (two_below' w (.cells #[.int .i64 W, .int .i64 H, .slice A n c] 39) (.cells #[.int .i64 x, .int .i64 y] 53)).size)
  clear hr
  by_cases hG : isG W H l = true
  · obtain ⟨h1, h2, h3, h4, _⟩ := isG_bounds hG
    rw [hG] at M
    have M := Lib.hid M
    have U := Lib.hid (fun W' => ground_under W H x y A n c W' h1 h2 h3 h4 hx hy)
    have hat := atV_range (H := H) (x := x) (y := y) h1
    by_cases hneg : atV W H x y < 0
    · have HR : Hid (ofR W H x y l = (0, 3)) := by show _ = _; unfold ofR; rw [if_pos hG, if_pos hneg]
      clear hG h1 h2 h3 h4
      generalize atV W H x y = T at *
      go_enter Try.func32, Try.ntmps32
      go_wp2_with fail
      refine Calls.mono (M.out _ hr') ?_
      rintro e w1 ⟨rfl, hb1⟩
      have B1 := Box5.start.next hb1
      clear hb1
      obtain ⟨c0, c1, c2, c3, c4, c5, c6⟩ := id B1
      go_wp2_with fail
      refine Calls.mono (U.out _) ?_
      rintro e w2 ⟨rfl, hb2⟩
      go_wp2
      go_ret2
      exact ⟨by rw [HR.out]; rfl, c6.trans (hb2.mono c6.size)⟩
    · have HR : Hid (ofR W H x y l = (atV W H x y, 0)) := by show _ = _; unfold ofR; rw [if_pos hG, if_neg hneg]
      clear hG h1 h2 h3 h4
      generalize atV W H x y = T at *
      go_enter Try.func32, Try.ntmps32
      go_wp2_with fail
      refine Calls.mono (M.out _ hr') ?_
      rintro e w1 ⟨rfl, hb1⟩
      have B1 := Box5.start.next hb1
      clear hb1
      obtain ⟨c0, c1, c2, c3, c4, c5, c6⟩ := id B1
      go_wp2_with fail
      refine Calls.mono (U.out _) ?_
      rintro e w2 ⟨rfl, hb2⟩
      go_wp2
      go_ret2
      exact ⟨by rw [HR.out]; rfl, c6.trans (hb2.mono c6.size)⟩
  · have HR : Hid (ofR W H x y l = (0, 1)) := by show _ = _; unfold ofR; rw [if_neg hG]
    rw [show isG W H l = false by simpa using hG] at M
    have M := Lib.hid M
    clear hG
    go_enter Try.func32, Try.ntmps32
    go_wp2_with fail
    refine Calls.mono (M.out _ hr') ?_
    rintro e w1 ⟨rfl, hb1⟩
    go_wp2
    go_ret2
    exact ⟨by rw [HR.out]; rfl, (two_below' _ _ _).trans (hb1.mono (two_below' _ _ _).size)⟩
end Go.Proofs.Ytdcilabbjejklaa
