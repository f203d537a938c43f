/- What a building is by itself, and on a ground: the game's own questions and the page's. -/
import Derived.Test.YtfgjiaakoacomaaGroundOfM
import Derived.Test.YtfgjiaakoacomaaGrowM
namespace Go.Proofs.Ytfgjiaakoacomaa
set_option maxRecDepth 20000
open Go.RowKit

theorem two_boxes (w : World) (x y : Obj) : Below w.heap.size w ((w.alloc x).alloc y) := ((Below.refl _ _).alloc (Nat.le_refl _) _).alloc (by simp) _

set_option maxHeartbeats 1600000 in
set_option maxRecDepth 20000 in
theorem build_form (id ow x y bw bh : Int) (w : World)  :
    Calls Try.prog 72 #[.agg #[.int .i64 id, .int .i64 ow, .int .i64 x, .int .i64 y, .int .i64 bw, .int .i64 bh]] w fun e w' => e = .returned (.bool (decide (1 ≤ id ∧ id ≤ 1099511627776 ∧ 1 ≤ ow ∧ ow ≤ 8 ∧ 1 ≤ bw ∧ bw ≤ 4 ∧ 1 ≤ bh ∧ bh ≤ 4))) ∧ Below w.heap.size w w' := by
  by_cases h0 : 1 ≤ id
  case neg =>
    have HR : Hid (decide (1 ≤ id ∧ id ≤ 1099511627776 ∧ 1 ≤ ow ∧ ow ≤ 8 ∧ 1 ≤ bw ∧ bw ≤ 4 ∧ 1 ≤ bh ∧ bh ≤ 4) = false) := decide_eq_false (fun h => h0 h.1)
    have d0 : decide (1 ≤ id) = false := by simpa using h0
    go_enter Try.func72, Try.ntmps72
    go_wp2
    go_ret
    exact ⟨by (first | rfl | (rw [HR.out]; rfl) | (simp only [HR.out]; rfl) | (have := HR.out; simp_all)), (Below.refl _ _).alloc (Nat.le_refl _) _⟩
  have d0 : decide (1 ≤ id) = true := by simpa using h0
  by_cases h1 : id ≤ 1099511627776
  case neg =>
    have HR : Hid (decide (1 ≤ id ∧ id ≤ 1099511627776 ∧ 1 ≤ ow ∧ ow ≤ 8 ∧ 1 ≤ bw ∧ bw ≤ 4 ∧ 1 ≤ bh ∧ bh ≤ 4) = false) := decide_eq_false (fun h => h1 h.2.1)
    have d1 : decide (id ≤ 1099511627776) = false := by simpa using h1
    go_enter Try.func72, Try.ntmps72
    go_wp2
    go_ret
    exact ⟨by (first | rfl | (rw [HR.out]; rfl) | (simp only [HR.out]; rfl) | (have := HR.out; simp_all)), (Below.refl _ _).alloc (Nat.le_refl _) _⟩
  have d1 : decide (id ≤ 1099511627776) = true := by simpa using h1
  by_cases h2 : 1 ≤ ow
  case neg =>
    have HR : Hid (decide (1 ≤ id ∧ id ≤ 1099511627776 ∧ 1 ≤ ow ∧ ow ≤ 8 ∧ 1 ≤ bw ∧ bw ≤ 4 ∧ 1 ≤ bh ∧ bh ≤ 4) = false) := decide_eq_false (fun h => h2 h.2.2.1)
    have d2 : decide (1 ≤ ow) = false := by simpa using h2
    go_enter Try.func72, Try.ntmps72
    go_wp2
    go_ret
    exact ⟨by (first | rfl | (rw [HR.out]; rfl) | (simp only [HR.out]; rfl) | (have := HR.out; simp_all)), (Below.refl _ _).alloc (Nat.le_refl _) _⟩
  have d2 : decide (1 ≤ ow) = true := by simpa using h2
  by_cases h3 : ow ≤ 8
  case neg =>
    have HR : Hid (decide (1 ≤ id ∧ id ≤ 1099511627776 ∧ 1 ≤ ow ∧ ow ≤ 8 ∧ 1 ≤ bw ∧ bw ≤ 4 ∧ 1 ≤ bh ∧ bh ≤ 4) = false) := decide_eq_false (fun h => h3 h.2.2.2.1)
    have d3 : decide (ow ≤ 8) = false := by simpa using h3
    go_enter Try.func72, Try.ntmps72
    go_wp2
    go_ret
    exact ⟨by (first | rfl | (rw [HR.out]; rfl) | (simp only [HR.out]; rfl) | (have := HR.out; simp_all)), (Below.refl _ _).alloc (Nat.le_refl _) _⟩
  have d3 : decide (ow ≤ 8) = true := by simpa using h3
  by_cases h4 : 1 ≤ bw
  case neg =>
    have HR : Hid (decide (1 ≤ id ∧ id ≤ 1099511627776 ∧ 1 ≤ ow ∧ ow ≤ 8 ∧ 1 ≤ bw ∧ bw ≤ 4 ∧ 1 ≤ bh ∧ bh ≤ 4) = false) := decide_eq_false (fun h => h4 h.2.2.2.2.1)
    have d4 : decide (1 ≤ bw) = false := by simpa using h4
    go_enter Try.func72, Try.ntmps72
    go_wp2
    go_ret
    exact ⟨by (first | rfl | (rw [HR.out]; rfl) | (simp only [HR.out]; rfl) | (have := HR.out; simp_all)), (Below.refl _ _).alloc (Nat.le_refl _) _⟩
  have d4 : decide (1 ≤ bw) = true := by simpa using h4
  by_cases h5 : bw ≤ 4
  case neg =>
    have HR : Hid (decide (1 ≤ id ∧ id ≤ 1099511627776 ∧ 1 ≤ ow ∧ ow ≤ 8 ∧ 1 ≤ bw ∧ bw ≤ 4 ∧ 1 ≤ bh ∧ bh ≤ 4) = false) := decide_eq_false (fun h => h5 h.2.2.2.2.2.1)
    have d5 : decide (bw ≤ 4) = false := by simpa using h5
    go_enter Try.func72, Try.ntmps72
    go_wp2
    go_ret
    exact ⟨by (first | rfl | (rw [HR.out]; rfl) | (simp only [HR.out]; rfl) | (have := HR.out; simp_all)), (Below.refl _ _).alloc (Nat.le_refl _) _⟩
  have d5 : decide (bw ≤ 4) = true := by simpa using h5
  by_cases h6 : 1 ≤ bh
  case neg =>
    have HR : Hid (decide (1 ≤ id ∧ id ≤ 1099511627776 ∧ 1 ≤ ow ∧ ow ≤ 8 ∧ 1 ≤ bw ∧ bw ≤ 4 ∧ 1 ≤ bh ∧ bh ≤ 4) = false) := decide_eq_false (fun h => h6 h.2.2.2.2.2.2.1)
    have d6 : decide (1 ≤ bh) = false := by simpa using h6
    go_enter Try.func72, Try.ntmps72
    go_wp2
    go_ret
    exact ⟨by (first | rfl | (rw [HR.out]; rfl) | (simp only [HR.out]; rfl) | (have := HR.out; simp_all)), (Below.refl _ _).alloc (Nat.le_refl _) _⟩
  have d6 : decide (1 ≤ bh) = true := by simpa using h6
  by_cases h7 : bh ≤ 4
  case neg =>
    have HR : Hid (decide (1 ≤ id ∧ id ≤ 1099511627776 ∧ 1 ≤ ow ∧ ow ≤ 8 ∧ 1 ≤ bw ∧ bw ≤ 4 ∧ 1 ≤ bh ∧ bh ≤ 4) = false) := decide_eq_false (fun h => h7 h.2.2.2.2.2.2.2)
    have d7 : decide (bh ≤ 4) = false := by simpa using h7
    go_enter Try.func72, Try.ntmps72
    go_wp2
    go_ret
    exact ⟨by (first | rfl | (rw [HR.out]; rfl) | (simp only [HR.out]; rfl) | (have := HR.out; simp_all)), (Below.refl _ _).alloc (Nat.le_refl _) _⟩
  have HR : Hid (decide (1 ≤ id ∧ id ≤ 1099511627776 ∧ 1 ≤ ow ∧ ow ≤ 8 ∧ 1 ≤ bw ∧ bw ≤ 4 ∧ 1 ≤ bh ∧ bh ≤ 4) = true) := decide_eq_true ⟨h0, h1, h2, h3, h4, h5, h6, h7⟩
  have d7 : decide (bh ≤ 4) = true := by simpa using h7
  go_enter Try.func72, Try.ntmps72
  go_wp2
  go_ret
  exact ⟨by (first | rfl | (rw [HR.out]; rfl) | (simp only [HR.out]; rfl) | (have := HR.out; simp_all)), (Below.refl _ _).alloc (Nat.le_refl _) _⟩
set_option maxHeartbeats 1600000 in
set_option maxRecDepth 20000 in
theorem ref_sides (id ow x y bw bh : Int) (w : World)  :
    Calls Try.prog 52 #[.agg #[.int .i64 id, .int .i64 ow, .int .i64 x, .int .i64 y, .int .i64 bw, .int .i64 bh]] w fun e w' => e = .returned (.bool (decide (1 ≤ id ∧ id ≤ 1099511627776 ∧ 1 ≤ ow ∧ ow ≤ 8 ∧ 1 ≤ bw ∧ bw ≤ 4 ∧ 1 ≤ bh ∧ bh ≤ 4))) ∧ Below w.heap.size w w' := by
  by_cases h0 : 1 ≤ id
  case neg =>
    have HR : Hid (decide (1 ≤ id ∧ id ≤ 1099511627776 ∧ 1 ≤ ow ∧ ow ≤ 8 ∧ 1 ≤ bw ∧ bw ≤ 4 ∧ 1 ≤ bh ∧ bh ≤ 4) = false) := decide_eq_false (fun h => h0 h.1)
    have d0 : decide (1 ≤ id) = false := by simpa using h0
    go_enter Try.func52, Try.ntmps52
    go_wp2
    go_ret
    exact ⟨by (first | rfl | (rw [HR.out]; rfl) | (simp only [HR.out]; rfl) | (have := HR.out; simp_all)), (Below.refl _ _).alloc (Nat.le_refl _) _⟩
  have d0 : decide (1 ≤ id) = true := by simpa using h0
  by_cases h1 : id ≤ 1099511627776
  case neg =>
    have HR : Hid (decide (1 ≤ id ∧ id ≤ 1099511627776 ∧ 1 ≤ ow ∧ ow ≤ 8 ∧ 1 ≤ bw ∧ bw ≤ 4 ∧ 1 ≤ bh ∧ bh ≤ 4) = false) := decide_eq_false (fun h => h1 h.2.1)
    have d1 : decide (id ≤ 1099511627776) = false := by simpa using h1
    go_enter Try.func52, Try.ntmps52
    go_wp2
    go_ret
    exact ⟨by (first | rfl | (rw [HR.out]; rfl) | (simp only [HR.out]; rfl) | (have := HR.out; simp_all)), (Below.refl _ _).alloc (Nat.le_refl _) _⟩
  have d1 : decide (id ≤ 1099511627776) = true := by simpa using h1
  by_cases h2 : 1 ≤ ow
  case neg =>
    have HR : Hid (decide (1 ≤ id ∧ id ≤ 1099511627776 ∧ 1 ≤ ow ∧ ow ≤ 8 ∧ 1 ≤ bw ∧ bw ≤ 4 ∧ 1 ≤ bh ∧ bh ≤ 4) = false) := decide_eq_false (fun h => h2 h.2.2.1)
    have d2 : decide (1 ≤ ow) = false := by simpa using h2
    go_enter Try.func52, Try.ntmps52
    go_wp2
    go_ret
    exact ⟨by (first | rfl | (rw [HR.out]; rfl) | (simp only [HR.out]; rfl) | (have := HR.out; simp_all)), (Below.refl _ _).alloc (Nat.le_refl _) _⟩
  have d2 : decide (1 ≤ ow) = true := by simpa using h2
  by_cases h3 : ow ≤ 8
  case neg =>
    have HR : Hid (decide (1 ≤ id ∧ id ≤ 1099511627776 ∧ 1 ≤ ow ∧ ow ≤ 8 ∧ 1 ≤ bw ∧ bw ≤ 4 ∧ 1 ≤ bh ∧ bh ≤ 4) = false) := decide_eq_false (fun h => h3 h.2.2.2.1)
    have d3 : decide (ow ≤ 8) = false := by simpa using h3
    go_enter Try.func52, Try.ntmps52
    go_wp2
    go_ret
    exact ⟨by (first | rfl | (rw [HR.out]; rfl) | (simp only [HR.out]; rfl) | (have := HR.out; simp_all)), (Below.refl _ _).alloc (Nat.le_refl _) _⟩
  have d3 : decide (ow ≤ 8) = true := by simpa using h3
  by_cases h4 : 1 ≤ bw
  case neg =>
    have HR : Hid (decide (1 ≤ id ∧ id ≤ 1099511627776 ∧ 1 ≤ ow ∧ ow ≤ 8 ∧ 1 ≤ bw ∧ bw ≤ 4 ∧ 1 ≤ bh ∧ bh ≤ 4) = false) := decide_eq_false (fun h => h4 h.2.2.2.2.1)
    have d4 : decide (1 ≤ bw) = false := by simpa using h4
    go_enter Try.func52, Try.ntmps52
    go_wp2
    go_ret
    exact ⟨by (first | rfl | (rw [HR.out]; rfl) | (simp only [HR.out]; rfl) | (have := HR.out; simp_all)), (Below.refl _ _).alloc (Nat.le_refl _) _⟩
  have d4 : decide (1 ≤ bw) = true := by simpa using h4
  by_cases h5 : bw ≤ 4
  case neg =>
    have HR : Hid (decide (1 ≤ id ∧ id ≤ 1099511627776 ∧ 1 ≤ ow ∧ ow ≤ 8 ∧ 1 ≤ bw ∧ bw ≤ 4 ∧ 1 ≤ bh ∧ bh ≤ 4) = false) := decide_eq_false (fun h => h5 h.2.2.2.2.2.1)
    have d5 : decide (bw ≤ 4) = false := by simpa using h5
    go_enter Try.func52, Try.ntmps52
    go_wp2
    go_ret
    exact ⟨by (first | rfl | (rw [HR.out]; rfl) | (simp only [HR.out]; rfl) | (have := HR.out; simp_all)), (Below.refl _ _).alloc (Nat.le_refl _) _⟩
  have d5 : decide (bw ≤ 4) = true := by simpa using h5
  by_cases h6 : 1 ≤ bh
  case neg =>
    have HR : Hid (decide (1 ≤ id ∧ id ≤ 1099511627776 ∧ 1 ≤ ow ∧ ow ≤ 8 ∧ 1 ≤ bw ∧ bw ≤ 4 ∧ 1 ≤ bh ∧ bh ≤ 4) = false) := decide_eq_false (fun h => h6 h.2.2.2.2.2.2.1)
    have d6 : decide (1 ≤ bh) = false := by simpa using h6
    go_enter Try.func52, Try.ntmps52
    go_wp2
    go_ret
    exact ⟨by (first | rfl | (rw [HR.out]; rfl) | (simp only [HR.out]; rfl) | (have := HR.out; simp_all)), (Below.refl _ _).alloc (Nat.le_refl _) _⟩
  have d6 : decide (1 ≤ bh) = true := by simpa using h6
  by_cases h7 : bh ≤ 4
  case neg =>
    have HR : Hid (decide (1 ≤ id ∧ id ≤ 1099511627776 ∧ 1 ≤ ow ∧ ow ≤ 8 ∧ 1 ≤ bw ∧ bw ≤ 4 ∧ 1 ≤ bh ∧ bh ≤ 4) = false) := decide_eq_false (fun h => h7 h.2.2.2.2.2.2.2)
    have d7 : decide (bh ≤ 4) = false := by simpa using h7
    go_enter Try.func52, Try.ntmps52
    go_wp2
    go_ret
    exact ⟨by (first | rfl | (rw [HR.out]; rfl) | (simp only [HR.out]; rfl) | (have := HR.out; simp_all)), (Below.refl _ _).alloc (Nat.le_refl _) _⟩
  have HR : Hid (decide (1 ≤ id ∧ id ≤ 1099511627776 ∧ 1 ≤ ow ∧ ow ≤ 8 ∧ 1 ≤ bw ∧ bw ≤ 4 ∧ 1 ≤ bh ∧ bh ≤ 4) = true) := decide_eq_true ⟨h0, h1, h2, h3, h4, h5, h6, h7⟩
  have d7 : decide (bh ≤ 4) = true := by simpa using h7
  go_enter Try.func52, Try.ntmps52
  go_wp2
  go_ret
  exact ⟨by (first | rfl | (rw [HR.out]; rfl) | (simp only [HR.out]; rfl) | (have := HR.out; simp_all)), (Below.refl _ _).alloc (Nat.le_refl _) _⟩
set_option maxHeartbeats 1600000 in
set_option maxRecDepth 20000 in
theorem build_on (W H id ow x y bw bh : Int) (w : World) (A : Option Addr) (n c : Nat) (hW0 : 1 ≤ W) (hW1 : W ≤ 128) (hH0 : 1 ≤ H) (hH1 : H ≤ 128) (hb0 : 1 ≤ bw) (hb1 : bw ≤ 4) (hb2 : 1 ≤ bh) (hb3 : bh ≤ 4) :
    Calls Try.prog 73 #[.agg #[.int .i64 W, .int .i64 H, .slice A n c], .agg #[.int .i64 id, .int .i64 ow, .int .i64 x, .int .i64 y, .int .i64 bw, .int .i64 bh]] w fun e w' => e = .returned (.bool (decide (0 ≤ x ∧ x ≤ W - bw ∧ 0 ≤ y ∧ y ≤ H - bh))) ∧ Below w.heap.size w w' := by
  by_cases h0 : 0 ≤ x
  case neg =>
    have HR : Hid (decide (0 ≤ x ∧ x ≤ W - bw ∧ 0 ≤ y ∧ y ≤ H - bh) = false) := decide_eq_false (fun h => h0 h.1)
    have d0 : decide (0 ≤ x) = false := by simpa using h0
    go_enter Try.func73, Try.ntmps73
    go_wp2
    go_ret
    exact ⟨by (first | rfl | (rw [HR.out]; rfl) | (simp only [HR.out]; rfl) | (have := HR.out; simp_all)), two_boxes _ _ _⟩
  have d0 : decide (0 ≤ x) = true := by simpa using h0
  by_cases h1 : x ≤ W - bw
  case neg =>
    have HR : Hid (decide (0 ≤ x ∧ x ≤ W - bw ∧ 0 ≤ y ∧ y ≤ H - bh) = false) := decide_eq_false (fun h => h1 h.2.1)
    have d1 : decide (x ≤ W - bw) = false := by simpa using h1
    go_enter Try.func73, Try.ntmps73
    go_wp2
    go_ret
    exact ⟨by (first | rfl | (rw [HR.out]; rfl) | (simp only [HR.out]; rfl) | (have := HR.out; simp_all)), two_boxes _ _ _⟩
  have d1 : decide (x ≤ W - bw) = true := by simpa using h1
  by_cases h2 : 0 ≤ y
  case neg =>
    have HR : Hid (decide (0 ≤ x ∧ x ≤ W - bw ∧ 0 ≤ y ∧ y ≤ H - bh) = false) := decide_eq_false (fun h => h2 h.2.2.1)
    have d2 : decide (0 ≤ y) = false := by simpa using h2
    go_enter Try.func73, Try.ntmps73
    go_wp2
    go_ret
    exact ⟨by (first | rfl | (rw [HR.out]; rfl) | (simp only [HR.out]; rfl) | (have := HR.out; simp_all)), two_boxes _ _ _⟩
  have d2 : decide (0 ≤ y) = true := by simpa using h2
  by_cases h3 : y ≤ H - bh
  case neg =>
    have HR : Hid (decide (0 ≤ x ∧ x ≤ W - bw ∧ 0 ≤ y ∧ y ≤ H - bh) = false) := decide_eq_false (fun h => h3 h.2.2.2)
    have d3 : decide (y ≤ H - bh) = false := by simpa using h3
    go_enter Try.func73, Try.ntmps73
    go_wp2
    go_ret
    exact ⟨by (first | rfl | (rw [HR.out]; rfl) | (simp only [HR.out]; rfl) | (have := HR.out; simp_all)), two_boxes _ _ _⟩
  have HR : Hid (decide (0 ≤ x ∧ x ≤ W - bw ∧ 0 ≤ y ∧ y ≤ H - bh) = true) := decide_eq_true ⟨h0, h1, h2, h3⟩
  have d3 : decide (y ≤ H - bh) = true := by simpa using h3
  go_enter Try.func73, Try.ntmps73
  go_wp2
  go_ret
  exact ⟨by (first | rfl | (rw [HR.out]; rfl) | (simp only [HR.out]; rfl) | (have := HR.out; simp_all)), two_boxes _ _ _⟩
set_option maxHeartbeats 1600000 in
set_option maxRecDepth 20000 in
theorem ref_on8 (W H id ow x y bw bh : Int) (w : World) (A : Option Addr) (n c : Nat) (hW0 : 1 ≤ W) (hW1 : W ≤ 128) (hH0 : 1 ≤ H) (hH1 : H ≤ 128) (hb0 : 1 ≤ bw) (hb1 : bw ≤ 4) (hb2 : 1 ≤ bh) (hb3 : bh ≤ 4) :
    Calls Try.prog 53 #[.agg #[.int .i64 W, .int .i64 H, .slice A n c], .agg #[.int .i64 id, .int .i64 ow, .int .i64 x, .int .i64 y, .int .i64 bw, .int .i64 bh]] w fun e w' => e = .returned (.bool (decide (0 ≤ x ∧ 0 ≤ y ∧ x < W ∧ y < H ∧ bw ≤ W - x ∧ bh ≤ H - y))) ∧ Below w.heap.size w w' := by
  by_cases h0 : 0 ≤ x
  case neg =>
    have HR : Hid (decide (0 ≤ x ∧ 0 ≤ y ∧ x < W ∧ y < H ∧ bw ≤ W - x ∧ bh ≤ H - y) = false) := decide_eq_false (fun h => h0 h.1)
    have d0 : decide (0 ≤ x) = false := by simpa using h0
    go_enter Try.func53, Try.ntmps53
    go_wp2
    go_ret
    exact ⟨by (first | rfl | (rw [HR.out]; rfl) | (simp only [HR.out]; rfl) | (have := HR.out; simp_all)), two_boxes _ _ _⟩
  have d0 : decide (0 ≤ x) = true := by simpa using h0
  by_cases h1 : 0 ≤ y
  case neg =>
    have HR : Hid (decide (0 ≤ x ∧ 0 ≤ y ∧ x < W ∧ y < H ∧ bw ≤ W - x ∧ bh ≤ H - y) = false) := decide_eq_false (fun h => h1 h.2.1)
    have d1 : decide (0 ≤ y) = false := by simpa using h1
    go_enter Try.func53, Try.ntmps53
    go_wp2
    go_ret
    exact ⟨by (first | rfl | (rw [HR.out]; rfl) | (simp only [HR.out]; rfl) | (have := HR.out; simp_all)), two_boxes _ _ _⟩
  have d1 : decide (0 ≤ y) = true := by simpa using h1
  by_cases h2 : x < W
  case neg =>
    have HR : Hid (decide (0 ≤ x ∧ 0 ≤ y ∧ x < W ∧ y < H ∧ bw ≤ W - x ∧ bh ≤ H - y) = false) := decide_eq_false (fun h => h2 h.2.2.1)
    have d2 : decide (x < W) = false := by simpa using h2
    go_enter Try.func53, Try.ntmps53
    go_wp2
    go_ret
    exact ⟨by (first | rfl | (rw [HR.out]; rfl) | (simp only [HR.out]; rfl) | (have := HR.out; simp_all)), two_boxes _ _ _⟩
  have d2 : decide (x < W) = true := by simpa using h2
  by_cases h3 : y < H
  case neg =>
    have HR : Hid (decide (0 ≤ x ∧ 0 ≤ y ∧ x < W ∧ y < H ∧ bw ≤ W - x ∧ bh ≤ H - y) = false) := decide_eq_false (fun h => h3 h.2.2.2.1)
    have d3 : decide (y < H) = false := by simpa using h3
    go_enter Try.func53, Try.ntmps53
    go_wp2
    go_ret
    exact ⟨by (first | rfl | (rw [HR.out]; rfl) | (simp only [HR.out]; rfl) | (have := HR.out; simp_all)), two_boxes _ _ _⟩
  have d3 : decide (y < H) = true := by simpa using h3
  by_cases h4 : bw ≤ W - x
  case neg =>
    have HR : Hid (decide (0 ≤ x ∧ 0 ≤ y ∧ x < W ∧ y < H ∧ bw ≤ W - x ∧ bh ≤ H - y) = false) := decide_eq_false (fun h => h4 h.2.2.2.2.1)
    have d4 : decide (bw ≤ W - x) = false := by simpa using h4
    go_enter Try.func53, Try.ntmps53
    go_wp2
    go_ret
    exact ⟨by (first | rfl | (rw [HR.out]; rfl) | (simp only [HR.out]; rfl) | (have := HR.out; simp_all)), two_boxes _ _ _⟩
  have d4 : decide (bw ≤ W - x) = true := by simpa using h4
  by_cases h5 : bh ≤ H - y
  case neg =>
    have HR : Hid (decide (0 ≤ x ∧ 0 ≤ y ∧ x < W ∧ y < H ∧ bw ≤ W - x ∧ bh ≤ H - y) = false) := decide_eq_false (fun h => h5 h.2.2.2.2.2)
    have d5 : decide (bh ≤ H - y) = false := by simpa using h5
    go_enter Try.func53, Try.ntmps53
    go_wp2
    go_ret
    exact ⟨by (first | rfl | (rw [HR.out]; rfl) | (simp only [HR.out]; rfl) | (have := HR.out; simp_all)), two_boxes _ _ _⟩
  have HR : Hid (decide (0 ≤ x ∧ 0 ≤ y ∧ x < W ∧ y < H ∧ bw ≤ W - x ∧ bh ≤ H - y) = true) := decide_eq_true ⟨h0, h1, h2, h3, h4, h5⟩
  have d5 : decide (bh ≤ H - y) = true := by simpa using h5
  go_enter Try.func53, Try.ntmps53
  go_wp2
  go_ret
  exact ⟨by (first | rfl | (rw [HR.out]; rfl) | (simp only [HR.out]; rfl) | (have := HR.out; simp_all)), two_boxes _ _ _⟩
set_option maxHeartbeats 1600000 in
set_option maxRecDepth 20000 in
theorem ref_meet (id ow x y bw bh id2 ow2 x2 y2 bw2 bh2 : Int) (w : World) (h1 : 0 ≤ x ∧ x ≤ 128) (h2 : 0 ≤ y ∧ y ≤ 128) (h3 : 0 ≤ bw ∧ bw ≤ 4) (h4 : 0 ≤ bh ∧ bh ≤ 4) (k1 : 0 ≤ x2 ∧ x2 ≤ 128) (k2 : 0 ≤ y2 ∧ y2 ≤ 128) (k3 : 0 ≤ bw2 ∧ bw2 ≤ 4) (k4 : 0 ≤ bh2 ∧ bh2 ≤ 4) :
    Calls Try.prog 55 #[.agg #[.int .i64 id, .int .i64 ow, .int .i64 x, .int .i64 y, .int .i64 bw, .int .i64 bh], .agg #[.int .i64 id2, .int .i64 ow2, .int .i64 x2, .int .i64 y2, .int .i64 bw2, .int .i64 bh2]] w fun e w' => e = .returned (.bool (decide (x < x2 + bw2 ∧ x2 < x + bw ∧ y < y2 + bh2 ∧ y2 < y + bh))) ∧ Below w.heap.size w w' := by
  by_cases h0 : x < x2 + bw2
  case neg =>
    have HR : Hid (decide (x < x2 + bw2 ∧ x2 < x + bw ∧ y < y2 + bh2 ∧ y2 < y + bh) = false) := decide_eq_false (fun h => h0 h.1)
    have d0 : decide (x < x2 + bw2) = false := by simpa using h0
    go_enter Try.func55, Try.ntmps55
    go_wp2
    go_ret
    exact ⟨by (first | rfl | (rw [HR.out]; rfl) | (simp only [HR.out]; rfl) | (have := HR.out; simp_all)), two_boxes _ _ _⟩
  have d0 : decide (x < x2 + bw2) = true := by simpa using h0
  by_cases h1 : x2 < x + bw
  case neg =>
    have HR : Hid (decide (x < x2 + bw2 ∧ x2 < x + bw ∧ y < y2 + bh2 ∧ y2 < y + bh) = false) := decide_eq_false (fun h => h1 h.2.1)
    have d1 : decide (x2 < x + bw) = false := by simpa using h1
    go_enter Try.func55, Try.ntmps55
    go_wp2
    go_ret
    exact ⟨by (first | rfl | (rw [HR.out]; rfl) | (simp only [HR.out]; rfl) | (have := HR.out; simp_all)), two_boxes _ _ _⟩
  have d1 : decide (x2 < x + bw) = true := by simpa using h1
  by_cases h2 : y < y2 + bh2
  case neg =>
    have HR : Hid (decide (x < x2 + bw2 ∧ x2 < x + bw ∧ y < y2 + bh2 ∧ y2 < y + bh) = false) := decide_eq_false (fun h => h2 h.2.2.1)
    have d2 : decide (y < y2 + bh2) = false := by simpa using h2
    go_enter Try.func55, Try.ntmps55
    go_wp2
    go_ret
    exact ⟨by (first | rfl | (rw [HR.out]; rfl) | (simp only [HR.out]; rfl) | (have := HR.out; simp_all)), two_boxes _ _ _⟩
  have d2 : decide (y < y2 + bh2) = true := by simpa using h2
  by_cases h3 : y2 < y + bh
  case neg =>
    have HR : Hid (decide (x < x2 + bw2 ∧ x2 < x + bw ∧ y < y2 + bh2 ∧ y2 < y + bh) = false) := decide_eq_false (fun h => h3 h.2.2.2)
    have d3 : decide (y2 < y + bh) = false := by simpa using h3
    go_enter Try.func55, Try.ntmps55
    go_wp2
    go_ret
    exact ⟨by (first | rfl | (rw [HR.out]; rfl) | (simp only [HR.out]; rfl) | (have := HR.out; simp_all)), two_boxes _ _ _⟩
  have HR : Hid (decide (x < x2 + bw2 ∧ x2 < x + bw ∧ y < y2 + bh2 ∧ y2 < y + bh) = true) := decide_eq_true ⟨h0, h1, h2, h3⟩
  have d3 : decide (y2 < y + bh) = true := by simpa using h3
  go_enter Try.func55, Try.ntmps55
  go_wp2
  go_ret
  exact ⟨by (first | rfl | (rw [HR.out]; rfl) | (simp only [HR.out]; rfl) | (have := HR.out; simp_all)), two_boxes _ _ _⟩
end Go.Proofs.Ytfgjiaakoacomaa
