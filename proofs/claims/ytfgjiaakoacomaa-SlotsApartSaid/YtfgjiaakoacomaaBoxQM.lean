/- A place's box. -/
import Derived.Test.YtfgjiaakoacomaaRows
import Derived.Test.YtfgjiaakoacomaaBase
import Derived.Test.YtfgjiaakoacomaaFixLawM
namespace Go.Proofs.Ytfgjiaakoacomaa
set_option maxRecDepth 20000
set_option maxRecDepth 20000
open Go.RowKit Go.WideShapes Go.ChangeShapes

theorem keepq {wa wb : World} {g : Nat} {a b : Int} (h : wa.cell? ⟨g, 0, none⟩ = some (.int .i64 a) ∧ wa.cell? ⟨g, 1, none⟩ = some (.int .i64 b) ∧ (∀ j, wa.frozen? ⟨g, j, none⟩ = false) ∧ g < wa.heap.size) (hb : Below wa.heap.size wa wb) : wb.cell? ⟨g, 0, none⟩ = some (.int .i64 a) ∧ wb.cell? ⟨g, 1, none⟩ = some (.int .i64 b) ∧ (∀ j, wb.frozen? ⟨g, j, none⟩ = false) ∧ g < wb.heap.size := by
  obtain ⟨h0, h1, h2, h3⟩ := h
  exact ⟨(hb.cell (p := ⟨g, 0, none⟩) h3).trans h0, (hb.cell (p := ⟨g, 1, none⟩) h3).trans h1, fun j => (hb.frozen (p := ⟨g, j, none⟩) h3).trans (h2 j), Nat.lt_of_lt_of_le h3 hb.size⟩
theorem startq (w : World) (t : TypeId) (a b : Int) : (w.alloc (.cells #[.int .i64 a, .int .i64 b] t)).cell? ⟨w.heap.size, 0, none⟩ = some (.int .i64 a) ∧ (w.alloc (.cells #[.int .i64 a, .int .i64 b] t)).cell? ⟨w.heap.size, 1, none⟩ = some (.int .i64 b) ∧ (∀ j, (w.alloc (.cells #[.int .i64 a, .int .i64 b] t)).frozen? ⟨w.heap.size, j, none⟩ = false) ∧ w.heap.size < (w.alloc (.cells #[.int .i64 a, .int .i64 b] t)).heap.size := by
  refine ⟨?_, ?_, fun j => ?_, by simp⟩
  · rw [World.cell?_alloc_at _ _ _ _ rfl]; rfl
  · rw [World.cell?_alloc_at _ _ _ _ rfl]; rfl
  · exact World.frozen?_alloc_at _ _ _ _ rfl
theorem storeq {wa : World} {g : Nat} {x y a b : Int} (h : wa.cell? ⟨g, 0, none⟩ = some (.int .i64 x) ∧ wa.cell? ⟨g, 1, none⟩ = some (.int .i64 y) ∧ (∀ j, wa.frozen? ⟨g, j, none⟩ = false) ∧ g < wa.heap.size) : ((wa.setCell ⟨g, 0, none⟩ (.int .i64 a)).setCell ⟨g, 1, none⟩ (.int .i64 b)).cell? ⟨g, 0, none⟩ = some (.int .i64 a) ∧ ((wa.setCell ⟨g, 0, none⟩ (.int .i64 a)).setCell ⟨g, 1, none⟩ (.int .i64 b)).cell? ⟨g, 1, none⟩ = some (.int .i64 b) ∧ (∀ j, ((wa.setCell ⟨g, 0, none⟩ (.int .i64 a)).setCell ⟨g, 1, none⟩ (.int .i64 b)).frozen? ⟨g, j, none⟩ = false) ∧ g < ((wa.setCell ⟨g, 0, none⟩ (.int .i64 a)).setCell ⟨g, 1, none⟩ (.int .i64 b)).heap.size := by
  obtain ⟨h0, h1, h2, h3⟩ := h
  refine ⟨?_, ?_, fun j => ?_, by simpa using h3⟩
  · rw [World.cell?_setCell_other _ _ _ _ (by simp)]; exact World.cell?_setCell_same _ _ _ h0
  · exact World.cell?_setCell_same _ _ _ (by rw [World.cell?_setCell_other _ _ _ _ (by simp)]; exact h1)
  · rw [World.frozen?_setCell, World.frozen?_setCell]; exact h2 j
theorem otherq {wa : World} {g h : Nat} {x y : Int} {a b : Value} (s : wa.cell? ⟨g, 0, none⟩ = some (.int .i64 x) ∧ wa.cell? ⟨g, 1, none⟩ = some (.int .i64 y) ∧ (∀ j, wa.frozen? ⟨g, j, none⟩ = false) ∧ g < wa.heap.size) (hne : g ≠ h) : ((wa.setCell ⟨h, 0, none⟩ a).setCell ⟨h, 1, none⟩ b).cell? ⟨g, 0, none⟩ = some (.int .i64 x) ∧ ((wa.setCell ⟨h, 0, none⟩ a).setCell ⟨h, 1, none⟩ b).cell? ⟨g, 1, none⟩ = some (.int .i64 y) ∧ (∀ j, ((wa.setCell ⟨h, 0, none⟩ a).setCell ⟨h, 1, none⟩ b).frozen? ⟨g, j, none⟩ = false) ∧ g < ((wa.setCell ⟨h, 0, none⟩ a).setCell ⟨h, 1, none⟩ b).heap.size := by
  obtain ⟨h0, h1, h2, h3⟩ := s
  have e : ∀ i, ((wa.setCell ⟨h, 0, none⟩ a).setCell ⟨h, 1, none⟩ b).cell? ⟨g, i, none⟩ = wa.cell? ⟨g, i, none⟩ := fun i => by
    rw [World.cell?_setCell_other _ _ _ _ (by simp <;> omega), World.cell?_setCell_other _ _ _ _ (by simp <;> omega)]
  exact ⟨(e 0).trans h0, (e 1).trans h1, fun j => by rw [World.frozen?_setCell, World.frozen?_setCell]; exact h2 j, by simpa using h3⟩
/-- A place's box, its cells as they are, behind calls. -/
def BoxQ (g : Nat) (a b : Int) (w : World) : Prop := w.cell? ⟨g, 0, none⟩ = some (.int .i64 a) ∧ w.cell? ⟨g, 1, none⟩ = some (.int .i64 b) ∧ (∀ j, w.frozen? ⟨g, j, none⟩ = false) ∧ g < w.heap.size
theorem BoxQ.next {g : Nat} {a b : Int} {wa wb : World} (h : BoxQ g a b wa) (hb : Below wa.heap.size wa wb) : BoxQ g a b wb := keepq h hb
theorem BoxQ.other {g h : Nat} {x y : Int} {a b : Value} {wa : World} (s : BoxQ g x y wa) (hne : g ≠ h) : BoxQ g x y ((wa.setCell ⟨h, 0, none⟩ a).setCell ⟨h, 1, none⟩ b) := otherq s hne
theorem BoxQ.store {g : Nat} {x y a b : Int} {wa : World} (h : BoxQ g x y wa) : BoxQ g a b ((wa.setCell ⟨g, 0, none⟩ (.int .i64 a)).setCell ⟨g, 1, none⟩ (.int .i64 b)) := storeq h
theorem BoxQ.start (w : World) (a b : Int) : BoxQ w.heap.size a b (w.alloc (.cells #[.int .i64 a, .int .i64 b] 62)) := startq w _ a b
end Go.Proofs.Ytfgjiaakoacomaa
namespace Go.Proofs.Ytfgjiaakoacomaa
set_option maxRecDepth 20000
set_option maxRecDepth 20000
open Go.RowKit

/-- How great a disc counts. -/
def rndV (r : Int) : Int := min (max r 0) 262144
theorem rndV_range (r : Int) : 0 ≤ rndV r ∧ rndV r ≤ 262144 := by unfold rndV; omega
theorem mag_anti {a b : Int} (h : nrm a = -nrm b) : mag a = mag b := by unfold mag; rw [h]; split <;> split <;> omega
theorem fsub_anti {x p : Int} (hx : x ≤ 9223372036854775807) (hp : p ≤ 9223372036854775807) : nrm (fsub x p) = -nrm (fsub p x) := by
  have h0 := nrm_range hx
  have h1 := nrm_range hp
  unfold fsub fneg fadd
  rw [nrm_id (a := -nrm p) (by omega), nrm_id (a := -nrm x) (by omega)]
  generalize nrm x = a at *
  generalize nrm p = b at *
  have key : ∀ z : Int, nrm (clp z) = clp z := fun z => nrm_id (clp_range z).1
  rw [key, key]
  unfold clp
  split <;> split <;> first | omega | (split <;> omega) | (split <;> split <;> omega)
/-- Whoever is within a way of another one has it within the same. -/
theorem vwithin_sym {x y p q r : Int} (hx : x ≤ 9223372036854775807) (hy : y ≤ 9223372036854775807) (hp : p ≤ 9223372036854775807) (hq : q ≤ 9223372036854775807) : vwithin p q x y r = vwithin x y p q r := by
  unfold vwithin sq2
  rw [mag_anti (fsub_anti hp hx), mag_anti (fsub_anti hq hy)]

theorem rnd_ref (r : Int) : max (0 : Int) (min r 262144) = rndV r := by unfold rndV; omega

set_option maxHeartbeats 800000 in
theorem ref_apart (x y r p q s : Int) (w : World) (hx : x ≤ 9223372036854775807) (hy : y ≤ 9223372036854775807) (hp : p ≤ 9223372036854775807) (hq : q ≤ 9223372036854775807) :
    Calls Try.prog 35 #[.agg #[.int .i64 x, .int .i64 y], .int .i64 r, .agg #[.int .i64 p, .int .i64 q], .int .i64 s] w fun e w' => e = .returned (.bool (!vwithin x y p q (rndV r + rndV s))) ∧ Below w.heap.size w w' := by
  obtain ⟨r0, r1⟩ := rndV_range r
  obtain ⟨s0, s1⟩ := rndV_range s
  have C0 := fun W => ref_within x y p q (rndV r + rndV s) W hx hy hp hq (by omega)
  have e1 := rnd_ref r
  have e2 := rnd_ref s
  generalize rndV r = R at *
  generalize rndV s = S at *
  generalize vwithin x y p q (R + S) = B at *
  have hw2 : wrap64 (R + S) = R + S := IntWalk.wrap64_in _ (by omega)
  have C0 := Lib.hid C0
  have B0 : Below w.heap.size w ((w.alloc (.cells #[.int .i64 x, .int .i64 y] 62)).alloc (.cells #[.int .i64 p, .int .i64 q] 62)) := two_below _ _ _
  go_enter Try.func35, Try.ntmps35
  go_wp2_with fail
  (try simp only [e1, e2, hw2])
  refine Calls.mono (C0.out _) ?_
  rintro e w1 ⟨rfl, hb1⟩
  go_wp2
  go_ret
  exact ⟨rfl, B0.trans (hb1.mono B0.size)⟩
end Go.Proofs.Ytfgjiaakoacomaa
namespace Go.Proofs.Ytfgjiaakoacomaa
set_option maxRecDepth 20000

theorem fsub_mid {x y : Int} (hx0 : -1073741824 ≤ x) (hx1 : x ≤ 1073741824) (hy0 : -1073741824 ≤ y) (hy1 : y ≤ 1073741824) : fsub x y = x - y := by
  unfold fsub fneg fadd
  rw [nrm_id (a := y) (by omega), nrm_id (a := x) (by omega), nrm_id (a := -y) (by omega), clp_id (by omega) (by omega)]
  omega
theorem mag_sqm {x : Int} (hx0 : -1073741824 ≤ x) : mag x * mag x = x * x := by
  unfold mag
  rw [nrm_id (by omega)]
  split
  · exact Int.neg_mul_neg x x
  · rfl
theorem sq_gem {a X : Int} (ha : 0 ≤ a) (h : a ≤ X ∨ a ≤ -X) : a * a ≤ X * X := by
  rcases h with h | h
  · exact Int.mul_le_mul h h ha (by omega)
  · rw [← Int.neg_mul_neg X X]
    exact Int.mul_le_mul h h ha (by omega)
theorem sq_nnm (X : Int) : 0 ≤ X * X := by
  rcases Int.le_total 0 X with h | h
  · exact Int.mul_nonneg h h
  · rw [← Int.neg_mul_neg X X]; exact Int.mul_nonneg (by omega) (by omega)
theorem apart_mid {a b p q s : Int} (ha : 0 ≤ a ∧ a < 128) (hb : 0 ≤ b ∧ b < 128) (hp : 0 ≤ p ∧ p < 128) (hq : 0 ≤ q ∧ q < 128) (hs : 0 ≤ s ∧ s ≤ 3)
    (h : 2 * s + 1 ≤ a - p ∨ 2 * s + 1 ≤ p - a ∨ 2 * s + 1 ≤ b - q ∨ 2 * s + 1 ≤ q - b) :
    vwithin (a * 65536 + 32768) (b * 65536 + 32768) (p * 65536 + 32768) (q * 65536 + 32768) (rndV (s * 65536 + 32768) + rndV (s * 65536 + 32768)) = false := by
  have hr : rndV (s * 65536 + 32768) + rndV (s * 65536 + 32768) = (2 * s + 1) * 65536 := by unfold rndV; omega
  unfold vwithin
  rw [hr, fsub_mid (by omega) (by omega) (by omega) (by omega), fsub_mid (by omega) (by omega) (by omega) (by omega)]
  refine decide_eq_false fun ⟨_, h2⟩ => ?_
  unfold sq2 at h2
  generalize hX : a * 65536 + 32768 - (p * 65536 + 32768) = X at *
  generalize hY : b * 65536 + 32768 - (q * 65536 + 32768) = Y at *
  rw [mag_sqm (x := X) (by omega), mag_sqm (x := Y) (by omega)] at h2
  have k1 := sq_nnm X
  have k2 := sq_nnm Y
  have k3 : (2 * s + 1) * 65536 * ((2 * s + 1) * 65536) ≤ X * X ∨ (2 * s + 1) * 65536 * ((2 * s + 1) * 65536) ≤ Y * Y := by
    rcases h with h | h | h | h
    · exact .inl (sq_gem (by omega) (.inl (by omega)))
    · exact .inl (sq_gem (by omega) (.inr (by omega)))
    · exact .inr (sq_gem (by omega) (.inl (by omega)))
    · exact .inr (sq_gem (by omega) (.inr (by omega)))
  omega
end Go.Proofs.Ytfgjiaakoacomaa
