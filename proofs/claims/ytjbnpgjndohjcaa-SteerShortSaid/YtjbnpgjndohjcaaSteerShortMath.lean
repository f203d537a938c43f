/- No step is longer than it may be; one alone pushes straight away: plain mathematics. -/
import Derived.Test.YtjbnpgjndohjcaaSteerStillMath
import Derived.Test.YtjbnpgjndohjcaaCohere
import Derived.Test.YtjbnpgjndohjcaaVecShortMath
namespace Go.Proofs.Ytjbnpgjndohjcaa
set_option maxRecDepth 20000
open Go.RowKit

theorem mid_ranges {x u : Int} (hx0 : -288230376151711744 ≤ x) (hx1 : x ≤ 288230376151711744) (hu0 : -288230376151711744 ≤ u) (hu1 : u ≤ 288230376151711744) : fsub u x = u - x ∧ -576460752303423488 ≤ u - x ∧ u - x ≤ 576460752303423488 :=
  ⟨fsub_mid17 (by omega) (by omega) (by omega) (by omega), by omega, by omega⟩
theorem clamp_short {X Y m : Int} (hx0 : -576460752303423488 ≤ X) (hx1 : X ≤ 576460752303423488) (hy0 : -576460752303423488 ≤ Y) (hy1 : Y ≤ 576460752303423488) :
    (0 ≤ m → vlen (clampV X Y m).1 (clampV X Y m).2 ≤ m) ∧ (vlen X Y ≤ m → clampV X Y m = (X, Y)) ∧
    ((clampV X Y m).1 < 0 → X < 0) ∧ (0 < (clampV X Y m).1 → 0 < X) ∧ ((clampV X Y m).2 < 0 → Y < 0) ∧ (0 < (clampV X Y m).2 → 0 < Y) ∧
    (-2305843009213693952 ≤ (clampV X Y m).1 ∧ (clampV X Y m).1 ≤ 2305843009213693952) ∧ (-2305843009213693952 ≤ (clampV X Y m).2 ∧ (clampV X Y m).2 ≤ 2305843009213693952) := by
  have nx : nrm X = X := nrm_id (by omega)
  have ny : nrm Y = Y := nrm_id (by omega)
  have hl : 0 ≤ vlen X Y := (vlen_range (by omega) (by omega)).1
  have m0 : 0 ≤ mostV m := by unfold mostV; omega
  unfold clampV
  rw [nx, ny]
  by_cases h : vlen X Y ≤ mostV m
  · rw [if_pos h]
    exact ⟨fun hm => by have : mostV m = m := by unfold mostV; omega
                        show vlen X Y ≤ m
                        omega, fun _ => rfl, id, id, id, id, ⟨by show _ ≤ X; omega, by show X ≤ _; omega⟩, ⟨by show _ ≤ Y; omega, by show Y ≤ _; omega⟩⟩
  · rw [if_neg h]
    obtain ⟨h1, h2, h3, h4, h5, h6, h7, h8, h9⟩ := short_is (X := X) (Y := Y) (m := mostV m) (by omega) (by omega) (by omega) (by omega) m0 (by omega)
    exact ⟨fun hm => by have : mostV m = m := by unfold mostV; omega
                        rw [this] at h1 ⊢; exact h1, fun h => by unfold mostV at *; omega, h2, h3, h4, h5, ⟨h6, h7⟩, ⟨h8, h9⟩⟩

theorem short_all {x y u v k : Int} (hx0 : -288230376151711744 ≤ x) (hx1 : x ≤ 288230376151711744) (hy0 : -288230376151711744 ≤ y) (hy1 : y ≤ 288230376151711744)
    (hu0 : -288230376151711744 ≤ u) (hu1 : u ≤ 288230376151711744) (hv0 : -288230376151711744 ≤ v) (hv1 : v ≤ 288230376151711744) (hk : 0 ≤ k) :
    vlen (towV x y u v k).1 (towV x y u v k).2 ≤ k ∧ (vlen (fsub u x) (fsub v y) ≤ k → towV x y u v k = (fsub u x, fsub v y)) ∧ cohV x y [(u, v)] 1 k = towV x y u v k ∧
    (vwithin x y u v k = false → apV x y k [(u, v)] = (0, 0)) ∧ (0 < (apV x y k [(u, v)]).1 → ¬ x < u) ∧ ((apV x y k [(u, v)]).1 < 0 → ¬ u < x) ∧ (0 < (apV x y k [(u, v)]).2 → ¬ y < v) ∧ ((apV x y k [(u, v)]).2 < 0 → ¬ v < y) := by
  obtain ⟨a1, a2, a3⟩ := mid_ranges hx0 hx1 hu0 hu1
  obtain ⟨b1, b2, b3⟩ := mid_ranges hy0 hy1 hv0 hv1
  obtain ⟨c1, c2, c3⟩ := mid_ranges hu0 hu1 hx0 hx1
  obtain ⟨d1, d2, d3⟩ := mid_ranges hv0 hv1 hy0 hy1
  have T := clamp_short (X := u - x) (Y := v - y) (m := k) a2 a3 b2 b3
  have e1 : sumV [(u, v)] = (u, v) := by
    unfold sumV
    simp only [List.foldl_cons, List.foldl_nil]
    refine Prod.ext ?_ ?_
    · show fadd 0 u = u
      unfold fadd; rw [nrm_id (a := 0) (by omega), nrm_id (a := u) (by omega), clp_id (by omega) (by omega)]; (try omega)
    · show fadd 0 v = v
      unfold fadd; rw [nrm_id (a := 0) (by omega), nrm_id (a := v) (by omega), clp_id (by omega) (by omega)]; (try omega)
  refine ⟨?_, ?_, ?_, ?_⟩
  · unfold towV; rw [a1, b1]; exact T.1 hk
  · unfold towV; rw [a1, b1]; exact T.2.1
  · unfold cohV
    rw [if_neg (by omega), e1, Int.tdiv_one, Int.tdiv_one]
  · by_cases hw : vwithin x y u v k = true
    · refine ⟨fun h => (by rw [hw] at h; cases h), ?_⟩
      have e2 : apV x y k [(u, v)] = (fadd 0 (pushV x y k u v).1, fadd 0 (pushV x y k u v).2) := by
        unfold apV stepV
        simp only [List.foldl_cons, List.foldl_nil]
        rw [if_pos hw]
      by_cases hz : x - u = 0 ∧ y - v = 0
      · exact ⟨fun _ => by omega, fun _ => by omega, fun _ => by omega, fun _ => by omega⟩
      · have e3 : pushV x y k u v = clampV (x - u) (y - v) (fsub k (vlen (x - u) (y - v))) := by
          unfold pushV
          rw [c1, d1, if_neg hz]
        obtain ⟨_, _, s1, s2, s3, s4, ⟨r1, r2⟩, ⟨r3, r4⟩⟩ := clamp_short (X := x - u) (Y := y - v) (m := fsub k (vlen (x - u) (y - v))) c2 c3 d2 d3
        rw [e2, e3]
        generalize clampV (x - u) (y - v) (fsub k (vlen (x - u) (y - v))) = q at *
        have f1 : fadd 0 q.1 = q.1 := by
          unfold fadd; rw [nrm_id (a := 0) (by omega), nrm_id (a := q.1) (by omega), clp_id (by omega) (by omega)]; (try omega)
        have f2 : fadd 0 q.2 = q.2 := by
          unfold fadd; rw [nrm_id (a := 0) (by omega), nrm_id (a := q.2) (by omega), clp_id (by omega) (by omega)]; (try omega)
        rw [f1, f2]
        exact ⟨fun h => by have := s2 h; omega, fun h => by have := s1 h; omega, fun h => by have := s4 h; omega, fun h => by have := s3 h; omega⟩
    · have e2 : apV x y k [(u, v)] = (0, 0) := by
        unfold apV stepV
        simp only [List.foldl_cons, List.foldl_nil]
        rw [if_neg hw]
      rw [e2]
      exact ⟨fun _ => rfl, fun h => by simp at h, fun h => by simp at h, fun h => by simp at h, fun h => by simp at h⟩
end Go.Proofs.Ytjbnpgjndohjcaa
