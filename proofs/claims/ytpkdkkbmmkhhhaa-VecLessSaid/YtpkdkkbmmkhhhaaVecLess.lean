/- Which of two ways comes first: vec.Less and the page's own; the walk of the law VecLess. -/
import Derived.Test.YtpkdkkbmmkhhhaaVecLaw
import Derived.Deep.RegionWith
namespace Go.Proofs.Ytpkdkkbmmkhhhaa
open Go.RowKit Go.WideShapes Go.ChangeShapes

theorem vec_norm_x (x y : Int) (w : World) : Calls Try.prog 60 #[.agg #[.int .i64 x, .int .i64 y]] w fun e w' => e = .returned (.agg #[.int .i64 (nrm x), .int .i64 (nrm y)]) ∧ ((w.alloc (.cells #[.int .i64 x, .int .i64 y] 25)).alloc (.cells #[.int .i64 (nrm x), .int .i64 (nrm y)] 25)).drew = w' := by
  have N1 := Lib.hid (fun W => back_of (fix_norm x W))
  have N2 := Lib.hid (fun W => back_of (fix_norm y W))
  generalize nrm x = X at *
  generalize nrm y = Y at *
  go_enter Try.func60, Try.ntmps60
  go_wp2_with fail
  generalize hW : (w.alloc (.cells #[.int .i64 x, .int .i64 y] 25)).alloc _ = W
  have hc0 : W.cell? ⟨w.heap.size, 0, none⟩ = some (.int .i64 x) := by rw [← hW, World.cell?_alloc_lt _ _ _ (by simp), World.cell?_alloc_at _ _ _ _ rfl]; rfl
  have hc1 : W.cell? ⟨w.heap.size, 1, none⟩ = some (.int .i64 y) := by rw [← hW, World.cell?_alloc_lt _ _ _ (by simp), World.cell?_alloc_at _ _ _ _ rfl]; rfl
  refine wp_region_still_tail 7 (by kernel_rfl) (by kernel_rfl) ?_
  simp only [List.take_succ_cons, List.take_zero, List.drop_succ_cons, List.drop_zero]
  repeat still_step
  still_call (N1.out _)
  repeat still_step
  still_call (N2.out _)
  repeat still_step
  refine wpStill_nil ?_
  change wpList _ _ _ _ _ W.drew
  subst hW
  go_wp2
  exact bodyPost_ret (v := .agg #[.int .i64 X, .int .i64 Y]) (by simp [results, Try.results60, go_sem]) rfl ⟨rfl, rfl⟩

/-- Which of two ways comes first. -/
def vless (x y p q : Int) : Bool := decide (nrm x < nrm p ∨ (nrm x = nrm p ∧ nrm y < nrm q))

set_option maxHeartbeats 1600000 in
theorem vec_less (x y p q : Int) (w : World) : Calls Try.prog 24 #[.agg #[.int .i64 x, .int .i64 y], .agg #[.int .i64 p, .int .i64 q]] w fun e w' => e = .returned (.bool (vless x y p q)) ∧ Below w.heap.size w w' := by
  have N1 := Lib.hid (fun W => vec_norm_x x y W)
  have N2 := Lib.hid (fun W => vec_norm_x p q W)
  have HV : Hid (vless x y p q = decide (nrm x < nrm p ∨ (nrm x = nrm p ∧ nrm y < nrm q))) := rfl
  generalize vless x y p q = V at *
  generalize nrm x = X at *
  generalize nrm y = Y at *
  generalize nrm p = P at *
  generalize nrm q = Q at *
  go_enter Try.func24, Try.ntmps24
  go_wp2_with fail
  go_region_with (first | (go_at_call 60; with_reducible refine Calls.mono (N1.out _) ?_; rintro e w1 ⟨rfl, rfl⟩) | (go_at_call 60; with_reducible refine Calls.mono (N2.out _) ?_; rintro e w1 ⟨rfl, rfl⟩))
  all_goals
    by_cases h1 : X < P
    · have e := Lib.hid (decide_eq_true (p := X < P ∨ (X = P ∧ Y < Q)) (.inl h1))
      go_wp2
      go_ret
      exact ⟨by rw [HV.out, e.out]; rfl, by repeat (first | exact Below.refl _ _ | apply Below.drew | refine Below.alloc ?_ (by simp; try omega) _)⟩
    · by_cases h2 : X = P
      · have h4 : (X == P) = true := beq_iff_eq.2 h2
        have h5 : P ≤ X := by omega
        have h6 : decide (X < P) = false := decide_eq_false h1
        have HT := Lib.hid (fun h3 : Y < Q => decide_eq_true (p := X < P ∨ (X = P ∧ Y < Q)) (.inr ⟨h2, h3⟩))
        have HF := Lib.hid (fun h3 : ¬ Y < Q => decide_eq_false (p := X < P ∨ (X = P ∧ Y < Q)) (fun h => h.elim h1 (fun h => h3 h.2)))
        clear h1 h2
        by_cases h3 : Y < Q
        · have e := Lib.hid (HT.out h3)
          clear HT HF
          go_wp2
          go_ret
          exact ⟨by rw [HV.out, e.out]; rfl, by repeat (first | exact Below.refl _ _ | apply Below.drew | refine Below.alloc ?_ (by simp; try omega) _)⟩
        · have e := Lib.hid (HF.out h3)
          clear HT HF
          go_wp2
          go_ret
          exact ⟨by rw [HV.out, e.out]; rfl, by repeat (first | exact Below.refl _ _ | apply Below.drew | refine Below.alloc ?_ (by simp; try omega) _)⟩
      · have e := Lib.hid (decide_eq_false (p := X < P ∨ (X = P ∧ Y < Q)) (by omega))
        have h4 : (X == P) = false := beq_eq_false_iff_ne.2 h2
        go_wp2
        go_ret
        exact ⟨by rw [HV.out, e.out]; rfl, by repeat (first | exact Below.refl _ _ | apply Below.drew | refine Below.alloc ?_ (by simp; try omega) _)⟩

set_option maxHeartbeats 1600000 in
theorem ref_vless (x y p q : Int) (w : World) : Calls Try.prog 25 #[.agg #[.int .i64 x, .int .i64 y], .agg #[.int .i64 p, .int .i64 q]] w fun e w' => e = .returned (.bool (vless x y p q)) ∧ Below w.heap.size w w' := by
  have N1 := Lib.hid (fun W => ref_cmp x p W)
  have N2 := Lib.hid (fun W => ref_cmp y q W)
  have HV : Hid ((fcmp x p = -1 → vless x y p q = true) ∧ (fcmp x p = 1 → vless x y p q = false) ∧ (fcmp x p = 0 → fcmp y q = -1 → vless x y p q = true) ∧ (fcmp x p = 0 → fcmp y q ≠ -1 → vless x y p q = false)) := by
    have h1 : fcmp x p = -1 → nrm x < nrm p := fun h => by unfold fcmp at h; split at h <;> (try split at h) <;> omega
    have h2 : fcmp x p = 1 → nrm p < nrm x := fun h => by unfold fcmp at h; split at h <;> (try split at h) <;> omega
    have h3 : fcmp x p = 0 → nrm x = nrm p := fun h => by unfold fcmp at h; split at h <;> (try split at h) <;> omega
    have h4 : fcmp y q = -1 → nrm y < nrm q := fun h => by unfold fcmp at h; split at h <;> (try split at h) <;> omega
    have h5 : fcmp y q ≠ -1 → ¬ nrm y < nrm q := fun h => by unfold fcmp at h; split at h <;> (try split at h) <;> omega
    unfold vless
    refine ⟨fun h => decide_eq_true (.inl (h1 h)), fun h => decide_eq_false ?_, fun h k => decide_eq_true (.inr ⟨h3 h, h4 k⟩), fun h k => decide_eq_false ?_⟩
    · have := h2 h; omega
    · have := h3 h; have := h5 k; omega
  have hc1 : fcmp x p = -1 ∨ fcmp x p = 1 ∨ fcmp x p = 0 := by unfold fcmp; split <;> (try split) <;> simp
  have hc2 : fcmp y q = -1 ∨ fcmp y q = 1 ∨ fcmp y q = 0 := by unfold fcmp; split <;> (try split) <;> simp
  generalize vless x y p q = V at *
  generalize fcmp x p = a at *
  generalize fcmp y q = b at *
  rcases hc1 with rfl | rfl | rfl
  · have e := HV.out.1 rfl
    subst e
    clear HV hc2
    go_enter Try.func25, Try.ntmps25
    go_wp2_with fail
    refine Calls.mono (N1.out _) ?_
    rintro e w1 ⟨rfl, rfl⟩
    go_wp2
    go_ret
    exact ⟨rfl, two_below _ _ _⟩
  · have e := HV.out.2.1 rfl
    subst e
    clear HV hc2
    go_enter Try.func25, Try.ntmps25
    go_wp2_with fail
    refine Calls.mono (N1.out _) ?_
    rintro e w1 ⟨rfl, rfl⟩
    go_wp2
    go_ret
    exact ⟨rfl, two_below _ _ _⟩
  · rcases hc2 with rfl | rfl | rfl
    · have e := HV.out.2.2.1 rfl rfl
      subst e
      clear HV
      go_enter Try.func25, Try.ntmps25
      go_wp2_with fail
      refine Calls.mono (N1.out _) ?_
      rintro e w1 ⟨rfl, rfl⟩
      go_wp2_with fail
      refine Calls.mono (N2.out _) ?_
      rintro e w1 ⟨rfl, rfl⟩
      go_wp2
      go_ret
      exact ⟨rfl, two_below _ _ _⟩
    all_goals
      have e := HV.out.2.2.2 rfl (by decide)
      subst e
      clear HV
      go_enter Try.func25, Try.ntmps25
      go_wp2_with fail
      refine Calls.mono (N1.out _) ?_
      rintro e w1 ⟨rfl, rfl⟩
      go_wp2_with fail
      refine Calls.mono (N2.out _) ?_
      rintro e w1 ⟨rfl, rfl⟩
      go_wp2
      go_ret
      exact ⟨rfl, two_below _ _ _⟩

theorem vless_self (x y : Int) : vless x y x y = false := decide_eq_false (by omega)
theorem vless_both (x y p q : Int) (h : vless x y p q = true) : vless p q x y = false := by
  have := of_decide_eq_true h
  exact decide_eq_false (by omega)

end Go.Proofs.Ytpkdkkbmmkhhhaa
