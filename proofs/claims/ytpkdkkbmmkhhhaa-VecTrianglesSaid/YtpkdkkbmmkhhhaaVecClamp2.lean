/- vec.Clamp and the page's. -/
import Derived.Test.YtpkdkkbmmkhhhaaVecClamp
import Derived.Test.YtpkdkkbmmkhhhaaBoxQ
namespace Go.Proofs.Ytpkdkkbmmkhhhaa
set_option maxRecDepth 20000
open Go.RowKit Go.WideShapes Go.ChangeShapes

theorem keepv {w wa wb : World} {g : Nat} {X Y : Int} (h : wa.cell? ⟨g, 0, none⟩ = some (.int .i64 X) ∧ wa.cell? ⟨g, 1, none⟩ = some (.int .i64 Y) ∧ g < wa.heap.size ∧ Below w.heap.size w wa) (hb : Below wa.heap.size wa wb) : wb.cell? ⟨g, 0, none⟩ = some (.int .i64 X) ∧ wb.cell? ⟨g, 1, none⟩ = some (.int .i64 Y) ∧ g < wb.heap.size ∧ Below w.heap.size w wb := by
  obtain ⟨h0, h1, h3, h4⟩ := h
  exact ⟨(hb.cell (p := ⟨g, 0, none⟩) h3).trans h0, (hb.cell (p := ⟨g, 1, none⟩) h3).trans h1, Nat.lt_of_lt_of_le h3 hb.size, h4.trans (hb.mono h4.size)⟩
theorem keepvs {w wa : World} {g h : Nat} {X Y : Int} (s : wa.cell? ⟨g, 0, none⟩ = some (.int .i64 X) ∧ wa.cell? ⟨g, 1, none⟩ = some (.int .i64 Y) ∧ g < wa.heap.size ∧ Below w.heap.size w wa) (hne : g ≠ h) (hh : w.heap.size ≤ h) (a b : Value) : ((wa.setCell ⟨h, 0, none⟩ a).setCell ⟨h, 1, none⟩ b).cell? ⟨g, 0, none⟩ = some (.int .i64 X) ∧ ((wa.setCell ⟨h, 0, none⟩ a).setCell ⟨h, 1, none⟩ b).cell? ⟨g, 1, none⟩ = some (.int .i64 Y) ∧ g < ((wa.setCell ⟨h, 0, none⟩ a).setCell ⟨h, 1, none⟩ b).heap.size ∧ Below w.heap.size w ((wa.setCell ⟨h, 0, none⟩ a).setCell ⟨h, 1, none⟩ b) := by
  obtain ⟨h0, h1, h3, h4⟩ := s
  have e : ∀ i, ((wa.setCell ⟨h, 0, none⟩ a).setCell ⟨h, 1, none⟩ b).cell? ⟨g, i, none⟩ = wa.cell? ⟨g, i, none⟩ := fun i => by
    rw [World.cell?_setCell_other _ _ _ _ (by simp <;> omega), World.cell?_setCell_other _ _ _ _ (by simp <;> omega)]
  exact ⟨(e 0).trans h0, (e 1).trans h1, by simpa using h3, (h4.setCell hh _).setCell hh _⟩

/-- The most that counts. -/
def mostV (k : Int) : Int := max k 0
/-- A way made not longer than most. -/
def clampV (x y k : Int) : Int × Int :=
  if vlen (nrm x) (nrm y) ≤ mostV k then (nrm x, nrm y) else (partV (nrm x) (mostV k) (vlen (nrm x) (nrm y)), partV (nrm y) (mostV k) (vlen (nrm x) (nrm y)))

set_option maxHeartbeats 1600000 in
set_option maxRecDepth 20000 in
theorem vec_clamp (x y k : Int) (w : World) (hx : x ≤ 9223372036854775807) (hy : y ≤ 9223372036854775807) (hk : k ≤ 9223372036854775807) :
    Calls Try.prog 50 #[.agg #[.int .i64 x, .int .i64 y], .int .i64 k] w fun e w' => e = .returned (.agg #[.int .i64 (clampV x y k).1, .int .i64 (clampV x y k).2]) ∧ Below w.heap.size w w' := by
  have N := Lib.hid (fun W => vec_norm x y W)
  obtain ⟨a0, a1⟩ := nrm_range hx
  obtain ⟨b0, b1⟩ := nrm_range hy
  have E := Lib.hid (fun W => vec_len (nrm x) (nrm y) W a1 b1)
  obtain ⟨l0, l1⟩ := vlen_range a1 b1
  have HR : clampV x y k = if vlen (nrm x) (nrm y) ≤ max k 0 then (nrm x, nrm y) else (partV (nrm x) (max k 0) (vlen (nrm x) (nrm y)), partV (nrm y) (max k 0) (vlen (nrm x) (nrm y))) := rfl
  have PX := fun (m : Int) W (m0 : 0 ≤ m) (m1 : m < vlen (nrm x) (nrm y)) => vec_part (nrm x) m (vlen (nrm x) (nrm y)) W a1 m0 m1 l1
  have PY := fun (m : Int) W (m0 : 0 ≤ m) (m1 : m < vlen (nrm x) (nrm y)) => vec_part (nrm y) m (vlen (nrm x) (nrm y)) W b1 m0 m1 l1
  generalize vlen (nrm x) (nrm y) = L at *
  generalize nrm x = X at *
  generalize nrm y = Y at *
  generalize clampV x y k = F at *
  have Q0 := startq w 25 x y
  have Q1 := keepq Q0 ((Below.refl _ _).alloc (Nat.le_refl _) (.cells #[.int .i64 0, .int .i64 0] 25))
  have R1 := startq (w.alloc (.cells #[.int .i64 x, .int .i64 y] 25)) 25 0 0
  rw [show (w.alloc (.cells #[.int .i64 x, .int .i64 y] 25)).heap.size = w.heap.size + 1 by simp] at R1
  have B1 : Below w.heap.size w ((w.alloc (.cells #[.int .i64 x, .int .i64 y] 25)).alloc (.cells #[.int .i64 0, .int .i64 0] 25)) := ((Below.refl _ _).alloc (Nat.le_refl _) _).alloc (by simp) _
  clear Q0
  have HR := Lib.hid HR
  have hm0 : 0 ≤ max k 0 := by omega
  go_enter Try.func50, Try.ntmps50
  go_wp2_with fail
  refine Calls.mono (N.out _) ?_
  rintro e w1 ⟨rfl, hb1⟩
  have Q2 := storeq (a := X) (b := Y) (keepq Q1 hb1)
  have R2 := otherq (a := .int .i64 X) (b := .int .i64 Y) (keepq R1 hb1) (show w.heap.size + 1 ≠ w.heap.size by omega)
  have B2 := ((B1.trans (hb1.mono B1.size)).setCell (p := ⟨w.heap.size, 0, none⟩) (Nat.le_refl _) (.int .i64 X)).setCell (p := ⟨w.heap.size, 1, none⟩) (Nat.le_refl _) (.int .i64 Y)
  obtain ⟨x0, x1, x2, x3⟩ := keepq Q1 hb1
  clear Q1 R1 B1
  go_wp2_with fail
  generalize max k 0 = m at *
  clear x0 x1 x2 x3
  refine Calls.mono (E.out _) ?_
  rintro e w2 ⟨rfl, hb2⟩
  have Q3 := keepq Q2 hb2
  have R3 := keepq R2 hb2
  have B3 := B2.trans (hb2.mono B2.size)
  clear Q2 R2 B2 hb2
  by_cases hle : L ≤ m
  · have HF : F = (X, Y) := by rw [HR.out]; exact if_pos hle
    have HF := Lib.hid HF
    obtain ⟨y0, y1, _, _⟩ := storeq (a := X) (b := Y) R3
    obtain ⟨x0, x1, x2, x3⟩ := id Q3
    obtain ⟨u0, u1, u2, u3⟩ := id R3
    clear PX PY HR
    go_wp2
    exact bodyPost_ret (v := .agg #[.int .i64 X, .int .i64 Y]) (by simp [results, Try.results50, go_sem, y0, y1]) rfl ⟨by rw [HF.out], (B3.setCell (by simp) _).setCell (by simp) _⟩
  · have HF : F = (partV X m L, partV Y m L) := by rw [HR.out]; exact if_neg hle
    have HF := Lib.hid HF
    have PX := Lib.hid (fun W => PX m W hm0 (by omega))
    have PY := Lib.hid (fun W => PY m W hm0 (by omega))
    generalize partV X m L = X' at *
    generalize partV Y m L = Y' at *
    have VD := keepv (g := w.heap.size) ⟨Q3.1, Q3.2.1, Q3.2.2.2, B3⟩ (Below.refl _ _).drew
    have RD := keepq R3 (Below.refl _ _).drew
    obtain ⟨x0, x1, x2, x3⟩ := id Q3
    obtain ⟨u0, u1, u2, u3⟩ := id R3
    clear HR
    go_wp2_with fail
    go_region_held3 (fun w' => w'.cell? ⟨w.heap.size, 0, none⟩ = some (.int .i64 X) ∧ w'.cell? ⟨w.heap.size, 1, none⟩ = some (.int .i64 Y) ∧ w.heap.size < w'.heap.size ∧ Below w.heap.size w w')
      (first | exact VD | assumption | exact keepvs V5 (by omega) (by omega) _ _)
      (first
        | (go_at_call 74; ((with_reducible refine Calls.mono (PX.out _) ?_); rintro e w4 ⟨rfl, hb4⟩; have V4 := keepv VD hb4; have R4 := keepq RD hb4))
        | (go_at_call 74; ((with_reducible refine Calls.mono (PY.out _) ?_); rintro e w5 ⟨rfl, hb5⟩; have V5 := keepv V4 hb5; have R5 := keepq R4 hb5; obtain ⟨v0, v1, v2, v3⟩ := id R5)))
    obtain ⟨y0, y1, _, _⟩ := storeq (a := X') (b := Y') R5
    go_wp2
    exact bodyPost_ret (v := .agg #[.int .i64 X', .int .i64 Y']) (by simp [results, Try.results50, go_sem, y0, y1]) rfl ⟨by rw [HF.out], (V5.2.2.2.setCell (by simp) _).setCell (by simp) _⟩
set_option maxHeartbeats 1600000 in
set_option maxRecDepth 20000 in
theorem ref_clamp (x y k : Int) (w : World) (hx : x ≤ 9223372036854775807) (hy : y ≤ 9223372036854775807) (hk : k ≤ 9223372036854775807) :
    Calls Try.prog 51 #[.agg #[.int .i64 x, .int .i64 y], .int .i64 k] w fun e w' => e = .returned (.agg #[.int .i64 (clampV x y k).1, .int .i64 (clampV x y k).2]) ∧ Below w.heap.size w w' := by
  have N1 := Lib.hid (fun W => back_of (ref_of x W))
  have N2 := Lib.hid (fun W => back_of (ref_of y W))
  obtain ⟨a0, a1⟩ := nrm_range hx
  obtain ⟨b0, b1⟩ := nrm_range hy
  have E := Lib.hid (fun W => ref_len (nrm x) (nrm y) W a1 b1)
  obtain ⟨l0, l1⟩ := vlen_range a1 b1
  have HR : clampV x y k = if vlen (nrm x) (nrm y) ≤ max k 0 then (nrm x, nrm y) else (partV (nrm x) (max k 0) (vlen (nrm x) (nrm y)), partV (nrm y) (max k 0) (vlen (nrm x) (nrm y))) := rfl
  have PX := fun (m : Int) W (m0 : 0 ≤ m) (m1 : m < vlen (nrm x) (nrm y)) => ref_part (nrm x) m (vlen (nrm x) (nrm y)) W a0 a1 m0 m1 l1
  have PY := fun (m : Int) W (m0 : 0 ≤ m) (m1 : m < vlen (nrm x) (nrm y)) => ref_part (nrm y) m (vlen (nrm x) (nrm y)) W b0 b1 m0 m1 l1
  generalize vlen (nrm x) (nrm y) = L at *
  generalize nrm x = X at *
  generalize nrm y = Y at *
  generalize clampV x y k = F at *
  have Q0 := startq w 25 x y
  have Q1 := keepq Q0 ((Below.refl _ _).alloc (Nat.le_refl _) (.cells #[.int .i64 0, .int .i64 0] 25))
  have R1 := startq (w.alloc (.cells #[.int .i64 x, .int .i64 y] 25)) 25 0 0
  rw [show (w.alloc (.cells #[.int .i64 x, .int .i64 y] 25)).heap.size = w.heap.size + 1 by simp] at R1
  have B1 : Below w.heap.size w ((w.alloc (.cells #[.int .i64 x, .int .i64 y] 25)).alloc (.cells #[.int .i64 0, .int .i64 0] 25)) := ((Below.refl _ _).alloc (Nat.le_refl _) _).alloc (by simp) _
  clear Q0
  have hcs : (k < 0 ∧ max k 0 = 0) ∨ (0 ≤ k ∧ max k 0 = k) := by omega
  rcases hcs with ⟨k0, km⟩ | ⟨k0, km⟩
  · rw [km] at HR
    clear km
    have HR := Lib.hid HR
    have hm0 : (0 : Int) ≤ 0 := by omega
    go_enter Try.func51, Try.ntmps51
    go_wp2_with fail
    generalize (w.alloc (.cells #[.int .i64 x, .int .i64 y] 25)).alloc (.cells #[.int .i64 0, .int .i64 0] 25) = W1 at *
    have Q2 := keepq (storeq (a := X) (b := Y) Q1) (Below.refl _ _).drew
    have R2 := keepq (otherq (a := .int .i64 X) (b := .int .i64 Y) R1 (show w.heap.size + 1 ≠ w.heap.size by omega)) (Below.refl _ _).drew
    have B2 := ((B1.setCell (p := ⟨w.heap.size, 0, none⟩) (Nat.le_refl _) (.int .i64 X)).setCell (p := ⟨w.heap.size, 1, none⟩) (Nat.le_refl _) (.int .i64 Y)).drew
    obtain ⟨x0, x1, x2, x3⟩ := id Q1
    refine wp_region_still_tail 7 (by kernel_rfl) (by kernel_rfl) ?_
    simp only [List.take_succ_cons, List.take_zero, List.drop_succ_cons, List.drop_zero]
    repeat still_step
    still_call (N1.out _)
    repeat still_step
    still_call (N2.out _)
    repeat still_step
    refine wpStill_nil ?_
    change wpList _ _ _ _ _ W1.drew
    clear Q1 R1 B1
    go_wp2_with fail
    clear x0 x1 x2 x3
    refine Calls.mono (E.out _) ?_
    rintro e w2 ⟨rfl, hb2⟩
    have Q3 := keepq Q2 hb2
    have R3 := keepq R2 hb2
    have B3 := B2.trans (hb2.mono B2.size)
    clear Q2 R2 B2 hb2
    by_cases hle : L ≤ 0
    · have HF : F = (X, Y) := by rw [HR.out]; exact if_pos hle
      have HF := Lib.hid HF
      obtain ⟨y0, y1, _, _⟩ := storeq (a := X) (b := Y) R3
      obtain ⟨x0, x1, x2, x3⟩ := id Q3
      obtain ⟨u0, u1, u2, u3⟩ := id R3
      clear PX PY HR
      go_wp2
      exact bodyPost_ret (v := .agg #[.int .i64 X, .int .i64 Y]) (by simp [results, Try.results51, go_sem, y0, y1]) rfl ⟨by rw [HF.out], (B3.setCell (by simp) _).setCell (by simp) _⟩
    · have HF : F = (partV X 0 L, partV Y 0 L) := by rw [HR.out]; exact if_neg hle
      have HF := Lib.hid HF
      have PX := Lib.hid (fun W => PX (0) W hm0 (by omega))
      have PY := Lib.hid (fun W => PY (0) W hm0 (by omega))
      generalize partV X 0 L = X' at *
      generalize partV Y 0 L = Y' at *
      have VD := keepv (g := w.heap.size) ⟨Q3.1, Q3.2.1, Q3.2.2.2, B3⟩ (Below.refl _ _).drew
      have RD := keepq R3 (Below.refl _ _).drew
      obtain ⟨x0, x1, x2, x3⟩ := id Q3
      obtain ⟨u0, u1, u2, u3⟩ := id R3
      clear HR
      go_wp2_with fail
      go_region_held3 (fun w' => w'.cell? ⟨w.heap.size, 0, none⟩ = some (.int .i64 X) ∧ w'.cell? ⟨w.heap.size, 1, none⟩ = some (.int .i64 Y) ∧ w.heap.size < w'.heap.size ∧ Below w.heap.size w w')
        (first | exact VD | assumption | exact keepvs V5 (by omega) (by omega) _ _)
        (first
          | (go_at_call 75; ((with_reducible refine Calls.mono (PX.out _) ?_); rintro e w4 ⟨rfl, hb4⟩; have V4 := keepv VD hb4; have R4 := keepq RD hb4))
          | (go_at_call 75; ((with_reducible refine Calls.mono (PY.out _) ?_); rintro e w5 ⟨rfl, hb5⟩; have V5 := keepv V4 hb5; have R5 := keepq R4 hb5; obtain ⟨v0, v1, v2, v3⟩ := id R5)))
      obtain ⟨y0, y1, _, _⟩ := storeq (a := X') (b := Y') R5
      go_wp2
      exact bodyPost_ret (v := .agg #[.int .i64 X', .int .i64 Y']) (by simp [results, Try.results51, go_sem, y0, y1]) rfl ⟨by rw [HF.out], (V5.2.2.2.setCell (by simp) _).setCell (by simp) _⟩
  · rw [km] at HR
    clear km
    have HR := Lib.hid HR
    have hm0 : (0 : Int) ≤ k := by omega
    go_enter Try.func51, Try.ntmps51
    go_wp2_with fail
    generalize (w.alloc (.cells #[.int .i64 x, .int .i64 y] 25)).alloc (.cells #[.int .i64 0, .int .i64 0] 25) = W1 at *
    have Q2 := keepq (storeq (a := X) (b := Y) Q1) (Below.refl _ _).drew
    have R2 := keepq (otherq (a := .int .i64 X) (b := .int .i64 Y) R1 (show w.heap.size + 1 ≠ w.heap.size by omega)) (Below.refl _ _).drew
    have B2 := ((B1.setCell (p := ⟨w.heap.size, 0, none⟩) (Nat.le_refl _) (.int .i64 X)).setCell (p := ⟨w.heap.size, 1, none⟩) (Nat.le_refl _) (.int .i64 Y)).drew
    obtain ⟨x0, x1, x2, x3⟩ := id Q1
    refine wp_region_still_tail 7 (by kernel_rfl) (by kernel_rfl) ?_
    simp only [List.take_succ_cons, List.take_zero, List.drop_succ_cons, List.drop_zero]
    repeat still_step
    still_call (N1.out _)
    repeat still_step
    still_call (N2.out _)
    repeat still_step
    refine wpStill_nil ?_
    change wpList _ _ _ _ _ W1.drew
    clear Q1 R1 B1
    go_wp2_with fail
    clear x0 x1 x2 x3
    refine Calls.mono (E.out _) ?_
    rintro e w2 ⟨rfl, hb2⟩
    have Q3 := keepq Q2 hb2
    have R3 := keepq R2 hb2
    have B3 := B2.trans (hb2.mono B2.size)
    clear Q2 R2 B2 hb2
    by_cases hle : L ≤ k
    · have HF : F = (X, Y) := by rw [HR.out]; exact if_pos hle
      have HF := Lib.hid HF
      obtain ⟨y0, y1, _, _⟩ := storeq (a := X) (b := Y) R3
      obtain ⟨x0, x1, x2, x3⟩ := id Q3
      obtain ⟨u0, u1, u2, u3⟩ := id R3
      clear PX PY HR
      go_wp2
      exact bodyPost_ret (v := .agg #[.int .i64 X, .int .i64 Y]) (by simp [results, Try.results51, go_sem, y0, y1]) rfl ⟨by rw [HF.out], (B3.setCell (by simp) _).setCell (by simp) _⟩
    · have HF : F = (partV X k L, partV Y k L) := by rw [HR.out]; exact if_neg hle
      have HF := Lib.hid HF
      have PX := Lib.hid (fun W => PX (k) W hm0 (by omega))
      have PY := Lib.hid (fun W => PY (k) W hm0 (by omega))
      generalize partV X k L = X' at *
      generalize partV Y k L = Y' at *
      have VD := keepv (g := w.heap.size) ⟨Q3.1, Q3.2.1, Q3.2.2.2, B3⟩ (Below.refl _ _).drew
      have RD := keepq R3 (Below.refl _ _).drew
      obtain ⟨x0, x1, x2, x3⟩ := id Q3
      obtain ⟨u0, u1, u2, u3⟩ := id R3
      clear HR
      go_wp2_with fail
      go_region_held3 (fun w' => w'.cell? ⟨w.heap.size, 0, none⟩ = some (.int .i64 X) ∧ w'.cell? ⟨w.heap.size, 1, none⟩ = some (.int .i64 Y) ∧ w.heap.size < w'.heap.size ∧ Below w.heap.size w w')
        (first | exact VD | assumption | exact keepvs V5 (by omega) (by omega) _ _)
        (first
          | (go_at_call 75; ((with_reducible refine Calls.mono (PX.out _) ?_); rintro e w4 ⟨rfl, hb4⟩; have V4 := keepv VD hb4; have R4 := keepq RD hb4))
          | (go_at_call 75; ((with_reducible refine Calls.mono (PY.out _) ?_); rintro e w5 ⟨rfl, hb5⟩; have V5 := keepv V4 hb5; have R5 := keepq R4 hb5; obtain ⟨v0, v1, v2, v3⟩ := id R5)))
      obtain ⟨y0, y1, _, _⟩ := storeq (a := X') (b := Y') R5
      go_wp2
      exact bodyPost_ret (v := .agg #[.int .i64 X', .int .i64 Y']) (by simp [results, Try.results51, go_sem, y0, y1]) rfl ⟨by rw [HF.out], (V5.2.2.2.setCell (by simp) _).setCell (by simp) _⟩
end Go.Proofs.Ytpkdkkbmmkhhhaa
