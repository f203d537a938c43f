/- What the laws of layer 6 share. -/
import Derived.Test.YtdcilabbjejklaaGroundAsk
namespace Go.Proofs.Ytdcilabbjejklaa
open Go.RowKit Go.WideShapes Go.ChangeShapes

theorem heavy6_no (W H : Int) (A A1 A2 : Option Addr) (n c n1 c1 n2 c2 : Nat) (w : World) (h0 : n ≤ 20000) (h1 : n1 ≤ 60) (h2 : n2 ≤ 60) :
    Calls Try.prog 22 #[.agg #[.int .i64 W, .int .i64 H, .slice A n c, .slice A1 n1 c1, .slice A2 n2 c2]] w fun e w' => e = .returned (.bool false) ∧ Below w.heap.size w w' := by
  have d0 : decide ((20000 : Int) < (n : Int)) = false := by simp; omega
  have d1 : decide ((60 : Int) < (n1 : Int)) = false := by simp; omega
  have d2 : decide ((60 : Int) < (n2 : Int)) = false := by simp; omega
  go_enter Try.func22, Try.ntmps22
  go_wp2
  go_ret
  exact ⟨rfl, (Below.refl _ _).alloc (Nat.le_refl _) _⟩
theorem heavy6_yes (W H : Int) (A A1 A2 : Option Addr) (n c n1 c1 n2 c2 : Nat) (w : World) (h : ¬ (n ≤ 20000 ∧ n1 ≤ 60 ∧ n2 ≤ 60)) :
    Calls Try.prog 22 #[.agg #[.int .i64 W, .int .i64 H, .slice A n c, .slice A1 n1 c1, .slice A2 n2 c2]] w fun e w' => e = .returned (.bool true) ∧ Below w.heap.size w w' := by
  by_cases h0 : n ≤ 20000
  · have d0 : decide ((20000 : Int) < (n : Int)) = false := by simp; omega
    by_cases h1 : n1 ≤ 60
    · have d1 : decide ((60 : Int) < (n1 : Int)) = false := by simp; omega
      have d2 : decide ((60 : Int) < (n2 : Int)) = true := by simp; omega
      clear h h0 h1
      go_enter Try.func22, Try.ntmps22
      go_wp2
      go_ret
      exact ⟨rfl, (Below.refl _ _).alloc (Nat.le_refl _) _⟩
    · have d1 : decide ((60 : Int) < (n1 : Int)) = true := by simp; omega
      clear h h0 h1
      go_enter Try.func22, Try.ntmps22
      go_wp2
      go_ret
      exact ⟨rfl, (Below.refl _ _).alloc (Nat.le_refl _) _⟩
  · have d0 : decide ((20000 : Int) < (n : Int)) = true := by simp; omega
    clear h h0
    go_enter Try.func22, Try.ntmps22
    go_wp2
    go_ret
    exact ⟨rfl, (Below.refl _ _).alloc (Nat.le_refl _) _⟩

theorem wake_near : nearL 3 2 0 = [-1, 1, 3, -1, -1, 4, -1, -1] := by decide +kernel
set_option maxHeartbeats 800000 in
theorem wakes6 (w : World) : Calls Try.prog 30 #[] w fun e w' => e = .returned (.bool true) ∧ Below w.heap.size w w' := by
  have hmk : ∀ w, (Instr.makeSlice 37 (.int .i64 6) (.int .i64 6)).run Try.prog w = .ok (.slice (some ⟨w.heap.size, 0, none⟩) 6 6) (w.alloc (.cells #[.int .u8 0, .int .u8 0, .int .u8 0, .int .u8 0, .int .u8 0, .int .u8 0] 5)) := fun _ => by kernel_rfl
  have N := fun (W : World) (h : Reads W W.heap.size 1 (some ⟨w.heap.size, 0, none⟩) 6 (nums .u8 [0, 0, 0, 0, 0, 0])) => near_yes (W := 3) (H := 2) (t := 0) (c := 6) W h (Nat.le_refl _) (fun x hx => by simp at hx; omega) (by decide +kernel) (by decide +kernel)
  rw [wake_near] at N
  have N := Lib.hid N
  have hr := reads_new w [.int .u8 0, .int .u8 0, .int .u8 0, .int .u8 0, .int .u8 0, .int .u8 0] 5 (0, 0) 6 rfl
  have hz : (w.alloc (.cells #[.int .u8 0, .int .u8 0, .int .u8 0, .int .u8 0, .int .u8 0, .int .u8 0] 5)).heap.size = w.heap.size + 1 := by simp
  go_enter Try.func30, Try.ntmps30
  go_wp2_with fail
  refine Calls.mono (N.out _ (hr.more (by rw [← hz]; exact Nat.le_refl _))) ?_
  rintro e w1 ⟨g, rfl, hg0, hg1, hc, hf, hb⟩
  have hr1 := reads_arr hg1 hc
  have HC := Lib.hid hc
  have HF := Lib.hid hf
  clear hc hf hr
  go_wp2_with (go_at_call 27; go_in)
  refine (eq_nums _ _ 8 _ 8 _ _ _ [-1, 1, 3, -1, -1, 4, -1, -1] [-1, 1, 3, -1, -1, 4, -1, -1] _ (hr1.alloc (Nat.le_refl _) _) (reads_new _ [.int .i64 (-1), .int .i64 1, .int .i64 3, .int .i64 (-1), .int .i64 (-1), .int .i64 4, .int .i64 (-1), .int .i64 (-1)] _ _ 8 rfl) (by omega) (by omega)).mono ?_
  rintro e w2 ⟨rfl, q, rfl⟩
  go_wp2
  go_ret
  exact ⟨rfl, below_drewN ((((Below.refl _ _).alloc (Nat.le_refl _) _).trans (hb.mono (by simp))).alloc (Nat.le_trans (by simp) hb.size) _) _⟩

theorem keep6 {w wa wb : World} {g b o k n c n1 c1 : Nat} {W H t : Int} {A A1 : Option Addr} (h : wa.cell? ⟨g, 0, none⟩ = some (.int .i64 W) ∧ wa.cell? ⟨g, 1, none⟩ = some (.int .i64 H) ∧ wa.cell? ⟨g, 2, none⟩ = some (.slice A n c) ∧ wa.cell? ⟨g, 3, none⟩ = some (.slice A1 n1 c1) ∧ wa.cell? ⟨b, o + k, none⟩ = some (.int .i64 t) ∧ g < wa.heap.size ∧ b < wa.heap.size ∧ Below w.heap.size w wa) (hb : Below wa.heap.size wa wb) : wb.cell? ⟨g, 0, none⟩ = some (.int .i64 W) ∧ wb.cell? ⟨g, 1, none⟩ = some (.int .i64 H) ∧ wb.cell? ⟨g, 2, none⟩ = some (.slice A n c) ∧ wb.cell? ⟨g, 3, none⟩ = some (.slice A1 n1 c1) ∧ wb.cell? ⟨b, o + k, none⟩ = some (.int .i64 t) ∧ g < wb.heap.size ∧ b < wb.heap.size ∧ Below w.heap.size w wb := by
  obtain ⟨h0, h1, h2, h3, h4, hg, hq, hw⟩ := h
  exact ⟨(hb.cell (p := ⟨g, 0, none⟩) hg).trans h0, (hb.cell (p := ⟨g, 1, none⟩) hg).trans h1, (hb.cell (p := ⟨g, 2, none⟩) hg).trans h2, (hb.cell (p := ⟨g, 3, none⟩) hg).trans h3, (hb.cell (p := ⟨b, o + k, none⟩) hq).trans h4, Nat.lt_of_lt_of_le hg hb.size, Nat.lt_of_lt_of_le hq hb.size, hw.trans (hb.mono hw.size)⟩

theorem keep6b {w wa wb : World} {g b o k n c n1 c1 B : Nat} {W H t : Int} {A A1 : Option Addr} (h : wa.cell? ⟨g, 0, none⟩ = some (.int .i64 W) ∧ wa.cell? ⟨g, 1, none⟩ = some (.int .i64 H) ∧ wa.cell? ⟨g, 2, none⟩ = some (.slice A n c) ∧ wa.cell? ⟨g, 3, none⟩ = some (.slice A1 n1 c1) ∧ wa.cell? ⟨b, o + k, none⟩ = some (.int .i64 t) ∧ g < wa.heap.size ∧ b < wa.heap.size ∧ Below w.heap.size w wa) (hb : Below B wa wb) (hg : g < B) (hq : b < B) (hB : w.heap.size ≤ B) : wb.cell? ⟨g, 0, none⟩ = some (.int .i64 W) ∧ wb.cell? ⟨g, 1, none⟩ = some (.int .i64 H) ∧ wb.cell? ⟨g, 2, none⟩ = some (.slice A n c) ∧ wb.cell? ⟨g, 3, none⟩ = some (.slice A1 n1 c1) ∧ wb.cell? ⟨b, o + k, none⟩ = some (.int .i64 t) ∧ g < wb.heap.size ∧ b < wb.heap.size ∧ Below w.heap.size w wb := by
  obtain ⟨h0, h1, h2, h3, h4, hg', hq', hw⟩ := h
  exact ⟨(hb.cell (p := ⟨g, 0, none⟩) hg).trans h0, (hb.cell (p := ⟨g, 1, none⟩) hg).trans h1, (hb.cell (p := ⟨g, 2, none⟩) hg).trans h2, (hb.cell (p := ⟨g, 3, none⟩) hg).trans h3, (hb.cell (p := ⟨b, o + k, none⟩) hq).trans h4, Nat.lt_of_lt_of_le hg' hb.size, Nat.lt_of_lt_of_le hq' hb.size, hw.trans (hb.mono hB)⟩

end Go.Proofs.Ytdcilabbjejklaa
