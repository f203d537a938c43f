/- A command copied. -/
import Derived.Test.YtneigplmgellcaaCmdEq
namespace Go.Proofs.Ytneigplmgellcaa
set_option maxRecDepth 20000
open Go.RowKit

set_option maxHeartbeats 3200000 in
set_option maxRecDepth 20000 in
theorem copy_cmd (a : Cmd) (A : Option Addr) (m c B : Nat) (w : World) (hr : Reads w B 1 A m (nums .i64 a.us)) (hB : B ≤ w.heap.size) (hm : m ≤ 1000000) :
    Calls Try.prog 14 #[cmdV a A m c] w fun e w' => ∃ A' c', e = .returned (cmdV a A' m c') ∧ w'.ownsRow w.heap.size 3 1 (.slice A' m c') m (nums .i64 a.us) ∧ Below w.heap.size w w' := by
  obtain ⟨pl, sq, kd, nn, us, ti, wd, ht, ax, ay⟩ := a
  simp only [cmdV]
  simp only at hr
  have hb0 : Below w.heap.size w (((w.alloc (.cells (cmdCs pl sq kd nn A m c ti wd ht ax ay) 28)).alloc (.cells (cmdCs 0 0 0 0 none 0 0 0 0 0 0 0) 28)).alloc (.cells (cmdCs pl sq kd nn A m c ti wd ht ax ay) 28)) := ((((Below.refl _ _).alloc (Nat.le_refl _) _).alloc (by simp) _).alloc (by simp; omega) _)
  have hR0 : Blk (((w.alloc (.cells (cmdCs pl sq kd nn A m c ti wd ht ax ay) 28)).alloc (.cells (cmdCs 0 0 0 0 none 0 0 0 0 0 0 0) 28)).alloc (.cells (cmdCs pl sq kd nn A m c ti wd ht ax ay) 28)) (w.heap.size + 1) (cmdCs 0 0 0 0 none 0 0 0 0 0 0 0) 28 := by
    have := (Blk.new (w.alloc (.cells (cmdCs pl sq kd nn A m c ti wd ht ax ay) 28)) (cmdCs 0 0 0 0 none 0 0 0 0 0 0 0) 28).alloc (.cells (cmdCs pl sq kd nn A m c ti wd ht ax ay) 28)
    simpa using this
  have hX0 : Blk (((w.alloc (.cells (cmdCs pl sq kd nn A m c ti wd ht ax ay) 28)).alloc (.cells (cmdCs 0 0 0 0 none 0 0 0 0 0 0 0) 28)).alloc (.cells (cmdCs pl sq kd nn A m c ti wd ht ax ay) 28)) (w.heap.size + 2) (cmdCs pl sq kd nn A m c ti wd ht ax ay) 28 := by
    have := Blk.new ((w.alloc (.cells (cmdCs pl sq kd nn A m c ti wd ht ax ay) 28)).alloc (.cells (cmdCs 0 0 0 0 none 0 0 0 0 0 0 0) 28)) (cmdCs pl sq kd nn A m c ti wd ht ax ay) 28
    simpa using this
  have hs0 : (((w.alloc (.cells (cmdCs pl sq kd nn A m c ti wd ht ax ay) 28)).alloc (.cells (cmdCs 0 0 0 0 none 0 0 0 0 0 0 0) 28)).alloc (.cells (cmdCs pl sq kd nn A m c ti wd ht ax ay) 28)).heap.size = w.heap.size + 3 := by simp
  have hr0 := (hr.more hB).below hb0
  go_enter Try.func14, Try.ntmps14
  go_wp2_with fail
  generalize ((w.alloc (.cells (cmdCs pl sq kd nn A m c ti wd ht ax ay) 28)).alloc (.cells (cmdCs 0 0 0 0 none 0 0 0 0 0 0 0) 28)).alloc (.cells (cmdCs pl sq kd nn A m c ti wd ht ax ay) 28) = W0 at *
  generalize hCC : w.heap.size = C at *
  refine Calls.mono (copy_nums A m c C us W0 hr0 (by omega) (by omega)) ?_
  rintro e w1 ⟨A2, c2, rfl, hown, hb1⟩
  rw [hs0] at hown
  replace hR0 := hR0.below hb1 (by omega)
  replace hX0 := hX0.below hb1 (by omega)
  have hb := hb0.trans (hb1.mono (by omega))
  have r0 := hR0.cell (i := 0) rfl
  have rf0 := hR0.free 0
  have x0 := hX0.cell (i := 0) rfl
  have r1 := hR0.cell (i := 1) rfl
  have rf1 := hR0.free 1
  have x1 := hX0.cell (i := 1) rfl
  have r2 := hR0.cell (i := 2) rfl
  have rf2 := hR0.free 2
  have x2 := hX0.cell (i := 2) rfl
  have r3 := hR0.cell (i := 3) rfl
  have rf3 := hR0.free 3
  have x3 := hX0.cell (i := 3) rfl
  have r4 := hR0.cell (i := 4) rfl
  have rf4 := hR0.free 4
  have x4 := hX0.cell (i := 4) rfl
  have r5 := hR0.cell (i := 5) rfl
  have rf5 := hR0.free 5
  have x5 := hX0.cell (i := 5) rfl
  have r6 := hR0.cell (i := 6) rfl
  have rf6 := hR0.free 6
  have x6 := hX0.cell (i := 6) rfl
  have r7 := hR0.cell (i := 7) rfl
  have rf7 := hR0.free 7
  have x7 := hX0.cell (i := 7) rfl
  have r8 := hR0.cell (i := 8) rfl
  have rf8 := hR0.free 8
  have x8 := hX0.cell (i := 8) rfl
  have r9 := hR0.cell (i := 9) rfl
  have rf9 := hR0.free 9
  have x9 := hX0.cell (i := 9) rfl
  have xf4 := hX0.free 4
  have HR := Lib.hid hR0
  have HX := Lib.hid hX0
  have HB := Lib.hid hb
  clear hR0 hX0 hb hb0 hb1 hr0
  go_wp2_with fail
  have hR2 := HR.out.other (a := ⟨C + 2, 4, none⟩) (by show C + 1 ≠ C + 2; omega) (.slice A2 m c2)
  have hown2 := own_low hown (a := ⟨C + 2, 4, none⟩) (by show C + 2 < C + 3; omega) (.slice A2 m c2)
  have hb2 := HB.out.setCell (p := ⟨C + 2, 4, none⟩) (by show C ≤ C + 2; omega) (.slice A2 m c2)
  clear HR HX HB hown r0 rf0 x0 r1 rf1 x1 r2 rf2 x2 r3 rf3 x3 r4 rf4 x4 r5 rf5 x5 r6 rf6 x6 r7 rf7 x7 r8 rf8 x8 r9 rf9 x9 xf4
  generalize w1.setCell ⟨C + 2, 4, none⟩ (.slice A2 m c2) = w2 at *
  have hR3 : Blk (put10 w2 (C + 1) (.int .i64 pl) (.int .i64 sq) (.int .i64 kd) (.int .i64 nn) (.slice A2 m c2) (.int .i64 ti) (.int .i64 wd) (.int .i64 ht) (.int .i64 ax) (.int .i64 ay)) (C + 1) #[.int .i64 pl, .int .i64 sq, .int .i64 kd, .int .i64 nn, .slice A2 m c2, .int .i64 ti, .int .i64 wd, .int .i64 ht, .int .i64 ax, .int .i64 ay] 28 := put10_blk _ _ _ _ _ _ _ _ _ _ hR2
  have hown3 := own_blocks (w' := put10 w2 (C + 1) (.int .i64 pl) (.int .i64 sq) (.int .i64 kd) (.int .i64 nn) (.slice A2 m c2) (.int .i64 ti) (.int .i64 wd) (.int .i64 ht) (.int .i64 ax) (.int .i64 ay)) hown2 (fun k hk => put10_other (.int .i64 pl) (.int .i64 sq) (.int .i64 kd) (.int .i64 nn) (.slice A2 m c2) (.int .i64 ti) (.int .i64 wd) (.int .i64 ht) (.int .i64 ax) (.int .i64 ay) (show k ≠ C + 1 by omega))
  have hb3 := hb2.trans (put10_below (.int .i64 pl) (.int .i64 sq) (.int .i64 kd) (.int .i64 nn) (.slice A2 m c2) (.int .i64 ti) (.int .i64 wd) (.int .i64 ht) (.int .i64 ax) (.int .i64 ay) (Nat.le_succ C))
  simp only [put10] at hR3 hown3 hb3
  clear hR2 hown2 hb2
  generalize ((((((((((w2).setCell ⟨C + 1, 0, none⟩ (.int .i64 pl)).setCell ⟨C + 1, 1, none⟩ (.int .i64 sq)).setCell ⟨C + 1, 2, none⟩ (.int .i64 kd)).setCell ⟨C + 1, 3, none⟩ (.int .i64 nn)).setCell ⟨C + 1, 4, none⟩ (.slice A2 m c2)).setCell ⟨C + 1, 5, none⟩ (.int .i64 ti)).setCell ⟨C + 1, 6, none⟩ (.int .i64 wd)).setCell ⟨C + 1, 7, none⟩ (.int .i64 ht)).setCell ⟨C + 1, 8, none⟩ (.int .i64 ax)).setCell ⟨C + 1, 9, none⟩ (.int .i64 ay) = w3 at *
  have q0 : w3.cell? ⟨C + 1, 0, none⟩ = some (.int .i64 pl) := hR3.cell rfl
  have q1 : w3.cell? ⟨C + 1, 1, none⟩ = some (.int .i64 sq) := hR3.cell rfl
  have q2 : w3.cell? ⟨C + 1, 2, none⟩ = some (.int .i64 kd) := hR3.cell rfl
  have q3 : w3.cell? ⟨C + 1, 3, none⟩ = some (.int .i64 nn) := hR3.cell rfl
  have q4 : w3.cell? ⟨C + 1, 4, none⟩ = some (.slice A2 m c2) := hR3.cell rfl
  have q5 : w3.cell? ⟨C + 1, 5, none⟩ = some (.int .i64 ti) := hR3.cell rfl
  have q6 : w3.cell? ⟨C + 1, 6, none⟩ = some (.int .i64 wd) := hR3.cell rfl
  have q7 : w3.cell? ⟨C + 1, 7, none⟩ = some (.int .i64 ht) := hR3.cell rfl
  have q8 : w3.cell? ⟨C + 1, 8, none⟩ = some (.int .i64 ax) := hR3.cell rfl
  have q9 : w3.cell? ⟨C + 1, 9, none⟩ = some (.int .i64 ay) := hR3.cell rfl
  refine bodyPost_ret (v := cmdV ⟨pl, sq, kd, nn, us, ti, wd, ht, ax, ay⟩ A2 m c2) (by simp [results, Try.results14, go_sem, cmdV, q0, q1, q2, q3, q4, q5, q6, q7, q8, q9]) rfl ?_
  exact ⟨A2, c2, rfl, own_mono hown3 (by omega), by rw [hCC]; exact hb3⟩
end Go.Proofs.Ytneigplmgellcaa
