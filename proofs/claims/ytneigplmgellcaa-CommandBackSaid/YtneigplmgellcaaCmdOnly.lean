/- A command that has just what its kind names. -/
import Derived.Test.YtneigplmgellcaaCmdCopy
namespace Go.Proofs.Ytneigplmgellcaa
set_option maxRecDepth 20000
open Go.RowKit

def onlyC (c : Cmd) : Cmd :=
  if c.kd = 1 then ⟨c.pl, c.sq, 1, c.nn, [], 0, 0, 0, c.ax, c.ay⟩
  else if c.kd = 2 then ⟨c.pl, c.sq, 2, 0, c.us, c.ti, 0, 0, 0, 0⟩
  else if c.kd = 3 then ⟨c.pl, c.sq, 3, 0, c.us, 0, 0, 0, 0, 0⟩
  else if c.kd = 4 then ⟨c.pl, c.sq, 4, 0, [], c.ti, c.wd, c.ht, 0, 0⟩
  else if c.kd = 5 then ⟨c.pl, c.sq, 5, c.nn, [], 0, 0, 0, 0, 0⟩
  else if c.kd = 6 then ⟨c.pl, c.sq, 6, c.nn, c.us, 0, 0, 0, 0, 0⟩
  else if c.kd = 7 then ⟨c.pl, c.sq, 7, c.nn, [], c.ti, 0, 0, 0, 0⟩
  else ⟨c.pl, c.sq, c.kd, 0, [], 0, 0, 0, 0, 0⟩
def okC (c : Cmd) : Bool :=
  if c.kd = 1 then inB c.nn 0 3 && placeB c.ax c.ay
  else if c.kd = 2 then okUs c.us && inB c.ti 0 16383
  else if c.kd = 3 then okUs c.us
  else if c.kd = 4 then inB c.ti 0 16383 && inB c.wd 1 4 && inB c.ht 1 4
  else if c.kd = 5 then inB c.nn 1 1099511627776
  else if c.kd = 6 then okUs c.us && inB c.nn 1 1099511627776
  else if c.kd = 7 then inB c.nn 1 1099511627776 && inB c.ti 0 16383
  else false

theorem onlyC_no {c : Cmd} (h : ¬ (c.kd = 1 ∨ c.kd = 2 ∨ c.kd = 3 ∨ c.kd = 4 ∨ c.kd = 5 ∨ c.kd = 6 ∨ c.kd = 7)) : onlyC c = ⟨c.pl, c.sq, c.kd, 0, [], 0, 0, 0, 0, 0⟩ := by
  unfold onlyC
  repeat' split
  all_goals first | rfl | omega
theorem okC_no {c : Cmd} (h : ¬ (c.kd = 1 ∨ c.kd = 2 ∨ c.kd = 3 ∨ c.kd = 4 ∨ c.kd = 5 ∨ c.kd = 6 ∨ c.kd = 7)) : okC c = false := by
  unfold okC
  repeat' split
  all_goals first | rfl | omega
def GivesOnly (w : World) (c : Cmd) (e : Ending) (w' : World) : Prop :=
  ∃ (A : Option Addr) (m cc : Nat), e = .returned (.tuple #[cmdV (onlyC c) A m cc, .bool (okC c)]) ∧ m = (onlyC c).us.length ∧ Below w.heap.size w w'

set_option maxHeartbeats 3200000 in
set_option maxRecDepth 20000 in
theorem only_1 (pl sq nn : Int) (us : List Int) (ti wd ht ax ay : Int) (A : Option Addr) (m c B : Nat) (w : World) (hr : Reads w B 1 A m (nums .i64 us)) (hB : B ≤ w.heap.size) (_hm : m ≤ 1000000) :
    Calls Try.prog 44 #[.agg #[.int .i64 pl, .int .i64 sq, .int .i64 1, .int .i64 nn, .slice A m c, .int .i64 ti, .int .i64 wd, .int .i64 ht, .int .i64 ax, .int .i64 ay]] w (GivesOnly w ⟨pl, sq, 1, nn, us, ti, wd, ht, ax, ay⟩) := by
  have hll : us.length = m := by have := hr.1; simpa [nums] using this
  have hO : onlyC ⟨pl, sq, 1, nn, us, ti, wd, ht, ax, ay⟩ = ⟨pl, sq, 1, nn, [], 0, 0, 0, ax, ay⟩ := by simp [onlyC]
  have hK : okC ⟨pl, sq, 1, nn, us, ti, wd, ht, ax, ay⟩ = (inB nn 0 3 && placeB ax ay) := by simp [okC]
  replace hr := hr.more hB
  have hb : Below w.heap.size w ((w.alloc (.cells (cmdCs pl sq 1 nn A m c ti wd ht ax ay) 28)).alloc (.cells (cmdCs pl sq 1 nn none 0 0 0 0 0 ax ay) 28)).drew := (((Below.refl _ _).alloc (Nat.le_refl _) _).alloc (by simp) _).drew
  have hX : Blk ((w.alloc (.cells (cmdCs pl sq 1 nn A m c ti wd ht ax ay) 28)).alloc (.cells (cmdCs pl sq 1 nn none 0 0 0 0 0 ax ay) 28)).drew w.heap.size (cmdCs pl sq 1 nn A m c ti wd ht ax ay) 28 := ((Blk.new w _ _).alloc _)
  have hY : Blk ((w.alloc (.cells (cmdCs pl sq 1 nn A m c ti wd ht ax ay) 28)).alloc (.cells (cmdCs pl sq 1 nn none 0 0 0 0 0 ax ay) 28)) (w.heap.size + 1) (cmdCs pl sq 1 nn none 0 0 0 0 0 ax ay) 28 := by
    have := Blk.new (w.alloc (.cells (cmdCs pl sq 1 nn A m c ti wd ht ax ay) 28)) (cmdCs pl sq 1 nn none 0 0 0 0 0 ax ay) 28
    simpa using this
  replace hY := hY.drew
  have HO := Lib.hid hO
  have HK := Lib.hid hK
  have HLL := Lib.hid hll
  clear hO hK hll
  go_enter Try.func44, Try.ntmps44
  go_wp2_with fail
  go_region
  go_wp2_with fail
  generalize hCC : w.heap.size = C at *
  generalize ((w.alloc (.cells (cmdCs pl sq 1 nn A m c ti wd ht ax ay) 28)).alloc (.cells (cmdCs pl sq 1 nn none 0 0 0 0 0 ax ay) 28)).drew = W1 at *
  refine Calls.mono (kind_is nn _) ?_
  rintro e W2 ⟨rfl, rfl⟩
  generalize hq0 : inB nn 0 3 = q0 at *
  have Hq0 := Lib.hid hq0
  clear hq0
  cases q0 with
  | false =>
    have y0 := hY.cell (i := 0) rfl
    have f0 := hY.free 0
    have x0 := hX.cell (i := 0) rfl
    have y1 := hY.cell (i := 1) rfl
    have f1 := hY.free 1
    have x1 := hX.cell (i := 1) rfl
    have y2 := hY.cell (i := 2) rfl
    have f2 := hY.free 2
    have x2 := hX.cell (i := 2) rfl
    have y3 := hY.cell (i := 3) rfl
    have f3 := hY.free 3
    have x3 := hX.cell (i := 3) rfl
    have y4 := hY.cell (i := 4) rfl
    have f4 := hY.free 4
    have x4 := hX.cell (i := 4) rfl
    have y5 := hY.cell (i := 5) rfl
    have f5 := hY.free 5
    have x5 := hX.cell (i := 5) rfl
    have y6 := hY.cell (i := 6) rfl
    have f6 := hY.free 6
    have x6 := hX.cell (i := 6) rfl
    have y7 := hY.cell (i := 7) rfl
    have f7 := hY.free 7
    have x7 := hX.cell (i := 7) rfl
    have y8 := hY.cell (i := 8) rfl
    have f8 := hY.free 8
    have x8 := hX.cell (i := 8) rfl
    have y9 := hY.cell (i := 9) rfl
    have f9 := hY.free 9
    have x9 := hX.cell (i := 9) rfl
    have HY := Lib.hid hY
    have HB := Lib.hid hb
    clear hY hX hb
    go_wp2_with fail
    rw [setCells_back HY.out]
    have z0 : W1.cell? ⟨C + 1, 0, none⟩ = some (.int .i64 pl) := HY.out.cell rfl
    have z1 : W1.cell? ⟨C + 1, 1, none⟩ = some (.int .i64 sq) := HY.out.cell rfl
    have z2 : W1.cell? ⟨C + 1, 2, none⟩ = some (.int .i64 1) := HY.out.cell rfl
    have z3 : W1.cell? ⟨C + 1, 3, none⟩ = some (.int .i64 nn) := HY.out.cell rfl
    have z4 : W1.cell? ⟨C + 1, 4, none⟩ = some (.slice none 0 0) := HY.out.cell rfl
    have z5 : W1.cell? ⟨C + 1, 5, none⟩ = some (.int .i64 0) := HY.out.cell rfl
    have z6 : W1.cell? ⟨C + 1, 6, none⟩ = some (.int .i64 0) := HY.out.cell rfl
    have z7 : W1.cell? ⟨C + 1, 7, none⟩ = some (.int .i64 0) := HY.out.cell rfl
    have z8 : W1.cell? ⟨C + 1, 8, none⟩ = some (.int .i64 ax) := HY.out.cell rfl
    have z9 : W1.cell? ⟨C + 1, 9, none⟩ = some (.int .i64 ay) := HY.out.cell rfl
    refine bodyPost_ret (v := .tuple #[cmdV ⟨pl, sq, 1, nn, [], 0, 0, 0, ax, ay⟩ none 0 0, .bool false]) (by simp [results, Try.results44, go_sem, cmdV, z0, z1, z2, z3, z4, z5, z6, z7, z8, z9]) rfl ?_
    refine ⟨none, 0, 0, ?_, by rw [HO.out]; rfl, by rw [hCC]; exact HB.out⟩
    rw [HO.out, HK.out]
    all_goals first | rfl | simp
  | true =>
    have x0 := hX.cell (i := 0) rfl
    have x1 := hX.cell (i := 1) rfl
    have x2 := hX.cell (i := 2) rfl
    have x3 := hX.cell (i := 3) rfl
    have x4 := hX.cell (i := 4) rfl
    have x5 := hX.cell (i := 5) rfl
    have x6 := hX.cell (i := 6) rfl
    have x7 := hX.cell (i := 7) rfl
    have x8 := hX.cell (i := 8) rfl
    have x9 := hX.cell (i := 9) rfl
    go_wp2_with fail
    clear x0 x1 x2 x3 x4 x5 x6 x7 x8 x9
    refine Calls.mono (place_is ax ay _) ?_
    rintro e W2 ⟨rfl, hb2⟩
    generalize hq1 : placeB ax ay = q1 at *
    have Hq1 := Lib.hid hq1
    clear hq1
    have hY2 := hY.below hb2 (by have := hY.lt; omega)
    have hX2 := hX.below hb2 (by have := hX.lt; omega)
    replace hb := hb.trans (hb2.mono (by have := hX.lt; omega))
    clear hY hX hb2
    have hY := hY2
    have hX := hX2
    clear hY2 hX2
    have y0 := hY.cell (i := 0) rfl
    have f0 := hY.free 0
    have x0 := hX.cell (i := 0) rfl
    have y1 := hY.cell (i := 1) rfl
    have f1 := hY.free 1
    have x1 := hX.cell (i := 1) rfl
    have y2 := hY.cell (i := 2) rfl
    have f2 := hY.free 2
    have x2 := hX.cell (i := 2) rfl
    have y3 := hY.cell (i := 3) rfl
    have f3 := hY.free 3
    have x3 := hX.cell (i := 3) rfl
    have y4 := hY.cell (i := 4) rfl
    have f4 := hY.free 4
    have x4 := hX.cell (i := 4) rfl
    have y5 := hY.cell (i := 5) rfl
    have f5 := hY.free 5
    have x5 := hX.cell (i := 5) rfl
    have y6 := hY.cell (i := 6) rfl
    have f6 := hY.free 6
    have x6 := hX.cell (i := 6) rfl
    have y7 := hY.cell (i := 7) rfl
    have f7 := hY.free 7
    have x7 := hX.cell (i := 7) rfl
    have y8 := hY.cell (i := 8) rfl
    have f8 := hY.free 8
    have x8 := hX.cell (i := 8) rfl
    have y9 := hY.cell (i := 9) rfl
    have f9 := hY.free 9
    have x9 := hX.cell (i := 9) rfl
    have HY := Lib.hid hY
    have HB := Lib.hid hb
    clear hY hX hb
    go_wp2_with fail
    rw [setCells_back HY.out]
    have z0 : W2.cell? ⟨C + 1, 0, none⟩ = some (.int .i64 pl) := HY.out.cell rfl
    have z1 : W2.cell? ⟨C + 1, 1, none⟩ = some (.int .i64 sq) := HY.out.cell rfl
    have z2 : W2.cell? ⟨C + 1, 2, none⟩ = some (.int .i64 1) := HY.out.cell rfl
    have z3 : W2.cell? ⟨C + 1, 3, none⟩ = some (.int .i64 nn) := HY.out.cell rfl
    have z4 : W2.cell? ⟨C + 1, 4, none⟩ = some (.slice none 0 0) := HY.out.cell rfl
    have z5 : W2.cell? ⟨C + 1, 5, none⟩ = some (.int .i64 0) := HY.out.cell rfl
    have z6 : W2.cell? ⟨C + 1, 6, none⟩ = some (.int .i64 0) := HY.out.cell rfl
    have z7 : W2.cell? ⟨C + 1, 7, none⟩ = some (.int .i64 0) := HY.out.cell rfl
    have z8 : W2.cell? ⟨C + 1, 8, none⟩ = some (.int .i64 ax) := HY.out.cell rfl
    have z9 : W2.cell? ⟨C + 1, 9, none⟩ = some (.int .i64 ay) := HY.out.cell rfl
    refine bodyPost_ret (v := .tuple #[cmdV ⟨pl, sq, 1, nn, [], 0, 0, 0, ax, ay⟩ none 0 0, .bool q1]) (by simp [results, Try.results44, go_sem, cmdV, z0, z1, z2, z3, z4, z5, z6, z7, z8, z9]) rfl ?_
    refine ⟨none, 0, 0, ?_, by rw [HO.out]; rfl, by rw [hCC]; exact HB.out⟩
    rw [HO.out, HK.out]
    all_goals first | rfl | simp
set_option maxHeartbeats 3200000 in
set_option maxRecDepth 20000 in
theorem only_2 (pl sq nn : Int) (us : List Int) (ti wd ht ax ay : Int) (A : Option Addr) (m c B : Nat) (w : World) (hr : Reads w B 1 A m (nums .i64 us)) (hB : B ≤ w.heap.size) (hm : m ≤ 1000000) :
    Calls Try.prog 44 #[.agg #[.int .i64 pl, .int .i64 sq, .int .i64 2, .int .i64 nn, .slice A m c, .int .i64 ti, .int .i64 wd, .int .i64 ht, .int .i64 ax, .int .i64 ay]] w (GivesOnly w ⟨pl, sq, 2, nn, us, ti, wd, ht, ax, ay⟩) := by
  have hll : us.length = m := by have := hr.1; simpa [nums] using this
  have hO : onlyC ⟨pl, sq, 2, nn, us, ti, wd, ht, ax, ay⟩ = ⟨pl, sq, 2, 0, us, ti, 0, 0, 0, 0⟩ := by simp [onlyC]
  have hK : okC ⟨pl, sq, 2, nn, us, ti, wd, ht, ax, ay⟩ = (okUs us && inB ti 0 16383) := by simp [okC]
  replace hr := hr.more hB
  have hb : Below w.heap.size w ((w.alloc (.cells (cmdCs pl sq 2 nn A m c ti wd ht ax ay) 28)).alloc (.cells (cmdCs pl sq 2 0 A m c ti 0 0 0 0) 28)).drew := (((Below.refl _ _).alloc (Nat.le_refl _) _).alloc (by simp) _).drew
  have hX : Blk ((w.alloc (.cells (cmdCs pl sq 2 nn A m c ti wd ht ax ay) 28)).alloc (.cells (cmdCs pl sq 2 0 A m c ti 0 0 0 0) 28)).drew w.heap.size (cmdCs pl sq 2 nn A m c ti wd ht ax ay) 28 := ((Blk.new w _ _).alloc _)
  have hY : Blk ((w.alloc (.cells (cmdCs pl sq 2 nn A m c ti wd ht ax ay) 28)).alloc (.cells (cmdCs pl sq 2 0 A m c ti 0 0 0 0) 28)) (w.heap.size + 1) (cmdCs pl sq 2 0 A m c ti 0 0 0 0) 28 := by
    have := Blk.new (w.alloc (.cells (cmdCs pl sq 2 nn A m c ti wd ht ax ay) 28)) (cmdCs pl sq 2 0 A m c ti 0 0 0 0) 28
    simpa using this
  replace hY := hY.drew
  have HO := Lib.hid hO
  have HK := Lib.hid hK
  have HLL := Lib.hid hll
  clear hO hK hll
  go_enter Try.func44, Try.ntmps44
  go_wp2_with fail
  go_region
  go_wp2_with fail
  generalize hCC : w.heap.size = C at *
  generalize ((w.alloc (.cells (cmdCs pl sq 2 nn A m c ti wd ht ax ay) 28)).alloc (.cells (cmdCs pl sq 2 0 A m c ti 0 0 0 0) 28)).drew = W1 at *
  refine Calls.mono (units_is A m c C us _ (hr.below hb) hm) ?_
  rintro e W2 ⟨rfl, rfl⟩
  generalize hq0 : okUs us = q0 at *
  have Hq0 := Lib.hid hq0
  clear hq0
  cases q0 with
  | false =>
    have y0 := hY.cell (i := 0) rfl
    have f0 := hY.free 0
    have x0 := hX.cell (i := 0) rfl
    have y1 := hY.cell (i := 1) rfl
    have f1 := hY.free 1
    have x1 := hX.cell (i := 1) rfl
    have y2 := hY.cell (i := 2) rfl
    have f2 := hY.free 2
    have x2 := hX.cell (i := 2) rfl
    have y3 := hY.cell (i := 3) rfl
    have f3 := hY.free 3
    have x3 := hX.cell (i := 3) rfl
    have y4 := hY.cell (i := 4) rfl
    have f4 := hY.free 4
    have x4 := hX.cell (i := 4) rfl
    have y5 := hY.cell (i := 5) rfl
    have f5 := hY.free 5
    have x5 := hX.cell (i := 5) rfl
    have y6 := hY.cell (i := 6) rfl
    have f6 := hY.free 6
    have x6 := hX.cell (i := 6) rfl
    have y7 := hY.cell (i := 7) rfl
    have f7 := hY.free 7
    have x7 := hX.cell (i := 7) rfl
    have y8 := hY.cell (i := 8) rfl
    have f8 := hY.free 8
    have x8 := hX.cell (i := 8) rfl
    have y9 := hY.cell (i := 9) rfl
    have f9 := hY.free 9
    have x9 := hX.cell (i := 9) rfl
    have HY := Lib.hid hY
    have HB := Lib.hid hb
    clear hY hX hb
    go_wp2_with fail
    rw [setCells_back HY.out]
    have z0 : W1.cell? ⟨C + 1, 0, none⟩ = some (.int .i64 pl) := HY.out.cell rfl
    have z1 : W1.cell? ⟨C + 1, 1, none⟩ = some (.int .i64 sq) := HY.out.cell rfl
    have z2 : W1.cell? ⟨C + 1, 2, none⟩ = some (.int .i64 2) := HY.out.cell rfl
    have z3 : W1.cell? ⟨C + 1, 3, none⟩ = some (.int .i64 0) := HY.out.cell rfl
    have z4 : W1.cell? ⟨C + 1, 4, none⟩ = some (.slice A m c) := HY.out.cell rfl
    have z5 : W1.cell? ⟨C + 1, 5, none⟩ = some (.int .i64 ti) := HY.out.cell rfl
    have z6 : W1.cell? ⟨C + 1, 6, none⟩ = some (.int .i64 0) := HY.out.cell rfl
    have z7 : W1.cell? ⟨C + 1, 7, none⟩ = some (.int .i64 0) := HY.out.cell rfl
    have z8 : W1.cell? ⟨C + 1, 8, none⟩ = some (.int .i64 0) := HY.out.cell rfl
    have z9 : W1.cell? ⟨C + 1, 9, none⟩ = some (.int .i64 0) := HY.out.cell rfl
    refine bodyPost_ret (v := .tuple #[cmdV ⟨pl, sq, 2, 0, us, ti, 0, 0, 0, 0⟩ A m c, .bool false]) (by simp [results, Try.results44, go_sem, cmdV, z0, z1, z2, z3, z4, z5, z6, z7, z8, z9]) rfl ?_
    refine ⟨A, m, c, ?_, by rw [HO.out]; exact HLL.out.symm, by rw [hCC]; exact HB.out⟩
    rw [HO.out, HK.out]
    all_goals first | rfl | simp
  | true =>
    have x0 := hX.cell (i := 0) rfl
    have x1 := hX.cell (i := 1) rfl
    have x2 := hX.cell (i := 2) rfl
    have x3 := hX.cell (i := 3) rfl
    have x4 := hX.cell (i := 4) rfl
    have x5 := hX.cell (i := 5) rfl
    have x6 := hX.cell (i := 6) rfl
    have x7 := hX.cell (i := 7) rfl
    have x8 := hX.cell (i := 8) rfl
    have x9 := hX.cell (i := 9) rfl
    go_wp2_with fail
    clear x0 x1 x2 x3 x4 x5 x6 x7 x8 x9
    refine Calls.mono (within_is ti 0 16383 _) ?_
    rintro e W2 ⟨rfl, rfl⟩
    generalize hq1 : inB ti 0 16383 = q1 at *
    have Hq1 := Lib.hid hq1
    clear hq1
    have y0 := hY.cell (i := 0) rfl
    have f0 := hY.free 0
    have x0 := hX.cell (i := 0) rfl
    have y1 := hY.cell (i := 1) rfl
    have f1 := hY.free 1
    have x1 := hX.cell (i := 1) rfl
    have y2 := hY.cell (i := 2) rfl
    have f2 := hY.free 2
    have x2 := hX.cell (i := 2) rfl
    have y3 := hY.cell (i := 3) rfl
    have f3 := hY.free 3
    have x3 := hX.cell (i := 3) rfl
    have y4 := hY.cell (i := 4) rfl
    have f4 := hY.free 4
    have x4 := hX.cell (i := 4) rfl
    have y5 := hY.cell (i := 5) rfl
    have f5 := hY.free 5
    have x5 := hX.cell (i := 5) rfl
    have y6 := hY.cell (i := 6) rfl
    have f6 := hY.free 6
    have x6 := hX.cell (i := 6) rfl
    have y7 := hY.cell (i := 7) rfl
    have f7 := hY.free 7
    have x7 := hX.cell (i := 7) rfl
    have y8 := hY.cell (i := 8) rfl
    have f8 := hY.free 8
    have x8 := hX.cell (i := 8) rfl
    have y9 := hY.cell (i := 9) rfl
    have f9 := hY.free 9
    have x9 := hX.cell (i := 9) rfl
    have HY := Lib.hid hY
    have HB := Lib.hid hb
    clear hY hX hb
    go_wp2_with fail
    rw [setCells_back HY.out]
    have z0 : W1.cell? ⟨C + 1, 0, none⟩ = some (.int .i64 pl) := HY.out.cell rfl
    have z1 : W1.cell? ⟨C + 1, 1, none⟩ = some (.int .i64 sq) := HY.out.cell rfl
    have z2 : W1.cell? ⟨C + 1, 2, none⟩ = some (.int .i64 2) := HY.out.cell rfl
    have z3 : W1.cell? ⟨C + 1, 3, none⟩ = some (.int .i64 0) := HY.out.cell rfl
    have z4 : W1.cell? ⟨C + 1, 4, none⟩ = some (.slice A m c) := HY.out.cell rfl
    have z5 : W1.cell? ⟨C + 1, 5, none⟩ = some (.int .i64 ti) := HY.out.cell rfl
    have z6 : W1.cell? ⟨C + 1, 6, none⟩ = some (.int .i64 0) := HY.out.cell rfl
    have z7 : W1.cell? ⟨C + 1, 7, none⟩ = some (.int .i64 0) := HY.out.cell rfl
    have z8 : W1.cell? ⟨C + 1, 8, none⟩ = some (.int .i64 0) := HY.out.cell rfl
    have z9 : W1.cell? ⟨C + 1, 9, none⟩ = some (.int .i64 0) := HY.out.cell rfl
    refine bodyPost_ret (v := .tuple #[cmdV ⟨pl, sq, 2, 0, us, ti, 0, 0, 0, 0⟩ A m c, .bool q1]) (by simp [results, Try.results44, go_sem, cmdV, z0, z1, z2, z3, z4, z5, z6, z7, z8, z9]) rfl ?_
    refine ⟨A, m, c, ?_, by rw [HO.out]; exact HLL.out.symm, by rw [hCC]; exact HB.out⟩
    rw [HO.out, HK.out]
    all_goals first | rfl | simp
set_option maxHeartbeats 3200000 in
set_option maxRecDepth 20000 in
theorem only_3 (pl sq nn : Int) (us : List Int) (ti wd ht ax ay : Int) (A : Option Addr) (m c B : Nat) (w : World) (hr : Reads w B 1 A m (nums .i64 us)) (hB : B ≤ w.heap.size) (hm : m ≤ 1000000) :
    Calls Try.prog 44 #[.agg #[.int .i64 pl, .int .i64 sq, .int .i64 3, .int .i64 nn, .slice A m c, .int .i64 ti, .int .i64 wd, .int .i64 ht, .int .i64 ax, .int .i64 ay]] w (GivesOnly w ⟨pl, sq, 3, nn, us, ti, wd, ht, ax, ay⟩) := by
  have hll : us.length = m := by have := hr.1; simpa [nums] using this
  have hO : onlyC ⟨pl, sq, 3, nn, us, ti, wd, ht, ax, ay⟩ = ⟨pl, sq, 3, 0, us, 0, 0, 0, 0, 0⟩ := by simp [onlyC]
  have hK : okC ⟨pl, sq, 3, nn, us, ti, wd, ht, ax, ay⟩ = (okUs us) := by simp [okC]
  replace hr := hr.more hB
  have hb : Below w.heap.size w ((w.alloc (.cells (cmdCs pl sq 3 nn A m c ti wd ht ax ay) 28)).alloc (.cells (cmdCs pl sq 3 0 A m c 0 0 0 0 0) 28)) := ((Below.refl _ _).alloc (Nat.le_refl _) _).alloc (by simp) _
  have hX : Blk ((w.alloc (.cells (cmdCs pl sq 3 nn A m c ti wd ht ax ay) 28)).alloc (.cells (cmdCs pl sq 3 0 A m c 0 0 0 0 0) 28)) w.heap.size (cmdCs pl sq 3 nn A m c ti wd ht ax ay) 28 := ((Blk.new w _ _).alloc _)
  have hY : Blk ((w.alloc (.cells (cmdCs pl sq 3 nn A m c ti wd ht ax ay) 28)).alloc (.cells (cmdCs pl sq 3 0 A m c 0 0 0 0 0) 28)) (w.heap.size + 1) (cmdCs pl sq 3 0 A m c 0 0 0 0 0) 28 := by
    have := Blk.new (w.alloc (.cells (cmdCs pl sq 3 nn A m c ti wd ht ax ay) 28)) (cmdCs pl sq 3 0 A m c 0 0 0 0 0) 28
    simpa using this
  have HO := Lib.hid hO
  have HK := Lib.hid hK
  have HLL := Lib.hid hll
  clear hO hK hll
  go_enter Try.func44, Try.ntmps44
  go_wp2_with fail
  generalize hCC : w.heap.size = C at *
  generalize ((w.alloc (.cells (cmdCs pl sq 3 nn A m c ti wd ht ax ay) 28)).alloc (.cells (cmdCs pl sq 3 0 A m c 0 0 0 0 0) 28)) = W1 at *
  refine Calls.mono (units_is A m c C us _ (hr.below hb) hm) ?_
  rintro e W2 ⟨rfl, rfl⟩
  generalize hq0 : okUs us = q0 at *
  have Hq0 := Lib.hid hq0
  clear hq0
  have y0 := hY.cell (i := 0) rfl
  have f0 := hY.free 0
  have x0 := hX.cell (i := 0) rfl
  have y1 := hY.cell (i := 1) rfl
  have f1 := hY.free 1
  have x1 := hX.cell (i := 1) rfl
  have y2 := hY.cell (i := 2) rfl
  have f2 := hY.free 2
  have x2 := hX.cell (i := 2) rfl
  have y3 := hY.cell (i := 3) rfl
  have f3 := hY.free 3
  have x3 := hX.cell (i := 3) rfl
  have y4 := hY.cell (i := 4) rfl
  have f4 := hY.free 4
  have x4 := hX.cell (i := 4) rfl
  have y5 := hY.cell (i := 5) rfl
  have f5 := hY.free 5
  have x5 := hX.cell (i := 5) rfl
  have y6 := hY.cell (i := 6) rfl
  have f6 := hY.free 6
  have x6 := hX.cell (i := 6) rfl
  have y7 := hY.cell (i := 7) rfl
  have f7 := hY.free 7
  have x7 := hX.cell (i := 7) rfl
  have y8 := hY.cell (i := 8) rfl
  have f8 := hY.free 8
  have x8 := hX.cell (i := 8) rfl
  have y9 := hY.cell (i := 9) rfl
  have f9 := hY.free 9
  have x9 := hX.cell (i := 9) rfl
  have HY := Lib.hid hY
  have HB := Lib.hid hb
  clear hY hX hb
  go_wp2_with fail
  rw [setCells_back HY.out]
  have z0 : W1.cell? ⟨C + 1, 0, none⟩ = some (.int .i64 pl) := HY.out.cell rfl
  have z1 : W1.cell? ⟨C + 1, 1, none⟩ = some (.int .i64 sq) := HY.out.cell rfl
  have z2 : W1.cell? ⟨C + 1, 2, none⟩ = some (.int .i64 3) := HY.out.cell rfl
  have z3 : W1.cell? ⟨C + 1, 3, none⟩ = some (.int .i64 0) := HY.out.cell rfl
  have z4 : W1.cell? ⟨C + 1, 4, none⟩ = some (.slice A m c) := HY.out.cell rfl
  have z5 : W1.cell? ⟨C + 1, 5, none⟩ = some (.int .i64 0) := HY.out.cell rfl
  have z6 : W1.cell? ⟨C + 1, 6, none⟩ = some (.int .i64 0) := HY.out.cell rfl
  have z7 : W1.cell? ⟨C + 1, 7, none⟩ = some (.int .i64 0) := HY.out.cell rfl
  have z8 : W1.cell? ⟨C + 1, 8, none⟩ = some (.int .i64 0) := HY.out.cell rfl
  have z9 : W1.cell? ⟨C + 1, 9, none⟩ = some (.int .i64 0) := HY.out.cell rfl
  refine bodyPost_ret (v := .tuple #[cmdV ⟨pl, sq, 3, 0, us, 0, 0, 0, 0, 0⟩ A m c, .bool q0]) (by simp [results, Try.results44, go_sem, cmdV, z0, z1, z2, z3, z4, z5, z6, z7, z8, z9]) rfl ?_
  refine ⟨A, m, c, ?_, by rw [HO.out]; exact HLL.out.symm, by rw [hCC]; exact HB.out⟩
  rw [HO.out, HK.out]
  all_goals first | rfl | simp
set_option maxHeartbeats 3200000 in
set_option maxRecDepth 20000 in
theorem only_4 (pl sq nn : Int) (us : List Int) (ti wd ht ax ay : Int) (A : Option Addr) (m c B : Nat) (w : World) (hr : Reads w B 1 A m (nums .i64 us)) (hB : B ≤ w.heap.size) (_hm : m ≤ 1000000) :
    Calls Try.prog 44 #[.agg #[.int .i64 pl, .int .i64 sq, .int .i64 4, .int .i64 nn, .slice A m c, .int .i64 ti, .int .i64 wd, .int .i64 ht, .int .i64 ax, .int .i64 ay]] w (GivesOnly w ⟨pl, sq, 4, nn, us, ti, wd, ht, ax, ay⟩) := by
  have hll : us.length = m := by have := hr.1; simpa [nums] using this
  have hO : onlyC ⟨pl, sq, 4, nn, us, ti, wd, ht, ax, ay⟩ = ⟨pl, sq, 4, 0, [], ti, wd, ht, 0, 0⟩ := by simp [onlyC]
  have hK : okC ⟨pl, sq, 4, nn, us, ti, wd, ht, ax, ay⟩ = (inB ti 0 16383 && inB wd 1 4 && inB ht 1 4) := by simp [okC]
  replace hr := hr.more hB
  have hb : Below w.heap.size w ((w.alloc (.cells (cmdCs pl sq 4 nn A m c ti wd ht ax ay) 28)).alloc (.cells (cmdCs pl sq 4 0 none 0 0 ti wd ht 0 0) 28)).drew := (((Below.refl _ _).alloc (Nat.le_refl _) _).alloc (by simp) _).drew
  have hX : Blk ((w.alloc (.cells (cmdCs pl sq 4 nn A m c ti wd ht ax ay) 28)).alloc (.cells (cmdCs pl sq 4 0 none 0 0 ti wd ht 0 0) 28)).drew w.heap.size (cmdCs pl sq 4 nn A m c ti wd ht ax ay) 28 := ((Blk.new w _ _).alloc _)
  have hY : Blk ((w.alloc (.cells (cmdCs pl sq 4 nn A m c ti wd ht ax ay) 28)).alloc (.cells (cmdCs pl sq 4 0 none 0 0 ti wd ht 0 0) 28)) (w.heap.size + 1) (cmdCs pl sq 4 0 none 0 0 ti wd ht 0 0) 28 := by
    have := Blk.new (w.alloc (.cells (cmdCs pl sq 4 nn A m c ti wd ht ax ay) 28)) (cmdCs pl sq 4 0 none 0 0 ti wd ht 0 0) 28
    simpa using this
  replace hY := hY.drew
  have HO := Lib.hid hO
  have HK := Lib.hid hK
  have HLL := Lib.hid hll
  clear hO hK hll
  go_enter Try.func44, Try.ntmps44
  go_wp2_with fail
  go_region
  go_wp2_with fail
  generalize hCC : w.heap.size = C at *
  generalize ((w.alloc (.cells (cmdCs pl sq 4 nn A m c ti wd ht ax ay) 28)).alloc (.cells (cmdCs pl sq 4 0 none 0 0 ti wd ht 0 0) 28)).drew = W1 at *
  refine Calls.mono (within_is ti 0 16383 _) ?_
  rintro e W2 ⟨rfl, rfl⟩
  generalize hq0 : inB ti 0 16383 = q0 at *
  have Hq0 := Lib.hid hq0
  clear hq0
  cases q0 with
  | false =>
    have y0 := hY.cell (i := 0) rfl
    have f0 := hY.free 0
    have x0 := hX.cell (i := 0) rfl
    have y1 := hY.cell (i := 1) rfl
    have f1 := hY.free 1
    have x1 := hX.cell (i := 1) rfl
    have y2 := hY.cell (i := 2) rfl
    have f2 := hY.free 2
    have x2 := hX.cell (i := 2) rfl
    have y3 := hY.cell (i := 3) rfl
    have f3 := hY.free 3
    have x3 := hX.cell (i := 3) rfl
    have y4 := hY.cell (i := 4) rfl
    have f4 := hY.free 4
    have x4 := hX.cell (i := 4) rfl
    have y5 := hY.cell (i := 5) rfl
    have f5 := hY.free 5
    have x5 := hX.cell (i := 5) rfl
    have y6 := hY.cell (i := 6) rfl
    have f6 := hY.free 6
    have x6 := hX.cell (i := 6) rfl
    have y7 := hY.cell (i := 7) rfl
    have f7 := hY.free 7
    have x7 := hX.cell (i := 7) rfl
    have y8 := hY.cell (i := 8) rfl
    have f8 := hY.free 8
    have x8 := hX.cell (i := 8) rfl
    have y9 := hY.cell (i := 9) rfl
    have f9 := hY.free 9
    have x9 := hX.cell (i := 9) rfl
    have HY := Lib.hid hY
    have HB := Lib.hid hb
    clear hY hX hb
    go_wp2_with fail
    rw [setCells_back HY.out]
    have z0 : W1.cell? ⟨C + 1, 0, none⟩ = some (.int .i64 pl) := HY.out.cell rfl
    have z1 : W1.cell? ⟨C + 1, 1, none⟩ = some (.int .i64 sq) := HY.out.cell rfl
    have z2 : W1.cell? ⟨C + 1, 2, none⟩ = some (.int .i64 4) := HY.out.cell rfl
    have z3 : W1.cell? ⟨C + 1, 3, none⟩ = some (.int .i64 0) := HY.out.cell rfl
    have z4 : W1.cell? ⟨C + 1, 4, none⟩ = some (.slice none 0 0) := HY.out.cell rfl
    have z5 : W1.cell? ⟨C + 1, 5, none⟩ = some (.int .i64 ti) := HY.out.cell rfl
    have z6 : W1.cell? ⟨C + 1, 6, none⟩ = some (.int .i64 wd) := HY.out.cell rfl
    have z7 : W1.cell? ⟨C + 1, 7, none⟩ = some (.int .i64 ht) := HY.out.cell rfl
    have z8 : W1.cell? ⟨C + 1, 8, none⟩ = some (.int .i64 0) := HY.out.cell rfl
    have z9 : W1.cell? ⟨C + 1, 9, none⟩ = some (.int .i64 0) := HY.out.cell rfl
    refine bodyPost_ret (v := .tuple #[cmdV ⟨pl, sq, 4, 0, [], ti, wd, ht, 0, 0⟩ none 0 0, .bool false]) (by simp [results, Try.results44, go_sem, cmdV, z0, z1, z2, z3, z4, z5, z6, z7, z8, z9]) rfl ?_
    refine ⟨none, 0, 0, ?_, by rw [HO.out]; rfl, by rw [hCC]; exact HB.out⟩
    rw [HO.out, HK.out]
    all_goals first | rfl | simp
  | true =>
    have x0 := hX.cell (i := 0) rfl
    have x1 := hX.cell (i := 1) rfl
    have x2 := hX.cell (i := 2) rfl
    have x3 := hX.cell (i := 3) rfl
    have x4 := hX.cell (i := 4) rfl
    have x5 := hX.cell (i := 5) rfl
    have x6 := hX.cell (i := 6) rfl
    have x7 := hX.cell (i := 7) rfl
    have x8 := hX.cell (i := 8) rfl
    have x9 := hX.cell (i := 9) rfl
    go_wp2_with fail
    clear x0 x1 x2 x3 x4 x5 x6 x7 x8 x9
    refine Calls.mono (within_is wd 1 4 _) ?_
    rintro e W2 ⟨rfl, rfl⟩
    generalize hq1 : inB wd 1 4 = q1 at *
    have Hq1 := Lib.hid hq1
    clear hq1
    cases q1 with
    | false =>
      have y0 := hY.cell (i := 0) rfl
      have f0 := hY.free 0
      have x0 := hX.cell (i := 0) rfl
      have y1 := hY.cell (i := 1) rfl
      have f1 := hY.free 1
      have x1 := hX.cell (i := 1) rfl
      have y2 := hY.cell (i := 2) rfl
      have f2 := hY.free 2
      have x2 := hX.cell (i := 2) rfl
      have y3 := hY.cell (i := 3) rfl
      have f3 := hY.free 3
      have x3 := hX.cell (i := 3) rfl
      have y4 := hY.cell (i := 4) rfl
      have f4 := hY.free 4
      have x4 := hX.cell (i := 4) rfl
      have y5 := hY.cell (i := 5) rfl
      have f5 := hY.free 5
      have x5 := hX.cell (i := 5) rfl
      have y6 := hY.cell (i := 6) rfl
      have f6 := hY.free 6
      have x6 := hX.cell (i := 6) rfl
      have y7 := hY.cell (i := 7) rfl
      have f7 := hY.free 7
      have x7 := hX.cell (i := 7) rfl
      have y8 := hY.cell (i := 8) rfl
      have f8 := hY.free 8
      have x8 := hX.cell (i := 8) rfl
      have y9 := hY.cell (i := 9) rfl
      have f9 := hY.free 9
      have x9 := hX.cell (i := 9) rfl
      have HY := Lib.hid hY
      have HB := Lib.hid hb
      clear hY hX hb
      go_wp2_with fail
      rw [setCells_back HY.out]
      have z0 : W1.cell? ⟨C + 1, 0, none⟩ = some (.int .i64 pl) := HY.out.cell rfl
      have z1 : W1.cell? ⟨C + 1, 1, none⟩ = some (.int .i64 sq) := HY.out.cell rfl
      have z2 : W1.cell? ⟨C + 1, 2, none⟩ = some (.int .i64 4) := HY.out.cell rfl
      have z3 : W1.cell? ⟨C + 1, 3, none⟩ = some (.int .i64 0) := HY.out.cell rfl
      have z4 : W1.cell? ⟨C + 1, 4, none⟩ = some (.slice none 0 0) := HY.out.cell rfl
      have z5 : W1.cell? ⟨C + 1, 5, none⟩ = some (.int .i64 ti) := HY.out.cell rfl
      have z6 : W1.cell? ⟨C + 1, 6, none⟩ = some (.int .i64 wd) := HY.out.cell rfl
      have z7 : W1.cell? ⟨C + 1, 7, none⟩ = some (.int .i64 ht) := HY.out.cell rfl
      have z8 : W1.cell? ⟨C + 1, 8, none⟩ = some (.int .i64 0) := HY.out.cell rfl
      have z9 : W1.cell? ⟨C + 1, 9, none⟩ = some (.int .i64 0) := HY.out.cell rfl
      refine bodyPost_ret (v := .tuple #[cmdV ⟨pl, sq, 4, 0, [], ti, wd, ht, 0, 0⟩ none 0 0, .bool false]) (by simp [results, Try.results44, go_sem, cmdV, z0, z1, z2, z3, z4, z5, z6, z7, z8, z9]) rfl ?_
      refine ⟨none, 0, 0, ?_, by rw [HO.out]; rfl, by rw [hCC]; exact HB.out⟩
      rw [HO.out, HK.out]
      all_goals first | rfl | simp
    | true =>
      have x0 := hX.cell (i := 0) rfl
      have x1 := hX.cell (i := 1) rfl
      have x2 := hX.cell (i := 2) rfl
      have x3 := hX.cell (i := 3) rfl
      have x4 := hX.cell (i := 4) rfl
      have x5 := hX.cell (i := 5) rfl
      have x6 := hX.cell (i := 6) rfl
      have x7 := hX.cell (i := 7) rfl
      have x8 := hX.cell (i := 8) rfl
      have x9 := hX.cell (i := 9) rfl
      go_wp2_with fail
      clear x0 x1 x2 x3 x4 x5 x6 x7 x8 x9
      refine Calls.mono (within_is ht 1 4 _) ?_
      rintro e W2 ⟨rfl, rfl⟩
      generalize hq2 : inB ht 1 4 = q2 at *
      have Hq2 := Lib.hid hq2
      clear hq2
      have y0 := hY.cell (i := 0) rfl
      have f0 := hY.free 0
      have x0 := hX.cell (i := 0) rfl
      have y1 := hY.cell (i := 1) rfl
      have f1 := hY.free 1
      have x1 := hX.cell (i := 1) rfl
      have y2 := hY.cell (i := 2) rfl
      have f2 := hY.free 2
      have x2 := hX.cell (i := 2) rfl
      have y3 := hY.cell (i := 3) rfl
      have f3 := hY.free 3
      have x3 := hX.cell (i := 3) rfl
      have y4 := hY.cell (i := 4) rfl
      have f4 := hY.free 4
      have x4 := hX.cell (i := 4) rfl
      have y5 := hY.cell (i := 5) rfl
      have f5 := hY.free 5
      have x5 := hX.cell (i := 5) rfl
      have y6 := hY.cell (i := 6) rfl
      have f6 := hY.free 6
      have x6 := hX.cell (i := 6) rfl
      have y7 := hY.cell (i := 7) rfl
      have f7 := hY.free 7
      have x7 := hX.cell (i := 7) rfl
      have y8 := hY.cell (i := 8) rfl
      have f8 := hY.free 8
      have x8 := hX.cell (i := 8) rfl
      have y9 := hY.cell (i := 9) rfl
      have f9 := hY.free 9
      have x9 := hX.cell (i := 9) rfl
      have HY := Lib.hid hY
      have HB := Lib.hid hb
      clear hY hX hb
      go_wp2_with fail
      rw [setCells_back HY.out]
      have z0 : W1.cell? ⟨C + 1, 0, none⟩ = some (.int .i64 pl) := HY.out.cell rfl
      have z1 : W1.cell? ⟨C + 1, 1, none⟩ = some (.int .i64 sq) := HY.out.cell rfl
      have z2 : W1.cell? ⟨C + 1, 2, none⟩ = some (.int .i64 4) := HY.out.cell rfl
      have z3 : W1.cell? ⟨C + 1, 3, none⟩ = some (.int .i64 0) := HY.out.cell rfl
      have z4 : W1.cell? ⟨C + 1, 4, none⟩ = some (.slice none 0 0) := HY.out.cell rfl
      have z5 : W1.cell? ⟨C + 1, 5, none⟩ = some (.int .i64 ti) := HY.out.cell rfl
      have z6 : W1.cell? ⟨C + 1, 6, none⟩ = some (.int .i64 wd) := HY.out.cell rfl
      have z7 : W1.cell? ⟨C + 1, 7, none⟩ = some (.int .i64 ht) := HY.out.cell rfl
      have z8 : W1.cell? ⟨C + 1, 8, none⟩ = some (.int .i64 0) := HY.out.cell rfl
      have z9 : W1.cell? ⟨C + 1, 9, none⟩ = some (.int .i64 0) := HY.out.cell rfl
      refine bodyPost_ret (v := .tuple #[cmdV ⟨pl, sq, 4, 0, [], ti, wd, ht, 0, 0⟩ none 0 0, .bool q2]) (by simp [results, Try.results44, go_sem, cmdV, z0, z1, z2, z3, z4, z5, z6, z7, z8, z9]) rfl ?_
      refine ⟨none, 0, 0, ?_, by rw [HO.out]; rfl, by rw [hCC]; exact HB.out⟩
      rw [HO.out, HK.out]
      all_goals first | rfl | simp
set_option maxHeartbeats 3200000 in
set_option maxRecDepth 20000 in
theorem only_5 (pl sq nn : Int) (us : List Int) (ti wd ht ax ay : Int) (A : Option Addr) (m c B : Nat) (w : World) (hr : Reads w B 1 A m (nums .i64 us)) (hB : B ≤ w.heap.size) (_hm : m ≤ 1000000) :
    Calls Try.prog 44 #[.agg #[.int .i64 pl, .int .i64 sq, .int .i64 5, .int .i64 nn, .slice A m c, .int .i64 ti, .int .i64 wd, .int .i64 ht, .int .i64 ax, .int .i64 ay]] w (GivesOnly w ⟨pl, sq, 5, nn, us, ti, wd, ht, ax, ay⟩) := by
  have hll : us.length = m := by have := hr.1; simpa [nums] using this
  have hO : onlyC ⟨pl, sq, 5, nn, us, ti, wd, ht, ax, ay⟩ = ⟨pl, sq, 5, nn, [], 0, 0, 0, 0, 0⟩ := by simp [onlyC]
  have hK : okC ⟨pl, sq, 5, nn, us, ti, wd, ht, ax, ay⟩ = (inB nn 1 1099511627776) := by simp [okC]
  replace hr := hr.more hB
  have hb : Below w.heap.size w ((w.alloc (.cells (cmdCs pl sq 5 nn A m c ti wd ht ax ay) 28)).alloc (.cells (cmdCs pl sq 5 nn none 0 0 0 0 0 0 0) 28)) := ((Below.refl _ _).alloc (Nat.le_refl _) _).alloc (by simp) _
  have hX : Blk ((w.alloc (.cells (cmdCs pl sq 5 nn A m c ti wd ht ax ay) 28)).alloc (.cells (cmdCs pl sq 5 nn none 0 0 0 0 0 0 0) 28)) w.heap.size (cmdCs pl sq 5 nn A m c ti wd ht ax ay) 28 := ((Blk.new w _ _).alloc _)
  have hY : Blk ((w.alloc (.cells (cmdCs pl sq 5 nn A m c ti wd ht ax ay) 28)).alloc (.cells (cmdCs pl sq 5 nn none 0 0 0 0 0 0 0) 28)) (w.heap.size + 1) (cmdCs pl sq 5 nn none 0 0 0 0 0 0 0) 28 := by
    have := Blk.new (w.alloc (.cells (cmdCs pl sq 5 nn A m c ti wd ht ax ay) 28)) (cmdCs pl sq 5 nn none 0 0 0 0 0 0 0) 28
    simpa using this
  have HO := Lib.hid hO
  have HK := Lib.hid hK
  have HLL := Lib.hid hll
  clear hO hK hll
  go_enter Try.func44, Try.ntmps44
  go_wp2_with fail
  generalize hCC : w.heap.size = C at *
  generalize ((w.alloc (.cells (cmdCs pl sq 5 nn A m c ti wd ht ax ay) 28)).alloc (.cells (cmdCs pl sq 5 nn none 0 0 0 0 0 0 0) 28)) = W1 at *
  refine Calls.mono (within_is nn 1 1099511627776 _) ?_
  rintro e W2 ⟨rfl, rfl⟩
  generalize hq0 : inB nn 1 1099511627776 = q0 at *
  have Hq0 := Lib.hid hq0
  clear hq0
  have y0 := hY.cell (i := 0) rfl
  have f0 := hY.free 0
  have x0 := hX.cell (i := 0) rfl
  have y1 := hY.cell (i := 1) rfl
  have f1 := hY.free 1
  have x1 := hX.cell (i := 1) rfl
  have y2 := hY.cell (i := 2) rfl
  have f2 := hY.free 2
  have x2 := hX.cell (i := 2) rfl
  have y3 := hY.cell (i := 3) rfl
  have f3 := hY.free 3
  have x3 := hX.cell (i := 3) rfl
  have y4 := hY.cell (i := 4) rfl
  have f4 := hY.free 4
  have x4 := hX.cell (i := 4) rfl
  have y5 := hY.cell (i := 5) rfl
  have f5 := hY.free 5
  have x5 := hX.cell (i := 5) rfl
  have y6 := hY.cell (i := 6) rfl
  have f6 := hY.free 6
  have x6 := hX.cell (i := 6) rfl
  have y7 := hY.cell (i := 7) rfl
  have f7 := hY.free 7
  have x7 := hX.cell (i := 7) rfl
  have y8 := hY.cell (i := 8) rfl
  have f8 := hY.free 8
  have x8 := hX.cell (i := 8) rfl
  have y9 := hY.cell (i := 9) rfl
  have f9 := hY.free 9
  have x9 := hX.cell (i := 9) rfl
  have HY := Lib.hid hY
  have HB := Lib.hid hb
  clear hY hX hb
  go_wp2_with fail
  rw [setCells_back HY.out]
  have z0 : W1.cell? ⟨C + 1, 0, none⟩ = some (.int .i64 pl) := HY.out.cell rfl
  have z1 : W1.cell? ⟨C + 1, 1, none⟩ = some (.int .i64 sq) := HY.out.cell rfl
  have z2 : W1.cell? ⟨C + 1, 2, none⟩ = some (.int .i64 5) := HY.out.cell rfl
  have z3 : W1.cell? ⟨C + 1, 3, none⟩ = some (.int .i64 nn) := HY.out.cell rfl
  have z4 : W1.cell? ⟨C + 1, 4, none⟩ = some (.slice none 0 0) := HY.out.cell rfl
  have z5 : W1.cell? ⟨C + 1, 5, none⟩ = some (.int .i64 0) := HY.out.cell rfl
  have z6 : W1.cell? ⟨C + 1, 6, none⟩ = some (.int .i64 0) := HY.out.cell rfl
  have z7 : W1.cell? ⟨C + 1, 7, none⟩ = some (.int .i64 0) := HY.out.cell rfl
  have z8 : W1.cell? ⟨C + 1, 8, none⟩ = some (.int .i64 0) := HY.out.cell rfl
  have z9 : W1.cell? ⟨C + 1, 9, none⟩ = some (.int .i64 0) := HY.out.cell rfl
  refine bodyPost_ret (v := .tuple #[cmdV ⟨pl, sq, 5, nn, [], 0, 0, 0, 0, 0⟩ none 0 0, .bool q0]) (by simp [results, Try.results44, go_sem, cmdV, z0, z1, z2, z3, z4, z5, z6, z7, z8, z9]) rfl ?_
  refine ⟨none, 0, 0, ?_, by rw [HO.out]; rfl, by rw [hCC]; exact HB.out⟩
  rw [HO.out, HK.out]
  all_goals first | rfl | simp
set_option maxHeartbeats 3200000 in
set_option maxRecDepth 20000 in
theorem only_6 (pl sq nn : Int) (us : List Int) (ti wd ht ax ay : Int) (A : Option Addr) (m c B : Nat) (w : World) (hr : Reads w B 1 A m (nums .i64 us)) (hB : B ≤ w.heap.size) (hm : m ≤ 1000000) :
    Calls Try.prog 44 #[.agg #[.int .i64 pl, .int .i64 sq, .int .i64 6, .int .i64 nn, .slice A m c, .int .i64 ti, .int .i64 wd, .int .i64 ht, .int .i64 ax, .int .i64 ay]] w (GivesOnly w ⟨pl, sq, 6, nn, us, ti, wd, ht, ax, ay⟩) := by
  have hll : us.length = m := by have := hr.1; simpa [nums] using this
  have hO : onlyC ⟨pl, sq, 6, nn, us, ti, wd, ht, ax, ay⟩ = ⟨pl, sq, 6, nn, us, 0, 0, 0, 0, 0⟩ := by simp [onlyC]
  have hK : okC ⟨pl, sq, 6, nn, us, ti, wd, ht, ax, ay⟩ = (okUs us && inB nn 1 1099511627776) := by simp [okC]
  replace hr := hr.more hB
  have hb : Below w.heap.size w ((w.alloc (.cells (cmdCs pl sq 6 nn A m c ti wd ht ax ay) 28)).alloc (.cells (cmdCs pl sq 6 nn A m c 0 0 0 0 0) 28)).drew := (((Below.refl _ _).alloc (Nat.le_refl _) _).alloc (by simp) _).drew
  have hX : Blk ((w.alloc (.cells (cmdCs pl sq 6 nn A m c ti wd ht ax ay) 28)).alloc (.cells (cmdCs pl sq 6 nn A m c 0 0 0 0 0) 28)).drew w.heap.size (cmdCs pl sq 6 nn A m c ti wd ht ax ay) 28 := ((Blk.new w _ _).alloc _)
  have hY : Blk ((w.alloc (.cells (cmdCs pl sq 6 nn A m c ti wd ht ax ay) 28)).alloc (.cells (cmdCs pl sq 6 nn A m c 0 0 0 0 0) 28)) (w.heap.size + 1) (cmdCs pl sq 6 nn A m c 0 0 0 0 0) 28 := by
    have := Blk.new (w.alloc (.cells (cmdCs pl sq 6 nn A m c ti wd ht ax ay) 28)) (cmdCs pl sq 6 nn A m c 0 0 0 0 0) 28
    simpa using this
  replace hY := hY.drew
  have HO := Lib.hid hO
  have HK := Lib.hid hK
  have HLL := Lib.hid hll
  clear hO hK hll
  go_enter Try.func44, Try.ntmps44
  go_wp2_with fail
  go_region
  go_wp2_with fail
  generalize hCC : w.heap.size = C at *
  generalize ((w.alloc (.cells (cmdCs pl sq 6 nn A m c ti wd ht ax ay) 28)).alloc (.cells (cmdCs pl sq 6 nn A m c 0 0 0 0 0) 28)).drew = W1 at *
  refine Calls.mono (units_is A m c C us _ (hr.below hb) hm) ?_
  rintro e W2 ⟨rfl, rfl⟩
  generalize hq0 : okUs us = q0 at *
  have Hq0 := Lib.hid hq0
  clear hq0
  cases q0 with
  | false =>
    have y0 := hY.cell (i := 0) rfl
    have f0 := hY.free 0
    have x0 := hX.cell (i := 0) rfl
    have y1 := hY.cell (i := 1) rfl
    have f1 := hY.free 1
    have x1 := hX.cell (i := 1) rfl
    have y2 := hY.cell (i := 2) rfl
    have f2 := hY.free 2
    have x2 := hX.cell (i := 2) rfl
    have y3 := hY.cell (i := 3) rfl
    have f3 := hY.free 3
    have x3 := hX.cell (i := 3) rfl
    have y4 := hY.cell (i := 4) rfl
    have f4 := hY.free 4
    have x4 := hX.cell (i := 4) rfl
    have y5 := hY.cell (i := 5) rfl
    have f5 := hY.free 5
    have x5 := hX.cell (i := 5) rfl
    have y6 := hY.cell (i := 6) rfl
    have f6 := hY.free 6
    have x6 := hX.cell (i := 6) rfl
    have y7 := hY.cell (i := 7) rfl
    have f7 := hY.free 7
    have x7 := hX.cell (i := 7) rfl
    have y8 := hY.cell (i := 8) rfl
    have f8 := hY.free 8
    have x8 := hX.cell (i := 8) rfl
    have y9 := hY.cell (i := 9) rfl
    have f9 := hY.free 9
    have x9 := hX.cell (i := 9) rfl
    have HY := Lib.hid hY
    have HB := Lib.hid hb
    clear hY hX hb
    go_wp2_with fail
    rw [setCells_back HY.out]
    have z0 : W1.cell? ⟨C + 1, 0, none⟩ = some (.int .i64 pl) := HY.out.cell rfl
    have z1 : W1.cell? ⟨C + 1, 1, none⟩ = some (.int .i64 sq) := HY.out.cell rfl
    have z2 : W1.cell? ⟨C + 1, 2, none⟩ = some (.int .i64 6) := HY.out.cell rfl
    have z3 : W1.cell? ⟨C + 1, 3, none⟩ = some (.int .i64 nn) := HY.out.cell rfl
    have z4 : W1.cell? ⟨C + 1, 4, none⟩ = some (.slice A m c) := HY.out.cell rfl
    have z5 : W1.cell? ⟨C + 1, 5, none⟩ = some (.int .i64 0) := HY.out.cell rfl
    have z6 : W1.cell? ⟨C + 1, 6, none⟩ = some (.int .i64 0) := HY.out.cell rfl
    have z7 : W1.cell? ⟨C + 1, 7, none⟩ = some (.int .i64 0) := HY.out.cell rfl
    have z8 : W1.cell? ⟨C + 1, 8, none⟩ = some (.int .i64 0) := HY.out.cell rfl
    have z9 : W1.cell? ⟨C + 1, 9, none⟩ = some (.int .i64 0) := HY.out.cell rfl
    refine bodyPost_ret (v := .tuple #[cmdV ⟨pl, sq, 6, nn, us, 0, 0, 0, 0, 0⟩ A m c, .bool false]) (by simp [results, Try.results44, go_sem, cmdV, z0, z1, z2, z3, z4, z5, z6, z7, z8, z9]) rfl ?_
    refine ⟨A, m, c, ?_, by rw [HO.out]; exact HLL.out.symm, by rw [hCC]; exact HB.out⟩
    rw [HO.out, HK.out]
    all_goals first | rfl | simp
  | true =>
    have x0 := hX.cell (i := 0) rfl
    have x1 := hX.cell (i := 1) rfl
    have x2 := hX.cell (i := 2) rfl
    have x3 := hX.cell (i := 3) rfl
    have x4 := hX.cell (i := 4) rfl
    have x5 := hX.cell (i := 5) rfl
    have x6 := hX.cell (i := 6) rfl
    have x7 := hX.cell (i := 7) rfl
    have x8 := hX.cell (i := 8) rfl
    have x9 := hX.cell (i := 9) rfl
    go_wp2_with fail
    clear x0 x1 x2 x3 x4 x5 x6 x7 x8 x9
    refine Calls.mono (within_is nn 1 1099511627776 _) ?_
    rintro e W2 ⟨rfl, rfl⟩
    generalize hq1 : inB nn 1 1099511627776 = q1 at *
    have Hq1 := Lib.hid hq1
    clear hq1
    have y0 := hY.cell (i := 0) rfl
    have f0 := hY.free 0
    have x0 := hX.cell (i := 0) rfl
    have y1 := hY.cell (i := 1) rfl
    have f1 := hY.free 1
    have x1 := hX.cell (i := 1) rfl
    have y2 := hY.cell (i := 2) rfl
    have f2 := hY.free 2
    have x2 := hX.cell (i := 2) rfl
    have y3 := hY.cell (i := 3) rfl
    have f3 := hY.free 3
    have x3 := hX.cell (i := 3) rfl
    have y4 := hY.cell (i := 4) rfl
    have f4 := hY.free 4
    have x4 := hX.cell (i := 4) rfl
    have y5 := hY.cell (i := 5) rfl
    have f5 := hY.free 5
    have x5 := hX.cell (i := 5) rfl
    have y6 := hY.cell (i := 6) rfl
    have f6 := hY.free 6
    have x6 := hX.cell (i := 6) rfl
    have y7 := hY.cell (i := 7) rfl
    have f7 := hY.free 7
    have x7 := hX.cell (i := 7) rfl
    have y8 := hY.cell (i := 8) rfl
    have f8 := hY.free 8
    have x8 := hX.cell (i := 8) rfl
    have y9 := hY.cell (i := 9) rfl
    have f9 := hY.free 9
    have x9 := hX.cell (i := 9) rfl
    have HY := Lib.hid hY
    have HB := Lib.hid hb
    clear hY hX hb
    go_wp2_with fail
    rw [setCells_back HY.out]
    have z0 : W1.cell? ⟨C + 1, 0, none⟩ = some (.int .i64 pl) := HY.out.cell rfl
    have z1 : W1.cell? ⟨C + 1, 1, none⟩ = some (.int .i64 sq) := HY.out.cell rfl
    have z2 : W1.cell? ⟨C + 1, 2, none⟩ = some (.int .i64 6) := HY.out.cell rfl
    have z3 : W1.cell? ⟨C + 1, 3, none⟩ = some (.int .i64 nn) := HY.out.cell rfl
    have z4 : W1.cell? ⟨C + 1, 4, none⟩ = some (.slice A m c) := HY.out.cell rfl
    have z5 : W1.cell? ⟨C + 1, 5, none⟩ = some (.int .i64 0) := HY.out.cell rfl
    have z6 : W1.cell? ⟨C + 1, 6, none⟩ = some (.int .i64 0) := HY.out.cell rfl
    have z7 : W1.cell? ⟨C + 1, 7, none⟩ = some (.int .i64 0) := HY.out.cell rfl
    have z8 : W1.cell? ⟨C + 1, 8, none⟩ = some (.int .i64 0) := HY.out.cell rfl
    have z9 : W1.cell? ⟨C + 1, 9, none⟩ = some (.int .i64 0) := HY.out.cell rfl
    refine bodyPost_ret (v := .tuple #[cmdV ⟨pl, sq, 6, nn, us, 0, 0, 0, 0, 0⟩ A m c, .bool q1]) (by simp [results, Try.results44, go_sem, cmdV, z0, z1, z2, z3, z4, z5, z6, z7, z8, z9]) rfl ?_
    refine ⟨A, m, c, ?_, by rw [HO.out]; exact HLL.out.symm, by rw [hCC]; exact HB.out⟩
    rw [HO.out, HK.out]
    all_goals first | rfl | simp
set_option maxHeartbeats 3200000 in
set_option maxRecDepth 20000 in
theorem only_7 (pl sq nn : Int) (us : List Int) (ti wd ht ax ay : Int) (A : Option Addr) (m c B : Nat) (w : World) (hr : Reads w B 1 A m (nums .i64 us)) (hB : B ≤ w.heap.size) (_hm : m ≤ 1000000) :
    Calls Try.prog 44 #[.agg #[.int .i64 pl, .int .i64 sq, .int .i64 7, .int .i64 nn, .slice A m c, .int .i64 ti, .int .i64 wd, .int .i64 ht, .int .i64 ax, .int .i64 ay]] w (GivesOnly w ⟨pl, sq, 7, nn, us, ti, wd, ht, ax, ay⟩) := by
  have hll : us.length = m := by have := hr.1; simpa [nums] using this
  have hO : onlyC ⟨pl, sq, 7, nn, us, ti, wd, ht, ax, ay⟩ = ⟨pl, sq, 7, nn, [], ti, 0, 0, 0, 0⟩ := by simp [onlyC]
  have hK : okC ⟨pl, sq, 7, nn, us, ti, wd, ht, ax, ay⟩ = (inB nn 1 1099511627776 && inB ti 0 16383) := by simp [okC]
  replace hr := hr.more hB
  have hb : Below w.heap.size w ((w.alloc (.cells (cmdCs pl sq 7 nn A m c ti wd ht ax ay) 28)).alloc (.cells (cmdCs pl sq 7 nn none 0 0 ti 0 0 0 0) 28)).drew := (((Below.refl _ _).alloc (Nat.le_refl _) _).alloc (by simp) _).drew
  have hX : Blk ((w.alloc (.cells (cmdCs pl sq 7 nn A m c ti wd ht ax ay) 28)).alloc (.cells (cmdCs pl sq 7 nn none 0 0 ti 0 0 0 0) 28)).drew w.heap.size (cmdCs pl sq 7 nn A m c ti wd ht ax ay) 28 := ((Blk.new w _ _).alloc _)
  have hY : Blk ((w.alloc (.cells (cmdCs pl sq 7 nn A m c ti wd ht ax ay) 28)).alloc (.cells (cmdCs pl sq 7 nn none 0 0 ti 0 0 0 0) 28)) (w.heap.size + 1) (cmdCs pl sq 7 nn none 0 0 ti 0 0 0 0) 28 := by
    have := Blk.new (w.alloc (.cells (cmdCs pl sq 7 nn A m c ti wd ht ax ay) 28)) (cmdCs pl sq 7 nn none 0 0 ti 0 0 0 0) 28
    simpa using this
  replace hY := hY.drew
  have HO := Lib.hid hO
  have HK := Lib.hid hK
  have HLL := Lib.hid hll
  clear hO hK hll
  go_enter Try.func44, Try.ntmps44
  go_wp2_with fail
  go_region
  go_wp2_with fail
  generalize hCC : w.heap.size = C at *
  generalize ((w.alloc (.cells (cmdCs pl sq 7 nn A m c ti wd ht ax ay) 28)).alloc (.cells (cmdCs pl sq 7 nn none 0 0 ti 0 0 0 0) 28)).drew = W1 at *
  refine Calls.mono (within_is nn 1 1099511627776 _) ?_
  rintro e W2 ⟨rfl, rfl⟩
  generalize hq0 : inB nn 1 1099511627776 = q0 at *
  have Hq0 := Lib.hid hq0
  clear hq0
  cases q0 with
  | false =>
    have y0 := hY.cell (i := 0) rfl
    have f0 := hY.free 0
    have x0 := hX.cell (i := 0) rfl
    have y1 := hY.cell (i := 1) rfl
    have f1 := hY.free 1
    have x1 := hX.cell (i := 1) rfl
    have y2 := hY.cell (i := 2) rfl
    have f2 := hY.free 2
    have x2 := hX.cell (i := 2) rfl
    have y3 := hY.cell (i := 3) rfl
    have f3 := hY.free 3
    have x3 := hX.cell (i := 3) rfl
    have y4 := hY.cell (i := 4) rfl
    have f4 := hY.free 4
    have x4 := hX.cell (i := 4) rfl
    have y5 := hY.cell (i := 5) rfl
    have f5 := hY.free 5
    have x5 := hX.cell (i := 5) rfl
    have y6 := hY.cell (i := 6) rfl
    have f6 := hY.free 6
    have x6 := hX.cell (i := 6) rfl
    have y7 := hY.cell (i := 7) rfl
    have f7 := hY.free 7
    have x7 := hX.cell (i := 7) rfl
    have y8 := hY.cell (i := 8) rfl
    have f8 := hY.free 8
    have x8 := hX.cell (i := 8) rfl
    have y9 := hY.cell (i := 9) rfl
    have f9 := hY.free 9
    have x9 := hX.cell (i := 9) rfl
    have HY := Lib.hid hY
    have HB := Lib.hid hb
    clear hY hX hb
    go_wp2_with fail
    rw [setCells_back HY.out]
    have z0 : W1.cell? ⟨C + 1, 0, none⟩ = some (.int .i64 pl) := HY.out.cell rfl
    have z1 : W1.cell? ⟨C + 1, 1, none⟩ = some (.int .i64 sq) := HY.out.cell rfl
    have z2 : W1.cell? ⟨C + 1, 2, none⟩ = some (.int .i64 7) := HY.out.cell rfl
    have z3 : W1.cell? ⟨C + 1, 3, none⟩ = some (.int .i64 nn) := HY.out.cell rfl
    have z4 : W1.cell? ⟨C + 1, 4, none⟩ = some (.slice none 0 0) := HY.out.cell rfl
    have z5 : W1.cell? ⟨C + 1, 5, none⟩ = some (.int .i64 ti) := HY.out.cell rfl
    have z6 : W1.cell? ⟨C + 1, 6, none⟩ = some (.int .i64 0) := HY.out.cell rfl
    have z7 : W1.cell? ⟨C + 1, 7, none⟩ = some (.int .i64 0) := HY.out.cell rfl
    have z8 : W1.cell? ⟨C + 1, 8, none⟩ = some (.int .i64 0) := HY.out.cell rfl
    have z9 : W1.cell? ⟨C + 1, 9, none⟩ = some (.int .i64 0) := HY.out.cell rfl
    refine bodyPost_ret (v := .tuple #[cmdV ⟨pl, sq, 7, nn, [], ti, 0, 0, 0, 0⟩ none 0 0, .bool false]) (by simp [results, Try.results44, go_sem, cmdV, z0, z1, z2, z3, z4, z5, z6, z7, z8, z9]) rfl ?_
    refine ⟨none, 0, 0, ?_, by rw [HO.out]; rfl, by rw [hCC]; exact HB.out⟩
    rw [HO.out, HK.out]
    all_goals first | rfl | simp
  | true =>
    have x0 := hX.cell (i := 0) rfl
    have x1 := hX.cell (i := 1) rfl
    have x2 := hX.cell (i := 2) rfl
    have x3 := hX.cell (i := 3) rfl
    have x4 := hX.cell (i := 4) rfl
    have x5 := hX.cell (i := 5) rfl
    have x6 := hX.cell (i := 6) rfl
    have x7 := hX.cell (i := 7) rfl
    have x8 := hX.cell (i := 8) rfl
    have x9 := hX.cell (i := 9) rfl
    go_wp2_with fail
    clear x0 x1 x2 x3 x4 x5 x6 x7 x8 x9
    refine Calls.mono (within_is ti 0 16383 _) ?_
    rintro e W2 ⟨rfl, rfl⟩
    generalize hq1 : inB ti 0 16383 = q1 at *
    have Hq1 := Lib.hid hq1
    clear hq1
    have y0 := hY.cell (i := 0) rfl
    have f0 := hY.free 0
    have x0 := hX.cell (i := 0) rfl
    have y1 := hY.cell (i := 1) rfl
    have f1 := hY.free 1
    have x1 := hX.cell (i := 1) rfl
    have y2 := hY.cell (i := 2) rfl
    have f2 := hY.free 2
    have x2 := hX.cell (i := 2) rfl
    have y3 := hY.cell (i := 3) rfl
    have f3 := hY.free 3
    have x3 := hX.cell (i := 3) rfl
    have y4 := hY.cell (i := 4) rfl
    have f4 := hY.free 4
    have x4 := hX.cell (i := 4) rfl
    have y5 := hY.cell (i := 5) rfl
    have f5 := hY.free 5
    have x5 := hX.cell (i := 5) rfl
    have y6 := hY.cell (i := 6) rfl
    have f6 := hY.free 6
    have x6 := hX.cell (i := 6) rfl
    have y7 := hY.cell (i := 7) rfl
    have f7 := hY.free 7
    have x7 := hX.cell (i := 7) rfl
    have y8 := hY.cell (i := 8) rfl
    have f8 := hY.free 8
    have x8 := hX.cell (i := 8) rfl
    have y9 := hY.cell (i := 9) rfl
    have f9 := hY.free 9
    have x9 := hX.cell (i := 9) rfl
    have HY := Lib.hid hY
    have HB := Lib.hid hb
    clear hY hX hb
    go_wp2_with fail
    rw [setCells_back HY.out]
    have z0 : W1.cell? ⟨C + 1, 0, none⟩ = some (.int .i64 pl) := HY.out.cell rfl
    have z1 : W1.cell? ⟨C + 1, 1, none⟩ = some (.int .i64 sq) := HY.out.cell rfl
    have z2 : W1.cell? ⟨C + 1, 2, none⟩ = some (.int .i64 7) := HY.out.cell rfl
    have z3 : W1.cell? ⟨C + 1, 3, none⟩ = some (.int .i64 nn) := HY.out.cell rfl
    have z4 : W1.cell? ⟨C + 1, 4, none⟩ = some (.slice none 0 0) := HY.out.cell rfl
    have z5 : W1.cell? ⟨C + 1, 5, none⟩ = some (.int .i64 ti) := HY.out.cell rfl
    have z6 : W1.cell? ⟨C + 1, 6, none⟩ = some (.int .i64 0) := HY.out.cell rfl
    have z7 : W1.cell? ⟨C + 1, 7, none⟩ = some (.int .i64 0) := HY.out.cell rfl
    have z8 : W1.cell? ⟨C + 1, 8, none⟩ = some (.int .i64 0) := HY.out.cell rfl
    have z9 : W1.cell? ⟨C + 1, 9, none⟩ = some (.int .i64 0) := HY.out.cell rfl
    refine bodyPost_ret (v := .tuple #[cmdV ⟨pl, sq, 7, nn, [], ti, 0, 0, 0, 0⟩ none 0 0, .bool q1]) (by simp [results, Try.results44, go_sem, cmdV, z0, z1, z2, z3, z4, z5, z6, z7, z8, z9]) rfl ?_
    refine ⟨none, 0, 0, ?_, by rw [HO.out]; rfl, by rw [hCC]; exact HB.out⟩
    rw [HO.out, HK.out]
    all_goals first | rfl | simp
set_option maxHeartbeats 3200000 in
set_option maxRecDepth 20000 in
theorem only_0 (pl sq kd nn : Int) (us : List Int) (ti wd ht ax ay : Int) (A : Option Addr) (m c B : Nat) (w : World) (hr : Reads w B 1 A m (nums .i64 us)) (hB : B ≤ w.heap.size) (_hm : m ≤ 1000000) (hk : ¬ (kd = 1 ∨ kd = 2 ∨ kd = 3 ∨ kd = 4 ∨ kd = 5 ∨ kd = 6 ∨ kd = 7)) :
    Calls Try.prog 44 #[.agg #[.int .i64 pl, .int .i64 sq, .int .i64 kd, .int .i64 nn, .slice A m c, .int .i64 ti, .int .i64 wd, .int .i64 ht, .int .i64 ax, .int .i64 ay]] w (GivesOnly w ⟨pl, sq, kd, nn, us, ti, wd, ht, ax, ay⟩) := by
  have hll : us.length = m := by have := hr.1; simpa [nums] using this
  have hO : onlyC ⟨pl, sq, kd, nn, us, ti, wd, ht, ax, ay⟩ = ⟨pl, sq, kd, 0, [], 0, 0, 0, 0, 0⟩ := onlyC_no hk
  have hK : okC ⟨pl, sq, kd, nn, us, ti, wd, ht, ax, ay⟩ = false := okC_no hk
  replace hr := hr.more hB
  have hb : Below w.heap.size w ((w.alloc (.cells (cmdCs pl sq kd nn A m c ti wd ht ax ay) 28)).alloc (.cells (cmdCs pl sq kd 0 none 0 0 0 0 0 0 0) 28)) := ((Below.refl _ _).alloc (Nat.le_refl _) _).alloc (by simp) _
  have hX : Blk ((w.alloc (.cells (cmdCs pl sq kd nn A m c ti wd ht ax ay) 28)).alloc (.cells (cmdCs pl sq kd 0 none 0 0 0 0 0 0 0) 28)) w.heap.size (cmdCs pl sq kd nn A m c ti wd ht ax ay) 28 := ((Blk.new w _ _).alloc _)
  have hY : Blk ((w.alloc (.cells (cmdCs pl sq kd nn A m c ti wd ht ax ay) 28)).alloc (.cells (cmdCs pl sq kd 0 none 0 0 0 0 0 0 0) 28)) (w.heap.size + 1) (cmdCs pl sq kd 0 none 0 0 0 0 0 0 0) 28 := by
    have := Blk.new (w.alloc (.cells (cmdCs pl sq kd nn A m c ti wd ht ax ay) 28)) (cmdCs pl sq kd 0 none 0 0 0 0 0 0 0) 28
    simpa using this
  have HO := Lib.hid hO
  have HK := Lib.hid hK
  have HLL := Lib.hid hll
  clear hO hK hll
  have y1 : (kd == 1) = false := by rw [beq_eq_false_iff_ne]; omega
  have y2 : (kd == 2) = false := by rw [beq_eq_false_iff_ne]; omega
  have y3 : (kd == 3) = false := by rw [beq_eq_false_iff_ne]; omega
  have y4 : (kd == 4) = false := by rw [beq_eq_false_iff_ne]; omega
  have y5 : (kd == 5) = false := by rw [beq_eq_false_iff_ne]; omega
  have y6 : (kd == 6) = false := by rw [beq_eq_false_iff_ne]; omega
  have y7 : (kd == 7) = false := by rw [beq_eq_false_iff_ne]; omega
  clear hk
  go_enter Try.func44, Try.ntmps44
  go_wp2_with fail
  refine bodyPost_ret (v := .tuple #[cmdV ⟨pl, sq, kd, 0, [], 0, 0, 0, 0, 0⟩ none 0 0, .bool false]) (by simp [results, Try.results44, go_sem, cmdV]) rfl ?_
  refine ⟨none, 0, 0, by rw [HO.out, HK.out], by rw [HO.out]; rfl, ?_⟩
  exact hb
theorem only_is (c : Cmd) (A : Option Addr) (m cc B : Nat) (w : World) (hr : Reads w B 1 A m (nums .i64 c.us)) (hB : B ≤ w.heap.size) (hm : m ≤ 1000000) :
    Calls Try.prog 44 #[cmdV c A m cc] w (GivesOnly w c) := by
  obtain ⟨pl, sq, kd, nn, us, ti, wd, ht, ax, ay⟩ := c
  by_cases hk : kd = 1 ∨ kd = 2 ∨ kd = 3 ∨ kd = 4 ∨ kd = 5 ∨ kd = 6 ∨ kd = 7
  · rcases hk with rfl | rfl | rfl | rfl | rfl | rfl | rfl
    · exact only_1 pl sq nn us ti wd ht ax ay A m cc B w hr hB hm
    · exact only_2 pl sq nn us ti wd ht ax ay A m cc B w hr hB hm
    · exact only_3 pl sq nn us ti wd ht ax ay A m cc B w hr hB hm
    · exact only_4 pl sq nn us ti wd ht ax ay A m cc B w hr hB hm
    · exact only_5 pl sq nn us ti wd ht ax ay A m cc B w hr hB hm
    · exact only_6 pl sq nn us ti wd ht ax ay A m cc B w hr hB hm
    · exact only_7 pl sq nn us ti wd ht ax ay A m cc B w hr hB hm
  · exact only_0 pl sq kd nn us ti wd ht ax ay A m cc B w hr hB hm hk
end Go.Proofs.Ytneigplmgellcaa
