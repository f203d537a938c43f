/- The page's bytes of a command. -/
import Derived.Test.YtneigplmgellcaaRefUBytes
namespace Go.Proofs.Ytneigplmgellcaa
set_option maxRecDepth 20000
open Go.RowKit

theorem ref_int_p (n : Int) (w : World) (h0 : -1099511627776 ≤ n) (h1 : n ≤ 1099511627776) : Calls Try.prog 37 #[.int .i64 n] w (GivesBytes w.heap.size w (put (zig n))) := ref_int n w (by omega) (by omega)
theorem zig_nine {n : Int} (h0 : -1099511627776 ≤ n) (h1 : n ≤ 1099511627776) : (put (zig n)).length ≤ 9 := put_nine (by have := zig_lt (n := n) (by omega) (by omega); omega)
theorem encU_len {us : List Int} (h : ∀ x ∈ us, 0 ≤ x ∧ x ≤ 9223372036854775807) (hn : us.length ≤ 100) : (encU us).length ≤ 1000 := by
  have h1 := encL_len h
  have h2 := put_nine (n := us.length) (by omega)
  simp only [encU, List.length_append]; omega
/-- What the cells of a box hold as long as what lies below B is as it was. -/
theorem box_cell {W w' : World} {C B : Nat} {cs : Array Value} {t : TypeId} (h : Blk W C cs t) (hb : Below B W w') (hB : C < B) (i : Nat) (v : Value) (hv : cs[i]? = some v) : w'.cell? ⟨C, i, none⟩ = some v := (h.below hb hB).cell hv


set_option maxHeartbeats 6400000 in
set_option maxRecDepth 20000 in
theorem ref_bytes1 (pl sq nn : Int) (us : List Int) (ti wd ht ax ay : Int) (hmay : mayC ⟨pl, sq, 1, nn, us, ti, wd, ht, ax, ay⟩ = true) (A : Option Addr) (m cc B0 : Nat) (w : World) (hr : Reads w B0 1 A m (nums .i64 us)) (hB0 : B0 ≤ w.heap.size) :
    Calls Try.prog 20 #[.agg #[.int .i64 pl, .int .i64 sq, .int .i64 1, .int .i64 nn, .slice A m cc, .int .i64 ti, .int .i64 wd, .int .i64 ht, .int .i64 ax, .int .i64 ay]] w (GivesBytes w.heap.size w (encC ⟨pl, sq, 1, nn, us, ti, wd, ht, ax, ay⟩)) := by
  obtain ⟨i0, hi0, hz0, hz1, hz2⟩ := info_parts info_u8
  simp only [mayC, Bool.and_eq_true, inB_iff] at hmay
  obtain ⟨⟨⟨p1, p2⟩, q1, q2⟩, hk⟩ := hmay
  simp only [mayK, Int.reduceEq, if_false, if_true, Bool.and_eq_true, inB_iff, decide_eq_true_eq, beq_iff_eq] at hk
  obtain ⟨⟨⟨⟨⟨⟨⟨a1, a2⟩, a3, a4⟩, a5, a6⟩, e1⟩, e2⟩, e3⟩, e4⟩ := hk
  clear e1 e2 e3 e4
  have hr := hr.more hB0
  have hZ : ((((putI 1 ++ putI pl) ++ putI sq) ++ putI nn) ++ put (zig ax)) ++ put (zig ay) = encC ⟨pl, sq, 1, nn, us, ti, wd, ht, ax, ay⟩ := by simp [encC, encK]
  have Pk := Lib.hid (fun W => ref_num_p (1) W (by omega) (by omega))
  have hyk := putI_nine (n := (1)) (by omega) (by omega)
  have Ppl := Lib.hid (fun W => ref_num_p (pl) W (by omega) (by omega))
  have hypl := putI_nine (n := (pl)) (by omega) (by omega)
  have Psq := Lib.hid (fun W => ref_num_p (sq) W (by omega) (by omega))
  have hysq := putI_nine (n := (sq)) (by omega) (by omega)
  have Pnn := Lib.hid (fun W => ref_num_p (nn) W (by omega) (by omega))
  have hynn := putI_nine (n := (nn)) (by omega) (by omega)
  have Pax := Lib.hid (fun W => ref_int_p ax W a3 a4)
  have hyax := zig_nine a3 a4
  have Pay := Lib.hid (fun W => ref_int_p ay W a5 a6)
  have hyay := zig_nine a5 a6
  generalize putI 1 = yk at *
  generalize putI pl = ypl at *
  generalize putI sq = ysq at *
  generalize putI nn = ynn at *
  generalize put (zig ax) = yax at *
  generalize put (zig ay) = yay at *
  have HZ := Lib.hid hZ
  clear hZ
  go_enter Try.func20, Try.ntmps20
  go_wp2_with fail
  have hC := Blk.new w (cmdCs pl sq 1 nn A m cc ti wd ht ax ay) 28
  have hb : Below w.heap.size w (w.alloc (.cells (cmdCs pl sq 1 nn A m cc ti wd ht ax ay) 28)) := (Below.refl _ _).alloc (Nat.le_refl _) _
  have hsz : (w.alloc (.cells (cmdCs pl sq 1 nn A m cc ti wd ht ax ay) 28)).heap.size = w.heap.size + 1 := by simp
  generalize hCC : w.heap.size = C at *
  generalize w.alloc (.cells (cmdCs pl sq 1 nn A m cc ti wd ht ax ay) 28) = W0 at *
  have HB : Below (C + 1) W0 W0.drew := (Below.refl _ _).drew
  have hs1 : C + 1 ≤ W0.drew.heap.size := by rw [← hsz]; exact Nat.le_refl _
  have cA : yk.length + ypl.length ≤ maxLen := by unfold maxLen; omega
  have cB : (yk.length + ypl.length) * 1 ≤ 140737488355328 := by omega
  have SD : (fun w' => w'.cell? ⟨C, 2, none⟩ = some (.int .i64 1) ∧ w'.cell? ⟨C, 0, none⟩ = some (.int .i64 pl) ∧ Below (C + 1) W0 w') W0.drew := ⟨box_cell hC HB (Nat.lt_succ_self _) 2 _ rfl, box_cell hC HB (Nat.lt_succ_self _) 0 _ rfl, HB⟩
  go_region_held3 (fun w' => w'.cell? ⟨C, 2, none⟩ = some (.int .i64 1) ∧ w'.cell? ⟨C, 0, none⟩ = some (.int .i64 pl) ∧ Below (C + 1) W0 w')
    (first | exact SD | assumption)
    (first
      | (go_at_call 36; (with_reducible refine Calls.mono (Pk.out _) ?_); rintro e wn ⟨Ak, ck, rfl, hOk, hbn⟩; replace hOk := own_mono hOk hs1; (try replace hOpl := own_below hOpl hbn); replace HB := HB.trans (hbn.mono hs1); replace hs1 := Nat.le_trans hs1 hbn.size; have SD : (fun w' => w'.cell? ⟨C, 2, none⟩ = some (.int .i64 1) ∧ w'.cell? ⟨C, 0, none⟩ = some (.int .i64 pl) ∧ Below (C + 1) W0 w') wn := ⟨box_cell hC HB (Nat.lt_succ_self _) 2 _ rfl, box_cell hC HB (Nat.lt_succ_self _) 0 _ rfl, HB⟩)
      | (go_at_call 36; (with_reducible refine Calls.mono (Ppl.out _) ?_); rintro e wn ⟨Apl, cpl, rfl, hOpl, hbn⟩; replace hOpl := own_mono hOpl hs1; (try replace hOk := own_below hOk hbn); replace HB := HB.trans (hbn.mono hs1); replace hs1 := Nat.le_trans hs1 hbn.size; have SD : (fun w' => w'.cell? ⟨C, 2, none⟩ = some (.int .i64 1) ∧ w'.cell? ⟨C, 0, none⟩ = some (.int .i64 pl) ∧ Below (C + 1) W0 w') wn := ⟨box_cell hC HB (Nat.lt_succ_self _) 2 _ rfl, box_cell hC HB (Nat.lt_succ_self _) 0 _ rfl, HB⟩)
      | (refine step_append_reads2 _ (by rfl) (.tmp 6) (.tmp 9) _ (by rfl) (C + 1) 5 i0 _ 1 1 Try.underlying29 hi0 hz0 hz1 hz2 rfl Nat.one_pos (.slice Ak yk.length ck) _ _ (by rfl) hOk _ _ _ _ _ (by rfl) (Reads.of_own hOpl) (nums_one _ _) cA cB hs1 ?_; intro A5 c5 wn hown _ hbn _; replace HB := HB.trans hbn; replace hs1 := Nat.le_trans hs1 hbn.size; have SD : (fun w' => w'.cell? ⟨C, 2, none⟩ = some (.int .i64 1) ∧ w'.cell? ⟨C, 0, none⟩ = some (.int .i64 pl) ∧ Below (C + 1) W0 w') wn := ⟨box_cell hC HB (Nat.lt_succ_self _) 2 _ rfl, box_cell hC HB (Nat.lt_succ_self _) 0 _ rfl, HB⟩))
  all_goals
    rw [← nums_app] at hown
    generalize yk ++ ypl = z1 at *
    have hn1 : yk.length + ypl.length ≤ 18 := by omega
    generalize yk.length + ypl.length = n1 at *
    replace hb := hb.trans (HB.mono (Nat.le_succ _))
    replace hC := hC.below HB (Nat.lt_succ_self _)
    clear SD HB
    have k0 := hC.cell (i := 0) rfl
    have k1 := hC.cell (i := 1) rfl
    have k2 := hC.cell (i := 2) rfl
    have k3 := hC.cell (i := 3) rfl
    have k4 := hC.cell (i := 4) rfl
    have k5 := hC.cell (i := 5) rfl
    have k6 := hC.cell (i := 6) rfl
    have k7 := hC.cell (i := 7) rfl
    have k8 := hC.cell (i := 8) rfl
    have k9 := hC.cell (i := 9) rfl
    go_wp2_with fail
    refine Calls.mono (Psq.out _) ?_
    rintro e u2 ⟨Ay, cy, rfl, hOy, hby⟩
    clear k0 k1 k2 k3 k4 k5 k6 k7 k8 k9
    replace hown := own_below hown hby
    replace hb := hb.trans (hby.mono (Nat.le_trans (Nat.le_succ C) hs1))
    replace hC := hC.below hby hC.lt
    replace hs1 := Nat.le_trans hs1 hby.size
    have hRy := Reads.of_own hOy
    have cA : n1 + ysq.length ≤ maxLen := by unfold maxLen; omega
    have cB : (n1 + ysq.length) * 1 ≤ 140737488355328 := by omega
    have k0 := hC.cell (i := 0) rfl
    have k1 := hC.cell (i := 1) rfl
    have k2 := hC.cell (i := 2) rfl
    have k3 := hC.cell (i := 3) rfl
    have k4 := hC.cell (i := 4) rfl
    have k5 := hC.cell (i := 5) rfl
    have k6 := hC.cell (i := 6) rfl
    have k7 := hC.cell (i := 7) rfl
    have k8 := hC.cell (i := 8) rfl
    have k9 := hC.cell (i := 9) rfl
    go_wp2_with (at_builtin; refine wpList_append_reads2 u2 rfl (.tmp 11) (.tmp 14) _ rfl (C + 1) 5 i0 _ 1 1 Try.underlying29 hi0 hz0 hz1 hz2 rfl Nat.one_pos (.slice A5 n1 c5) _ _ rfl hown _ _ _ _ _ rfl hRy (nums_one _ _) cA cB hs1 ?_; intro B2 d2 v2 hownN _ hbn _; have hCn := hC.below hbn (Nat.lt_succ_self _); have m0 := hCn.cell (i := 0) rfl; have m1 := hCn.cell (i := 1) rfl; have m2 := hCn.cell (i := 2) rfl; have m3 := hCn.cell (i := 3) rfl; have m4 := hCn.cell (i := 4) rfl; have m5 := hCn.cell (i := 5) rfl; have m6 := hCn.cell (i := 6) rfl; have m7 := hCn.cell (i := 7) rfl; have m8 := hCn.cell (i := 8) rfl; have m9 := hCn.cell (i := 9) rfl)
    rw [← nums_app] at hownN
    replace hb := hb.trans (hbn.mono (Nat.le_succ _))
    replace hs1 := Nat.le_trans hs1 hbn.size
    clear hown hC hOy hRy cA cB hbn hby k0 m0 k1 m1 k2 m2 k3 m3 k4 m4 k5 m5 k6 m6 k7 m7 k8 m8 k9 m9
    have hown := hownN
    have hC := hCn
    clear hownN hCn
    generalize z1 ++ ysq = z2 at *
    have hn2 : n1 + ysq.length ≤ 27 := by omega
    generalize n1 + ysq.length = n2 at *
    have k0 := hC.cell (i := 0) rfl
    have k1 := hC.cell (i := 1) rfl
    have k2 := hC.cell (i := 2) rfl
    have k3 := hC.cell (i := 3) rfl
    have k4 := hC.cell (i := 4) rfl
    have k5 := hC.cell (i := 5) rfl
    have k6 := hC.cell (i := 6) rfl
    have k7 := hC.cell (i := 7) rfl
    have k8 := hC.cell (i := 8) rfl
    have k9 := hC.cell (i := 9) rfl
    refine Calls.mono (Pnn.out _) ?_
    rintro e u3 ⟨Ay, cy, rfl, hOy, hby⟩
    clear k0 k1 k2 k3 k4 k5 k6 k7 k8 k9
    replace hown := own_below hown hby
    replace hb := hb.trans (hby.mono (Nat.le_trans (Nat.le_succ C) hs1))
    replace hC := hC.below hby hC.lt
    replace hs1 := Nat.le_trans hs1 hby.size
    have hRy := Reads.of_own hOy
    have cA : n2 + ynn.length ≤ maxLen := by unfold maxLen; omega
    have cB : (n2 + ynn.length) * 1 ≤ 140737488355328 := by omega
    have k0 := hC.cell (i := 0) rfl
    have k1 := hC.cell (i := 1) rfl
    have k2 := hC.cell (i := 2) rfl
    have k3 := hC.cell (i := 3) rfl
    have k4 := hC.cell (i := 4) rfl
    have k5 := hC.cell (i := 5) rfl
    have k6 := hC.cell (i := 6) rfl
    have k7 := hC.cell (i := 7) rfl
    have k8 := hC.cell (i := 8) rfl
    have k9 := hC.cell (i := 9) rfl
    go_wp2_with (at_builtin; refine wpList_append_reads2 u3 rfl (.tmp 20) (.tmp 23) _ rfl (C + 1) 5 i0 _ 1 1 Try.underlying29 hi0 hz0 hz1 hz2 rfl Nat.one_pos (.slice B2 n2 d2) _ _ rfl hown _ _ _ _ _ rfl hRy (nums_one _ _) cA cB hs1 ?_; intro B3 d3 v3 hownN _ hbn _; have hCn := hC.below hbn (Nat.lt_succ_self _); have m0 := hCn.cell (i := 0) rfl; have m1 := hCn.cell (i := 1) rfl; have m2 := hCn.cell (i := 2) rfl; have m3 := hCn.cell (i := 3) rfl; have m4 := hCn.cell (i := 4) rfl; have m5 := hCn.cell (i := 5) rfl; have m6 := hCn.cell (i := 6) rfl; have m7 := hCn.cell (i := 7) rfl; have m8 := hCn.cell (i := 8) rfl; have m9 := hCn.cell (i := 9) rfl)
    rw [← nums_app] at hownN
    replace hb := hb.trans (hbn.mono (Nat.le_succ _))
    replace hs1 := Nat.le_trans hs1 hbn.size
    clear hown hC hOy hRy cA cB hbn hby k0 m0 k1 m1 k2 m2 k3 m3 k4 m4 k5 m5 k6 m6 k7 m7 k8 m8 k9 m9
    have hown := hownN
    have hC := hCn
    clear hownN hCn
    generalize z2 ++ ynn = z3 at *
    have hn3 : n2 + ynn.length ≤ 36 := by omega
    generalize n2 + ynn.length = n3 at *
    have k0 := hC.cell (i := 0) rfl
    have k1 := hC.cell (i := 1) rfl
    have k2 := hC.cell (i := 2) rfl
    have k3 := hC.cell (i := 3) rfl
    have k4 := hC.cell (i := 4) rfl
    have k5 := hC.cell (i := 5) rfl
    have k6 := hC.cell (i := 6) rfl
    have k7 := hC.cell (i := 7) rfl
    have k8 := hC.cell (i := 8) rfl
    have k9 := hC.cell (i := 9) rfl
    refine Calls.mono (Pax.out _) ?_
    rintro e u4 ⟨Ay, cy, rfl, hOy, hby⟩
    clear k0 k1 k2 k3 k4 k5 k6 k7 k8 k9
    replace hown := own_below hown hby
    replace hb := hb.trans (hby.mono (Nat.le_trans (Nat.le_succ C) hs1))
    replace hC := hC.below hby hC.lt
    replace hs1 := Nat.le_trans hs1 hby.size
    have hRy := Reads.of_own hOy
    have cA : n3 + yax.length ≤ maxLen := by unfold maxLen; omega
    have cB : (n3 + yax.length) * 1 ≤ 140737488355328 := by omega
    have k0 := hC.cell (i := 0) rfl
    have k1 := hC.cell (i := 1) rfl
    have k2 := hC.cell (i := 2) rfl
    have k3 := hC.cell (i := 3) rfl
    have k4 := hC.cell (i := 4) rfl
    have k5 := hC.cell (i := 5) rfl
    have k6 := hC.cell (i := 6) rfl
    have k7 := hC.cell (i := 7) rfl
    have k8 := hC.cell (i := 8) rfl
    have k9 := hC.cell (i := 9) rfl
    go_wp2_with (at_builtin; refine wpList_append_reads2 u4 rfl (.tmp 25) (.tmp 29) _ rfl (C + 1) 5 i0 _ 1 1 Try.underlying29 hi0 hz0 hz1 hz2 rfl Nat.one_pos (.slice B3 n3 d3) _ _ rfl hown _ _ _ _ _ rfl hRy (nums_one _ _) cA cB hs1 ?_; intro B4 d4 v4 hownN _ hbn _; have hCn := hC.below hbn (Nat.lt_succ_self _); have m0 := hCn.cell (i := 0) rfl; have m1 := hCn.cell (i := 1) rfl; have m2 := hCn.cell (i := 2) rfl; have m3 := hCn.cell (i := 3) rfl; have m4 := hCn.cell (i := 4) rfl; have m5 := hCn.cell (i := 5) rfl; have m6 := hCn.cell (i := 6) rfl; have m7 := hCn.cell (i := 7) rfl; have m8 := hCn.cell (i := 8) rfl; have m9 := hCn.cell (i := 9) rfl)
    rw [← nums_app] at hownN
    replace hb := hb.trans (hbn.mono (Nat.le_succ _))
    replace hs1 := Nat.le_trans hs1 hbn.size
    clear hown hC hOy hRy cA cB hbn hby k0 m0 k1 m1 k2 m2 k3 m3 k4 m4 k5 m5 k6 m6 k7 m7 k8 m8 k9 m9
    have hown := hownN
    have hC := hCn
    clear hownN hCn
    generalize z3 ++ yax = z4 at *
    have hn4 : n3 + yax.length ≤ 45 := by omega
    generalize n3 + yax.length = n4 at *
    have k0 := hC.cell (i := 0) rfl
    have k1 := hC.cell (i := 1) rfl
    have k2 := hC.cell (i := 2) rfl
    have k3 := hC.cell (i := 3) rfl
    have k4 := hC.cell (i := 4) rfl
    have k5 := hC.cell (i := 5) rfl
    have k6 := hC.cell (i := 6) rfl
    have k7 := hC.cell (i := 7) rfl
    have k8 := hC.cell (i := 8) rfl
    have k9 := hC.cell (i := 9) rfl
    refine Calls.mono (Pay.out _) ?_
    rintro e u5 ⟨Ay, cy, rfl, hOy, hby⟩
    clear k0 k1 k2 k3 k4 k5 k6 k7 k8 k9
    replace hown := own_below hown hby
    replace hb := hb.trans (hby.mono (Nat.le_trans (Nat.le_succ C) hs1))
    replace hC := hC.below hby hC.lt
    replace hs1 := Nat.le_trans hs1 hby.size
    have hRy := Reads.of_own hOy
    have cA : n4 + yay.length ≤ maxLen := by unfold maxLen; omega
    have cB : (n4 + yay.length) * 1 ≤ 140737488355328 := by omega
    have k0 := hC.cell (i := 0) rfl
    have k1 := hC.cell (i := 1) rfl
    have k2 := hC.cell (i := 2) rfl
    have k3 := hC.cell (i := 3) rfl
    have k4 := hC.cell (i := 4) rfl
    have k5 := hC.cell (i := 5) rfl
    have k6 := hC.cell (i := 6) rfl
    have k7 := hC.cell (i := 7) rfl
    have k8 := hC.cell (i := 8) rfl
    have k9 := hC.cell (i := 9) rfl
    go_wp2_with (at_builtin; refine wpList_append_reads2 u5 rfl (.tmp 31) (.tmp 35) _ rfl (C + 1) 5 i0 _ 1 1 Try.underlying29 hi0 hz0 hz1 hz2 rfl Nat.one_pos (.slice B4 n4 d4) _ _ rfl hown _ _ _ _ _ rfl hRy (nums_one _ _) cA cB hs1 ?_; intro B5 d5 v5 hownN _ hbn _; have hCn := hC.below hbn (Nat.lt_succ_self _); have m0 := hCn.cell (i := 0) rfl; have m1 := hCn.cell (i := 1) rfl; have m2 := hCn.cell (i := 2) rfl; have m3 := hCn.cell (i := 3) rfl; have m4 := hCn.cell (i := 4) rfl; have m5 := hCn.cell (i := 5) rfl; have m6 := hCn.cell (i := 6) rfl; have m7 := hCn.cell (i := 7) rfl; have m8 := hCn.cell (i := 8) rfl; have m9 := hCn.cell (i := 9) rfl)
    rw [← nums_app] at hownN
    replace hb := hb.trans (hbn.mono (Nat.le_succ _))
    replace hs1 := Nat.le_trans hs1 hbn.size
    clear hown hC hOy hRy cA cB hbn hby k0 m0 k1 m1 k2 m2 k3 m3 k4 m4 k5 m5 k6 m6 k7 m7 k8 m8 k9 m9
    have hown := hownN
    have hC := hCn
    clear hownN hCn
    generalize z4 ++ yay = z5 at *
    have hn5 : n4 + yay.length ≤ 54 := by omega
    generalize n4 + yay.length = n5 at *
    have k0 := hC.cell (i := 0) rfl
    have k1 := hC.cell (i := 1) rfl
    have k2 := hC.cell (i := 2) rfl
    have k3 := hC.cell (i := 3) rfl
    have k4 := hC.cell (i := 4) rfl
    have k5 := hC.cell (i := 5) rfl
    have k6 := hC.cell (i := 6) rfl
    have k7 := hC.cell (i := 7) rfl
    have k8 := hC.cell (i := 8) rfl
    have k9 := hC.cell (i := 9) rfl
    go_ret
    rw [HZ.out] at hown
    have hl := own_nums hown
    rw [hl] at hown ⊢
    exact ⟨B5, d5, rfl, own_mono hown (Nat.le_succ _), hb⟩

set_option maxHeartbeats 6400000 in
set_option maxRecDepth 20000 in
theorem ref_bytes2 (pl sq nn : Int) (us : List Int) (ti wd ht ax ay : Int) (hmay : mayC ⟨pl, sq, 2, nn, us, ti, wd, ht, ax, ay⟩ = true) (A : Option Addr) (m cc B0 : Nat) (w : World) (hr : Reads w B0 1 A m (nums .i64 us)) (hB0 : B0 ≤ w.heap.size) :
    Calls Try.prog 20 #[.agg #[.int .i64 pl, .int .i64 sq, .int .i64 2, .int .i64 nn, .slice A m cc, .int .i64 ti, .int .i64 wd, .int .i64 ht, .int .i64 ax, .int .i64 ay]] w (GivesBytes w.heap.size w (encC ⟨pl, sq, 2, nn, us, ti, wd, ht, ax, ay⟩)) := by
  obtain ⟨i0, hi0, hz0, hz1, hz2⟩ := info_parts info_u8
  simp only [mayC, Bool.and_eq_true, inB_iff] at hmay
  obtain ⟨⟨⟨p1, p2⟩, q1, q2⟩, hk⟩ := hmay
  simp only [mayK, Int.reduceEq, if_false, if_true, Bool.and_eq_true, inB_iff, beq_iff_eq] at hk
  obtain ⟨⟨⟨⟨⟨⟨a1, a3, a4⟩, e1⟩, e2⟩, e3⟩, e4⟩, e5⟩ := hk
  clear e1 e2 e3 e4 e5
  have hr := hr.more hB0
  obtain ⟨u1, u2, _, u4⟩ := okUs_iff.1 a1
  have b_us : ∀ x ∈ us, 0 ≤ x ∧ x ≤ 9223372036854775807 := fun x hx => by have := u4 x hx; omega
  have hml : us.length = m := by have := hr.1; simpa [nums] using this
  clear u4 a1
  have hZ : (((putI 2 ++ putI pl) ++ putI sq) ++ encU us) ++ putI ti = encC ⟨pl, sq, 2, nn, us, ti, wd, ht, ax, ay⟩ := by simp [encC, encK]
  have Pk := Lib.hid (fun W => ref_num_p (2) W (by omega) (by omega))
  have hyk := putI_nine (n := (2)) (by omega) (by omega)
  have Ppl := Lib.hid (fun W => ref_num_p (pl) W (by omega) (by omega))
  have hypl := putI_nine (n := (pl)) (by omega) (by omega)
  have Psq := Lib.hid (fun W => ref_num_p (sq) W (by omega) (by omega))
  have hysq := putI_nine (n := (sq)) (by omega) (by omega)
  have Pus := Lib.hid (fun W (h : Reads W (w.heap.size + 1) 1 A m (nums .i64 us)) (hs : w.heap.size + 1 ≤ W.heap.size) => ref_ubytes A m cc (w.heap.size + 1) us W h hs b_us (by omega))
  have hyus := encU_len b_us (by omega)
  have Pti := Lib.hid (fun W => ref_num_p (ti) W (by omega) (by omega))
  have hyti := putI_nine (n := (ti)) (by omega) (by omega)
  generalize putI 2 = yk at *
  generalize putI pl = ypl at *
  generalize putI sq = ysq at *
  generalize encU us = yus at *
  generalize putI ti = yti at *
  have HZ := Lib.hid hZ
  clear hZ
  go_enter Try.func20, Try.ntmps20
  go_wp2_with fail
  have hC := Blk.new w (cmdCs pl sq 2 nn A m cc ti wd ht ax ay) 28
  have hb : Below w.heap.size w (w.alloc (.cells (cmdCs pl sq 2 nn A m cc ti wd ht ax ay) 28)) := (Below.refl _ _).alloc (Nat.le_refl _) _
  have hsz : (w.alloc (.cells (cmdCs pl sq 2 nn A m cc ti wd ht ax ay) 28)).heap.size = w.heap.size + 1 := by simp
  generalize hCC : w.heap.size = C at *
  generalize w.alloc (.cells (cmdCs pl sq 2 nn A m cc ti wd ht ax ay) 28) = W0 at *
  have HB : Below (C + 1) W0 W0.drew := (Below.refl _ _).drew
  have hs1 : C + 1 ≤ W0.drew.heap.size := by rw [← hsz]; exact Nat.le_refl _
  have cA : yk.length + ypl.length ≤ maxLen := by unfold maxLen; omega
  have cB : (yk.length + ypl.length) * 1 ≤ 140737488355328 := by omega
  have SD : (fun w' => w'.cell? ⟨C, 2, none⟩ = some (.int .i64 2) ∧ w'.cell? ⟨C, 0, none⟩ = some (.int .i64 pl) ∧ Below (C + 1) W0 w') W0.drew := ⟨box_cell hC HB (Nat.lt_succ_self _) 2 _ rfl, box_cell hC HB (Nat.lt_succ_self _) 0 _ rfl, HB⟩
  go_region_held3 (fun w' => w'.cell? ⟨C, 2, none⟩ = some (.int .i64 2) ∧ w'.cell? ⟨C, 0, none⟩ = some (.int .i64 pl) ∧ Below (C + 1) W0 w')
    (first | exact SD | assumption)
    (first
      | (go_at_call 36; (with_reducible refine Calls.mono (Pk.out _) ?_); rintro e wn ⟨Ak, ck, rfl, hOk, hbn⟩; replace hOk := own_mono hOk hs1; (try replace hOpl := own_below hOpl hbn); replace HB := HB.trans (hbn.mono hs1); replace hs1 := Nat.le_trans hs1 hbn.size; have SD : (fun w' => w'.cell? ⟨C, 2, none⟩ = some (.int .i64 2) ∧ w'.cell? ⟨C, 0, none⟩ = some (.int .i64 pl) ∧ Below (C + 1) W0 w') wn := ⟨box_cell hC HB (Nat.lt_succ_self _) 2 _ rfl, box_cell hC HB (Nat.lt_succ_self _) 0 _ rfl, HB⟩)
      | (go_at_call 36; (with_reducible refine Calls.mono (Ppl.out _) ?_); rintro e wn ⟨Apl, cpl, rfl, hOpl, hbn⟩; replace hOpl := own_mono hOpl hs1; (try replace hOk := own_below hOk hbn); replace HB := HB.trans (hbn.mono hs1); replace hs1 := Nat.le_trans hs1 hbn.size; have SD : (fun w' => w'.cell? ⟨C, 2, none⟩ = some (.int .i64 2) ∧ w'.cell? ⟨C, 0, none⟩ = some (.int .i64 pl) ∧ Below (C + 1) W0 w') wn := ⟨box_cell hC HB (Nat.lt_succ_self _) 2 _ rfl, box_cell hC HB (Nat.lt_succ_self _) 0 _ rfl, HB⟩)
      | (refine step_append_reads2 _ (by rfl) (.tmp 6) (.tmp 9) _ (by rfl) (C + 1) 5 i0 _ 1 1 Try.underlying29 hi0 hz0 hz1 hz2 rfl Nat.one_pos (.slice Ak yk.length ck) _ _ (by rfl) hOk _ _ _ _ _ (by rfl) (Reads.of_own hOpl) (nums_one _ _) cA cB hs1 ?_; intro A5 c5 wn hown _ hbn _; replace HB := HB.trans hbn; replace hs1 := Nat.le_trans hs1 hbn.size; have SD : (fun w' => w'.cell? ⟨C, 2, none⟩ = some (.int .i64 2) ∧ w'.cell? ⟨C, 0, none⟩ = some (.int .i64 pl) ∧ Below (C + 1) W0 w') wn := ⟨box_cell hC HB (Nat.lt_succ_self _) 2 _ rfl, box_cell hC HB (Nat.lt_succ_self _) 0 _ rfl, HB⟩))
  all_goals
    rw [← nums_app] at hown
    generalize yk ++ ypl = z1 at *
    have hn1 : yk.length + ypl.length ≤ 18 := by omega
    generalize yk.length + ypl.length = n1 at *
    replace hb := hb.trans (HB.mono (Nat.le_succ _))
    replace hC := hC.below HB (Nat.lt_succ_self _)
    clear SD HB
    have k0 := hC.cell (i := 0) rfl
    have k1 := hC.cell (i := 1) rfl
    have k2 := hC.cell (i := 2) rfl
    have k3 := hC.cell (i := 3) rfl
    have k4 := hC.cell (i := 4) rfl
    have k5 := hC.cell (i := 5) rfl
    have k6 := hC.cell (i := 6) rfl
    have k7 := hC.cell (i := 7) rfl
    have k8 := hC.cell (i := 8) rfl
    have k9 := hC.cell (i := 9) rfl
    go_wp2_with fail
    refine Calls.mono (Psq.out _) ?_
    rintro e u2 ⟨Ay, cy, rfl, hOy, hby⟩
    clear k0 k1 k2 k3 k4 k5 k6 k7 k8 k9
    replace hown := own_below hown hby
    replace hb := hb.trans (hby.mono (Nat.le_trans (Nat.le_succ C) hs1))
    replace hC := hC.below hby hC.lt
    replace hs1 := Nat.le_trans hs1 hby.size
    have hRy := Reads.of_own hOy
    have cA : n1 + ysq.length ≤ maxLen := by unfold maxLen; omega
    have cB : (n1 + ysq.length) * 1 ≤ 140737488355328 := by omega
    have k0 := hC.cell (i := 0) rfl
    have k1 := hC.cell (i := 1) rfl
    have k2 := hC.cell (i := 2) rfl
    have k3 := hC.cell (i := 3) rfl
    have k4 := hC.cell (i := 4) rfl
    have k5 := hC.cell (i := 5) rfl
    have k6 := hC.cell (i := 6) rfl
    have k7 := hC.cell (i := 7) rfl
    have k8 := hC.cell (i := 8) rfl
    have k9 := hC.cell (i := 9) rfl
    go_wp2_with (at_builtin; refine wpList_append_reads2 u2 rfl (.tmp 11) (.tmp 14) _ rfl (C + 1) 5 i0 _ 1 1 Try.underlying29 hi0 hz0 hz1 hz2 rfl Nat.one_pos (.slice A5 n1 c5) _ _ rfl hown _ _ _ _ _ rfl hRy (nums_one _ _) cA cB hs1 ?_; intro B2 d2 v2 hownN _ hbn _; have hCn := hC.below hbn (Nat.lt_succ_self _); have m0 := hCn.cell (i := 0) rfl; have m1 := hCn.cell (i := 1) rfl; have m2 := hCn.cell (i := 2) rfl; have m3 := hCn.cell (i := 3) rfl; have m4 := hCn.cell (i := 4) rfl; have m5 := hCn.cell (i := 5) rfl; have m6 := hCn.cell (i := 6) rfl; have m7 := hCn.cell (i := 7) rfl; have m8 := hCn.cell (i := 8) rfl; have m9 := hCn.cell (i := 9) rfl)
    rw [← nums_app] at hownN
    replace hb := hb.trans (hbn.mono (Nat.le_succ _))
    replace hs1 := Nat.le_trans hs1 hbn.size
    clear hown hC hOy hRy cA cB hbn hby k0 m0 k1 m1 k2 m2 k3 m3 k4 m4 k5 m5 k6 m6 k7 m7 k8 m8 k9 m9
    have hown := hownN
    have hC := hCn
    clear hownN hCn
    generalize z1 ++ ysq = z2 at *
    have hn2 : n1 + ysq.length ≤ 27 := by omega
    generalize n1 + ysq.length = n2 at *
    have k0 := hC.cell (i := 0) rfl
    have k1 := hC.cell (i := 1) rfl
    have k2 := hC.cell (i := 2) rfl
    have k3 := hC.cell (i := 3) rfl
    have k4 := hC.cell (i := 4) rfl
    have k5 := hC.cell (i := 5) rfl
    have k6 := hC.cell (i := 6) rfl
    have k7 := hC.cell (i := 7) rfl
    have k8 := hC.cell (i := 8) rfl
    have k9 := hC.cell (i := 9) rfl
    clear k0 k1 k2 k3 k4 k5 k6 k7 k8 k9
    have HB : Below (C + 1) v2 v2.drew := (Below.refl _ _).drew
    have hlt0 : ∀ g, (Value.slice B2 n2 d2).ownBlock = some g → g < v2.heap.size := fun g hg => (hown.lt g hg).2
    have hsW : v2.heap.size ≤ v2.drew.heap.size := Nat.le_refl _
    have hs1 : C + 1 ≤ v2.drew.heap.size := hs1
    replace hown := hown.drew
    have cA : n2 + yus.length ≤ maxLen := by unfold maxLen; omega
    have cB : (n2 + yus.length) * 1 ≤ 140737488355328 := by omega
    have cC : n2 + yus.length + yti.length ≤ maxLen := by unfold maxLen; omega
    have cD : (n2 + yus.length + yti.length) * 1 ≤ 140737488355328 := by omega
    have hrW := (hr.below hb).more (Nat.le_succ _)
    have SD : (fun w' => w'.cell? ⟨C, 4, none⟩ = some (.slice A m cc) ∧ w'.cell? ⟨C, 5, none⟩ = some (.int .i64 ti) ∧ Below (C + 1) v2 w') v2.drew := ⟨box_cell hC HB (Nat.lt_succ_self _) 4 _ rfl, box_cell hC HB (Nat.lt_succ_self _) 5 _ rfl, HB⟩
    go_region_held3 (fun w' => w'.cell? ⟨C, 4, none⟩ = some (.slice A m cc) ∧ w'.cell? ⟨C, 5, none⟩ = some (.int .i64 ti) ∧ Below (C + 1) v2 w')
      (first | exact SD | assumption)
      (first
        | (go_at_call 38; (with_reducible refine Calls.mono (Pus.out _ (hrW.below HB) hs1) ?_); rintro e wn ⟨Aus, cus, rfl, hOus, hbn⟩; replace hOus := own_mono hOus hsW; (try replace hOti := own_below hOti hbn); replace hown := own_below hown hbn; replace HB := HB.trans (hbn.mono hs1); replace hs1 := Nat.le_trans hs1 hbn.size; replace hsW := Nat.le_trans hsW hbn.size; have SD : (fun w' => w'.cell? ⟨C, 4, none⟩ = some (.slice A m cc) ∧ w'.cell? ⟨C, 5, none⟩ = some (.int .i64 ti) ∧ Below (C + 1) v2 w') wn := ⟨box_cell hC HB (Nat.lt_succ_self _) 4 _ rfl, box_cell hC HB (Nat.lt_succ_self _) 5 _ rfl, HB⟩)
        | (go_at_call 36; (with_reducible refine Calls.mono (Pti.out _) ?_); rintro e wn ⟨Ati, cti, rfl, hOti, hbn⟩; replace hOti := own_mono hOti hsW; (try replace hOus := own_below hOus hbn); replace hown := own_below hown hbn; replace HB := HB.trans (hbn.mono hs1); replace hs1 := Nat.le_trans hs1 hbn.size; replace hsW := Nat.le_trans hsW hbn.size; have SD : (fun w' => w'.cell? ⟨C, 4, none⟩ = some (.slice A m cc) ∧ w'.cell? ⟨C, 5, none⟩ = some (.int .i64 ti) ∧ Below (C + 1) v2 w') wn := ⟨box_cell hC HB (Nat.lt_succ_self _) 4 _ rfl, box_cell hC HB (Nat.lt_succ_self _) 5 _ rfl, HB⟩)
        | (refine step_append_reads2 _ (by rfl) (.tmp 39) (.tmp 42) _ (by rfl) (C + 1) 5 i0 _ 1 1 Try.underlying29 hi0 hz0 hz1 hz2 rfl Nat.one_pos (.slice B2 n2 d2) _ _ (by rfl) hown _ _ _ _ _ (by rfl) (Reads.of_own hOus) (nums_one _ _) cA cB hs1 ?_; intro A6 c6 wn hown6 hgn hbn _; (try replace hOti := own_later hOti hgn hlt0); replace hown := hown6; replace HB := HB.trans hbn; replace hs1 := Nat.le_trans hs1 hbn.size; replace hsW := Nat.le_trans hsW hbn.size; have SD : (fun w' => w'.cell? ⟨C, 4, none⟩ = some (.slice A m cc) ∧ w'.cell? ⟨C, 5, none⟩ = some (.int .i64 ti) ∧ Below (C + 1) v2 w') wn := ⟨box_cell hC HB (Nat.lt_succ_self _) 4 _ rfl, box_cell hC HB (Nat.lt_succ_self _) 5 _ rfl, HB⟩)
        | (refine step_append_reads2 _ (by rfl) (.tmp 43) (.tmp 46) _ (by rfl) (C + 1) 5 i0 _ 1 1 Try.underlying29 hi0 hz0 hz1 hz2 rfl Nat.one_pos _ _ _ (by rfl) hown _ _ _ _ _ (by rfl) (Reads.of_own hOti) (nums_one _ _) cC cD hs1 ?_; intro A7 c7 wn hown7 _ hbn _; replace hown := hown7; replace HB := HB.trans hbn; replace hs1 := Nat.le_trans hs1 hbn.size; replace hsW := Nat.le_trans hsW hbn.size; have SD : (fun w' => w'.cell? ⟨C, 4, none⟩ = some (.slice A m cc) ∧ w'.cell? ⟨C, 5, none⟩ = some (.int .i64 ti) ∧ Below (C + 1) v2 w') wn := ⟨box_cell hC HB (Nat.lt_succ_self _) 4 _ rfl, box_cell hC HB (Nat.lt_succ_self _) 5 _ rfl, HB⟩))
    all_goals
      rw [← nums_app, ← nums_app, HZ.out] at hown
      have hl := own_nums hown
      rw [hl] at hown
      replace hb := hb.trans (HB.mono (Nat.le_succ _))
      clear SD HB
      go_wp2_with fail
      go_ret
      rw [hl]
      exact ⟨A7, c7, rfl, own_mono hown (Nat.le_succ _), hb⟩

set_option maxHeartbeats 6400000 in
set_option maxRecDepth 20000 in
theorem ref_bytes3 (pl sq nn : Int) (us : List Int) (ti wd ht ax ay : Int) (hmay : mayC ⟨pl, sq, 3, nn, us, ti, wd, ht, ax, ay⟩ = true) (A : Option Addr) (m cc B0 : Nat) (w : World) (hr : Reads w B0 1 A m (nums .i64 us)) (hB0 : B0 ≤ w.heap.size) :
    Calls Try.prog 20 #[.agg #[.int .i64 pl, .int .i64 sq, .int .i64 3, .int .i64 nn, .slice A m cc, .int .i64 ti, .int .i64 wd, .int .i64 ht, .int .i64 ax, .int .i64 ay]] w (GivesBytes w.heap.size w (encC ⟨pl, sq, 3, nn, us, ti, wd, ht, ax, ay⟩)) := by
  obtain ⟨i0, hi0, hz0, hz1, hz2⟩ := info_parts info_u8
  simp only [mayC, Bool.and_eq_true, inB_iff] at hmay
  obtain ⟨⟨⟨p1, p2⟩, q1, q2⟩, hk⟩ := hmay
  simp only [mayK, Int.reduceEq, if_false, if_true, Bool.and_eq_true, beq_iff_eq] at hk
  obtain ⟨⟨⟨⟨⟨⟨a1, e1⟩, e2⟩, e3⟩, e4⟩, e5⟩, e6⟩ := hk
  clear e1 e2 e3 e4 e5 e6
  have hr := hr.more hB0
  obtain ⟨u1, u2, _, u4⟩ := okUs_iff.1 a1
  have b_us : ∀ x ∈ us, 0 ≤ x ∧ x ≤ 9223372036854775807 := fun x hx => by have := u4 x hx; omega
  have hml : us.length = m := by have := hr.1; simpa [nums] using this
  clear u4 a1
  have hZ : ((putI 3 ++ putI pl) ++ putI sq) ++ encU us = encC ⟨pl, sq, 3, nn, us, ti, wd, ht, ax, ay⟩ := by simp [encC, encK]
  have Pk := Lib.hid (fun W => ref_num_p (3) W (by omega) (by omega))
  have hyk := putI_nine (n := (3)) (by omega) (by omega)
  have Ppl := Lib.hid (fun W => ref_num_p (pl) W (by omega) (by omega))
  have hypl := putI_nine (n := (pl)) (by omega) (by omega)
  have Psq := Lib.hid (fun W => ref_num_p (sq) W (by omega) (by omega))
  have hysq := putI_nine (n := (sq)) (by omega) (by omega)
  have Pus := Lib.hid (fun W (h : Reads W (w.heap.size + 1) 1 A m (nums .i64 us)) (hs : w.heap.size + 1 ≤ W.heap.size) => ref_ubytes A m cc (w.heap.size + 1) us W h hs b_us (by omega))
  have hyus := encU_len b_us (by omega)
  generalize putI 3 = yk at *
  generalize putI pl = ypl at *
  generalize putI sq = ysq at *
  generalize encU us = yus at *
  have HZ := Lib.hid hZ
  clear hZ
  go_enter Try.func20, Try.ntmps20
  go_wp2_with fail
  have hC := Blk.new w (cmdCs pl sq 3 nn A m cc ti wd ht ax ay) 28
  have hb : Below w.heap.size w (w.alloc (.cells (cmdCs pl sq 3 nn A m cc ti wd ht ax ay) 28)) := (Below.refl _ _).alloc (Nat.le_refl _) _
  have hsz : (w.alloc (.cells (cmdCs pl sq 3 nn A m cc ti wd ht ax ay) 28)).heap.size = w.heap.size + 1 := by simp
  generalize hCC : w.heap.size = C at *
  generalize w.alloc (.cells (cmdCs pl sq 3 nn A m cc ti wd ht ax ay) 28) = W0 at *
  have HB : Below (C + 1) W0 W0.drew := (Below.refl _ _).drew
  have hs1 : C + 1 ≤ W0.drew.heap.size := by rw [← hsz]; exact Nat.le_refl _
  have cA : yk.length + ypl.length ≤ maxLen := by unfold maxLen; omega
  have cB : (yk.length + ypl.length) * 1 ≤ 140737488355328 := by omega
  have SD : (fun w' => w'.cell? ⟨C, 2, none⟩ = some (.int .i64 3) ∧ w'.cell? ⟨C, 0, none⟩ = some (.int .i64 pl) ∧ Below (C + 1) W0 w') W0.drew := ⟨box_cell hC HB (Nat.lt_succ_self _) 2 _ rfl, box_cell hC HB (Nat.lt_succ_self _) 0 _ rfl, HB⟩
  go_region_held3 (fun w' => w'.cell? ⟨C, 2, none⟩ = some (.int .i64 3) ∧ w'.cell? ⟨C, 0, none⟩ = some (.int .i64 pl) ∧ Below (C + 1) W0 w')
    (first | exact SD | assumption)
    (first
      | (go_at_call 36; (with_reducible refine Calls.mono (Pk.out _) ?_); rintro e wn ⟨Ak, ck, rfl, hOk, hbn⟩; replace hOk := own_mono hOk hs1; (try replace hOpl := own_below hOpl hbn); replace HB := HB.trans (hbn.mono hs1); replace hs1 := Nat.le_trans hs1 hbn.size; have SD : (fun w' => w'.cell? ⟨C, 2, none⟩ = some (.int .i64 3) ∧ w'.cell? ⟨C, 0, none⟩ = some (.int .i64 pl) ∧ Below (C + 1) W0 w') wn := ⟨box_cell hC HB (Nat.lt_succ_self _) 2 _ rfl, box_cell hC HB (Nat.lt_succ_self _) 0 _ rfl, HB⟩)
      | (go_at_call 36; (with_reducible refine Calls.mono (Ppl.out _) ?_); rintro e wn ⟨Apl, cpl, rfl, hOpl, hbn⟩; replace hOpl := own_mono hOpl hs1; (try replace hOk := own_below hOk hbn); replace HB := HB.trans (hbn.mono hs1); replace hs1 := Nat.le_trans hs1 hbn.size; have SD : (fun w' => w'.cell? ⟨C, 2, none⟩ = some (.int .i64 3) ∧ w'.cell? ⟨C, 0, none⟩ = some (.int .i64 pl) ∧ Below (C + 1) W0 w') wn := ⟨box_cell hC HB (Nat.lt_succ_self _) 2 _ rfl, box_cell hC HB (Nat.lt_succ_self _) 0 _ rfl, HB⟩)
      | (refine step_append_reads2 _ (by rfl) (.tmp 6) (.tmp 9) _ (by rfl) (C + 1) 5 i0 _ 1 1 Try.underlying29 hi0 hz0 hz1 hz2 rfl Nat.one_pos (.slice Ak yk.length ck) _ _ (by rfl) hOk _ _ _ _ _ (by rfl) (Reads.of_own hOpl) (nums_one _ _) cA cB hs1 ?_; intro A5 c5 wn hown _ hbn _; replace HB := HB.trans hbn; replace hs1 := Nat.le_trans hs1 hbn.size; have SD : (fun w' => w'.cell? ⟨C, 2, none⟩ = some (.int .i64 3) ∧ w'.cell? ⟨C, 0, none⟩ = some (.int .i64 pl) ∧ Below (C + 1) W0 w') wn := ⟨box_cell hC HB (Nat.lt_succ_self _) 2 _ rfl, box_cell hC HB (Nat.lt_succ_self _) 0 _ rfl, HB⟩))
  all_goals
    rw [← nums_app] at hown
    generalize yk ++ ypl = z1 at *
    have hn1 : yk.length + ypl.length ≤ 18 := by omega
    generalize yk.length + ypl.length = n1 at *
    replace hb := hb.trans (HB.mono (Nat.le_succ _))
    replace hC := hC.below HB (Nat.lt_succ_self _)
    clear SD HB
    have k0 := hC.cell (i := 0) rfl
    have k1 := hC.cell (i := 1) rfl
    have k2 := hC.cell (i := 2) rfl
    have k3 := hC.cell (i := 3) rfl
    have k4 := hC.cell (i := 4) rfl
    have k5 := hC.cell (i := 5) rfl
    have k6 := hC.cell (i := 6) rfl
    have k7 := hC.cell (i := 7) rfl
    have k8 := hC.cell (i := 8) rfl
    have k9 := hC.cell (i := 9) rfl
    go_wp2_with fail
    refine Calls.mono (Psq.out _) ?_
    rintro e u2 ⟨Ay, cy, rfl, hOy, hby⟩
    clear k0 k1 k2 k3 k4 k5 k6 k7 k8 k9
    replace hown := own_below hown hby
    replace hb := hb.trans (hby.mono (Nat.le_trans (Nat.le_succ C) hs1))
    replace hC := hC.below hby hC.lt
    replace hs1 := Nat.le_trans hs1 hby.size
    have hRy := Reads.of_own hOy
    have cA : n1 + ysq.length ≤ maxLen := by unfold maxLen; omega
    have cB : (n1 + ysq.length) * 1 ≤ 140737488355328 := by omega
    have k0 := hC.cell (i := 0) rfl
    have k1 := hC.cell (i := 1) rfl
    have k2 := hC.cell (i := 2) rfl
    have k3 := hC.cell (i := 3) rfl
    have k4 := hC.cell (i := 4) rfl
    have k5 := hC.cell (i := 5) rfl
    have k6 := hC.cell (i := 6) rfl
    have k7 := hC.cell (i := 7) rfl
    have k8 := hC.cell (i := 8) rfl
    have k9 := hC.cell (i := 9) rfl
    go_wp2_with (at_builtin; refine wpList_append_reads2 u2 rfl (.tmp 11) (.tmp 14) _ rfl (C + 1) 5 i0 _ 1 1 Try.underlying29 hi0 hz0 hz1 hz2 rfl Nat.one_pos (.slice A5 n1 c5) _ _ rfl hown _ _ _ _ _ rfl hRy (nums_one _ _) cA cB hs1 ?_; intro B2 d2 v2 hownN _ hbn _; have hCn := hC.below hbn (Nat.lt_succ_self _); have m0 := hCn.cell (i := 0) rfl; have m1 := hCn.cell (i := 1) rfl; have m2 := hCn.cell (i := 2) rfl; have m3 := hCn.cell (i := 3) rfl; have m4 := hCn.cell (i := 4) rfl; have m5 := hCn.cell (i := 5) rfl; have m6 := hCn.cell (i := 6) rfl; have m7 := hCn.cell (i := 7) rfl; have m8 := hCn.cell (i := 8) rfl; have m9 := hCn.cell (i := 9) rfl)
    rw [← nums_app] at hownN
    replace hb := hb.trans (hbn.mono (Nat.le_succ _))
    replace hs1 := Nat.le_trans hs1 hbn.size
    clear hown hC hOy hRy cA cB hbn hby k0 m0 k1 m1 k2 m2 k3 m3 k4 m4 k5 m5 k6 m6 k7 m7 k8 m8 k9 m9
    have hown := hownN
    have hC := hCn
    clear hownN hCn
    generalize z1 ++ ysq = z2 at *
    have hn2 : n1 + ysq.length ≤ 27 := by omega
    generalize n1 + ysq.length = n2 at *
    have k0 := hC.cell (i := 0) rfl
    have k1 := hC.cell (i := 1) rfl
    have k2 := hC.cell (i := 2) rfl
    have k3 := hC.cell (i := 3) rfl
    have k4 := hC.cell (i := 4) rfl
    have k5 := hC.cell (i := 5) rfl
    have k6 := hC.cell (i := 6) rfl
    have k7 := hC.cell (i := 7) rfl
    have k8 := hC.cell (i := 8) rfl
    have k9 := hC.cell (i := 9) rfl
    refine Calls.mono (Pus.out _ (((hr.below hb).more (Nat.le_succ _))) hs1) ?_
    rintro e u3 ⟨Ay, cy, rfl, hOy, hby⟩
    clear k0 k1 k2 k3 k4 k5 k6 k7 k8 k9
    replace hown := own_below hown hby
    replace hb := hb.trans (hby.mono (Nat.le_trans (Nat.le_succ C) hs1))
    replace hC := hC.below hby hC.lt
    replace hs1 := Nat.le_trans hs1 hby.size
    have hRy := Reads.of_own hOy
    have cA : n2 + yus.length ≤ maxLen := by unfold maxLen; omega
    have cB : (n2 + yus.length) * 1 ≤ 140737488355328 := by omega
    have k0 := hC.cell (i := 0) rfl
    have k1 := hC.cell (i := 1) rfl
    have k2 := hC.cell (i := 2) rfl
    have k3 := hC.cell (i := 3) rfl
    have k4 := hC.cell (i := 4) rfl
    have k5 := hC.cell (i := 5) rfl
    have k6 := hC.cell (i := 6) rfl
    have k7 := hC.cell (i := 7) rfl
    have k8 := hC.cell (i := 8) rfl
    have k9 := hC.cell (i := 9) rfl
    go_wp2_with (at_builtin; refine wpList_append_reads2 u3 rfl (.tmp 50) (.tmp 53) _ rfl (C + 1) 5 i0 _ 1 1 Try.underlying29 hi0 hz0 hz1 hz2 rfl Nat.one_pos (.slice B2 n2 d2) _ _ rfl hown _ _ _ _ _ rfl hRy (nums_one _ _) cA cB hs1 ?_; intro B3 d3 v3 hownN _ hbn _; have hCn := hC.below hbn (Nat.lt_succ_self _); have m0 := hCn.cell (i := 0) rfl; have m1 := hCn.cell (i := 1) rfl; have m2 := hCn.cell (i := 2) rfl; have m3 := hCn.cell (i := 3) rfl; have m4 := hCn.cell (i := 4) rfl; have m5 := hCn.cell (i := 5) rfl; have m6 := hCn.cell (i := 6) rfl; have m7 := hCn.cell (i := 7) rfl; have m8 := hCn.cell (i := 8) rfl; have m9 := hCn.cell (i := 9) rfl)
    rw [← nums_app] at hownN
    replace hb := hb.trans (hbn.mono (Nat.le_succ _))
    replace hs1 := Nat.le_trans hs1 hbn.size
    clear hown hC hOy hRy cA cB hbn hby k0 m0 k1 m1 k2 m2 k3 m3 k4 m4 k5 m5 k6 m6 k7 m7 k8 m8 k9 m9
    have hown := hownN
    have hC := hCn
    clear hownN hCn
    generalize z2 ++ yus = z3 at *
    have hn3 : n2 + yus.length ≤ 1027 := by omega
    generalize n2 + yus.length = n3 at *
    have k0 := hC.cell (i := 0) rfl
    have k1 := hC.cell (i := 1) rfl
    have k2 := hC.cell (i := 2) rfl
    have k3 := hC.cell (i := 3) rfl
    have k4 := hC.cell (i := 4) rfl
    have k5 := hC.cell (i := 5) rfl
    have k6 := hC.cell (i := 6) rfl
    have k7 := hC.cell (i := 7) rfl
    have k8 := hC.cell (i := 8) rfl
    have k9 := hC.cell (i := 9) rfl
    go_ret
    rw [HZ.out] at hown
    have hl := own_nums hown
    rw [hl] at hown ⊢
    exact ⟨B3, d3, rfl, own_mono hown (Nat.le_succ _), hb⟩

set_option maxHeartbeats 6400000 in
set_option maxRecDepth 20000 in
theorem ref_bytes4 (pl sq nn : Int) (us : List Int) (ti wd ht ax ay : Int) (hmay : mayC ⟨pl, sq, 4, nn, us, ti, wd, ht, ax, ay⟩ = true) (A : Option Addr) (m cc B0 : Nat) (w : World) (hr : Reads w B0 1 A m (nums .i64 us)) (hB0 : B0 ≤ w.heap.size) :
    Calls Try.prog 20 #[.agg #[.int .i64 pl, .int .i64 sq, .int .i64 4, .int .i64 nn, .slice A m cc, .int .i64 ti, .int .i64 wd, .int .i64 ht, .int .i64 ax, .int .i64 ay]] w (GivesBytes w.heap.size w (encC ⟨pl, sq, 4, nn, us, ti, wd, ht, ax, ay⟩)) := by
  obtain ⟨i0, hi0, hz0, hz1, hz2⟩ := info_parts info_u8
  simp only [mayC, Bool.and_eq_true, inB_iff] at hmay
  obtain ⟨⟨⟨p1, p2⟩, q1, q2⟩, hk⟩ := hmay
  simp only [mayK, Int.reduceEq, if_false, if_true, Bool.and_eq_true, inB_iff, decide_eq_true_eq, beq_iff_eq] at hk
  obtain ⟨⟨⟨⟨⟨⟨⟨a1, a2⟩, a3, a4⟩, a5, a6⟩, e1⟩, e2⟩, e3⟩, e4⟩ := hk
  clear e1 e2 e3 e4
  have hr := hr.more hB0
  have hZ : ((((putI 4 ++ putI pl) ++ putI sq) ++ putI ti) ++ putI wd) ++ putI ht = encC ⟨pl, sq, 4, nn, us, ti, wd, ht, ax, ay⟩ := by simp [encC, encK]
  have Pk := Lib.hid (fun W => ref_num_p (4) W (by omega) (by omega))
  have hyk := putI_nine (n := (4)) (by omega) (by omega)
  have Ppl := Lib.hid (fun W => ref_num_p (pl) W (by omega) (by omega))
  have hypl := putI_nine (n := (pl)) (by omega) (by omega)
  have Psq := Lib.hid (fun W => ref_num_p (sq) W (by omega) (by omega))
  have hysq := putI_nine (n := (sq)) (by omega) (by omega)
  have Pti := Lib.hid (fun W => ref_num_p (ti) W (by omega) (by omega))
  have hyti := putI_nine (n := (ti)) (by omega) (by omega)
  have Pwd := Lib.hid (fun W => ref_num_p (wd) W (by omega) (by omega))
  have hywd := putI_nine (n := (wd)) (by omega) (by omega)
  have Pht := Lib.hid (fun W => ref_num_p (ht) W (by omega) (by omega))
  have hyht := putI_nine (n := (ht)) (by omega) (by omega)
  generalize putI 4 = yk at *
  generalize putI pl = ypl at *
  generalize putI sq = ysq at *
  generalize putI ti = yti at *
  generalize putI wd = ywd at *
  generalize putI ht = yht at *
  have HZ := Lib.hid hZ
  clear hZ
  go_enter Try.func20, Try.ntmps20
  go_wp2_with fail
  have hC := Blk.new w (cmdCs pl sq 4 nn A m cc ti wd ht ax ay) 28
  have hb : Below w.heap.size w (w.alloc (.cells (cmdCs pl sq 4 nn A m cc ti wd ht ax ay) 28)) := (Below.refl _ _).alloc (Nat.le_refl _) _
  have hsz : (w.alloc (.cells (cmdCs pl sq 4 nn A m cc ti wd ht ax ay) 28)).heap.size = w.heap.size + 1 := by simp
  generalize hCC : w.heap.size = C at *
  generalize w.alloc (.cells (cmdCs pl sq 4 nn A m cc ti wd ht ax ay) 28) = W0 at *
  have HB : Below (C + 1) W0 W0.drew := (Below.refl _ _).drew
  have hs1 : C + 1 ≤ W0.drew.heap.size := by rw [← hsz]; exact Nat.le_refl _
  have cA : yk.length + ypl.length ≤ maxLen := by unfold maxLen; omega
  have cB : (yk.length + ypl.length) * 1 ≤ 140737488355328 := by omega
  have SD : (fun w' => w'.cell? ⟨C, 2, none⟩ = some (.int .i64 4) ∧ w'.cell? ⟨C, 0, none⟩ = some (.int .i64 pl) ∧ Below (C + 1) W0 w') W0.drew := ⟨box_cell hC HB (Nat.lt_succ_self _) 2 _ rfl, box_cell hC HB (Nat.lt_succ_self _) 0 _ rfl, HB⟩
  go_region_held3 (fun w' => w'.cell? ⟨C, 2, none⟩ = some (.int .i64 4) ∧ w'.cell? ⟨C, 0, none⟩ = some (.int .i64 pl) ∧ Below (C + 1) W0 w')
    (first | exact SD | assumption)
    (first
      | (go_at_call 36; (with_reducible refine Calls.mono (Pk.out _) ?_); rintro e wn ⟨Ak, ck, rfl, hOk, hbn⟩; replace hOk := own_mono hOk hs1; (try replace hOpl := own_below hOpl hbn); replace HB := HB.trans (hbn.mono hs1); replace hs1 := Nat.le_trans hs1 hbn.size; have SD : (fun w' => w'.cell? ⟨C, 2, none⟩ = some (.int .i64 4) ∧ w'.cell? ⟨C, 0, none⟩ = some (.int .i64 pl) ∧ Below (C + 1) W0 w') wn := ⟨box_cell hC HB (Nat.lt_succ_self _) 2 _ rfl, box_cell hC HB (Nat.lt_succ_self _) 0 _ rfl, HB⟩)
      | (go_at_call 36; (with_reducible refine Calls.mono (Ppl.out _) ?_); rintro e wn ⟨Apl, cpl, rfl, hOpl, hbn⟩; replace hOpl := own_mono hOpl hs1; (try replace hOk := own_below hOk hbn); replace HB := HB.trans (hbn.mono hs1); replace hs1 := Nat.le_trans hs1 hbn.size; have SD : (fun w' => w'.cell? ⟨C, 2, none⟩ = some (.int .i64 4) ∧ w'.cell? ⟨C, 0, none⟩ = some (.int .i64 pl) ∧ Below (C + 1) W0 w') wn := ⟨box_cell hC HB (Nat.lt_succ_self _) 2 _ rfl, box_cell hC HB (Nat.lt_succ_self _) 0 _ rfl, HB⟩)
      | (refine step_append_reads2 _ (by rfl) (.tmp 6) (.tmp 9) _ (by rfl) (C + 1) 5 i0 _ 1 1 Try.underlying29 hi0 hz0 hz1 hz2 rfl Nat.one_pos (.slice Ak yk.length ck) _ _ (by rfl) hOk _ _ _ _ _ (by rfl) (Reads.of_own hOpl) (nums_one _ _) cA cB hs1 ?_; intro A5 c5 wn hown _ hbn _; replace HB := HB.trans hbn; replace hs1 := Nat.le_trans hs1 hbn.size; have SD : (fun w' => w'.cell? ⟨C, 2, none⟩ = some (.int .i64 4) ∧ w'.cell? ⟨C, 0, none⟩ = some (.int .i64 pl) ∧ Below (C + 1) W0 w') wn := ⟨box_cell hC HB (Nat.lt_succ_self _) 2 _ rfl, box_cell hC HB (Nat.lt_succ_self _) 0 _ rfl, HB⟩))
  all_goals
    rw [← nums_app] at hown
    generalize yk ++ ypl = z1 at *
    have hn1 : yk.length + ypl.length ≤ 18 := by omega
    generalize yk.length + ypl.length = n1 at *
    replace hb := hb.trans (HB.mono (Nat.le_succ _))
    replace hC := hC.below HB (Nat.lt_succ_self _)
    clear SD HB
    have k0 := hC.cell (i := 0) rfl
    have k1 := hC.cell (i := 1) rfl
    have k2 := hC.cell (i := 2) rfl
    have k3 := hC.cell (i := 3) rfl
    have k4 := hC.cell (i := 4) rfl
    have k5 := hC.cell (i := 5) rfl
    have k6 := hC.cell (i := 6) rfl
    have k7 := hC.cell (i := 7) rfl
    have k8 := hC.cell (i := 8) rfl
    have k9 := hC.cell (i := 9) rfl
    go_wp2_with fail
    refine Calls.mono (Psq.out _) ?_
    rintro e u2 ⟨Ay, cy, rfl, hOy, hby⟩
    clear k0 k1 k2 k3 k4 k5 k6 k7 k8 k9
    replace hown := own_below hown hby
    replace hb := hb.trans (hby.mono (Nat.le_trans (Nat.le_succ C) hs1))
    replace hC := hC.below hby hC.lt
    replace hs1 := Nat.le_trans hs1 hby.size
    have hRy := Reads.of_own hOy
    have cA : n1 + ysq.length ≤ maxLen := by unfold maxLen; omega
    have cB : (n1 + ysq.length) * 1 ≤ 140737488355328 := by omega
    have k0 := hC.cell (i := 0) rfl
    have k1 := hC.cell (i := 1) rfl
    have k2 := hC.cell (i := 2) rfl
    have k3 := hC.cell (i := 3) rfl
    have k4 := hC.cell (i := 4) rfl
    have k5 := hC.cell (i := 5) rfl
    have k6 := hC.cell (i := 6) rfl
    have k7 := hC.cell (i := 7) rfl
    have k8 := hC.cell (i := 8) rfl
    have k9 := hC.cell (i := 9) rfl
    go_wp2_with (at_builtin; refine wpList_append_reads2 u2 rfl (.tmp 11) (.tmp 14) _ rfl (C + 1) 5 i0 _ 1 1 Try.underlying29 hi0 hz0 hz1 hz2 rfl Nat.one_pos (.slice A5 n1 c5) _ _ rfl hown _ _ _ _ _ rfl hRy (nums_one _ _) cA cB hs1 ?_; intro B2 d2 v2 hownN _ hbn _; have hCn := hC.below hbn (Nat.lt_succ_self _); have m0 := hCn.cell (i := 0) rfl; have m1 := hCn.cell (i := 1) rfl; have m2 := hCn.cell (i := 2) rfl; have m3 := hCn.cell (i := 3) rfl; have m4 := hCn.cell (i := 4) rfl; have m5 := hCn.cell (i := 5) rfl; have m6 := hCn.cell (i := 6) rfl; have m7 := hCn.cell (i := 7) rfl; have m8 := hCn.cell (i := 8) rfl; have m9 := hCn.cell (i := 9) rfl)
    rw [← nums_app] at hownN
    replace hb := hb.trans (hbn.mono (Nat.le_succ _))
    replace hs1 := Nat.le_trans hs1 hbn.size
    clear hown hC hOy hRy cA cB hbn hby k0 m0 k1 m1 k2 m2 k3 m3 k4 m4 k5 m5 k6 m6 k7 m7 k8 m8 k9 m9
    have hown := hownN
    have hC := hCn
    clear hownN hCn
    generalize z1 ++ ysq = z2 at *
    have hn2 : n1 + ysq.length ≤ 27 := by omega
    generalize n1 + ysq.length = n2 at *
    have k0 := hC.cell (i := 0) rfl
    have k1 := hC.cell (i := 1) rfl
    have k2 := hC.cell (i := 2) rfl
    have k3 := hC.cell (i := 3) rfl
    have k4 := hC.cell (i := 4) rfl
    have k5 := hC.cell (i := 5) rfl
    have k6 := hC.cell (i := 6) rfl
    have k7 := hC.cell (i := 7) rfl
    have k8 := hC.cell (i := 8) rfl
    have k9 := hC.cell (i := 9) rfl
    refine Calls.mono (Pti.out _) ?_
    rintro e u3 ⟨Ay, cy, rfl, hOy, hby⟩
    clear k0 k1 k2 k3 k4 k5 k6 k7 k8 k9
    replace hown := own_below hown hby
    replace hb := hb.trans (hby.mono (Nat.le_trans (Nat.le_succ C) hs1))
    replace hC := hC.below hby hC.lt
    replace hs1 := Nat.le_trans hs1 hby.size
    have hRy := Reads.of_own hOy
    have cA : n2 + yti.length ≤ maxLen := by unfold maxLen; omega
    have cB : (n2 + yti.length) * 1 ≤ 140737488355328 := by omega
    have k0 := hC.cell (i := 0) rfl
    have k1 := hC.cell (i := 1) rfl
    have k2 := hC.cell (i := 2) rfl
    have k3 := hC.cell (i := 3) rfl
    have k4 := hC.cell (i := 4) rfl
    have k5 := hC.cell (i := 5) rfl
    have k6 := hC.cell (i := 6) rfl
    have k7 := hC.cell (i := 7) rfl
    have k8 := hC.cell (i := 8) rfl
    have k9 := hC.cell (i := 9) rfl
    go_wp2_with (at_builtin; refine wpList_append_reads2 u3 rfl (.tmp 57) (.tmp 60) _ rfl (C + 1) 5 i0 _ 1 1 Try.underlying29 hi0 hz0 hz1 hz2 rfl Nat.one_pos (.slice B2 n2 d2) _ _ rfl hown _ _ _ _ _ rfl hRy (nums_one _ _) cA cB hs1 ?_; intro B3 d3 v3 hownN _ hbn _; have hCn := hC.below hbn (Nat.lt_succ_self _); have m0 := hCn.cell (i := 0) rfl; have m1 := hCn.cell (i := 1) rfl; have m2 := hCn.cell (i := 2) rfl; have m3 := hCn.cell (i := 3) rfl; have m4 := hCn.cell (i := 4) rfl; have m5 := hCn.cell (i := 5) rfl; have m6 := hCn.cell (i := 6) rfl; have m7 := hCn.cell (i := 7) rfl; have m8 := hCn.cell (i := 8) rfl; have m9 := hCn.cell (i := 9) rfl)
    rw [← nums_app] at hownN
    replace hb := hb.trans (hbn.mono (Nat.le_succ _))
    replace hs1 := Nat.le_trans hs1 hbn.size
    clear hown hC hOy hRy cA cB hbn hby k0 m0 k1 m1 k2 m2 k3 m3 k4 m4 k5 m5 k6 m6 k7 m7 k8 m8 k9 m9
    have hown := hownN
    have hC := hCn
    clear hownN hCn
    generalize z2 ++ yti = z3 at *
    have hn3 : n2 + yti.length ≤ 36 := by omega
    generalize n2 + yti.length = n3 at *
    have k0 := hC.cell (i := 0) rfl
    have k1 := hC.cell (i := 1) rfl
    have k2 := hC.cell (i := 2) rfl
    have k3 := hC.cell (i := 3) rfl
    have k4 := hC.cell (i := 4) rfl
    have k5 := hC.cell (i := 5) rfl
    have k6 := hC.cell (i := 6) rfl
    have k7 := hC.cell (i := 7) rfl
    have k8 := hC.cell (i := 8) rfl
    have k9 := hC.cell (i := 9) rfl
    refine Calls.mono (Pwd.out _) ?_
    rintro e u4 ⟨Ay, cy, rfl, hOy, hby⟩
    clear k0 k1 k2 k3 k4 k5 k6 k7 k8 k9
    replace hown := own_below hown hby
    replace hb := hb.trans (hby.mono (Nat.le_trans (Nat.le_succ C) hs1))
    replace hC := hC.below hby hC.lt
    replace hs1 := Nat.le_trans hs1 hby.size
    have hRy := Reads.of_own hOy
    have cA : n3 + ywd.length ≤ maxLen := by unfold maxLen; omega
    have cB : (n3 + ywd.length) * 1 ≤ 140737488355328 := by omega
    have k0 := hC.cell (i := 0) rfl
    have k1 := hC.cell (i := 1) rfl
    have k2 := hC.cell (i := 2) rfl
    have k3 := hC.cell (i := 3) rfl
    have k4 := hC.cell (i := 4) rfl
    have k5 := hC.cell (i := 5) rfl
    have k6 := hC.cell (i := 6) rfl
    have k7 := hC.cell (i := 7) rfl
    have k8 := hC.cell (i := 8) rfl
    have k9 := hC.cell (i := 9) rfl
    go_wp2_with (at_builtin; refine wpList_append_reads2 u4 rfl (.tmp 62) (.tmp 65) _ rfl (C + 1) 5 i0 _ 1 1 Try.underlying29 hi0 hz0 hz1 hz2 rfl Nat.one_pos (.slice B3 n3 d3) _ _ rfl hown _ _ _ _ _ rfl hRy (nums_one _ _) cA cB hs1 ?_; intro B4 d4 v4 hownN _ hbn _; have hCn := hC.below hbn (Nat.lt_succ_self _); have m0 := hCn.cell (i := 0) rfl; have m1 := hCn.cell (i := 1) rfl; have m2 := hCn.cell (i := 2) rfl; have m3 := hCn.cell (i := 3) rfl; have m4 := hCn.cell (i := 4) rfl; have m5 := hCn.cell (i := 5) rfl; have m6 := hCn.cell (i := 6) rfl; have m7 := hCn.cell (i := 7) rfl; have m8 := hCn.cell (i := 8) rfl; have m9 := hCn.cell (i := 9) rfl)
    rw [← nums_app] at hownN
    replace hb := hb.trans (hbn.mono (Nat.le_succ _))
    replace hs1 := Nat.le_trans hs1 hbn.size
    clear hown hC hOy hRy cA cB hbn hby k0 m0 k1 m1 k2 m2 k3 m3 k4 m4 k5 m5 k6 m6 k7 m7 k8 m8 k9 m9
    have hown := hownN
    have hC := hCn
    clear hownN hCn
    generalize z3 ++ ywd = z4 at *
    have hn4 : n3 + ywd.length ≤ 45 := by omega
    generalize n3 + ywd.length = n4 at *
    have k0 := hC.cell (i := 0) rfl
    have k1 := hC.cell (i := 1) rfl
    have k2 := hC.cell (i := 2) rfl
    have k3 := hC.cell (i := 3) rfl
    have k4 := hC.cell (i := 4) rfl
    have k5 := hC.cell (i := 5) rfl
    have k6 := hC.cell (i := 6) rfl
    have k7 := hC.cell (i := 7) rfl
    have k8 := hC.cell (i := 8) rfl
    have k9 := hC.cell (i := 9) rfl
    refine Calls.mono (Pht.out _) ?_
    rintro e u5 ⟨Ay, cy, rfl, hOy, hby⟩
    clear k0 k1 k2 k3 k4 k5 k6 k7 k8 k9
    replace hown := own_below hown hby
    replace hb := hb.trans (hby.mono (Nat.le_trans (Nat.le_succ C) hs1))
    replace hC := hC.below hby hC.lt
    replace hs1 := Nat.le_trans hs1 hby.size
    have hRy := Reads.of_own hOy
    have cA : n4 + yht.length ≤ maxLen := by unfold maxLen; omega
    have cB : (n4 + yht.length) * 1 ≤ 140737488355328 := by omega
    have k0 := hC.cell (i := 0) rfl
    have k1 := hC.cell (i := 1) rfl
    have k2 := hC.cell (i := 2) rfl
    have k3 := hC.cell (i := 3) rfl
    have k4 := hC.cell (i := 4) rfl
    have k5 := hC.cell (i := 5) rfl
    have k6 := hC.cell (i := 6) rfl
    have k7 := hC.cell (i := 7) rfl
    have k8 := hC.cell (i := 8) rfl
    have k9 := hC.cell (i := 9) rfl
    go_wp2_with (at_builtin; refine wpList_append_reads2 u5 rfl (.tmp 67) (.tmp 70) _ rfl (C + 1) 5 i0 _ 1 1 Try.underlying29 hi0 hz0 hz1 hz2 rfl Nat.one_pos (.slice B4 n4 d4) _ _ rfl hown _ _ _ _ _ rfl hRy (nums_one _ _) cA cB hs1 ?_; intro B5 d5 v5 hownN _ hbn _; have hCn := hC.below hbn (Nat.lt_succ_self _); have m0 := hCn.cell (i := 0) rfl; have m1 := hCn.cell (i := 1) rfl; have m2 := hCn.cell (i := 2) rfl; have m3 := hCn.cell (i := 3) rfl; have m4 := hCn.cell (i := 4) rfl; have m5 := hCn.cell (i := 5) rfl; have m6 := hCn.cell (i := 6) rfl; have m7 := hCn.cell (i := 7) rfl; have m8 := hCn.cell (i := 8) rfl; have m9 := hCn.cell (i := 9) rfl)
    rw [← nums_app] at hownN
    replace hb := hb.trans (hbn.mono (Nat.le_succ _))
    replace hs1 := Nat.le_trans hs1 hbn.size
    clear hown hC hOy hRy cA cB hbn hby k0 m0 k1 m1 k2 m2 k3 m3 k4 m4 k5 m5 k6 m6 k7 m7 k8 m8 k9 m9
    have hown := hownN
    have hC := hCn
    clear hownN hCn
    generalize z4 ++ yht = z5 at *
    have hn5 : n4 + yht.length ≤ 54 := by omega
    generalize n4 + yht.length = n5 at *
    have k0 := hC.cell (i := 0) rfl
    have k1 := hC.cell (i := 1) rfl
    have k2 := hC.cell (i := 2) rfl
    have k3 := hC.cell (i := 3) rfl
    have k4 := hC.cell (i := 4) rfl
    have k5 := hC.cell (i := 5) rfl
    have k6 := hC.cell (i := 6) rfl
    have k7 := hC.cell (i := 7) rfl
    have k8 := hC.cell (i := 8) rfl
    have k9 := hC.cell (i := 9) rfl
    go_ret
    rw [HZ.out] at hown
    have hl := own_nums hown
    rw [hl] at hown ⊢
    exact ⟨B5, d5, rfl, own_mono hown (Nat.le_succ _), hb⟩

set_option maxHeartbeats 6400000 in
set_option maxRecDepth 20000 in
theorem ref_bytes5 (pl sq nn : Int) (us : List Int) (ti wd ht ax ay : Int) (hmay : mayC ⟨pl, sq, 5, nn, us, ti, wd, ht, ax, ay⟩ = true) (A : Option Addr) (m cc B0 : Nat) (w : World) (hr : Reads w B0 1 A m (nums .i64 us)) (hB0 : B0 ≤ w.heap.size) :
    Calls Try.prog 20 #[.agg #[.int .i64 pl, .int .i64 sq, .int .i64 5, .int .i64 nn, .slice A m cc, .int .i64 ti, .int .i64 wd, .int .i64 ht, .int .i64 ax, .int .i64 ay]] w (GivesBytes w.heap.size w (encC ⟨pl, sq, 5, nn, us, ti, wd, ht, ax, ay⟩)) := by
  obtain ⟨i0, hi0, hz0, hz1, hz2⟩ := info_parts info_u8
  simp only [mayC, Bool.and_eq_true, inB_iff] at hmay
  obtain ⟨⟨⟨p1, p2⟩, q1, q2⟩, hk⟩ := hmay
  simp only [mayK, Int.reduceEq, if_false, if_true, Bool.and_eq_true, inB_iff, decide_eq_true_eq, beq_iff_eq] at hk
  obtain ⟨⟨⟨⟨⟨⟨⟨a1, a2⟩, e1⟩, e2⟩, e3⟩, e4⟩, e5⟩, e6⟩ := hk
  clear e1 e2 e3 e4 e5 e6
  have hr := hr.more hB0
  have hZ : ((putI 5 ++ putI pl) ++ putI sq) ++ putI nn = encC ⟨pl, sq, 5, nn, us, ti, wd, ht, ax, ay⟩ := by simp [encC, encK]
  have Pk := Lib.hid (fun W => ref_num_p (5) W (by omega) (by omega))
  have hyk := putI_nine (n := (5)) (by omega) (by omega)
  have Ppl := Lib.hid (fun W => ref_num_p (pl) W (by omega) (by omega))
  have hypl := putI_nine (n := (pl)) (by omega) (by omega)
  have Psq := Lib.hid (fun W => ref_num_p (sq) W (by omega) (by omega))
  have hysq := putI_nine (n := (sq)) (by omega) (by omega)
  have Pnn := Lib.hid (fun W => ref_num_p (nn) W (by omega) (by omega))
  have hynn := putI_nine (n := (nn)) (by omega) (by omega)
  generalize putI 5 = yk at *
  generalize putI pl = ypl at *
  generalize putI sq = ysq at *
  generalize putI nn = ynn at *
  have HZ := Lib.hid hZ
  clear hZ
  go_enter Try.func20, Try.ntmps20
  go_wp2_with fail
  have hC := Blk.new w (cmdCs pl sq 5 nn A m cc ti wd ht ax ay) 28
  have hb : Below w.heap.size w (w.alloc (.cells (cmdCs pl sq 5 nn A m cc ti wd ht ax ay) 28)) := (Below.refl _ _).alloc (Nat.le_refl _) _
  have hsz : (w.alloc (.cells (cmdCs pl sq 5 nn A m cc ti wd ht ax ay) 28)).heap.size = w.heap.size + 1 := by simp
  generalize hCC : w.heap.size = C at *
  generalize w.alloc (.cells (cmdCs pl sq 5 nn A m cc ti wd ht ax ay) 28) = W0 at *
  have HB : Below (C + 1) W0 W0.drew := (Below.refl _ _).drew
  have hs1 : C + 1 ≤ W0.drew.heap.size := by rw [← hsz]; exact Nat.le_refl _
  have cA : yk.length + ypl.length ≤ maxLen := by unfold maxLen; omega
  have cB : (yk.length + ypl.length) * 1 ≤ 140737488355328 := by omega
  have SD : (fun w' => w'.cell? ⟨C, 2, none⟩ = some (.int .i64 5) ∧ w'.cell? ⟨C, 0, none⟩ = some (.int .i64 pl) ∧ Below (C + 1) W0 w') W0.drew := ⟨box_cell hC HB (Nat.lt_succ_self _) 2 _ rfl, box_cell hC HB (Nat.lt_succ_self _) 0 _ rfl, HB⟩
  go_region_held3 (fun w' => w'.cell? ⟨C, 2, none⟩ = some (.int .i64 5) ∧ w'.cell? ⟨C, 0, none⟩ = some (.int .i64 pl) ∧ Below (C + 1) W0 w')
    (first | exact SD | assumption)
    (first
      | (go_at_call 36; (with_reducible refine Calls.mono (Pk.out _) ?_); rintro e wn ⟨Ak, ck, rfl, hOk, hbn⟩; replace hOk := own_mono hOk hs1; (try replace hOpl := own_below hOpl hbn); replace HB := HB.trans (hbn.mono hs1); replace hs1 := Nat.le_trans hs1 hbn.size; have SD : (fun w' => w'.cell? ⟨C, 2, none⟩ = some (.int .i64 5) ∧ w'.cell? ⟨C, 0, none⟩ = some (.int .i64 pl) ∧ Below (C + 1) W0 w') wn := ⟨box_cell hC HB (Nat.lt_succ_self _) 2 _ rfl, box_cell hC HB (Nat.lt_succ_self _) 0 _ rfl, HB⟩)
      | (go_at_call 36; (with_reducible refine Calls.mono (Ppl.out _) ?_); rintro e wn ⟨Apl, cpl, rfl, hOpl, hbn⟩; replace hOpl := own_mono hOpl hs1; (try replace hOk := own_below hOk hbn); replace HB := HB.trans (hbn.mono hs1); replace hs1 := Nat.le_trans hs1 hbn.size; have SD : (fun w' => w'.cell? ⟨C, 2, none⟩ = some (.int .i64 5) ∧ w'.cell? ⟨C, 0, none⟩ = some (.int .i64 pl) ∧ Below (C + 1) W0 w') wn := ⟨box_cell hC HB (Nat.lt_succ_self _) 2 _ rfl, box_cell hC HB (Nat.lt_succ_self _) 0 _ rfl, HB⟩)
      | (refine step_append_reads2 _ (by rfl) (.tmp 6) (.tmp 9) _ (by rfl) (C + 1) 5 i0 _ 1 1 Try.underlying29 hi0 hz0 hz1 hz2 rfl Nat.one_pos (.slice Ak yk.length ck) _ _ (by rfl) hOk _ _ _ _ _ (by rfl) (Reads.of_own hOpl) (nums_one _ _) cA cB hs1 ?_; intro A5 c5 wn hown _ hbn _; replace HB := HB.trans hbn; replace hs1 := Nat.le_trans hs1 hbn.size; have SD : (fun w' => w'.cell? ⟨C, 2, none⟩ = some (.int .i64 5) ∧ w'.cell? ⟨C, 0, none⟩ = some (.int .i64 pl) ∧ Below (C + 1) W0 w') wn := ⟨box_cell hC HB (Nat.lt_succ_self _) 2 _ rfl, box_cell hC HB (Nat.lt_succ_self _) 0 _ rfl, HB⟩))
  all_goals
    rw [← nums_app] at hown
    generalize yk ++ ypl = z1 at *
    have hn1 : yk.length + ypl.length ≤ 18 := by omega
    generalize yk.length + ypl.length = n1 at *
    replace hb := hb.trans (HB.mono (Nat.le_succ _))
    replace hC := hC.below HB (Nat.lt_succ_self _)
    clear SD HB
    have k0 := hC.cell (i := 0) rfl
    have k1 := hC.cell (i := 1) rfl
    have k2 := hC.cell (i := 2) rfl
    have k3 := hC.cell (i := 3) rfl
    have k4 := hC.cell (i := 4) rfl
    have k5 := hC.cell (i := 5) rfl
    have k6 := hC.cell (i := 6) rfl
    have k7 := hC.cell (i := 7) rfl
    have k8 := hC.cell (i := 8) rfl
    have k9 := hC.cell (i := 9) rfl
    go_wp2_with fail
    refine Calls.mono (Psq.out _) ?_
    rintro e u2 ⟨Ay, cy, rfl, hOy, hby⟩
    clear k0 k1 k2 k3 k4 k5 k6 k7 k8 k9
    replace hown := own_below hown hby
    replace hb := hb.trans (hby.mono (Nat.le_trans (Nat.le_succ C) hs1))
    replace hC := hC.below hby hC.lt
    replace hs1 := Nat.le_trans hs1 hby.size
    have hRy := Reads.of_own hOy
    have cA : n1 + ysq.length ≤ maxLen := by unfold maxLen; omega
    have cB : (n1 + ysq.length) * 1 ≤ 140737488355328 := by omega
    have k0 := hC.cell (i := 0) rfl
    have k1 := hC.cell (i := 1) rfl
    have k2 := hC.cell (i := 2) rfl
    have k3 := hC.cell (i := 3) rfl
    have k4 := hC.cell (i := 4) rfl
    have k5 := hC.cell (i := 5) rfl
    have k6 := hC.cell (i := 6) rfl
    have k7 := hC.cell (i := 7) rfl
    have k8 := hC.cell (i := 8) rfl
    have k9 := hC.cell (i := 9) rfl
    go_wp2_with (at_builtin; refine wpList_append_reads2 u2 rfl (.tmp 11) (.tmp 14) _ rfl (C + 1) 5 i0 _ 1 1 Try.underlying29 hi0 hz0 hz1 hz2 rfl Nat.one_pos (.slice A5 n1 c5) _ _ rfl hown _ _ _ _ _ rfl hRy (nums_one _ _) cA cB hs1 ?_; intro B2 d2 v2 hownN _ hbn _; have hCn := hC.below hbn (Nat.lt_succ_self _); have m0 := hCn.cell (i := 0) rfl; have m1 := hCn.cell (i := 1) rfl; have m2 := hCn.cell (i := 2) rfl; have m3 := hCn.cell (i := 3) rfl; have m4 := hCn.cell (i := 4) rfl; have m5 := hCn.cell (i := 5) rfl; have m6 := hCn.cell (i := 6) rfl; have m7 := hCn.cell (i := 7) rfl; have m8 := hCn.cell (i := 8) rfl; have m9 := hCn.cell (i := 9) rfl)
    rw [← nums_app] at hownN
    replace hb := hb.trans (hbn.mono (Nat.le_succ _))
    replace hs1 := Nat.le_trans hs1 hbn.size
    clear hown hC hOy hRy cA cB hbn hby k0 m0 k1 m1 k2 m2 k3 m3 k4 m4 k5 m5 k6 m6 k7 m7 k8 m8 k9 m9
    have hown := hownN
    have hC := hCn
    clear hownN hCn
    generalize z1 ++ ysq = z2 at *
    have hn2 : n1 + ysq.length ≤ 27 := by omega
    generalize n1 + ysq.length = n2 at *
    have k0 := hC.cell (i := 0) rfl
    have k1 := hC.cell (i := 1) rfl
    have k2 := hC.cell (i := 2) rfl
    have k3 := hC.cell (i := 3) rfl
    have k4 := hC.cell (i := 4) rfl
    have k5 := hC.cell (i := 5) rfl
    have k6 := hC.cell (i := 6) rfl
    have k7 := hC.cell (i := 7) rfl
    have k8 := hC.cell (i := 8) rfl
    have k9 := hC.cell (i := 9) rfl
    refine Calls.mono (Pnn.out _) ?_
    rintro e u3 ⟨Ay, cy, rfl, hOy, hby⟩
    clear k0 k1 k2 k3 k4 k5 k6 k7 k8 k9
    replace hown := own_below hown hby
    replace hb := hb.trans (hby.mono (Nat.le_trans (Nat.le_succ C) hs1))
    replace hC := hC.below hby hC.lt
    replace hs1 := Nat.le_trans hs1 hby.size
    have hRy := Reads.of_own hOy
    have cA : n2 + ynn.length ≤ maxLen := by unfold maxLen; omega
    have cB : (n2 + ynn.length) * 1 ≤ 140737488355328 := by omega
    have k0 := hC.cell (i := 0) rfl
    have k1 := hC.cell (i := 1) rfl
    have k2 := hC.cell (i := 2) rfl
    have k3 := hC.cell (i := 3) rfl
    have k4 := hC.cell (i := 4) rfl
    have k5 := hC.cell (i := 5) rfl
    have k6 := hC.cell (i := 6) rfl
    have k7 := hC.cell (i := 7) rfl
    have k8 := hC.cell (i := 8) rfl
    have k9 := hC.cell (i := 9) rfl
    go_wp2_with (at_builtin; refine wpList_append_reads2 u3 rfl (.tmp 74) (.tmp 77) _ rfl (C + 1) 5 i0 _ 1 1 Try.underlying29 hi0 hz0 hz1 hz2 rfl Nat.one_pos (.slice B2 n2 d2) _ _ rfl hown _ _ _ _ _ rfl hRy (nums_one _ _) cA cB hs1 ?_; intro B3 d3 v3 hownN _ hbn _; have hCn := hC.below hbn (Nat.lt_succ_self _); have m0 := hCn.cell (i := 0) rfl; have m1 := hCn.cell (i := 1) rfl; have m2 := hCn.cell (i := 2) rfl; have m3 := hCn.cell (i := 3) rfl; have m4 := hCn.cell (i := 4) rfl; have m5 := hCn.cell (i := 5) rfl; have m6 := hCn.cell (i := 6) rfl; have m7 := hCn.cell (i := 7) rfl; have m8 := hCn.cell (i := 8) rfl; have m9 := hCn.cell (i := 9) rfl)
    rw [← nums_app] at hownN
    replace hb := hb.trans (hbn.mono (Nat.le_succ _))
    replace hs1 := Nat.le_trans hs1 hbn.size
    clear hown hC hOy hRy cA cB hbn hby k0 m0 k1 m1 k2 m2 k3 m3 k4 m4 k5 m5 k6 m6 k7 m7 k8 m8 k9 m9
    have hown := hownN
    have hC := hCn
    clear hownN hCn
    generalize z2 ++ ynn = z3 at *
    have hn3 : n2 + ynn.length ≤ 36 := by omega
    generalize n2 + ynn.length = n3 at *
    have k0 := hC.cell (i := 0) rfl
    have k1 := hC.cell (i := 1) rfl
    have k2 := hC.cell (i := 2) rfl
    have k3 := hC.cell (i := 3) rfl
    have k4 := hC.cell (i := 4) rfl
    have k5 := hC.cell (i := 5) rfl
    have k6 := hC.cell (i := 6) rfl
    have k7 := hC.cell (i := 7) rfl
    have k8 := hC.cell (i := 8) rfl
    have k9 := hC.cell (i := 9) rfl
    go_ret
    rw [HZ.out] at hown
    have hl := own_nums hown
    rw [hl] at hown ⊢
    exact ⟨B3, d3, rfl, own_mono hown (Nat.le_succ _), hb⟩

set_option maxHeartbeats 6400000 in
set_option maxRecDepth 20000 in
theorem ref_bytes6 (pl sq nn : Int) (us : List Int) (ti wd ht ax ay : Int) (hmay : mayC ⟨pl, sq, 6, nn, us, ti, wd, ht, ax, ay⟩ = true) (A : Option Addr) (m cc B0 : Nat) (w : World) (hr : Reads w B0 1 A m (nums .i64 us)) (hB0 : B0 ≤ w.heap.size) :
    Calls Try.prog 20 #[.agg #[.int .i64 pl, .int .i64 sq, .int .i64 6, .int .i64 nn, .slice A m cc, .int .i64 ti, .int .i64 wd, .int .i64 ht, .int .i64 ax, .int .i64 ay]] w (GivesBytes w.heap.size w (encC ⟨pl, sq, 6, nn, us, ti, wd, ht, ax, ay⟩)) := by
  obtain ⟨i0, hi0, hz0, hz1, hz2⟩ := info_parts info_u8
  simp only [mayC, Bool.and_eq_true, inB_iff] at hmay
  obtain ⟨⟨⟨p1, p2⟩, q1, q2⟩, hk⟩ := hmay
  simp only [mayK, Int.reduceEq, if_false, if_true, Bool.and_eq_true, inB_iff, beq_iff_eq] at hk
  obtain ⟨⟨⟨⟨⟨⟨a1, a3, a4⟩, e1⟩, e2⟩, e3⟩, e4⟩, e5⟩ := hk
  clear e1 e2 e3 e4 e5
  have hr := hr.more hB0
  obtain ⟨u1, u2, _, u4⟩ := okUs_iff.1 a1
  have b_us : ∀ x ∈ us, 0 ≤ x ∧ x ≤ 9223372036854775807 := fun x hx => by have := u4 x hx; omega
  have hml : us.length = m := by have := hr.1; simpa [nums] using this
  clear u4 a1
  have hZ : (((putI 6 ++ putI pl) ++ putI sq) ++ encU us) ++ putI nn = encC ⟨pl, sq, 6, nn, us, ti, wd, ht, ax, ay⟩ := by simp [encC, encK]
  have Pk := Lib.hid (fun W => ref_num_p (6) W (by omega) (by omega))
  have hyk := putI_nine (n := (6)) (by omega) (by omega)
  have Ppl := Lib.hid (fun W => ref_num_p (pl) W (by omega) (by omega))
  have hypl := putI_nine (n := (pl)) (by omega) (by omega)
  have Psq := Lib.hid (fun W => ref_num_p (sq) W (by omega) (by omega))
  have hysq := putI_nine (n := (sq)) (by omega) (by omega)
  have Pus := Lib.hid (fun W (h : Reads W (w.heap.size + 1) 1 A m (nums .i64 us)) (hs : w.heap.size + 1 ≤ W.heap.size) => ref_ubytes A m cc (w.heap.size + 1) us W h hs b_us (by omega))
  have hyus := encU_len b_us (by omega)
  have Pnn := Lib.hid (fun W => ref_num_p (nn) W (by omega) (by omega))
  have hynn := putI_nine (n := (nn)) (by omega) (by omega)
  generalize putI 6 = yk at *
  generalize putI pl = ypl at *
  generalize putI sq = ysq at *
  generalize encU us = yus at *
  generalize putI nn = ynn at *
  have HZ := Lib.hid hZ
  clear hZ
  go_enter Try.func20, Try.ntmps20
  go_wp2_with fail
  have hC := Blk.new w (cmdCs pl sq 6 nn A m cc ti wd ht ax ay) 28
  have hb : Below w.heap.size w (w.alloc (.cells (cmdCs pl sq 6 nn A m cc ti wd ht ax ay) 28)) := (Below.refl _ _).alloc (Nat.le_refl _) _
  have hsz : (w.alloc (.cells (cmdCs pl sq 6 nn A m cc ti wd ht ax ay) 28)).heap.size = w.heap.size + 1 := by simp
  generalize hCC : w.heap.size = C at *
  generalize w.alloc (.cells (cmdCs pl sq 6 nn A m cc ti wd ht ax ay) 28) = W0 at *
  have HB : Below (C + 1) W0 W0.drew := (Below.refl _ _).drew
  have hs1 : C + 1 ≤ W0.drew.heap.size := by rw [← hsz]; exact Nat.le_refl _
  have cA : yk.length + ypl.length ≤ maxLen := by unfold maxLen; omega
  have cB : (yk.length + ypl.length) * 1 ≤ 140737488355328 := by omega
  have SD : (fun w' => w'.cell? ⟨C, 2, none⟩ = some (.int .i64 6) ∧ w'.cell? ⟨C, 0, none⟩ = some (.int .i64 pl) ∧ Below (C + 1) W0 w') W0.drew := ⟨box_cell hC HB (Nat.lt_succ_self _) 2 _ rfl, box_cell hC HB (Nat.lt_succ_self _) 0 _ rfl, HB⟩
  go_region_held3 (fun w' => w'.cell? ⟨C, 2, none⟩ = some (.int .i64 6) ∧ w'.cell? ⟨C, 0, none⟩ = some (.int .i64 pl) ∧ Below (C + 1) W0 w')
    (first | exact SD | assumption)
    (first
      | (go_at_call 36; (with_reducible refine Calls.mono (Pk.out _) ?_); rintro e wn ⟨Ak, ck, rfl, hOk, hbn⟩; replace hOk := own_mono hOk hs1; (try replace hOpl := own_below hOpl hbn); replace HB := HB.trans (hbn.mono hs1); replace hs1 := Nat.le_trans hs1 hbn.size; have SD : (fun w' => w'.cell? ⟨C, 2, none⟩ = some (.int .i64 6) ∧ w'.cell? ⟨C, 0, none⟩ = some (.int .i64 pl) ∧ Below (C + 1) W0 w') wn := ⟨box_cell hC HB (Nat.lt_succ_self _) 2 _ rfl, box_cell hC HB (Nat.lt_succ_self _) 0 _ rfl, HB⟩)
      | (go_at_call 36; (with_reducible refine Calls.mono (Ppl.out _) ?_); rintro e wn ⟨Apl, cpl, rfl, hOpl, hbn⟩; replace hOpl := own_mono hOpl hs1; (try replace hOk := own_below hOk hbn); replace HB := HB.trans (hbn.mono hs1); replace hs1 := Nat.le_trans hs1 hbn.size; have SD : (fun w' => w'.cell? ⟨C, 2, none⟩ = some (.int .i64 6) ∧ w'.cell? ⟨C, 0, none⟩ = some (.int .i64 pl) ∧ Below (C + 1) W0 w') wn := ⟨box_cell hC HB (Nat.lt_succ_self _) 2 _ rfl, box_cell hC HB (Nat.lt_succ_self _) 0 _ rfl, HB⟩)
      | (refine step_append_reads2 _ (by rfl) (.tmp 6) (.tmp 9) _ (by rfl) (C + 1) 5 i0 _ 1 1 Try.underlying29 hi0 hz0 hz1 hz2 rfl Nat.one_pos (.slice Ak yk.length ck) _ _ (by rfl) hOk _ _ _ _ _ (by rfl) (Reads.of_own hOpl) (nums_one _ _) cA cB hs1 ?_; intro A5 c5 wn hown _ hbn _; replace HB := HB.trans hbn; replace hs1 := Nat.le_trans hs1 hbn.size; have SD : (fun w' => w'.cell? ⟨C, 2, none⟩ = some (.int .i64 6) ∧ w'.cell? ⟨C, 0, none⟩ = some (.int .i64 pl) ∧ Below (C + 1) W0 w') wn := ⟨box_cell hC HB (Nat.lt_succ_self _) 2 _ rfl, box_cell hC HB (Nat.lt_succ_self _) 0 _ rfl, HB⟩))
  all_goals
    rw [← nums_app] at hown
    generalize yk ++ ypl = z1 at *
    have hn1 : yk.length + ypl.length ≤ 18 := by omega
    generalize yk.length + ypl.length = n1 at *
    replace hb := hb.trans (HB.mono (Nat.le_succ _))
    replace hC := hC.below HB (Nat.lt_succ_self _)
    clear SD HB
    have k0 := hC.cell (i := 0) rfl
    have k1 := hC.cell (i := 1) rfl
    have k2 := hC.cell (i := 2) rfl
    have k3 := hC.cell (i := 3) rfl
    have k4 := hC.cell (i := 4) rfl
    have k5 := hC.cell (i := 5) rfl
    have k6 := hC.cell (i := 6) rfl
    have k7 := hC.cell (i := 7) rfl
    have k8 := hC.cell (i := 8) rfl
    have k9 := hC.cell (i := 9) rfl
    go_wp2_with fail
    refine Calls.mono (Psq.out _) ?_
    rintro e u2 ⟨Ay, cy, rfl, hOy, hby⟩
    clear k0 k1 k2 k3 k4 k5 k6 k7 k8 k9
    replace hown := own_below hown hby
    replace hb := hb.trans (hby.mono (Nat.le_trans (Nat.le_succ C) hs1))
    replace hC := hC.below hby hC.lt
    replace hs1 := Nat.le_trans hs1 hby.size
    have hRy := Reads.of_own hOy
    have cA : n1 + ysq.length ≤ maxLen := by unfold maxLen; omega
    have cB : (n1 + ysq.length) * 1 ≤ 140737488355328 := by omega
    have k0 := hC.cell (i := 0) rfl
    have k1 := hC.cell (i := 1) rfl
    have k2 := hC.cell (i := 2) rfl
    have k3 := hC.cell (i := 3) rfl
    have k4 := hC.cell (i := 4) rfl
    have k5 := hC.cell (i := 5) rfl
    have k6 := hC.cell (i := 6) rfl
    have k7 := hC.cell (i := 7) rfl
    have k8 := hC.cell (i := 8) rfl
    have k9 := hC.cell (i := 9) rfl
    go_wp2_with (at_builtin; refine wpList_append_reads2 u2 rfl (.tmp 11) (.tmp 14) _ rfl (C + 1) 5 i0 _ 1 1 Try.underlying29 hi0 hz0 hz1 hz2 rfl Nat.one_pos (.slice A5 n1 c5) _ _ rfl hown _ _ _ _ _ rfl hRy (nums_one _ _) cA cB hs1 ?_; intro B2 d2 v2 hownN _ hbn _; have hCn := hC.below hbn (Nat.lt_succ_self _); have m0 := hCn.cell (i := 0) rfl; have m1 := hCn.cell (i := 1) rfl; have m2 := hCn.cell (i := 2) rfl; have m3 := hCn.cell (i := 3) rfl; have m4 := hCn.cell (i := 4) rfl; have m5 := hCn.cell (i := 5) rfl; have m6 := hCn.cell (i := 6) rfl; have m7 := hCn.cell (i := 7) rfl; have m8 := hCn.cell (i := 8) rfl; have m9 := hCn.cell (i := 9) rfl)
    rw [← nums_app] at hownN
    replace hb := hb.trans (hbn.mono (Nat.le_succ _))
    replace hs1 := Nat.le_trans hs1 hbn.size
    clear hown hC hOy hRy cA cB hbn hby k0 m0 k1 m1 k2 m2 k3 m3 k4 m4 k5 m5 k6 m6 k7 m7 k8 m8 k9 m9
    have hown := hownN
    have hC := hCn
    clear hownN hCn
    generalize z1 ++ ysq = z2 at *
    have hn2 : n1 + ysq.length ≤ 27 := by omega
    generalize n1 + ysq.length = n2 at *
    have k0 := hC.cell (i := 0) rfl
    have k1 := hC.cell (i := 1) rfl
    have k2 := hC.cell (i := 2) rfl
    have k3 := hC.cell (i := 3) rfl
    have k4 := hC.cell (i := 4) rfl
    have k5 := hC.cell (i := 5) rfl
    have k6 := hC.cell (i := 6) rfl
    have k7 := hC.cell (i := 7) rfl
    have k8 := hC.cell (i := 8) rfl
    have k9 := hC.cell (i := 9) rfl
    clear k0 k1 k2 k3 k4 k5 k6 k7 k8 k9
    have HB : Below (C + 1) v2 v2.drew := (Below.refl _ _).drew
    have hlt0 : ∀ g, (Value.slice B2 n2 d2).ownBlock = some g → g < v2.heap.size := fun g hg => (hown.lt g hg).2
    have hsW : v2.heap.size ≤ v2.drew.heap.size := Nat.le_refl _
    have hs1 : C + 1 ≤ v2.drew.heap.size := hs1
    replace hown := hown.drew
    have cA : n2 + yus.length ≤ maxLen := by unfold maxLen; omega
    have cB : (n2 + yus.length) * 1 ≤ 140737488355328 := by omega
    have cC : n2 + yus.length + ynn.length ≤ maxLen := by unfold maxLen; omega
    have cD : (n2 + yus.length + ynn.length) * 1 ≤ 140737488355328 := by omega
    have hrW := (hr.below hb).more (Nat.le_succ _)
    have SD : (fun w' => w'.cell? ⟨C, 4, none⟩ = some (.slice A m cc) ∧ w'.cell? ⟨C, 3, none⟩ = some (.int .i64 nn) ∧ Below (C + 1) v2 w') v2.drew := ⟨box_cell hC HB (Nat.lt_succ_self _) 4 _ rfl, box_cell hC HB (Nat.lt_succ_self _) 3 _ rfl, HB⟩
    go_region_held3 (fun w' => w'.cell? ⟨C, 4, none⟩ = some (.slice A m cc) ∧ w'.cell? ⟨C, 3, none⟩ = some (.int .i64 nn) ∧ Below (C + 1) v2 w')
      (first | exact SD | assumption)
      (first
        | (go_at_call 38; (with_reducible refine Calls.mono (Pus.out _ (hrW.below HB) hs1) ?_); rintro e wn ⟨Aus, cus, rfl, hOus, hbn⟩; replace hOus := own_mono hOus hsW; (try replace hOnn := own_below hOnn hbn); replace hown := own_below hown hbn; replace HB := HB.trans (hbn.mono hs1); replace hs1 := Nat.le_trans hs1 hbn.size; replace hsW := Nat.le_trans hsW hbn.size; have SD : (fun w' => w'.cell? ⟨C, 4, none⟩ = some (.slice A m cc) ∧ w'.cell? ⟨C, 3, none⟩ = some (.int .i64 nn) ∧ Below (C + 1) v2 w') wn := ⟨box_cell hC HB (Nat.lt_succ_self _) 4 _ rfl, box_cell hC HB (Nat.lt_succ_self _) 3 _ rfl, HB⟩)
        | (go_at_call 36; (with_reducible refine Calls.mono (Pnn.out _) ?_); rintro e wn ⟨Ann, cnn, rfl, hOnn, hbn⟩; replace hOnn := own_mono hOnn hsW; (try replace hOus := own_below hOus hbn); replace hown := own_below hown hbn; replace HB := HB.trans (hbn.mono hs1); replace hs1 := Nat.le_trans hs1 hbn.size; replace hsW := Nat.le_trans hsW hbn.size; have SD : (fun w' => w'.cell? ⟨C, 4, none⟩ = some (.slice A m cc) ∧ w'.cell? ⟨C, 3, none⟩ = some (.int .i64 nn) ∧ Below (C + 1) v2 w') wn := ⟨box_cell hC HB (Nat.lt_succ_self _) 4 _ rfl, box_cell hC HB (Nat.lt_succ_self _) 3 _ rfl, HB⟩)
        | (refine step_append_reads2 _ (by rfl) (.tmp 81) (.tmp 84) _ (by rfl) (C + 1) 5 i0 _ 1 1 Try.underlying29 hi0 hz0 hz1 hz2 rfl Nat.one_pos (.slice B2 n2 d2) _ _ (by rfl) hown _ _ _ _ _ (by rfl) (Reads.of_own hOus) (nums_one _ _) cA cB hs1 ?_; intro A6 c6 wn hown6 hgn hbn _; (try replace hOnn := own_later hOnn hgn hlt0); replace hown := hown6; replace HB := HB.trans hbn; replace hs1 := Nat.le_trans hs1 hbn.size; replace hsW := Nat.le_trans hsW hbn.size; have SD : (fun w' => w'.cell? ⟨C, 4, none⟩ = some (.slice A m cc) ∧ w'.cell? ⟨C, 3, none⟩ = some (.int .i64 nn) ∧ Below (C + 1) v2 w') wn := ⟨box_cell hC HB (Nat.lt_succ_self _) 4 _ rfl, box_cell hC HB (Nat.lt_succ_self _) 3 _ rfl, HB⟩)
        | (refine step_append_reads2 _ (by rfl) (.tmp 85) (.tmp 88) _ (by rfl) (C + 1) 5 i0 _ 1 1 Try.underlying29 hi0 hz0 hz1 hz2 rfl Nat.one_pos _ _ _ (by rfl) hown _ _ _ _ _ (by rfl) (Reads.of_own hOnn) (nums_one _ _) cC cD hs1 ?_; intro A7 c7 wn hown7 _ hbn _; replace hown := hown7; replace HB := HB.trans hbn; replace hs1 := Nat.le_trans hs1 hbn.size; replace hsW := Nat.le_trans hsW hbn.size; have SD : (fun w' => w'.cell? ⟨C, 4, none⟩ = some (.slice A m cc) ∧ w'.cell? ⟨C, 3, none⟩ = some (.int .i64 nn) ∧ Below (C + 1) v2 w') wn := ⟨box_cell hC HB (Nat.lt_succ_self _) 4 _ rfl, box_cell hC HB (Nat.lt_succ_self _) 3 _ rfl, HB⟩))
    all_goals
      rw [← nums_app, ← nums_app, HZ.out] at hown
      have hl := own_nums hown
      rw [hl] at hown
      replace hb := hb.trans (HB.mono (Nat.le_succ _))
      clear SD HB
      go_wp2_with fail
      go_ret
      rw [hl]
      exact ⟨A7, c7, rfl, own_mono hown (Nat.le_succ _), hb⟩

set_option maxHeartbeats 6400000 in
set_option maxRecDepth 20000 in
theorem ref_bytes7 (pl sq nn : Int) (us : List Int) (ti wd ht ax ay : Int) (hmay : mayC ⟨pl, sq, 7, nn, us, ti, wd, ht, ax, ay⟩ = true) (A : Option Addr) (m cc B0 : Nat) (w : World) (hr : Reads w B0 1 A m (nums .i64 us)) (hB0 : B0 ≤ w.heap.size) :
    Calls Try.prog 20 #[.agg #[.int .i64 pl, .int .i64 sq, .int .i64 7, .int .i64 nn, .slice A m cc, .int .i64 ti, .int .i64 wd, .int .i64 ht, .int .i64 ax, .int .i64 ay]] w (GivesBytes w.heap.size w (encC ⟨pl, sq, 7, nn, us, ti, wd, ht, ax, ay⟩)) := by
  obtain ⟨i0, hi0, hz0, hz1, hz2⟩ := info_parts info_u8
  simp only [mayC, Bool.and_eq_true, inB_iff] at hmay
  obtain ⟨⟨⟨p1, p2⟩, q1, q2⟩, hk⟩ := hmay
  simp only [mayK, Int.reduceEq, if_false, if_true, Bool.and_eq_true, inB_iff, decide_eq_true_eq, beq_iff_eq] at hk
  obtain ⟨⟨⟨⟨⟨⟨⟨a1, a2⟩, a3, a4⟩, e1⟩, e2⟩, e3⟩, e4⟩, e5⟩ := hk
  clear e1 e2 e3 e4 e5
  have hr := hr.more hB0
  have hZ : (((putI 7 ++ putI pl) ++ putI sq) ++ putI nn) ++ putI ti = encC ⟨pl, sq, 7, nn, us, ti, wd, ht, ax, ay⟩ := by simp [encC, encK]
  have Pk := Lib.hid (fun W => ref_num_p (7) W (by omega) (by omega))
  have hyk := putI_nine (n := (7)) (by omega) (by omega)
  have Ppl := Lib.hid (fun W => ref_num_p (pl) W (by omega) (by omega))
  have hypl := putI_nine (n := (pl)) (by omega) (by omega)
  have Psq := Lib.hid (fun W => ref_num_p (sq) W (by omega) (by omega))
  have hysq := putI_nine (n := (sq)) (by omega) (by omega)
  have Pnn := Lib.hid (fun W => ref_num_p (nn) W (by omega) (by omega))
  have hynn := putI_nine (n := (nn)) (by omega) (by omega)
  have Pti := Lib.hid (fun W => ref_num_p (ti) W (by omega) (by omega))
  have hyti := putI_nine (n := (ti)) (by omega) (by omega)
  generalize putI 7 = yk at *
  generalize putI pl = ypl at *
  generalize putI sq = ysq at *
  generalize putI nn = ynn at *
  generalize putI ti = yti at *
  have HZ := Lib.hid hZ
  clear hZ
  go_enter Try.func20, Try.ntmps20
  go_wp2_with fail
  have hC := Blk.new w (cmdCs pl sq 7 nn A m cc ti wd ht ax ay) 28
  have hb : Below w.heap.size w (w.alloc (.cells (cmdCs pl sq 7 nn A m cc ti wd ht ax ay) 28)) := (Below.refl _ _).alloc (Nat.le_refl _) _
  have hsz : (w.alloc (.cells (cmdCs pl sq 7 nn A m cc ti wd ht ax ay) 28)).heap.size = w.heap.size + 1 := by simp
  generalize hCC : w.heap.size = C at *
  generalize w.alloc (.cells (cmdCs pl sq 7 nn A m cc ti wd ht ax ay) 28) = W0 at *
  have HB : Below (C + 1) W0 W0.drew := (Below.refl _ _).drew
  have hs1 : C + 1 ≤ W0.drew.heap.size := by rw [← hsz]; exact Nat.le_refl _
  have cA : yk.length + ypl.length ≤ maxLen := by unfold maxLen; omega
  have cB : (yk.length + ypl.length) * 1 ≤ 140737488355328 := by omega
  have SD : (fun w' => w'.cell? ⟨C, 2, none⟩ = some (.int .i64 7) ∧ w'.cell? ⟨C, 0, none⟩ = some (.int .i64 pl) ∧ Below (C + 1) W0 w') W0.drew := ⟨box_cell hC HB (Nat.lt_succ_self _) 2 _ rfl, box_cell hC HB (Nat.lt_succ_self _) 0 _ rfl, HB⟩
  go_region_held3 (fun w' => w'.cell? ⟨C, 2, none⟩ = some (.int .i64 7) ∧ w'.cell? ⟨C, 0, none⟩ = some (.int .i64 pl) ∧ Below (C + 1) W0 w')
    (first | exact SD | assumption)
    (first
      | (go_at_call 36; (with_reducible refine Calls.mono (Pk.out _) ?_); rintro e wn ⟨Ak, ck, rfl, hOk, hbn⟩; replace hOk := own_mono hOk hs1; (try replace hOpl := own_below hOpl hbn); replace HB := HB.trans (hbn.mono hs1); replace hs1 := Nat.le_trans hs1 hbn.size; have SD : (fun w' => w'.cell? ⟨C, 2, none⟩ = some (.int .i64 7) ∧ w'.cell? ⟨C, 0, none⟩ = some (.int .i64 pl) ∧ Below (C + 1) W0 w') wn := ⟨box_cell hC HB (Nat.lt_succ_self _) 2 _ rfl, box_cell hC HB (Nat.lt_succ_self _) 0 _ rfl, HB⟩)
      | (go_at_call 36; (with_reducible refine Calls.mono (Ppl.out _) ?_); rintro e wn ⟨Apl, cpl, rfl, hOpl, hbn⟩; replace hOpl := own_mono hOpl hs1; (try replace hOk := own_below hOk hbn); replace HB := HB.trans (hbn.mono hs1); replace hs1 := Nat.le_trans hs1 hbn.size; have SD : (fun w' => w'.cell? ⟨C, 2, none⟩ = some (.int .i64 7) ∧ w'.cell? ⟨C, 0, none⟩ = some (.int .i64 pl) ∧ Below (C + 1) W0 w') wn := ⟨box_cell hC HB (Nat.lt_succ_self _) 2 _ rfl, box_cell hC HB (Nat.lt_succ_self _) 0 _ rfl, HB⟩)
      | (refine step_append_reads2 _ (by rfl) (.tmp 6) (.tmp 9) _ (by rfl) (C + 1) 5 i0 _ 1 1 Try.underlying29 hi0 hz0 hz1 hz2 rfl Nat.one_pos (.slice Ak yk.length ck) _ _ (by rfl) hOk _ _ _ _ _ (by rfl) (Reads.of_own hOpl) (nums_one _ _) cA cB hs1 ?_; intro A5 c5 wn hown _ hbn _; replace HB := HB.trans hbn; replace hs1 := Nat.le_trans hs1 hbn.size; have SD : (fun w' => w'.cell? ⟨C, 2, none⟩ = some (.int .i64 7) ∧ w'.cell? ⟨C, 0, none⟩ = some (.int .i64 pl) ∧ Below (C + 1) W0 w') wn := ⟨box_cell hC HB (Nat.lt_succ_self _) 2 _ rfl, box_cell hC HB (Nat.lt_succ_self _) 0 _ rfl, HB⟩))
  all_goals
    rw [← nums_app] at hown
    generalize yk ++ ypl = z1 at *
    have hn1 : yk.length + ypl.length ≤ 18 := by omega
    generalize yk.length + ypl.length = n1 at *
    replace hb := hb.trans (HB.mono (Nat.le_succ _))
    replace hC := hC.below HB (Nat.lt_succ_self _)
    clear SD HB
    have k0 := hC.cell (i := 0) rfl
    have k1 := hC.cell (i := 1) rfl
    have k2 := hC.cell (i := 2) rfl
    have k3 := hC.cell (i := 3) rfl
    have k4 := hC.cell (i := 4) rfl
    have k5 := hC.cell (i := 5) rfl
    have k6 := hC.cell (i := 6) rfl
    have k7 := hC.cell (i := 7) rfl
    have k8 := hC.cell (i := 8) rfl
    have k9 := hC.cell (i := 9) rfl
    go_wp2_with fail
    refine Calls.mono (Psq.out _) ?_
    rintro e u2 ⟨Ay, cy, rfl, hOy, hby⟩
    clear k0 k1 k2 k3 k4 k5 k6 k7 k8 k9
    replace hown := own_below hown hby
    replace hb := hb.trans (hby.mono (Nat.le_trans (Nat.le_succ C) hs1))
    replace hC := hC.below hby hC.lt
    replace hs1 := Nat.le_trans hs1 hby.size
    have hRy := Reads.of_own hOy
    have cA : n1 + ysq.length ≤ maxLen := by unfold maxLen; omega
    have cB : (n1 + ysq.length) * 1 ≤ 140737488355328 := by omega
    have k0 := hC.cell (i := 0) rfl
    have k1 := hC.cell (i := 1) rfl
    have k2 := hC.cell (i := 2) rfl
    have k3 := hC.cell (i := 3) rfl
    have k4 := hC.cell (i := 4) rfl
    have k5 := hC.cell (i := 5) rfl
    have k6 := hC.cell (i := 6) rfl
    have k7 := hC.cell (i := 7) rfl
    have k8 := hC.cell (i := 8) rfl
    have k9 := hC.cell (i := 9) rfl
    go_wp2_with (at_builtin; refine wpList_append_reads2 u2 rfl (.tmp 11) (.tmp 14) _ rfl (C + 1) 5 i0 _ 1 1 Try.underlying29 hi0 hz0 hz1 hz2 rfl Nat.one_pos (.slice A5 n1 c5) _ _ rfl hown _ _ _ _ _ rfl hRy (nums_one _ _) cA cB hs1 ?_; intro B2 d2 v2 hownN _ hbn _; have hCn := hC.below hbn (Nat.lt_succ_self _); have m0 := hCn.cell (i := 0) rfl; have m1 := hCn.cell (i := 1) rfl; have m2 := hCn.cell (i := 2) rfl; have m3 := hCn.cell (i := 3) rfl; have m4 := hCn.cell (i := 4) rfl; have m5 := hCn.cell (i := 5) rfl; have m6 := hCn.cell (i := 6) rfl; have m7 := hCn.cell (i := 7) rfl; have m8 := hCn.cell (i := 8) rfl; have m9 := hCn.cell (i := 9) rfl)
    rw [← nums_app] at hownN
    replace hb := hb.trans (hbn.mono (Nat.le_succ _))
    replace hs1 := Nat.le_trans hs1 hbn.size
    clear hown hC hOy hRy cA cB hbn hby k0 m0 k1 m1 k2 m2 k3 m3 k4 m4 k5 m5 k6 m6 k7 m7 k8 m8 k9 m9
    have hown := hownN
    have hC := hCn
    clear hownN hCn
    generalize z1 ++ ysq = z2 at *
    have hn2 : n1 + ysq.length ≤ 27 := by omega
    generalize n1 + ysq.length = n2 at *
    have k0 := hC.cell (i := 0) rfl
    have k1 := hC.cell (i := 1) rfl
    have k2 := hC.cell (i := 2) rfl
    have k3 := hC.cell (i := 3) rfl
    have k4 := hC.cell (i := 4) rfl
    have k5 := hC.cell (i := 5) rfl
    have k6 := hC.cell (i := 6) rfl
    have k7 := hC.cell (i := 7) rfl
    have k8 := hC.cell (i := 8) rfl
    have k9 := hC.cell (i := 9) rfl
    clear k0 k1 k2 k3 k4 k5 k6 k7 k8 k9
    have HB : Below (C + 1) v2 v2.drew := (Below.refl _ _).drew
    have hlt0 : ∀ g, (Value.slice B2 n2 d2).ownBlock = some g → g < v2.heap.size := fun g hg => (hown.lt g hg).2
    have hsW : v2.heap.size ≤ v2.drew.heap.size := Nat.le_refl _
    have hs1 : C + 1 ≤ v2.drew.heap.size := hs1
    replace hown := hown.drew
    have cA : n2 + ynn.length ≤ maxLen := by unfold maxLen; omega
    have cB : (n2 + ynn.length) * 1 ≤ 140737488355328 := by omega
    have cC : n2 + ynn.length + yti.length ≤ maxLen := by unfold maxLen; omega
    have cD : (n2 + ynn.length + yti.length) * 1 ≤ 140737488355328 := by omega
    have hrW := (hr.below hb).more (Nat.le_succ _)
    have SD : (fun w' => w'.cell? ⟨C, 3, none⟩ = some (.int .i64 nn) ∧ w'.cell? ⟨C, 5, none⟩ = some (.int .i64 ti) ∧ Below (C + 1) v2 w') v2.drew := ⟨box_cell hC HB (Nat.lt_succ_self _) 3 _ rfl, box_cell hC HB (Nat.lt_succ_self _) 5 _ rfl, HB⟩
    go_region_held3 (fun w' => w'.cell? ⟨C, 3, none⟩ = some (.int .i64 nn) ∧ w'.cell? ⟨C, 5, none⟩ = some (.int .i64 ti) ∧ Below (C + 1) v2 w')
      (first | exact SD | assumption)
      (first
        | (go_at_call 36; (with_reducible refine Calls.mono (Pnn.out _) ?_); rintro e wn ⟨Ann, cnn, rfl, hOnn, hbn⟩; replace hOnn := own_mono hOnn hsW; (try replace hOti := own_below hOti hbn); replace hown := own_below hown hbn; replace HB := HB.trans (hbn.mono hs1); replace hs1 := Nat.le_trans hs1 hbn.size; replace hsW := Nat.le_trans hsW hbn.size; have SD : (fun w' => w'.cell? ⟨C, 3, none⟩ = some (.int .i64 nn) ∧ w'.cell? ⟨C, 5, none⟩ = some (.int .i64 ti) ∧ Below (C + 1) v2 w') wn := ⟨box_cell hC HB (Nat.lt_succ_self _) 3 _ rfl, box_cell hC HB (Nat.lt_succ_self _) 5 _ rfl, HB⟩)
        | (go_at_call 36; (with_reducible refine Calls.mono (Pti.out _) ?_); rintro e wn ⟨Ati, cti, rfl, hOti, hbn⟩; replace hOti := own_mono hOti hsW; (try replace hOnn := own_below hOnn hbn); replace hown := own_below hown hbn; replace HB := HB.trans (hbn.mono hs1); replace hs1 := Nat.le_trans hs1 hbn.size; replace hsW := Nat.le_trans hsW hbn.size; have SD : (fun w' => w'.cell? ⟨C, 3, none⟩ = some (.int .i64 nn) ∧ w'.cell? ⟨C, 5, none⟩ = some (.int .i64 ti) ∧ Below (C + 1) v2 w') wn := ⟨box_cell hC HB (Nat.lt_succ_self _) 3 _ rfl, box_cell hC HB (Nat.lt_succ_self _) 5 _ rfl, HB⟩)
        | (refine step_append_reads2 _ (by rfl) (.tmp 92) (.tmp 95) _ (by rfl) (C + 1) 5 i0 _ 1 1 Try.underlying29 hi0 hz0 hz1 hz2 rfl Nat.one_pos (.slice B2 n2 d2) _ _ (by rfl) hown _ _ _ _ _ (by rfl) (Reads.of_own hOnn) (nums_one _ _) cA cB hs1 ?_; intro A6 c6 wn hown6 hgn hbn _; (try replace hOti := own_later hOti hgn hlt0); replace hown := hown6; replace HB := HB.trans hbn; replace hs1 := Nat.le_trans hs1 hbn.size; replace hsW := Nat.le_trans hsW hbn.size; have SD : (fun w' => w'.cell? ⟨C, 3, none⟩ = some (.int .i64 nn) ∧ w'.cell? ⟨C, 5, none⟩ = some (.int .i64 ti) ∧ Below (C + 1) v2 w') wn := ⟨box_cell hC HB (Nat.lt_succ_self _) 3 _ rfl, box_cell hC HB (Nat.lt_succ_self _) 5 _ rfl, HB⟩)
        | (refine step_append_reads2 _ (by rfl) (.tmp 96) (.tmp 99) _ (by rfl) (C + 1) 5 i0 _ 1 1 Try.underlying29 hi0 hz0 hz1 hz2 rfl Nat.one_pos _ _ _ (by rfl) hown _ _ _ _ _ (by rfl) (Reads.of_own hOti) (nums_one _ _) cC cD hs1 ?_; intro A7 c7 wn hown7 _ hbn _; replace hown := hown7; replace HB := HB.trans hbn; replace hs1 := Nat.le_trans hs1 hbn.size; replace hsW := Nat.le_trans hsW hbn.size; have SD : (fun w' => w'.cell? ⟨C, 3, none⟩ = some (.int .i64 nn) ∧ w'.cell? ⟨C, 5, none⟩ = some (.int .i64 ti) ∧ Below (C + 1) v2 w') wn := ⟨box_cell hC HB (Nat.lt_succ_self _) 3 _ rfl, box_cell hC HB (Nat.lt_succ_self _) 5 _ rfl, HB⟩))
    all_goals
      rw [← nums_app, ← nums_app, HZ.out] at hown
      have hl := own_nums hown
      rw [hl] at hown
      replace hb := hb.trans (HB.mono (Nat.le_succ _))
      clear SD HB
      go_wp2_with fail
      go_ret
      rw [hl]
      exact ⟨A7, c7, rfl, own_mono hown (Nat.le_succ _), hb⟩

theorem ref_bytes (c : Cmd) (hmay : mayC c = true) (A : Option Addr) (m cc B0 : Nat) (w : World) (hr : Reads w B0 1 A m (nums .i64 c.us)) (hB0 : B0 ≤ w.heap.size) :
    Calls Try.prog 20 #[cmdV c A m cc] w (GivesBytes w.heap.size w (encC c)) := by
  have hk : mayK c = true := by simp only [mayC, Bool.and_eq_true] at hmay; exact hmay.2
  have hkd := kd_of_may hk
  obtain ⟨pl, sq, kd, nn, us, ti, wd, ht, ax, ay⟩ := c
  simp only at hkd hr
  rcases (show kd = 1 ∨ kd = 2 ∨ kd = 3 ∨ kd = 4 ∨ kd = 5 ∨ kd = 6 ∨ kd = 7 from by omega) with rfl | rfl | rfl | rfl | rfl | rfl | rfl
  · exact ref_bytes1 pl sq nn us ti wd ht ax ay hmay A m cc B0 w hr hB0
  · exact ref_bytes2 pl sq nn us ti wd ht ax ay hmay A m cc B0 w hr hB0
  · exact ref_bytes3 pl sq nn us ti wd ht ax ay hmay A m cc B0 w hr hB0
  · exact ref_bytes4 pl sq nn us ti wd ht ax ay hmay A m cc B0 w hr hB0
  · exact ref_bytes5 pl sq nn us ti wd ht ax ay hmay A m cc B0 w hr hB0
  · exact ref_bytes6 pl sq nn us ti wd ht ax ay hmay A m cc B0 w hr hB0
  · exact ref_bytes7 pl sq nn us ti wd ht ax ay hmay A m cc B0 w hr hB0
end Go.Proofs.Ytneigplmgellcaa
