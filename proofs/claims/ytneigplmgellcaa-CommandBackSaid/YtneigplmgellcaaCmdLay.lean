/- A command's bytes. -/
import Derived.Test.YtneigplmgellcaaLay
namespace Go.Proofs.Ytneigplmgellcaa
set_option maxRecDepth 20000
open Go.RowKit

/-- The written bytes' variable at B, the command's box behind it. -/
structure LyC (w0 w : World) (B : Nat) (xs : List Int) (cs : Array Value) : Prop where
  st : LayS (B + 2) B xs w
  blk : Blk w (B + 1) cs 28
  below : Below B w0 w
theorem LyC.lt {w0 w : World} {B : Nat} {xs : List Int} {cs : Array Value} (h : LyC w0 w B xs cs) : B + 2 ≤ w.heap.size := by have := h.blk.lt; omega
theorem LyC.lay {w0 w w' : World} {B : Nat} {xs ys : List Int} {cs : Array Value} {o : Obj} (h : LyC w0 w B xs cs) (hS : LayS (B + 2) B ys w') (hR : LayR (B + 2) B (w.alloc o) w') : LyC w0 w' B ys cs :=
  ⟨hS, (h.blk.alloc o).keep (hR.block (B + 1) (by omega) (by omega)), ((h.below.alloc (by have := h.lt; omega) o)).trans ⟨hR.os, hR.tape, hR.output, hR.size, fun k hk => hR.block k (by omega) (by omega)⟩⟩
theorem LyC.lay0 {w0 w w' : World} {B : Nat} {xs ys : List Int} {cs : Array Value} (h : LyC w0 w B xs cs) (hS : LayS (B + 2) B ys w') (hR : LayR (B + 2) B w w') : LyC w0 w' B ys cs :=
  ⟨hS, h.blk.keep (hR.block (B + 1) (by omega) (by omega)), h.below.trans ⟨hR.os, hR.tape, hR.output, hR.size, fun k hk => hR.block k (by omega) (by omega)⟩⟩
theorem LyC.far {w0 w w' : World} {B : Nat} {xs : List Int} {cs : Array Value} (h : LyC w0 w B xs cs) (hb : Below w.heap.size w w') : LyC w0 w' B xs cs := by
  obtain ⟨⟨A, c, h1, h2⟩, h3, h4⟩ := h
  exact ⟨⟨A, c, h1.below hb h1.lt, own_below h2 hb⟩, h3.below hb h3.lt, h4.trans (hb.mono (by have := h1.lt; omega))⟩
theorem wire_int_in {n : Int} (h0 : -1099511627776 ≤ n) (h1 : n ≤ 1099511627776) (w : World) : Calls Try.prog 48 #[.int .i64 n] w fun e w' => ∃ A c, e = .returned (.tuple #[.slice A (put (zig n)).length c, .int .i64 0]) ∧ w'.ownsRow w.heap.size 5 1 (.slice A (put (zig n)).length c) (put (zig n)).length (nums .u8 (put (zig n))) ∧ Below w.heap.size w w' := by
  have C := wire_int n w (by omega) (by omega)
  have e : intR n = (put (zig n), 0) := by unfold intR; rw [if_pos (by simp [mayInt]; omega)]
  rw [e] at C
  exact C
theorem encL_len9 {l : List Int} (h : ∀ x ∈ l, 0 ≤ x ∧ x ≤ 9223372036854775807) (xs : List Int) {N : Nat} (hN : xs.length ≤ N) : (xs ++ encL l).length ≤ N + 9 * l.length := by
  have := encL_len h
  simp only [List.length_append]; omega
theorem all1 {a : Int} (h : 0 ≤ a ∧ a ≤ 9223372036854775807) : ∀ x ∈ [a], 0 ≤ x ∧ x ≤ 9223372036854775807 := by simpa using h
theorem all2 {a b : Int} (h : 0 ≤ a ∧ a ≤ 9223372036854775807) (h2 : 0 ≤ b ∧ b ≤ 9223372036854775807) : ∀ x ∈ [a, b], 0 ≤ x ∧ x ≤ 9223372036854775807 := by
  intro x hx; simp at hx; rcases hx with rfl | rfl <;> assumption
theorem all3 {a b c : Int} (h : 0 ≤ a ∧ a ≤ 9223372036854775807) (h2 : 0 ≤ b ∧ b ≤ 9223372036854775807) (h3 : 0 ≤ c ∧ c ≤ 9223372036854775807) : ∀ x ∈ [a, b, c], 0 ≤ x ∧ x ≤ 9223372036854775807 := by
  intro x hx; simp at hx; rcases hx with rfl | rfl | rfl <;> assumption


set_option maxHeartbeats 6400000 in
set_option maxRecDepth 20000 in
theorem cmd_lay (c : Cmd) (hmay : mayC c = true) (A : Option Addr) (m cc B0 : Nat) (w : World) (hr : Reads w B0 1 A m (nums .i64 c.us)) (hB0 : B0 ≤ w.heap.size) :
    Calls Try.prog 30 #[.slice none 0 0, cmdV c A m cc] w (GivesBytes w.heap.size w (encC c)) := by
  obtain ⟨pl, sq, kd, nn, us, ti, wd, ht, ax, ay⟩ := c
  obtain ⟨i0, hi0, hz0, hz1, hz2⟩ := info_parts info_u8
  simp only [mayC, Bool.and_eq_true, inB_iff] at hmay
  obtain ⟨⟨⟨p1, p2⟩, q1, q2⟩, hk⟩ := hmay
  have hkd := kd_of_may hk
  simp only at hkd hr
  have b_h := all3 (a := kd) (b := pl) (c := sq) (by omega) (by omega) (by omega)
  simp only [cmdV]
  have hr := hr.more hB0
  have hmf : ∀ (fn : Fn) (first cap : Array Value) (w : World), (Instr.makeFunc fn first cap).run Try.prog w = .ok (.func fn first cap) w := fun _ _ _ _ => rfl
  have M0 : LyC w ((w.alloc (.cells #[.slice none 0 0] 29)).alloc (.cells (cmdCs pl sq kd nn A m cc ti wd ht ax ay) 28)) w.heap.size [] (cmdCs pl sq kd nn A m cc ti wd ht ax ay) := by
    refine ⟨⟨none, 0, (Blk.new w _ _).alloc _, World.ownsRow_nil _ _ _ _⟩, ?_, ((Below.refl _ _).alloc (Nat.le_refl _) _).alloc (by simp) _⟩
    have := Blk.new (w.alloc (.cells #[.slice none 0 0] 29)) (cmdCs pl sq kd nn A m cc ti wd ht ax ay) 28
    simpa using this
  have hsz : ((w.alloc (.cells #[.slice none 0 0] 29)).alloc (.cells (cmdCs pl sq kd nn A m cc ti wd ht ax ay) 28)).heap.size = w.heap.size + 2 := by simp
  go_enter Try.func30, Try.ntmps30
  go_wp2_with fail
  generalize (w.alloc (.cells #[.slice none 0 0] 29)).alloc (.cells (cmdCs pl sq kd nn A m cc ti wd ht ax ay) 28) = x0 at *
  have M := M0
  clear M0
  generalize hCB : w.heap.size = B at *
  have hl1 : ([] : List Int).length ≤ 0 := by simp
  have HM := Lib.hid hk
  clear hk
  refine Calls.mono (lay_put (B + 2) B (B + 2) 3 [] [kd, pl, sq] _ (M.st.alloc _) (by omega) (by simp; omega) (by simp) (by rw [← hsz]; exact Blk.new x0 _ _) (by omega) rfl b_h (by omega)) ?_
  rintro e x1 ⟨rfl, hS, hR⟩
  replace M := M.lay hS hR
  have hl1 := encL_len9 b_h [] hl1
  simp only [List.length_cons, List.length_nil] at hl1
  clear hS hR
  generalize hZ : [] ++ encL [kd, pl, sq] = z1 at *
  have HZ1 := Lib.hid hZ
  clear hZ
  rcases (show kd = 1 ∨ kd = 2 ∨ kd = 3 ∨ kd = 4 ∨ kd = 5 ∨ kd = 6 ∨ kd = 7 from by omega) with rfl | rfl | rfl | rfl | rfl | rfl | rfl
  · have hk := HM.out
    simp only [mayK, Int.reduceEq, if_false, if_true, Bool.and_eq_true, inB_iff, decide_eq_true_eq, beq_iff_eq] at hk
    obtain ⟨⟨⟨⟨⟨⟨⟨a1, a2⟩, a3, a4⟩, a5, a6⟩, e_us⟩, e_ti⟩, e_wd⟩, e_ht⟩ := hk
    have b_nn : 0 ≤ nn ∧ nn ≤ 9223372036854775807 := by omega
    have E_us := Lib.hid e_us
    have E_ti := Lib.hid e_ti
    have E_wd := Lib.hid e_wd
    have E_ht := Lib.hid e_ht
    clear e_us e_ti e_wd e_ht HM
    have k0 := M.blk.cell (i := 0) rfl
    have k1 := M.blk.cell (i := 1) rfl
    have k2 := M.blk.cell (i := 2) rfl
    have k3 := M.blk.cell (i := 3) rfl
    have k4 := M.blk.cell (i := 4) rfl
    have k5 := M.blk.cell (i := 5) rfl
    have k6 := M.blk.cell (i := 6) rfl
    have k7 := M.blk.cell (i := 7) rfl
    have k8 := M.blk.cell (i := 8) rfl
    have k9 := M.blk.cell (i := 9) rfl
    obtain ⟨A0, c0, hB0, hO0⟩ := id M.st
    have kb := hB0.cell (i := 0) rfl
    have kf := hB0.free 0
    go_wp2_with fail
    clear kb kf k0 k1 k2 k3 k4 k5 k6 k7 k8 k9
    refine Calls.mono (lay_put (B + 2) B x1.heap.size 1 z1 [nn] _ (M.st.alloc _) (by omega) (by have := M.lt; simp; omega) (by omega) (Blk.new x1 _ _) (by have := M.lt; omega) rfl (all1 b_nn) (by omega)) ?_
    rintro e x2 ⟨rfl, hS, hR⟩
    replace M := M.lay hS hR
    have hl2 := encL_len9 (all1 b_nn) z1 hl1
    simp only [List.length_cons, List.length_nil] at hl2
    clear hS hR
    generalize hZ : z1 ++ encL [nn] = z2 at *
    have HZ2 := Lib.hid hZ
    clear hZ
    have k0 := M.blk.cell (i := 0) rfl
    have k1 := M.blk.cell (i := 1) rfl
    have k2 := M.blk.cell (i := 2) rfl
    have k3 := M.blk.cell (i := 3) rfl
    have k4 := M.blk.cell (i := 4) rfl
    have k5 := M.blk.cell (i := 5) rfl
    have k6 := M.blk.cell (i := 6) rfl
    have k7 := M.blk.cell (i := 7) rfl
    have k8 := M.blk.cell (i := 8) rfl
    have k9 := M.blk.cell (i := 9) rfl
    obtain ⟨A0, c0, hB0, hO0⟩ := id M.st
    have kb := hB0.cell (i := 0) rfl
    have kf := hB0.free 0
    go_wp2_with fail
    clear kb kf k0 k1 k2 k3 k4 k5 k6 k7 k8 k9
    refine Calls.mono (wire_int_in a3 a4 x2) ?_
    rintro e w5 ⟨A5, c5, rfl, hown5, hb5⟩
    replace M := M.far hb5
    have k0 := M.blk.cell (i := 0) rfl
    have k1 := M.blk.cell (i := 1) rfl
    have k2 := M.blk.cell (i := 2) rfl
    have k3 := M.blk.cell (i := 3) rfl
    have k4 := M.blk.cell (i := 4) rfl
    have k5 := M.blk.cell (i := 5) rfl
    have k6 := M.blk.cell (i := 6) rfl
    have k7 := M.blk.cell (i := 7) rfl
    have k8 := M.blk.cell (i := 8) rfl
    have k9 := M.blk.cell (i := 9) rfl
    obtain ⟨A0, c0, hB0, hO0⟩ := id M.st
    have kb := hB0.cell (i := 0) rfl
    have kf := hB0.free 0
    go_wp2_with fail
    clear kb kf k0 k1 k2 k3 k4 k5 k6 k7 k8 k9
    refine Calls.mono (wire_int_in a5 a6 w5) ?_
    rintro e w6 ⟨A6, c6, rfl, hown6, hb6⟩
    replace M := M.far hb6
    replace hown5 := own_below hown5 hb6
    have hlt6 : ∀ g, (Value.slice A0 z2.length c0).ownBlock = some g → g < w5.heap.size := fun g hg => (hO0.lt g hg).2
    have hB6 := hB0.below hb6 hB0.lt
    have hO6 := own_below hO0 hb6
    have hs6 := M.lt
    have hl5 : (put (zig ax)).length ≤ 9 := put_nine (by have := zig_lt (n := ax) (by omega) (by omega); omega)
    have hl6 : (put (zig ay)).length ≤ 9 := put_nine (by have := zig_lt (n := ay) (by omega) (by omega); omega)
    have hZ : z2 ++ put (zig ax) ++ put (zig ay) = encC ⟨pl, sq, 1, nn, us, ti, wd, ht, ax, ay⟩ := by rw [← HZ2.out, ← HZ1.out]; simp [encC, encK, encL, putI]
    generalize put (zig ax) = p5 at *
    generalize put (zig ay) = p6 at *
    have HZ := Lib.hid hZ
    have hmb := M.below
    have kb := hB6.cell (i := 0) rfl
    clear hZ
    have cA : z2.length + p5.length ≤ maxLen := by unfold maxLen; omega
    have cB : (z2.length + p5.length) * 1 ≤ 140737488355328 := by omega
    have cC : z2.length + p5.length + p6.length ≤ maxLen := by unfold maxLen; omega
    have cD : (z2.length + p5.length + p6.length) * 1 ≤ 140737488355328 := by omega
    have hR5 := Reads.of_own hown5
    go_wp2_with (first
      | (at_builtin; refine wpList_append_reads2 w6 rfl (.tmp 43) (.tmp 44) _ rfl (B + 2) 5 i0 _ 1 1 Try.underlying29 hi0 hz0 hz1 hz2 rfl Nat.one_pos (.slice A0 z2.length c0) _ _ rfl hO6 _ _ _ _ _ rfl hR5 (nums_one _ _) cA cB hs6 ?_; intro A7 c7 w7 hown7 hg7 hb7 hk7; have hown6' := own_later hown6 hg7 hlt6; have hs7 := Nat.le_trans hs6 hb7.size)
      | (at_builtin; refine wpList_append_reads2 w7 rfl (.tmp 45) (.tmp 46) _ rfl (B + 2) 5 i0 _ 1 1 Try.underlying29 hi0 hz0 hz1 hz2 rfl Nat.one_pos _ _ _ rfl hown7 _ _ _ _ _ rfl (Reads.of_own hown6') (nums_one _ _) cC cD hs7 ?_; intro A8 c8 w8 hown8 hg8 hb8 hk8; have hB8 : Blk w8 B #[.slice A0 z2.length c0] 29 := hk8 B _ _ (by decide) (hk7 B _ _ (by decide) hB6); have kc8 := hB8.cell (i := 0) rfl; have kf8 := hB8.free 0))
    rw [← nums_app, ← nums_app] at hown8
    have hlen : (z2 ++ p5 ++ p6).length = z2.length + p5.length + p6.length := by simp [Nat.add_assoc]
    go_ret
    rw [← HZ.out]
    refine ⟨A8, c8, by rw [hlen]; rfl, ?_, ?_⟩
    · rw [hlen]; exact own_mono (own_low hown8 (a := ⟨B, 0, none⟩) (by show B < B + 2; omega) _) (by omega)
    · exact ((hmb.trans (hb7.mono (by omega))).trans (hb8.mono (by omega))).setCell (by exact Nat.le_refl B) _
  · have hk := HM.out
    simp only [mayK, Int.reduceEq, if_false, if_true, Bool.and_eq_true, inB_iff, beq_iff_eq] at hk
    obtain ⟨⟨⟨⟨⟨⟨a1, a3, a4⟩, e_nn⟩, e_wd⟩, e_ht⟩, e_ax⟩, e_ay⟩ := hk
    have b_ti : 0 ≤ ti ∧ ti ≤ 9223372036854775807 := by omega
    obtain ⟨u1, u2, _, u4⟩ := okUs_iff.1 a1
    have b_us : ∀ x ∈ us, 0 ≤ x ∧ x ≤ 9223372036854775807 := fun x hx => by have := u4 x hx; omega
    have hml : us.length = m := by have := hr.1; simpa [nums] using this
    clear u4
    have E_nn := Lib.hid e_nn
    have E_wd := Lib.hid e_wd
    have E_ht := Lib.hid e_ht
    have E_ax := Lib.hid e_ax
    have E_ay := Lib.hid e_ay
    clear e_nn e_wd e_ht e_ax e_ay HM
    have k0 := M.blk.cell (i := 0) rfl
    have k1 := M.blk.cell (i := 1) rfl
    have k2 := M.blk.cell (i := 2) rfl
    have k3 := M.blk.cell (i := 3) rfl
    have k4 := M.blk.cell (i := 4) rfl
    have k5 := M.blk.cell (i := 5) rfl
    have k6 := M.blk.cell (i := 6) rfl
    have k7 := M.blk.cell (i := 7) rfl
    have k8 := M.blk.cell (i := 8) rfl
    have k9 := M.blk.cell (i := 9) rfl
    obtain ⟨A0, c0, hB0, hO0⟩ := id M.st
    have kb := hB0.cell (i := 0) rfl
    have kf := hB0.free 0
    go_wp2_with fail
    clear kb kf
    clear k0
    clear k1
    clear k2
    clear k3
    clear k4
    clear k5
    clear k6
    clear k7
    clear k8
    clear k9
    refine Calls.mono (cmd_list (B + 2) _ _ _ z1 A m cc us _ hO0 M.lt (by omega) ((hr.below M.below).more (by omega)) b_us (by omega)) ?_
    rintro e x2 ⟨A3, c3, rfl, hown3, hb3, hk3⟩
    have hbk2 : Blk x2 B #[_] 29 := hk3 B _ _ (by decide) hB0
    have Mb := M.blk
    have hl2 : (z1 ++ encU us).length ≤ 2000 := by
      have h1 := encL_len b_us
      have h2 := put_nine (n := us.length) (by omega)
      simp only [encU, List.length_append]; omega
    generalize hZ : z1 ++ encU us = z2 at *
    have HZ2 := Lib.hid hZ
    clear hZ
    have hS := lay_store hbk2 hown3 (show B < B + 2 by omega)
    have hR := ((LayR.refl (B + 2) B x1).step hb3 hk3).store (.slice A3 z2.length c3)
    replace M := M.lay0 hS hR
    have hCk := Mb.below hb3 (by omega)
    have k0 := hCk.cell (i := 0) rfl
    have k1 := hCk.cell (i := 1) rfl
    have k2 := hCk.cell (i := 2) rfl
    have k3 := hCk.cell (i := 3) rfl
    have k4 := hCk.cell (i := 4) rfl
    have k5 := hCk.cell (i := 5) rfl
    have k6 := hCk.cell (i := 6) rfl
    have k7 := hCk.cell (i := 7) rfl
    have k8 := hCk.cell (i := 8) rfl
    have k9 := hCk.cell (i := 9) rfl
    have kb := hbk2.cell (i := 0) rfl
    have kf := hbk2.free 0
    have hO3 := own_low hown3 (a := ⟨B, 0, none⟩) (by show B < B + 2; omega) (.slice A3 z2.length c3)
    clear hown3 hb3 hk3 hbk2 hS hR Mb hCk
    go_wp2_with fail
    clear kb kf k0 k1 k2 k3 k4 k5 k6 k7 k8 k9
    have hszy : (x2.setCell ⟨B, 0, none⟩ (.slice A3 z2.length c3)).heap.size = x2.heap.size := by simp
    generalize x2.setCell ⟨B, 0, none⟩ (.slice A3 z2.length c3) = y2 at *
    refine Calls.mono (lay_put (B + 2) B x2.heap.size 1 z2 [ti] _ (M.st.alloc _) (by omega) (by have := M.lt; simp; omega) (by omega) (by rw [← hszy]; exact Blk.new y2 _ _) (by have := M.lt; omega) rfl (all1 b_ti) (by omega)) ?_
    rintro e x3 ⟨rfl, hS, hR⟩
    replace M := M.lay hS hR
    have hl3 := encL_len9 (all1 b_ti) z2 hl2
    simp only [List.length_cons, List.length_nil] at hl3
    clear hS hR
    generalize hZ : z2 ++ encL [ti] = z3 at *
    have HZ3 := Lib.hid hZ
    clear hZ
    have k0 := M.blk.cell (i := 0) rfl
    have k1 := M.blk.cell (i := 1) rfl
    have k2 := M.blk.cell (i := 2) rfl
    have k3 := M.blk.cell (i := 3) rfl
    have k4 := M.blk.cell (i := 4) rfl
    have k5 := M.blk.cell (i := 5) rfl
    have k6 := M.blk.cell (i := 6) rfl
    have k7 := M.blk.cell (i := 7) rfl
    have k8 := M.blk.cell (i := 8) rfl
    have k9 := M.blk.cell (i := 9) rfl
    obtain ⟨A0, c0, hB0, hO0⟩ := id M.st
    have kb := hB0.cell (i := 0) rfl
    have kf := hB0.free 0
    go_wp2_with fail
    go_ret
    have hZ : z3 = encC ⟨pl, sq, 2, nn, us, ti, wd, ht, ax, ay⟩ := by rw [← HZ3.out, ← HZ2.out, ← HZ1.out]; simp [encC, encK, encL, encU, putI]
    rw [← hZ]
    exact ⟨A0, c0, rfl, own_mono hO0 (by omega), M.below⟩
  · have hk := HM.out
    simp only [mayK, Int.reduceEq, if_false, if_true, Bool.and_eq_true, beq_iff_eq] at hk
    obtain ⟨⟨⟨⟨⟨⟨a1, e_ti⟩, e_nn⟩, e_wd⟩, e_ht⟩, e_ax⟩, e_ay⟩ := hk
    obtain ⟨u1, u2, _, u4⟩ := okUs_iff.1 a1
    have b_us : ∀ x ∈ us, 0 ≤ x ∧ x ≤ 9223372036854775807 := fun x hx => by have := u4 x hx; omega
    have hml : us.length = m := by have := hr.1; simpa [nums] using this
    clear u4
    have E_ti := Lib.hid e_ti
    have E_nn := Lib.hid e_nn
    have E_wd := Lib.hid e_wd
    have E_ht := Lib.hid e_ht
    have E_ax := Lib.hid e_ax
    have E_ay := Lib.hid e_ay
    clear e_ti e_nn e_wd e_ht e_ax e_ay HM
    have k0 := M.blk.cell (i := 0) rfl
    have k1 := M.blk.cell (i := 1) rfl
    have k2 := M.blk.cell (i := 2) rfl
    have k3 := M.blk.cell (i := 3) rfl
    have k4 := M.blk.cell (i := 4) rfl
    have k5 := M.blk.cell (i := 5) rfl
    have k6 := M.blk.cell (i := 6) rfl
    have k7 := M.blk.cell (i := 7) rfl
    have k8 := M.blk.cell (i := 8) rfl
    have k9 := M.blk.cell (i := 9) rfl
    obtain ⟨A0, c0, hB0, hO0⟩ := id M.st
    have kb := hB0.cell (i := 0) rfl
    have kf := hB0.free 0
    go_wp2_with fail
    clear kb kf
    clear k0
    clear k1
    clear k2
    clear k3
    clear k4
    clear k5
    clear k6
    clear k7
    clear k8
    clear k9
    refine Calls.mono (cmd_list (B + 2) _ _ _ z1 A m cc us _ hO0 M.lt (by omega) ((hr.below M.below).more (by omega)) b_us (by omega)) ?_
    rintro e x2 ⟨A3, c3, rfl, hown3, hb3, hk3⟩
    have hbk2 : Blk x2 B #[_] 29 := hk3 B _ _ (by decide) hB0
    have Mb := M.blk
    have hl2 : (z1 ++ encU us).length ≤ 2000 := by
      have h1 := encL_len b_us
      have h2 := put_nine (n := us.length) (by omega)
      simp only [encU, List.length_append]; omega
    generalize hZ : z1 ++ encU us = z2 at *
    have HZ2 := Lib.hid hZ
    clear hZ
    have hS := lay_store hbk2 hown3 (show B < B + 2 by omega)
    have hR := ((LayR.refl (B + 2) B x1).step hb3 hk3).store (.slice A3 z2.length c3)
    replace M := M.lay0 hS hR
    have hCk := Mb.below hb3 (by omega)
    have k0 := hCk.cell (i := 0) rfl
    have k1 := hCk.cell (i := 1) rfl
    have k2 := hCk.cell (i := 2) rfl
    have k3 := hCk.cell (i := 3) rfl
    have k4 := hCk.cell (i := 4) rfl
    have k5 := hCk.cell (i := 5) rfl
    have k6 := hCk.cell (i := 6) rfl
    have k7 := hCk.cell (i := 7) rfl
    have k8 := hCk.cell (i := 8) rfl
    have k9 := hCk.cell (i := 9) rfl
    have kb := hbk2.cell (i := 0) rfl
    have kf := hbk2.free 0
    have hO3 := own_low hown3 (a := ⟨B, 0, none⟩) (by show B < B + 2; omega) (.slice A3 z2.length c3)
    clear hown3 hb3 hk3 hbk2 hS hR Mb hCk
    go_wp2_with fail
    clear kb kf k0 k1 k2 k3 k4 k5 k6 k7 k8 k9
    have hszy : (x2.setCell ⟨B, 0, none⟩ (.slice A3 z2.length c3)).heap.size = x2.heap.size := by simp
    generalize x2.setCell ⟨B, 0, none⟩ (.slice A3 z2.length c3) = y2 at *
    go_ret
    have hZ : z2 = encC ⟨pl, sq, 3, nn, us, ti, wd, ht, ax, ay⟩ := by rw [← HZ2.out, ← HZ1.out]; simp [encC, encK, encL, encU, putI]
    rw [← hZ]
    exact ⟨A3, c3, rfl, own_mono hO3 (by omega), M.below⟩
  · have hk := HM.out
    simp only [mayK, Int.reduceEq, if_false, if_true, Bool.and_eq_true, inB_iff, decide_eq_true_eq, beq_iff_eq] at hk
    obtain ⟨⟨⟨⟨⟨⟨⟨a1, a2⟩, a3, a4⟩, a5, a6⟩, e_nn⟩, e_us⟩, e_ax⟩, e_ay⟩ := hk
    have b_ti : 0 ≤ ti ∧ ti ≤ 9223372036854775807 := by omega
    have b_wd : 0 ≤ wd ∧ wd ≤ 9223372036854775807 := by omega
    have b_ht : 0 ≤ ht ∧ ht ≤ 9223372036854775807 := by omega
    have E_nn := Lib.hid e_nn
    have E_us := Lib.hid e_us
    have E_ax := Lib.hid e_ax
    have E_ay := Lib.hid e_ay
    clear e_nn e_us e_ax e_ay HM
    have k0 := M.blk.cell (i := 0) rfl
    have k1 := M.blk.cell (i := 1) rfl
    have k2 := M.blk.cell (i := 2) rfl
    have k3 := M.blk.cell (i := 3) rfl
    have k4 := M.blk.cell (i := 4) rfl
    have k5 := M.blk.cell (i := 5) rfl
    have k6 := M.blk.cell (i := 6) rfl
    have k7 := M.blk.cell (i := 7) rfl
    have k8 := M.blk.cell (i := 8) rfl
    have k9 := M.blk.cell (i := 9) rfl
    obtain ⟨A0, c0, hB0, hO0⟩ := id M.st
    have kb := hB0.cell (i := 0) rfl
    have kf := hB0.free 0
    go_wp2_with fail
    clear kb kf k0 k1 k2 k3 k4 k5 k6 k7 k8 k9
    refine Calls.mono (lay_put (B + 2) B x1.heap.size 3 z1 [ti, wd, ht] _ (M.st.alloc _) (by omega) (by have := M.lt; simp; omega) (by omega) (Blk.new x1 _ _) (by have := M.lt; omega) rfl (all3 b_ti b_wd b_ht) (by omega)) ?_
    rintro e x2 ⟨rfl, hS, hR⟩
    replace M := M.lay hS hR
    have hl2 := encL_len9 (all3 b_ti b_wd b_ht) z1 hl1
    simp only [List.length_cons, List.length_nil] at hl2
    clear hS hR
    generalize hZ : z1 ++ encL [ti, wd, ht] = z2 at *
    have HZ2 := Lib.hid hZ
    clear hZ
    have k0 := M.blk.cell (i := 0) rfl
    have k1 := M.blk.cell (i := 1) rfl
    have k2 := M.blk.cell (i := 2) rfl
    have k3 := M.blk.cell (i := 3) rfl
    have k4 := M.blk.cell (i := 4) rfl
    have k5 := M.blk.cell (i := 5) rfl
    have k6 := M.blk.cell (i := 6) rfl
    have k7 := M.blk.cell (i := 7) rfl
    have k8 := M.blk.cell (i := 8) rfl
    have k9 := M.blk.cell (i := 9) rfl
    obtain ⟨A0, c0, hB0, hO0⟩ := id M.st
    have kb := hB0.cell (i := 0) rfl
    have kf := hB0.free 0
    go_wp2_with fail
    go_ret
    have hZ : z2 = encC ⟨pl, sq, 4, nn, us, ti, wd, ht, ax, ay⟩ := by rw [← HZ2.out, ← HZ1.out]; simp [encC, encK, encL, putI]
    rw [← hZ]
    exact ⟨A0, c0, rfl, own_mono hO0 (by omega), M.below⟩
  · have hk := HM.out
    simp only [mayK, Int.reduceEq, if_false, if_true, Bool.and_eq_true, inB_iff, decide_eq_true_eq, beq_iff_eq] at hk
    obtain ⟨⟨⟨⟨⟨⟨⟨a1, a2⟩, e_us⟩, e_ti⟩, e_wd⟩, e_ht⟩, e_ax⟩, e_ay⟩ := hk
    have b_nn : 0 ≤ nn ∧ nn ≤ 9223372036854775807 := by omega
    have E_us := Lib.hid e_us
    have E_ti := Lib.hid e_ti
    have E_wd := Lib.hid e_wd
    have E_ht := Lib.hid e_ht
    have E_ax := Lib.hid e_ax
    have E_ay := Lib.hid e_ay
    clear e_us e_ti e_wd e_ht e_ax e_ay HM
    have k0 := M.blk.cell (i := 0) rfl
    have k1 := M.blk.cell (i := 1) rfl
    have k2 := M.blk.cell (i := 2) rfl
    have k3 := M.blk.cell (i := 3) rfl
    have k4 := M.blk.cell (i := 4) rfl
    have k5 := M.blk.cell (i := 5) rfl
    have k6 := M.blk.cell (i := 6) rfl
    have k7 := M.blk.cell (i := 7) rfl
    have k8 := M.blk.cell (i := 8) rfl
    have k9 := M.blk.cell (i := 9) rfl
    obtain ⟨A0, c0, hB0, hO0⟩ := id M.st
    have kb := hB0.cell (i := 0) rfl
    have kf := hB0.free 0
    go_wp2_with fail
    clear kb kf k0 k1 k2 k3 k4 k5 k6 k7 k8 k9
    refine Calls.mono (lay_put (B + 2) B x1.heap.size 1 z1 [nn] _ (M.st.alloc _) (by omega) (by have := M.lt; simp; omega) (by omega) (Blk.new x1 _ _) (by have := M.lt; omega) rfl (all1 b_nn) (by omega)) ?_
    rintro e x2 ⟨rfl, hS, hR⟩
    replace M := M.lay hS hR
    have hl2 := encL_len9 (all1 b_nn) z1 hl1
    simp only [List.length_cons, List.length_nil] at hl2
    clear hS hR
    generalize hZ : z1 ++ encL [nn] = z2 at *
    have HZ2 := Lib.hid hZ
    clear hZ
    have k0 := M.blk.cell (i := 0) rfl
    have k1 := M.blk.cell (i := 1) rfl
    have k2 := M.blk.cell (i := 2) rfl
    have k3 := M.blk.cell (i := 3) rfl
    have k4 := M.blk.cell (i := 4) rfl
    have k5 := M.blk.cell (i := 5) rfl
    have k6 := M.blk.cell (i := 6) rfl
    have k7 := M.blk.cell (i := 7) rfl
    have k8 := M.blk.cell (i := 8) rfl
    have k9 := M.blk.cell (i := 9) rfl
    obtain ⟨A0, c0, hB0, hO0⟩ := id M.st
    have kb := hB0.cell (i := 0) rfl
    have kf := hB0.free 0
    go_wp2_with fail
    go_ret
    have hZ : z2 = encC ⟨pl, sq, 5, nn, us, ti, wd, ht, ax, ay⟩ := by rw [← HZ2.out, ← HZ1.out]; simp [encC, encK, encL, putI]
    rw [← hZ]
    exact ⟨A0, c0, rfl, own_mono hO0 (by omega), M.below⟩
  · have hk := HM.out
    simp only [mayK, Int.reduceEq, if_false, if_true, Bool.and_eq_true, inB_iff, beq_iff_eq] at hk
    obtain ⟨⟨⟨⟨⟨⟨a1, a3, a4⟩, e_ti⟩, e_wd⟩, e_ht⟩, e_ax⟩, e_ay⟩ := hk
    have b_nn : 0 ≤ nn ∧ nn ≤ 9223372036854775807 := by omega
    obtain ⟨u1, u2, _, u4⟩ := okUs_iff.1 a1
    have b_us : ∀ x ∈ us, 0 ≤ x ∧ x ≤ 9223372036854775807 := fun x hx => by have := u4 x hx; omega
    have hml : us.length = m := by have := hr.1; simpa [nums] using this
    clear u4
    have E_ti := Lib.hid e_ti
    have E_wd := Lib.hid e_wd
    have E_ht := Lib.hid e_ht
    have E_ax := Lib.hid e_ax
    have E_ay := Lib.hid e_ay
    clear e_ti e_wd e_ht e_ax e_ay HM
    have k0 := M.blk.cell (i := 0) rfl
    have k1 := M.blk.cell (i := 1) rfl
    have k2 := M.blk.cell (i := 2) rfl
    have k3 := M.blk.cell (i := 3) rfl
    have k4 := M.blk.cell (i := 4) rfl
    have k5 := M.blk.cell (i := 5) rfl
    have k6 := M.blk.cell (i := 6) rfl
    have k7 := M.blk.cell (i := 7) rfl
    have k8 := M.blk.cell (i := 8) rfl
    have k9 := M.blk.cell (i := 9) rfl
    obtain ⟨A0, c0, hB0, hO0⟩ := id M.st
    have kb := hB0.cell (i := 0) rfl
    have kf := hB0.free 0
    go_wp2_with fail
    clear kb kf
    clear k0
    clear k1
    clear k2
    clear k3
    clear k4
    clear k5
    clear k6
    clear k7
    clear k8
    clear k9
    refine Calls.mono (cmd_list (B + 2) _ _ _ z1 A m cc us _ hO0 M.lt (by omega) ((hr.below M.below).more (by omega)) b_us (by omega)) ?_
    rintro e x2 ⟨A3, c3, rfl, hown3, hb3, hk3⟩
    have hbk2 : Blk x2 B #[_] 29 := hk3 B _ _ (by decide) hB0
    have Mb := M.blk
    have hl2 : (z1 ++ encU us).length ≤ 2000 := by
      have h1 := encL_len b_us
      have h2 := put_nine (n := us.length) (by omega)
      simp only [encU, List.length_append]; omega
    generalize hZ : z1 ++ encU us = z2 at *
    have HZ2 := Lib.hid hZ
    clear hZ
    have hS := lay_store hbk2 hown3 (show B < B + 2 by omega)
    have hR := ((LayR.refl (B + 2) B x1).step hb3 hk3).store (.slice A3 z2.length c3)
    replace M := M.lay0 hS hR
    have hCk := Mb.below hb3 (by omega)
    have k0 := hCk.cell (i := 0) rfl
    have k1 := hCk.cell (i := 1) rfl
    have k2 := hCk.cell (i := 2) rfl
    have k3 := hCk.cell (i := 3) rfl
    have k4 := hCk.cell (i := 4) rfl
    have k5 := hCk.cell (i := 5) rfl
    have k6 := hCk.cell (i := 6) rfl
    have k7 := hCk.cell (i := 7) rfl
    have k8 := hCk.cell (i := 8) rfl
    have k9 := hCk.cell (i := 9) rfl
    have kb := hbk2.cell (i := 0) rfl
    have kf := hbk2.free 0
    have hO3 := own_low hown3 (a := ⟨B, 0, none⟩) (by show B < B + 2; omega) (.slice A3 z2.length c3)
    clear hown3 hb3 hk3 hbk2 hS hR Mb hCk
    go_wp2_with fail
    clear kb kf k0 k1 k2 k3 k4 k5 k6 k7 k8 k9
    have hszy : (x2.setCell ⟨B, 0, none⟩ (.slice A3 z2.length c3)).heap.size = x2.heap.size := by simp
    generalize x2.setCell ⟨B, 0, none⟩ (.slice A3 z2.length c3) = y2 at *
    refine Calls.mono (lay_put (B + 2) B x2.heap.size 1 z2 [nn] _ (M.st.alloc _) (by omega) (by have := M.lt; simp; omega) (by omega) (by rw [← hszy]; exact Blk.new y2 _ _) (by have := M.lt; omega) rfl (all1 b_nn) (by omega)) ?_
    rintro e x3 ⟨rfl, hS, hR⟩
    replace M := M.lay hS hR
    have hl3 := encL_len9 (all1 b_nn) z2 hl2
    simp only [List.length_cons, List.length_nil] at hl3
    clear hS hR
    generalize hZ : z2 ++ encL [nn] = z3 at *
    have HZ3 := Lib.hid hZ
    clear hZ
    have k0 := M.blk.cell (i := 0) rfl
    have k1 := M.blk.cell (i := 1) rfl
    have k2 := M.blk.cell (i := 2) rfl
    have k3 := M.blk.cell (i := 3) rfl
    have k4 := M.blk.cell (i := 4) rfl
    have k5 := M.blk.cell (i := 5) rfl
    have k6 := M.blk.cell (i := 6) rfl
    have k7 := M.blk.cell (i := 7) rfl
    have k8 := M.blk.cell (i := 8) rfl
    have k9 := M.blk.cell (i := 9) rfl
    obtain ⟨A0, c0, hB0, hO0⟩ := id M.st
    have kb := hB0.cell (i := 0) rfl
    have kf := hB0.free 0
    go_wp2_with fail
    go_ret
    have hZ : z3 = encC ⟨pl, sq, 6, nn, us, ti, wd, ht, ax, ay⟩ := by rw [← HZ3.out, ← HZ2.out, ← HZ1.out]; simp [encC, encK, encL, encU, putI]
    rw [← hZ]
    exact ⟨A0, c0, rfl, own_mono hO0 (by omega), M.below⟩
  · have hk := HM.out
    simp only [mayK, Int.reduceEq, if_false, if_true, Bool.and_eq_true, inB_iff, decide_eq_true_eq, beq_iff_eq] at hk
    obtain ⟨⟨⟨⟨⟨⟨⟨a1, a2⟩, a3, a4⟩, e_us⟩, e_wd⟩, e_ht⟩, e_ax⟩, e_ay⟩ := hk
    have b_nn : 0 ≤ nn ∧ nn ≤ 9223372036854775807 := by omega
    have b_ti : 0 ≤ ti ∧ ti ≤ 9223372036854775807 := by omega
    have E_us := Lib.hid e_us
    have E_wd := Lib.hid e_wd
    have E_ht := Lib.hid e_ht
    have E_ax := Lib.hid e_ax
    have E_ay := Lib.hid e_ay
    clear e_us e_wd e_ht e_ax e_ay HM
    have k0 := M.blk.cell (i := 0) rfl
    have k1 := M.blk.cell (i := 1) rfl
    have k2 := M.blk.cell (i := 2) rfl
    have k3 := M.blk.cell (i := 3) rfl
    have k4 := M.blk.cell (i := 4) rfl
    have k5 := M.blk.cell (i := 5) rfl
    have k6 := M.blk.cell (i := 6) rfl
    have k7 := M.blk.cell (i := 7) rfl
    have k8 := M.blk.cell (i := 8) rfl
    have k9 := M.blk.cell (i := 9) rfl
    obtain ⟨A0, c0, hB0, hO0⟩ := id M.st
    have kb := hB0.cell (i := 0) rfl
    have kf := hB0.free 0
    go_wp2_with fail
    clear kb kf k0 k1 k2 k3 k4 k5 k6 k7 k8 k9
    refine Calls.mono (lay_put (B + 2) B x1.heap.size 2 z1 [nn, ti] _ (M.st.alloc _) (by omega) (by have := M.lt; simp; omega) (by omega) (Blk.new x1 _ _) (by have := M.lt; omega) rfl (all2 b_nn b_ti) (by omega)) ?_
    rintro e x2 ⟨rfl, hS, hR⟩
    replace M := M.lay hS hR
    have hl2 := encL_len9 (all2 b_nn b_ti) z1 hl1
    simp only [List.length_cons, List.length_nil] at hl2
    clear hS hR
    generalize hZ : z1 ++ encL [nn, ti] = z2 at *
    have HZ2 := Lib.hid hZ
    clear hZ
    have k0 := M.blk.cell (i := 0) rfl
    have k1 := M.blk.cell (i := 1) rfl
    have k2 := M.blk.cell (i := 2) rfl
    have k3 := M.blk.cell (i := 3) rfl
    have k4 := M.blk.cell (i := 4) rfl
    have k5 := M.blk.cell (i := 5) rfl
    have k6 := M.blk.cell (i := 6) rfl
    have k7 := M.blk.cell (i := 7) rfl
    have k8 := M.blk.cell (i := 8) rfl
    have k9 := M.blk.cell (i := 9) rfl
    obtain ⟨A0, c0, hB0, hO0⟩ := id M.st
    have kb := hB0.cell (i := 0) rfl
    have kf := hB0.free 0
    go_wp2_with fail
    go_ret
    have hZ : z2 = encC ⟨pl, sq, 7, nn, us, ti, wd, ht, ax, ay⟩ := by rw [← HZ2.out, ← HZ1.out]; simp [encC, encK, encL, putI]
    rw [← hZ]
    exact ⟨A0, c0, rfl, own_mono hO0 (by omega), M.below⟩
end Go.Proofs.Ytneigplmgellcaa
