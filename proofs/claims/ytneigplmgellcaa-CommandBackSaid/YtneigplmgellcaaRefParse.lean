/- How the page reads a command from bytes. -/
import Derived.Test.YtneigplmgellcaaRefUnits
namespace Go.Proofs.Ytneigplmgellcaa
set_option maxRecDepth 20000
open Go.RowKit

/-- The result's box at B, the page's reader behind it, a command's box at C. -/
structure RrC (w0 w : World) (B C n : Nat) (s : St) (cs : Array Value) : Prop where
  rr : Rr w B (B + 1) n s
  res : Blk w B (cmdCs 0 0 0 0 none 0 0 0 0 0 0 0) 28
  blk : Blk w C cs 28
  below : Below B w0 w
  lt : B + 1 < C
theorem RrC.call {w0 w w' : World} {B C n : Nat} {s s' : St} {cs : Array Value} (h : RrC w0 w B C n s cs) (hR : Rr w' B (B + 1) n s') (ho : Only (B + 1) w w') : RrC w0 w' B C n s' cs :=
  ⟨hR, h.res.only ho (by omega), h.blk.only ho (by have := h.lt; omega), below_only h.below ho (by omega) (by have := h.res.lt; omega), h.lt⟩
theorem RrC.put {w0 w : World} {B C n : Nat} {s : St} {cs : Array Value} (h : RrC w0 w B C n s cs) (i : Nat) (u : Value) : RrC w0 (w.setCell ⟨C, i, none⟩ u) B C n s (cs.setIfInBounds i u) :=
  ⟨h.rr.other (by exact h.lt) u, h.res.other (by have := h.lt; show B ≠ C; omega) u, h.blk.set i u, h.below.setCell (by have := h.lt; show B ≤ C; omega) u, h.lt⟩
theorem rest_st {k p q k0 p0 q0 : Int} {s : St} (hq : ∀ l, s = .ok l → k = k0 ∧ p = p0 ∧ q = q0) : (rrest k0 p0 q0 s).2 = (rrest k p q s).2 := by
  cases s with
  | ok l => obtain ⟨rfl, rfl, rfl⟩ := hq l rfl; rfl
  | bad x => rw [stays_rest, stays_rest]
theorem rest_val {k p q k0 p0 q0 : Int} {s : St} (hq : ∀ l, s = .ok l → k = k0 ∧ p = p0 ∧ q = q0) {r : List Int} (h : (rrest k p q s).2 = .ok r) : rrest k0 p0 q0 s = rrest k p q s := by
  cases s with
  | ok l => obtain ⟨rfl, rfl, rfl⟩ := hq l rfl; rfl
  | bad x => rw [stays_rest] at h; cases h


set_option maxHeartbeats 12800000 in
set_option maxRecDepth 20000 in
theorem ref_parse (A : Option Addr) (n c B0 : Nat) (l : List Int) (w : World) (hl : Left w B0 A n c l) (hA0 : A = none → c = 0) (hB : B0 ≤ w.heap.size) :
    Calls Try.prog 25 #[.slice A n c] w (GivesCmd w (parseR l)) := by
  have hll := hl.len
  have hn4 := hl.2.2.2.2
  have hR0 : Rr ((w.alloc (.cells (cmdCs 0 0 0 0 none 0 0 0 0 0 0 0) 28)).alloc (.cells #[.slice A n c, .int .i64 0, .int .i64 0] 66)) w.heap.size (w.heap.size + 1) n (.ok l) := by
    have hb := ((Below.refl w.heap.size w).alloc (Nat.le_refl _) (.cells (cmdCs 0 0 0 0 none 0 0 0 0 0 0 0) 28)).alloc (by simp) (.cells #[.slice A n c, .int .i64 0, .int .i64 0] 66)
    refine ⟨by omega, A, c, 0, 0, l, ?_, ⟨(hl.1.more hB).below hb, hl.2⟩, hA0, by omega, by omega, rfl, rfl⟩
    have := Blk.new (w.alloc (.cells (cmdCs 0 0 0 0 none 0 0 0 0 0 0 0) 28)) #[.slice A n c, .int .i64 0, .int .i64 0] 66
    simpa using this
  have hC0 : Blk ((w.alloc (.cells (cmdCs 0 0 0 0 none 0 0 0 0 0 0 0) 28)).alloc (.cells #[.slice A n c, .int .i64 0, .int .i64 0] 66)) w.heap.size (cmdCs 0 0 0 0 none 0 0 0 0 0 0 0) 28 := (Blk.new w _ _).alloc _
  have hb0 : Below w.heap.size w ((w.alloc (.cells (cmdCs 0 0 0 0 none 0 0 0 0 0 0 0) 28)).alloc (.cells #[.slice A n c, .int .i64 0, .int .i64 0] 66)) := ((Below.refl w.heap.size w).alloc (Nat.le_refl _) _).alloc (by simp) _
  go_enter Try.func25, Try.ntmps25
  go_wp2_with fail
  generalize (w.alloc (.cells (cmdCs 0 0 0 0 none 0 0 0 0 0 0 0) 28)).alloc (.cells #[.slice A n c, .int .i64 0, .int .i64 0] 66) = w0 at *
  generalize hCC : w.heap.size = B at *
  refine Calls.mono (ref_rnum B (B + 1) n 1 7 (.ok l) w0 hR0) ?_
  rintro e u0 ⟨k, rfl, ⟨b0k, b1k⟩, hk, hR1, ho1⟩
  have M0 : RrC w (u0.alloc (.cells (cmdCs 0 0 k 0 none 0 0 0 0 0 0 0) 28)) B u0.heap.size n (rnum 1 7 (.ok l)).2 (cmdCs 0 0 k 0 none 0 0 0 0 0 0 0) :=
    ⟨hR1.alloc _, (hC0.only ho1 (by omega)).alloc _, Blk.new u0 _ _, (below_only hb0 ho1 (by omega) (by have := hC0.lt; omega)).alloc (by have := hR1.lt; omega) _, hR1.lt⟩
  have Hk := Lib.hid hk
  clear hR0 hC0 hb0 ho1 hR1 hk
  go_wp2_with fail
  have M := M0
  clear M0 hl
  generalize hCz : u0.heap.size = C at *
  generalize u0.alloc (.cells (cmdCs 0 0 k 0 none 0 0 0 0 0 0 0) 28) = v0 at *
  refine Calls.mono (ref_rnum B (B + 1) n (1) (8) _ _ M.rr) ?_
  rintro e u1 ⟨p, rfl, ⟨b0p, b1p⟩, hp, hR, ho⟩
  replace M := M.call hR ho
  have Hp := Lib.hid hp
  clear hR ho hp
  have c0_ := M.blk.cell (i := 0) rfl
  have f0_ := M.blk.free 0
  go_wp2_with fail
  replace M : RrC w (u1.setCell ⟨C, 0, none⟩ (.int .i64 p)) B C n _ (cmdCs p 0 k 0 none 0 0 0 0 0 0 0) := M.put 0 (.int .i64 p)
  generalize u1.setCell ⟨C, 0, none⟩ (.int .i64 p) = v1_0 at *
  clear c0_ f0_
  refine Calls.mono (ref_rnum B (B + 1) n (0) (1099511627776) _ _ M.rr) ?_
  rintro e u2 ⟨q, rfl, ⟨b0q, b1q⟩, hq, hR, ho⟩
  replace M := M.call hR ho
  have Hq := Lib.hid hq
  clear hR ho hq
  have HQ : Hid (∀ r, (rnum (0) (1099511627776) (rnum (1) (8) (rnum 1 7 (.ok l)).2).2).2 = .ok r → k = (rnum 1 7 (.ok l)).1 ∧ p = (rnum 1 8 (rnum 1 7 (.ok l)).2).1 ∧ q = (rnum 0 1099511627776 (rnum 1 8 (rnum 1 7 (.ok l)).2).2).1) := by
    intro r hl
    obtain ⟨m2, h2⟩ := ok_num hl
    obtain ⟨m1, h1⟩ := ok_num h2
    exact ⟨Hk.out _ h1, Hp.out _ h2, Hq.out _ hl⟩
  have HT : Hid ((readC (.ok l)).2 = (rrest k p q (rnum (0) (1099511627776) (rnum (1) (8) (rnum 1 7 (.ok l)).2).2).2).2) := rest_st HQ.out
  have HV : Hid (∀ r, (rrest k p q (rnum (0) (1099511627776) (rnum (1) (8) (rnum 1 7 (.ok l)).2).2).2).2 = .ok r → readC (.ok l) = rrest k p q (rnum (0) (1099511627776) (rnum (1) (8) (rnum 1 7 (.ok l)).2).2).2) := fun r hr => rest_val HQ.out hr
  clear Hk Hp Hq HQ
  generalize (rnum (0) (1099511627776) (rnum (1) (8) (rnum 1 7 (.ok l)).2).2).2 = s3 at *
  have hk7 : k = 1 ∨ k = 2 ∨ k = 3 ∨ k = 4 ∨ k = 5 ∨ k = 6 ∨ k = 7 ∨ ¬ (k = 1 ∨ k = 2 ∨ k = 3 ∨ k = 4 ∨ k = 5 ∨ k = 6 ∨ k = 7) := by omega
  rcases hk7 with rfl | rfl | rfl | rfl | rfl | rfl | rfl | hk7
  · skip
    have c1_ := M.blk.cell (i := 1) rfl
    have f1_ := M.blk.free 1
    have cx := M.blk.cell (i := 2) rfl
    go_wp2_with fail
    clear cx
    replace M : RrC w (u2.setCell ⟨C, 1, none⟩ (.int .i64 q)) B C n _ (cmdCs p q 1 0 none 0 0 0 0 0 0 0) := M.put 1 (.int .i64 q)
    generalize u2.setCell ⟨C, 1, none⟩ (.int .i64 q) = v3_1 at *
    clear c1_ f1_
    refine Calls.mono (ref_rnum B (B + 1) n (0) (3) _ _ M.rr) ?_
    rintro e u4 ⟨n1, rfl, ⟨b0n1, b1n1⟩, hn1, hR, ho⟩
    replace M := M.call hR ho
    have Hn1 := Lib.hid hn1
    clear hR ho hn1
    have c3_ := M.blk.cell (i := 3) rfl
    have f3_ := M.blk.free 3
    go_wp2_with fail
    replace M : RrC w (u4.setCell ⟨C, 3, none⟩ (.int .i64 n1)) B C n _ (cmdCs p q 1 n1 none 0 0 0 0 0 0 0) := M.put 3 (.int .i64 n1)
    generalize u4.setCell ⟨C, 3, none⟩ (.int .i64 n1) = v4_3 at *
    clear c3_ f3_
    refine Calls.mono (ref_rint B (B + 1) n (-1099511627776) (1099511627776) _ _ M.rr) ?_
    rintro e u5 ⟨x, rfl, ⟨b0x, b1x⟩, hx, hR, ho⟩
    replace M := M.call hR ho
    have Hx := Lib.hid hx
    clear hR ho hx
    go_wp2_with fail
    refine Calls.mono (ref_rint B (B + 1) n (-1099511627776) (1099511627776) _ _ M.rr) ?_
    rintro e u6 ⟨y, rfl, ⟨b0y, b1y⟩, hy, hR, ho⟩
    replace M := M.call hR ho
    have Hy := Lib.hid hy
    clear hR ho hy
    have HU : Hid ((readC (.ok l)).2 = (rint (-1099511627776) (1099511627776) (rint (-1099511627776) (1099511627776) (rnum (0) (3) s3).2).2).2 ∧ ∀ r, (rint (-1099511627776) (1099511627776) (rint (-1099511627776) (1099511627776) (rnum (0) (3) s3).2).2).2 = .ok r → (readC (.ok l)).1 = (⟨p, q, 1, n1, [], 0, 0, 0, x, y⟩ : Cmd)) := by
      refine ⟨HT.out, fun r hr => ?_⟩
      have z3 : (rint (-1099511627776) (1099511627776) (rint (-1099511627776) (1099511627776) (rnum (0) (3) s3).2).2).2 = .ok r := hr
      obtain ⟨_, z2⟩ := ok_int z3
      obtain ⟨_, z1⟩ := ok_int z2
      rw [HV.out r hr, Hn1.out _ z1, Hx.out _ z2, Hy.out _ z3]
      rfl
    clear HT HV Hn1 Hx Hy
    generalize (rint (-1099511627776) (1099511627776) (rint (-1099511627776) (1099511627776) (rnum (0) (3) s3).2).2).2 = sz at *
    obtain ⟨_, Ar, cr, ar, xr, fr, hBr, hlr, hAr, harn, ⟨hx0, hx1⟩, hsr⟩ := id M.rr
    have kr2 := hBr.cell (i := 2) rfl
    have c8_ := M.blk.cell (i := 8) rfl
    have f8_ := M.blk.free 8
    have c9_ := M.blk.cell (i := 9) rfl
    have f9_ := M.blk.free 9
    have hlr4 := hlr.2.2.2.2
    have hlrl := hlr.len
    clear hlr hAr
    cases sz with
    | bad z =>
      obtain ⟨rfl, he⟩ := hsr
      have d : (xr != 0) = true := by simpa using he
      have HP : Hid (parseR l = (zeroC, 0, xr)) := by
        show _ = _
        unfold parseR
        rw [HU.out.1]
      clear HU
      go_wp2_with fail
      have hBr := hBr.other (a := ⟨C, 8, none⟩) (by have := M.lt; show B + 1 ≠ C; omega) (.int .i64 x)
      have hBr := hBr.other (a := ⟨C, 9, none⟩) (by have := M.lt; show B + 1 ≠ C; omega) (.int .i64 y)
      have hBk := hBr
      replace M : RrC w (u6.setCell ⟨C, 8, none⟩ (.int .i64 x)) B C n _ (cmdCs p q 1 n1 none 0 0 0 0 0 x 0) := M.put 8 (.int .i64 x)
      replace M : RrC w ((u6.setCell ⟨C, 8, none⟩ (.int .i64 x)).setCell ⟨C, 9, none⟩ (.int .i64 y)) B C n _ (cmdCs p q 1 n1 none 0 0 0 0 0 x y) := M.put 9 (.int .i64 y)
      generalize (u6.setCell ⟨C, 8, none⟩ (.int .i64 x)).setCell ⟨C, 9, none⟩ (.int .i64 y) = vx6 at *
      clear kr2 c8_ f8_ c9_ f9_
      obtain ⟨hbR, A9, c9, a9, x9, f9, hB9, hl9, hA9, ha9n, ⟨hx90, hx91⟩, hs9⟩ := id M.rr
      have r0 := M.res.cell (i := 0) rfl
      have rf0 := M.res.free 0
      have r1 := M.res.cell (i := 1) rfl
      have rf1 := M.res.free 1
      have r2 := M.res.cell (i := 2) rfl
      have rf2 := M.res.free 2
      have r3 := M.res.cell (i := 3) rfl
      have rf3 := M.res.free 3
      have r4 := M.res.cell (i := 4) rfl
      have rf4 := M.res.free 4
      have r5 := M.res.cell (i := 5) rfl
      have rf5 := M.res.free 5
      have r6 := M.res.cell (i := 6) rfl
      have rf6 := M.res.free 6
      have r7 := M.res.cell (i := 7) rfl
      have rf7 := M.res.free 7
      have r8 := M.res.cell (i := 8) rfl
      have rf8 := M.res.free 8
      have r9 := M.res.cell (i := 9) rfl
      have rf9 := M.res.free 9
      have j1 := hBk.cell (i := 1) rfl
      have j2 := hBk.cell (i := 2) rfl
      have HM := Lib.hid M
      have hltM := M.lt
      clear M hBk hB9 hl9 hA9
      go_region
      have hC3 : Blk (put10 vx6 B (.int .i64 0) (.int .i64 0) (.int .i64 0) (.int .i64 0) (.slice none 0 0) (.int .i64 0) (.int .i64 0) (.int .i64 0) (.int .i64 0) (.int .i64 0)).drew B #[.int .i64 0, .int .i64 0, .int .i64 0, .int .i64 0, .slice none 0 0, .int .i64 0, .int .i64 0, .int .i64 0, .int .i64 0, .int .i64 0] 28 := (put10_blk _ _ _ _ _ _ _ _ _ _ HM.out.res).drew
      have hb3 := (HM.out.below.trans (put10_below (.int .i64 0) (.int .i64 0) (.int .i64 0) (.int .i64 0) (.slice none 0 0) (.int .i64 0) (.int .i64 0) (.int .i64 0) (.int .i64 0) (.int .i64 0) (Nat.le_refl B))).drew
      simp only [put10] at hC3 hb3
      clear HM j1 j2 r0 rf0 r1 rf1 r2 rf2 r3 rf3 r4 rf4 r5 rf5 r6 rf6 r7 rf7 r8 rf8 r9 rf9
      generalize (((((((((((vx6).setCell ⟨B, 0, none⟩ (.int .i64 0)).setCell ⟨B, 1, none⟩ (.int .i64 0)).setCell ⟨B, 2, none⟩ (.int .i64 0)).setCell ⟨B, 3, none⟩ (.int .i64 0)).setCell ⟨B, 4, none⟩ (.slice none 0 0)).setCell ⟨B, 5, none⟩ (.int .i64 0)).setCell ⟨B, 6, none⟩ (.int .i64 0)).setCell ⟨B, 7, none⟩ (.int .i64 0)).setCell ⟨B, 8, none⟩ (.int .i64 0)).setCell ⟨B, 9, none⟩ (.int .i64 0)).drew = w3 at *
      have q0 : w3.cell? ⟨B, 0, none⟩ = some (.int .i64 0) := hC3.cell rfl
      have q1 : w3.cell? ⟨B, 1, none⟩ = some (.int .i64 0) := hC3.cell rfl
      have q2 : w3.cell? ⟨B, 2, none⟩ = some (.int .i64 0) := hC3.cell rfl
      have q3 : w3.cell? ⟨B, 3, none⟩ = some (.int .i64 0) := hC3.cell rfl
      have q4 : w3.cell? ⟨B, 4, none⟩ = some (.slice none 0 0) := hC3.cell rfl
      have q5 : w3.cell? ⟨B, 5, none⟩ = some (.int .i64 0) := hC3.cell rfl
      have q6 : w3.cell? ⟨B, 6, none⟩ = some (.int .i64 0) := hC3.cell rfl
      have q7 : w3.cell? ⟨B, 7, none⟩ = some (.int .i64 0) := hC3.cell rfl
      have q8 : w3.cell? ⟨B, 8, none⟩ = some (.int .i64 0) := hC3.cell rfl
      have q9 : w3.cell? ⟨B, 9, none⟩ = some (.int .i64 0) := hC3.cell rfl
      go_wp2_with fail
      refine bodyPost_ret (v := .tuple #[cmdV zeroC none 0 0, .int .i64 0, .int .i64 xr]) (by simp [results, Try.results25, go_sem, cmdV, zeroC, q0, q1, q2, q3, q4, q5, q6, q7, q8, q9]) rfl ?_
      rw [HP.out]
      exact ⟨none, 0, 0, rfl, World.ownsRow_nil _ _ _ _, by omega, by rw [hCC]; exact hb3⟩
    | ok z =>
      obtain ⟨rfl, rfl⟩ := hsr
      have HP : Hid (parseR l = ((⟨p, q, 1, n1, [], 0, 0, 0, x, y⟩ : Cmd), (ar : Int), 0)) := by
        show _ = _
        unfold parseR
        rw [HU.out.1]
        simp only [HU.out.2 _ rfl]
        refine Prod.ext rfl (Prod.ext ?_ rfl)
        show (l.length : Int) - ((fr.drop ar).length : Nat) = (ar : Int)
        rw [List.length_drop, hlrl, hll]; omega
      clear HU
      go_wp2_with fail
      have hBr := hBr.other (a := ⟨C, 8, none⟩) (by have := M.lt; show B + 1 ≠ C; omega) (.int .i64 x)
      have hBr := hBr.other (a := ⟨C, 9, none⟩) (by have := M.lt; show B + 1 ≠ C; omega) (.int .i64 y)
      have hBk := hBr
      replace M : RrC w (u6.setCell ⟨C, 8, none⟩ (.int .i64 x)) B C n _ (cmdCs p q 1 n1 none 0 0 0 0 0 x 0) := M.put 8 (.int .i64 x)
      replace M : RrC w ((u6.setCell ⟨C, 8, none⟩ (.int .i64 x)).setCell ⟨C, 9, none⟩ (.int .i64 y)) B C n _ (cmdCs p q 1 n1 none 0 0 0 0 0 x y) := M.put 9 (.int .i64 y)
      generalize (u6.setCell ⟨C, 8, none⟩ (.int .i64 x)).setCell ⟨C, 9, none⟩ (.int .i64 y) = vx6 at *
      clear kr2 c8_ f8_ c9_ f9_
      obtain ⟨hbR, A9, c9, a9, x9, f9, hB9, hl9, hA9, ha9n, ⟨hx90, hx91⟩, hs9⟩ := id M.rr
      have r0 := M.res.cell (i := 0) rfl
      have rf0 := M.res.free 0
      have k0_ := M.blk.cell (i := 0) rfl
      have r1 := M.res.cell (i := 1) rfl
      have rf1 := M.res.free 1
      have k1_ := M.blk.cell (i := 1) rfl
      have r2 := M.res.cell (i := 2) rfl
      have rf2 := M.res.free 2
      have k2_ := M.blk.cell (i := 2) rfl
      have r3 := M.res.cell (i := 3) rfl
      have rf3 := M.res.free 3
      have k3_ := M.blk.cell (i := 3) rfl
      have r4 := M.res.cell (i := 4) rfl
      have rf4 := M.res.free 4
      have k4_ := M.blk.cell (i := 4) rfl
      have r5 := M.res.cell (i := 5) rfl
      have rf5 := M.res.free 5
      have k5_ := M.blk.cell (i := 5) rfl
      have r6 := M.res.cell (i := 6) rfl
      have rf6 := M.res.free 6
      have k6_ := M.blk.cell (i := 6) rfl
      have r7 := M.res.cell (i := 7) rfl
      have rf7 := M.res.free 7
      have k7_ := M.blk.cell (i := 7) rfl
      have r8 := M.res.cell (i := 8) rfl
      have rf8 := M.res.free 8
      have k8_ := M.blk.cell (i := 8) rfl
      have r9 := M.res.cell (i := 9) rfl
      have rf9 := M.res.free 9
      have k9_ := M.blk.cell (i := 9) rfl
      have j1 := hBk.cell (i := 1) rfl
      have j2 := hBk.cell (i := 2) rfl
      have HM := Lib.hid M
      have hltM := M.lt
      clear M hBk hB9 hl9 hA9
      go_region
      have hC3 : Blk (put10 vx6 B (.int .i64 p) (.int .i64 q) (.int .i64 1) (.int .i64 n1) (.slice none 0 0) (.int .i64 0) (.int .i64 0) (.int .i64 0) (.int .i64 x) (.int .i64 y)).drew B #[.int .i64 p, .int .i64 q, .int .i64 1, .int .i64 n1, .slice none 0 0, .int .i64 0, .int .i64 0, .int .i64 0, .int .i64 x, .int .i64 y] 28 := (put10_blk _ _ _ _ _ _ _ _ _ _ HM.out.res).drew
      have hb3 := (HM.out.below.trans (put10_below (.int .i64 p) (.int .i64 q) (.int .i64 1) (.int .i64 n1) (.slice none 0 0) (.int .i64 0) (.int .i64 0) (.int .i64 0) (.int .i64 x) (.int .i64 y) (Nat.le_refl B))).drew
      simp only [put10] at hC3 hb3
      clear HM j1 j2 r0 rf0 r1 rf1 r2 rf2 r3 rf3 r4 rf4 r5 rf5 r6 rf6 r7 rf7 r8 rf8 r9 rf9 k0_ k1_ k2_ k3_ k4_ k5_ k6_ k7_ k8_ k9_
      generalize (((((((((((vx6).setCell ⟨B, 0, none⟩ (.int .i64 p)).setCell ⟨B, 1, none⟩ (.int .i64 q)).setCell ⟨B, 2, none⟩ (.int .i64 1)).setCell ⟨B, 3, none⟩ (.int .i64 n1)).setCell ⟨B, 4, none⟩ (.slice none 0 0)).setCell ⟨B, 5, none⟩ (.int .i64 0)).setCell ⟨B, 6, none⟩ (.int .i64 0)).setCell ⟨B, 7, none⟩ (.int .i64 0)).setCell ⟨B, 8, none⟩ (.int .i64 x)).setCell ⟨B, 9, none⟩ (.int .i64 y)).drew = w3 at *
      have q0 : w3.cell? ⟨B, 0, none⟩ = some (.int .i64 p) := hC3.cell rfl
      have q1 : w3.cell? ⟨B, 1, none⟩ = some (.int .i64 q) := hC3.cell rfl
      have q2 : w3.cell? ⟨B, 2, none⟩ = some (.int .i64 1) := hC3.cell rfl
      have q3 : w3.cell? ⟨B, 3, none⟩ = some (.int .i64 n1) := hC3.cell rfl
      have q4 : w3.cell? ⟨B, 4, none⟩ = some (.slice none 0 0) := hC3.cell rfl
      have q5 : w3.cell? ⟨B, 5, none⟩ = some (.int .i64 0) := hC3.cell rfl
      have q6 : w3.cell? ⟨B, 6, none⟩ = some (.int .i64 0) := hC3.cell rfl
      have q7 : w3.cell? ⟨B, 7, none⟩ = some (.int .i64 0) := hC3.cell rfl
      have q8 : w3.cell? ⟨B, 8, none⟩ = some (.int .i64 x) := hC3.cell rfl
      have q9 : w3.cell? ⟨B, 9, none⟩ = some (.int .i64 y) := hC3.cell rfl
      go_wp2_with fail
      refine bodyPost_ret (v := .tuple #[cmdV (⟨p, q, 1, n1, [], 0, 0, 0, x, y⟩ : Cmd) none 0 0, .int .i64 (ar : Int), .int .i64 0]) (by simp [results, Try.results25, go_sem, cmdV, q0, q1, q2, q3, q4, q5, q6, q7, q8, q9]) rfl ?_
      rw [HP.out]
      exact ⟨none, 0, 0, rfl, World.ownsRow_nil _ _ _ _, by omega, by rw [hCC]; exact hb3⟩
  · skip
    have c1_ := M.blk.cell (i := 1) rfl
    have f1_ := M.blk.free 1
    have cx := M.blk.cell (i := 2) rfl
    go_wp2_with fail
    clear cx
    replace M : RrC w (u2.setCell ⟨C, 1, none⟩ (.int .i64 q)) B C n _ (cmdCs p q 2 0 none 0 0 0 0 0 0 0) := M.put 1 (.int .i64 q)
    generalize u2.setCell ⟨C, 1, none⟩ (.int .i64 q) = v3_1 at *
    clear c1_ f1_
    have hbs : C < v3_1.heap.size := M.blk.lt
    have hBs : B ≤ v3_1.heap.size := by have := M.res.lt; omega
    refine Calls.mono (ref_units B (B + 1) n _ _ M.rr) ?_
    rintro e u4 ⟨A2, m2, c2, us, rfl, hown, hm66, hu, hR, ho⟩
    replace M := M.call hR ho
    have Hu := Lib.hid hu
    clear hR ho hu
    have c4_ := M.blk.cell (i := 4) rfl
    have f4_ := M.blk.free 4
    go_wp2_with fail
    replace M : RrC w (u4.setCell ⟨C, 4, none⟩ (.slice A2 m2 c2)) B C n _ (cmdCs p q 2 0 A2 m2 c2 0 0 0 0 0) := M.put 4 (.slice A2 m2 c2)
    replace hown := own_low hown (a := ⟨C, 4, none⟩) (by exact hbs) (.slice A2 m2 c2)
    generalize u4.setCell ⟨C, 4, none⟩ (.slice A2 m2 c2) = v4_4 at *
    clear c4_ f4_
    refine Calls.mono (ref_rnum B (B + 1) n (0) (16383) _ _ M.rr) ?_
    rintro e u5 ⟨t, rfl, ⟨b0t, b1t⟩, ht, hR, ho⟩
    replace hown := own_only hown ho (by have := M.rr.lt; have := M.lt; omega)
    replace M := M.call hR ho
    have Ht := Lib.hid ht
    clear hR ho ht
    have HU : Hid ((readC (.ok l)).2 = (rnum (0) (16383) (rus s3).2).2 ∧ ∀ r, (rnum (0) (16383) (rus s3).2).2 = .ok r → (readC (.ok l)).1 = (⟨p, q, 2, 0, us, t, 0, 0, 0, 0⟩ : Cmd)) := by
      refine ⟨HT.out, fun r hr => ?_⟩
      have z2 : (rnum (0) (16383) (rus s3).2).2 = .ok r := hr
      obtain ⟨_, z1⟩ := ok_num z2
      rw [HV.out r hr, Hu.out _ z1, Ht.out _ z2]
      rfl
    clear HT HV Hu Ht
    generalize (rnum (0) (16383) (rus s3).2).2 = sz at *
    obtain ⟨_, Ar, cr, ar, xr, fr, hBr, hlr, hAr, harn, ⟨hx0, hx1⟩, hsr⟩ := id M.rr
    have kr2 := hBr.cell (i := 2) rfl
    have c5_ := M.blk.cell (i := 5) rfl
    have f5_ := M.blk.free 5
    have hlr4 := hlr.2.2.2.2
    have hlrl := hlr.len
    clear hlr hAr
    cases sz with
    | bad z =>
      obtain ⟨rfl, he⟩ := hsr
      have d : (xr != 0) = true := by simpa using he
      have HP : Hid (parseR l = (zeroC, 0, xr)) := by
        show _ = _
        unfold parseR
        rw [HU.out.1]
      clear HU
      go_wp2_with fail
      have hBr := hBr.other (a := ⟨C, 5, none⟩) (by have := M.lt; show B + 1 ≠ C; omega) (.int .i64 t)
      have hBk := hBr
      replace M : RrC w (u5.setCell ⟨C, 5, none⟩ (.int .i64 t)) B C n _ (cmdCs p q 2 0 A2 m2 c2 t 0 0 0 0) := M.put 5 (.int .i64 t)
      replace hown := own_low hown (a := ⟨C, 5, none⟩) (by exact hbs) (.int .i64 t)
      generalize u5.setCell ⟨C, 5, none⟩ (.int .i64 t) = v5_5 at *
      clear kr2 c5_ f5_
      obtain ⟨hbR, A9, c9, a9, x9, f9, hB9, hl9, hA9, ha9n, ⟨hx90, hx91⟩, hs9⟩ := id M.rr
      have r0 := M.res.cell (i := 0) rfl
      have rf0 := M.res.free 0
      have r1 := M.res.cell (i := 1) rfl
      have rf1 := M.res.free 1
      have r2 := M.res.cell (i := 2) rfl
      have rf2 := M.res.free 2
      have r3 := M.res.cell (i := 3) rfl
      have rf3 := M.res.free 3
      have r4 := M.res.cell (i := 4) rfl
      have rf4 := M.res.free 4
      have r5 := M.res.cell (i := 5) rfl
      have rf5 := M.res.free 5
      have r6 := M.res.cell (i := 6) rfl
      have rf6 := M.res.free 6
      have r7 := M.res.cell (i := 7) rfl
      have rf7 := M.res.free 7
      have r8 := M.res.cell (i := 8) rfl
      have rf8 := M.res.free 8
      have r9 := M.res.cell (i := 9) rfl
      have rf9 := M.res.free 9
      have j1 := hBk.cell (i := 1) rfl
      have j2 := hBk.cell (i := 2) rfl
      have HM := Lib.hid M
      have hltM := M.lt
      clear M hBk hB9 hl9 hA9
      go_region
      have hC3 : Blk (put10 v5_5 B (.int .i64 0) (.int .i64 0) (.int .i64 0) (.int .i64 0) (.slice none 0 0) (.int .i64 0) (.int .i64 0) (.int .i64 0) (.int .i64 0) (.int .i64 0)).drew B #[.int .i64 0, .int .i64 0, .int .i64 0, .int .i64 0, .slice none 0 0, .int .i64 0, .int .i64 0, .int .i64 0, .int .i64 0, .int .i64 0] 28 := (put10_blk _ _ _ _ _ _ _ _ _ _ HM.out.res).drew
      have hb3 := (HM.out.below.trans (put10_below (.int .i64 0) (.int .i64 0) (.int .i64 0) (.int .i64 0) (.slice none 0 0) (.int .i64 0) (.int .i64 0) (.int .i64 0) (.int .i64 0) (.int .i64 0) (Nat.le_refl B))).drew
      simp only [put10] at hC3 hb3
      clear HM j1 j2 r0 rf0 r1 rf1 r2 rf2 r3 rf3 r4 rf4 r5 rf5 r6 rf6 r7 rf7 r8 rf8 r9 rf9
      generalize (((((((((((v5_5).setCell ⟨B, 0, none⟩ (.int .i64 0)).setCell ⟨B, 1, none⟩ (.int .i64 0)).setCell ⟨B, 2, none⟩ (.int .i64 0)).setCell ⟨B, 3, none⟩ (.int .i64 0)).setCell ⟨B, 4, none⟩ (.slice none 0 0)).setCell ⟨B, 5, none⟩ (.int .i64 0)).setCell ⟨B, 6, none⟩ (.int .i64 0)).setCell ⟨B, 7, none⟩ (.int .i64 0)).setCell ⟨B, 8, none⟩ (.int .i64 0)).setCell ⟨B, 9, none⟩ (.int .i64 0)).drew = w3 at *
      have q0 : w3.cell? ⟨B, 0, none⟩ = some (.int .i64 0) := hC3.cell rfl
      have q1 : w3.cell? ⟨B, 1, none⟩ = some (.int .i64 0) := hC3.cell rfl
      have q2 : w3.cell? ⟨B, 2, none⟩ = some (.int .i64 0) := hC3.cell rfl
      have q3 : w3.cell? ⟨B, 3, none⟩ = some (.int .i64 0) := hC3.cell rfl
      have q4 : w3.cell? ⟨B, 4, none⟩ = some (.slice none 0 0) := hC3.cell rfl
      have q5 : w3.cell? ⟨B, 5, none⟩ = some (.int .i64 0) := hC3.cell rfl
      have q6 : w3.cell? ⟨B, 6, none⟩ = some (.int .i64 0) := hC3.cell rfl
      have q7 : w3.cell? ⟨B, 7, none⟩ = some (.int .i64 0) := hC3.cell rfl
      have q8 : w3.cell? ⟨B, 8, none⟩ = some (.int .i64 0) := hC3.cell rfl
      have q9 : w3.cell? ⟨B, 9, none⟩ = some (.int .i64 0) := hC3.cell rfl
      go_wp2_with fail
      refine bodyPost_ret (v := .tuple #[cmdV zeroC none 0 0, .int .i64 0, .int .i64 xr]) (by simp [results, Try.results25, go_sem, cmdV, zeroC, q0, q1, q2, q3, q4, q5, q6, q7, q8, q9]) rfl ?_
      rw [HP.out]
      exact ⟨none, 0, 0, rfl, World.ownsRow_nil _ _ _ _, by omega, by rw [hCC]; exact hb3⟩
    | ok z =>
      obtain ⟨rfl, rfl⟩ := hsr
      have HP : Hid (parseR l = ((⟨p, q, 2, 0, us, t, 0, 0, 0, 0⟩ : Cmd), (ar : Int), 0)) := by
        show _ = _
        unfold parseR
        rw [HU.out.1]
        simp only [HU.out.2 _ rfl]
        refine Prod.ext rfl (Prod.ext ?_ rfl)
        show (l.length : Int) - ((fr.drop ar).length : Nat) = (ar : Int)
        rw [List.length_drop, hlrl, hll]; omega
      clear HU
      go_wp2_with fail
      have hBr := hBr.other (a := ⟨C, 5, none⟩) (by have := M.lt; show B + 1 ≠ C; omega) (.int .i64 t)
      have hBk := hBr
      replace M : RrC w (u5.setCell ⟨C, 5, none⟩ (.int .i64 t)) B C n _ (cmdCs p q 2 0 A2 m2 c2 t 0 0 0 0) := M.put 5 (.int .i64 t)
      replace hown := own_low hown (a := ⟨C, 5, none⟩) (by exact hbs) (.int .i64 t)
      generalize u5.setCell ⟨C, 5, none⟩ (.int .i64 t) = v5_5 at *
      clear kr2 c5_ f5_
      obtain ⟨hbR, A9, c9, a9, x9, f9, hB9, hl9, hA9, ha9n, ⟨hx90, hx91⟩, hs9⟩ := id M.rr
      have r0 := M.res.cell (i := 0) rfl
      have rf0 := M.res.free 0
      have k0_ := M.blk.cell (i := 0) rfl
      have r1 := M.res.cell (i := 1) rfl
      have rf1 := M.res.free 1
      have k1_ := M.blk.cell (i := 1) rfl
      have r2 := M.res.cell (i := 2) rfl
      have rf2 := M.res.free 2
      have k2_ := M.blk.cell (i := 2) rfl
      have r3 := M.res.cell (i := 3) rfl
      have rf3 := M.res.free 3
      have k3_ := M.blk.cell (i := 3) rfl
      have r4 := M.res.cell (i := 4) rfl
      have rf4 := M.res.free 4
      have k4_ := M.blk.cell (i := 4) rfl
      have r5 := M.res.cell (i := 5) rfl
      have rf5 := M.res.free 5
      have k5_ := M.blk.cell (i := 5) rfl
      have r6 := M.res.cell (i := 6) rfl
      have rf6 := M.res.free 6
      have k6_ := M.blk.cell (i := 6) rfl
      have r7 := M.res.cell (i := 7) rfl
      have rf7 := M.res.free 7
      have k7_ := M.blk.cell (i := 7) rfl
      have r8 := M.res.cell (i := 8) rfl
      have rf8 := M.res.free 8
      have k8_ := M.blk.cell (i := 8) rfl
      have r9 := M.res.cell (i := 9) rfl
      have rf9 := M.res.free 9
      have k9_ := M.blk.cell (i := 9) rfl
      have j1 := hBk.cell (i := 1) rfl
      have j2 := hBk.cell (i := 2) rfl
      have HM := Lib.hid M
      have hltM := M.lt
      clear M hBk hB9 hl9 hA9
      go_region
      have hC3 : Blk (put10 v5_5 B (.int .i64 p) (.int .i64 q) (.int .i64 2) (.int .i64 0) (.slice A2 m2 c2) (.int .i64 t) (.int .i64 0) (.int .i64 0) (.int .i64 0) (.int .i64 0)).drew B #[.int .i64 p, .int .i64 q, .int .i64 2, .int .i64 0, .slice A2 m2 c2, .int .i64 t, .int .i64 0, .int .i64 0, .int .i64 0, .int .i64 0] 28 := (put10_blk _ _ _ _ _ _ _ _ _ _ HM.out.res).drew
      have hown3 := (own_blocks (w' := put10 v5_5 B (.int .i64 p) (.int .i64 q) (.int .i64 2) (.int .i64 0) (.slice A2 m2 c2) (.int .i64 t) (.int .i64 0) (.int .i64 0) (.int .i64 0) (.int .i64 0)) hown (fun k hk => put10_other (.int .i64 p) (.int .i64 q) (.int .i64 2) (.int .i64 0) (.slice A2 m2 c2) (.int .i64 t) (.int .i64 0) (.int .i64 0) (.int .i64 0) (.int .i64 0) (show k ≠ B by omega))).drew
      have hb3 := (HM.out.below.trans (put10_below (.int .i64 p) (.int .i64 q) (.int .i64 2) (.int .i64 0) (.slice A2 m2 c2) (.int .i64 t) (.int .i64 0) (.int .i64 0) (.int .i64 0) (.int .i64 0) (Nat.le_refl B))).drew
      simp only [put10] at hC3 hb3 hown3
      clear HM j1 j2 r0 rf0 r1 rf1 r2 rf2 r3 rf3 r4 rf4 r5 rf5 r6 rf6 r7 rf7 r8 rf8 r9 rf9 k0_ k1_ k2_ k3_ k4_ k5_ k6_ k7_ k8_ k9_
      generalize (((((((((((v5_5).setCell ⟨B, 0, none⟩ (.int .i64 p)).setCell ⟨B, 1, none⟩ (.int .i64 q)).setCell ⟨B, 2, none⟩ (.int .i64 2)).setCell ⟨B, 3, none⟩ (.int .i64 0)).setCell ⟨B, 4, none⟩ (.slice A2 m2 c2)).setCell ⟨B, 5, none⟩ (.int .i64 t)).setCell ⟨B, 6, none⟩ (.int .i64 0)).setCell ⟨B, 7, none⟩ (.int .i64 0)).setCell ⟨B, 8, none⟩ (.int .i64 0)).setCell ⟨B, 9, none⟩ (.int .i64 0)).drew = w3 at *
      have q0 : w3.cell? ⟨B, 0, none⟩ = some (.int .i64 p) := hC3.cell rfl
      have q1 : w3.cell? ⟨B, 1, none⟩ = some (.int .i64 q) := hC3.cell rfl
      have q2 : w3.cell? ⟨B, 2, none⟩ = some (.int .i64 2) := hC3.cell rfl
      have q3 : w3.cell? ⟨B, 3, none⟩ = some (.int .i64 0) := hC3.cell rfl
      have q4 : w3.cell? ⟨B, 4, none⟩ = some (.slice A2 m2 c2) := hC3.cell rfl
      have q5 : w3.cell? ⟨B, 5, none⟩ = some (.int .i64 t) := hC3.cell rfl
      have q6 : w3.cell? ⟨B, 6, none⟩ = some (.int .i64 0) := hC3.cell rfl
      have q7 : w3.cell? ⟨B, 7, none⟩ = some (.int .i64 0) := hC3.cell rfl
      have q8 : w3.cell? ⟨B, 8, none⟩ = some (.int .i64 0) := hC3.cell rfl
      have q9 : w3.cell? ⟨B, 9, none⟩ = some (.int .i64 0) := hC3.cell rfl
      go_wp2_with fail
      refine bodyPost_ret (v := .tuple #[cmdV (⟨p, q, 2, 0, us, t, 0, 0, 0, 0⟩ : Cmd) A2 m2 c2, .int .i64 (ar : Int), .int .i64 0]) (by simp [results, Try.results25, go_sem, cmdV, q0, q1, q2, q3, q4, q5, q6, q7, q8, q9]) rfl ?_
      rw [HP.out]
      exact ⟨A2, m2, c2, rfl, own_mono hown3 (by omega), by omega, by rw [hCC]; exact hb3⟩
  · skip
    have c1_ := M.blk.cell (i := 1) rfl
    have f1_ := M.blk.free 1
    have cx := M.blk.cell (i := 2) rfl
    go_wp2_with fail
    clear cx
    replace M : RrC w (u2.setCell ⟨C, 1, none⟩ (.int .i64 q)) B C n _ (cmdCs p q 3 0 none 0 0 0 0 0 0 0) := M.put 1 (.int .i64 q)
    generalize u2.setCell ⟨C, 1, none⟩ (.int .i64 q) = v3_1 at *
    clear c1_ f1_
    have hbs : C < v3_1.heap.size := M.blk.lt
    have hBs : B ≤ v3_1.heap.size := by have := M.res.lt; omega
    refine Calls.mono (ref_units B (B + 1) n _ _ M.rr) ?_
    rintro e u4 ⟨A2, m2, c2, us, rfl, hown, hm66, hu, hR, ho⟩
    replace M := M.call hR ho
    have Hu := Lib.hid hu
    clear hR ho hu
    have HU : Hid ((readC (.ok l)).2 = (rus s3).2 ∧ ∀ r, (rus s3).2 = .ok r → (readC (.ok l)).1 = (⟨p, q, 3, 0, us, 0, 0, 0, 0, 0⟩ : Cmd)) := by
      refine ⟨HT.out, fun r hr => ?_⟩
      have z1 : (rus s3).2 = .ok r := hr
      rw [HV.out r hr, Hu.out _ z1]
      rfl
    clear HT HV Hu
    generalize (rus s3).2 = sz at *
    obtain ⟨_, Ar, cr, ar, xr, fr, hBr, hlr, hAr, harn, ⟨hx0, hx1⟩, hsr⟩ := id M.rr
    have kr2 := hBr.cell (i := 2) rfl
    have c4_ := M.blk.cell (i := 4) rfl
    have f4_ := M.blk.free 4
    have hlr4 := hlr.2.2.2.2
    have hlrl := hlr.len
    clear hlr hAr
    cases sz with
    | bad z =>
      obtain ⟨rfl, he⟩ := hsr
      have d : (xr != 0) = true := by simpa using he
      have HP : Hid (parseR l = (zeroC, 0, xr)) := by
        show _ = _
        unfold parseR
        rw [HU.out.1]
      clear HU
      go_wp2_with fail
      have hBr := hBr.other (a := ⟨C, 4, none⟩) (by have := M.lt; show B + 1 ≠ C; omega) (.slice A2 m2 c2)
      have hBk := hBr
      replace M : RrC w (u4.setCell ⟨C, 4, none⟩ (.slice A2 m2 c2)) B C n _ (cmdCs p q 3 0 A2 m2 c2 0 0 0 0 0) := M.put 4 (.slice A2 m2 c2)
      replace hown := own_low hown (a := ⟨C, 4, none⟩) (by exact hbs) (.slice A2 m2 c2)
      generalize u4.setCell ⟨C, 4, none⟩ (.slice A2 m2 c2) = v4_4 at *
      clear kr2 c4_ f4_
      obtain ⟨hbR, A9, c9, a9, x9, f9, hB9, hl9, hA9, ha9n, ⟨hx90, hx91⟩, hs9⟩ := id M.rr
      have r0 := M.res.cell (i := 0) rfl
      have rf0 := M.res.free 0
      have r1 := M.res.cell (i := 1) rfl
      have rf1 := M.res.free 1
      have r2 := M.res.cell (i := 2) rfl
      have rf2 := M.res.free 2
      have r3 := M.res.cell (i := 3) rfl
      have rf3 := M.res.free 3
      have r4 := M.res.cell (i := 4) rfl
      have rf4 := M.res.free 4
      have r5 := M.res.cell (i := 5) rfl
      have rf5 := M.res.free 5
      have r6 := M.res.cell (i := 6) rfl
      have rf6 := M.res.free 6
      have r7 := M.res.cell (i := 7) rfl
      have rf7 := M.res.free 7
      have r8 := M.res.cell (i := 8) rfl
      have rf8 := M.res.free 8
      have r9 := M.res.cell (i := 9) rfl
      have rf9 := M.res.free 9
      have j1 := hBk.cell (i := 1) rfl
      have j2 := hBk.cell (i := 2) rfl
      have HM := Lib.hid M
      have hltM := M.lt
      clear M hBk hB9 hl9 hA9
      go_region
      have hC3 : Blk (put10 v4_4 B (.int .i64 0) (.int .i64 0) (.int .i64 0) (.int .i64 0) (.slice none 0 0) (.int .i64 0) (.int .i64 0) (.int .i64 0) (.int .i64 0) (.int .i64 0)).drew B #[.int .i64 0, .int .i64 0, .int .i64 0, .int .i64 0, .slice none 0 0, .int .i64 0, .int .i64 0, .int .i64 0, .int .i64 0, .int .i64 0] 28 := (put10_blk _ _ _ _ _ _ _ _ _ _ HM.out.res).drew
      have hb3 := (HM.out.below.trans (put10_below (.int .i64 0) (.int .i64 0) (.int .i64 0) (.int .i64 0) (.slice none 0 0) (.int .i64 0) (.int .i64 0) (.int .i64 0) (.int .i64 0) (.int .i64 0) (Nat.le_refl B))).drew
      simp only [put10] at hC3 hb3
      clear HM j1 j2 r0 rf0 r1 rf1 r2 rf2 r3 rf3 r4 rf4 r5 rf5 r6 rf6 r7 rf7 r8 rf8 r9 rf9
      generalize (((((((((((v4_4).setCell ⟨B, 0, none⟩ (.int .i64 0)).setCell ⟨B, 1, none⟩ (.int .i64 0)).setCell ⟨B, 2, none⟩ (.int .i64 0)).setCell ⟨B, 3, none⟩ (.int .i64 0)).setCell ⟨B, 4, none⟩ (.slice none 0 0)).setCell ⟨B, 5, none⟩ (.int .i64 0)).setCell ⟨B, 6, none⟩ (.int .i64 0)).setCell ⟨B, 7, none⟩ (.int .i64 0)).setCell ⟨B, 8, none⟩ (.int .i64 0)).setCell ⟨B, 9, none⟩ (.int .i64 0)).drew = w3 at *
      have q0 : w3.cell? ⟨B, 0, none⟩ = some (.int .i64 0) := hC3.cell rfl
      have q1 : w3.cell? ⟨B, 1, none⟩ = some (.int .i64 0) := hC3.cell rfl
      have q2 : w3.cell? ⟨B, 2, none⟩ = some (.int .i64 0) := hC3.cell rfl
      have q3 : w3.cell? ⟨B, 3, none⟩ = some (.int .i64 0) := hC3.cell rfl
      have q4 : w3.cell? ⟨B, 4, none⟩ = some (.slice none 0 0) := hC3.cell rfl
      have q5 : w3.cell? ⟨B, 5, none⟩ = some (.int .i64 0) := hC3.cell rfl
      have q6 : w3.cell? ⟨B, 6, none⟩ = some (.int .i64 0) := hC3.cell rfl
      have q7 : w3.cell? ⟨B, 7, none⟩ = some (.int .i64 0) := hC3.cell rfl
      have q8 : w3.cell? ⟨B, 8, none⟩ = some (.int .i64 0) := hC3.cell rfl
      have q9 : w3.cell? ⟨B, 9, none⟩ = some (.int .i64 0) := hC3.cell rfl
      go_wp2_with fail
      refine bodyPost_ret (v := .tuple #[cmdV zeroC none 0 0, .int .i64 0, .int .i64 xr]) (by simp [results, Try.results25, go_sem, cmdV, zeroC, q0, q1, q2, q3, q4, q5, q6, q7, q8, q9]) rfl ?_
      rw [HP.out]
      exact ⟨none, 0, 0, rfl, World.ownsRow_nil _ _ _ _, by omega, by rw [hCC]; exact hb3⟩
    | ok z =>
      obtain ⟨rfl, rfl⟩ := hsr
      have HP : Hid (parseR l = ((⟨p, q, 3, 0, us, 0, 0, 0, 0, 0⟩ : Cmd), (ar : Int), 0)) := by
        show _ = _
        unfold parseR
        rw [HU.out.1]
        simp only [HU.out.2 _ rfl]
        refine Prod.ext rfl (Prod.ext ?_ rfl)
        show (l.length : Int) - ((fr.drop ar).length : Nat) = (ar : Int)
        rw [List.length_drop, hlrl, hll]; omega
      clear HU
      go_wp2_with fail
      have hBr := hBr.other (a := ⟨C, 4, none⟩) (by have := M.lt; show B + 1 ≠ C; omega) (.slice A2 m2 c2)
      have hBk := hBr
      replace M : RrC w (u4.setCell ⟨C, 4, none⟩ (.slice A2 m2 c2)) B C n _ (cmdCs p q 3 0 A2 m2 c2 0 0 0 0 0) := M.put 4 (.slice A2 m2 c2)
      replace hown := own_low hown (a := ⟨C, 4, none⟩) (by exact hbs) (.slice A2 m2 c2)
      generalize u4.setCell ⟨C, 4, none⟩ (.slice A2 m2 c2) = v4_4 at *
      clear kr2 c4_ f4_
      obtain ⟨hbR, A9, c9, a9, x9, f9, hB9, hl9, hA9, ha9n, ⟨hx90, hx91⟩, hs9⟩ := id M.rr
      have r0 := M.res.cell (i := 0) rfl
      have rf0 := M.res.free 0
      have k0_ := M.blk.cell (i := 0) rfl
      have r1 := M.res.cell (i := 1) rfl
      have rf1 := M.res.free 1
      have k1_ := M.blk.cell (i := 1) rfl
      have r2 := M.res.cell (i := 2) rfl
      have rf2 := M.res.free 2
      have k2_ := M.blk.cell (i := 2) rfl
      have r3 := M.res.cell (i := 3) rfl
      have rf3 := M.res.free 3
      have k3_ := M.blk.cell (i := 3) rfl
      have r4 := M.res.cell (i := 4) rfl
      have rf4 := M.res.free 4
      have k4_ := M.blk.cell (i := 4) rfl
      have r5 := M.res.cell (i := 5) rfl
      have rf5 := M.res.free 5
      have k5_ := M.blk.cell (i := 5) rfl
      have r6 := M.res.cell (i := 6) rfl
      have rf6 := M.res.free 6
      have k6_ := M.blk.cell (i := 6) rfl
      have r7 := M.res.cell (i := 7) rfl
      have rf7 := M.res.free 7
      have k7_ := M.blk.cell (i := 7) rfl
      have r8 := M.res.cell (i := 8) rfl
      have rf8 := M.res.free 8
      have k8_ := M.blk.cell (i := 8) rfl
      have r9 := M.res.cell (i := 9) rfl
      have rf9 := M.res.free 9
      have k9_ := M.blk.cell (i := 9) rfl
      have j1 := hBk.cell (i := 1) rfl
      have j2 := hBk.cell (i := 2) rfl
      have HM := Lib.hid M
      have hltM := M.lt
      clear M hBk hB9 hl9 hA9
      go_region
      have hC3 : Blk (put10 v4_4 B (.int .i64 p) (.int .i64 q) (.int .i64 3) (.int .i64 0) (.slice A2 m2 c2) (.int .i64 0) (.int .i64 0) (.int .i64 0) (.int .i64 0) (.int .i64 0)).drew B #[.int .i64 p, .int .i64 q, .int .i64 3, .int .i64 0, .slice A2 m2 c2, .int .i64 0, .int .i64 0, .int .i64 0, .int .i64 0, .int .i64 0] 28 := (put10_blk _ _ _ _ _ _ _ _ _ _ HM.out.res).drew
      have hown3 := (own_blocks (w' := put10 v4_4 B (.int .i64 p) (.int .i64 q) (.int .i64 3) (.int .i64 0) (.slice A2 m2 c2) (.int .i64 0) (.int .i64 0) (.int .i64 0) (.int .i64 0) (.int .i64 0)) hown (fun k hk => put10_other (.int .i64 p) (.int .i64 q) (.int .i64 3) (.int .i64 0) (.slice A2 m2 c2) (.int .i64 0) (.int .i64 0) (.int .i64 0) (.int .i64 0) (.int .i64 0) (show k ≠ B by omega))).drew
      have hb3 := (HM.out.below.trans (put10_below (.int .i64 p) (.int .i64 q) (.int .i64 3) (.int .i64 0) (.slice A2 m2 c2) (.int .i64 0) (.int .i64 0) (.int .i64 0) (.int .i64 0) (.int .i64 0) (Nat.le_refl B))).drew
      simp only [put10] at hC3 hb3 hown3
      clear HM j1 j2 r0 rf0 r1 rf1 r2 rf2 r3 rf3 r4 rf4 r5 rf5 r6 rf6 r7 rf7 r8 rf8 r9 rf9 k0_ k1_ k2_ k3_ k4_ k5_ k6_ k7_ k8_ k9_
      generalize (((((((((((v4_4).setCell ⟨B, 0, none⟩ (.int .i64 p)).setCell ⟨B, 1, none⟩ (.int .i64 q)).setCell ⟨B, 2, none⟩ (.int .i64 3)).setCell ⟨B, 3, none⟩ (.int .i64 0)).setCell ⟨B, 4, none⟩ (.slice A2 m2 c2)).setCell ⟨B, 5, none⟩ (.int .i64 0)).setCell ⟨B, 6, none⟩ (.int .i64 0)).setCell ⟨B, 7, none⟩ (.int .i64 0)).setCell ⟨B, 8, none⟩ (.int .i64 0)).setCell ⟨B, 9, none⟩ (.int .i64 0)).drew = w3 at *
      have q0 : w3.cell? ⟨B, 0, none⟩ = some (.int .i64 p) := hC3.cell rfl
      have q1 : w3.cell? ⟨B, 1, none⟩ = some (.int .i64 q) := hC3.cell rfl
      have q2 : w3.cell? ⟨B, 2, none⟩ = some (.int .i64 3) := hC3.cell rfl
      have q3 : w3.cell? ⟨B, 3, none⟩ = some (.int .i64 0) := hC3.cell rfl
      have q4 : w3.cell? ⟨B, 4, none⟩ = some (.slice A2 m2 c2) := hC3.cell rfl
      have q5 : w3.cell? ⟨B, 5, none⟩ = some (.int .i64 0) := hC3.cell rfl
      have q6 : w3.cell? ⟨B, 6, none⟩ = some (.int .i64 0) := hC3.cell rfl
      have q7 : w3.cell? ⟨B, 7, none⟩ = some (.int .i64 0) := hC3.cell rfl
      have q8 : w3.cell? ⟨B, 8, none⟩ = some (.int .i64 0) := hC3.cell rfl
      have q9 : w3.cell? ⟨B, 9, none⟩ = some (.int .i64 0) := hC3.cell rfl
      go_wp2_with fail
      refine bodyPost_ret (v := .tuple #[cmdV (⟨p, q, 3, 0, us, 0, 0, 0, 0, 0⟩ : Cmd) A2 m2 c2, .int .i64 (ar : Int), .int .i64 0]) (by simp [results, Try.results25, go_sem, cmdV, q0, q1, q2, q3, q4, q5, q6, q7, q8, q9]) rfl ?_
      rw [HP.out]
      exact ⟨A2, m2, c2, rfl, own_mono hown3 (by omega), by omega, by rw [hCC]; exact hb3⟩
  · skip
    have c1_ := M.blk.cell (i := 1) rfl
    have f1_ := M.blk.free 1
    have cx := M.blk.cell (i := 2) rfl
    go_wp2_with fail
    clear cx
    replace M : RrC w (u2.setCell ⟨C, 1, none⟩ (.int .i64 q)) B C n _ (cmdCs p q 4 0 none 0 0 0 0 0 0 0) := M.put 1 (.int .i64 q)
    generalize u2.setCell ⟨C, 1, none⟩ (.int .i64 q) = v3_1 at *
    clear c1_ f1_
    refine Calls.mono (ref_rnum B (B + 1) n (0) (16383) _ _ M.rr) ?_
    rintro e u4 ⟨t, rfl, ⟨b0t, b1t⟩, ht, hR, ho⟩
    replace M := M.call hR ho
    have Ht := Lib.hid ht
    clear hR ho ht
    have c5_ := M.blk.cell (i := 5) rfl
    have f5_ := M.blk.free 5
    go_wp2_with fail
    replace M : RrC w (u4.setCell ⟨C, 5, none⟩ (.int .i64 t)) B C n _ (cmdCs p q 4 0 none 0 0 t 0 0 0 0) := M.put 5 (.int .i64 t)
    generalize u4.setCell ⟨C, 5, none⟩ (.int .i64 t) = v4_5 at *
    clear c5_ f5_
    refine Calls.mono (ref_rnum B (B + 1) n (1) (4) _ _ M.rr) ?_
    rintro e u5 ⟨g, rfl, ⟨b0g, b1g⟩, hg, hR, ho⟩
    replace M := M.call hR ho
    have Hg := Lib.hid hg
    clear hR ho hg
    have c6_ := M.blk.cell (i := 6) rfl
    have f6_ := M.blk.free 6
    go_wp2_with fail
    replace M : RrC w (u5.setCell ⟨C, 6, none⟩ (.int .i64 g)) B C n _ (cmdCs p q 4 0 none 0 0 t g 0 0 0) := M.put 6 (.int .i64 g)
    generalize u5.setCell ⟨C, 6, none⟩ (.int .i64 g) = v5_6 at *
    clear c6_ f6_
    refine Calls.mono (ref_rnum B (B + 1) n (1) (4) _ _ M.rr) ?_
    rintro e u6 ⟨f, rfl, ⟨b0f, b1f⟩, hf, hR, ho⟩
    replace M := M.call hR ho
    have Hf := Lib.hid hf
    clear hR ho hf
    have HU : Hid ((readC (.ok l)).2 = (rnum (1) (4) (rnum (1) (4) (rnum (0) (16383) s3).2).2).2 ∧ ∀ r, (rnum (1) (4) (rnum (1) (4) (rnum (0) (16383) s3).2).2).2 = .ok r → (readC (.ok l)).1 = (⟨p, q, 4, 0, [], t, g, f, 0, 0⟩ : Cmd)) := by
      refine ⟨HT.out, fun r hr => ?_⟩
      have z3 : (rnum (1) (4) (rnum (1) (4) (rnum (0) (16383) s3).2).2).2 = .ok r := hr
      obtain ⟨_, z2⟩ := ok_num z3
      obtain ⟨_, z1⟩ := ok_num z2
      rw [HV.out r hr, Ht.out _ z1, Hg.out _ z2, Hf.out _ z3]
      rfl
    clear HT HV Ht Hg Hf
    generalize (rnum (1) (4) (rnum (1) (4) (rnum (0) (16383) s3).2).2).2 = sz at *
    obtain ⟨_, Ar, cr, ar, xr, fr, hBr, hlr, hAr, harn, ⟨hx0, hx1⟩, hsr⟩ := id M.rr
    have kr2 := hBr.cell (i := 2) rfl
    have c7_ := M.blk.cell (i := 7) rfl
    have f7_ := M.blk.free 7
    have hlr4 := hlr.2.2.2.2
    have hlrl := hlr.len
    clear hlr hAr
    cases sz with
    | bad z =>
      obtain ⟨rfl, he⟩ := hsr
      have d : (xr != 0) = true := by simpa using he
      have HP : Hid (parseR l = (zeroC, 0, xr)) := by
        show _ = _
        unfold parseR
        rw [HU.out.1]
      clear HU
      go_wp2_with fail
      have hBr := hBr.other (a := ⟨C, 7, none⟩) (by have := M.lt; show B + 1 ≠ C; omega) (.int .i64 f)
      have hBk := hBr
      replace M : RrC w (u6.setCell ⟨C, 7, none⟩ (.int .i64 f)) B C n _ (cmdCs p q 4 0 none 0 0 t g f 0 0) := M.put 7 (.int .i64 f)
      generalize u6.setCell ⟨C, 7, none⟩ (.int .i64 f) = v6_7 at *
      clear kr2 c7_ f7_
      obtain ⟨hbR, A9, c9, a9, x9, f9, hB9, hl9, hA9, ha9n, ⟨hx90, hx91⟩, hs9⟩ := id M.rr
      have r0 := M.res.cell (i := 0) rfl
      have rf0 := M.res.free 0
      have r1 := M.res.cell (i := 1) rfl
      have rf1 := M.res.free 1
      have r2 := M.res.cell (i := 2) rfl
      have rf2 := M.res.free 2
      have r3 := M.res.cell (i := 3) rfl
      have rf3 := M.res.free 3
      have r4 := M.res.cell (i := 4) rfl
      have rf4 := M.res.free 4
      have r5 := M.res.cell (i := 5) rfl
      have rf5 := M.res.free 5
      have r6 := M.res.cell (i := 6) rfl
      have rf6 := M.res.free 6
      have r7 := M.res.cell (i := 7) rfl
      have rf7 := M.res.free 7
      have r8 := M.res.cell (i := 8) rfl
      have rf8 := M.res.free 8
      have r9 := M.res.cell (i := 9) rfl
      have rf9 := M.res.free 9
      have j1 := hBk.cell (i := 1) rfl
      have j2 := hBk.cell (i := 2) rfl
      have HM := Lib.hid M
      have hltM := M.lt
      clear M hBk hB9 hl9 hA9
      go_region
      have hC3 : Blk (put10 v6_7 B (.int .i64 0) (.int .i64 0) (.int .i64 0) (.int .i64 0) (.slice none 0 0) (.int .i64 0) (.int .i64 0) (.int .i64 0) (.int .i64 0) (.int .i64 0)).drew B #[.int .i64 0, .int .i64 0, .int .i64 0, .int .i64 0, .slice none 0 0, .int .i64 0, .int .i64 0, .int .i64 0, .int .i64 0, .int .i64 0] 28 := (put10_blk _ _ _ _ _ _ _ _ _ _ HM.out.res).drew
      have hb3 := (HM.out.below.trans (put10_below (.int .i64 0) (.int .i64 0) (.int .i64 0) (.int .i64 0) (.slice none 0 0) (.int .i64 0) (.int .i64 0) (.int .i64 0) (.int .i64 0) (.int .i64 0) (Nat.le_refl B))).drew
      simp only [put10] at hC3 hb3
      clear HM j1 j2 r0 rf0 r1 rf1 r2 rf2 r3 rf3 r4 rf4 r5 rf5 r6 rf6 r7 rf7 r8 rf8 r9 rf9
      generalize (((((((((((v6_7).setCell ⟨B, 0, none⟩ (.int .i64 0)).setCell ⟨B, 1, none⟩ (.int .i64 0)).setCell ⟨B, 2, none⟩ (.int .i64 0)).setCell ⟨B, 3, none⟩ (.int .i64 0)).setCell ⟨B, 4, none⟩ (.slice none 0 0)).setCell ⟨B, 5, none⟩ (.int .i64 0)).setCell ⟨B, 6, none⟩ (.int .i64 0)).setCell ⟨B, 7, none⟩ (.int .i64 0)).setCell ⟨B, 8, none⟩ (.int .i64 0)).setCell ⟨B, 9, none⟩ (.int .i64 0)).drew = w3 at *
      have q0 : w3.cell? ⟨B, 0, none⟩ = some (.int .i64 0) := hC3.cell rfl
      have q1 : w3.cell? ⟨B, 1, none⟩ = some (.int .i64 0) := hC3.cell rfl
      have q2 : w3.cell? ⟨B, 2, none⟩ = some (.int .i64 0) := hC3.cell rfl
      have q3 : w3.cell? ⟨B, 3, none⟩ = some (.int .i64 0) := hC3.cell rfl
      have q4 : w3.cell? ⟨B, 4, none⟩ = some (.slice none 0 0) := hC3.cell rfl
      have q5 : w3.cell? ⟨B, 5, none⟩ = some (.int .i64 0) := hC3.cell rfl
      have q6 : w3.cell? ⟨B, 6, none⟩ = some (.int .i64 0) := hC3.cell rfl
      have q7 : w3.cell? ⟨B, 7, none⟩ = some (.int .i64 0) := hC3.cell rfl
      have q8 : w3.cell? ⟨B, 8, none⟩ = some (.int .i64 0) := hC3.cell rfl
      have q9 : w3.cell? ⟨B, 9, none⟩ = some (.int .i64 0) := hC3.cell rfl
      go_wp2_with fail
      refine bodyPost_ret (v := .tuple #[cmdV zeroC none 0 0, .int .i64 0, .int .i64 xr]) (by simp [results, Try.results25, go_sem, cmdV, zeroC, q0, q1, q2, q3, q4, q5, q6, q7, q8, q9]) rfl ?_
      rw [HP.out]
      exact ⟨none, 0, 0, rfl, World.ownsRow_nil _ _ _ _, by omega, by rw [hCC]; exact hb3⟩
    | ok z =>
      obtain ⟨rfl, rfl⟩ := hsr
      have HP : Hid (parseR l = ((⟨p, q, 4, 0, [], t, g, f, 0, 0⟩ : Cmd), (ar : Int), 0)) := by
        show _ = _
        unfold parseR
        rw [HU.out.1]
        simp only [HU.out.2 _ rfl]
        refine Prod.ext rfl (Prod.ext ?_ rfl)
        show (l.length : Int) - ((fr.drop ar).length : Nat) = (ar : Int)
        rw [List.length_drop, hlrl, hll]; omega
      clear HU
      go_wp2_with fail
      have hBr := hBr.other (a := ⟨C, 7, none⟩) (by have := M.lt; show B + 1 ≠ C; omega) (.int .i64 f)
      have hBk := hBr
      replace M : RrC w (u6.setCell ⟨C, 7, none⟩ (.int .i64 f)) B C n _ (cmdCs p q 4 0 none 0 0 t g f 0 0) := M.put 7 (.int .i64 f)
      generalize u6.setCell ⟨C, 7, none⟩ (.int .i64 f) = v6_7 at *
      clear kr2 c7_ f7_
      obtain ⟨hbR, A9, c9, a9, x9, f9, hB9, hl9, hA9, ha9n, ⟨hx90, hx91⟩, hs9⟩ := id M.rr
      have r0 := M.res.cell (i := 0) rfl
      have rf0 := M.res.free 0
      have k0_ := M.blk.cell (i := 0) rfl
      have r1 := M.res.cell (i := 1) rfl
      have rf1 := M.res.free 1
      have k1_ := M.blk.cell (i := 1) rfl
      have r2 := M.res.cell (i := 2) rfl
      have rf2 := M.res.free 2
      have k2_ := M.blk.cell (i := 2) rfl
      have r3 := M.res.cell (i := 3) rfl
      have rf3 := M.res.free 3
      have k3_ := M.blk.cell (i := 3) rfl
      have r4 := M.res.cell (i := 4) rfl
      have rf4 := M.res.free 4
      have k4_ := M.blk.cell (i := 4) rfl
      have r5 := M.res.cell (i := 5) rfl
      have rf5 := M.res.free 5
      have k5_ := M.blk.cell (i := 5) rfl
      have r6 := M.res.cell (i := 6) rfl
      have rf6 := M.res.free 6
      have k6_ := M.blk.cell (i := 6) rfl
      have r7 := M.res.cell (i := 7) rfl
      have rf7 := M.res.free 7
      have k7_ := M.blk.cell (i := 7) rfl
      have r8 := M.res.cell (i := 8) rfl
      have rf8 := M.res.free 8
      have k8_ := M.blk.cell (i := 8) rfl
      have r9 := M.res.cell (i := 9) rfl
      have rf9 := M.res.free 9
      have k9_ := M.blk.cell (i := 9) rfl
      have j1 := hBk.cell (i := 1) rfl
      have j2 := hBk.cell (i := 2) rfl
      have HM := Lib.hid M
      have hltM := M.lt
      clear M hBk hB9 hl9 hA9
      go_region
      have hC3 : Blk (put10 v6_7 B (.int .i64 p) (.int .i64 q) (.int .i64 4) (.int .i64 0) (.slice none 0 0) (.int .i64 t) (.int .i64 g) (.int .i64 f) (.int .i64 0) (.int .i64 0)).drew B #[.int .i64 p, .int .i64 q, .int .i64 4, .int .i64 0, .slice none 0 0, .int .i64 t, .int .i64 g, .int .i64 f, .int .i64 0, .int .i64 0] 28 := (put10_blk _ _ _ _ _ _ _ _ _ _ HM.out.res).drew
      have hb3 := (HM.out.below.trans (put10_below (.int .i64 p) (.int .i64 q) (.int .i64 4) (.int .i64 0) (.slice none 0 0) (.int .i64 t) (.int .i64 g) (.int .i64 f) (.int .i64 0) (.int .i64 0) (Nat.le_refl B))).drew
      simp only [put10] at hC3 hb3
      clear HM j1 j2 r0 rf0 r1 rf1 r2 rf2 r3 rf3 r4 rf4 r5 rf5 r6 rf6 r7 rf7 r8 rf8 r9 rf9 k0_ k1_ k2_ k3_ k4_ k5_ k6_ k7_ k8_ k9_
      generalize (((((((((((v6_7).setCell ⟨B, 0, none⟩ (.int .i64 p)).setCell ⟨B, 1, none⟩ (.int .i64 q)).setCell ⟨B, 2, none⟩ (.int .i64 4)).setCell ⟨B, 3, none⟩ (.int .i64 0)).setCell ⟨B, 4, none⟩ (.slice none 0 0)).setCell ⟨B, 5, none⟩ (.int .i64 t)).setCell ⟨B, 6, none⟩ (.int .i64 g)).setCell ⟨B, 7, none⟩ (.int .i64 f)).setCell ⟨B, 8, none⟩ (.int .i64 0)).setCell ⟨B, 9, none⟩ (.int .i64 0)).drew = w3 at *
      have q0 : w3.cell? ⟨B, 0, none⟩ = some (.int .i64 p) := hC3.cell rfl
      have q1 : w3.cell? ⟨B, 1, none⟩ = some (.int .i64 q) := hC3.cell rfl
      have q2 : w3.cell? ⟨B, 2, none⟩ = some (.int .i64 4) := hC3.cell rfl
      have q3 : w3.cell? ⟨B, 3, none⟩ = some (.int .i64 0) := hC3.cell rfl
      have q4 : w3.cell? ⟨B, 4, none⟩ = some (.slice none 0 0) := hC3.cell rfl
      have q5 : w3.cell? ⟨B, 5, none⟩ = some (.int .i64 t) := hC3.cell rfl
      have q6 : w3.cell? ⟨B, 6, none⟩ = some (.int .i64 g) := hC3.cell rfl
      have q7 : w3.cell? ⟨B, 7, none⟩ = some (.int .i64 f) := hC3.cell rfl
      have q8 : w3.cell? ⟨B, 8, none⟩ = some (.int .i64 0) := hC3.cell rfl
      have q9 : w3.cell? ⟨B, 9, none⟩ = some (.int .i64 0) := hC3.cell rfl
      go_wp2_with fail
      refine bodyPost_ret (v := .tuple #[cmdV (⟨p, q, 4, 0, [], t, g, f, 0, 0⟩ : Cmd) none 0 0, .int .i64 (ar : Int), .int .i64 0]) (by simp [results, Try.results25, go_sem, cmdV, q0, q1, q2, q3, q4, q5, q6, q7, q8, q9]) rfl ?_
      rw [HP.out]
      exact ⟨none, 0, 0, rfl, World.ownsRow_nil _ _ _ _, by omega, by rw [hCC]; exact hb3⟩
  · skip
    have c1_ := M.blk.cell (i := 1) rfl
    have f1_ := M.blk.free 1
    have cx := M.blk.cell (i := 2) rfl
    go_wp2_with fail
    clear cx
    replace M : RrC w (u2.setCell ⟨C, 1, none⟩ (.int .i64 q)) B C n _ (cmdCs p q 5 0 none 0 0 0 0 0 0 0) := M.put 1 (.int .i64 q)
    generalize u2.setCell ⟨C, 1, none⟩ (.int .i64 q) = v3_1 at *
    clear c1_ f1_
    refine Calls.mono (ref_rnum B (B + 1) n (1) (1099511627776) _ _ M.rr) ?_
    rintro e u4 ⟨n1, rfl, ⟨b0n1, b1n1⟩, hn1, hR, ho⟩
    replace M := M.call hR ho
    have Hn1 := Lib.hid hn1
    clear hR ho hn1
    have HU : Hid ((readC (.ok l)).2 = (rnum (1) (1099511627776) s3).2 ∧ ∀ r, (rnum (1) (1099511627776) s3).2 = .ok r → (readC (.ok l)).1 = (⟨p, q, 5, n1, [], 0, 0, 0, 0, 0⟩ : Cmd)) := by
      refine ⟨HT.out, fun r hr => ?_⟩
      have z1 : (rnum (1) (1099511627776) s3).2 = .ok r := hr
      rw [HV.out r hr, Hn1.out _ z1]
      rfl
    clear HT HV Hn1
    generalize (rnum (1) (1099511627776) s3).2 = sz at *
    obtain ⟨_, Ar, cr, ar, xr, fr, hBr, hlr, hAr, harn, ⟨hx0, hx1⟩, hsr⟩ := id M.rr
    have kr2 := hBr.cell (i := 2) rfl
    have c3_ := M.blk.cell (i := 3) rfl
    have f3_ := M.blk.free 3
    have hlr4 := hlr.2.2.2.2
    have hlrl := hlr.len
    clear hlr hAr
    cases sz with
    | bad z =>
      obtain ⟨rfl, he⟩ := hsr
      have d : (xr != 0) = true := by simpa using he
      have HP : Hid (parseR l = (zeroC, 0, xr)) := by
        show _ = _
        unfold parseR
        rw [HU.out.1]
      clear HU
      go_wp2_with fail
      have hBr := hBr.other (a := ⟨C, 3, none⟩) (by have := M.lt; show B + 1 ≠ C; omega) (.int .i64 n1)
      have hBk := hBr
      replace M : RrC w (u4.setCell ⟨C, 3, none⟩ (.int .i64 n1)) B C n _ (cmdCs p q 5 n1 none 0 0 0 0 0 0 0) := M.put 3 (.int .i64 n1)
      generalize u4.setCell ⟨C, 3, none⟩ (.int .i64 n1) = v4_3 at *
      clear kr2 c3_ f3_
      obtain ⟨hbR, A9, c9, a9, x9, f9, hB9, hl9, hA9, ha9n, ⟨hx90, hx91⟩, hs9⟩ := id M.rr
      have r0 := M.res.cell (i := 0) rfl
      have rf0 := M.res.free 0
      have r1 := M.res.cell (i := 1) rfl
      have rf1 := M.res.free 1
      have r2 := M.res.cell (i := 2) rfl
      have rf2 := M.res.free 2
      have r3 := M.res.cell (i := 3) rfl
      have rf3 := M.res.free 3
      have r4 := M.res.cell (i := 4) rfl
      have rf4 := M.res.free 4
      have r5 := M.res.cell (i := 5) rfl
      have rf5 := M.res.free 5
      have r6 := M.res.cell (i := 6) rfl
      have rf6 := M.res.free 6
      have r7 := M.res.cell (i := 7) rfl
      have rf7 := M.res.free 7
      have r8 := M.res.cell (i := 8) rfl
      have rf8 := M.res.free 8
      have r9 := M.res.cell (i := 9) rfl
      have rf9 := M.res.free 9
      have j1 := hBk.cell (i := 1) rfl
      have j2 := hBk.cell (i := 2) rfl
      have HM := Lib.hid M
      have hltM := M.lt
      clear M hBk hB9 hl9 hA9
      go_region
      have hC3 : Blk (put10 v4_3 B (.int .i64 0) (.int .i64 0) (.int .i64 0) (.int .i64 0) (.slice none 0 0) (.int .i64 0) (.int .i64 0) (.int .i64 0) (.int .i64 0) (.int .i64 0)).drew B #[.int .i64 0, .int .i64 0, .int .i64 0, .int .i64 0, .slice none 0 0, .int .i64 0, .int .i64 0, .int .i64 0, .int .i64 0, .int .i64 0] 28 := (put10_blk _ _ _ _ _ _ _ _ _ _ HM.out.res).drew
      have hb3 := (HM.out.below.trans (put10_below (.int .i64 0) (.int .i64 0) (.int .i64 0) (.int .i64 0) (.slice none 0 0) (.int .i64 0) (.int .i64 0) (.int .i64 0) (.int .i64 0) (.int .i64 0) (Nat.le_refl B))).drew
      simp only [put10] at hC3 hb3
      clear HM j1 j2 r0 rf0 r1 rf1 r2 rf2 r3 rf3 r4 rf4 r5 rf5 r6 rf6 r7 rf7 r8 rf8 r9 rf9
      generalize (((((((((((v4_3).setCell ⟨B, 0, none⟩ (.int .i64 0)).setCell ⟨B, 1, none⟩ (.int .i64 0)).setCell ⟨B, 2, none⟩ (.int .i64 0)).setCell ⟨B, 3, none⟩ (.int .i64 0)).setCell ⟨B, 4, none⟩ (.slice none 0 0)).setCell ⟨B, 5, none⟩ (.int .i64 0)).setCell ⟨B, 6, none⟩ (.int .i64 0)).setCell ⟨B, 7, none⟩ (.int .i64 0)).setCell ⟨B, 8, none⟩ (.int .i64 0)).setCell ⟨B, 9, none⟩ (.int .i64 0)).drew = w3 at *
      have q0 : w3.cell? ⟨B, 0, none⟩ = some (.int .i64 0) := hC3.cell rfl
      have q1 : w3.cell? ⟨B, 1, none⟩ = some (.int .i64 0) := hC3.cell rfl
      have q2 : w3.cell? ⟨B, 2, none⟩ = some (.int .i64 0) := hC3.cell rfl
      have q3 : w3.cell? ⟨B, 3, none⟩ = some (.int .i64 0) := hC3.cell rfl
      have q4 : w3.cell? ⟨B, 4, none⟩ = some (.slice none 0 0) := hC3.cell rfl
      have q5 : w3.cell? ⟨B, 5, none⟩ = some (.int .i64 0) := hC3.cell rfl
      have q6 : w3.cell? ⟨B, 6, none⟩ = some (.int .i64 0) := hC3.cell rfl
      have q7 : w3.cell? ⟨B, 7, none⟩ = some (.int .i64 0) := hC3.cell rfl
      have q8 : w3.cell? ⟨B, 8, none⟩ = some (.int .i64 0) := hC3.cell rfl
      have q9 : w3.cell? ⟨B, 9, none⟩ = some (.int .i64 0) := hC3.cell rfl
      go_wp2_with fail
      refine bodyPost_ret (v := .tuple #[cmdV zeroC none 0 0, .int .i64 0, .int .i64 xr]) (by simp [results, Try.results25, go_sem, cmdV, zeroC, q0, q1, q2, q3, q4, q5, q6, q7, q8, q9]) rfl ?_
      rw [HP.out]
      exact ⟨none, 0, 0, rfl, World.ownsRow_nil _ _ _ _, by omega, by rw [hCC]; exact hb3⟩
    | ok z =>
      obtain ⟨rfl, rfl⟩ := hsr
      have HP : Hid (parseR l = ((⟨p, q, 5, n1, [], 0, 0, 0, 0, 0⟩ : Cmd), (ar : Int), 0)) := by
        show _ = _
        unfold parseR
        rw [HU.out.1]
        simp only [HU.out.2 _ rfl]
        refine Prod.ext rfl (Prod.ext ?_ rfl)
        show (l.length : Int) - ((fr.drop ar).length : Nat) = (ar : Int)
        rw [List.length_drop, hlrl, hll]; omega
      clear HU
      go_wp2_with fail
      have hBr := hBr.other (a := ⟨C, 3, none⟩) (by have := M.lt; show B + 1 ≠ C; omega) (.int .i64 n1)
      have hBk := hBr
      replace M : RrC w (u4.setCell ⟨C, 3, none⟩ (.int .i64 n1)) B C n _ (cmdCs p q 5 n1 none 0 0 0 0 0 0 0) := M.put 3 (.int .i64 n1)
      generalize u4.setCell ⟨C, 3, none⟩ (.int .i64 n1) = v4_3 at *
      clear kr2 c3_ f3_
      obtain ⟨hbR, A9, c9, a9, x9, f9, hB9, hl9, hA9, ha9n, ⟨hx90, hx91⟩, hs9⟩ := id M.rr
      have r0 := M.res.cell (i := 0) rfl
      have rf0 := M.res.free 0
      have k0_ := M.blk.cell (i := 0) rfl
      have r1 := M.res.cell (i := 1) rfl
      have rf1 := M.res.free 1
      have k1_ := M.blk.cell (i := 1) rfl
      have r2 := M.res.cell (i := 2) rfl
      have rf2 := M.res.free 2
      have k2_ := M.blk.cell (i := 2) rfl
      have r3 := M.res.cell (i := 3) rfl
      have rf3 := M.res.free 3
      have k3_ := M.blk.cell (i := 3) rfl
      have r4 := M.res.cell (i := 4) rfl
      have rf4 := M.res.free 4
      have k4_ := M.blk.cell (i := 4) rfl
      have r5 := M.res.cell (i := 5) rfl
      have rf5 := M.res.free 5
      have k5_ := M.blk.cell (i := 5) rfl
      have r6 := M.res.cell (i := 6) rfl
      have rf6 := M.res.free 6
      have k6_ := M.blk.cell (i := 6) rfl
      have r7 := M.res.cell (i := 7) rfl
      have rf7 := M.res.free 7
      have k7_ := M.blk.cell (i := 7) rfl
      have r8 := M.res.cell (i := 8) rfl
      have rf8 := M.res.free 8
      have k8_ := M.blk.cell (i := 8) rfl
      have r9 := M.res.cell (i := 9) rfl
      have rf9 := M.res.free 9
      have k9_ := M.blk.cell (i := 9) rfl
      have j1 := hBk.cell (i := 1) rfl
      have j2 := hBk.cell (i := 2) rfl
      have HM := Lib.hid M
      have hltM := M.lt
      clear M hBk hB9 hl9 hA9
      go_region
      have hC3 : Blk (put10 v4_3 B (.int .i64 p) (.int .i64 q) (.int .i64 5) (.int .i64 n1) (.slice none 0 0) (.int .i64 0) (.int .i64 0) (.int .i64 0) (.int .i64 0) (.int .i64 0)).drew B #[.int .i64 p, .int .i64 q, .int .i64 5, .int .i64 n1, .slice none 0 0, .int .i64 0, .int .i64 0, .int .i64 0, .int .i64 0, .int .i64 0] 28 := (put10_blk _ _ _ _ _ _ _ _ _ _ HM.out.res).drew
      have hb3 := (HM.out.below.trans (put10_below (.int .i64 p) (.int .i64 q) (.int .i64 5) (.int .i64 n1) (.slice none 0 0) (.int .i64 0) (.int .i64 0) (.int .i64 0) (.int .i64 0) (.int .i64 0) (Nat.le_refl B))).drew
      simp only [put10] at hC3 hb3
      clear HM j1 j2 r0 rf0 r1 rf1 r2 rf2 r3 rf3 r4 rf4 r5 rf5 r6 rf6 r7 rf7 r8 rf8 r9 rf9 k0_ k1_ k2_ k3_ k4_ k5_ k6_ k7_ k8_ k9_
      generalize (((((((((((v4_3).setCell ⟨B, 0, none⟩ (.int .i64 p)).setCell ⟨B, 1, none⟩ (.int .i64 q)).setCell ⟨B, 2, none⟩ (.int .i64 5)).setCell ⟨B, 3, none⟩ (.int .i64 n1)).setCell ⟨B, 4, none⟩ (.slice none 0 0)).setCell ⟨B, 5, none⟩ (.int .i64 0)).setCell ⟨B, 6, none⟩ (.int .i64 0)).setCell ⟨B, 7, none⟩ (.int .i64 0)).setCell ⟨B, 8, none⟩ (.int .i64 0)).setCell ⟨B, 9, none⟩ (.int .i64 0)).drew = w3 at *
      have q0 : w3.cell? ⟨B, 0, none⟩ = some (.int .i64 p) := hC3.cell rfl
      have q1 : w3.cell? ⟨B, 1, none⟩ = some (.int .i64 q) := hC3.cell rfl
      have q2 : w3.cell? ⟨B, 2, none⟩ = some (.int .i64 5) := hC3.cell rfl
      have q3 : w3.cell? ⟨B, 3, none⟩ = some (.int .i64 n1) := hC3.cell rfl
      have q4 : w3.cell? ⟨B, 4, none⟩ = some (.slice none 0 0) := hC3.cell rfl
      have q5 : w3.cell? ⟨B, 5, none⟩ = some (.int .i64 0) := hC3.cell rfl
      have q6 : w3.cell? ⟨B, 6, none⟩ = some (.int .i64 0) := hC3.cell rfl
      have q7 : w3.cell? ⟨B, 7, none⟩ = some (.int .i64 0) := hC3.cell rfl
      have q8 : w3.cell? ⟨B, 8, none⟩ = some (.int .i64 0) := hC3.cell rfl
      have q9 : w3.cell? ⟨B, 9, none⟩ = some (.int .i64 0) := hC3.cell rfl
      go_wp2_with fail
      refine bodyPost_ret (v := .tuple #[cmdV (⟨p, q, 5, n1, [], 0, 0, 0, 0, 0⟩ : Cmd) none 0 0, .int .i64 (ar : Int), .int .i64 0]) (by simp [results, Try.results25, go_sem, cmdV, q0, q1, q2, q3, q4, q5, q6, q7, q8, q9]) rfl ?_
      rw [HP.out]
      exact ⟨none, 0, 0, rfl, World.ownsRow_nil _ _ _ _, by omega, by rw [hCC]; exact hb3⟩
  · skip
    have c1_ := M.blk.cell (i := 1) rfl
    have f1_ := M.blk.free 1
    have cx := M.blk.cell (i := 2) rfl
    go_wp2_with fail
    clear cx
    replace M : RrC w (u2.setCell ⟨C, 1, none⟩ (.int .i64 q)) B C n _ (cmdCs p q 6 0 none 0 0 0 0 0 0 0) := M.put 1 (.int .i64 q)
    generalize u2.setCell ⟨C, 1, none⟩ (.int .i64 q) = v3_1 at *
    clear c1_ f1_
    have hbs : C < v3_1.heap.size := M.blk.lt
    have hBs : B ≤ v3_1.heap.size := by have := M.res.lt; omega
    refine Calls.mono (ref_units B (B + 1) n _ _ M.rr) ?_
    rintro e u4 ⟨A2, m2, c2, us, rfl, hown, hm66, hu, hR, ho⟩
    replace M := M.call hR ho
    have Hu := Lib.hid hu
    clear hR ho hu
    have c4_ := M.blk.cell (i := 4) rfl
    have f4_ := M.blk.free 4
    go_wp2_with fail
    replace M : RrC w (u4.setCell ⟨C, 4, none⟩ (.slice A2 m2 c2)) B C n _ (cmdCs p q 6 0 A2 m2 c2 0 0 0 0 0) := M.put 4 (.slice A2 m2 c2)
    replace hown := own_low hown (a := ⟨C, 4, none⟩) (by exact hbs) (.slice A2 m2 c2)
    generalize u4.setCell ⟨C, 4, none⟩ (.slice A2 m2 c2) = v4_4 at *
    clear c4_ f4_
    refine Calls.mono (ref_rnum B (B + 1) n (1) (1099511627776) _ _ M.rr) ?_
    rintro e u5 ⟨n1, rfl, ⟨b0n1, b1n1⟩, hn1, hR, ho⟩
    replace hown := own_only hown ho (by have := M.rr.lt; have := M.lt; omega)
    replace M := M.call hR ho
    have Hn1 := Lib.hid hn1
    clear hR ho hn1
    have HU : Hid ((readC (.ok l)).2 = (rnum (1) (1099511627776) (rus s3).2).2 ∧ ∀ r, (rnum (1) (1099511627776) (rus s3).2).2 = .ok r → (readC (.ok l)).1 = (⟨p, q, 6, n1, us, 0, 0, 0, 0, 0⟩ : Cmd)) := by
      refine ⟨HT.out, fun r hr => ?_⟩
      have z2 : (rnum (1) (1099511627776) (rus s3).2).2 = .ok r := hr
      obtain ⟨_, z1⟩ := ok_num z2
      rw [HV.out r hr, Hu.out _ z1, Hn1.out _ z2]
      rfl
    clear HT HV Hu Hn1
    generalize (rnum (1) (1099511627776) (rus s3).2).2 = sz at *
    obtain ⟨_, Ar, cr, ar, xr, fr, hBr, hlr, hAr, harn, ⟨hx0, hx1⟩, hsr⟩ := id M.rr
    have kr2 := hBr.cell (i := 2) rfl
    have c3_ := M.blk.cell (i := 3) rfl
    have f3_ := M.blk.free 3
    have hlr4 := hlr.2.2.2.2
    have hlrl := hlr.len
    clear hlr hAr
    cases sz with
    | bad z =>
      obtain ⟨rfl, he⟩ := hsr
      have d : (xr != 0) = true := by simpa using he
      have HP : Hid (parseR l = (zeroC, 0, xr)) := by
        show _ = _
        unfold parseR
        rw [HU.out.1]
      clear HU
      go_wp2_with fail
      have hBr := hBr.other (a := ⟨C, 3, none⟩) (by have := M.lt; show B + 1 ≠ C; omega) (.int .i64 n1)
      have hBk := hBr
      replace M : RrC w (u5.setCell ⟨C, 3, none⟩ (.int .i64 n1)) B C n _ (cmdCs p q 6 n1 A2 m2 c2 0 0 0 0 0) := M.put 3 (.int .i64 n1)
      replace hown := own_low hown (a := ⟨C, 3, none⟩) (by exact hbs) (.int .i64 n1)
      generalize u5.setCell ⟨C, 3, none⟩ (.int .i64 n1) = v5_3 at *
      clear kr2 c3_ f3_
      obtain ⟨hbR, A9, c9, a9, x9, f9, hB9, hl9, hA9, ha9n, ⟨hx90, hx91⟩, hs9⟩ := id M.rr
      have r0 := M.res.cell (i := 0) rfl
      have rf0 := M.res.free 0
      have r1 := M.res.cell (i := 1) rfl
      have rf1 := M.res.free 1
      have r2 := M.res.cell (i := 2) rfl
      have rf2 := M.res.free 2
      have r3 := M.res.cell (i := 3) rfl
      have rf3 := M.res.free 3
      have r4 := M.res.cell (i := 4) rfl
      have rf4 := M.res.free 4
      have r5 := M.res.cell (i := 5) rfl
      have rf5 := M.res.free 5
      have r6 := M.res.cell (i := 6) rfl
      have rf6 := M.res.free 6
      have r7 := M.res.cell (i := 7) rfl
      have rf7 := M.res.free 7
      have r8 := M.res.cell (i := 8) rfl
      have rf8 := M.res.free 8
      have r9 := M.res.cell (i := 9) rfl
      have rf9 := M.res.free 9
      have j1 := hBk.cell (i := 1) rfl
      have j2 := hBk.cell (i := 2) rfl
      have HM := Lib.hid M
      have hltM := M.lt
      clear M hBk hB9 hl9 hA9
      go_region
      have hC3 : Blk (put10 v5_3 B (.int .i64 0) (.int .i64 0) (.int .i64 0) (.int .i64 0) (.slice none 0 0) (.int .i64 0) (.int .i64 0) (.int .i64 0) (.int .i64 0) (.int .i64 0)).drew B #[.int .i64 0, .int .i64 0, .int .i64 0, .int .i64 0, .slice none 0 0, .int .i64 0, .int .i64 0, .int .i64 0, .int .i64 0, .int .i64 0] 28 := (put10_blk _ _ _ _ _ _ _ _ _ _ HM.out.res).drew
      have hb3 := (HM.out.below.trans (put10_below (.int .i64 0) (.int .i64 0) (.int .i64 0) (.int .i64 0) (.slice none 0 0) (.int .i64 0) (.int .i64 0) (.int .i64 0) (.int .i64 0) (.int .i64 0) (Nat.le_refl B))).drew
      simp only [put10] at hC3 hb3
      clear HM j1 j2 r0 rf0 r1 rf1 r2 rf2 r3 rf3 r4 rf4 r5 rf5 r6 rf6 r7 rf7 r8 rf8 r9 rf9
      generalize (((((((((((v5_3).setCell ⟨B, 0, none⟩ (.int .i64 0)).setCell ⟨B, 1, none⟩ (.int .i64 0)).setCell ⟨B, 2, none⟩ (.int .i64 0)).setCell ⟨B, 3, none⟩ (.int .i64 0)).setCell ⟨B, 4, none⟩ (.slice none 0 0)).setCell ⟨B, 5, none⟩ (.int .i64 0)).setCell ⟨B, 6, none⟩ (.int .i64 0)).setCell ⟨B, 7, none⟩ (.int .i64 0)).setCell ⟨B, 8, none⟩ (.int .i64 0)).setCell ⟨B, 9, none⟩ (.int .i64 0)).drew = w3 at *
      have q0 : w3.cell? ⟨B, 0, none⟩ = some (.int .i64 0) := hC3.cell rfl
      have q1 : w3.cell? ⟨B, 1, none⟩ = some (.int .i64 0) := hC3.cell rfl
      have q2 : w3.cell? ⟨B, 2, none⟩ = some (.int .i64 0) := hC3.cell rfl
      have q3 : w3.cell? ⟨B, 3, none⟩ = some (.int .i64 0) := hC3.cell rfl
      have q4 : w3.cell? ⟨B, 4, none⟩ = some (.slice none 0 0) := hC3.cell rfl
      have q5 : w3.cell? ⟨B, 5, none⟩ = some (.int .i64 0) := hC3.cell rfl
      have q6 : w3.cell? ⟨B, 6, none⟩ = some (.int .i64 0) := hC3.cell rfl
      have q7 : w3.cell? ⟨B, 7, none⟩ = some (.int .i64 0) := hC3.cell rfl
      have q8 : w3.cell? ⟨B, 8, none⟩ = some (.int .i64 0) := hC3.cell rfl
      have q9 : w3.cell? ⟨B, 9, none⟩ = some (.int .i64 0) := hC3.cell rfl
      go_wp2_with fail
      refine bodyPost_ret (v := .tuple #[cmdV zeroC none 0 0, .int .i64 0, .int .i64 xr]) (by simp [results, Try.results25, go_sem, cmdV, zeroC, q0, q1, q2, q3, q4, q5, q6, q7, q8, q9]) rfl ?_
      rw [HP.out]
      exact ⟨none, 0, 0, rfl, World.ownsRow_nil _ _ _ _, by omega, by rw [hCC]; exact hb3⟩
    | ok z =>
      obtain ⟨rfl, rfl⟩ := hsr
      have HP : Hid (parseR l = ((⟨p, q, 6, n1, us, 0, 0, 0, 0, 0⟩ : Cmd), (ar : Int), 0)) := by
        show _ = _
        unfold parseR
        rw [HU.out.1]
        simp only [HU.out.2 _ rfl]
        refine Prod.ext rfl (Prod.ext ?_ rfl)
        show (l.length : Int) - ((fr.drop ar).length : Nat) = (ar : Int)
        rw [List.length_drop, hlrl, hll]; omega
      clear HU
      go_wp2_with fail
      have hBr := hBr.other (a := ⟨C, 3, none⟩) (by have := M.lt; show B + 1 ≠ C; omega) (.int .i64 n1)
      have hBk := hBr
      replace M : RrC w (u5.setCell ⟨C, 3, none⟩ (.int .i64 n1)) B C n _ (cmdCs p q 6 n1 A2 m2 c2 0 0 0 0 0) := M.put 3 (.int .i64 n1)
      replace hown := own_low hown (a := ⟨C, 3, none⟩) (by exact hbs) (.int .i64 n1)
      generalize u5.setCell ⟨C, 3, none⟩ (.int .i64 n1) = v5_3 at *
      clear kr2 c3_ f3_
      obtain ⟨hbR, A9, c9, a9, x9, f9, hB9, hl9, hA9, ha9n, ⟨hx90, hx91⟩, hs9⟩ := id M.rr
      have r0 := M.res.cell (i := 0) rfl
      have rf0 := M.res.free 0
      have k0_ := M.blk.cell (i := 0) rfl
      have r1 := M.res.cell (i := 1) rfl
      have rf1 := M.res.free 1
      have k1_ := M.blk.cell (i := 1) rfl
      have r2 := M.res.cell (i := 2) rfl
      have rf2 := M.res.free 2
      have k2_ := M.blk.cell (i := 2) rfl
      have r3 := M.res.cell (i := 3) rfl
      have rf3 := M.res.free 3
      have k3_ := M.blk.cell (i := 3) rfl
      have r4 := M.res.cell (i := 4) rfl
      have rf4 := M.res.free 4
      have k4_ := M.blk.cell (i := 4) rfl
      have r5 := M.res.cell (i := 5) rfl
      have rf5 := M.res.free 5
      have k5_ := M.blk.cell (i := 5) rfl
      have r6 := M.res.cell (i := 6) rfl
      have rf6 := M.res.free 6
      have k6_ := M.blk.cell (i := 6) rfl
      have r7 := M.res.cell (i := 7) rfl
      have rf7 := M.res.free 7
      have k7_ := M.blk.cell (i := 7) rfl
      have r8 := M.res.cell (i := 8) rfl
      have rf8 := M.res.free 8
      have k8_ := M.blk.cell (i := 8) rfl
      have r9 := M.res.cell (i := 9) rfl
      have rf9 := M.res.free 9
      have k9_ := M.blk.cell (i := 9) rfl
      have j1 := hBk.cell (i := 1) rfl
      have j2 := hBk.cell (i := 2) rfl
      have HM := Lib.hid M
      have hltM := M.lt
      clear M hBk hB9 hl9 hA9
      go_region
      have hC3 : Blk (put10 v5_3 B (.int .i64 p) (.int .i64 q) (.int .i64 6) (.int .i64 n1) (.slice A2 m2 c2) (.int .i64 0) (.int .i64 0) (.int .i64 0) (.int .i64 0) (.int .i64 0)).drew B #[.int .i64 p, .int .i64 q, .int .i64 6, .int .i64 n1, .slice A2 m2 c2, .int .i64 0, .int .i64 0, .int .i64 0, .int .i64 0, .int .i64 0] 28 := (put10_blk _ _ _ _ _ _ _ _ _ _ HM.out.res).drew
      have hown3 := (own_blocks (w' := put10 v5_3 B (.int .i64 p) (.int .i64 q) (.int .i64 6) (.int .i64 n1) (.slice A2 m2 c2) (.int .i64 0) (.int .i64 0) (.int .i64 0) (.int .i64 0) (.int .i64 0)) hown (fun k hk => put10_other (.int .i64 p) (.int .i64 q) (.int .i64 6) (.int .i64 n1) (.slice A2 m2 c2) (.int .i64 0) (.int .i64 0) (.int .i64 0) (.int .i64 0) (.int .i64 0) (show k ≠ B by omega))).drew
      have hb3 := (HM.out.below.trans (put10_below (.int .i64 p) (.int .i64 q) (.int .i64 6) (.int .i64 n1) (.slice A2 m2 c2) (.int .i64 0) (.int .i64 0) (.int .i64 0) (.int .i64 0) (.int .i64 0) (Nat.le_refl B))).drew
      simp only [put10] at hC3 hb3 hown3
      clear HM j1 j2 r0 rf0 r1 rf1 r2 rf2 r3 rf3 r4 rf4 r5 rf5 r6 rf6 r7 rf7 r8 rf8 r9 rf9 k0_ k1_ k2_ k3_ k4_ k5_ k6_ k7_ k8_ k9_
      generalize (((((((((((v5_3).setCell ⟨B, 0, none⟩ (.int .i64 p)).setCell ⟨B, 1, none⟩ (.int .i64 q)).setCell ⟨B, 2, none⟩ (.int .i64 6)).setCell ⟨B, 3, none⟩ (.int .i64 n1)).setCell ⟨B, 4, none⟩ (.slice A2 m2 c2)).setCell ⟨B, 5, none⟩ (.int .i64 0)).setCell ⟨B, 6, none⟩ (.int .i64 0)).setCell ⟨B, 7, none⟩ (.int .i64 0)).setCell ⟨B, 8, none⟩ (.int .i64 0)).setCell ⟨B, 9, none⟩ (.int .i64 0)).drew = w3 at *
      have q0 : w3.cell? ⟨B, 0, none⟩ = some (.int .i64 p) := hC3.cell rfl
      have q1 : w3.cell? ⟨B, 1, none⟩ = some (.int .i64 q) := hC3.cell rfl
      have q2 : w3.cell? ⟨B, 2, none⟩ = some (.int .i64 6) := hC3.cell rfl
      have q3 : w3.cell? ⟨B, 3, none⟩ = some (.int .i64 n1) := hC3.cell rfl
      have q4 : w3.cell? ⟨B, 4, none⟩ = some (.slice A2 m2 c2) := hC3.cell rfl
      have q5 : w3.cell? ⟨B, 5, none⟩ = some (.int .i64 0) := hC3.cell rfl
      have q6 : w3.cell? ⟨B, 6, none⟩ = some (.int .i64 0) := hC3.cell rfl
      have q7 : w3.cell? ⟨B, 7, none⟩ = some (.int .i64 0) := hC3.cell rfl
      have q8 : w3.cell? ⟨B, 8, none⟩ = some (.int .i64 0) := hC3.cell rfl
      have q9 : w3.cell? ⟨B, 9, none⟩ = some (.int .i64 0) := hC3.cell rfl
      go_wp2_with fail
      refine bodyPost_ret (v := .tuple #[cmdV (⟨p, q, 6, n1, us, 0, 0, 0, 0, 0⟩ : Cmd) A2 m2 c2, .int .i64 (ar : Int), .int .i64 0]) (by simp [results, Try.results25, go_sem, cmdV, q0, q1, q2, q3, q4, q5, q6, q7, q8, q9]) rfl ?_
      rw [HP.out]
      exact ⟨A2, m2, c2, rfl, own_mono hown3 (by omega), by omega, by rw [hCC]; exact hb3⟩
  · skip
    have c1_ := M.blk.cell (i := 1) rfl
    have f1_ := M.blk.free 1
    have cx := M.blk.cell (i := 2) rfl
    go_wp2_with fail
    clear cx
    replace M : RrC w (u2.setCell ⟨C, 1, none⟩ (.int .i64 q)) B C n _ (cmdCs p q 7 0 none 0 0 0 0 0 0 0) := M.put 1 (.int .i64 q)
    generalize u2.setCell ⟨C, 1, none⟩ (.int .i64 q) = v3_1 at *
    clear c1_ f1_
    refine Calls.mono (ref_rnum B (B + 1) n (1) (1099511627776) _ _ M.rr) ?_
    rintro e u4 ⟨n1, rfl, ⟨b0n1, b1n1⟩, hn1, hR, ho⟩
    replace M := M.call hR ho
    have Hn1 := Lib.hid hn1
    clear hR ho hn1
    have c3_ := M.blk.cell (i := 3) rfl
    have f3_ := M.blk.free 3
    go_wp2_with fail
    replace M : RrC w (u4.setCell ⟨C, 3, none⟩ (.int .i64 n1)) B C n _ (cmdCs p q 7 n1 none 0 0 0 0 0 0 0) := M.put 3 (.int .i64 n1)
    generalize u4.setCell ⟨C, 3, none⟩ (.int .i64 n1) = v4_3 at *
    clear c3_ f3_
    refine Calls.mono (ref_rnum B (B + 1) n (0) (16383) _ _ M.rr) ?_
    rintro e u5 ⟨t, rfl, ⟨b0t, b1t⟩, ht, hR, ho⟩
    replace M := M.call hR ho
    have Ht := Lib.hid ht
    clear hR ho ht
    have HU : Hid ((readC (.ok l)).2 = (rnum (0) (16383) (rnum (1) (1099511627776) s3).2).2 ∧ ∀ r, (rnum (0) (16383) (rnum (1) (1099511627776) s3).2).2 = .ok r → (readC (.ok l)).1 = (⟨p, q, 7, n1, [], t, 0, 0, 0, 0⟩ : Cmd)) := by
      refine ⟨HT.out, fun r hr => ?_⟩
      have z2 : (rnum (0) (16383) (rnum (1) (1099511627776) s3).2).2 = .ok r := hr
      obtain ⟨_, z1⟩ := ok_num z2
      rw [HV.out r hr, Hn1.out _ z1, Ht.out _ z2]
      rfl
    clear HT HV Hn1 Ht
    generalize (rnum (0) (16383) (rnum (1) (1099511627776) s3).2).2 = sz at *
    obtain ⟨_, Ar, cr, ar, xr, fr, hBr, hlr, hAr, harn, ⟨hx0, hx1⟩, hsr⟩ := id M.rr
    have kr2 := hBr.cell (i := 2) rfl
    have c5_ := M.blk.cell (i := 5) rfl
    have f5_ := M.blk.free 5
    have hlr4 := hlr.2.2.2.2
    have hlrl := hlr.len
    clear hlr hAr
    cases sz with
    | bad z =>
      obtain ⟨rfl, he⟩ := hsr
      have d : (xr != 0) = true := by simpa using he
      have HP : Hid (parseR l = (zeroC, 0, xr)) := by
        show _ = _
        unfold parseR
        rw [HU.out.1]
      clear HU
      go_wp2_with fail
      have hBr := hBr.other (a := ⟨C, 5, none⟩) (by have := M.lt; show B + 1 ≠ C; omega) (.int .i64 t)
      have hBk := hBr
      replace M : RrC w (u5.setCell ⟨C, 5, none⟩ (.int .i64 t)) B C n _ (cmdCs p q 7 n1 none 0 0 t 0 0 0 0) := M.put 5 (.int .i64 t)
      generalize u5.setCell ⟨C, 5, none⟩ (.int .i64 t) = v5_5 at *
      clear kr2 c5_ f5_
      obtain ⟨hbR, A9, c9, a9, x9, f9, hB9, hl9, hA9, ha9n, ⟨hx90, hx91⟩, hs9⟩ := id M.rr
      have r0 := M.res.cell (i := 0) rfl
      have rf0 := M.res.free 0
      have r1 := M.res.cell (i := 1) rfl
      have rf1 := M.res.free 1
      have r2 := M.res.cell (i := 2) rfl
      have rf2 := M.res.free 2
      have r3 := M.res.cell (i := 3) rfl
      have rf3 := M.res.free 3
      have r4 := M.res.cell (i := 4) rfl
      have rf4 := M.res.free 4
      have r5 := M.res.cell (i := 5) rfl
      have rf5 := M.res.free 5
      have r6 := M.res.cell (i := 6) rfl
      have rf6 := M.res.free 6
      have r7 := M.res.cell (i := 7) rfl
      have rf7 := M.res.free 7
      have r8 := M.res.cell (i := 8) rfl
      have rf8 := M.res.free 8
      have r9 := M.res.cell (i := 9) rfl
      have rf9 := M.res.free 9
      have j1 := hBk.cell (i := 1) rfl
      have j2 := hBk.cell (i := 2) rfl
      have HM := Lib.hid M
      have hltM := M.lt
      clear M hBk hB9 hl9 hA9
      go_region
      have hC3 : Blk (put10 v5_5 B (.int .i64 0) (.int .i64 0) (.int .i64 0) (.int .i64 0) (.slice none 0 0) (.int .i64 0) (.int .i64 0) (.int .i64 0) (.int .i64 0) (.int .i64 0)).drew B #[.int .i64 0, .int .i64 0, .int .i64 0, .int .i64 0, .slice none 0 0, .int .i64 0, .int .i64 0, .int .i64 0, .int .i64 0, .int .i64 0] 28 := (put10_blk _ _ _ _ _ _ _ _ _ _ HM.out.res).drew
      have hb3 := (HM.out.below.trans (put10_below (.int .i64 0) (.int .i64 0) (.int .i64 0) (.int .i64 0) (.slice none 0 0) (.int .i64 0) (.int .i64 0) (.int .i64 0) (.int .i64 0) (.int .i64 0) (Nat.le_refl B))).drew
      simp only [put10] at hC3 hb3
      clear HM j1 j2 r0 rf0 r1 rf1 r2 rf2 r3 rf3 r4 rf4 r5 rf5 r6 rf6 r7 rf7 r8 rf8 r9 rf9
      generalize (((((((((((v5_5).setCell ⟨B, 0, none⟩ (.int .i64 0)).setCell ⟨B, 1, none⟩ (.int .i64 0)).setCell ⟨B, 2, none⟩ (.int .i64 0)).setCell ⟨B, 3, none⟩ (.int .i64 0)).setCell ⟨B, 4, none⟩ (.slice none 0 0)).setCell ⟨B, 5, none⟩ (.int .i64 0)).setCell ⟨B, 6, none⟩ (.int .i64 0)).setCell ⟨B, 7, none⟩ (.int .i64 0)).setCell ⟨B, 8, none⟩ (.int .i64 0)).setCell ⟨B, 9, none⟩ (.int .i64 0)).drew = w3 at *
      have q0 : w3.cell? ⟨B, 0, none⟩ = some (.int .i64 0) := hC3.cell rfl
      have q1 : w3.cell? ⟨B, 1, none⟩ = some (.int .i64 0) := hC3.cell rfl
      have q2 : w3.cell? ⟨B, 2, none⟩ = some (.int .i64 0) := hC3.cell rfl
      have q3 : w3.cell? ⟨B, 3, none⟩ = some (.int .i64 0) := hC3.cell rfl
      have q4 : w3.cell? ⟨B, 4, none⟩ = some (.slice none 0 0) := hC3.cell rfl
      have q5 : w3.cell? ⟨B, 5, none⟩ = some (.int .i64 0) := hC3.cell rfl
      have q6 : w3.cell? ⟨B, 6, none⟩ = some (.int .i64 0) := hC3.cell rfl
      have q7 : w3.cell? ⟨B, 7, none⟩ = some (.int .i64 0) := hC3.cell rfl
      have q8 : w3.cell? ⟨B, 8, none⟩ = some (.int .i64 0) := hC3.cell rfl
      have q9 : w3.cell? ⟨B, 9, none⟩ = some (.int .i64 0) := hC3.cell rfl
      go_wp2_with fail
      refine bodyPost_ret (v := .tuple #[cmdV zeroC none 0 0, .int .i64 0, .int .i64 xr]) (by simp [results, Try.results25, go_sem, cmdV, zeroC, q0, q1, q2, q3, q4, q5, q6, q7, q8, q9]) rfl ?_
      rw [HP.out]
      exact ⟨none, 0, 0, rfl, World.ownsRow_nil _ _ _ _, by omega, by rw [hCC]; exact hb3⟩
    | ok z =>
      obtain ⟨rfl, rfl⟩ := hsr
      have HP : Hid (parseR l = ((⟨p, q, 7, n1, [], t, 0, 0, 0, 0⟩ : Cmd), (ar : Int), 0)) := by
        show _ = _
        unfold parseR
        rw [HU.out.1]
        simp only [HU.out.2 _ rfl]
        refine Prod.ext rfl (Prod.ext ?_ rfl)
        show (l.length : Int) - ((fr.drop ar).length : Nat) = (ar : Int)
        rw [List.length_drop, hlrl, hll]; omega
      clear HU
      go_wp2_with fail
      have hBr := hBr.other (a := ⟨C, 5, none⟩) (by have := M.lt; show B + 1 ≠ C; omega) (.int .i64 t)
      have hBk := hBr
      replace M : RrC w (u5.setCell ⟨C, 5, none⟩ (.int .i64 t)) B C n _ (cmdCs p q 7 n1 none 0 0 t 0 0 0 0) := M.put 5 (.int .i64 t)
      generalize u5.setCell ⟨C, 5, none⟩ (.int .i64 t) = v5_5 at *
      clear kr2 c5_ f5_
      obtain ⟨hbR, A9, c9, a9, x9, f9, hB9, hl9, hA9, ha9n, ⟨hx90, hx91⟩, hs9⟩ := id M.rr
      have r0 := M.res.cell (i := 0) rfl
      have rf0 := M.res.free 0
      have k0_ := M.blk.cell (i := 0) rfl
      have r1 := M.res.cell (i := 1) rfl
      have rf1 := M.res.free 1
      have k1_ := M.blk.cell (i := 1) rfl
      have r2 := M.res.cell (i := 2) rfl
      have rf2 := M.res.free 2
      have k2_ := M.blk.cell (i := 2) rfl
      have r3 := M.res.cell (i := 3) rfl
      have rf3 := M.res.free 3
      have k3_ := M.blk.cell (i := 3) rfl
      have r4 := M.res.cell (i := 4) rfl
      have rf4 := M.res.free 4
      have k4_ := M.blk.cell (i := 4) rfl
      have r5 := M.res.cell (i := 5) rfl
      have rf5 := M.res.free 5
      have k5_ := M.blk.cell (i := 5) rfl
      have r6 := M.res.cell (i := 6) rfl
      have rf6 := M.res.free 6
      have k6_ := M.blk.cell (i := 6) rfl
      have r7 := M.res.cell (i := 7) rfl
      have rf7 := M.res.free 7
      have k7_ := M.blk.cell (i := 7) rfl
      have r8 := M.res.cell (i := 8) rfl
      have rf8 := M.res.free 8
      have k8_ := M.blk.cell (i := 8) rfl
      have r9 := M.res.cell (i := 9) rfl
      have rf9 := M.res.free 9
      have k9_ := M.blk.cell (i := 9) rfl
      have j1 := hBk.cell (i := 1) rfl
      have j2 := hBk.cell (i := 2) rfl
      have HM := Lib.hid M
      have hltM := M.lt
      clear M hBk hB9 hl9 hA9
      go_region
      have hC3 : Blk (put10 v5_5 B (.int .i64 p) (.int .i64 q) (.int .i64 7) (.int .i64 n1) (.slice none 0 0) (.int .i64 t) (.int .i64 0) (.int .i64 0) (.int .i64 0) (.int .i64 0)).drew B #[.int .i64 p, .int .i64 q, .int .i64 7, .int .i64 n1, .slice none 0 0, .int .i64 t, .int .i64 0, .int .i64 0, .int .i64 0, .int .i64 0] 28 := (put10_blk _ _ _ _ _ _ _ _ _ _ HM.out.res).drew
      have hb3 := (HM.out.below.trans (put10_below (.int .i64 p) (.int .i64 q) (.int .i64 7) (.int .i64 n1) (.slice none 0 0) (.int .i64 t) (.int .i64 0) (.int .i64 0) (.int .i64 0) (.int .i64 0) (Nat.le_refl B))).drew
      simp only [put10] at hC3 hb3
      clear HM j1 j2 r0 rf0 r1 rf1 r2 rf2 r3 rf3 r4 rf4 r5 rf5 r6 rf6 r7 rf7 r8 rf8 r9 rf9 k0_ k1_ k2_ k3_ k4_ k5_ k6_ k7_ k8_ k9_
      generalize (((((((((((v5_5).setCell ⟨B, 0, none⟩ (.int .i64 p)).setCell ⟨B, 1, none⟩ (.int .i64 q)).setCell ⟨B, 2, none⟩ (.int .i64 7)).setCell ⟨B, 3, none⟩ (.int .i64 n1)).setCell ⟨B, 4, none⟩ (.slice none 0 0)).setCell ⟨B, 5, none⟩ (.int .i64 t)).setCell ⟨B, 6, none⟩ (.int .i64 0)).setCell ⟨B, 7, none⟩ (.int .i64 0)).setCell ⟨B, 8, none⟩ (.int .i64 0)).setCell ⟨B, 9, none⟩ (.int .i64 0)).drew = w3 at *
      have q0 : w3.cell? ⟨B, 0, none⟩ = some (.int .i64 p) := hC3.cell rfl
      have q1 : w3.cell? ⟨B, 1, none⟩ = some (.int .i64 q) := hC3.cell rfl
      have q2 : w3.cell? ⟨B, 2, none⟩ = some (.int .i64 7) := hC3.cell rfl
      have q3 : w3.cell? ⟨B, 3, none⟩ = some (.int .i64 n1) := hC3.cell rfl
      have q4 : w3.cell? ⟨B, 4, none⟩ = some (.slice none 0 0) := hC3.cell rfl
      have q5 : w3.cell? ⟨B, 5, none⟩ = some (.int .i64 t) := hC3.cell rfl
      have q6 : w3.cell? ⟨B, 6, none⟩ = some (.int .i64 0) := hC3.cell rfl
      have q7 : w3.cell? ⟨B, 7, none⟩ = some (.int .i64 0) := hC3.cell rfl
      have q8 : w3.cell? ⟨B, 8, none⟩ = some (.int .i64 0) := hC3.cell rfl
      have q9 : w3.cell? ⟨B, 9, none⟩ = some (.int .i64 0) := hC3.cell rfl
      go_wp2_with fail
      refine bodyPost_ret (v := .tuple #[cmdV (⟨p, q, 7, n1, [], t, 0, 0, 0, 0⟩ : Cmd) none 0 0, .int .i64 (ar : Int), .int .i64 0]) (by simp [results, Try.results25, go_sem, cmdV, q0, q1, q2, q3, q4, q5, q6, q7, q8, q9]) rfl ?_
      rw [HP.out]
      exact ⟨none, 0, 0, rfl, World.ownsRow_nil _ _ _ _, by omega, by rw [hCC]; exact hb3⟩
  · have y1 : (k == 1) = false := by rw [beq_eq_false_iff_ne]; omega
    have y2 : (k == 2) = false := by rw [beq_eq_false_iff_ne]; omega
    have y3 : (k == 3) = false := by rw [beq_eq_false_iff_ne]; omega
    have y4 : (k == 4) = false := by rw [beq_eq_false_iff_ne]; omega
    have y5 : (k == 5) = false := by rw [beq_eq_false_iff_ne]; omega
    have y6 : (k == 6) = false := by rw [beq_eq_false_iff_ne]; omega
    have y7 : (k == 7) = false := by rw [beq_eq_false_iff_ne]; omega
    have cx := M.blk.cell (i := 2) rfl
    have HU : Hid ((readC (.ok l)).2 = s3 ∧ ∀ r, s3 = .ok r → (readC (.ok l)).1 = (⟨p, q, k, 0, [], 0, 0, 0, 0, 0⟩ : Cmd)) := by
      have e1 := HT.out
      rw [rrest_no hk7] at e1
      refine ⟨e1, fun r hr => ?_⟩
      rw [HV.out r (by rw [rrest_no hk7]; exact hr), rrest_no hk7]
    clear HT HV
    generalize s3 = sz at *
    obtain ⟨_, Ar, cr, ar, xr, fr, hBr, hlr, hAr, harn, ⟨hx0, hx1⟩, hsr⟩ := id M.rr
    have kr2 := hBr.cell (i := 2) rfl
    have c1_ := M.blk.cell (i := 1) rfl
    have f1_ := M.blk.free 1
    have hlr4 := hlr.2.2.2.2
    have hlrl := hlr.len
    clear hlr hAr
    cases sz with
    | bad z =>
      obtain ⟨rfl, he⟩ := hsr
      have d : (xr != 0) = true := by simpa using he
      have HP : Hid (parseR l = (zeroC, 0, xr)) := by
        show _ = _
        unfold parseR
        rw [HU.out.1]
      clear HU
      go_wp2_with fail
      have hBr := hBr.other (a := ⟨C, 1, none⟩) (by have := M.lt; show B + 1 ≠ C; omega) (.int .i64 q)
      have hBk := hBr
      replace M : RrC w (u2.setCell ⟨C, 1, none⟩ (.int .i64 q)) B C n _ (cmdCs p q k 0 none 0 0 0 0 0 0 0) := M.put 1 (.int .i64 q)
      generalize u2.setCell ⟨C, 1, none⟩ (.int .i64 q) = v3_1 at *
      clear kr2 c1_ f1_
      obtain ⟨hbR, A9, c9, a9, x9, f9, hB9, hl9, hA9, ha9n, ⟨hx90, hx91⟩, hs9⟩ := id M.rr
      have r0 := M.res.cell (i := 0) rfl
      have rf0 := M.res.free 0
      have r1 := M.res.cell (i := 1) rfl
      have rf1 := M.res.free 1
      have r2 := M.res.cell (i := 2) rfl
      have rf2 := M.res.free 2
      have r3 := M.res.cell (i := 3) rfl
      have rf3 := M.res.free 3
      have r4 := M.res.cell (i := 4) rfl
      have rf4 := M.res.free 4
      have r5 := M.res.cell (i := 5) rfl
      have rf5 := M.res.free 5
      have r6 := M.res.cell (i := 6) rfl
      have rf6 := M.res.free 6
      have r7 := M.res.cell (i := 7) rfl
      have rf7 := M.res.free 7
      have r8 := M.res.cell (i := 8) rfl
      have rf8 := M.res.free 8
      have r9 := M.res.cell (i := 9) rfl
      have rf9 := M.res.free 9
      have j1 := hBk.cell (i := 1) rfl
      have j2 := hBk.cell (i := 2) rfl
      have HM := Lib.hid M
      have hltM := M.lt
      clear M hBk hB9 hl9 hA9
      go_region
      have hC3 : Blk (put10 v3_1 B (.int .i64 0) (.int .i64 0) (.int .i64 0) (.int .i64 0) (.slice none 0 0) (.int .i64 0) (.int .i64 0) (.int .i64 0) (.int .i64 0) (.int .i64 0)).drew B #[.int .i64 0, .int .i64 0, .int .i64 0, .int .i64 0, .slice none 0 0, .int .i64 0, .int .i64 0, .int .i64 0, .int .i64 0, .int .i64 0] 28 := (put10_blk _ _ _ _ _ _ _ _ _ _ HM.out.res).drew
      have hb3 := (HM.out.below.trans (put10_below (.int .i64 0) (.int .i64 0) (.int .i64 0) (.int .i64 0) (.slice none 0 0) (.int .i64 0) (.int .i64 0) (.int .i64 0) (.int .i64 0) (.int .i64 0) (Nat.le_refl B))).drew
      simp only [put10] at hC3 hb3
      clear HM j1 j2 r0 rf0 r1 rf1 r2 rf2 r3 rf3 r4 rf4 r5 rf5 r6 rf6 r7 rf7 r8 rf8 r9 rf9
      generalize (((((((((((v3_1).setCell ⟨B, 0, none⟩ (.int .i64 0)).setCell ⟨B, 1, none⟩ (.int .i64 0)).setCell ⟨B, 2, none⟩ (.int .i64 0)).setCell ⟨B, 3, none⟩ (.int .i64 0)).setCell ⟨B, 4, none⟩ (.slice none 0 0)).setCell ⟨B, 5, none⟩ (.int .i64 0)).setCell ⟨B, 6, none⟩ (.int .i64 0)).setCell ⟨B, 7, none⟩ (.int .i64 0)).setCell ⟨B, 8, none⟩ (.int .i64 0)).setCell ⟨B, 9, none⟩ (.int .i64 0)).drew = w3 at *
      have q0 : w3.cell? ⟨B, 0, none⟩ = some (.int .i64 0) := hC3.cell rfl
      have q1 : w3.cell? ⟨B, 1, none⟩ = some (.int .i64 0) := hC3.cell rfl
      have q2 : w3.cell? ⟨B, 2, none⟩ = some (.int .i64 0) := hC3.cell rfl
      have q3 : w3.cell? ⟨B, 3, none⟩ = some (.int .i64 0) := hC3.cell rfl
      have q4 : w3.cell? ⟨B, 4, none⟩ = some (.slice none 0 0) := hC3.cell rfl
      have q5 : w3.cell? ⟨B, 5, none⟩ = some (.int .i64 0) := hC3.cell rfl
      have q6 : w3.cell? ⟨B, 6, none⟩ = some (.int .i64 0) := hC3.cell rfl
      have q7 : w3.cell? ⟨B, 7, none⟩ = some (.int .i64 0) := hC3.cell rfl
      have q8 : w3.cell? ⟨B, 8, none⟩ = some (.int .i64 0) := hC3.cell rfl
      have q9 : w3.cell? ⟨B, 9, none⟩ = some (.int .i64 0) := hC3.cell rfl
      go_wp2_with fail
      refine bodyPost_ret (v := .tuple #[cmdV zeroC none 0 0, .int .i64 0, .int .i64 xr]) (by simp [results, Try.results25, go_sem, cmdV, zeroC, q0, q1, q2, q3, q4, q5, q6, q7, q8, q9]) rfl ?_
      rw [HP.out]
      exact ⟨none, 0, 0, rfl, World.ownsRow_nil _ _ _ _, by omega, by rw [hCC]; exact hb3⟩
    | ok z =>
      obtain ⟨rfl, rfl⟩ := hsr
      have HP : Hid (parseR l = ((⟨p, q, k, 0, [], 0, 0, 0, 0, 0⟩ : Cmd), (ar : Int), 0)) := by
        show _ = _
        unfold parseR
        rw [HU.out.1]
        simp only [HU.out.2 _ rfl]
        refine Prod.ext rfl (Prod.ext ?_ rfl)
        show (l.length : Int) - ((fr.drop ar).length : Nat) = (ar : Int)
        rw [List.length_drop, hlrl, hll]; omega
      clear HU
      go_wp2_with fail
      have hBr := hBr.other (a := ⟨C, 1, none⟩) (by have := M.lt; show B + 1 ≠ C; omega) (.int .i64 q)
      have hBk := hBr
      replace M : RrC w (u2.setCell ⟨C, 1, none⟩ (.int .i64 q)) B C n _ (cmdCs p q k 0 none 0 0 0 0 0 0 0) := M.put 1 (.int .i64 q)
      generalize u2.setCell ⟨C, 1, none⟩ (.int .i64 q) = v3_1 at *
      clear kr2 c1_ f1_
      obtain ⟨hbR, A9, c9, a9, x9, f9, hB9, hl9, hA9, ha9n, ⟨hx90, hx91⟩, hs9⟩ := id M.rr
      have r0 := M.res.cell (i := 0) rfl
      have rf0 := M.res.free 0
      have k0_ := M.blk.cell (i := 0) rfl
      have r1 := M.res.cell (i := 1) rfl
      have rf1 := M.res.free 1
      have k1_ := M.blk.cell (i := 1) rfl
      have r2 := M.res.cell (i := 2) rfl
      have rf2 := M.res.free 2
      have k2_ := M.blk.cell (i := 2) rfl
      have r3 := M.res.cell (i := 3) rfl
      have rf3 := M.res.free 3
      have k3_ := M.blk.cell (i := 3) rfl
      have r4 := M.res.cell (i := 4) rfl
      have rf4 := M.res.free 4
      have k4_ := M.blk.cell (i := 4) rfl
      have r5 := M.res.cell (i := 5) rfl
      have rf5 := M.res.free 5
      have k5_ := M.blk.cell (i := 5) rfl
      have r6 := M.res.cell (i := 6) rfl
      have rf6 := M.res.free 6
      have k6_ := M.blk.cell (i := 6) rfl
      have r7 := M.res.cell (i := 7) rfl
      have rf7 := M.res.free 7
      have k7_ := M.blk.cell (i := 7) rfl
      have r8 := M.res.cell (i := 8) rfl
      have rf8 := M.res.free 8
      have k8_ := M.blk.cell (i := 8) rfl
      have r9 := M.res.cell (i := 9) rfl
      have rf9 := M.res.free 9
      have k9_ := M.blk.cell (i := 9) rfl
      have j1 := hBk.cell (i := 1) rfl
      have j2 := hBk.cell (i := 2) rfl
      have HM := Lib.hid M
      have hltM := M.lt
      clear M hBk hB9 hl9 hA9
      go_region
      have hC3 : Blk (put10 v3_1 B (.int .i64 p) (.int .i64 q) (.int .i64 k) (.int .i64 0) (.slice none 0 0) (.int .i64 0) (.int .i64 0) (.int .i64 0) (.int .i64 0) (.int .i64 0)).drew B #[.int .i64 p, .int .i64 q, .int .i64 k, .int .i64 0, .slice none 0 0, .int .i64 0, .int .i64 0, .int .i64 0, .int .i64 0, .int .i64 0] 28 := (put10_blk _ _ _ _ _ _ _ _ _ _ HM.out.res).drew
      have hb3 := (HM.out.below.trans (put10_below (.int .i64 p) (.int .i64 q) (.int .i64 k) (.int .i64 0) (.slice none 0 0) (.int .i64 0) (.int .i64 0) (.int .i64 0) (.int .i64 0) (.int .i64 0) (Nat.le_refl B))).drew
      simp only [put10] at hC3 hb3
      clear HM j1 j2 r0 rf0 r1 rf1 r2 rf2 r3 rf3 r4 rf4 r5 rf5 r6 rf6 r7 rf7 r8 rf8 r9 rf9 k0_ k1_ k2_ k3_ k4_ k5_ k6_ k7_ k8_ k9_
      generalize (((((((((((v3_1).setCell ⟨B, 0, none⟩ (.int .i64 p)).setCell ⟨B, 1, none⟩ (.int .i64 q)).setCell ⟨B, 2, none⟩ (.int .i64 k)).setCell ⟨B, 3, none⟩ (.int .i64 0)).setCell ⟨B, 4, none⟩ (.slice none 0 0)).setCell ⟨B, 5, none⟩ (.int .i64 0)).setCell ⟨B, 6, none⟩ (.int .i64 0)).setCell ⟨B, 7, none⟩ (.int .i64 0)).setCell ⟨B, 8, none⟩ (.int .i64 0)).setCell ⟨B, 9, none⟩ (.int .i64 0)).drew = w3 at *
      have q0 : w3.cell? ⟨B, 0, none⟩ = some (.int .i64 p) := hC3.cell rfl
      have q1 : w3.cell? ⟨B, 1, none⟩ = some (.int .i64 q) := hC3.cell rfl
      have q2 : w3.cell? ⟨B, 2, none⟩ = some (.int .i64 k) := hC3.cell rfl
      have q3 : w3.cell? ⟨B, 3, none⟩ = some (.int .i64 0) := hC3.cell rfl
      have q4 : w3.cell? ⟨B, 4, none⟩ = some (.slice none 0 0) := hC3.cell rfl
      have q5 : w3.cell? ⟨B, 5, none⟩ = some (.int .i64 0) := hC3.cell rfl
      have q6 : w3.cell? ⟨B, 6, none⟩ = some (.int .i64 0) := hC3.cell rfl
      have q7 : w3.cell? ⟨B, 7, none⟩ = some (.int .i64 0) := hC3.cell rfl
      have q8 : w3.cell? ⟨B, 8, none⟩ = some (.int .i64 0) := hC3.cell rfl
      have q9 : w3.cell? ⟨B, 9, none⟩ = some (.int .i64 0) := hC3.cell rfl
      go_wp2_with fail
      refine bodyPost_ret (v := .tuple #[cmdV (⟨p, q, k, 0, [], 0, 0, 0, 0, 0⟩ : Cmd) none 0 0, .int .i64 (ar : Int), .int .i64 0]) (by simp [results, Try.results25, go_sem, cmdV, q0, q1, q2, q3, q4, q5, q6, q7, q8, q9]) rfl ?_
      rw [HP.out]
      exact ⟨none, 0, 0, rfl, World.ownsRow_nil _ _ _ _, by omega, by rw [hCC]; exact hb3⟩
end Go.Proofs.Ytneigplmgellcaa
