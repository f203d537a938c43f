/- What pushes away from others: the page's. -/
import Derived.Test.YtjbnpgjndohjcaaApart
namespace Go.Proofs.Ytjbnpgjndohjcaa
set_option maxRecDepth 20000
set_option maxRecDepth 20000
open Go.RowKit

theorem fsub_less {r n : Int} (h0 : 0 < r) (h1 : r ≤ 9223372036854775807) (n0 : 0 ≤ n) (n1 : n ≤ 9223372036854775807) : fsub r n = r - n := by
  unfold fsub fneg fadd
  rw [nrm_id (a := n) (by omega), nrm_id (a := r) (by omega), nrm_id (a := -n) (by omega), clp_id (by omega) (by omega)]
  omega
/-- A place's box and another place's cells, in worlds that grew. -/
theorem keepz {wr wa wb : World} {g b i : Nat} {x y zx zy : Int} (h : wa.cell? ⟨g, 0, none⟩ = some (.int .i64 x) ∧ wa.cell? ⟨g, 1, none⟩ = some (.int .i64 y) ∧ wa.cell? ⟨b, i, none⟩ = some (.int .i64 zx) ∧ wa.cell? ⟨b, i + 1, none⟩ = some (.int .i64 zy) ∧ g < wr.heap.size ∧ b < wr.heap.size ∧ Below wr.heap.size wr wa) (hb : Below wr.heap.size wa wb) :
    wb.cell? ⟨g, 0, none⟩ = some (.int .i64 x) ∧ wb.cell? ⟨g, 1, none⟩ = some (.int .i64 y) ∧ wb.cell? ⟨b, i, none⟩ = some (.int .i64 zx) ∧ wb.cell? ⟨b, i + 1, none⟩ = some (.int .i64 zy) ∧ g < wr.heap.size ∧ b < wr.heap.size ∧ Below wr.heap.size wr wb := by
  obtain ⟨h0, h1, h2, h3, h4, h5, h6⟩ := h
  exact ⟨(hb.cell (p := ⟨g, 0, none⟩) h4).trans h0, (hb.cell (p := ⟨g, 1, none⟩) h4).trans h1, (hb.cell (p := ⟨b, i, none⟩) h5).trans h2, (hb.cell (p := ⟨b, i + 1, none⟩) h5).trans h3, h4, h5, h6.trans hb⟩

set_option maxHeartbeats 3200000 in
theorem ref_push (x y r : Int) (A : Option Addr) (n c : Nat) (l : List (Int × Int)) (w : World) (hv : VecsL w A n l) (hx : x ≤ 9223372036854775807) (hy : y ≤ 9223372036854775807) (hr : r ≤ 9223372036854775807) (hn : n ≤ 1000) :
    Calls Try.prog 32 #[.agg #[.int .i64 x, .int .i64 y], .int .i64 r, .slice A n c] w fun e w' => e = .returned (.agg #[.int .i64 (apV x y r l).1, .int .i64 (apV x y r l).2]) ∧ Below w.heap.size w w' := by
  have hll := hv.1
  have Qp := (((BoxQ.start w x y).next ((Below.refl _ _).alloc (Nat.le_refl _) (.cells #[.int .i64 0, .int .i64 0] 35))).next ((Below.refl _ _).alloc (Nat.le_refl _) (.cells #[.int .i64 0, .int .i64 0] 35)))
  have Q6 := (BoxQ.start (w.alloc (.cells #[.int .i64 x, .int .i64 y] 35)) 0 0).next ((Below.refl _ _).alloc (Nat.le_refl _) (.cells #[.int .i64 0, .int .i64 0] 35))
  have Q7 := BoxQ.start ((w.alloc (.cells #[.int .i64 x, .int .i64 y] 35)).alloc (.cells #[.int .i64 0, .int .i64 0] 35)) 0 0
  have hbl : Below w.heap.size w (((w.alloc (.cells #[.int .i64 x, .int .i64 y] 35)).alloc (.cells #[.int .i64 0, .int .i64 0] 35)).alloc (.cells #[.int .i64 0, .int .i64 0] 35)) := (((Below.refl _ _).alloc (Nat.le_refl _) _).alloc (by simp) _).alloc (by simp; omega) _
  rw [show (w.alloc (.cells #[.int .i64 x, .int .i64 y] 35)).heap.size = w.heap.size + 1 by simp] at Q6
  rw [show ((w.alloc (.cells #[.int .i64 x, .int .i64 y] 35)).alloc (.cells #[.int .i64 0, .int .i64 0] 35)).heap.size = w.heap.size + 2 by simp] at Q7
  go_enter Try.func32, Try.ntmps32
  go_wp2_with fail
  generalize ((w.alloc (.cells #[.int .i64 x, .int .i64 y] 35)).alloc (.cells #[.int .i64 0, .int .i64 0] 35)).alloc (.cells #[.int .i64 0, .int .i64 0] 35) = X at *
  go_loopw [8] (fun i wr => ∃ (k : Nat), k ≤ n ∧ i = .int .i64 k ∧ BoxQ w.heap.size x y wr ∧ BoxQ (w.heap.size + 1) 0 0 wr ∧ BoxQ (w.heap.size + 2) (apV x y r (l.take k)).1 (apV x y r (l.take k)).2 wr ∧ Below w.heap.size w wr) (fun i _ => n - (intOf i).toNat)
  case atStart => exact ⟨0, Nat.zero_le _, rfl, Qp, Q6, Q7, hbl⟩
  case round =>
    clear Qp Q6 Q7 hbl
    obtain ⟨k, hk, rfl, Qp, Q6, Q7, hbl⟩ := hrel
    by_cases hlt : k < n
    · obtain ⟨b, o, rfl, hb, hc1, hc2, ⟨z0, z1⟩, ⟨z2, z3⟩⟩ := hv.2 k hlt
      have hc1 := (hbl.cell (p := ⟨b, o + k * 2, none⟩) hb).trans hc1
      have hc2 := (hbl.cell (p := ⟨b, o + k * 2 + 1, none⟩) hb).trans hc2
      have HS := apV_step (x := x) (y := y) (r := r) (l := l) (k := k) (by omega)
      obtain ⟨s1, s3⟩ := apV_range x y r (l.take k)
      unfold stepV at HS
      have W := fun W' => ref_within x y (l.getD k (0, 0)).1 (l.getD k (0, 0)).2 r W' hx hy z1 z3 hr
      have hrp : vwithin x y (l.getD k (0, 0)).1 (l.getD k (0, 0)).2 r = true → 0 < r := fun h => (of_decide_eq_true h).1
      have S1 := Lib.hid (fun W' => ref_vsub x y (l.getD k (0, 0)).1 (l.getD k (0, 0)).2 W' hx hy z1 z3)
      obtain ⟨a0, a1⟩ := fsub_range x (l.getD k (0, 0)).1
      obtain ⟨b0, b1⟩ := fsub_range y (l.getD k (0, 0)).2
      have LN := Lib.hid (fun W' => ref_len (fsub x (l.getD k (0, 0)).1) (fsub y (l.getD k (0, 0)).2) W' a1 b1)
      obtain ⟨l0, l1⟩ := vlen_range a1 b1
      have fr : (pushV x y r (l.getD k (0, 0)).1 (l.getD k (0, 0)).2).1 ≤ 9223372036854775807 ∧ (pushV x y r (l.getD k (0, 0)).1 (l.getD k (0, 0)).2).2 ≤ 9223372036854775807 := by
        unfold pushV
        split
        · exact clampV_range (by omega) (by omega) (fsub_range _ _).2
        · exact clampV_range a1 b1 (fsub_range _ _).2
      have HP : 0 < r → (if fsub x (l.getD k (0, 0)).1 = 0 ∧ fsub y (l.getD k (0, 0)).2 = 0 then clampV 65536 0 (r - vlen (fsub x (l.getD k (0, 0)).1) (fsub y (l.getD k (0, 0)).2)) else clampV (fsub x (l.getD k (0, 0)).1) (fsub y (l.getD k (0, 0)).2) (r - vlen (fsub x (l.getD k (0, 0)).1) (fsub y (l.getD k (0, 0)).2))) = pushV x y r (l.getD k (0, 0)).1 (l.getD k (0, 0)).2 := fun h => by
        rw [← fsub_less h hr l0 l1]; rfl
      generalize vwithin x y (l.getD k (0, 0)).1 (l.getD k (0, 0)).2 r = B at *
      generalize pushV x y r (l.getD k (0, 0)).1 (l.getD k (0, 0)).2 = FF at *
      obtain ⟨fx, fy⟩ := FF
      generalize vlen (fsub x (l.getD k (0, 0)).1) (fsub y (l.getD k (0, 0)).2) = L at *
      generalize fsub x (l.getD k (0, 0)).1 = dx at *
      generalize fsub y (l.getD k (0, 0)).2 = dy at *
      generalize (l.getD k (0, 0)).1 = zx at *
      generalize (l.getD k (0, 0)).2 = zy at *
      generalize apV x y r (l.take k) = S at *
      obtain ⟨sx, sy⟩ := S
      simp only at s1 s3 HS Q7 fr
      have ki : (k : Int) < (n : Int) := by omega
      have ki0 : (0 : Int) ≤ (k : Int) := by omega
      have hbr : b < wr.heap.size := Nat.lt_of_lt_of_le hb hbl.size
      have hgr : w.heap.size + 2 < wr.heap.size := Q7.2.2.2
      obtain ⟨p0, p1, p2, p3⟩ := id Qp
      have W := Lib.hid (fun u => calls_over (x := u) (W (over wr u)))
      cases B with
      | false =>
        have HT : Hid (apV x y r (l.take (k + 1)) = (sx, sy)) := by show _ = _; rw [HS]; rfl
        clear HS HP hrp
        go_wp2_with fail
        refine wp_region_over (by kernel_rfl) (by kernel_rfl) ?_
        repeat (go_big_quiet_step (first | (go_at_call 37; with_reducible exact W.out _)))
        refine wpQuiet_nil ?_
        rintro wq ⟨xq, rfl⟩
        have hq := over_below wr xq
        generalize over wr xq = wq at *
        go_wp2
        go_roundw
        case rel => exact ⟨k + 1, by omega, by go_num, Qp.next hq, Q6.next hq, by rw [HT.out]; exact Q7.next hq, hbl.trans (hq.mono hbl.size)⟩
        case measure => simp [intOf]; omega
      | true =>
        have HT : Hid (apV x y r (l.take (k + 1)) = (fadd sx fx, fadd sy fy)) := by show _ = _; rw [HS, if_pos rfl]
        have hrp2 : 0 < r := hrp rfl
        have HP := Lib.hid (HP hrp2)
        have AD := Lib.hid (fun W' => ref_vadd sx sy fx fy W' s1 s3 fr.1 fr.2)
        clear HS hrp
        generalize fadd sx fx = tx at *
        generalize fadd sy fy = ty at *
        go_wp2_with fail
        refine wp_region_over (by kernel_rfl) (by kernel_rfl) ?_
        repeat (go_big_quiet_step (first | (go_at_call 37; with_reducible exact W.out _)))
        refine wpQuiet_nil ?_
        rintro wq ⟨xq, rfl⟩
        have hq := over_below wr xq
        generalize over wr xq = wq at *
        have Qp := Qp.next hq
        have Q6 := Q6.next hq
        have Q7 := Q7.next hq
        have hbl2 := hbl.trans (hq.mono hbl.size)
        have hc1 := (hq.cell (p := ⟨b, o + k * 2, none⟩) hbr).trans hc1
        have hc2 := (hq.cell (p := ⟨b, o + k * 2 + 1, none⟩) hbr).trans hc2
        have hbr : b < wq.heap.size := Nat.lt_of_lt_of_le hbr hq.size
        have hgr : w.heap.size + 2 < wq.heap.size := Q7.2.2.2
        clear p0 p1 p2 p3 W hbl hq
        generalize hwq : wq = w1 at *
        clear hwq
        obtain ⟨p0, p1, p2, p3⟩ := id Qp
        have SD : w1.drew.cell? ⟨w.heap.size, 0, none⟩ = some (.int .i64 x) ∧ w1.drew.cell? ⟨w.heap.size, 1, none⟩ = some (.int .i64 y) ∧ w1.drew.cell? ⟨b, o + k * 2, none⟩ = some (.int .i64 zx) ∧ w1.drew.cell? ⟨b, o + k * 2 + 1, none⟩ = some (.int .i64 zy) ∧ w.heap.size < w1.heap.size ∧ b < w1.heap.size ∧ Below w1.heap.size w1 w1.drew := ⟨p0, p1, hc1, hc2, p3, hbr, (Below.refl _ _).drew⟩
        have SA := keepz SD ((Below.refl w1.heap.size w1.drew).alloc (Nat.le_refl _) (.cells #[.int .i64 0, .int .i64 0] 35))
        go_wp2_with fail
        go_region_held3 (fun w' => w'.cell? ⟨w.heap.size, 0, none⟩ = some (.int .i64 x) ∧ w'.cell? ⟨w.heap.size, 1, none⟩ = some (.int .i64 y) ∧ w'.cell? ⟨b, o + k * 2, none⟩ = some (.int .i64 zx) ∧ w'.cell? ⟨b, o + k * 2 + 1, none⟩ = some (.int .i64 zy) ∧ w.heap.size < w1.heap.size ∧ b < w1.heap.size ∧ Below w1.heap.size w1 w')
          (first | exact SD | exact SA | assumption | exact keepz S3 ((Below.refl _ _).alloc S3.2.2.2.2.2.2.size _) | exact SB)
          (first
            | (go_at_call 36; ((with_reducible refine Calls.mono (S1.out _) ?_); rintro e w3 ⟨rfl, hb3⟩; first | have S3 := keepz SD hb3 | (have S3 := keepz SA (hb3.mono SA.2.2.2.2.2.2.size); have QD3 := ((BoxQ.start w1 0 0).next ((Below.refl _ _).drew)).next hb3; obtain ⟨d0, d1, d2, d3⟩ := id QD3; have SB := keepz S3 (((Below.refl w1.heap.size w3).setCell (p := ⟨w1.heap.size, 0, none⟩) (Nat.le_refl _) (.int .i64 dx)).setCell (p := ⟨w1.heap.size, 1, none⟩) (Nat.le_refl _) (.int .i64 dy))))))
        · have b3 := S3.2.2.2.2.2.2
          have QA3 := (Qp.next b3).next ((Below.refl _ _).alloc (Nat.le_refl _) (.cells #[.int .i64 dx, .int .i64 dy] 35))
          have QR3 := (Q6.next b3).next ((Below.refl _ _).alloc (Nat.le_refl _) (.cells #[.int .i64 dx, .int .i64 dy] 35))
          have QV3 := (Q7.next b3).next ((Below.refl _ _).alloc (Nat.le_refl _) (.cells #[.int .i64 dx, .int .i64 dy] 35))
          have QD3 := BoxQ.start w3 dx dy
          have B3 := (hbl2.trans (b3.mono hbl2.size)).alloc (hbl2.trans (b3.mono hbl2.size)).size (.cells #[.int .i64 dx, .int .i64 dy] 35)
          have hg9 : w.heap.size + 2 < w3.heap.size := Nat.lt_of_lt_of_le hgr b3.size
          clear S3 b3 hb3 SD SA Qp Q6 Q7 p0 p1 p2 p3 hc1 hc2
          generalize w3.heap.size = g9 at *
          generalize w3.alloc (.cells #[.int .i64 dx, .int .i64 dy] 35) = w6 at *
          obtain ⟨q0, q1, q2, q3⟩ := id QD3
          go_wp2_with fail
          refine Calls.mono (LN.out _) ?_
          rintro e w4 ⟨rfl, hb4⟩
          have QA4 := QA3.next hb4
          have QR4 := QR3.next hb4
          have QV4 := QV3.next hb4
          have QD4 := QD3.next hb4
          have B4 := B3.trans (hb4.mono B3.size)
          clear q0 q1 q2 q3 QA3 QR3 QV3 QD3 B3 hb4
          obtain ⟨q0, q1, q2, q3⟩ := id QD4
          by_cases hd : dx = 0 ∧ dy = 0
          · obtain ⟨rfl, rfl⟩ := hd
            have CL := fun W' => ref_clamp 65536 0 (r - L) W' (by omega) (by omega) (by omega)
            rw [show clampV 65536 0 (r - L) = (fx, fy) by rw [← HP.out, if_pos ⟨rfl, rfl⟩]] at CL
            have QA5 := QA4.other (h := g9) (a := .int .i64 65536) (b := .int .i64 0) (by omega)
            have QR5 := QR4.other (h := g9) (a := .int .i64 65536) (b := .int .i64 0) (by omega)
            have QV5 := QV4.other (h := g9) (a := .int .i64 65536) (b := .int .i64 0) (by omega)
            have QD5 := BoxQ.store (a := 65536) (b := 0) QD4
            have B5 := (B4.setCell (p := ⟨g9, 0, none⟩) (by show w.heap.size ≤ g9; omega) (.int .i64 65536)).setCell (p := ⟨g9, 1, none⟩) (by show w.heap.size ≤ g9; omega) (.int .i64 0)
            go_wp2_with fail
            generalize (w4.setCell ⟨g9, 0, none⟩ (.int .i64 65536)).setCell ⟨g9, 1, none⟩ (.int .i64 0) = w5 at *
            clear q0 q1 q2 q3 QA4 QR4 QV4 QD4 B4
            obtain ⟨t0, t1, t2, t3⟩ := id QV5
            obtain ⟨q0, q1, q2, q3⟩ := id QD5
            have CL := Lib.hid (fun u => calls_over (x := u) (CL (over w5 u)))
            have AD := Lib.hid (fun u => calls_over (x := u) (AD.out (over w5 u)))
            go_wp2_with fail
            refine wp_region_over_tail 7 (by kernel_rfl) (by kernel_rfl) ?_
            simp only [List.take_succ_cons, List.take_zero, List.drop_succ_cons, List.drop_zero]
            repeat (go_big_quiet_step (first | (go_at_call 58; with_reducible exact CL.out _) | (go_at_call 60; with_reducible exact AD.out _)))
            refine wpQuiet_nil ?_
            rintro wq ⟨xq, rfl⟩
            have hq := over_below w5 xq
            generalize over w5 xq = wq at *
            have QA6 := QA5.next hq
            have QR6 := QR5.next hq
            have QV6 := QV5.next hq
            have B6 := B5.trans (hq.mono B5.size)
            clear t0 t1 t2 t3 q0 q1 q2 q3
            obtain ⟨q0, q1, q2, q3⟩ := id QV6
            go_wp2
            go_roundw
            case rel => exact ⟨k + 1, by omega, by go_num, QA6.other (by omega), QR6.other (by omega), by rw [HT.out]; exact QV6.store, (B6.setCell (by show w.heap.size ≤ w.heap.size + 2; omega) _).setCell (by show w.heap.size ≤ w.heap.size + 2; omega) _⟩
            case measure => simp [intOf]; omega
          · have CL := fun W' => ref_clamp dx dy (r - L) W' a1 b1 (by omega)
            rw [show clampV dx dy (r - L) = (fx, fy) by rw [← HP.out, if_neg hd]] at CL
            have QA5 := QA4
            have QR5 := QR4
            have QV5 := QV4
            have QD5 := QD4
            have B5 := B4
            clear q0 q1 q2 q3 QA4 QR4 QV4 QD4 B4
            generalize w4 = w5 at *
            rcases (show ¬ dx = 0 ∨ (dx = 0 ∧ ¬ dy = 0) by omega) with f1 | ⟨rfl, f1⟩
            · obtain ⟨t0, t1, t2, t3⟩ := id QV5
              obtain ⟨q0, q1, q2, q3⟩ := id QD5
              have CL := Lib.hid (fun u => calls_over (x := u) (CL (over w5 u)))
              have AD := Lib.hid (fun u => calls_over (x := u) (AD.out (over w5 u)))
              go_wp2_with fail
              refine wp_region_over_tail 7 (by kernel_rfl) (by kernel_rfl) ?_
              simp only [List.take_succ_cons, List.take_zero, List.drop_succ_cons, List.drop_zero]
              repeat (go_big_quiet_step (first | (go_at_call 58; with_reducible exact CL.out _) | (go_at_call 60; with_reducible exact AD.out _)))
              refine wpQuiet_nil ?_
              rintro wq ⟨xq, rfl⟩
              have hq := over_below w5 xq
              generalize over w5 xq = wq at *
              have QA6 := QA5.next hq
              have QR6 := QR5.next hq
              have QV6 := QV5.next hq
              have B6 := B5.trans (hq.mono B5.size)
              clear t0 t1 t2 t3 q0 q1 q2 q3
              obtain ⟨q0, q1, q2, q3⟩ := id QV6
              go_wp2
              go_roundw
              case rel => exact ⟨k + 1, by omega, by go_num, QA6.other (by omega), QR6.other (by omega), by rw [HT.out]; exact QV6.store, (B6.setCell (by show w.heap.size ≤ w.heap.size + 2; omega) _).setCell (by show w.heap.size ≤ w.heap.size + 2; omega) _⟩
              case measure => simp [intOf]; omega
            · obtain ⟨t0, t1, t2, t3⟩ := id QV5
              obtain ⟨q0, q1, q2, q3⟩ := id QD5
              have CL := Lib.hid (fun u => calls_over (x := u) (CL (over w5 u)))
              have AD := Lib.hid (fun u => calls_over (x := u) (AD.out (over w5 u)))
              go_wp2_with fail
              refine wp_region_over_tail 7 (by kernel_rfl) (by kernel_rfl) ?_
              simp only [List.take_succ_cons, List.take_zero, List.drop_succ_cons, List.drop_zero]
              repeat (go_big_quiet_step (first | (go_at_call 58; with_reducible exact CL.out _) | (go_at_call 60; with_reducible exact AD.out _)))
              refine wpQuiet_nil ?_
              rintro wq ⟨xq, rfl⟩
              have hq := over_below w5 xq
              generalize over w5 xq = wq at *
              have QA6 := QA5.next hq
              have QR6 := QR5.next hq
              have QV6 := QV5.next hq
              have B6 := B5.trans (hq.mono B5.size)
              clear t0 t1 t2 t3 q0 q1 q2 q3
              obtain ⟨q0, q1, q2, q3⟩ := id QV6
              go_wp2
              go_roundw
              case rel => exact ⟨k + 1, by omega, by go_num, QA6.other (by omega), QR6.other (by omega), by rw [HT.out]; exact QV6.store, (B6.setCell (by show w.heap.size ≤ w.heap.size + 2; omega) _).setCell (by show w.heap.size ≤ w.heap.size + 2; omega) _⟩
              case measure => simp [intOf]; omega
        · have b3 := S3.2.2.2.2.2.2
          have QA3 := (Qp.next b3).other (h := w1.heap.size) (a := .int .i64 dx) (b := .int .i64 dy) (by omega)
          have QR3 := (Q6.next b3).other (h := w1.heap.size) (a := .int .i64 dx) (b := .int .i64 dy) (by omega)
          have QV3 := (Q7.next b3).other (h := w1.heap.size) (a := .int .i64 dx) (b := .int .i64 dy) (by omega)
          have QD3 := BoxQ.store (a := dx) (b := dy) QD3
          have B3 := ((hbl2.trans (b3.mono hbl2.size)).setCell (p := ⟨w1.heap.size, 0, none⟩) hbl2.size (.int .i64 dx)).setCell (p := ⟨w1.heap.size, 1, none⟩) hbl2.size (.int .i64 dy)
          have hg9 : w.heap.size + 2 < w1.heap.size := hgr
          clear S3 b3 hb3 SD SA SB Qp Q6 Q7 p0 p1 p2 p3 d0 d1 d2 d3 hc1 hc2
          generalize hw6 : (w3.setCell ⟨w1.heap.size, 0, none⟩ (.int .i64 dx)).setCell ⟨w1.heap.size, 1, none⟩ (.int .i64 dy) = w6 at *
          clear hw6
          generalize w1.heap.size = g9 at *
          obtain ⟨q0, q1, q2, q3⟩ := id QD3
          go_wp2_with fail
          refine Calls.mono (LN.out _) ?_
          rintro e w4 ⟨rfl, hb4⟩
          have QA4 := QA3.next hb4
          have QR4 := QR3.next hb4
          have QV4 := QV3.next hb4
          have QD4 := QD3.next hb4
          have B4 := B3.trans (hb4.mono B3.size)
          clear q0 q1 q2 q3 QA3 QR3 QV3 QD3 B3 hb4
          obtain ⟨q0, q1, q2, q3⟩ := id QD4
          by_cases hd : dx = 0 ∧ dy = 0
          · obtain ⟨rfl, rfl⟩ := hd
            have CL := fun W' => ref_clamp 65536 0 (r - L) W' (by omega) (by omega) (by omega)
            rw [show clampV 65536 0 (r - L) = (fx, fy) by rw [← HP.out, if_pos ⟨rfl, rfl⟩]] at CL
            have QA5 := QA4.other (h := g9) (a := .int .i64 65536) (b := .int .i64 0) (by omega)
            have QR5 := QR4.other (h := g9) (a := .int .i64 65536) (b := .int .i64 0) (by omega)
            have QV5 := QV4.other (h := g9) (a := .int .i64 65536) (b := .int .i64 0) (by omega)
            have QD5 := BoxQ.store (a := 65536) (b := 0) QD4
            have B5 := (B4.setCell (p := ⟨g9, 0, none⟩) (by show w.heap.size ≤ g9; omega) (.int .i64 65536)).setCell (p := ⟨g9, 1, none⟩) (by show w.heap.size ≤ g9; omega) (.int .i64 0)
            go_wp2_with fail
            generalize (w4.setCell ⟨g9, 0, none⟩ (.int .i64 65536)).setCell ⟨g9, 1, none⟩ (.int .i64 0) = w5 at *
            clear q0 q1 q2 q3 QA4 QR4 QV4 QD4 B4
            obtain ⟨t0, t1, t2, t3⟩ := id QV5
            obtain ⟨q0, q1, q2, q3⟩ := id QD5
            have CL := Lib.hid (fun u => calls_over (x := u) (CL (over w5 u)))
            have AD := Lib.hid (fun u => calls_over (x := u) (AD.out (over w5 u)))
            go_wp2_with fail
            refine wp_region_over_tail 7 (by kernel_rfl) (by kernel_rfl) ?_
            simp only [List.take_succ_cons, List.take_zero, List.drop_succ_cons, List.drop_zero]
            repeat (go_big_quiet_step (first | (go_at_call 58; with_reducible exact CL.out _) | (go_at_call 60; with_reducible exact AD.out _)))
            refine wpQuiet_nil ?_
            rintro wq ⟨xq, rfl⟩
            have hq := over_below w5 xq
            generalize over w5 xq = wq at *
            have QA6 := QA5.next hq
            have QR6 := QR5.next hq
            have QV6 := QV5.next hq
            have B6 := B5.trans (hq.mono B5.size)
            clear t0 t1 t2 t3 q0 q1 q2 q3
            obtain ⟨q0, q1, q2, q3⟩ := id QV6
            go_wp2
            go_roundw
            case rel => exact ⟨k + 1, by omega, by go_num, QA6.other (by omega), QR6.other (by omega), by rw [HT.out]; exact QV6.store, (B6.setCell (by show w.heap.size ≤ w.heap.size + 2; omega) _).setCell (by show w.heap.size ≤ w.heap.size + 2; omega) _⟩
            case measure => simp [intOf]; omega
          · have CL := fun W' => ref_clamp dx dy (r - L) W' a1 b1 (by omega)
            rw [show clampV dx dy (r - L) = (fx, fy) by rw [← HP.out, if_neg hd]] at CL
            have QA5 := QA4
            have QR5 := QR4
            have QV5 := QV4
            have QD5 := QD4
            have B5 := B4
            clear q0 q1 q2 q3 QA4 QR4 QV4 QD4 B4
            generalize w4 = w5 at *
            rcases (show ¬ dx = 0 ∨ (dx = 0 ∧ ¬ dy = 0) by omega) with f1 | ⟨rfl, f1⟩
            · obtain ⟨t0, t1, t2, t3⟩ := id QV5
              obtain ⟨q0, q1, q2, q3⟩ := id QD5
              have CL := Lib.hid (fun u => calls_over (x := u) (CL (over w5 u)))
              have AD := Lib.hid (fun u => calls_over (x := u) (AD.out (over w5 u)))
              go_wp2_with fail
              refine wp_region_over_tail 7 (by kernel_rfl) (by kernel_rfl) ?_
              simp only [List.take_succ_cons, List.take_zero, List.drop_succ_cons, List.drop_zero]
              repeat (go_big_quiet_step (first | (go_at_call 58; with_reducible exact CL.out _) | (go_at_call 60; with_reducible exact AD.out _)))
              refine wpQuiet_nil ?_
              rintro wq ⟨xq, rfl⟩
              have hq := over_below w5 xq
              generalize over w5 xq = wq at *
              have QA6 := QA5.next hq
              have QR6 := QR5.next hq
              have QV6 := QV5.next hq
              have B6 := B5.trans (hq.mono B5.size)
              clear t0 t1 t2 t3 q0 q1 q2 q3
              obtain ⟨q0, q1, q2, q3⟩ := id QV6
              go_wp2
              go_roundw
              case rel => exact ⟨k + 1, by omega, by go_num, QA6.other (by omega), QR6.other (by omega), by rw [HT.out]; exact QV6.store, (B6.setCell (by show w.heap.size ≤ w.heap.size + 2; omega) _).setCell (by show w.heap.size ≤ w.heap.size + 2; omega) _⟩
              case measure => simp [intOf]; omega
            · obtain ⟨t0, t1, t2, t3⟩ := id QV5
              obtain ⟨q0, q1, q2, q3⟩ := id QD5
              have CL := Lib.hid (fun u => calls_over (x := u) (CL (over w5 u)))
              have AD := Lib.hid (fun u => calls_over (x := u) (AD.out (over w5 u)))
              go_wp2_with fail
              refine wp_region_over_tail 7 (by kernel_rfl) (by kernel_rfl) ?_
              simp only [List.take_succ_cons, List.take_zero, List.drop_succ_cons, List.drop_zero]
              repeat (go_big_quiet_step (first | (go_at_call 58; with_reducible exact CL.out _) | (go_at_call 60; with_reducible exact AD.out _)))
              refine wpQuiet_nil ?_
              rintro wq ⟨xq, rfl⟩
              have hq := over_below w5 xq
              generalize over w5 xq = wq at *
              have QA6 := QA5.next hq
              have QR6 := QR5.next hq
              have QV6 := QV5.next hq
              have B6 := B5.trans (hq.mono B5.size)
              clear t0 t1 t2 t3 q0 q1 q2 q3
              obtain ⟨q0, q1, q2, q3⟩ := id QV6
              go_wp2
              go_roundw
              case rel => exact ⟨k + 1, by omega, by go_num, QA6.other (by omega), QR6.other (by omega), by rw [HT.out]; exact QV6.store, (B6.setCell (by show w.heap.size ≤ w.heap.size + 2; omega) _).setCell (by show w.heap.size ≤ w.heap.size + 2; omega) _⟩
              case measure => simp [intOf]; omega
    · obtain rfl : k = n := by omega
      rw [List.take_of_length_le (by omega)] at Q7
      generalize hS : apV x y r l = S at *
      obtain ⟨sx, sy⟩ := S
      simp only at Q7
      have HS := Lib.hid hS
      clear hS
      obtain ⟨q0, q1, q2, q3⟩ := id Q7
      obtain ⟨p0, p1, p2, p3⟩ := id Q6
      obtain ⟨y0, y1, _, _⟩ := id (BoxQ.store (a := sx) (b := sy) Q6)
      go_wp2
      exact bodyPost_ret (v := .agg #[.int .i64 sx, .int .i64 sy]) (by simp [results, Try.results32, go_sem, y0, y1]) rfl ⟨by rw [HS.out], (hbl.setCell (by show w.heap.size ≤ w.heap.size + 1; omega) _).setCell (by show w.heap.size ≤ w.heap.size + 1; omega) _⟩
end Go.Proofs.Ytjbnpgjndohjcaa
