/- What pushes away from others: the code's answer. -/
import Derived.Test.YtjbnpgjndohjcaaCohere
namespace Go.Proofs.Ytjbnpgjndohjcaa
set_option maxRecDepth 20000
set_option maxRecDepth 20000
open Go.RowKit

/-- What pushes away from one that is near. -/
def pushV (x y r p q : Int) : Int × Int :=
  if fsub x p = 0 ∧ fsub y q = 0 then clampV 65536 0 (fsub r (vlen (fsub x p) (fsub y q))) else clampV (fsub x p) (fsub y q) (fsub r (vlen (fsub x p) (fsub y q)))
def stepV (x y r : Int) (v z : Int × Int) : Int × Int := if vwithin x y z.1 z.2 r = true then (fadd v.1 (pushV x y r z.1 z.2).1, fadd v.2 (pushV x y r z.1 z.2).2) else v
/-- What pushes away from all that are near. -/
def apV (x y r : Int) (l : List (Int × Int)) : Int × Int := l.foldl (stepV x y r) (0, 0)
theorem apV_step {x y r : Int} {l : List (Int × Int)} {k : Nat} (h : k < l.length) : apV x y r (l.take (k + 1)) = stepV x y r (apV x y r (l.take k)) (l.getD k (0, 0)) := by
  unfold apV
  rw [List.take_succ_eq_append_getElem h, List.foldl_append]
  simp [List.getD, h]
theorem fold_range {x y r : Int} : ∀ (l : List (Int × Int)) (v : Int × Int), v.1 ≤ 9223372036854775807 ∧ v.2 ≤ 9223372036854775807 → (l.foldl (stepV x y r) v).1 ≤ 9223372036854775807 ∧ (l.foldl (stepV x y r) v).2 ≤ 9223372036854775807
  | [], _, h => h
  | z :: l, v, h => by
    refine fold_range l (stepV x y r v z) ?_
    unfold stepV
    split
    · exact ⟨(fadd_range _ _).2, (fadd_range _ _).2⟩
    · exact h
theorem apV_range (x y r : Int) (l : List (Int × Int)) : (apV x y r l).1 ≤ 9223372036854775807 ∧ (apV x y r l).2 ≤ 9223372036854775807 := fold_range l _ ⟨by decide, by decide⟩
theorem BoxQ.first {g : Nat} {a b c : Int} {w : World} (h : BoxQ g a b w) : BoxQ g c b (w.setCell ⟨g, 0, none⟩ (.int .i64 c)) := by
  obtain ⟨h0, h1, h2, h3⟩ := h
  refine ⟨World.cell?_setCell_same _ _ _ h0, ?_, fun j => by rw [World.frozen?_setCell]; exact h2 j, by simpa using h3⟩
  rw [World.cell?_setCell_other _ _ _ _ (by simp)]; exact h1
theorem BoxQ.apart {g h : Nat} {a b : Int} {c : Value} {w : World} (s : BoxQ g a b w) (hne : g ≠ h) : BoxQ g a b (w.setCell ⟨h, 0, none⟩ c) := by
  obtain ⟨h0, h1, h2, h3⟩ := s
  refine ⟨?_, ?_, fun j => by rw [World.frozen?_setCell]; exact h2 j, by simpa using h3⟩
  · rw [World.cell?_setCell_other _ _ _ _ (by simp <;> omega)]; exact h0
  · rw [World.cell?_setCell_other _ _ _ _ (by simp <;> omega)]; exact h1

set_option maxHeartbeats 1600000 in
theorem steer_from (x y r p q : Int) (w : World) (hx : x ≤ 9223372036854775807) (hy : y ≤ 9223372036854775807) (hp : p ≤ 9223372036854775807) (hq : q ≤ 9223372036854775807) (hr : r ≤ 9223372036854775807) (hw : vwithin x y p q r = true) :
    Calls Try.prog 61 #[.agg #[.int .i64 x, .int .i64 y], .int .i64 r, .agg #[.int .i64 p, .int .i64 q]] w fun e w' => e = .returned (.agg #[.int .i64 (pushV x y r p q).1, .int .i64 (pushV x y r p q).2]) ∧ Below w.heap.size w w' := by
  have C0 := fun W => vec_within x y p q r W hx hy hp hq hr
  rw [hw] at C0
  have C0 := Lib.hid C0
  have C1 := Lib.hid (fun W => vec_sub x y p q W hx hy hp hq)
  obtain ⟨a0, a1⟩ := fsub_range x p
  obtain ⟨b0, b1⟩ := fsub_range y q
  have C2 := Lib.hid (fun W => vec_len (fsub x p) (fsub y q) W a1 b1)
  obtain ⟨l0, l1⟩ := vlen_range a1 b1
  have C3 := Lib.hid (fun W => fix_sub r (vlen (fsub x p) (fsub y q)) W hr l1)
  obtain ⟨n0, n1⟩ := fsub_range r (vlen (fsub x p) (fsub y q))
  have HP : pushV x y r p q = if fsub x p = 0 ∧ fsub y q = 0 then clampV 65536 0 (fsub r (vlen (fsub x p) (fsub y q))) else clampV (fsub x p) (fsub y q) (fsub r (vlen (fsub x p) (fsub y q))) := rfl
  generalize pushV x y r p q = F at *
  clear hw
  generalize fsub r (vlen (fsub x p) (fsub y q)) = n at *
  generalize vlen (fsub x p) (fsub y q) = L at *
  generalize fsub x p = dx at *
  generalize fsub y q = dy at *
  have Qp := ((BoxQ.start w x y).next ((Below.refl _ _).alloc (Nat.le_refl _) (.cells #[.int .i64 p, .int .i64 q] 35))).next ((Below.refl _ _).alloc (Nat.le_refl _) (.cells #[.int .i64 0, .int .i64 0] 35))
  have Qq := (BoxQ.start (w.alloc (.cells #[.int .i64 x, .int .i64 y] 35)) p q).next ((Below.refl _ _).alloc (Nat.le_refl _) (.cells #[.int .i64 0, .int .i64 0] 35))
  have Q6 := BoxQ.start ((w.alloc (.cells #[.int .i64 x, .int .i64 y] 35)).alloc (.cells #[.int .i64 p, .int .i64 q] 35)) 0 0
  have B0 : Below w.heap.size w (((w.alloc (.cells #[.int .i64 x, .int .i64 y] 35)).alloc (.cells #[.int .i64 p, .int .i64 q] 35)).alloc (.cells #[.int .i64 0, .int .i64 0] 35)) := (((Below.refl _ _).alloc (Nat.le_refl _) _).alloc (by simp) _).alloc (by simp; omega) _
  rw [show (w.alloc (.cells #[.int .i64 x, .int .i64 y] 35)).heap.size = w.heap.size + 1 by simp] at Qq
  rw [show ((w.alloc (.cells #[.int .i64 x, .int .i64 y] 35)).alloc (.cells #[.int .i64 p, .int .i64 q] 35)).heap.size = w.heap.size + 2 by simp] at Q6
  have HP := Lib.hid HP
  go_enter Try.func61, Try.ntmps61
  go_wp2_with fail
  refine Calls.mono (C0.out _) ?_
  rintro e w1 ⟨rfl, hb1⟩
  have Qp1 := Qp.next hb1
  have Qq1 := Qq.next hb1
  have Q61 := Q6.next hb1
  have B1 := B0.trans (hb1.mono B0.size)
  clear Qp Qq Q6 B0 hb1 C0
  obtain ⟨p0, p1, p2, p3⟩ := id Qp1
  obtain ⟨q0, q1, q2, q3⟩ := id Qq1
  go_wp2_with fail
  refine Calls.mono (C1.out _) ?_
  rintro e w2 ⟨rfl, hb2⟩
  have Q62 := (Q61.next hb2).next ((Below.refl _ _).alloc (Nat.le_refl _) (.cells #[.int .i64 dx, .int .i64 dy] 35))
  have QD := BoxQ.start w2 dx dy
  have B2 := B1.trans (hb2.mono B1.size)
  have h62 := Nat.lt_of_lt_of_le Q61.2.2.2 hb2.size
  have B3 := B2.alloc B2.size (.cells #[.int .i64 dx, .int .i64 dy] 35)
  clear p0 p1 p2 p3 q0 q1 q2 q3 Qp1 Qq1 Q61 B1 hb2 C1
  obtain ⟨p0, p1, p2, p3⟩ := id QD
  have hws : w.heap.size ≤ w2.heap.size := B2.size
  go_wp2_with fail
  generalize hg : w2.heap.size = g at *
  generalize hX : w2.alloc (.cells #[.int .i64 dx, .int .i64 dy] 35) = X at *
  clear hg hX B2
  refine Calls.mono (C2.out _) ?_
  rintro e w3 ⟨rfl, hb3⟩
  have Q63 := Q62.next hb3
  have QD3 := QD.next hb3
  have B4 := B3.trans (hb3.mono B3.size)
  clear p0 p1 p2 p3 Q62 QD B3 hb3 C2
  obtain ⟨p0, p1, p2, p3⟩ := id QD3
  go_wp2_with fail
  refine Calls.mono (C3.out _) ?_
  rintro e w4 ⟨rfl, rfl⟩
  by_cases hd : dx = 0 ∧ dy = 0
  · obtain ⟨rfl, rfl⟩ := hd
    have HF : Hid (F = clampV 65536 0 n) := by show _ = _; rw [HP.out, if_pos ⟨rfl, rfl⟩]
    have C4 := Lib.hid (fun W => vec_clamp 65536 0 n W (by omega) (by omega) n1)
    generalize hF : clampV 65536 0 n = FF at *
    obtain ⟨r1, r2⟩ := FF
    simp only at C4
    have QD5 := QD3.first (c := 65536)
    have Q65 := Q63.apart (c := .int .i64 65536) (show w.heap.size + 2 ≠ g by omega)
    have B5 := B4.setCell (p := ⟨g, 0, none⟩) (by show w.heap.size ≤ g; omega) (.int .i64 65536)
    obtain ⟨s0, s1, s2, s3⟩ := id QD5
    go_wp2_with fail
    refine Calls.mono (C4.out _) ?_
    rintro e w5 ⟨rfl, hb5⟩
    have Q66 := Q65.next hb5
    have B6 := B5.trans (hb5.mono B5.size)
    clear p0 p1 p2 p3 s0 s1 s2 s3
    obtain ⟨p0, p1, p2, p3⟩ := id Q66
    obtain ⟨y0, y1, _, _⟩ := id (BoxQ.store (a := r1) (b := r2) Q66)
    go_wp2
    exact bodyPost_ret (v := .agg #[.int .i64 r1, .int .i64 r2]) (by simp [results, Try.results61, go_sem, y0, y1]) rfl ⟨by rw [HF.out], (B6.setCell (by show w.heap.size ≤ w.heap.size + 2; omega) _).setCell (by show w.heap.size ≤ w.heap.size + 2; omega) _⟩
  · have HF : Hid (F = clampV dx dy n) := by show _ = _; rw [HP.out, if_neg hd]
    have C4 := Lib.hid (fun W => vec_clamp dx dy n W a1 b1 n1)
    generalize hF : clampV dx dy n = FF at *
    obtain ⟨r1, r2⟩ := FF
    simp only at C4
    rcases (show ¬ dx = 0 ∨ (dx = 0 ∧ ¬ dy = 0) by omega) with f1 | ⟨rfl, f1⟩
    all_goals
      go_wp2_with fail
      refine Calls.mono (C4.out _) ?_
      rintro e w5 ⟨rfl, hb5⟩
      have Q66 := Q63.next hb5
      have B6 := B4.trans (hb5.mono B4.size)
      clear p0 p1 p2 p3
      obtain ⟨p0, p1, p2, p3⟩ := id Q66
      obtain ⟨y0, y1, _, _⟩ := id (BoxQ.store (a := r1) (b := r2) Q66)
      go_wp2
      exact bodyPost_ret (v := .agg #[.int .i64 r1, .int .i64 r2]) (by simp [results, Try.results61, go_sem, y0, y1]) rfl ⟨by rw [HF.out], (B6.setCell (by show w.heap.size ≤ w.heap.size + 2; omega) _).setCell (by show w.heap.size ≤ w.heap.size + 2; omega) _⟩

set_option maxHeartbeats 1600000 in
theorem steer_apart (x y r : Int) (A : Option Addr) (n c : Nat) (l : List (Int × Int)) (w : World) (hv : VecsL w A n l) (hx : x ≤ 9223372036854775807) (hy : y ≤ 9223372036854775807) (hr : r ≤ 9223372036854775807) (hn : n ≤ 1000) :
    Calls Try.prog 31 #[.agg #[.int .i64 x, .int .i64 y], .int .i64 r, .slice A n c] w fun e w' => e = .returned (.agg #[.int .i64 (apV x y r l).1, .int .i64 (apV x y r l).2]) ∧ Below w.heap.size w w' := by
  have hll := hv.1
  have Qp := (BoxQ.start w x y).next ((Below.refl _ _).alloc (Nat.le_refl _) (.cells #[.int .i64 0, .int .i64 0] 35))
  have Q6 := BoxQ.start (w.alloc (.cells #[.int .i64 x, .int .i64 y] 35)) 0 0
  have hbl : Below w.heap.size w ((w.alloc (.cells #[.int .i64 x, .int .i64 y] 35)).alloc (.cells #[.int .i64 0, .int .i64 0] 35)) := two_below _ _ _
  rw [show (w.alloc (.cells #[.int .i64 x, .int .i64 y] 35)).heap.size = w.heap.size + 1 by simp] at Q6
  go_enter Try.func31, Try.ntmps31
  go_wp2_with fail
  generalize (w.alloc (.cells #[.int .i64 x, .int .i64 y] 35)).alloc (.cells #[.int .i64 0, .int .i64 0] 35) = X at *
  go_loopw [11] (fun i wr => ∃ (k : Nat), k ≤ n ∧ i = .int .i64 k ∧ BoxQ w.heap.size x y wr ∧ BoxQ (w.heap.size + 1) (apV x y r (l.take k)).1 (apV x y r (l.take k)).2 wr ∧ Below w.heap.size w wr) (fun i _ => n - (intOf i).toNat)
  case atStart => exact ⟨0, Nat.zero_le _, rfl, Qp, Q6, hbl⟩
  case round =>
    clear Qp Q6 hbl
    obtain ⟨k, hk, rfl, Qp, Q6, hbl⟩ := hrel
    by_cases hlt : k < n
    · obtain ⟨b, o, rfl, hb, hc1, hc2, ⟨z0, z1⟩, ⟨z2, z3⟩⟩ := hv.2 k hlt
      have hc1 := (hbl.cell (p := ⟨b, o + k * 2, none⟩) hb).trans hc1
      have hc2 := (hbl.cell (p := ⟨b, o + k * 2 + 1, none⟩) hb).trans hc2
      have HS := apV_step (x := x) (y := y) (r := r) (l := l) (k := k) (by omega)
      obtain ⟨s1, s3⟩ := apV_range x y r (l.take k)
      unfold stepV at HS
      have W := fun W' => vec_within x y (l.getD k (0, 0)).1 (l.getD k (0, 0)).2 r W' hx hy z1 z3 hr
      have F := fun (hw : vwithin x y (l.getD k (0, 0)).1 (l.getD k (0, 0)).2 r = true) (W' : World) => steer_from x y r (l.getD k (0, 0)).1 (l.getD k (0, 0)).2 W' hx hy z1 z3 hr hw
      have fr : (pushV x y r (l.getD k (0, 0)).1 (l.getD k (0, 0)).2).1 ≤ 9223372036854775807 ∧ (pushV x y r (l.getD k (0, 0)).1 (l.getD k (0, 0)).2).2 ≤ 9223372036854775807 := by
        unfold pushV
        split
        · exact clampV_range (by omega) (by omega) (fsub_range _ _).2
        · exact clampV_range (fsub_range _ _).2 (fsub_range _ _).2 (fsub_range _ _).2
      generalize vwithin x y (l.getD k (0, 0)).1 (l.getD k (0, 0)).2 r = B at *
      generalize (pushV x y r (l.getD k (0, 0)).1 (l.getD k (0, 0)).2).1 = fx at *
      generalize (pushV x y r (l.getD k (0, 0)).1 (l.getD k (0, 0)).2).2 = fy at *
      generalize (l.getD k (0, 0)).1 = zx at *
      generalize (l.getD k (0, 0)).2 = zy at *
      generalize apV x y r (l.take k) = S at *
      obtain ⟨sx, sy⟩ := S
      simp only at s1 s3 HS Q6
      have W := Lib.hid W
      have ki : (k : Int) < (n : Int) := by omega
      have ki0 : (0 : Int) ≤ (k : Int) := by omega
      have QA := Qp.next ((Below.refl _ _).alloc (Nat.le_refl _) (.cells #[.int .i64 zx, .int .i64 zy] 35))
      have QB := Q6.next ((Below.refl _ _).alloc (Nat.le_refl _) (.cells #[.int .i64 zx, .int .i64 zy] 35))
      have QD := BoxQ.start wr zx zy
      have BA := hbl.alloc hbl.size (.cells #[.int .i64 zx, .int .i64 zy] 35)
      have hbr : b < wr.heap.size := Nat.lt_of_lt_of_le hb hbl.size
      obtain ⟨p0, p1, p2, p3⟩ := id QA
      obtain ⟨q0, q1, q2, q3⟩ := id QD
      cases B with
      | false =>
        have HS : Hid (apV x y r (l.take (k + 1)) = (sx, sy)) := by show _ = _; rw [HS]; rfl
        clear F
        go_wp2_with fail
        refine Calls.mono (W.out _) ?_
        rintro e w2 ⟨rfl, hb2⟩
        go_wp2
        go_roundw
        case rel => exact ⟨k + 1, by omega, by go_num, QA.next hb2, by rw [HS.out]; exact QB.next hb2, BA.trans (hb2.mono BA.size)⟩
        case measure => simp [intOf]; omega
      | true =>
        have HT : Hid (apV x y r (l.take (k + 1)) = (fadd sx fx, fadd sy fy)) := by show _ = _; rw [HS, if_pos rfl]
        clear HS
        have F2 := Lib.hid (F rfl)
        clear F
        have AD := Lib.hid (fun W' => vec_add sx sy fx fy W' s1 s3 fr.1 fr.2)
        generalize fadd sx fx = tx at *
        generalize fadd sy fy = ty at *
        go_wp2_with fail
        refine Calls.mono (W.out _) ?_
        rintro e w2 ⟨rfl, hb2⟩
        have QA2 := QA.next hb2
        have QB2 := QB.next hb2
        have QD2 := QD.next hb2
        have BC := BA.trans (hb2.mono BA.size)
        clear p0 p1 p2 p3 q0 q1 q2 q3 QA QB QD BA hb2 W hc1 hc2
        obtain ⟨p0, p1, p2, p3⟩ := id QA2
        obtain ⟨q0, q1, q2, q3⟩ := id QD2
        obtain ⟨t0, t1, t2, t3⟩ := id QB2
        have F := Lib.hid (fun u => calls_over (x := u) (F2.out (over w2 u)))
        have AD := Lib.hid (fun u => calls_over (x := u) (AD.out (over w2 u)))
        generalize wr.heap.size = g8 at *
        go_wp2_with fail
        refine wp_region_over_tail 6 (by kernel_rfl) (by kernel_rfl) ?_
        simp only [List.take_succ_cons, List.take_zero, List.drop_succ_cons, List.drop_zero]
        repeat (go_big_quiet_step (first | (go_at_call 61; with_reducible exact F.out _) | (go_at_call 59; with_reducible exact AD.out _)))
        refine wpQuiet_nil ?_
        rintro wq ⟨xq, rfl⟩
        have hq := over_below w2 xq
        generalize over w2 xq = wq at *
        have QA3 := QA2.next hq
        have QB3 := QB2.next hq
        have BD := BC.trans (hq.mono BC.size)
        clear p0 p1 p2 p3 q0 q1 q2 q3 t0 t1 t2 t3
        obtain ⟨q0, q1, q2, q3⟩ := id QB3
        go_wp2
        go_roundw
        case rel => exact ⟨k + 1, by omega, by go_num, QA3.other (by omega), by rw [HT.out]; exact QB3.store, (BD.setCell (by show w.heap.size ≤ w.heap.size + 1; omega) _).setCell (by show w.heap.size ≤ w.heap.size + 1; omega) _⟩
        case measure => simp [intOf]; omega
    · obtain rfl : k = n := by omega
      rw [List.take_of_length_le (by omega)] at Q6
      generalize hS : apV x y r l = S at *
      obtain ⟨sx, sy⟩ := S
      simp only at Q6
      have HS := Lib.hid hS
      clear hS
      obtain ⟨q0, q1, q2, q3⟩ := id Q6
      obtain ⟨y0, y1, _, _⟩ := id (BoxQ.store (a := sx) (b := sy) Q6)
      go_wp2
      exact bodyPost_ret (v := .agg #[.int .i64 sx, .int .i64 sy]) (by simp [results, Try.results31, go_sem, y0, y1]) rfl ⟨by rw [HS.out], (hbl.setCell (by show w.heap.size ≤ w.heap.size + 1; omega) _).setCell (by show w.heap.size ≤ w.heap.size + 1; omega) _⟩
end Go.Proofs.Ytjbnpgjndohjcaa
