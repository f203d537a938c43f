/- The argument of the laws of layer 7, opened: grounds, bytes; their small functions. -/
import Derived.Test.YtdcilabbjejklaaOpen
import Derived.Test.YtdcilabbjejklaaMapParse
namespace Go.Proofs.Ytdcilabbjejklaa
set_option maxRecDepth 20000
open Go.RowKit Go.WideShapes Go.ChangeShapes Go.ChangeAt

set_option maxHeartbeats 800000 in
set_option maxRecDepth 20000 in
theorem copy_ground (W H : Int) (A : Option Addr) (n c B : Nat) (l : List Int) (w : World) (hr : Reads w B 1 A n (nums .u8 l)) (hB : B ≤ w.heap.size) (hn : n ≤ 1048576) :
    Calls Try.prog 40 #[.agg #[.int .i64 W, .int .i64 H, .slice A n c]] w fun e w' => ∃ A' c', e = .returned (.agg #[.int .i64 W, .int .i64 H, .slice A' n c']) ∧ w'.ownsRow w.heap.size 5 1 (.slice A' n c') n (nums .u8 l) ∧ Below w.heap.size w w' := by
  have hY : Blk (((w.alloc (.cells #[.int .i64 W, .int .i64 H, .slice A n c] 39)).alloc (.cells #[.int .i64 0, .int .i64 0, .slice none 0 0] 39)).alloc (.cells #[.int .i64 W, .int .i64 H, .slice A n c] 39)) (w.heap.size + 1) #[.int .i64 0, .int .i64 0, .slice none 0 0] 39 := by
    have := (Blk.new (w.alloc (.cells #[.int .i64 W, .int .i64 H, .slice A n c] 39)) #[.int .i64 0, .int .i64 0, .slice none 0 0] 39).alloc (.cells #[.int .i64 W, .int .i64 H, .slice A n c] 39)
    simpa using this
  have hZ : Blk (((w.alloc (.cells #[.int .i64 W, .int .i64 H, .slice A n c] 39)).alloc (.cells #[.int .i64 0, .int .i64 0, .slice none 0 0] 39)).alloc (.cells #[.int .i64 W, .int .i64 H, .slice A n c] 39)) (w.heap.size + 1 + 1) #[.int .i64 W, .int .i64 H, .slice A n c] 39 := by
    have := Blk.new ((w.alloc (.cells #[.int .i64 W, .int .i64 H, .slice A n c] 39)).alloc (.cells #[.int .i64 0, .int .i64 0, .slice none 0 0] 39)) #[.int .i64 W, .int .i64 H, .slice A n c] 39
    simpa using this
  have hb0 : Below w.heap.size w (((w.alloc (.cells #[.int .i64 W, .int .i64 H, .slice A n c] 39)).alloc (.cells #[.int .i64 0, .int .i64 0, .slice none 0 0] 39)).alloc (.cells #[.int .i64 W, .int .i64 H, .slice A n c] 39)) := (((Below.refl _ _).alloc (Nat.le_refl _) _).alloc (by simp) _).alloc (by simp; omega) _
  have hs0 : w.heap.size ≤ (((w.alloc (.cells #[.int .i64 W, .int .i64 H, .slice A n c] 39)).alloc (.cells #[.int .i64 0, .int .i64 0, .slice none 0 0] 39)).alloc (.cells #[.int .i64 W, .int .i64 H, .slice A n c] 39)).heap.size := hb0.size
  have hr3 := (hr.more hB).below hb0
  have hz0 : w.heap.size + 1 + 1 < (((w.alloc (.cells #[.int .i64 W, .int .i64 H, .slice A n c] 39)).alloc (.cells #[.int .i64 0, .int .i64 0, .slice none 0 0] 39)).alloc (.cells #[.int .i64 W, .int .i64 H, .slice A n c] 39)).heap.size := hZ.lt
  go_enter Try.func40, Try.ntmps40
  go_wp2_with fail
  generalize ((w.alloc (.cells #[.int .i64 W, .int .i64 H, .slice A n c] 39)).alloc (.cells #[.int .i64 0, .int .i64 0, .slice none 0 0] 39)).alloc (.cells #[.int .i64 W, .int .i64 H, .slice A n c] 39) = w3 at *
  have K := Lib.hid (copy_bytes A n c w.heap.size l w3 hr3 hs0 hn)
  refine Calls.mono K.out ?_
  rintro e w4 ⟨A4, c4, rfl, hO, hb4⟩
  have hY4 := hY.below hb4 hY.lt
  have hZ4 := hZ.below hb4 hZ.lt
  have hb5 := hb0.trans (hb4.mono hs0)
  clear K hY hZ hb0 hr3 hb4 hr hB
  generalize hC : w.heap.size = C at *
  replace hC := Lib.hid hC
  have z0 := hZ4.cell (i := 0) rfl
  have z1 := hZ4.cell (i := 1) rfl
  have z2 := hZ4.cell (i := 2) rfl
  have f2 := hZ4.free 2
  have hZ5 := hZ4.set 2 (.slice A4 n c4)
  have hY5 := hY4.other (a := ⟨C + 1 + 1, 2, none⟩) (show C + 1 ≠ C + 1 + 1 by omega) (.slice A4 n c4)
  have z3 := hZ5.cell (i := 0) rfl
  have z4 := hZ5.cell (i := 1) rfl
  have z5 := hZ5.cell (i := 2) rfl
  have y0 := hY5.cell (i := 0) rfl
  have y1 := hY5.cell (i := 1) rfl
  have y2 := hY5.cell (i := 2) rfl
  have g0 := hY5.free 0
  have g1 := hY5.free 1
  have g2 := hY5.free 2
  have hY6 := Lib.hid (((hY5.set 0 (.int .i64 W)).set 1 (.int .i64 H)).set 2 (.slice A4 n c4))
  have hb6 := Lib.hid ((((hb5.setCell (p := ⟨C + 1 + 1, 2, none⟩) (show C ≤ C + 1 + 1 by omega) (.slice A4 n c4)).setCell (p := ⟨C + 1, 0, none⟩) (show C ≤ C + 1 by omega) (.int .i64 W)).setCell (p := ⟨C + 1, 1, none⟩) (show C ≤ C + 1 by omega) (.int .i64 H)).setCell (p := ⟨C + 1, 2, none⟩) (show C ≤ C + 1 by omega) (.slice A4 n c4))
  have hO6 := Lib.hid (own_set (o := 2) (own_set (o := 1) (own_set (o := 0) (own_set (o := 2) hO hz0 (.slice A4 n c4)) (show C + 1 < w3.heap.size by omega) (.int .i64 W)) (show C + 1 < w3.heap.size by omega) (.int .i64 H)) (show C + 1 < w3.heap.size by omega) (.slice A4 n c4))
  clear hZ4 hY4 hZ5 hY5 hb5 hO
  go_wp2_with fail
  clear z0 z1 z2 f2 z3 z4 z5 y0 y1 y2 g0 g1 g2
  generalize (((w4.setCell ⟨C + 1 + 1, 2, none⟩ (.slice A4 n c4)).setCell ⟨C + 1, 0, none⟩ (.int .i64 W)).setCell ⟨C + 1, 1, none⟩ (.int .i64 H)).setCell ⟨C + 1, 2, none⟩ (.slice A4 n c4) = w5 at *
  have r0 := hY6.out.cell (i := 0) rfl
  have r1 := hY6.out.cell (i := 1) rfl
  have r2 := hY6.out.cell (i := 2) rfl
  refine bodyPost_ret (v := .agg #[.int .i64 W, .int .i64 H, .slice A4 n c4]) (by simp [results, Try.results40, go_sem, r0, r1, r2]) rfl ?_
  exact ⟨A4, c4, rfl, own_mono hO6.out (by rw [hC.out]; exact hs0), by rw [hC.out]; exact hb6.out⟩

/-- Are two grounds the same? -/
def eqG (W1 H1 : Int) (l1 : List Int) (W2 H2 : Int) (l2 : List Int) : Bool := W1 == W2 && (H1 == H2 && l1 == l2)
theorem eqG_self (W H : Int) (l : List Int) : eqG W H l W H l = true := by simp [eqG]

set_option maxHeartbeats 800000 in
set_option maxRecDepth 20000 in
theorem eq_ground (W1 H1 W2 H2 : Int) (A1 A2 : Option Addr) (n1 c1 n2 c2 B1 B2 : Nat) (l1 l2 : List Int) (w : World) (hr1 : Reads w B1 1 A1 n1 (nums .u8 l1)) (hr2 : Reads w B2 1 A2 n2 (nums .u8 l2)) (hB1 : B1 ≤ w.heap.size) (hB2 : B2 ≤ w.heap.size) (hn1 : n1 ≤ 4611686018427387904) (hn2 : n2 ≤ 4611686018427387904) :
    Calls Try.prog 45 #[.agg #[.int .i64 W1, .int .i64 H1, .slice A1 n1 c1], .agg #[.int .i64 W2, .int .i64 H2, .slice A2 n2 c2]] w fun e w' => e = .returned (.bool (eqG W1 H1 l1 W2 H2 l2)) ∧ Below w.heap.size w w' := by
  have HB : Hid (∀ o1 o2, Below w.heap.size w ((w.alloc o1).alloc o2)) := fun o1 o2 => ((Below.refl _ _).alloc (Nat.le_refl _) o1).alloc (by simp) o2
  by_cases hW : W1 = W2
  · subst hW
    have d1 : (W1 == W1) = true := by simp
    by_cases hH : H1 = H2
    · subst hH
      have d2 : (H1 == H1) = true := by simp
      have HE : Hid (eqG W1 H1 l1 W1 H1 l2 = (l1 == l2)) := by show _ = _; simp [eqG]
      have K := fun o1 o2 => eq_bytes_b A1 A2 n1 c1 n2 c2 B1 B2 l1 l2 ((w.alloc o1).alloc o2) (l1 == l2) ((hr1.alloc hB1 o1).alloc (by simp; omega) o2) ((hr2.alloc hB2 o1).alloc (by simp; omega) o2) hn1 hn2 rfl
      generalize (l1 == l2) = b at *
      replace K := Lib.hid K
      clear hr1 hr2
      go_enter Try.func45, Try.ntmps45
      go_wp2_with fail
      refine Calls.mono (K.out _ _) ?_
      rintro e w1 ⟨rfl, hb1⟩
      go_wp2_with fail
      go_ret
      exact ⟨by rw [HE.out]; rfl, (HB.out _ _).trans (hb1.mono (HB.out _ _).size)⟩
    · have d2 : (H1 == H2) = false := by simpa using hH
      have HE : Hid (eqG W1 H1 l1 W1 H2 l2 = false) := by show _ = _; simp [eqG, hH]
      clear hr1 hr2
      go_enter Try.func45, Try.ntmps45
      go_wp2_with fail
      go_ret
      exact ⟨by rw [HE.out]; rfl, HB.out _ _⟩
  · have d1 : (W1 == W2) = false := by simpa using hW
    have HE : Hid (eqG W1 H1 l1 W2 H2 l2 = false) := by show _ = _; simp [eqG, hW]
    clear hr1 hr2
    go_enter Try.func45, Try.ntmps45
    go_wp2_with fail
    go_ret
    exact ⟨by rw [HE.out]; rfl, HB.out _ _⟩

theorem open_nums0 {H : Type} {enc : TypeId × Value → H} {P : Program} {w : World} {t e : TypeId} {k : IntKind} {fuel : Nat} {cs : List Value} {x : DataW H × List MemPlace} (ht : P.underlying t = some (.slice e)) (he : P.underlying e = some (.int k)) (h1 : P.cellsOf e = 1)
    (h : DataW.trod enc P w 0 (fun _ => true) true fuel t cs = some x) :
    ∃ (A : Option Addr) (n c : Nat) (l : List Int), cs = [.slice A n c] ∧ n ≤ c ∧ c ≤ maxLen ∧ Reads w w.heap.size 1 A n (nums k l) ∧ (∀ z ∈ l, (Lit.int k z).wf = true) ∧ (A = none → c = 0) := by
  obtain ⟨A, n, c, l, h2, h3, h4, h5, h6⟩ := open_nums ht he h1 h
  refine ⟨A, n, c, l, h2, h3, h4, h5, h6, fun hA => ?_⟩
  rcases open_ints ht he h1 h with ⟨hcs, _⟩ | ⟨a, len, cap, zs, hcs, _⟩
  · rw [h2] at hcs
    simp only [List.cons.injEq, and_true, Value.slice.injEq] at hcs
    exact hcs.2.2
  · rw [h2, hA] at hcs
    simp at hcs

/-- A slice of thronglaw7.Ask that came in. -/
def Asks7 (w : World) (A : Option Addr) (n : Nat) : Prop := ∀ i, i < n → ∃ (b o : Nat) (W H : Int) (A1 : Option Addr) (m1 c1 : Nat) (l1 : List Int) (A2 : Option Addr) (m2 c2 : Nat) (l2 : List Int),
  A = some ⟨b, o, none⟩ ∧ b < w.heap.size ∧ w.cell? ⟨b, o + i * 4, none⟩ = some (.int .i64 W) ∧ w.cell? ⟨b, o + i * 4 + 1, none⟩ = some (.int .i64 H) ∧ w.cell? ⟨b, o + i * 4 + 2, none⟩ = some (.slice A1 m1 c1) ∧ w.cell? ⟨b, o + i * 4 + 3, none⟩ = some (.slice A2 m2 c2) ∧
  (-9223372036854775808 ≤ W ∧ W ≤ 9223372036854775807) ∧ (-9223372036854775808 ≤ H ∧ H ≤ 9223372036854775807) ∧
  Reads w w.heap.size 1 A1 m1 (nums .u8 l1) ∧ IsBytes l1 ∧ m1 ≤ c1 ∧ (c1 : Int) ≤ 9223372036854775807 ∧ Reads w w.heap.size 1 A2 m2 (nums .u8 l2) ∧ IsBytes l2 ∧ m2 ≤ c2 ∧ (c2 : Int) ≤ 9223372036854775807
theorem Asks7.below {w w' : World} {A : Option Addr} {n : Nat} (h : Asks7 w A n) (hb : Below w.heap.size w w') : Asks7 w' A n := fun i hi => by
  obtain ⟨b, o, W, H, A1, m1, c1, l1, A2, m2, c2, l2, h1, h2, k0, k1, k2, k3, hW, hH, h3, h4, h5, h6, h7, h8, h9, h10⟩ := h i hi
  exact ⟨b, o, W, H, A1, m1, c1, l1, A2, m2, c2, l2, h1, Nat.lt_of_lt_of_le h2 hb.size, (hb.cell h2).trans k0, (hb.cell h2).trans k1, (hb.cell h2).trans k2, (hb.cell h2).trans k3, hW, hH, (h3.below hb).more hb.size, h4, h5, h6, (h7.below hb).more hb.size, h8, h9, h10⟩
set_option maxHeartbeats 800000 in
theorem open_asks7 {H : Type} {enc : TypeId × Value → H} {w : World} {base : Nat} {v : Value} {d : DataW H} {p : List MemPlace} (hv : Value.okWide Try.prog w .any base 63 v)
    (ht : DataW.Trod enc Try.prog w 0 (fun _ => true) true 63 v d p) : ∃ A n c, v = .slice A n c ∧ n ≤ c ∧ c ≤ maxLen ∧ Asks7 w A n := by
  obtain ⟨A, n, c, rfl⟩ := okWide_slice Try.underlying63 hv
  obtain ⟨fuel, hf⟩ := ht
  obtain ⟨A1, n1, c1, he, hl, hm, hi⟩ := open_rows Try.underlying63 hf
  simp [Value.cells] at he
  obtain ⟨rfl, rfl, rfl⟩ := he
  refine ⟨A, n, c, rfl, hl, hm, fun i hlt => ?_⟩
  have hC : Try.prog.cellsOf 66 = 4 := by kernel_rfl
  have hF : Leaf Try.prog 66 0 39 := Leaf.field Try.underlying66 0 _ rfl (of_decide_eq_true (by kernel_rfl))
  obtain ⟨b0, o0, u0, x0, y0, e0, hb, hc0, ht0⟩ := hi i hlt 0 3 (Leaf.trans hF (Leaf.field Try.underlying39 0 _ rfl (of_decide_eq_true (by kernel_rfl))) rfl) (by kernel_rfl)
  obtain ⟨b1, o1, u1, x1, y1, e1, _, hc1, ht1⟩ := hi i hlt 1 3 (Leaf.trans hF (Leaf.field Try.underlying39 1 _ rfl (of_decide_eq_true (by kernel_rfl))) rfl) (by kernel_rfl)
  obtain ⟨b2, o2, u2, x2, y2, e2, _, hc2, ht2⟩ := hi i hlt 2 37 (Leaf.trans hF (Leaf.field Try.underlying39 2 _ rfl (of_decide_eq_true (by kernel_rfl))) rfl) (by kernel_rfl)
  obtain ⟨b3, o3, u3, x3, y3, e3, _, hc3, ht3⟩ := hi i hlt 3 37 (Leaf.field Try.underlying66 1 _ rfl (of_decide_eq_true (by kernel_rfl))) (by kernel_rfl)
  subst e0
  simp only [Option.some.injEq, Addr.mk.injEq, and_true] at e1 e2 e3
  obtain ⟨rfl, rfl⟩ := e1
  obtain ⟨rfl, rfl⟩ := e2
  obtain ⟨rfl, rfl⟩ := e3
  rw [hC] at hc0 hc1 hc2 hc3
  obtain ⟨z0, g0, w0⟩ := open_num Try.underlying3 ht0
  obtain ⟨z1, g1, w1⟩ := open_num Try.underlying3 ht1
  obtain ⟨A2, m2, c2, l2, g2, hl2, hm2, hr2, hw2, _⟩ := open_nums0 Try.underlying37 Try.underlying5 (by kernel_rfl) ht2
  obtain ⟨A3, m3, c3, l3, g3, hl3, hm3, hr3, hw3, _⟩ := open_nums0 Try.underlying37 Try.underlying5 (by kernel_rfl) ht3
  simp only [List.cons.injEq, and_true] at g0 g1 g2 g3
  subst g0; subst g1; subst g2; subst g3
  exact ⟨_, _, z0, z1, A2, m2, c2, l2, A3, m3, c3, l3, rfl, hb, hc0, by rw [Nat.add_assoc]; exact hc1, by rw [Nat.add_assoc]; exact hc2, by rw [Nat.add_assoc]; exact hc3, i64_of_wf w0, i64_of_wf w1, hr2, bytes_of_wf hw2, hl2, by unfold maxLen at hm2; omega, hr3, bytes_of_wf hw3, hl3, by unfold maxLen at hm3; omega⟩

theorem heavy7_no (W H : Int) (A1 A2 : Option Addr) (m1 c1 m2 c2 : Nat) (w : World) (h1 : m1 ≤ 3000) (h2 : m2 ≤ 5000) :
    Calls Try.prog 39 #[.agg #[.int .i64 W, .int .i64 H, .slice A1 m1 c1, .slice A2 m2 c2]] w fun e w' => e = .returned (.bool false) ∧ Below w.heap.size w w' := by
  have HB : Hid (∀ o, Below w.heap.size w (w.alloc o)) := fun o => (Below.refl _ _).alloc (Nat.le_refl _) o
  have d1 : decide ((3000 : Int) < (m1 : Int)) = false := by simp; omega
  have d2 : decide ((5000 : Int) < (m2 : Int)) = false := by simp; omega
  go_enter Try.func39, Try.ntmps39
  go_wp2_with fail
  go_ret
  exact ⟨rfl, HB.out _⟩
theorem heavy7_yes (W H : Int) (A1 A2 : Option Addr) (m1 c1 m2 c2 : Nat) (w : World) (h : 3000 < m1 ∨ 5000 < m2) :
    Calls Try.prog 39 #[.agg #[.int .i64 W, .int .i64 H, .slice A1 m1 c1, .slice A2 m2 c2]] w fun e w' => e = .returned (.bool true) ∧ Below w.heap.size w w' := by
  have HB : Hid (∀ o, Below w.heap.size w (w.alloc o)) := fun o => (Below.refl _ _).alloc (Nat.le_refl _) o
  by_cases h1 : m1 ≤ 3000
  · have h2 : 5000 < m2 := by omega
    have d1 : decide ((3000 : Int) < (m1 : Int)) = false := by simp; omega
    have d2 : decide ((5000 : Int) < (m2 : Int)) = true := by simp; omega
    go_enter Try.func39, Try.ntmps39
    go_wp2_with fail
    go_ret
    exact ⟨rfl, HB.out _⟩
  · have d1 : decide ((3000 : Int) < (m1 : Int)) = true := by simp; omega
    go_enter Try.func39, Try.ntmps39
    go_wp2_with fail
    go_ret
    exact ⟨rfl, HB.out _⟩
theorem num7 (x : Int) (w : World) : Calls Try.prog 42 #[.int .i64 x] w fun e w' => e = .returned (.int .i64 x) ∧ w = w' := by
  go_enter Try.func42, Try.ntmps42
  go_wp2_with fail
  go_ret
  exact ⟨rfl, rfl⟩

theorem ok_one : okG 1 1 [2] := ⟨by omega, by omega, rfl, fun x hx => by simp at hx; omega⟩
theorem enc_one_len : (encG 1 1 [2]).length = 13 := by simp [encG, headG, eight_len, putI, put_small]
set_option maxHeartbeats 800000 in
set_option maxRecDepth 20000 in
theorem wakes7 (w : World) : Calls Try.prog 46 #[] w fun e w' => e = .returned (.bool true) ∧ Below w.heap.size w w' := by
  have hr : Reads (w.alloc (.cells #[.int .u8 2] 5)) (w.heap.size + 1) 1 (some ⟨w.heap.size, 0, none⟩) 1 (nums .u8 [2]) := reads_new w [.int .u8 2] 5 (0, 0) 1 rfl
  have C := map_bytes 1 1 (some ⟨w.heap.size, 0, none⟩) 1 1 (w.heap.size + 1) [2] (w.alloc (.cells #[.int .u8 2] 5)) hr (by simp) (fun x hx => by simp at hx; omega) (isG_of ok_one)
  have hbz := enc_bytes 1 1 (ts := [2]) (fun x hx => by simp at hx; omega)
  have hp := parse_encG ok_one
  have hl := enc_one_len
  have hb0 : Below w.heap.size w (w.alloc (.cells #[.int .u8 2] 5)) := (Below.refl _ _).alloc (Nat.le_refl _) _
  unfold Gives2 at C
  rw [hl] at C
  generalize encG 1 1 [2] = z at *
  replace C := Lib.hid C
  replace hl := Lib.hid hl
  replace hp := Lib.hid hp
  clear hr
  go_enter Try.func46, Try.ntmps46
  go_wp2_with fail
  refine Calls.mono C.out ?_
  rintro e w1 ⟨A, c, rfl, hown, hb⟩
  have hb1 := hb0.trans (hb.mono (by simp))
  have hcc := own_cap hown
  have hR := Reads.of_own hown
  have K := map_parse A 13 c _ z w1 ⟨hR, hbz, hcc.1, by have := hcc.2; omega, by omega, by omega⟩ (Nat.le_refl _)
  unfold GivesG at K
  rw [hp.out] at K
  replace K := Lib.hid K
  replace hb1 := Lib.hid hb1
  clear C hb hb0 hown hR hcc
  go_wp2_with fail
  refine Calls.mono K.out ?_
  rintro e w2 ⟨A2, c2, rfl, hown2, hb2⟩
  have HF : Hid (∀ o, Below w.heap.size w (w2.alloc o)) := fun o => (hb1.out.trans (hb2.mono hb1.out.size)).alloc (Nat.le_trans hb1.out.size hb2.size) o
  clear K hb2 hown2
  go_wp2_with (first | (go_at_call 42; refine Calls.mono (num7 _ _) ?_; rintro e w3 ⟨rfl, rfl⟩))
  go_ret
  exact ⟨rfl, HF.out _⟩
end Go.Proofs.Ytdcilabbjejklaa
