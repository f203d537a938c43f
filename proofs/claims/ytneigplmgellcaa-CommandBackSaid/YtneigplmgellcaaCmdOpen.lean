/- The argument of the laws of layer 22, opened: commands, bytes; their small functions. -/
import Derived.Test.YtneigplmgellcaaOpen
import Derived.Test.YtneigplmgellcaaCmdMay
import Derived.Test.YtneigplmgellcaaRefParse
namespace Go.Proofs.Ytneigplmgellcaa
set_option maxRecDepth 20000
open Go.RowKit Go.WideShapes Go.ChangeShapes Go.ChangeAt

theorem open_nums0 {H : Type} {enc : TypeId × Value → H} {P : Program} {w : World} {t e : TypeId} {k : IntKind} {fuel : Nat} {cs : List Value} {x : DataW H × List MemPlace} (ht : P.underlying t = some (.slice e)) (he : P.underlying e = some (.int k)) (h1 : P.cellsOf e = 1)
    (h : DataW.trod enc P w 0 (fun _ => true) true fuel t cs = some x) :
    ∃ (A : Option Addr) (n c : Nat) (l : List Int), cs = [.slice A n c] ∧ n ≤ c ∧ c ≤ maxLen ∧ Reads w w.heap.size 1 A n (nums k l) ∧ (∀ z ∈ l, (Lit.int k z).wf = true) ∧ (A = none → c = 0) := by
  obtain ⟨A, n, c, l, h2, h3, h4, h5, h6⟩ := open_nums ht he h1 h
  refine ⟨A, n, c, l, h2, h3, h4, h5, h6, fun hA => ?_⟩
  rcases open_ints ht he h1 h with ⟨hcs, _⟩ | ⟨a, len, cap, zs, hcs, _⟩
  · rw [h2] at hcs
    simp only [List.cons.injEq, and_true, Value.slice.injEq] at hcs
    exact hcs.2.2
  · rw [h2, hA] at hcs
    simp at hcs

/-- A slice of thronglaw22.Ask that came in. -/
def Asks22 (w : World) (A : Option Addr) (n : Nat) : Prop := ∀ i, i < n → ∃ (b o : Nat) (q : Cmd) (A1 : Option Addr) (m1 c1 : Nat) (A2 : Option Addr) (m2 c2 : Nat) (l2 : List Int),
  A = some ⟨b, o, none⟩ ∧ b < w.heap.size ∧ w.cell? ⟨b, o + i * 11, none⟩ = some (.int .i64 q.pl) ∧ w.cell? ⟨b, o + i * 11 + 1, none⟩ = some (.int .i64 q.sq) ∧ w.cell? ⟨b, o + i * 11 + 2, none⟩ = some (.int .i64 q.kd) ∧ w.cell? ⟨b, o + i * 11 + 3, none⟩ = some (.int .i64 q.nn) ∧ w.cell? ⟨b, o + i * 11 + 4, none⟩ = some (.slice A1 m1 c1) ∧ w.cell? ⟨b, o + i * 11 + 5, none⟩ = some (.int .i64 q.ti) ∧ w.cell? ⟨b, o + i * 11 + 6, none⟩ = some (.int .i64 q.wd) ∧ w.cell? ⟨b, o + i * 11 + 7, none⟩ = some (.int .i64 q.ht) ∧ w.cell? ⟨b, o + i * 11 + 8, none⟩ = some (.int .i64 q.ax) ∧ w.cell? ⟨b, o + i * 11 + 9, none⟩ = some (.int .i64 q.ay) ∧ w.cell? ⟨b, o + i * 11 + 10, none⟩ = some (.slice A2 m2 c2) ∧
  Reads w w.heap.size 1 A1 m1 (nums .i64 q.us) ∧ Reads w w.heap.size 1 A2 m2 (nums .u8 l2) ∧ IsBytes l2 ∧ m2 ≤ c2 ∧ (c2 : Int) ≤ 9223372036854775807 ∧ (A2 = none → c2 = 0)
theorem Asks22.below {w w' : World} {A : Option Addr} {n : Nat} (h : Asks22 w A n) (hb : Below w.heap.size w w') : Asks22 w' A n := fun i hi => by
  obtain ⟨b, o, q, A1, m1, c1, A2, m2, c2, l2, h1, h2, k0, k1, k2, k3, k4, k5, k6, k7, k8, k9, k10, h3, h4, h5, h6, h7, h8⟩ := h i hi
  exact ⟨b, o, q, A1, m1, c1, A2, m2, c2, l2, h1, Nat.lt_of_lt_of_le h2 hb.size, (hb.cell h2).trans k0, (hb.cell h2).trans k1, (hb.cell h2).trans k2, (hb.cell h2).trans k3, (hb.cell h2).trans k4, (hb.cell h2).trans k5, (hb.cell h2).trans k6, (hb.cell h2).trans k7, (hb.cell h2).trans k8, (hb.cell h2).trans k9, (hb.cell h2).trans k10, (h3.below hb).more hb.size, (h4.below hb).more hb.size, h5, h6, h7, h8⟩
set_option maxHeartbeats 800000 in
theorem open_asks22 {H : Type} {enc : TypeId × Value → H} {w : World} {base : Nat} {v : Value} {d : DataW H} {p : List MemPlace} (hv : Value.okWide Try.prog w .any base 22 v)
    (ht : DataW.Trod enc Try.prog w 0 (fun _ => true) true 22 v d p) : ∃ A n c, v = .slice A n c ∧ n ≤ c ∧ c ≤ maxLen ∧ Asks22 w A n := by
  obtain ⟨A, n, c, rfl⟩ := okWide_slice Try.underlying22 hv
  obtain ⟨fuel, hf⟩ := ht
  obtain ⟨A1, n1, c1, he, hl, hm, hi⟩ := open_rows Try.underlying22 hf
  simp [Value.cells] at he
  obtain ⟨rfl, rfl, rfl⟩ := he
  refine ⟨A, n, c, rfl, hl, hm, fun i hlt => ?_⟩
  have hC : Try.prog.cellsOf 31 = 11 := by kernel_rfl
  have hF : Leaf Try.prog 31 0 28 := Leaf.field Try.underlying31 0 _ rfl (of_decide_eq_true (by kernel_rfl))
  obtain ⟨b0, o0, u0, x0, y0, e0, hb, hc0, ht0⟩ := hi i hlt 0 3 (Leaf.trans hF (Leaf.field Try.underlying28 0 _ rfl (of_decide_eq_true (by kernel_rfl))) rfl) (by kernel_rfl)
  obtain ⟨b1, o1, u1, x1, y1, e1, _, hc1, ht1⟩ := hi i hlt 1 3 (Leaf.trans hF (Leaf.field Try.underlying28 1 _ rfl (of_decide_eq_true (by kernel_rfl))) rfl) (by kernel_rfl)
  obtain ⟨b2, o2, u2, x2, y2, e2, _, hc2, ht2⟩ := hi i hlt 2 3 (Leaf.trans hF (Leaf.field Try.underlying28 2 _ rfl (of_decide_eq_true (by kernel_rfl))) rfl) (by kernel_rfl)
  obtain ⟨b3, o3, u3, x3, y3, e3, _, hc3, ht3⟩ := hi i hlt 3 3 (Leaf.trans hF (Leaf.field Try.underlying28 3 _ rfl (of_decide_eq_true (by kernel_rfl))) rfl) (by kernel_rfl)
  obtain ⟨b4, o4, u4, x4, y4, e4, _, hc4, ht4⟩ := hi i hlt 4 24 (Leaf.trans hF (Leaf.field Try.underlying28 4 _ rfl (of_decide_eq_true (by kernel_rfl))) rfl) (by kernel_rfl)
  obtain ⟨b5, o5, u5, x5, y5, e5, _, hc5, ht5⟩ := hi i hlt 5 3 (Leaf.trans hF (Leaf.field Try.underlying28 5 _ rfl (of_decide_eq_true (by kernel_rfl))) rfl) (by kernel_rfl)
  obtain ⟨b6, o6, u6, x6, y6, e6, _, hc6, ht6⟩ := hi i hlt 6 3 (Leaf.trans hF (Leaf.field Try.underlying28 6 _ rfl (of_decide_eq_true (by kernel_rfl))) rfl) (by kernel_rfl)
  obtain ⟨b7, o7, u7, x7, y7, e7, _, hc7, ht7⟩ := hi i hlt 7 3 (Leaf.trans hF (Leaf.field Try.underlying28 7 _ rfl (of_decide_eq_true (by kernel_rfl))) rfl) (by kernel_rfl)
  obtain ⟨b8, o8, u8, x8, y8, e8, _, hc8, ht8⟩ := hi i hlt 8 2 (Leaf.trans (Leaf.trans hF (Leaf.field Try.underlying28 8 _ rfl (of_decide_eq_true (by kernel_rfl))) rfl) (Leaf.field Try.underlying26 0 _ rfl (of_decide_eq_true (by kernel_rfl))) rfl) (by kernel_rfl)
  obtain ⟨b9, o9, u9, x9, y9, e9, _, hc9, ht9⟩ := hi i hlt 9 2 (Leaf.trans (Leaf.trans hF (Leaf.field Try.underlying28 8 _ rfl (of_decide_eq_true (by kernel_rfl))) rfl) (Leaf.field Try.underlying26 1 _ rfl (of_decide_eq_true (by kernel_rfl))) rfl) (by kernel_rfl)
  obtain ⟨b10, o10, u10, x10, y10, e10, _, hc10, ht10⟩ := hi i hlt 10 29 (Leaf.field Try.underlying31 1 _ rfl (of_decide_eq_true (by kernel_rfl))) (by kernel_rfl)
  subst e0
  simp only [Option.some.injEq, Addr.mk.injEq, and_true] at e1 e2 e3 e4 e5 e6 e7 e8 e9 e10
  obtain ⟨rfl, rfl⟩ := e1
  obtain ⟨rfl, rfl⟩ := e2
  obtain ⟨rfl, rfl⟩ := e3
  obtain ⟨rfl, rfl⟩ := e4
  obtain ⟨rfl, rfl⟩ := e5
  obtain ⟨rfl, rfl⟩ := e6
  obtain ⟨rfl, rfl⟩ := e7
  obtain ⟨rfl, rfl⟩ := e8
  obtain ⟨rfl, rfl⟩ := e9
  obtain ⟨rfl, rfl⟩ := e10
  rw [hC] at hc0 hc1 hc2 hc3 hc4 hc5 hc6 hc7 hc8 hc9 hc10
  obtain ⟨z0, g0, w0⟩ := open_num Try.underlying3 ht0
  obtain ⟨z1, g1, w1⟩ := open_num Try.underlying3 ht1
  obtain ⟨z2, g2, w2⟩ := open_num Try.underlying3 ht2
  obtain ⟨z3, g3, w3⟩ := open_num Try.underlying3 ht3
  obtain ⟨A4, m4, c4, l4, g4, hl4, hm4, hr4, _⟩ := open_nums Try.underlying24 Try.underlying3 (by kernel_rfl) ht4
  obtain ⟨z5, g5, w5⟩ := open_num Try.underlying3 ht5
  obtain ⟨z6, g6, w6⟩ := open_num Try.underlying3 ht6
  obtain ⟨z7, g7, w7⟩ := open_num Try.underlying3 ht7
  obtain ⟨z8, g8, w8⟩ := open_num Try.underlying2 ht8
  obtain ⟨z9, g9, w9⟩ := open_num Try.underlying2 ht9
  obtain ⟨A5, m5, c5, l5, g10, hl5, hm5, hr5, hw5, hA5⟩ := open_nums0 Try.underlying29 Try.underlying5 (by kernel_rfl) ht10
  simp only [List.cons.injEq, and_true] at g0 g1 g2 g3 g4 g5 g6 g7 g8 g9 g10
  subst g0; subst g1; subst g2; subst g3; subst g4; subst g5; subst g6; subst g7; subst g8; subst g9; subst g10
  exact ⟨_, _, ⟨z0, z1, z2, z3, l4, z5, z6, z7, z8, z9⟩, A4, m4, c4, A5, m5, c5, l5, rfl, hb, hc0, by rw [Nat.add_assoc]; exact hc1, by rw [Nat.add_assoc]; exact hc2, by rw [Nat.add_assoc]; exact hc3, by rw [Nat.add_assoc]; exact hc4, by rw [Nat.add_assoc]; exact hc5, by rw [Nat.add_assoc]; exact hc6, by rw [Nat.add_assoc]; exact hc7, by rw [Nat.add_assoc]; exact hc8, by rw [Nat.add_assoc]; exact hc9, by rw [Nat.add_assoc]; exact hc10, hr4, hr5, bytes_of_wf hw5, hl5, by unfold maxLen at hm5; omega, hA5⟩
theorem heavy22_no (pl sq kd nn ti wd ht ax ay : Int) (A1 A2 : Option Addr) (m1 c1 m2 c2 : Nat) (w : World) (h1 : m1 ≤ 300) (h2 : m2 ≤ 3000) :
    Calls Try.prog 13 #[.agg #[.int .i64 pl, .int .i64 sq, .int .i64 kd, .int .i64 nn, .slice A1 m1 c1, .int .i64 ti, .int .i64 wd, .int .i64 ht, .int .i64 ax, .int .i64 ay, .slice A2 m2 c2]] w fun e w' => e = .returned (.bool false) ∧ Below w.heap.size w w' := by
  have HB : Hid (∀ o, Below w.heap.size w (w.alloc o)) := fun o => (Below.refl _ _).alloc (Nat.le_refl _) o
  have d1 : decide ((300 : Int) < (m1 : Int)) = false := by simp; omega
  have d2 : decide ((3000 : Int) < (m2 : Int)) = false := by simp; omega
  go_enter Try.func13, Try.ntmps13
  go_wp2_with fail
  go_ret
  exact ⟨rfl, HB.out _⟩
theorem heavy22_a (pl sq kd nn ti wd ht ax ay : Int) (A1 A2 : Option Addr) (m1 c1 m2 c2 : Nat) (w : World) (h1 : 300 < m1) :
    Calls Try.prog 13 #[.agg #[.int .i64 pl, .int .i64 sq, .int .i64 kd, .int .i64 nn, .slice A1 m1 c1, .int .i64 ti, .int .i64 wd, .int .i64 ht, .int .i64 ax, .int .i64 ay, .slice A2 m2 c2]] w fun e w' => e = .returned (.bool true) ∧ Below w.heap.size w w' := by
  have HB : Hid (∀ o, Below w.heap.size w (w.alloc o)) := fun o => (Below.refl _ _).alloc (Nat.le_refl _) o
  have d1 : decide ((300 : Int) < (m1 : Int)) = true := by simp; omega
  go_enter Try.func13, Try.ntmps13
  go_wp2_with fail
  go_ret
  exact ⟨rfl, HB.out _⟩
theorem heavy22_b (pl sq kd nn ti wd ht ax ay : Int) (A1 A2 : Option Addr) (m1 c1 m2 c2 : Nat) (w : World) (h1 : m1 ≤ 300) (h2 : 3000 < m2) :
    Calls Try.prog 13 #[.agg #[.int .i64 pl, .int .i64 sq, .int .i64 kd, .int .i64 nn, .slice A1 m1 c1, .int .i64 ti, .int .i64 wd, .int .i64 ht, .int .i64 ax, .int .i64 ay, .slice A2 m2 c2]] w fun e w' => e = .returned (.bool true) ∧ Below w.heap.size w w' := by
  have HB : Hid (∀ o, Below w.heap.size w (w.alloc o)) := fun o => (Below.refl _ _).alloc (Nat.le_refl _) o
  have d1 : decide ((300 : Int) < (m1 : Int)) = false := by simp; omega
  have d2 : decide ((3000 : Int) < (m2 : Int)) = true := by simp; omega
  go_enter Try.func13, Try.ntmps13
  go_wp2_with fail
  go_ret
  exact ⟨rfl, HB.out _⟩
theorem heavy22_yes (pl sq kd nn ti wd ht ax ay : Int) (A1 A2 : Option Addr) (m1 c1 m2 c2 : Nat) (w : World) (h : 300 < m1 ∨ 3000 < m2) :
    Calls Try.prog 13 #[.agg #[.int .i64 pl, .int .i64 sq, .int .i64 kd, .int .i64 nn, .slice A1 m1 c1, .int .i64 ti, .int .i64 wd, .int .i64 ht, .int .i64 ax, .int .i64 ay, .slice A2 m2 c2]] w fun e w' => e = .returned (.bool true) ∧ Below w.heap.size w w' := by
  by_cases h1 : m1 ≤ 300
  · exact heavy22_b pl sq kd nn ti wd ht ax ay A1 A2 m1 c1 m2 c2 w h1 (by omega)
  · exact heavy22_a pl sq kd nn ti wd ht ax ay A1 A2 m1 c1 m2 c2 w (by omega)
theorem num22 (x : Int) (w : World) : Calls Try.prog 17 #[.int .i64 x] w fun e w' => e = .returned (.int .i64 x) ∧ w = w' := by
  go_enter Try.func17, Try.ntmps17
  go_wp2_with fail
  go_ret
  exact ⟨rfl, rfl⟩
def stopC : Cmd := ⟨1, 2, 3, 0, [5], 0, 0, 0, 0, 0⟩
theorem stop_bytes : bytesR stopC = ([3, 1, 2, 1, 5], 0) := by
  have h : mayC stopC = true := by decide +kernel
  unfold bytesR
  rw [if_pos h]
  simp [encC, encK, encU, encL, putI, put_small, stopC]
set_option maxHeartbeats 800000 in
theorem wakes22 (w : World) : Calls Try.prog 22 #[] w fun e w' => e = .returned (.bool true) ∧ Below w.heap.size w w' := by
  have hr : Reads (w.alloc (.cells #[.int .i64 5] 3)) (w.heap.size + 1) 1 (some ⟨w.heap.size, 0, none⟩) 1 (nums .i64 stopC.us) := reads_new w [.int .i64 5] 3 (0, 0) 1 rfl
  have C := cmd_bytes stopC (some ⟨w.heap.size, 0, none⟩) 1 1 (w.heap.size + 1) (w.alloc (.cells #[.int .i64 5] 3)) hr (by simp) (by omega)
  rw [stop_bytes] at C
  have hb0 : Below w.heap.size w (w.alloc (.cells #[.int .i64 5] 3)) := (Below.refl _ _).alloc (Nat.le_refl _) _
  unfold GivesNum at C
  simp only [cmdV, stopC] at C
  have C := Lib.hid C
  go_enter Try.func22, Try.ntmps22
  go_wp2_with fail
  refine Calls.mono C.out ?_
  rintro e w1 ⟨A, c, rfl, hown, hb⟩
  have hb1 := hb0.trans (hb.mono (by simp))
  have hR := Reads.of_own hown
  have HB := Lib.hid hb1
  have E := Lib.hid (eq_bytes_b A (some ⟨w1.heap.size, 0, none⟩) 5 c 5 5 w1.heap.size (w1.heap.size + 1) [3, 1, 2, 1, 5] [3, 1, 2, 1, 5] (w1.alloc (.cells #[.int .u8 3, .int .u8 1, .int .u8 2, .int .u8 1, .int .u8 5] 5)) true (hR.alloc (Nat.le_refl _) _) (reads_new w1 [.int .u8 3, .int .u8 1, .int .u8 2, .int .u8 1, .int .u8 5] 5 (0, 0) 5 rfl) (by omega) (by omega) (by decide))
  have HB2 : Hid (∀ w', Below (w1.alloc (.cells #[.int .u8 3, .int .u8 1, .int .u8 2, .int .u8 1, .int .u8 5] 5)).heap.size (w1.alloc (.cells #[.int .u8 3, .int .u8 1, .int .u8 2, .int .u8 1, .int .u8 5] 5)) w' → Below w.heap.size w w') := fun w' h => (hb1.alloc hb1.size _).trans (h.mono (by have := hb1.size; simp; omega))
  clear hb hb1 hR hown hr hb0
  go_wp2_with fail
  refine Calls.mono (num22 _ _) ?_
  rintro e w2 ⟨rfl, rfl⟩
  go_wp2_with fail
  refine Calls.mono E.out ?_
  rintro e w3 ⟨rfl, hb3⟩
  have HB3 := Lib.hid (HB2.out _ hb3)
  clear hb3
  go_wp2_with fail
  go_ret
  exact ⟨rfl, HB3.out⟩
end Go.Proofs.Ytneigplmgellcaa
