/- What the laws of layer 2 share: the drawn ways opened, the length that wakes. -/
import Derived.Test.YtpkdkkbmmkhhhaaVecOps
namespace Go.Proofs.Ytpkdkkbmmkhhhaa
set_option maxRecDepth 20000
open Go.RowKit Go.WideShapes Go.ChangeShapes

/-- A slice of thronglaw2.Ask that came in. -/
def Asks2 (w : World) (A : Option Addr) (n : Nat) : Prop := ∀ i, i < n → ∃ (b o : Nat) (x y p q k : Int),
  A = some ⟨b, o, none⟩ ∧ b < w.heap.size ∧ w.cell? ⟨b, o + i * 5, none⟩ = some (.int .i64 x) ∧ w.cell? ⟨b, o + i * 5 + 1, none⟩ = some (.int .i64 y) ∧ w.cell? ⟨b, o + i * 5 + 2, none⟩ = some (.int .i64 p) ∧ w.cell? ⟨b, o + i * 5 + 3, none⟩ = some (.int .i64 q) ∧ w.cell? ⟨b, o + i * 5 + 4, none⟩ = some (.int .i64 k) ∧
  (-9223372036854775808 ≤ x ∧ x ≤ 9223372036854775807) ∧ (-9223372036854775808 ≤ y ∧ y ≤ 9223372036854775807) ∧ (-9223372036854775808 ≤ p ∧ p ≤ 9223372036854775807) ∧ (-9223372036854775808 ≤ q ∧ q ≤ 9223372036854775807) ∧ (-9223372036854775808 ≤ k ∧ k ≤ 9223372036854775807)
theorem Asks2.below {w w' : World} {A : Option Addr} {n : Nat} (h : Asks2 w A n) (hb : Below w.heap.size w w') : Asks2 w' A n := fun i hi => by
  obtain ⟨b, o, x, y, p, q, k, h1, h2, h3, h4, h5, h6, h7, h8⟩ := h i hi
  exact ⟨b, o, x, y, p, q, k, h1, Nat.lt_of_lt_of_le h2 hb.size, (hb.cell h2).trans h3, (hb.cell h2).trans h4, (hb.cell h2).trans h5, (hb.cell h2).trans h6, (hb.cell h2).trans h7, h8⟩
theorem open_asks2 {H : Type} {enc : TypeId × Value → H} {w : World} {base : Nat} {v : Value} {d : DataW H} {p : List MemPlace} (hv : Value.okWide Try.prog w .any base 22 v)
    (ht : DataW.Trod enc Try.prog w 0 (fun _ => true) true 22 v d p) : ∃ A n c, v = .slice A n c ∧ n ≤ c ∧ c ≤ maxLen ∧ Asks2 w A n := by
  obtain ⟨A, n, c, rfl⟩ := okWide_slice Try.underlying22 hv
  obtain ⟨fuel, hf⟩ := ht
  obtain ⟨A1, n1, c1, he, hl, hm, hi⟩ := open_rows Try.underlying22 hf
  simp [Value.cells] at he
  obtain ⟨rfl, rfl, rfl⟩ := he
  refine ⟨A, n, c, rfl, hl, hm, fun i hlt => ?_⟩
  have hC : Try.prog.cellsOf 27 = 5 := by kernel_rfl
  obtain ⟨b1, o1, u1, x1, y1, e1, hb, hc1, ht1⟩ := hi i hlt 0 2 (Leaf.trans (Leaf.field Try.underlying27 0 _ rfl (of_decide_eq_true (by kernel_rfl))) (Leaf.field Try.underlying25 0 _ rfl (of_decide_eq_true (by kernel_rfl))) rfl) (by kernel_rfl)
  obtain ⟨b2, o2, u2, x2, y2, e2, _, hc2, ht2⟩ := hi i hlt 1 2 (Leaf.trans (Leaf.field Try.underlying27 0 _ rfl (of_decide_eq_true (by kernel_rfl))) (Leaf.field Try.underlying25 1 _ rfl (of_decide_eq_true (by kernel_rfl))) rfl) (by kernel_rfl)
  obtain ⟨b3, o3, u3, x3, y3, e3, _, hc3, ht3⟩ := hi i hlt 2 2 (Leaf.trans (Leaf.field Try.underlying27 1 _ rfl (of_decide_eq_true (by kernel_rfl))) (Leaf.field Try.underlying25 0 _ rfl (of_decide_eq_true (by kernel_rfl))) rfl) (by kernel_rfl)
  obtain ⟨b4, o4, u4, x4, y4, e4, _, hc4, ht4⟩ := hi i hlt 3 2 (Leaf.trans (Leaf.field Try.underlying27 1 _ rfl (of_decide_eq_true (by kernel_rfl))) (Leaf.field Try.underlying25 1 _ rfl (of_decide_eq_true (by kernel_rfl))) rfl) (by kernel_rfl)
  obtain ⟨b5, o5, u5, x5, y5, e5, _, hc5, ht5⟩ := hi i hlt 4 2 (Leaf.field Try.underlying27 2 _ rfl (of_decide_eq_true (by kernel_rfl))) (by kernel_rfl)
  subst e1
  simp only [Option.some.injEq, Addr.mk.injEq, and_true] at e2 e3 e4 e5
  obtain ⟨rfl, rfl⟩ := e2
  obtain ⟨rfl, rfl⟩ := e3
  obtain ⟨rfl, rfl⟩ := e4
  obtain ⟨rfl, rfl⟩ := e5
  rw [hC] at hc1 hc2 hc3 hc4 hc5
  obtain ⟨x, h1, w1⟩ := open_num Try.underlying2 ht1
  obtain ⟨y, h2, w2⟩ := open_num Try.underlying2 ht2
  obtain ⟨p, h3, w3⟩ := open_num Try.underlying2 ht3
  obtain ⟨q, h4, w4⟩ := open_num Try.underlying2 ht4
  obtain ⟨k, h5, w5⟩ := open_num Try.underlying2 ht5
  simp only [List.cons.injEq, and_true] at h1 h2 h3 h4 h5
  subst h1; subst h2; subst h3; subst h4; subst h5
  exact ⟨_, _, x, y, p, q, k, rfl, hb, hc1, by rw [Nat.add_assoc]; exact hc2, by rw [Nat.add_assoc]; exact hc3, by rw [Nat.add_assoc]; exact hc4, by rw [Nat.add_assoc]; exact hc5, i64_of_wf w1, i64_of_wf w2, i64_of_wf w3, i64_of_wf w4, i64_of_wf w5⟩

theorem wake_len : vlen 196608 262144 = 327680 := by decide +kernel
theorem wakes2 (w : World) : Calls Try.prog 23 #[] w fun e w' => e = .returned (.bool true) ∧ Below w.heap.size w w' := by
  have M := Lib.hid (fun W => vec_len 196608 262144 W (by omega) (by omega))
  have d1 := wake_len
  generalize vlen 196608 262144 = x at *
  go_enter Try.func23, Try.ntmps23
  go_wp2_with fail
  refine Calls.mono (M.out _) ?_
  rintro e w1 ⟨rfl, hb⟩
  go_wp2
  go_ret
  exact ⟨rfl, hb⟩

end Go.Proofs.Ytpkdkkbmmkhhhaa
