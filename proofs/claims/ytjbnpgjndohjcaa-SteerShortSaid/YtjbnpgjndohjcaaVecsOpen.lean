/- The argument of the laws of layer 19, opened: places, a number, other places. -/
import Derived.Test.YtjbnpgjndohjcaaOpen
import Derived.Test.YtjbnpgjndohjcaaVecClamp2
namespace Go.Proofs.Ytjbnpgjndohjcaa
set_option maxRecDepth 20000
open Go.RowKit Go.WideShapes Go.ChangeShapes Go.ChangeAt

/-- A slice of places that came in, with what they are. -/
def VecsL (w : World) (A : Option Addr) (n : Nat) (l : List (Int × Int)) : Prop := l.length = n ∧ ∀ i, i < n → ∃ b o : Nat, A = some ⟨b, o, none⟩ ∧ b < w.heap.size ∧ w.cell? ⟨b, o + i * 2, none⟩ = some (.int .i64 (l.getD i (0, 0)).1) ∧ w.cell? ⟨b, o + i * 2 + 1, none⟩ = some (.int .i64 (l.getD i (0, 0)).2) ∧
  (-9223372036854775808 ≤ (l.getD i (0, 0)).1 ∧ (l.getD i (0, 0)).1 ≤ 9223372036854775807) ∧ (-9223372036854775808 ≤ (l.getD i (0, 0)).2 ∧ (l.getD i (0, 0)).2 ≤ 9223372036854775807)
theorem VecsL.below {w w' : World} {A : Option Addr} {n : Nat} {l : List (Int × Int)} (h : VecsL w A n l) (hb : Below w.heap.size w w') : VecsL w' A n l := ⟨h.1, fun i hi => by
  obtain ⟨b, o, h1, h2, h3, h4, h5⟩ := h.2 i hi
  exact ⟨b, o, h1, Nat.lt_of_lt_of_le h2 hb.size, (hb.cell h2).trans h3, (hb.cell h2).trans h4, h5⟩⟩
theorem list_of {P : Nat → Int × Int → Prop} : ∀ n : Nat, (∀ i, i < n → ∃ z, P i z) → ∃ l : List (Int × Int), l.length = n ∧ ∀ i, i < n → P i (l.getD i (0, 0))
  | 0, _ => ⟨[], rfl, fun i hi => absurd hi (by omega)⟩
  | n + 1, h => by
    obtain ⟨l, hl, hp⟩ := list_of n (fun i hi => h i (by omega))
    obtain ⟨z, hz⟩ := h n (by omega)
    refine ⟨l ++ [z], by simp [hl], fun i hi => ?_⟩
    by_cases hin : i = n
    · subst hin
      have : (l ++ [z]).getD i (0, 0) = z := by simp [List.getD, ← hl]
      rw [this]; exact hz
    · have : (l ++ [z]).getD i (0, 0) = l.getD i (0, 0) := by simp [List.getD, List.getElem?_append, hl, show i < n by omega]
      rw [this]; exact hp i (by omega)
set_option maxRecDepth 20000 in
theorem open_vecsL {H : Type} {enc : TypeId × Value → H} {w : World} {fuel : Nat} {u : Value} {x : DataW H × List MemPlace} (hf : DataW.trod enc Try.prog w 0 (fun _ => true) true fuel 27 [u] = some x) :
    ∃ A n c l, u = .slice A n c ∧ n ≤ c ∧ c ≤ maxLen ∧ VecsL w A n l := by
  obtain ⟨A, n, c, he, hl, hm, hi⟩ := open_rows Try.underlying27 hf
  simp only [List.cons.injEq, and_true] at he
  have hC : Try.prog.cellsOf 35 = 2 := by kernel_rfl
  obtain ⟨l, hl1, hl2⟩ := list_of (P := fun i z => ∃ b o : Nat, A = some ⟨b, o, none⟩ ∧ b < w.heap.size ∧ w.cell? ⟨b, o + i * 2, none⟩ = some (.int .i64 z.1) ∧ w.cell? ⟨b, o + i * 2 + 1, none⟩ = some (.int .i64 z.2) ∧
    (-9223372036854775808 ≤ z.1 ∧ z.1 ≤ 9223372036854775807) ∧ (-9223372036854775808 ≤ z.2 ∧ z.2 ≤ 9223372036854775807)) n (fun i hlt => by
    obtain ⟨b1, o1, u1, x1, y1, e1, hb, hc1, ht1⟩ := hi i hlt 0 2 (Leaf.field Try.underlying35 0 _ rfl (of_decide_eq_true (by kernel_rfl))) (by kernel_rfl)
    obtain ⟨b2, o2, u2, x2, y2, e2, _, hc2, ht2⟩ := hi i hlt 1 2 (Leaf.field Try.underlying35 1 _ rfl (of_decide_eq_true (by kernel_rfl))) (by kernel_rfl)
    subst e1
    simp only [Option.some.injEq, Addr.mk.injEq, and_true] at e2
    obtain ⟨rfl, rfl⟩ := e2
    rw [hC] at hc1 hc2
    obtain ⟨x, h1, w1⟩ := open_num Try.underlying2 ht1
    obtain ⟨y, h2, w2⟩ := open_num Try.underlying2 ht2
    simp only [List.cons.injEq, and_true] at h1 h2
    subst h1; subst h2
    exact ⟨(x, y), _, _, rfl, hb, hc1, by rw [Nat.add_assoc]; exact hc2, i64_of_wf w1, i64_of_wf w2⟩)
  exact ⟨A, n, c, l, he, hl, hm, hl1, hl2⟩

/-- A slice of thronglaw19.Ask that came in. -/
def Asks19 (w : World) (A : Option Addr) (n : Nat) : Prop := ∀ i, i < n → ∃ (b o : Nat) (x y p q k : Int) (A1 : Option Addr) (m1 c1 : Nat) (l1 : List (Int × Int)),
  A = some ⟨b, o, none⟩ ∧ b < w.heap.size ∧ w.cell? ⟨b, o + i * 6, none⟩ = some (.int .i64 x) ∧ w.cell? ⟨b, o + i * 6 + 1, none⟩ = some (.int .i64 y) ∧ w.cell? ⟨b, o + i * 6 + 2, none⟩ = some (.int .i64 p) ∧ w.cell? ⟨b, o + i * 6 + 3, none⟩ = some (.int .i64 q) ∧ w.cell? ⟨b, o + i * 6 + 4, none⟩ = some (.int .i64 k) ∧ w.cell? ⟨b, o + i * 6 + 5, none⟩ = some (.slice A1 m1 c1) ∧
  (-9223372036854775808 ≤ x ∧ x ≤ 9223372036854775807) ∧ (-9223372036854775808 ≤ y ∧ y ≤ 9223372036854775807) ∧ (-9223372036854775808 ≤ p ∧ p ≤ 9223372036854775807) ∧ (-9223372036854775808 ≤ q ∧ q ≤ 9223372036854775807) ∧ (-9223372036854775808 ≤ k ∧ k ≤ 9223372036854775807) ∧ VecsL w A1 m1 l1 ∧ m1 ≤ c1 ∧ c1 ≤ maxLen
theorem Asks19.below {w w' : World} {A : Option Addr} {n : Nat} (h : Asks19 w A n) (hb : Below w.heap.size w w') : Asks19 w' A n := fun i hi => by
  obtain ⟨b, o, x, y, p, q, k, A1, m1, c1, l1, h1, h2, h3, h4, h5, h6, h7, h8, h9, h10, h11, h12, h13, h14, h15⟩ := h i hi
  exact ⟨b, o, x, y, p, q, k, A1, m1, c1, l1, h1, Nat.lt_of_lt_of_le h2 hb.size, (hb.cell h2).trans h3, (hb.cell h2).trans h4, (hb.cell h2).trans h5, (hb.cell h2).trans h6, (hb.cell h2).trans h7, (hb.cell h2).trans h8, h9, h10, h11, h12, h13, h14.below hb, h15⟩
theorem open_asks19 {H : Type} {enc : TypeId × Value → H} {w : World} {base : Nat} {v : Value} {d : DataW H} {p : List MemPlace} (hv : Value.okWide Try.prog w .any base 44 v)
    (ht : DataW.Trod enc Try.prog w 0 (fun _ => true) true 44 v d p) : ∃ A n c, v = .slice A n c ∧ n ≤ c ∧ c ≤ maxLen ∧ Asks19 w A n := by
  obtain ⟨A, n, c, rfl⟩ := okWide_slice Try.underlying44 hv
  obtain ⟨fuel, hf⟩ := ht
  obtain ⟨A1, n1, c1, he, hl, hm, hi⟩ := open_rows Try.underlying44 hf
  simp [Value.cells] at he
  obtain ⟨rfl, rfl, rfl⟩ := he
  refine ⟨A, n, c, rfl, hl, hm, fun i hlt => ?_⟩
  have hC : Try.prog.cellsOf 47 = 6 := by kernel_rfl
  obtain ⟨b1, o1, u1, x1, y1, e1, hb, hc1, ht1⟩ := hi i hlt 0 2 (Leaf.trans (Leaf.field Try.underlying47 0 _ rfl (of_decide_eq_true (by kernel_rfl))) (Leaf.field Try.underlying35 0 _ rfl (of_decide_eq_true (by kernel_rfl))) rfl) (by kernel_rfl)
  obtain ⟨b2, o2, u2, x2, y2, e2, _, hc2, ht2⟩ := hi i hlt 1 2 (Leaf.trans (Leaf.field Try.underlying47 0 _ rfl (of_decide_eq_true (by kernel_rfl))) (Leaf.field Try.underlying35 1 _ rfl (of_decide_eq_true (by kernel_rfl))) rfl) (by kernel_rfl)
  obtain ⟨b3, o3, u3, x3, y3, e3, _, hc3, ht3⟩ := hi i hlt 2 2 (Leaf.trans (Leaf.field Try.underlying47 1 _ rfl (of_decide_eq_true (by kernel_rfl))) (Leaf.field Try.underlying35 0 _ rfl (of_decide_eq_true (by kernel_rfl))) rfl) (by kernel_rfl)
  obtain ⟨b4, o4, u4, x4, y4, e4, _, hc4, ht4⟩ := hi i hlt 3 2 (Leaf.trans (Leaf.field Try.underlying47 1 _ rfl (of_decide_eq_true (by kernel_rfl))) (Leaf.field Try.underlying35 1 _ rfl (of_decide_eq_true (by kernel_rfl))) rfl) (by kernel_rfl)
  obtain ⟨b5, o5, u5, x5, y5, e5, _, hc5, ht5⟩ := hi i hlt 4 2 (Leaf.field Try.underlying47 2 _ rfl (of_decide_eq_true (by kernel_rfl))) (by kernel_rfl)
  obtain ⟨b6, o6, u6, x6, y6, e6, _, hc6, ht6⟩ := hi i hlt 5 27 (Leaf.field Try.underlying47 3 _ rfl (of_decide_eq_true (by kernel_rfl))) (by kernel_rfl)
  subst e1
  simp only [Option.some.injEq, Addr.mk.injEq, and_true] at e2 e3 e4 e5 e6
  obtain ⟨rfl, rfl⟩ := e2
  obtain ⟨rfl, rfl⟩ := e3
  obtain ⟨rfl, rfl⟩ := e4
  obtain ⟨rfl, rfl⟩ := e5
  obtain ⟨rfl, rfl⟩ := e6
  rw [hC] at hc1 hc2 hc3 hc4 hc5 hc6
  obtain ⟨x, h1, w1⟩ := open_num Try.underlying2 ht1
  obtain ⟨y, h2, w2⟩ := open_num Try.underlying2 ht2
  obtain ⟨p, h3, w3⟩ := open_num Try.underlying2 ht3
  obtain ⟨q, h4, w4⟩ := open_num Try.underlying2 ht4
  obtain ⟨k, h5, w5⟩ := open_num Try.underlying2 ht5
  obtain ⟨A2, m2, c2, l2, h6, hl2, hm2, hr2⟩ := open_vecsL ht6
  simp only [List.cons.injEq, and_true] at h1 h2 h3 h4 h5
  subst h1; subst h2; subst h3; subst h4; subst h5; subst h6
  exact ⟨_, _, x, y, p, q, k, A2, m2, c2, l2, rfl, hb, hc1, by rw [Nat.add_assoc]; exact hc2, by rw [Nat.add_assoc]; exact hc3, by rw [Nat.add_assoc]; exact hc4, by rw [Nat.add_assoc]; exact hc5, by rw [Nat.add_assoc]; exact hc6, i64_of_wf w1, i64_of_wf w2, i64_of_wf w3, i64_of_wf w4, i64_of_wf w5, hr2, hl2, hm2⟩
end Go.Proofs.Ytjbnpgjndohjcaa
