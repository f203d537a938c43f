/- The argument of the laws of layer 6, opened; what wakes. -/
import Derived.Test.YtdcilabbjejklaaGroundRef
namespace Go.Proofs.Ytdcilabbjejklaa
open Go.RowKit Go.WideShapes Go.ChangeShapes Go.ChangeAt

theorem Leaf.one {H : Type} {enc : TypeId × Value → H} {P : Program} {w : World} {fuel : Nat} {t l : TypeId} {off : Nat} {cs : List Value} {x : DataW H × List MemPlace} (h : Leaf P t off l) (h1 : P.cellsOf l = 1) (hlen : cs.length = P.cellsOf t)
    (hf : DataW.trod enc P w 0 (fun _ => true) true fuel t cs = some x) : ∃ (u : Value) (m : Nat) (y : DataW H × List MemPlace), cs[off]? = some u ∧ DataW.trod enc P w 0 (fun _ => true) true m l [u] = some y := by
  obtain ⟨n, y, hy⟩ := h.2 H enc w 0 _ true fuel cs x hf
  have hoff : off < cs.length := by have := h.1; omega
  refine ⟨cs[off], n, y, List.getElem?_eq_getElem hoff, ?_⟩
  rw [← hy, h1, List.drop_eq_getElem_cons hoff]
  rfl

/-- A slice of places that came in. -/
def Vecs (w : World) (A : Option Addr) (n : Nat) : Prop := ∀ i, i < n → ∃ (b o : Nat) (x y : Int), A = some ⟨b, o, none⟩ ∧ b < w.heap.size ∧ w.cell? ⟨b, o + i * 2, none⟩ = some (.int .i64 x) ∧ w.cell? ⟨b, o + i * 2 + 1, none⟩ = some (.int .i64 y) ∧
  (-9223372036854775808 ≤ x ∧ x ≤ 9223372036854775807) ∧ (-9223372036854775808 ≤ y ∧ y ≤ 9223372036854775807)
theorem Vecs.below {w w' : World} {A : Option Addr} {n : Nat} (h : Vecs w A n) (hb : Below w.heap.size w w') : Vecs w' A n := fun i hi => by
  obtain ⟨b, o, x, y, h1, h2, h3, h4, h5⟩ := h i hi
  exact ⟨b, o, x, y, h1, Nat.lt_of_lt_of_le h2 hb.size, (hb.cell h2).trans h3, (hb.cell h2).trans h4, h5⟩
set_option maxRecDepth 20000 in
theorem open_vecs {H : Type} {enc : TypeId × Value → H} {w : World} {fuel : Nat} {u : Value} {x : DataW H × List MemPlace} (hf : DataW.trod enc Try.prog w 0 (fun _ => true) true fuel 40 [u] = some x) :
    ∃ A n c, u = .slice A n c ∧ n ≤ c ∧ c ≤ maxLen ∧ Vecs w A n := by
  obtain ⟨A, n, c, he, hl, hm, hi⟩ := open_rows Try.underlying40 hf
  simp only [List.cons.injEq, and_true] at he
  refine ⟨A, n, c, he, hl, hm, fun i hlt => ?_⟩
  have hC : Try.prog.cellsOf 53 = 2 := by kernel_rfl
  obtain ⟨b1, o1, u1, x1, y1, e1, hb, hc1, ht1⟩ := hi i hlt 0 2 (Leaf.field Try.underlying53 0 _ rfl (of_decide_eq_true (by kernel_rfl))) (by kernel_rfl)
  obtain ⟨b2, o2, u2, x2, y2, e2, _, hc2, ht2⟩ := hi i hlt 1 2 (Leaf.field Try.underlying53 1 _ rfl (of_decide_eq_true (by kernel_rfl))) (by kernel_rfl)
  subst e1
  simp only [Option.some.injEq, Addr.mk.injEq, and_true] at e2
  obtain ⟨rfl, rfl⟩ := e2
  rw [hC] at hc1 hc2
  obtain ⟨x, h1, w1⟩ := open_num Try.underlying2 ht1
  obtain ⟨y, h2, w2⟩ := open_num Try.underlying2 ht2
  simp only [List.cons.injEq, and_true] at h1 h2
  subst h1; subst h2
  exact ⟨_, _, x, y, rfl, hb, hc1, by rw [Nat.add_assoc]; exact hc2, i64_of_wf w1, i64_of_wf w2⟩

theorem arr_of {cs : Array Value} {a b c d e : Value} (h : cs.size = 5) (h0 : cs.toList[0]? = some a) (h1 : cs.toList[1]? = some b) (h2 : cs.toList[2]? = some c) (h3 : cs.toList[3]? = some d) (h4 : cs.toList[4]? = some e) : cs = #[a, b, c, d, e] := by
  apply Array.ext_getElem?
  intro i
  rw [← Array.getElem?_toList]
  rcases (show i = 0 ∨ i = 1 ∨ i = 2 ∨ i = 3 ∨ i = 4 ∨ 5 ≤ i by omega) with rfl | rfl | rfl | rfl | rfl | hi
  · exact h0
  · exact h1
  · exact h2
  · exact h3
  · exact h4
  · rw [List.getElem?_eq_none (by simpa [h] using hi), Array.getElem?_eq_none (by simpa using hi)]

set_option maxRecDepth 20000 in
theorem open_ask6 {H : Type} {enc : TypeId × Value → H} {w : World} {base : Nat} {v : Value} {d : DataW H} {p : List MemPlace} (hv : Value.okWide Try.prog w .any base 42 v)
    (ht : DataW.Trod enc Try.prog w 0 (fun _ => true) true 42 v d p) : ∃ (W H : Int) (A : Option Addr) (n c : Nat) (l : List Int) (A1 : Option Addr) (n1 c1 : Nat) (l1 : List Int) (A2 : Option Addr) (n2 c2 : Nat),
      v = .agg #[.int .i64 W, .int .i64 H, .slice A n c, .slice A1 n1 c1, .slice A2 n2 c2] ∧ (-9223372036854775808 ≤ W ∧ W ≤ 9223372036854775807) ∧ (-9223372036854775808 ≤ H ∧ H ≤ 9223372036854775807) ∧
      Reads w w.heap.size 1 A n (nums .u8 l) ∧ IsBytes l ∧ (n ≤ c ∧ c ≤ maxLen) ∧ Reads w w.heap.size 1 A1 n1 (nums .i64 l1) ∧ (∀ z ∈ l1, -9223372036854775808 ≤ z ∧ z ≤ 9223372036854775807) ∧ (n1 ≤ c1 ∧ c1 ≤ maxLen) ∧ Vecs w A2 n2 ∧ (n2 ≤ c2 ∧ c2 ≤ maxLen) := by
  obtain ⟨cs, rfl, hsz⟩ := okWide_struct Try.underlying42 hv
  obtain ⟨fuel, hf⟩ := ht
  have hC : Try.prog.cellsOf 42 = 5 := by kernel_rfl
  have hlen : (Value.agg cs).cells.toList.length = Try.prog.cellsOf 42 := by simpa [Value.cells] using hsz
  obtain ⟨u0, m0, y0, g0, t0⟩ := Leaf.one (Leaf.trans (Leaf.field Try.underlying42 0 _ rfl (of_decide_eq_true (by kernel_rfl))) (Leaf.field Try.underlying39 0 _ rfl (of_decide_eq_true (by kernel_rfl))) rfl) (by kernel_rfl) hlen hf
  obtain ⟨u1, m1, y1, g1, t1⟩ := Leaf.one (Leaf.trans (Leaf.field Try.underlying42 0 _ rfl (of_decide_eq_true (by kernel_rfl))) (Leaf.field Try.underlying39 1 _ rfl (of_decide_eq_true (by kernel_rfl))) rfl) (by kernel_rfl) hlen hf
  obtain ⟨u2, m2, y2, g2, t2⟩ := Leaf.one (Leaf.trans (Leaf.field Try.underlying42 0 _ rfl (of_decide_eq_true (by kernel_rfl))) (Leaf.field Try.underlying39 2 _ rfl (of_decide_eq_true (by kernel_rfl))) rfl) (by kernel_rfl) hlen hf
  obtain ⟨u3, m3, y3, g3, t3⟩ := Leaf.one (Leaf.field Try.underlying42 1 _ rfl (of_decide_eq_true (by kernel_rfl))) (by kernel_rfl) hlen hf
  obtain ⟨u4, m4, y4, g4, t4⟩ := Leaf.one (Leaf.field Try.underlying42 2 _ rfl (of_decide_eq_true (by kernel_rfl))) (by kernel_rfl) hlen hf
  obtain ⟨W, k0, w0⟩ := open_num Try.underlying3 t0
  obtain ⟨H, k1, w1⟩ := open_num Try.underlying3 t1
  obtain ⟨A, n, c, l, k2, hl2, hm2, hr2, w2⟩ := open_nums Try.underlying37 Try.underlying5 (by kernel_rfl) t2
  obtain ⟨A1, n1, c1, l1, k3, hl3, hm3, hr3, w3⟩ := open_nums Try.underlying22 Try.underlying3 (by kernel_rfl) t3
  obtain ⟨A2, n2, c2, k4, hl4, hm4, hv4⟩ := open_vecs t4
  simp only [List.cons.injEq, and_true] at k0 k1 k2 k3
  subst k0; subst k1; subst k2; subst k3; subst k4
  refine ⟨W, H, A, n, c, l, A1, n1, c1, l1, A2, n2, c2, ?_, i64_of_wf w0, i64_of_wf w1, hr2, bytes_of_wf w2, ⟨hl2, hm2⟩, hr3, fun z hz => i64_of_wf (w3 z hz), ⟨hl3, hm3⟩, hv4, ⟨hl4, hm4⟩⟩
  congr 1
  exact arr_of (hsz.trans hC) g0 g1 g2 g3 g4

end Go.Proofs.Ytdcilabbjejklaa
