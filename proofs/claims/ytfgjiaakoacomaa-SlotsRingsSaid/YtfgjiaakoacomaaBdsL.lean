/- A slice of buildings that came in. -/
import Derived.Test.YtfgjiaakoacomaaBuildRise
import Derived.Test.YtfgjiaakoacomaaOpen
namespace Go.Proofs.Ytfgjiaakoacomaa
set_option maxRecDepth 20000
open Go.RowKit Go.WideShapes Go.ChangeShapes Go.ChangeAt

theorem bd_list {P : Nat → Bd → Prop} : ∀ n : Nat, (∀ i, i < n → ∃ z, P i z) → ∃ l : List Bd, l.length = n ∧ ∀ i, i < n → P i (bdAt l i)
  | 0, _ => ⟨[], rfl, fun i hi => absurd hi (by omega)⟩
  | n + 1, h => by
    obtain ⟨l, hl, hp⟩ := bd_list n (fun i hi => h i (by omega))
    obtain ⟨z, hz⟩ := h n (by omega)
    refine ⟨l ++ [z], by simp [hl], fun i hi => ?_⟩
    by_cases hin : i = n
    · subst hin
      have : bdAt (l ++ [z]) i = z := by simp [bdAt, List.getD, ← hl]
      rw [this]; exact hz
    · have : bdAt (l ++ [z]) i = bdAt l i := by simp [bdAt, List.getD, List.getElem?_append, hl, show i < n by omega]
      rw [this]; exact hp i (by omega)
set_option maxHeartbeats 800000 in
set_option maxRecDepth 20000 in
theorem open_bds {H : Type} {enc : TypeId × Value → H} {w : World} {fuel : Nat} {u : Value} {x : DataW H × List MemPlace} (hf : DataW.trod enc Try.prog w 0 (fun _ => true) true fuel 25 [u] = some x) :
    ∃ A n c l, u = .slice A n c ∧ n ≤ c ∧ c ≤ maxLen ∧ BdsL w A n l := by
  obtain ⟨A, n, c, he, hl, hm, hi⟩ := open_rows Try.underlying25 hf
  simp only [List.cons.injEq, and_true] at he
  have hC : Try.prog.cellsOf 76 = 6 := by kernel_rfl
  obtain ⟨l, hl1, hl2⟩ := bd_list (P := fun i z => ∃ b o : Nat, A = some ⟨b, o, none⟩ ∧ b < w.heap.size ∧ (w.cell? ⟨b, o + i * 6, none⟩ = some (.int .i64 z.id) ∧ w.cell? ⟨b, o + i * 6 + 1, none⟩ = some (.int .i64 z.ow) ∧ w.cell? ⟨b, o + i * 6 + 2, none⟩ = some (.int .i64 z.x) ∧ w.cell? ⟨b, o + i * 6 + 3, none⟩ = some (.int .i64 z.y) ∧ w.cell? ⟨b, o + i * 6 + 4, none⟩ = some (.int .i64 z.w) ∧ w.cell? ⟨b, o + i * 6 + 5, none⟩ = some (.int .i64 z.h)) ∧ i64P z.id ∧ i64P z.ow ∧ i64P z.x ∧ i64P z.y ∧ i64P z.w ∧ i64P z.h) n (fun i hlt => by
    obtain ⟨b0, o0, u0, x0, y0, e0, hb, hc0, ht0⟩ := hi i hlt 0 3 (Leaf.field Try.underlying76 0 _ rfl (of_decide_eq_true (by kernel_rfl))) (by kernel_rfl)
    obtain ⟨b1, o1, u1, x1, y1, e1, _, hc1, ht1⟩ := hi i hlt 1 3 (Leaf.field Try.underlying76 1 _ rfl (of_decide_eq_true (by kernel_rfl))) (by kernel_rfl)
    obtain ⟨b2, o2, u2, x2, y2, e2, _, hc2, ht2⟩ := hi i hlt 2 3 (Leaf.field Try.underlying76 2 _ rfl (of_decide_eq_true (by kernel_rfl))) (by kernel_rfl)
    obtain ⟨b3, o3, u3, x3, y3, e3, _, hc3, ht3⟩ := hi i hlt 3 3 (Leaf.field Try.underlying76 3 _ rfl (of_decide_eq_true (by kernel_rfl))) (by kernel_rfl)
    obtain ⟨b4, o4, u4, x4, y4, e4, _, hc4, ht4⟩ := hi i hlt 4 3 (Leaf.field Try.underlying76 4 _ rfl (of_decide_eq_true (by kernel_rfl))) (by kernel_rfl)
    obtain ⟨b5, o5, u5, x5, y5, e5, _, hc5, ht5⟩ := hi i hlt 5 3 (Leaf.field Try.underlying76 5 _ rfl (of_decide_eq_true (by kernel_rfl))) (by kernel_rfl)
    subst e0
    simp only [Option.some.injEq, Addr.mk.injEq, and_true] at e1
    obtain ⟨rfl, rfl⟩ := e1
    simp only [Option.some.injEq, Addr.mk.injEq, and_true] at e2
    obtain ⟨rfl, rfl⟩ := e2
    simp only [Option.some.injEq, Addr.mk.injEq, and_true] at e3
    obtain ⟨rfl, rfl⟩ := e3
    simp only [Option.some.injEq, Addr.mk.injEq, and_true] at e4
    obtain ⟨rfl, rfl⟩ := e4
    simp only [Option.some.injEq, Addr.mk.injEq, and_true] at e5
    obtain ⟨rfl, rfl⟩ := e5
    rw [hC] at hc0 hc1 hc2 hc3 hc4 hc5
    obtain ⟨v0, h0, w0⟩ := open_num Try.underlying3 ht0
    obtain ⟨v1, h1, w1⟩ := open_num Try.underlying3 ht1
    obtain ⟨v2, h2, w2⟩ := open_num Try.underlying3 ht2
    obtain ⟨v3, h3, w3⟩ := open_num Try.underlying3 ht3
    obtain ⟨v4, h4, w4⟩ := open_num Try.underlying3 ht4
    obtain ⟨v5, h5, w5⟩ := open_num Try.underlying3 ht5
    simp only [List.cons.injEq, and_true] at h0 h1 h2 h3 h4 h5
    subst h0; subst h1; subst h2; subst h3; subst h4; subst h5
    exact ⟨⟨v0, v1, v2, v3, v4, v5⟩, _, _, rfl, hb, ⟨hc0, by rw [Nat.add_assoc]; exact hc1, by rw [Nat.add_assoc]; exact hc2, by rw [Nat.add_assoc]; exact hc3, by rw [Nat.add_assoc]; exact hc4, by rw [Nat.add_assoc]; exact hc5⟩, i64_of_wf w0, i64_of_wf w1, i64_of_wf w2, i64_of_wf w3, i64_of_wf w4, i64_of_wf w5⟩)
  exact ⟨A, n, c, l, he, hl, hm, hl1, hl2⟩
end Go.Proofs.Ytfgjiaakoacomaa
