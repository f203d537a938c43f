/- What the laws on room are asked: a ground, buildings, a class. -/
import Derived.Test.YtfgjiaakoacomaaClearGrid
namespace Go.Proofs.Ytfgjiaakoacomaa
set_option maxRecDepth 20000
open Go.RowKit Go.WideShapes Go.ChangeShapes Go.ChangeAt

theorem bd_list {P : Nat → Bd → Prop} : ∀ n : Nat, (∀ i, i < n → ∃ z, P i z) → ∃ l : List Bd, l.length = n ∧ ∀ i, i < n → P i (bdAt l i)
  | 0, _ => ⟨[], rfl, fun i hi => absurd hi (by omega)⟩
  | n + 1, h => by
    obtain ⟨l, hl, hp⟩ := bd_list n (fun i hi => h i (by omega))
    obtain ⟨z, hz⟩ := h n (by omega)
    refine ⟨l ++ [z], by simp [hl], fun i hi => ?_⟩
    by_cases hin : i = n
    · subst hin
      have : bdAt (l ++ [z]) i = z := by simp [bdAt, List.getD, ← hl]
      rw [this]; exact hz
    · have : bdAt (l ++ [z]) i = bdAt l i := by simp [bdAt, List.getD, List.getElem?_append, hl, show i < n by omega]
      rw [this]; exact hp i (by omega)
set_option maxHeartbeats 800000 in
set_option maxRecDepth 20000 in
theorem open_bds {H : Type} {enc : TypeId × Value → H} {w : World} {fuel : Nat} {u : Value} {x : DataW H × List MemPlace} (hf : DataW.trod enc Try.prog w 0 (fun _ => true) true fuel 25 [u] = some x) :
    ∃ A n c l, u = .slice A n c ∧ n ≤ c ∧ c ≤ maxLen ∧ BdsL w A n l := by
  obtain ⟨A, n, c, he, hl, hm, hi⟩ := open_rows Try.underlying25 hf
  simp only [List.cons.injEq, and_true] at he
  have hC : Try.prog.cellsOf 76 = 6 := by kernel_rfl
  obtain ⟨l, hl1, hl2⟩ := bd_list (P := fun i z => ∃ b o : Nat, A = some ⟨b, o, none⟩ ∧ b < w.heap.size ∧ (w.cell? ⟨b, o + i * 6, none⟩ = some (.int .i64 z.id) ∧ w.cell? ⟨b, o + i * 6 + 1, none⟩ = some (.int .i64 z.ow) ∧ w.cell? ⟨b, o + i * 6 + 2, none⟩ = some (.int .i64 z.x) ∧ w.cell? ⟨b, o + i * 6 + 3, none⟩ = some (.int .i64 z.y) ∧ w.cell? ⟨b, o + i * 6 + 4, none⟩ = some (.int .i64 z.w) ∧ w.cell? ⟨b, o + i * 6 + 5, none⟩ = some (.int .i64 z.h)) ∧ i64P z.id ∧ i64P z.ow ∧ i64P z.x ∧ i64P z.y ∧ i64P z.w ∧ i64P z.h) n (fun i hlt => by
    obtain ⟨b0, o0, u0, x0, y0, e0, hb, hc0, ht0⟩ := hi i hlt 0 3 (Leaf.field Try.underlying76 0 _ rfl (of_decide_eq_true (by kernel_rfl))) (by kernel_rfl)
    obtain ⟨b1, o1, u1, x1, y1, e1, _, hc1, ht1⟩ := hi i hlt 1 3 (Leaf.field Try.underlying76 1 _ rfl (of_decide_eq_true (by kernel_rfl))) (by kernel_rfl)
    obtain ⟨b2, o2, u2, x2, y2, e2, _, hc2, ht2⟩ := hi i hlt 2 3 (Leaf.field Try.underlying76 2 _ rfl (of_decide_eq_true (by kernel_rfl))) (by kernel_rfl)
    obtain ⟨b3, o3, u3, x3, y3, e3, _, hc3, ht3⟩ := hi i hlt 3 3 (Leaf.field Try.underlying76 3 _ rfl (of_decide_eq_true (by kernel_rfl))) (by kernel_rfl)
    obtain ⟨b4, o4, u4, x4, y4, e4, _, hc4, ht4⟩ := hi i hlt 4 3 (Leaf.field Try.underlying76 4 _ rfl (of_decide_eq_true (by kernel_rfl))) (by kernel_rfl)
    obtain ⟨b5, o5, u5, x5, y5, e5, _, hc5, ht5⟩ := hi i hlt 5 3 (Leaf.field Try.underlying76 5 _ rfl (of_decide_eq_true (by kernel_rfl))) (by kernel_rfl)
    subst e0
    simp only [Option.some.injEq, Addr.mk.injEq, and_true] at e1
    obtain ⟨rfl, rfl⟩ := e1
    simp only [Option.some.injEq, Addr.mk.injEq, and_true] at e2
    obtain ⟨rfl, rfl⟩ := e2
    simp only [Option.some.injEq, Addr.mk.injEq, and_true] at e3
    obtain ⟨rfl, rfl⟩ := e3
    simp only [Option.some.injEq, Addr.mk.injEq, and_true] at e4
    obtain ⟨rfl, rfl⟩ := e4
    simp only [Option.some.injEq, Addr.mk.injEq, and_true] at e5
    obtain ⟨rfl, rfl⟩ := e5
    rw [hC] at hc0 hc1 hc2 hc3 hc4 hc5
    obtain ⟨v0, h0, w0⟩ := open_num Try.underlying3 ht0
    obtain ⟨v1, h1, w1⟩ := open_num Try.underlying3 ht1
    obtain ⟨v2, h2, w2⟩ := open_num Try.underlying3 ht2
    obtain ⟨v3, h3, w3⟩ := open_num Try.underlying3 ht3
    obtain ⟨v4, h4, w4⟩ := open_num Try.underlying3 ht4
    obtain ⟨v5, h5, w5⟩ := open_num Try.underlying3 ht5
    simp only [List.cons.injEq, and_true] at h0 h1 h2 h3 h4 h5
    subst h0; subst h1; subst h2; subst h3; subst h4; subst h5
    exact ⟨⟨v0, v1, v2, v3, v4, v5⟩, _, _, rfl, hb, ⟨hc0, by rw [Nat.add_assoc]; exact hc1, by rw [Nat.add_assoc]; exact hc2, by rw [Nat.add_assoc]; exact hc3, by rw [Nat.add_assoc]; exact hc4, by rw [Nat.add_assoc]; exact hc5⟩, i64_of_wf w0, i64_of_wf w1, i64_of_wf w2, i64_of_wf w3, i64_of_wf w4, i64_of_wf w5⟩)
  exact ⟨A, n, c, l, he, hl, hm, hl1, hl2⟩
theorem Leaf.one9 {H : Type} {enc : TypeId × Value → H} {P : Program} {w : World} {fuel : Nat} {t l : TypeId} {off : Nat} {cs : List Value} {x : DataW H × List MemPlace} (h : Leaf P t off l) (h1 : P.cellsOf l = 1) (hlen : cs.length = P.cellsOf t)
    (hf : DataW.trod enc P w 0 (fun _ => true) true fuel t cs = some x) : ∃ (u : Value) (m : Nat) (y : DataW H × List MemPlace), cs[off]? = some u ∧ DataW.trod enc P w 0 (fun _ => true) true m l [u] = some y := by
  obtain ⟨n, y, hy⟩ := h.2 H enc w 0 _ true fuel cs x hf
  have hoff : off < cs.length := by have := h.1; omega
  refine ⟨cs[off], n, y, List.getElem?_eq_getElem hoff, ?_⟩
  rw [← hy, h1, List.drop_eq_getElem_cons hoff]
  rfl
theorem arr_of9 {cs : Array Value} {a b c d e : Value} (h : cs.size = 5) (h0 : cs.toList[0]? = some a) (h1 : cs.toList[1]? = some b) (h2 : cs.toList[2]? = some c) (h3 : cs.toList[3]? = some d) (h4 : cs.toList[4]? = some e) : cs = #[a, b, c, d, e] := by
  apply Array.ext_getElem?
  intro i
  rw [← Array.getElem?_toList]
  rcases (show i = 0 ∨ i = 1 ∨ i = 2 ∨ i = 3 ∨ i = 4 ∨ 5 ≤ i by omega) with rfl | rfl | rfl | rfl | rfl | hi
  · exact h0
  · exact h1
  · exact h2
  · exact h3
  · exact h4
  · rw [List.getElem?_eq_none (by simpa [h] using hi), Array.getElem?_eq_none (by simpa using hi)]
set_option maxHeartbeats 800000 in
set_option maxRecDepth 20000 in
theorem open_ask9 {H : Type} {enc : TypeId × Value → H} {w : World} {base : Nat} {v : Value} {d : DataW H} {p : List MemPlace} (hv : Value.okWide Try.prog w .any base 27 v)
    (ht : DataW.Trod enc Try.prog w 0 (fun _ => true) true 27 v d p) : ∃ (W H : Int) (A : Option Addr) (n c : Nat) (l : List Int) (A1 : Option Addr) (n1 c1 : Nat) (l1 : List Bd) (k : Int),
      v = .agg #[.int .i64 W, .int .i64 H, .slice A n c, .slice A1 n1 c1, .int .i64 k] ∧ i64P W ∧ i64P H ∧ Reads w w.heap.size 1 A n (nums .u8 l) ∧ IsBytes l ∧ (n ≤ c ∧ c ≤ maxLen) ∧ BdsL w A1 n1 l1 ∧ (n1 ≤ c1 ∧ c1 ≤ maxLen) ∧ i64P k := by
  obtain ⟨cs, rfl, hsz⟩ := okWide_struct Try.underlying27 hv
  obtain ⟨fuel, hf⟩ := ht
  have hC : Try.prog.cellsOf 27 = 5 := by kernel_rfl
  have hlen : (Value.agg cs).cells.toList.length = Try.prog.cellsOf 27 := by simpa [Value.cells] using hsz
  obtain ⟨u0, m0, y0, g0, t0⟩ := Leaf.one9 (Leaf.trans (Leaf.field Try.underlying27 0 _ rfl (of_decide_eq_true (by kernel_rfl))) (Leaf.field Try.underlying24 0 _ rfl (of_decide_eq_true (by kernel_rfl))) rfl) (by kernel_rfl) hlen hf
  obtain ⟨u1, m1, y1, g1, t1⟩ := Leaf.one9 (Leaf.trans (Leaf.field Try.underlying27 0 _ rfl (of_decide_eq_true (by kernel_rfl))) (Leaf.field Try.underlying24 1 _ rfl (of_decide_eq_true (by kernel_rfl))) rfl) (by kernel_rfl) hlen hf
  obtain ⟨u2, m2, y2, g2, t2⟩ := Leaf.one9 (Leaf.trans (Leaf.field Try.underlying27 0 _ rfl (of_decide_eq_true (by kernel_rfl))) (Leaf.field Try.underlying24 2 _ rfl (of_decide_eq_true (by kernel_rfl))) rfl) (by kernel_rfl) hlen hf
  obtain ⟨u3, m3, y3, g3, t3⟩ := Leaf.one9 (Leaf.field Try.underlying27 1 _ rfl (of_decide_eq_true (by kernel_rfl))) (by kernel_rfl) hlen hf
  obtain ⟨u4, m4, y4, g4, t4⟩ := Leaf.one9 (Leaf.field Try.underlying27 2 _ rfl (of_decide_eq_true (by kernel_rfl))) (by kernel_rfl) hlen hf
  obtain ⟨W, k0, w0⟩ := open_num Try.underlying3 t0
  obtain ⟨H, k1, w1⟩ := open_num Try.underlying3 t1
  obtain ⟨A, n, c, l, k2, hl2, hm2, hr2, w2⟩ := open_nums Try.underlying22 Try.underlying5 (by kernel_rfl) t2
  obtain ⟨A1, n1, c1, l1, k3, hl3, hm3, hv3⟩ := open_bds t3
  obtain ⟨k, k4, w4⟩ := open_num Try.underlying3 t4
  simp only [List.cons.injEq, and_true] at k0 k1 k2 k4
  subst k0; subst k1; subst k2; subst k3; subst k4
  refine ⟨W, H, A, n, c, l, A1, n1, c1, l1, k, ?_, i64_of_wf w0, i64_of_wf w1, hr2, bytes_of_wf w2, ⟨hl2, hm2⟩, hv3, ⟨hl3, hm3⟩, i64_of_wf w4⟩
  congr 1
  exact arr_of9 (hsz.trans hC) g0 g1 g2 g3 g4

set_option maxHeartbeats 800000 in
set_option maxRecDepth 20000 in
theorem great_is (W H : Int) (A A1 : Option Addr) (n c n1 c1 : Nat) (w : World) (hn : (n : Int) ≤ 9223372036854775807) (hn1 : (n1 : Int) ≤ 9223372036854775807) :
    Calls Try.prog 37 #[.agg #[.int .i64 W, .int .i64 H, .slice A n c], .slice A1 n1 c1] w fun e w' => e = .returned (.bool (decide (700 < n ∨ 30 < n1))) ∧ Below w.heap.size w w' := by
  have hb := (Below.refl w.heap.size w).alloc (Nat.le_refl _) (.cells #[.int .i64 W, .int .i64 H, .slice A n c] 24)
  by_cases h1 : 700 < n
  · have d1 : decide ((700 : Int) < (n : Int)) = true := by simp; omega
    rw [decide_eq_true (show 700 < n ∨ 30 < n1 from .inl h1)]
    go_enter Try.func37, Try.ntmps37
    go_wp2_with fail
    go_ret
    exact ⟨rfl, hb⟩
  · have d1 : decide ((700 : Int) < (n : Int)) = false := by simp; omega
    by_cases h2 : 30 < n1
    · have d2 : decide ((30 : Int) < (n1 : Int)) = true := by simp; omega
      rw [decide_eq_true (show 700 < n ∨ 30 < n1 from .inr h2)]
      go_enter Try.func37, Try.ntmps37
      go_wp2_with fail
      go_ret
      exact ⟨rfl, hb⟩
    · have d2 : decide ((30 : Int) < (n1 : Int)) = false := by simp; omega
      rw [decide_eq_false (show ¬ (700 < n ∨ 30 < n1) by omega)]
      go_enter Try.func37, Try.ntmps37
      go_wp2_with fail
      go_ret
      exact ⟨rfl, hb⟩
set_option maxHeartbeats 800000 in
set_option maxRecDepth 20000 in
theorem heavy9 (W H k : Int) (A A1 : Option Addr) (n c n1 c1 : Nat) (w : World) (hn : (n : Int) ≤ 9223372036854775807) (hn1 : (n1 : Int) ≤ 9223372036854775807) :
    Calls Try.prog 11 #[.agg #[.int .i64 W, .int .i64 H, .slice A n c, .slice A1 n1 c1, .int .i64 k]] w fun e w' => e = .returned (.bool (decide (700 < n ∨ 30 < n1))) ∧ Below w.heap.size w w' := by
  have hb := (Below.refl w.heap.size w).alloc (Nat.le_refl _) (.cells #[.int .i64 W, .int .i64 H, .slice A n c, .slice A1 n1 c1, .int .i64 k] 27)
  have C := Lib.hid (fun W' => great_is W H A A1 n c n1 c1 W' hn hn1)
  generalize decide (700 < n ∨ 30 < n1) = dd at *
  go_enter Try.func11, Try.ntmps11
  go_wp2_with fail
  refine Calls.mono (C.out _) ?_
  rintro e w2 ⟨rfl, hb2⟩
  go_wp2_with fail
  go_ret
  exact ⟨rfl, hb.trans (hb2.mono hb.size)⟩
theorem num9 (x : Int) (w : World) : Calls Try.prog 15 #[.int .i64 x] w fun e w' => e = .returned (.int .i64 x) ∧ w = w' := by
  go_enter Try.func15, Try.ntmps15
  go_wp2_with fail
  go_ret
  exact ⟨rfl, rfl⟩
end Go.Proofs.Ytfgjiaakoacomaa
