/- What the laws on room are asked: a ground, buildings, a class. -/
import Derived.Test.YtfgjiaakoacomaaClearGrid
import Derived.Test.YtfgjiaakoacomaaBdsL
namespace Go.Proofs.Ytfgjiaakoacomaa
set_option maxRecDepth 20000
open Go.RowKit Go.WideShapes Go.ChangeShapes Go.ChangeAt

theorem Leaf.one9 {H : Type} {enc : TypeId × Value → H} {P : Program} {w : World} {fuel : Nat} {t l : TypeId} {off : Nat} {cs : List Value} {x : DataW H × List MemPlace} (h : Leaf P t off l) (h1 : P.cellsOf l = 1) (hlen : cs.length = P.cellsOf t)
    (hf : DataW.trod enc P w 0 (fun _ => true) true fuel t cs = some x) : ∃ (u : Value) (m : Nat) (y : DataW H × List MemPlace), cs[off]? = some u ∧ DataW.trod enc P w 0 (fun _ => true) true m l [u] = some y := by
  obtain ⟨n, y, hy⟩ := h.2 H enc w 0 _ true fuel cs x hf
  have hoff : off < cs.length := by have := h.1; omega
  refine ⟨cs[off], n, y, List.getElem?_eq_getElem hoff, ?_⟩
  rw [← hy, h1, List.drop_eq_getElem_cons hoff]
  rfl
theorem arr_of9 {cs : Array Value} {a b c d e : Value} (h : cs.size = 5) (h0 : cs.toList[0]? = some a) (h1 : cs.toList[1]? = some b) (h2 : cs.toList[2]? = some c) (h3 : cs.toList[3]? = some d) (h4 : cs.toList[4]? = some e) : cs = #[a, b, c, d, e] := by
  apply Array.ext_getElem?
  intro i
  rw [← Array.getElem?_toList]
  rcases (show i = 0 ∨ i = 1 ∨ i = 2 ∨ i = 3 ∨ i = 4 ∨ 5 ≤ i by omega) with rfl | rfl | rfl | rfl | rfl | hi
  · exact h0
  · exact h1
  · exact h2
  · exact h3
  · exact h4
  · rw [List.getElem?_eq_none (by simpa [h] using hi), Array.getElem?_eq_none (by simpa using hi)]
set_option maxHeartbeats 800000 in
set_option maxRecDepth 20000 in
theorem open_ask9 {H : Type} {enc : TypeId × Value → H} {w : World} {base : Nat} {v : Value} {d : DataW H} {p : List MemPlace} (hv : Value.okWide Try.prog w .any base 27 v)
    (ht : DataW.Trod enc Try.prog w 0 (fun _ => true) true 27 v d p) : ∃ (W H : Int) (A : Option Addr) (n c : Nat) (l : List Int) (A1 : Option Addr) (n1 c1 : Nat) (l1 : List Bd) (k : Int),
      v = .agg #[.int .i64 W, .int .i64 H, .slice A n c, .slice A1 n1 c1, .int .i64 k] ∧ i64P W ∧ i64P H ∧ Reads w w.heap.size 1 A n (nums .u8 l) ∧ IsBytes l ∧ (n ≤ c ∧ c ≤ maxLen) ∧ BdsL w A1 n1 l1 ∧ (n1 ≤ c1 ∧ c1 ≤ maxLen) ∧ i64P k := by
  obtain ⟨cs, rfl, hsz⟩ := okWide_struct Try.underlying27 hv
  obtain ⟨fuel, hf⟩ := ht
  have hC : Try.prog.cellsOf 27 = 5 := by kernel_rfl
  have hlen : (Value.agg cs).cells.toList.length = Try.prog.cellsOf 27 := by simpa [Value.cells] using hsz
  obtain ⟨u0, m0, y0, g0, t0⟩ := Leaf.one9 (Leaf.trans (Leaf.field Try.underlying27 0 _ rfl (of_decide_eq_true (by kernel_rfl))) (Leaf.field Try.underlying24 0 _ rfl (of_decide_eq_true (by kernel_rfl))) rfl) (by kernel_rfl) hlen hf
  obtain ⟨u1, m1, y1, g1, t1⟩ := Leaf.one9 (Leaf.trans (Leaf.field Try.underlying27 0 _ rfl (of_decide_eq_true (by kernel_rfl))) (Leaf.field Try.underlying24 1 _ rfl (of_decide_eq_true (by kernel_rfl))) rfl) (by kernel_rfl) hlen hf
  obtain ⟨u2, m2, y2, g2, t2⟩ := Leaf.one9 (Leaf.trans (Leaf.field Try.underlying27 0 _ rfl (of_decide_eq_true (by kernel_rfl))) (Leaf.field Try.underlying24 2 _ rfl (of_decide_eq_true (by kernel_rfl))) rfl) (by kernel_rfl) hlen hf
  obtain ⟨u3, m3, y3, g3, t3⟩ := Leaf.one9 (Leaf.field Try.underlying27 1 _ rfl (of_decide_eq_true (by kernel_rfl))) (by kernel_rfl) hlen hf
  obtain ⟨u4, m4, y4, g4, t4⟩ := Leaf.one9 (Leaf.field Try.underlying27 2 _ rfl (of_decide_eq_true (by kernel_rfl))) (by kernel_rfl) hlen hf
  obtain ⟨W, k0, w0⟩ := open_num Try.underlying3 t0
  obtain ⟨H, k1, w1⟩ := open_num Try.underlying3 t1
  obtain ⟨A, n, c, l, k2, hl2, hm2, hr2, w2⟩ := open_nums Try.underlying22 Try.underlying5 (by kernel_rfl) t2
  obtain ⟨A1, n1, c1, l1, k3, hl3, hm3, hv3⟩ := open_bds t3
  obtain ⟨k, k4, w4⟩ := open_num Try.underlying3 t4
  simp only [List.cons.injEq, and_true] at k0 k1 k2 k4
  subst k0; subst k1; subst k2; subst k3; subst k4
  refine ⟨W, H, A, n, c, l, A1, n1, c1, l1, k, ?_, i64_of_wf w0, i64_of_wf w1, hr2, bytes_of_wf w2, ⟨hl2, hm2⟩, hv3, ⟨hl3, hm3⟩, i64_of_wf w4⟩
  congr 1
  exact arr_of9 (hsz.trans hC) g0 g1 g2 g3 g4

set_option maxHeartbeats 800000 in
set_option maxRecDepth 20000 in
theorem great_is (W H : Int) (A A1 : Option Addr) (n c n1 c1 : Nat) (w : World) (hn : (n : Int) ≤ 9223372036854775807) (hn1 : (n1 : Int) ≤ 9223372036854775807) :
    Calls Try.prog 37 #[.agg #[.int .i64 W, .int .i64 H, .slice A n c], .slice A1 n1 c1] w fun e w' => e = .returned (.bool (decide (700 < n ∨ 30 < n1))) ∧ Below w.heap.size w w' := by
  have hb := (Below.refl w.heap.size w).alloc (Nat.le_refl _) (.cells #[.int .i64 W, .int .i64 H, .slice A n c] 24)
  by_cases h1 : 700 < n
  · have d1 : decide ((700 : Int) < (n : Int)) = true := by simp; omega
    rw [decide_eq_true (show 700 < n ∨ 30 < n1 from .inl h1)]
    go_enter Try.func37, Try.ntmps37
    go_wp2_with fail
    go_ret
    exact ⟨rfl, hb⟩
  · have d1 : decide ((700 : Int) < (n : Int)) = false := by simp; omega
    by_cases h2 : 30 < n1
    · have d2 : decide ((30 : Int) < (n1 : Int)) = true := by simp; omega
      rw [decide_eq_true (show 700 < n ∨ 30 < n1 from .inr h2)]
      go_enter Try.func37, Try.ntmps37
      go_wp2_with fail
      go_ret
      exact ⟨rfl, hb⟩
    · have d2 : decide ((30 : Int) < (n1 : Int)) = false := by simp; omega
      rw [decide_eq_false (show ¬ (700 < n ∨ 30 < n1) by omega)]
      go_enter Try.func37, Try.ntmps37
      go_wp2_with fail
      go_ret
      exact ⟨rfl, hb⟩
set_option maxHeartbeats 800000 in
set_option maxRecDepth 20000 in
theorem heavy9 (W H k : Int) (A A1 : Option Addr) (n c n1 c1 : Nat) (w : World) (hn : (n : Int) ≤ 9223372036854775807) (hn1 : (n1 : Int) ≤ 9223372036854775807) :
    Calls Try.prog 11 #[.agg #[.int .i64 W, .int .i64 H, .slice A n c, .slice A1 n1 c1, .int .i64 k]] w fun e w' => e = .returned (.bool (decide (700 < n ∨ 30 < n1))) ∧ Below w.heap.size w w' := by
  have hb := (Below.refl w.heap.size w).alloc (Nat.le_refl _) (.cells #[.int .i64 W, .int .i64 H, .slice A n c, .slice A1 n1 c1, .int .i64 k] 27)
  have C := Lib.hid (fun W' => great_is W H A A1 n c n1 c1 W' hn hn1)
  generalize decide (700 < n ∨ 30 < n1) = dd at *
  go_enter Try.func11, Try.ntmps11
  go_wp2_with fail
  refine Calls.mono (C.out _) ?_
  rintro e w2 ⟨rfl, hb2⟩
  go_wp2_with fail
  go_ret
  exact ⟨rfl, hb.trans (hb2.mono hb.size)⟩
theorem num9 (x : Int) (w : World) : Calls Try.prog 15 #[.int .i64 x] w fun e w' => e = .returned (.int .i64 x) ∧ w = w' := by
  go_enter Try.func15, Try.ntmps15
  go_wp2_with fail
  go_ret
  exact ⟨rfl, rfl⟩
end Go.Proofs.Ytfgjiaakoacomaa
