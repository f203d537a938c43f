/- What the laws on good tiles are asked: a ground, buildings, a class, a size, tiles, numbers. -/
import Derived.Test.YtfgjiaakoacomaaClearWake
import Derived.Test.YtfgjiaakoacomaaFieldMay
namespace Go.Proofs.Ytfgjiaakoacomaa
set_option maxRecDepth 20000
open Go.RowKit Go.WideShapes Go.ChangeShapes Go.ChangeAt

theorem arr_ask13 {cs : Array Value} {a0 a1 a2 a3 a4 a5 a6 : Value} (h : cs.size = 7) (h0 : cs.toList[0]? = some a0) (h1 : cs.toList[1]? = some a1) (h2 : cs.toList[2]? = some a2) (h3 : cs.toList[3]? = some a3) (h4 : cs.toList[4]? = some a4) (h5 : cs.toList[5]? = some a5) (h6 : cs.toList[6]? = some a6) : cs = #[a0, a1, a2, a3, a4, a5, a6] := by
  apply Array.ext_getElem?
  intro i
  rw [← Array.getElem?_toList]
  rcases (show i = 0 ∨ i = 1 ∨ i = 2 ∨ i = 3 ∨ i = 4 ∨ i = 5 ∨ i = 6 ∨ 7 ≤ i by omega) with rfl | rfl | rfl | rfl | rfl | rfl | rfl | hi
  · exact h0
  · exact h1
  · exact h2
  · exact h3
  · exact h4
  · exact h5
  · exact h6
  · rw [List.getElem?_eq_none (by simpa [h] using hi), Array.getElem?_eq_none (by simpa using hi)]
set_option maxHeartbeats 800000 in
set_option maxRecDepth 20000 in
theorem open_ask13 {H : Type} {enc : TypeId × Value → H} {w : World} {base : Nat} {v : Value} {d : DataW H} {p : List MemPlace} (hv : Value.okWide Try.prog w .any base 48 v)
    (ht : DataW.Trod enc Try.prog w 0 (fun _ => true) true 48 v d p) : ∃ (W H : Int) (A : Option Addr) (n c : Nat) (l : List Int) (A1 : Option Addr) (n1 c1 : Nat) (l1 : List Bd) (k s : Int) (A2 : Option Addr) (n2 c2 : Nat) (l2 : List Int),
      v = .agg #[.int .i64 W, .int .i64 H, .slice A n c, .slice A1 n1 c1, .int .i64 k, .int .i64 s, .slice A2 n2 c2] ∧ i64P W ∧ i64P H ∧ Reads w w.heap.size 1 A n (nums .u8 l) ∧ IsBytes l ∧ (n ≤ c ∧ c ≤ maxLen) ∧ BdsL w A1 n1 l1 ∧ (n1 ≤ c1 ∧ c1 ≤ maxLen) ∧ i64P k ∧ i64P s ∧ Reads w w.heap.size 1 A2 n2 (nums .i64 l2) ∧ (n2 ≤ c2 ∧ c2 ≤ maxLen) ∧ (∀ x ∈ l2, i64P x) := by
  obtain ⟨cs, rfl, hsz⟩ := okWide_struct Try.underlying48 hv
  obtain ⟨fuel, hf⟩ := ht
  have hC : Try.prog.cellsOf 48 = 7 := by kernel_rfl
  have hlen : (Value.agg cs).cells.toList.length = Try.prog.cellsOf 48 := by simpa [Value.cells] using hsz
  obtain ⟨u0, m0, y0, g0, t0⟩ := Leaf.one9 (Leaf.trans (Leaf.field Try.underlying48 0 _ rfl (of_decide_eq_true (by kernel_rfl))) (Leaf.field Try.underlying24 0 _ rfl (of_decide_eq_true (by kernel_rfl))) rfl) (by kernel_rfl) hlen hf
  obtain ⟨u1, m1, y1, g1, t1⟩ := Leaf.one9 (Leaf.trans (Leaf.field Try.underlying48 0 _ rfl (of_decide_eq_true (by kernel_rfl))) (Leaf.field Try.underlying24 1 _ rfl (of_decide_eq_true (by kernel_rfl))) rfl) (by kernel_rfl) hlen hf
  obtain ⟨u2, m2, y2, g2, t2⟩ := Leaf.one9 (Leaf.trans (Leaf.field Try.underlying48 0 _ rfl (of_decide_eq_true (by kernel_rfl))) (Leaf.field Try.underlying24 2 _ rfl (of_decide_eq_true (by kernel_rfl))) rfl) (by kernel_rfl) hlen hf
  obtain ⟨u3, m3, y3, g3, t3⟩ := Leaf.one9 (Leaf.field Try.underlying48 1 _ rfl (of_decide_eq_true (by kernel_rfl))) (by kernel_rfl) hlen hf
  obtain ⟨u4, m4, y4, g4, t4⟩ := Leaf.one9 (Leaf.field Try.underlying48 2 _ rfl (of_decide_eq_true (by kernel_rfl))) (by kernel_rfl) hlen hf
  obtain ⟨u5, m5, y5, g5, t5⟩ := Leaf.one9 (Leaf.field Try.underlying48 3 _ rfl (of_decide_eq_true (by kernel_rfl))) (by kernel_rfl) hlen hf
  obtain ⟨u6, m6, y6, g6, t6⟩ := Leaf.one9 (Leaf.field Try.underlying48 4 _ rfl (of_decide_eq_true (by kernel_rfl))) (by kernel_rfl) hlen hf
  obtain ⟨W, k0, w0⟩ := open_num Try.underlying3 t0
  obtain ⟨H, k1, w1⟩ := open_num Try.underlying3 t1
  obtain ⟨A, n, c, l, k2, hl2, hm2, hr2, w2⟩ := open_nums Try.underlying22 Try.underlying5 (by kernel_rfl) t2
  obtain ⟨A1, n1, c1, l1, k3, hl3, hm3, hv3⟩ := open_bds t3
  obtain ⟨k, k4, w4⟩ := open_num Try.underlying3 t4
  obtain ⟨s, k5, w5⟩ := open_num Try.underlying3 t5
  obtain ⟨A2, n2, c2, l2, k6, hl6, hm6, hr6, w6⟩ := open_nums Try.underlying30 Try.underlying3 (by kernel_rfl) t6
  simp only [List.cons.injEq, and_true] at k0 k1 k2 k4 k5 k6
  subst k0; subst k1; subst k2; subst k3; subst k4; subst k5; subst k6
  refine ⟨W, H, A, n, c, l, A1, n1, c1, l1, k, s, A2, n2, c2, l2, ?_, i64_of_wf w0, i64_of_wf w1, hr2, bytes_of_wf w2, ⟨hl2, hm2⟩, hv3, ⟨hl3, hm3⟩, i64_of_wf w4, i64_of_wf w5, hr6, ⟨hl6, hm6⟩, fun x hx => i64_of_wf (w6 x hx)⟩
  congr 1
  exact arr_ask13 (hsz.trans hC) g0 g1 g2 g3 g4 g5 g6

theorem arr_ask20 {cs : Array Value} {a0 a1 a2 a3 a4 a5 a6 a7 : Value} (h : cs.size = 8) (h0 : cs.toList[0]? = some a0) (h1 : cs.toList[1]? = some a1) (h2 : cs.toList[2]? = some a2) (h3 : cs.toList[3]? = some a3) (h4 : cs.toList[4]? = some a4) (h5 : cs.toList[5]? = some a5) (h6 : cs.toList[6]? = some a6) (h7 : cs.toList[7]? = some a7) : cs = #[a0, a1, a2, a3, a4, a5, a6, a7] := by
  apply Array.ext_getElem?
  intro i
  rw [← Array.getElem?_toList]
  rcases (show i = 0 ∨ i = 1 ∨ i = 2 ∨ i = 3 ∨ i = 4 ∨ i = 5 ∨ i = 6 ∨ i = 7 ∨ 8 ≤ i by omega) with rfl | rfl | rfl | rfl | rfl | rfl | rfl | rfl | hi
  · exact h0
  · exact h1
  · exact h2
  · exact h3
  · exact h4
  · exact h5
  · exact h6
  · exact h7
  · rw [List.getElem?_eq_none (by simpa [h] using hi), Array.getElem?_eq_none (by simpa using hi)]
set_option maxHeartbeats 800000 in
set_option maxRecDepth 20000 in
theorem open_ask20 {H : Type} {enc : TypeId × Value → H} {w : World} {base : Nat} {v : Value} {d : DataW H} {p : List MemPlace} (hv : Value.okWide Try.prog w .any base 50 v)
    (ht : DataW.Trod enc Try.prog w 0 (fun _ => true) true 50 v d p) : ∃ (W H : Int) (A : Option Addr) (n c : Nat) (l : List Int) (A1 : Option Addr) (n1 c1 : Nat) (l1 : List Bd) (k s : Int) (A2 : Option Addr) (n2 c2 : Nat) (l2 : List Int) (A3 : Option Addr) (n3 c3 : Nat) (l3 : List Int),
      v = .agg #[.int .i64 W, .int .i64 H, .slice A n c, .slice A1 n1 c1, .int .i64 k, .int .i64 s, .slice A2 n2 c2, .slice A3 n3 c3] ∧ i64P W ∧ i64P H ∧ Reads w w.heap.size 1 A n (nums .u8 l) ∧ IsBytes l ∧ (n ≤ c ∧ c ≤ maxLen) ∧ BdsL w A1 n1 l1 ∧ (n1 ≤ c1 ∧ c1 ≤ maxLen) ∧ i64P k ∧ i64P s ∧ Reads w w.heap.size 1 A2 n2 (nums .i64 l2) ∧ (n2 ≤ c2 ∧ c2 ≤ maxLen) ∧ Reads w w.heap.size 1 A3 n3 (nums .i64 l3) ∧ (n3 ≤ c3 ∧ c3 ≤ maxLen) ∧ (∀ x ∈ l2, i64P x) ∧ (∀ x ∈ l3, i64P x) := by
  obtain ⟨cs, rfl, hsz⟩ := okWide_struct Try.underlying50 hv
  obtain ⟨fuel, hf⟩ := ht
  have hC : Try.prog.cellsOf 50 = 8 := by kernel_rfl
  have hlen : (Value.agg cs).cells.toList.length = Try.prog.cellsOf 50 := by simpa [Value.cells] using hsz
  obtain ⟨u0, m0, y0, g0, t0⟩ := Leaf.one9 (Leaf.trans (Leaf.field Try.underlying50 0 _ rfl (of_decide_eq_true (by kernel_rfl))) (Leaf.trans (Leaf.field Try.underlying48 0 _ rfl (of_decide_eq_true (by kernel_rfl))) (Leaf.field Try.underlying24 0 _ rfl (of_decide_eq_true (by kernel_rfl))) rfl) rfl) (by kernel_rfl) hlen hf
  obtain ⟨u1, m1, y1, g1, t1⟩ := Leaf.one9 (Leaf.trans (Leaf.field Try.underlying50 0 _ rfl (of_decide_eq_true (by kernel_rfl))) (Leaf.trans (Leaf.field Try.underlying48 0 _ rfl (of_decide_eq_true (by kernel_rfl))) (Leaf.field Try.underlying24 1 _ rfl (of_decide_eq_true (by kernel_rfl))) rfl) rfl) (by kernel_rfl) hlen hf
  obtain ⟨u2, m2, y2, g2, t2⟩ := Leaf.one9 (Leaf.trans (Leaf.field Try.underlying50 0 _ rfl (of_decide_eq_true (by kernel_rfl))) (Leaf.trans (Leaf.field Try.underlying48 0 _ rfl (of_decide_eq_true (by kernel_rfl))) (Leaf.field Try.underlying24 2 _ rfl (of_decide_eq_true (by kernel_rfl))) rfl) rfl) (by kernel_rfl) hlen hf
  obtain ⟨u3, m3, y3, g3, t3⟩ := Leaf.one9 (Leaf.trans (Leaf.field Try.underlying50 0 _ rfl (of_decide_eq_true (by kernel_rfl))) (Leaf.field Try.underlying48 1 _ rfl (of_decide_eq_true (by kernel_rfl))) rfl) (by kernel_rfl) hlen hf
  obtain ⟨u4, m4, y4, g4, t4⟩ := Leaf.one9 (Leaf.trans (Leaf.field Try.underlying50 0 _ rfl (of_decide_eq_true (by kernel_rfl))) (Leaf.field Try.underlying48 2 _ rfl (of_decide_eq_true (by kernel_rfl))) rfl) (by kernel_rfl) hlen hf
  obtain ⟨u5, m5, y5, g5, t5⟩ := Leaf.one9 (Leaf.trans (Leaf.field Try.underlying50 0 _ rfl (of_decide_eq_true (by kernel_rfl))) (Leaf.field Try.underlying48 3 _ rfl (of_decide_eq_true (by kernel_rfl))) rfl) (by kernel_rfl) hlen hf
  obtain ⟨u6, m6, y6, g6, t6⟩ := Leaf.one9 (Leaf.trans (Leaf.field Try.underlying50 0 _ rfl (of_decide_eq_true (by kernel_rfl))) (Leaf.field Try.underlying48 4 _ rfl (of_decide_eq_true (by kernel_rfl))) rfl) (by kernel_rfl) hlen hf
  obtain ⟨u7, m7, y7, g7, t7⟩ := Leaf.one9 (Leaf.field Try.underlying50 1 _ rfl (of_decide_eq_true (by kernel_rfl))) (by kernel_rfl) hlen hf
  obtain ⟨W, k0, w0⟩ := open_num Try.underlying3 t0
  obtain ⟨H, k1, w1⟩ := open_num Try.underlying3 t1
  obtain ⟨A, n, c, l, k2, hl2, hm2, hr2, w2⟩ := open_nums Try.underlying22 Try.underlying5 (by kernel_rfl) t2
  obtain ⟨A1, n1, c1, l1, k3, hl3, hm3, hv3⟩ := open_bds t3
  obtain ⟨k, k4, w4⟩ := open_num Try.underlying3 t4
  obtain ⟨s, k5, w5⟩ := open_num Try.underlying3 t5
  obtain ⟨A2, n2, c2, l2, k6, hl6, hm6, hr6, w6⟩ := open_nums Try.underlying30 Try.underlying3 (by kernel_rfl) t6
  obtain ⟨A3, n3, c3, l3, k7, hl7, hm7, hr7, w7⟩ := open_nums Try.underlying30 Try.underlying3 (by kernel_rfl) t7
  simp only [List.cons.injEq, and_true] at k0 k1 k2 k4 k5 k6 k7
  subst k0; subst k1; subst k2; subst k3; subst k4; subst k5; subst k6; subst k7
  refine ⟨W, H, A, n, c, l, A1, n1, c1, l1, k, s, A2, n2, c2, l2, A3, n3, c3, l3, ?_, i64_of_wf w0, i64_of_wf w1, hr2, bytes_of_wf w2, ⟨hl2, hm2⟩, hv3, ⟨hl3, hm3⟩, i64_of_wf w4, i64_of_wf w5, hr6, ⟨hl6, hm6⟩, hr7, ⟨hl7, hm7⟩, fun x hx => i64_of_wf (w6 x hx), fun x hx => i64_of_wf (w7 x hx)⟩
  congr 1
  exact arr_ask20 (hsz.trans hC) g0 g1 g2 g3 g4 g5 g6 g7

set_option maxHeartbeats 800000 in
set_option maxRecDepth 20000 in
theorem heavy13 (W H k s : Int) (A A1 A2 : Option Addr) (n c n1 c1 n2 c2 : Nat) (w : World) (hn : (n : Int) ≤ 9223372036854775807) (hn1 : (n1 : Int) ≤ 9223372036854775807) (hn2 : (n2 : Int) ≤ 9223372036854775807) :
    Calls Try.prog 25 #[.agg #[.int .i64 W, .int .i64 H, .slice A n c, .slice A1 n1 c1, .int .i64 k, .int .i64 s, .slice A2 n2 c2]] w fun e w' => e = .returned (.bool (decide (700 < n ∨ 30 < n1 ∨ 30 < n2))) ∧ Below w.heap.size w w' := by
  have hP := Blk.new w #[.int .i64 W, .int .i64 H, .slice A n c, .slice A1 n1 c1, .int .i64 k, .int .i64 s, .slice A2 n2 c2] 48
  have hb := (Below.refl w.heap.size w).alloc (Nat.le_refl _) (.cells #[.int .i64 W, .int .i64 H, .slice A n c, .slice A1 n1 c1, .int .i64 k, .int .i64 s, .slice A2 n2 c2] 48)
  have C := Lib.hid (fun W' => great_is W H A A1 n c n1 c1 W' hn hn1)
  generalize hr' : decide (700 < n ∨ 30 < n1 ∨ 30 < n2) = r
  have HR := Lib.hid hr'
  clear hr'
  go_enter Try.func25, Try.ntmps25
  go_wp2_with fail
  generalize w.alloc (.cells #[.int .i64 W, .int .i64 H, .slice A n c, .slice A1 n1 c1, .int .i64 k, .int .i64 s, .slice A2 n2 c2] 48) = w1 at *
  refine Calls.mono (C.out _) ?_
  rintro e w2 ⟨rfl, hb2⟩
  replace hP := hP.below hb2 hP.lt
  replace hb := hb.trans (hb2.mono hb.size)
  have x6 := hP.cell (i := 6) rfl
  clear hb2 C
  by_cases h1 : 700 < n ∨ 30 < n1
  · rw [decide_eq_true h1]
    obtain rfl : r = true := by rw [← HR.out]; exact decide_eq_true (by omega)
    clear x6 hP HR h1
    go_wp2_with fail
    go_ret
    exact ⟨rfl, hb⟩
  · rw [decide_eq_false h1]
    by_cases h2 : 30 < n2
    · have d2 : decide ((30 : Int) < (n2 : Int)) = true := by simp; omega
      obtain rfl : r = true := by rw [← HR.out]; exact decide_eq_true (by omega)
      clear HR h1 h2
      go_wp2_with fail
      go_ret
      exact ⟨rfl, hb⟩
    · have d2 : decide ((30 : Int) < (n2 : Int)) = false := by simp; omega
      obtain rfl : r = false := by rw [← HR.out]; exact decide_eq_false (by omega)
      clear HR h1 h2
      go_wp2_with fail
      go_ret
      exact ⟨rfl, hb⟩
theorem num20 (x : Int) (w : World) : Calls Try.prog 31 #[.int .i64 x] w fun e w' => e = .returned (.int .i64 x) ∧ w = w' := by
  go_enter Try.func31, Try.ntmps31
  go_wp2_with fail
  go_ret
  exact ⟨rfl, rfl⟩
end Go.Proofs.Ytfgjiaakoacomaa
