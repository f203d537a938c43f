/- The argument of the laws of layer 17, opened; which is too heavy. -/
import Derived.Test.YtjbnpgjndohjcaaVecsOpen
import Derived.Test.YtjbnpgjndohjcaaBytes
namespace Go.Proofs.Ytjbnpgjndohjcaa
set_option maxRecDepth 20000
set_option maxRecDepth 20000
open Go.RowKit Go.WideShapes Go.ChangeShapes Go.ChangeAt

theorem Leaf.one {H : Type} {enc : TypeId × Value → H} {P : Program} {w : World} {fuel : Nat} {t l : TypeId} {off : Nat} {cs : List Value} {x : DataW H × List MemPlace} (h : Leaf P t off l) (h1 : P.cellsOf l = 1) (hlen : cs.length = P.cellsOf t)
    (hf : DataW.trod enc P w 0 (fun _ => true) true fuel t cs = some x) : ∃ (u : Value) (m : Nat) (y : DataW H × List MemPlace), cs[off]? = some u ∧ DataW.trod enc P w 0 (fun _ => true) true m l [u] = some y := by
  obtain ⟨n, y, hy⟩ := h.2 H enc w 0 _ true fuel cs x hf
  have hoff : off < cs.length := by have := h.1; omega
  refine ⟨cs[off], n, y, List.getElem?_eq_getElem hoff, ?_⟩
  rw [← hy, h1, List.drop_eq_getElem_cons hoff]
  rfl
theorem arr_list {cs : Array Value} {L : List Value} (h : cs.size = L.length) (hi : ∀ i, i < L.length → cs.toList[i]? = L[i]?) : cs = L.toArray := by
  have e : cs.toList = L := by
    apply List.ext_getElem?
    intro i
    by_cases hl : i < L.length
    · exact hi i hl
    · rw [List.getElem?_eq_none (by simpa [h] using hl), List.getElem?_eq_none (by omega)]
  rw [← e]

set_option maxHeartbeats 800000 in
theorem open_ask17 {H : Type} {enc : TypeId × Value → H} {w : World} {base : Nat} {v : Value} {d : DataW H} {p : List MemPlace} (hv : Value.okWide Try.prog w .any base 30 v)
    (ht : DataW.Trod enc Try.prog w 0 (fun _ => true) true 30 v d p) : ∃ (W H K : Int) (A : Option Addr) (n c : Nat) (l : List Int) (A0 : Option Addr) (n0 c0 : Nat) (A1 : Option Addr) (n1 c1 : Nat) (l1 : List Int) (A2 : Option Addr) (n2 c2 : Nat) (l2 : List (Int × Int)) (A3 : Option Addr) (n3 c3 : Nat) (l3 : List Int),
      v = .agg #[.int .i64 W, .int .i64 H, .slice A n c, .slice A0 n0 c0, .int .i64 K, .slice A1 n1 c1, .slice A2 n2 c2, .slice A3 n3 c3] ∧
      Reads w w.heap.size 1 A n (nums .u8 l) ∧ IsBytes l ∧ (n ≤ c ∧ c ≤ maxLen) ∧ (n0 ≤ c0 ∧ c0 ≤ maxLen) ∧ Reads w w.heap.size 1 A1 n1 (nums .i64 l1) ∧ (n1 ≤ c1 ∧ c1 ≤ maxLen) ∧ VecsL w A2 n2 l2 ∧ (n2 ≤ c2 ∧ c2 ≤ maxLen) ∧ Reads w w.heap.size 1 A3 n3 (nums .i64 l3) ∧ (∀ z ∈ l3, -9223372036854775808 ≤ z ∧ z ≤ 9223372036854775807) ∧ (n3 ≤ c3 ∧ c3 ≤ maxLen) := by
  obtain ⟨cs, rfl, hsz⟩ := okWide_struct Try.underlying30 hv
  obtain ⟨fuel, hf⟩ := ht
  have hC : Try.prog.cellsOf 30 = 8 := by kernel_rfl
  have hlen : (Value.agg cs).cells.toList.length = Try.prog.cellsOf 30 := by simpa [Value.cells] using hsz
  obtain ⟨u0, m0, y0, g0, t0⟩ := Leaf.one (Leaf.trans (Leaf.field Try.underlying30 0 _ rfl (of_decide_eq_true (by kernel_rfl))) (Leaf.field Try.underlying24 0 _ rfl (of_decide_eq_true (by kernel_rfl))) rfl) (by kernel_rfl) hlen hf
  obtain ⟨u1, m1, y1, g1, t1⟩ := Leaf.one (Leaf.trans (Leaf.field Try.underlying30 0 _ rfl (of_decide_eq_true (by kernel_rfl))) (Leaf.field Try.underlying24 1 _ rfl (of_decide_eq_true (by kernel_rfl))) rfl) (by kernel_rfl) hlen hf
  obtain ⟨u2, m2, y2, g2, t2⟩ := Leaf.one (Leaf.trans (Leaf.field Try.underlying30 0 _ rfl (of_decide_eq_true (by kernel_rfl))) (Leaf.field Try.underlying24 2 _ rfl (of_decide_eq_true (by kernel_rfl))) rfl) (by kernel_rfl) hlen hf
  obtain ⟨u3, m3, y3, g3, t3⟩ := Leaf.one (Leaf.field Try.underlying30 1 _ rfl (of_decide_eq_true (by kernel_rfl))) (by kernel_rfl) hlen hf
  obtain ⟨u4, m4, y4, g4, t4⟩ := Leaf.one (Leaf.field Try.underlying30 2 _ rfl (of_decide_eq_true (by kernel_rfl))) (by kernel_rfl) hlen hf
  obtain ⟨u5, m5, y5, g5, t5⟩ := Leaf.one (Leaf.field Try.underlying30 3 _ rfl (of_decide_eq_true (by kernel_rfl))) (by kernel_rfl) hlen hf
  obtain ⟨u6, m6, y6, g6, t6⟩ := Leaf.one (Leaf.field Try.underlying30 4 _ rfl (of_decide_eq_true (by kernel_rfl))) (by kernel_rfl) hlen hf
  obtain ⟨u7, m7, y7, g7, t7⟩ := Leaf.one (Leaf.field Try.underlying30 5 _ rfl (of_decide_eq_true (by kernel_rfl))) (by kernel_rfl) hlen hf
  obtain ⟨W, k0, w0⟩ := open_num Try.underlying3 t0
  obtain ⟨H, k1, w1⟩ := open_num Try.underlying3 t1
  obtain ⟨A, n, c, l, k2, hl2, hm2, hr2, w2⟩ := open_nums Try.underlying22 Try.underlying5 (by kernel_rfl) t2
  obtain ⟨A0, n0, c0, k3, hl3, hm3, _⟩ := open_rows Try.underlying25 t3
  obtain ⟨K, k4, w4⟩ := open_num Try.underlying3 t4
  obtain ⟨A1, n1, c1, l1, k5, hl5, hm5, hr5, w5⟩ := open_nums Try.underlying26 Try.underlying3 (by kernel_rfl) t5
  obtain ⟨A2, n2, c2, l2, k6, hl6, hm6, hv6⟩ := open_vecsL t6
  obtain ⟨A3, n3, c3, l3, k7, hl7, hm7, hr7, w7⟩ := open_nums Try.underlying28 Try.underlying2 (by kernel_rfl) t7
  simp only [List.cons.injEq, and_true] at k0 k1 k2 k3 k4 k5 k7
  subst k0; subst k1; subst k2; subst k3; subst k4; subst k5; subst k6; subst k7
  refine ⟨W, H, K, A, n, c, l, A0, n0, c0, A1, n1, c1, l1, A2, n2, c2, l2, A3, n3, c3, l3, ?_, hr2, bytes_of_wf w2, ⟨hl2, hm2⟩, ⟨hl3, hm3⟩, hr5, ⟨hl5, hm5⟩, hv6, ⟨hl6, hm6⟩, hr7, fun z hz => i64_of_wf (w7 z hz), ⟨hl7, hm7⟩⟩
  congr 1
  refine arr_list (hsz.trans hC) fun i hi => ?_
  have hi8 : i < 8 := hi
  rcases (show i = 0 ∨ i = 1 ∨ i = 2 ∨ i = 3 ∨ i = 4 ∨ i = 5 ∨ i = 6 ∨ i = 7 by omega) with rfl | rfl | rfl | rfl | rfl | rfl | rfl | rfl
  · exact g0
  · exact g1
  · exact g2
  · exact g3
  · exact g4
  · exact g5
  · exact g6
  · exact g7

theorem great_no (W H : Int) (A A0 : Option Addr) (n c n0 c0 : Nat) (w : World) (h1 : n ≤ 700) (h2 : n0 ≤ 30) :
    Calls Try.prog 48 #[.agg #[.int .i64 W, .int .i64 H, .slice A n c], .slice A0 n0 c0] w fun e w' => e = .returned (.bool false) ∧ Below w.heap.size w w' := by
  have d1 : decide ((700 : Int) < (n : Int)) = false := by simp; omega
  have d2 : decide ((30 : Int) < (n0 : Int)) = false := by simp; omega
  go_enter Try.func48, Try.ntmps48
  go_wp2
  go_ret
  exact ⟨rfl, (Below.refl _ _).alloc (Nat.le_refl _) _⟩
theorem great_yes (W H : Int) (A A0 : Option Addr) (n c n0 c0 : Nat) (w : World) (h : ¬ (n ≤ 700 ∧ n0 ≤ 30)) :
    Calls Try.prog 48 #[.agg #[.int .i64 W, .int .i64 H, .slice A n c], .slice A0 n0 c0] w fun e w' => e = .returned (.bool true) ∧ Below w.heap.size w w' := by
  by_cases h1 : 700 < n
  · have d1 : decide ((700 : Int) < (n : Int)) = true := by simp; omega
    clear h h1
    go_enter Try.func48, Try.ntmps48
    go_wp2
    go_ret
    exact ⟨rfl, (Below.refl _ _).alloc (Nat.le_refl _) _⟩
  · have d1 : decide ((700 : Int) < (n : Int)) = false := by simp; omega
    have d2 : decide ((30 : Int) < (n0 : Int)) = true := by simp; omega
    clear h h1
    go_enter Try.func48, Try.ntmps48
    go_wp2
    go_ret
    exact ⟨rfl, (Below.refl _ _).alloc (Nat.le_refl _) _⟩
/-- Whether an Ask is light. -/
def light (n n0 n1 n2 n3 : Nat) : Prop := (n ≤ 700 ∧ n0 ≤ 30) ∧ n1 ≤ 30 ∧ n2 ≤ 20 ∧ n3 ≤ 20
theorem heavy17 (W H K : Int) (A A0 A1 A2 A3 : Option Addr) (n c n0 c0 n1 c1 n2 c2 n3 c3 : Nat) (w : World) (B : Bool) (h : B = true ↔ ¬ light n n0 n1 n2 n3) :
    Calls Try.prog 14 #[.agg #[.int .i64 W, .int .i64 H, .slice A n c, .slice A0 n0 c0, .int .i64 K, .slice A1 n1 c1, .slice A2 n2 c2, .slice A3 n3 c3]] w fun e w' => e = .returned (.bool B) ∧ Below w.heap.size w w' := by
  unfold light at h
  by_cases hg : n ≤ 700 ∧ n0 ≤ 30
  · have G := Lib.hid (fun W' => great_no W H A A0 n c n0 c0 W' hg.1 hg.2)
    have d1 : decide ((30 : Int) < (n1 : Int)) = !decide (n1 ≤ 30) := by by_cases h1 : n1 ≤ 30 <;> simp [h1] <;> omega
    have d2 : decide ((20 : Int) < (n2 : Int)) = !decide (n2 ≤ 20) := by by_cases h1 : n2 ≤ 20 <;> simp [h1] <;> omega
    have d3 : decide ((20 : Int) < (n3 : Int)) = !decide (n3 ≤ 20) := by by_cases h1 : n3 ≤ 20 <;> simp [h1] <;> omega
    have hz := (Below.refl w.heap.size w).alloc (Nat.le_refl _) (.cells #[.int .i64 W, .int .i64 H, .slice A n c, .slice A0 n0 c0, .int .i64 K, .slice A1 n1 c1, .slice A2 n2 c2, .slice A3 n3 c3] 30)
    have HB : Hid (B = !(decide (n1 ≤ 30) && decide (n2 ≤ 20) && decide (n3 ≤ 20))) := by
      show _ = _
      cases B <;> by_cases h1 : n1 ≤ 30 <;> by_cases h2 : n2 ≤ 20 <;> by_cases h3 : n3 ≤ 20 <;> simp_all
    clear h hg
    have k5 : ∀ w', Below (w.alloc (.cells #[.int .i64 W, .int .i64 H, .slice A n c, .slice A0 n0 c0, .int .i64 K, .slice A1 n1 c1, .slice A2 n2 c2, .slice A3 n3 c3] 30)).heap.size (w.alloc (.cells #[.int .i64 W, .int .i64 H, .slice A n c, .slice A0 n0 c0, .int .i64 K, .slice A1 n1 c1, .slice A2 n2 c2, .slice A3 n3 c3] 30)) w' → w'.cell? ⟨w.heap.size, 5, none⟩ = some (.slice A1 n1 c1) ∧ w'.cell? ⟨w.heap.size, 6, none⟩ = some (.slice A2 n2 c2) ∧ w'.cell? ⟨w.heap.size, 7, none⟩ = some (.slice A3 n3 c3) := fun w' hb => by
      refine ⟨?_, ?_, ?_⟩
      · rw [hb.cell (p := ⟨w.heap.size, 5, none⟩) (by simp), World.cell?_alloc_at _ _ _ _ rfl]; rfl
      · rw [hb.cell (p := ⟨w.heap.size, 6, none⟩) (by simp), World.cell?_alloc_at _ _ _ _ rfl]; rfl
      · rw [hb.cell (p := ⟨w.heap.size, 7, none⟩) (by simp), World.cell?_alloc_at _ _ _ _ rfl]; rfl
    generalize decide (n1 ≤ 30) = B1 at *
    generalize decide (n2 ≤ 20) = B2 at *
    generalize decide (n3 ≤ 20) = B3 at *
    cases B1 <;> cases B2 <;> cases B3
    all_goals
      simp only [Bool.not_true, Bool.not_false] at d1 d2 d3
      go_enter Try.func14, Try.ntmps14
      go_wp2_with fail
      refine Calls.mono (G.out _) ?_
      rintro e w1 ⟨rfl, hb1⟩
      obtain ⟨e5, e6, e7⟩ := k5 _ hb1
      have hb2 := hz.trans (hb1.mono hz.size)
      go_wp2
      go_ret
      exact ⟨by rw [HB.out]; rfl, hb2⟩
  · have G := Lib.hid (fun W' => great_yes W H A A0 n c n0 c0 W' hg)
    have HB : Hid (B = true) := h.2 (fun hh => hg hh.1)
    have hz := (Below.refl w.heap.size w).alloc (Nat.le_refl _) (.cells #[.int .i64 W, .int .i64 H, .slice A n c, .slice A0 n0 c0, .int .i64 K, .slice A1 n1 c1, .slice A2 n2 c2, .slice A3 n3 c3] 30)
    clear h hg
    go_enter Try.func14, Try.ntmps14
    go_wp2_with fail
    refine Calls.mono (G.out _) ?_
    rintro e w1 ⟨rfl, hb1⟩
    go_wp2
    go_ret
    exact ⟨by rw [HB.out]; rfl, hz.trans (hb1.mono hz.size)⟩
end Go.Proofs.Ytjbnpgjndohjcaa
