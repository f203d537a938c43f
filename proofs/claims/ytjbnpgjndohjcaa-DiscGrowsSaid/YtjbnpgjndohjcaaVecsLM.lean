/- A slice of places that came in. -/
import Derived.Test.YtjbnpgjndohjcaaRows
import Derived.Test.YtjbnpgjndohjcaaOpen
import Derived.Test.YtjbnpgjndohjcaaMem
import Derived.Test.YtjbnpgjndohjcaaBytes
import Derived.Test.YtjbnpgjndohjcaaBuildRise
import Derived.Test.YtjbnpgjndohjcaaDiscMeet
namespace Go.Proofs.Ytjbnpgjndohjcaa
set_option maxRecDepth 20000
set_option maxRecDepth 20000
open Go.RowKit Go.WideShapes Go.ChangeShapes Go.ChangeAt

/-- A slice of places that came in, with what they are. -/
def VecsL (w : World) (A : Option Addr) (n : Nat) (l : List (Int × Int)) : Prop := l.length = n ∧ ∀ i, i < n → ∃ b o : Nat, A = some ⟨b, o, none⟩ ∧ b < w.heap.size ∧ w.cell? ⟨b, o + i * 2, none⟩ = some (.int .i64 (l.getD i (0, 0)).1) ∧ w.cell? ⟨b, o + i * 2 + 1, none⟩ = some (.int .i64 (l.getD i (0, 0)).2) ∧
  (-9223372036854775808 ≤ (l.getD i (0, 0)).1 ∧ (l.getD i (0, 0)).1 ≤ 9223372036854775807) ∧ (-9223372036854775808 ≤ (l.getD i (0, 0)).2 ∧ (l.getD i (0, 0)).2 ≤ 9223372036854775807)
theorem VecsL.below {w w' : World} {A : Option Addr} {n : Nat} {l : List (Int × Int)} (h : VecsL w A n l) (hb : Below w.heap.size w w') : VecsL w' A n l := ⟨h.1, fun i hi => by
  obtain ⟨b, o, h1, h2, h3, h4, h5⟩ := h.2 i hi
  exact ⟨b, o, h1, Nat.lt_of_lt_of_le h2 hb.size, (hb.cell h2).trans h3, (hb.cell h2).trans h4, h5⟩⟩
theorem list_of {P : Nat → Int × Int → Prop} : ∀ n : Nat, (∀ i, i < n → ∃ z, P i z) → ∃ l : List (Int × Int), l.length = n ∧ ∀ i, i < n → P i (l.getD i (0, 0))
  | 0, _ => ⟨[], rfl, fun i hi => absurd hi (by omega)⟩
  | n + 1, h => by
    obtain ⟨l, hl, hp⟩ := list_of n (fun i hi => h i (by omega))
    obtain ⟨z, hz⟩ := h n (by omega)
    refine ⟨l ++ [z], by simp [hl], fun i hi => ?_⟩
    by_cases hin : i = n
    · subst hin
      have : (l ++ [z]).getD i (0, 0) = z := by simp [List.getD, ← hl]
      rw [this]; exact hz
    · have : (l ++ [z]).getD i (0, 0) = l.getD i (0, 0) := by simp [List.getD, List.getElem?_append, hl, show i < n by omega]
      rw [this]; exact hp i (by omega)
set_option maxRecDepth 20000 in
theorem open_vecsL {H : Type} {enc : TypeId × Value → H} {w : World} {fuel : Nat} {u : Value} {x : DataW H × List MemPlace} (hf : DataW.trod enc Try.prog w 0 (fun _ => true) true fuel 27 [u] = some x) :
    ∃ A n c l, u = .slice A n c ∧ n ≤ c ∧ c ≤ maxLen ∧ VecsL w A n l := by
  obtain ⟨A, n, c, he, hl, hm, hi⟩ := open_rows Try.underlying27 hf
  simp only [List.cons.injEq, and_true] at he
  have hC : Try.prog.cellsOf 35 = 2 := by kernel_rfl
  obtain ⟨l, hl1, hl2⟩ := list_of (P := fun i z => ∃ b o : Nat, A = some ⟨b, o, none⟩ ∧ b < w.heap.size ∧ w.cell? ⟨b, o + i * 2, none⟩ = some (.int .i64 z.1) ∧ w.cell? ⟨b, o + i * 2 + 1, none⟩ = some (.int .i64 z.2) ∧
    (-9223372036854775808 ≤ z.1 ∧ z.1 ≤ 9223372036854775807) ∧ (-9223372036854775808 ≤ z.2 ∧ z.2 ≤ 9223372036854775807)) n (fun i hlt => by
    obtain ⟨b1, o1, u1, x1, y1, e1, hb, hc1, ht1⟩ := hi i hlt 0 2 (Leaf.field Try.underlying35 0 _ rfl (of_decide_eq_true (by kernel_rfl))) (by kernel_rfl)
    obtain ⟨b2, o2, u2, x2, y2, e2, _, hc2, ht2⟩ := hi i hlt 1 2 (Leaf.field Try.underlying35 1 _ rfl (of_decide_eq_true (by kernel_rfl))) (by kernel_rfl)
    subst e1
    simp only [Option.some.injEq, Addr.mk.injEq, and_true] at e2
    obtain ⟨rfl, rfl⟩ := e2
    rw [hC] at hc1 hc2
    obtain ⟨x, h1, w1⟩ := open_num Try.underlying2 ht1
    obtain ⟨y, h2, w2⟩ := open_num Try.underlying2 ht2
    simp only [List.cons.injEq, and_true] at h1 h2
    subst h1; subst h2
    exact ⟨(x, y), _, _, rfl, hb, hc1, by rw [Nat.add_assoc]; exact hc2, i64_of_wf w1, i64_of_wf w2⟩)
  exact ⟨A, n, c, l, he, hl, hm, hl1, hl2⟩

end Go.Proofs.Ytjbnpgjndohjcaa
namespace Go.Proofs.Ytjbnpgjndohjcaa
set_option maxRecDepth 20000
set_option maxRecDepth 20000
open Go.RowKit Go.WideShapes Go.ChangeShapes Go.ChangeAt

theorem Leaf.one {H : Type} {enc : TypeId × Value → H} {P : Program} {w : World} {fuel : Nat} {t l : TypeId} {off : Nat} {cs : List Value} {x : DataW H × List MemPlace} (h : Leaf P t off l) (h1 : P.cellsOf l = 1) (hlen : cs.length = P.cellsOf t)
    (hf : DataW.trod enc P w 0 (fun _ => true) true fuel t cs = some x) : ∃ (u : Value) (m : Nat) (y : DataW H × List MemPlace), cs[off]? = some u ∧ DataW.trod enc P w 0 (fun _ => true) true m l [u] = some y := by
  obtain ⟨n, y, hy⟩ := h.2 H enc w 0 _ true fuel cs x hf
  have hoff : off < cs.length := by have := h.1; omega
  refine ⟨cs[off], n, y, List.getElem?_eq_getElem hoff, ?_⟩
  rw [← hy, h1, List.drop_eq_getElem_cons hoff]
  rfl
theorem arr_list {cs : Array Value} {L : List Value} (h : cs.size = L.length) (hi : ∀ i, i < L.length → cs.toList[i]? = L[i]?) : cs = L.toArray := by
  have e : cs.toList = L := by
    apply List.ext_getElem?
    intro i
    by_cases hl : i < L.length
    · exact hi i hl
    · rw [List.getElem?_eq_none (by simpa [h] using hl), List.getElem?_eq_none (by omega)]
  rw [← e]

set_option maxHeartbeats 800000 in
theorem open_ask17 {H : Type} {enc : TypeId × Value → H} {w : World} {base : Nat} {v : Value} {d : DataW H} {p : List MemPlace} (hv : Value.okWide Try.prog w .any base 30 v)
    (ht : DataW.Trod enc Try.prog w 0 (fun _ => true) true 30 v d p) : ∃ (W H K : Int) (A : Option Addr) (n c : Nat) (l : List Int) (A0 : Option Addr) (n0 c0 : Nat) (A1 : Option Addr) (n1 c1 : Nat) (l1 : List Int) (A2 : Option Addr) (n2 c2 : Nat) (l2 : List (Int × Int)) (A3 : Option Addr) (n3 c3 : Nat) (l3 : List Int),
      v = .agg #[.int .i64 W, .int .i64 H, .slice A n c, .slice A0 n0 c0, .int .i64 K, .slice A1 n1 c1, .slice A2 n2 c2, .slice A3 n3 c3] ∧
      Reads w w.heap.size 1 A n (nums .u8 l) ∧ IsBytes l ∧ (n ≤ c ∧ c ≤ maxLen) ∧ (n0 ≤ c0 ∧ c0 ≤ maxLen) ∧ Reads w w.heap.size 1 A1 n1 (nums .i64 l1) ∧ (n1 ≤ c1 ∧ c1 ≤ maxLen) ∧ VecsL w A2 n2 l2 ∧ (n2 ≤ c2 ∧ c2 ≤ maxLen) ∧ Reads w w.heap.size 1 A3 n3 (nums .i64 l3) ∧ (∀ z ∈ l3, -9223372036854775808 ≤ z ∧ z ≤ 9223372036854775807) ∧ (n3 ≤ c3 ∧ c3 ≤ maxLen) := by
  obtain ⟨cs, rfl, hsz⟩ := okWide_struct Try.underlying30 hv
  obtain ⟨fuel, hf⟩ := ht
  have hC : Try.prog.cellsOf 30 = 8 := by kernel_rfl
  have hlen : (Value.agg cs).cells.toList.length = Try.prog.cellsOf 30 := by simpa [Value.cells] using hsz
  obtain ⟨u0, m0, y0, g0, t0⟩ := Leaf.one (Leaf.trans (Leaf.field Try.underlying30 0 _ rfl (of_decide_eq_true (by kernel_rfl))) (Leaf.field Try.underlying24 0 _ rfl (of_decide_eq_true (by kernel_rfl))) rfl) (by kernel_rfl) hlen hf
  obtain ⟨u1, m1, y1, g1, t1⟩ := Leaf.one (Leaf.trans (Leaf.field Try.underlying30 0 _ rfl (of_decide_eq_true (by kernel_rfl))) (Leaf.field Try.underlying24 1 _ rfl (of_decide_eq_true (by kernel_rfl))) rfl) (by kernel_rfl) hlen hf
  obtain ⟨u2, m2, y2, g2, t2⟩ := Leaf.one (Leaf.trans (Leaf.field Try.underlying30 0 _ rfl (of_decide_eq_true (by kernel_rfl))) (Leaf.field Try.underlying24 2 _ rfl (of_decide_eq_true (by kernel_rfl))) rfl) (by kernel_rfl) hlen hf
  obtain ⟨u3, m3, y3, g3, t3⟩ := Leaf.one (Leaf.field Try.underlying30 1 _ rfl (of_decide_eq_true (by kernel_rfl))) (by kernel_rfl) hlen hf
  obtain ⟨u4, m4, y4, g4, t4⟩ := Leaf.one (Leaf.field Try.underlying30 2 _ rfl (of_decide_eq_true (by kernel_rfl))) (by kernel_rfl) hlen hf
  obtain ⟨u5, m5, y5, g5, t5⟩ := Leaf.one (Leaf.field Try.underlying30 3 _ rfl (of_decide_eq_true (by kernel_rfl))) (by kernel_rfl) hlen hf
  obtain ⟨u6, m6, y6, g6, t6⟩ := Leaf.one (Leaf.field Try.underlying30 4 _ rfl (of_decide_eq_true (by kernel_rfl))) (by kernel_rfl) hlen hf
  obtain ⟨u7, m7, y7, g7, t7⟩ := Leaf.one (Leaf.field Try.underlying30 5 _ rfl (of_decide_eq_true (by kernel_rfl))) (by kernel_rfl) hlen hf
  obtain ⟨W, k0, w0⟩ := open_num Try.underlying3 t0
  obtain ⟨H, k1, w1⟩ := open_num Try.underlying3 t1
  obtain ⟨A, n, c, l, k2, hl2, hm2, hr2, w2⟩ := open_nums Try.underlying22 Try.underlying5 (by kernel_rfl) t2
  obtain ⟨A0, n0, c0, k3, hl3, hm3, _⟩ := open_rows Try.underlying25 t3
  obtain ⟨K, k4, w4⟩ := open_num Try.underlying3 t4
  obtain ⟨A1, n1, c1, l1, k5, hl5, hm5, hr5, w5⟩ := open_nums Try.underlying26 Try.underlying3 (by kernel_rfl) t5
  obtain ⟨A2, n2, c2, l2, k6, hl6, hm6, hv6⟩ := open_vecsL t6
  obtain ⟨A3, n3, c3, l3, k7, hl7, hm7, hr7, w7⟩ := open_nums Try.underlying28 Try.underlying2 (by kernel_rfl) t7
  simp only [List.cons.injEq, and_true] at k0 k1 k2 k3 k4 k5 k7
  subst k0; subst k1; subst k2; subst k3; subst k4; subst k5; subst k6; subst k7
  refine ⟨W, H, K, A, n, c, l, A0, n0, c0, A1, n1, c1, l1, A2, n2, c2, l2, A3, n3, c3, l3, ?_, hr2, bytes_of_wf w2, ⟨hl2, hm2⟩, ⟨hl3, hm3⟩, hr5, ⟨hl5, hm5⟩, hv6, ⟨hl6, hm6⟩, hr7, fun z hz => i64_of_wf (w7 z hz), ⟨hl7, hm7⟩⟩
  congr 1
  refine arr_list (hsz.trans hC) fun i hi => ?_
  have hi8 : i < 8 := hi
  rcases (show i = 0 ∨ i = 1 ∨ i = 2 ∨ i = 3 ∨ i = 4 ∨ i = 5 ∨ i = 6 ∨ i = 7 by omega) with rfl | rfl | rfl | rfl | rfl | rfl | rfl | rfl
  · exact g0
  · exact g1
  · exact g2
  · exact g3
  · exact g4
  · exact g5
  · exact g6
  · exact g7

theorem great_no (W H : Int) (A A0 : Option Addr) (n c n0 c0 : Nat) (w : World) (h1 : n ≤ 700) (h2 : n0 ≤ 30) :
    Calls Try.prog 48 #[.agg #[.int .i64 W, .int .i64 H, .slice A n c], .slice A0 n0 c0] w fun e w' => e = .returned (.bool false) ∧ Below w.heap.size w w' := by
  have d1 : decide ((700 : Int) < (n : Int)) = false := by simp; omega
  have d2 : decide ((30 : Int) < (n0 : Int)) = false := by simp; omega
  go_enter Try.func48, Try.ntmps48
  go_wp2
  go_ret
  exact ⟨rfl, (Below.refl _ _).alloc (Nat.le_refl _) _⟩
theorem great_yes (W H : Int) (A A0 : Option Addr) (n c n0 c0 : Nat) (w : World) (h : ¬ (n ≤ 700 ∧ n0 ≤ 30)) :
    Calls Try.prog 48 #[.agg #[.int .i64 W, .int .i64 H, .slice A n c], .slice A0 n0 c0] w fun e w' => e = .returned (.bool true) ∧ Below w.heap.size w w' := by
  by_cases h1 : 700 < n
  · have d1 : decide ((700 : Int) < (n : Int)) = true := by simp; omega
    clear h h1
    go_enter Try.func48, Try.ntmps48
    go_wp2
    go_ret
    exact ⟨rfl, (Below.refl _ _).alloc (Nat.le_refl _) _⟩
  · have d1 : decide ((700 : Int) < (n : Int)) = false := by simp; omega
    have d2 : decide ((30 : Int) < (n0 : Int)) = true := by simp; omega
    clear h h1
    go_enter Try.func48, Try.ntmps48
    go_wp2
    go_ret
    exact ⟨rfl, (Below.refl _ _).alloc (Nat.le_refl _) _⟩
/-- Whether an Ask is light. -/
def light (n n0 n1 n2 n3 : Nat) : Prop := (n ≤ 700 ∧ n0 ≤ 30) ∧ n1 ≤ 30 ∧ n2 ≤ 20 ∧ n3 ≤ 20
theorem heavy17 (W H K : Int) (A A0 A1 A2 A3 : Option Addr) (n c n0 c0 n1 c1 n2 c2 n3 c3 : Nat) (w : World) (B : Bool) (h : B = true ↔ ¬ light n n0 n1 n2 n3) :
    Calls Try.prog 14 #[.agg #[.int .i64 W, .int .i64 H, .slice A n c, .slice A0 n0 c0, .int .i64 K, .slice A1 n1 c1, .slice A2 n2 c2, .slice A3 n3 c3]] w fun e w' => e = .returned (.bool B) ∧ Below w.heap.size w w' := by
  unfold light at h
  by_cases hg : n ≤ 700 ∧ n0 ≤ 30
  · have G := Lib.hid (fun W' => great_no W H A A0 n c n0 c0 W' hg.1 hg.2)
    have d1 : decide ((30 : Int) < (n1 : Int)) = !decide (n1 ≤ 30) := by by_cases h1 : n1 ≤ 30 <;> simp [h1] <;> omega
    have d2 : decide ((20 : Int) < (n2 : Int)) = !decide (n2 ≤ 20) := by by_cases h1 : n2 ≤ 20 <;> simp [h1] <;> omega
    have d3 : decide ((20 : Int) < (n3 : Int)) = !decide (n3 ≤ 20) := by by_cases h1 : n3 ≤ 20 <;> simp [h1] <;> omega
    have hz := (Below.refl w.heap.size w).alloc (Nat.le_refl _) (.cells #[.int .i64 W, .int .i64 H, .slice A n c, .slice A0 n0 c0, .int .i64 K, .slice A1 n1 c1, .slice A2 n2 c2, .slice A3 n3 c3] 30)
    have HB : Hid (B = !(decide (n1 ≤ 30) && decide (n2 ≤ 20) && decide (n3 ≤ 20))) := by
      show _ = _
      cases B <;> by_cases h1 : n1 ≤ 30 <;> by_cases h2 : n2 ≤ 20 <;> by_cases h3 : n3 ≤ 20 <;> simp_all
    clear h hg
    have k5 : ∀ w', Below (w.alloc (.cells #[.int .i64 W, .int .i64 H, .slice A n c, .slice A0 n0 c0, .int .i64 K, .slice A1 n1 c1, .slice A2 n2 c2, .slice A3 n3 c3] 30)).heap.size (w.alloc (.cells #[.int .i64 W, .int .i64 H, .slice A n c, .slice A0 n0 c0, .int .i64 K, .slice A1 n1 c1, .slice A2 n2 c2, .slice A3 n3 c3] 30)) w' → w'.cell? ⟨w.heap.size, 5, none⟩ = some (.slice A1 n1 c1) ∧ w'.cell? ⟨w.heap.size, 6, none⟩ = some (.slice A2 n2 c2) ∧ w'.cell? ⟨w.heap.size, 7, none⟩ = some (.slice A3 n3 c3) := fun w' hb => by
      refine ⟨?_, ?_, ?_⟩
      · rw [hb.cell (p := ⟨w.heap.size, 5, none⟩) (by simp), World.cell?_alloc_at _ _ _ _ rfl]; rfl
      · rw [hb.cell (p := ⟨w.heap.size, 6, none⟩) (by simp), World.cell?_alloc_at _ _ _ _ rfl]; rfl
      · rw [hb.cell (p := ⟨w.heap.size, 7, none⟩) (by simp), World.cell?_alloc_at _ _ _ _ rfl]; rfl
    generalize decide (n1 ≤ 30) = B1 at *
    generalize decide (n2 ≤ 20) = B2 at *
    generalize decide (n3 ≤ 20) = B3 at *
    cases B1 <;> cases B2 <;> cases B3
    all_goals
      simp only [Bool.not_true, Bool.not_false] at d1 d2 d3
      go_enter Try.func14, Try.ntmps14
      go_wp2_with fail
      refine Calls.mono (G.out _) ?_
      rintro e w1 ⟨rfl, hb1⟩
      obtain ⟨e5, e6, e7⟩ := k5 _ hb1
      have hb2 := hz.trans (hb1.mono hz.size)
      go_wp2
      go_ret
      exact ⟨by rw [HB.out]; rfl, hb2⟩
  · have G := Lib.hid (fun W' => great_yes W H A A0 n c n0 c0 W' hg)
    have HB : Hid (B = true) := h.2 (fun hh => hg hh.1)
    have hz := (Below.refl w.heap.size w).alloc (Nat.le_refl _) (.cells #[.int .i64 W, .int .i64 H, .slice A n c, .slice A0 n0 c0, .int .i64 K, .slice A1 n1 c1, .slice A2 n2 c2, .slice A3 n3 c3] 30)
    clear h hg
    go_enter Try.func14, Try.ntmps14
    go_wp2_with fail
    refine Calls.mono (G.out _) ?_
    rintro e w1 ⟨rfl, hb1⟩
    go_wp2
    go_ret
    exact ⟨by rw [HB.out]; rfl, hz.trans (hb1.mono hz.size)⟩
end Go.Proofs.Ytjbnpgjndohjcaa
namespace Go.Proofs.Ytjbnpgjndohjcaa
set_option maxRecDepth 20000
open Go.RowKit Go.WideShapes Go.ChangeShapes Go.ChangeAt

theorem bd_list {P : Nat → Bd → Prop} : ∀ n : Nat, (∀ i, i < n → ∃ z, P i z) → ∃ l : List Bd, l.length = n ∧ ∀ i, i < n → P i (bdAt l i)
  | 0, _ => ⟨[], rfl, fun i hi => absurd hi (by omega)⟩
  | n + 1, h => by
    obtain ⟨l, hl, hp⟩ := bd_list n (fun i hi => h i (by omega))
    obtain ⟨z, hz⟩ := h n (by omega)
    refine ⟨l ++ [z], by simp [hl], fun i hi => ?_⟩
    by_cases hin : i = n
    · subst hin
      have : bdAt (l ++ [z]) i = z := by simp [bdAt, List.getD, ← hl]
      rw [this]; exact hz
    · have : bdAt (l ++ [z]) i = bdAt l i := by simp [bdAt, List.getD, List.getElem?_append, hl, show i < n by omega]
      rw [this]; exact hp i (by omega)
set_option maxHeartbeats 800000 in
set_option maxRecDepth 20000 in
theorem open_bds {H : Type} {enc : TypeId × Value → H} {w : World} {fuel : Nat} {u : Value} {x : DataW H × List MemPlace} (hf : DataW.trod enc Try.prog w 0 (fun _ => true) true fuel 25 [u] = some x) :
    ∃ A n c l, u = .slice A n c ∧ n ≤ c ∧ c ≤ maxLen ∧ BdsL w A n l := by
  obtain ⟨A, n, c, he, hl, hm, hi⟩ := open_rows Try.underlying25 hf
  simp only [List.cons.injEq, and_true] at he
  have hC : Try.prog.cellsOf 86 = 6 := by kernel_rfl
  obtain ⟨l, hl1, hl2⟩ := bd_list (P := fun i z => ∃ b o : Nat, A = some ⟨b, o, none⟩ ∧ b < w.heap.size ∧ (w.cell? ⟨b, o + i * 6, none⟩ = some (.int .i64 z.id) ∧ w.cell? ⟨b, o + i * 6 + 1, none⟩ = some (.int .i64 z.ow) ∧ w.cell? ⟨b, o + i * 6 + 2, none⟩ = some (.int .i64 z.x) ∧ w.cell? ⟨b, o + i * 6 + 3, none⟩ = some (.int .i64 z.y) ∧ w.cell? ⟨b, o + i * 6 + 4, none⟩ = some (.int .i64 z.w) ∧ w.cell? ⟨b, o + i * 6 + 5, none⟩ = some (.int .i64 z.h)) ∧ i64P z.id ∧ i64P z.ow ∧ i64P z.x ∧ i64P z.y ∧ i64P z.w ∧ i64P z.h) n (fun i hlt => by
    obtain ⟨b0, o0, u0, x0, y0, e0, hb, hc0, ht0⟩ := hi i hlt 0 3 (Leaf.field Try.underlying86 0 _ rfl (of_decide_eq_true (by kernel_rfl))) (by kernel_rfl)
    obtain ⟨b1, o1, u1, x1, y1, e1, _, hc1, ht1⟩ := hi i hlt 1 3 (Leaf.field Try.underlying86 1 _ rfl (of_decide_eq_true (by kernel_rfl))) (by kernel_rfl)
    obtain ⟨b2, o2, u2, x2, y2, e2, _, hc2, ht2⟩ := hi i hlt 2 3 (Leaf.field Try.underlying86 2 _ rfl (of_decide_eq_true (by kernel_rfl))) (by kernel_rfl)
    obtain ⟨b3, o3, u3, x3, y3, e3, _, hc3, ht3⟩ := hi i hlt 3 3 (Leaf.field Try.underlying86 3 _ rfl (of_decide_eq_true (by kernel_rfl))) (by kernel_rfl)
    obtain ⟨b4, o4, u4, x4, y4, e4, _, hc4, ht4⟩ := hi i hlt 4 3 (Leaf.field Try.underlying86 4 _ rfl (of_decide_eq_true (by kernel_rfl))) (by kernel_rfl)
    obtain ⟨b5, o5, u5, x5, y5, e5, _, hc5, ht5⟩ := hi i hlt 5 3 (Leaf.field Try.underlying86 5 _ rfl (of_decide_eq_true (by kernel_rfl))) (by kernel_rfl)
    subst e0
    simp only [Option.some.injEq, Addr.mk.injEq, and_true] at e1
    obtain ⟨rfl, rfl⟩ := e1
    simp only [Option.some.injEq, Addr.mk.injEq, and_true] at e2
    obtain ⟨rfl, rfl⟩ := e2
    simp only [Option.some.injEq, Addr.mk.injEq, and_true] at e3
    obtain ⟨rfl, rfl⟩ := e3
    simp only [Option.some.injEq, Addr.mk.injEq, and_true] at e4
    obtain ⟨rfl, rfl⟩ := e4
    simp only [Option.some.injEq, Addr.mk.injEq, and_true] at e5
    obtain ⟨rfl, rfl⟩ := e5
    rw [hC] at hc0 hc1 hc2 hc3 hc4 hc5
    obtain ⟨v0, h0, w0⟩ := open_num Try.underlying3 ht0
    obtain ⟨v1, h1, w1⟩ := open_num Try.underlying3 ht1
    obtain ⟨v2, h2, w2⟩ := open_num Try.underlying3 ht2
    obtain ⟨v3, h3, w3⟩ := open_num Try.underlying3 ht3
    obtain ⟨v4, h4, w4⟩ := open_num Try.underlying3 ht4
    obtain ⟨v5, h5, w5⟩ := open_num Try.underlying3 ht5
    simp only [List.cons.injEq, and_true] at h0 h1 h2 h3 h4 h5
    subst h0; subst h1; subst h2; subst h3; subst h4; subst h5
    exact ⟨⟨v0, v1, v2, v3, v4, v5⟩, _, _, rfl, hb, ⟨hc0, by rw [Nat.add_assoc]; exact hc1, by rw [Nat.add_assoc]; exact hc2, by rw [Nat.add_assoc]; exact hc3, by rw [Nat.add_assoc]; exact hc4, by rw [Nat.add_assoc]; exact hc5⟩, i64_of_wf w0, i64_of_wf w1, i64_of_wf w2, i64_of_wf w3, i64_of_wf w4, i64_of_wf w5⟩)
  exact ⟨A, n, c, l, he, hl, hm, hl1, hl2⟩
end Go.Proofs.Ytjbnpgjndohjcaa
namespace Go.Proofs.Ytjbnpgjndohjcaa
set_option maxRecDepth 20000
open Go.RowKit Go.WideShapes Go.ChangeShapes Go.ChangeAt

set_option maxHeartbeats 800000 in
set_option maxRecDepth 20000 in
theorem open_bds17 {H : Type} {enc : TypeId × Value → H} {w : World} {d : DataW H} {p : List MemPlace} {x0 x1 x2 x4 x5 x6 x7 : Value} {A0 : Option Addr} {n0 c0 : Nat}
    (ht : DataW.Trod enc Try.prog w 0 (fun _ => true) true 30 (.agg #[x0, x1, x2, .slice A0 n0 c0, x4, x5, x6, x7]) d p) : ∃ l0, BdsL w A0 n0 l0 := by
  obtain ⟨fuel, hf⟩ := ht
  have hlen : (Value.agg #[x0, x1, x2, .slice A0 n0 c0, x4, x5, x6, x7]).cells.toList.length = Try.prog.cellsOf 30 := by
    rw [show Try.prog.cellsOf 30 = 8 by kernel_rfl]; rfl
  obtain ⟨u3, m3, y3, g3, t3⟩ := Leaf.one (Leaf.field Try.underlying30 1 _ rfl (of_decide_eq_true (by kernel_rfl))) (by kernel_rfl) hlen hf
  obtain ⟨A1, n1, c1, l1, k3, hl3, hm3, hv3⟩ := open_bds t3
  subst k3
  have e : some (Value.slice A0 n0 c0) = some (Value.slice A1 n1 c1) := g3
  injection e with e
  injection e with e1 e2 e3
  subst e1; subst e2
  exact ⟨l1, hv3⟩
end Go.Proofs.Ytjbnpgjndohjcaa
namespace Go.Proofs.Ytjbnpgjndohjcaa
set_option maxRecDepth 20000
open Go.RowKit Go.WideShapes Go.ChangeShapes

set_option maxRecDepth 20000 in
theorem ref_may (x y r : Int) (w : World) : Calls Try.prog 16 #[.agg #[.int .i64 x, .int .i64 y], .int .i64 r] w fun e w' => e = .returned (.bool (formB x y r)) ∧ Below w.heap.size w w' := by
  have one := (Below.refl w.heap.size w).alloc (Nat.le_refl _) (.cells #[.int .i64 x, .int .i64 y] 35)
  have hf : formB x y r = decide (0 ≤ r ∧ r ≤ 262144 ∧ -1099511627776 ≤ x ∧ x ≤ 1099511627776 ∧ -1099511627776 ≤ y ∧ y ≤ 1099511627776) := by
    unfold formB placeB
    rw [← Bool.decide_and]
    exact decide_eq_decide.2 ⟨fun h => ⟨h.1.1, h.1.2, h.2⟩, fun h => ⟨⟨h.1, h.2.1⟩, h.2.2⟩⟩
  have hf2 := Lib.hid hf
  clear hf
  have hf := hf2
  clear hf2
  rcases (show r < 0 ∨ (0 ≤ r ∧ 262144 < r) ∨ (0 ≤ r ∧ r ≤ 262144 ∧ x < -1099511627776) ∨ (0 ≤ r ∧ r ≤ 262144 ∧ -1099511627776 ≤ x ∧ 1099511627776 < x) ∨ (0 ≤ r ∧ r ≤ 262144 ∧ -1099511627776 ≤ x ∧ x ≤ 1099511627776 ∧ y < -1099511627776) ∨ (0 ≤ r ∧ r ≤ 262144 ∧ -1099511627776 ≤ x ∧ x ≤ 1099511627776 ∧ -1099511627776 ≤ y) by omega) with d1 | ⟨d1, d2⟩ | ⟨d1, d2, d3⟩ | ⟨d1, d2, d3, d4⟩ | ⟨d1, d2, d3, d4, d5⟩ | ⟨d1, d2, d3, d4, d5⟩
  case inr.inr.inr.inr.inr =>
    have HR : Hid (formB x y r = decide (y ≤ 1099511627776)) := hf.out.trans <| decide_eq_decide.2 ⟨fun h => h.2.2.2.2.2, fun h => ⟨d1, d2, d3, d4, d5, h⟩⟩
    clear hf
    go_enter Try.func16, Try.ntmps16
    go_wp2
    go_ret
    exact ⟨by rw [HR.out]; rfl, one⟩
  all_goals
    have HR : Hid (formB x y r = false) := hf.out.trans (decide_eq_false (by omega))
    clear hf
    go_enter Try.func16, Try.ntmps16
    go_wp2
    go_ret
    exact ⟨by rw [HR.out]; rfl, one⟩

end Go.Proofs.Ytjbnpgjndohjcaa
