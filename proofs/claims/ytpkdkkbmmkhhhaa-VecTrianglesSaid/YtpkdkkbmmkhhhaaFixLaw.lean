/- The page's products; what the laws of layer 1 share. -/
import Derived.Test.YtpkdkkbmmkhhhaaSqrt2
import Derived.Test.YtpkdkkbmmkhhhaaOpen
namespace Go.Proofs.Ytpkdkkbmmkhhhaa
set_option maxRecDepth 20000
open Go.RowKit Go.WideShapes Go.ChangeShapes

theorem ref_size (A : Int) (w : World) (h0 : -9223372036854775807 ≤ A) (h1 : A ≤ 9223372036854775807) : Calls Try.prog 68 #[.int .i64 A] w fun e w' => e = .returned (.int .u64 (if A < 0 then -A else A)) ∧ w = w' := by
  by_cases h : A < 0
  · have H : Hid ((if A < 0 then -A else A) = -A) := by show _ = _; rw [if_pos h]
    generalize (if A < 0 then -A else A) = X at *
    go_enter Try.func68, Try.ntmps68
    go_wp2
    go_ret
    exact ⟨by rw [H.out]; rfl, rfl⟩
  · have H : Hid ((if A < 0 then -A else A) = A) := by show _ = _; rw [if_neg h]
    generalize (if A < 0 then -A else A) = X at *
    have h' : 0 ≤ A := by omega
    go_enter Try.func68, Try.ntmps68
    go_wp2
    go_ret
    exact ⟨by rw [H.out]; rfl, rfl⟩

def sgr (q : Int) (neg left : Bool) : Int := sg (if neg = true ∧ left = true then q + 1 else q) false neg
theorem sg_val (n : Int) (below : Bool) : (9223372036854775807 < n → sg n false below = sgn 9223372036854775807 below) ∧ (¬ 9223372036854775807 < n → sg n false below = sgn n below) := by
  refine ⟨fun h => ?_, fun h => ?_⟩
  · unfold sg; rw [if_pos (.inr h)]
  · unfold sg; rw [if_neg (by simp; omega)]

theorem ref_signed (q : Int) (neg left : Bool) (w : World) (h0 : 0 ≤ q) (h1 : q ≤ 18446744073709551615) : Calls Try.prog 69 #[.int .u64 q, .bool neg, .bool left] w fun e w' => e = .returned (.int .i64 (sgr q neg left)) ∧ w = w' := by
  have s1 := sg_val q neg
  have s2 := sg_val (q + 1) neg
  by_cases hc : q < 9223372036854775807
  · have H1 : Hid (sgr q false left = q ∧ sgr q true false = -q ∧ sgr q true true = -(q + 1)) := by
      refine ⟨?_, ?_, ?_⟩
      · unfold sgr; rw [if_neg (by simp), (sg_val q false).2 (by omega)]; rfl
      · unfold sgr; rw [if_neg (by simp), (sg_val q true).2 (by omega)]; rfl
      · unfold sgr; rw [if_pos (by simp), (sg_val (q + 1) true).2 (by omega)]; rfl
    clear s1 s2
    cases neg
    · go_enter Try.func69, Try.ntmps69
      go_wp2
      go_ret
      exact ⟨by rw [H1.out.1]; rfl, rfl⟩
    · cases left
      · go_enter Try.func69, Try.ntmps69
        go_wp2
        go_ret
        exact ⟨by rw [H1.out.2.1]; rfl, rfl⟩
      · go_enter Try.func69, Try.ntmps69
        go_wp2
        go_ret
        exact ⟨by rw [H1.out.2.2]; rfl, rfl⟩
  · by_cases hc2 : q = 9223372036854775807
    · have H1 : Hid (sgr q false left = 9223372036854775807 ∧ sgr q true false = -9223372036854775807 ∧ sgr q true true = -9223372036854775807) := by
        refine ⟨?_, ?_, ?_⟩
        · unfold sgr; rw [if_neg (by simp), (sg_val q false).2 (by omega), hc2]; rfl
        · unfold sgr; rw [if_neg (by simp), (sg_val q true).2 (by omega), hc2]; rfl
        · unfold sgr; rw [if_pos (by simp), (sg_val (q + 1) true).1 (by omega)]; rfl
      have q1 : 9223372036854775807 ≤ q := by omega
      have q2 : q ≤ 9223372036854775807 := by omega
      generalize sgr q = F at *
      subst hc2
      clear s1 s2 hc q1 q2 h0 h1
      cases neg
      · go_enter Try.func69, Try.ntmps69
        go_wp2
        go_ret
        exact ⟨by rw [H1.out.1]; rfl, rfl⟩
      · cases left
        · go_enter Try.func69, Try.ntmps69
          go_wp2
          go_ret
          exact ⟨by rw [H1.out.2.1]; rfl, rfl⟩
        · go_enter Try.func69, Try.ntmps69
          go_wp2
          go_ret
          exact ⟨by rw [H1.out.2.2]; rfl, rfl⟩
    · have hq : 9223372036854775808 ≤ q := by omega
      have H1 : Hid (∀ left, sgr q false left = 9223372036854775807 ∧ sgr q true left = -9223372036854775807) := by
        intro left
        refine ⟨?_, ?_⟩
        · unfold sgr; rw [if_neg (by simp), (sg_val q false).1 (by omega)]; rfl
        · unfold sgr; cases left
          · rw [if_neg (by simp), (sg_val q true).1 (by omega)]; rfl
          · rw [if_pos (by simp), (sg_val (q + 1) true).1 (by omega)]; rfl
      clear s1 s2 hc hc2
      cases neg
      · go_enter Try.func69, Try.ntmps69
        go_wp2
        go_ret
        exact ⟨by rw [(H1.out _).1]; rfl, rfl⟩
      · cases left <;>
        (go_enter Try.func69, Try.ntmps69
         go_wp2
         go_ret
         exact ⟨by rw [(H1.out _).2]; rfl, rfl⟩)

theorem fmul_ref (a b : Int) (ha : a ≤ 9223372036854775807) (hb : b ≤ 9223372036854775807) :
    fmul a b = sgr (overQ (mag a * mag b) 65536) (isNeg a != isNeg b) (decide (0 < mag a * mag b % 65536)) := by
  rw [fmul_eq a b ha hb]
  have h1 := mag_range ha
  have h2 := mag_range hb
  have hP : 0 ≤ mag a * mag b := Int.mul_nonneg h1.1 h2.1
  generalize mag a * mag b = P at *
  generalize (isNeg a != isNeg b) = s at *
  unfold sgr overQ dn
  by_cases hg : 18446744073709551616 ≤ P / 65536
  · rw [if_pos hg, (sg_val _ s).1 (by split <;> omega), (sg_val _ s).1 (by split <;> omega)]
  · rw [if_neg hg]
    cases s
    · simp
    · by_cases hr : 0 < P % 65536
      · rw [if_pos ⟨rfl, hr⟩, if_pos ⟨rfl, decide_eq_true hr⟩]
      · rw [if_neg (fun h => hr h.2), if_neg (fun h => hr (of_decide_eq_true h.2))]

theorem overQ_range {W b : Int} (h0 : 0 ≤ W) (hb : 0 < b) : 0 ≤ overQ W b ∧ overQ W b ≤ 18446744073709551615 := by
  have := Int.ediv_nonneg h0 (Int.le_of_lt hb)
  unfold overQ; split <;> omega

set_option maxHeartbeats 800000 in
theorem ref_mul (a b : Int) (w : World) (ha : a ≤ 9223372036854775807) (hb : b ≤ 9223372036854775807) : Calls Try.prog 27 #[.int .i64 a, .int .i64 b] w fun e w' => e = .returned (.int .i64 (fmul a b)) ∧ Below w.heap.size w w' := by
  have NA := Lib.hid (fun W => ref_of a W)
  have NB := Lib.hid (fun W => ref_of b W)
  have ra := nrm_range ha
  have rb := nrm_range hb
  have SA := fun W => ref_size (nrm a) W ra.1 ra.2
  have SB := fun W => ref_size (nrm b) W rb.1 rb.2
  have HF := Lib.hid (fmul_ref a b ha hb)
  have m1 := mag_range ha
  have m2 := mag_range hb
  have hP : 0 ≤ mag a * mag b := Int.mul_nonneg m1.1 m2.1
  have T := Lib.hid (fun W => ref_times (mag a) (mag b) W m1.1 (by omega) m2.1 (by omega))
  have O := fun W => ref_over (mag a * mag b / 18446744073709551616) (mag a * mag b % 18446744073709551616) 65536 W (by omega) (by
    have : mag a * mag b ≤ 9223372036854775807 * 9223372036854775807 := Int.mul_le_mul m1.2 m2.2 m2.1 (by omega)
    omega) (by omega) (by omega) (by omega) (by omega)
  have e : mag a * mag b / 18446744073709551616 * 18446744073709551616 + mag a * mag b % 18446744073709551616 = mag a * mag b := by omega
  rw [e] at O
  have O := Lib.hid O
  have hq := overQ_range (b := 65536) hP (by omega)
  have S := Lib.hid (fun W => ref_signed (overQ (mag a * mag b) 65536) (isNeg a != isNeg b) (decide (0 < mag a * mag b % 65536)) W hq.1 hq.2)
  have n1 : decide (nrm a < 0) = isNeg a := rfl
  have n2 : decide (nrm b < 0) = isNeg b := rfl
  have n3 : (isNeg a != isNeg b) = !(isNeg a == isNeg b) := rfl
  rw [n3] at S HF
  have SA : Hid (∀ W, Calls Try.prog 68 #[.int .i64 (nrm a)] W fun e w' => e = .returned (.int .u64 (mag a)) ∧ W = w') := SA
  have SB : Hid (∀ W, Calls Try.prog 68 #[.int .i64 (nrm b)] W fun e w' => e = .returned (.int .u64 (mag b)) ∧ W = w') := SB
  clear ra rb m1 m2 hP e hq n3
  generalize isNeg a = p at *
  generalize isNeg b = q at *
  generalize nrm a = A at *
  generalize nrm b = B at *
  generalize mag a * mag b = P at *
  generalize mag a = x at *
  generalize mag b = y at *
  generalize overQ P 65536 = Q at *
  generalize decide (0 < P % 65536) = l at *
  generalize fmul a b = F at *
  go_enter Try.func27, Try.ntmps27
  go_wp2_with fail
  refine Calls.mono (NA.out _) ?_
  rintro e w1 ⟨rfl, rfl⟩
  go_wp2_with fail
  refine Calls.mono (NB.out _) ?_
  rintro e w1 ⟨rfl, rfl⟩
  go_wp2_with fail
  refine Calls.mono (SA.out _) ?_
  rintro e w1 ⟨rfl, rfl⟩
  go_wp2_with fail
  refine Calls.mono (SB.out _) ?_
  rintro e w1 ⟨rfl, rfl⟩
  go_wp2_with fail
  refine Calls.mono (T.out _) ?_
  rintro e w1 ⟨rfl, hb1⟩
  go_wp2_with fail
  refine Calls.mono (O.out _) ?_
  rintro e w2 ⟨rfl, hb2⟩
  go_wp2_with fail
  refine Calls.mono (S.out _) ?_
  rintro e w3 ⟨rfl, rfl⟩
  go_wp2
  go_ret
  exact ⟨by rw [HF.out]; rfl, hb1.trans (hb2.mono hb1.size)⟩

theorem wake_mul : (fmul 98304 98304 == 147456) = true := by decide +kernel
theorem wake_sqrt : (fsqrt 262144 == 131072) = true := by decide +kernel
theorem wakes1 (w : World) : Calls Try.prog 28 #[] w fun e w' => e = .returned (.bool true) ∧ Below w.heap.size w w' := by
  have M := Lib.hid (fun W => fix_mul 98304 98304 W (by omega) (by omega))
  have S := Lib.hid (fun W => fix_sqrt 262144 W (by omega))
  have d1 := wake_mul
  have d2 := wake_sqrt
  generalize fmul 98304 98304 = x at *
  generalize fsqrt 262144 = y at *
  go_enter Try.func28, Try.ntmps28
  go_wp2_with fail
  refine Calls.mono (M.out _) ?_
  rintro e w1 ⟨rfl, rfl⟩
  go_wp2_with fail
  refine Calls.mono (S.out _) ?_
  rintro e w1 ⟨rfl, hb⟩
  go_wp2
  go_ret
  exact ⟨rfl, hb⟩

/-- A slice of thronglaw1.Ask that came in. -/
def Asks1 (w : World) (A : Option Addr) (n : Nat) : Prop := ∀ i, i < n → ∃ (b o : Nat) (x y z : Int),
  A = some ⟨b, o, none⟩ ∧ b < w.heap.size ∧ w.cell? ⟨b, o + i * 3, none⟩ = some (.int .i64 x) ∧ w.cell? ⟨b, o + i * 3 + 1, none⟩ = some (.int .i64 y) ∧ w.cell? ⟨b, o + i * 3 + 2, none⟩ = some (.int .i64 z) ∧
  (-9223372036854775808 ≤ x ∧ x ≤ 9223372036854775807) ∧ (-9223372036854775808 ≤ y ∧ y ≤ 9223372036854775807) ∧ (-9223372036854775808 ≤ z ∧ z ≤ 9223372036854775807)
theorem Asks1.below {w w' : World} {A : Option Addr} {n : Nat} (h : Asks1 w A n) (hb : Below w.heap.size w w') : Asks1 w' A n := fun i hi => by
  obtain ⟨b, o, x, y, z, h1, h2, h3, h4, h5, h6⟩ := h i hi
  exact ⟨b, o, x, y, z, h1, Nat.lt_of_lt_of_le h2 hb.size, (hb.cell h2).trans h3, (hb.cell h2).trans h4, (hb.cell h2).trans h5, h6⟩
theorem open_asks1 {H : Type} {enc : TypeId × Value → H} {w : World} {base : Nat} {v : Value} {d : DataW H} {p : List MemPlace} (hv : Value.okWide Try.prog w .any base 31 v)
    (ht : DataW.Trod enc Try.prog w 0 (fun _ => true) true 31 v d p) : ∃ A n c, v = .slice A n c ∧ n ≤ c ∧ c ≤ maxLen ∧ Asks1 w A n := by
  obtain ⟨A, n, c, rfl⟩ := okWide_slice Try.underlying31 hv
  obtain ⟨fuel, hf⟩ := ht
  obtain ⟨A1, n1, c1, he, hl, hm, hi⟩ := open_rows Try.underlying31 hf
  simp [Value.cells] at he
  obtain ⟨rfl, rfl, rfl⟩ := he
  refine ⟨A, n, c, rfl, hl, hm, fun i hlt => ?_⟩
  have hC : Try.prog.cellsOf 34 = 3 := by kernel_rfl
  obtain ⟨b, o, u1, x1, y1, e1, hb, hc1, ht1⟩ := hi i hlt 0 2 (Leaf.field Try.underlying34 0 _ rfl (of_decide_eq_true (by kernel_rfl))) (by kernel_rfl)
  obtain ⟨b2, o2, u2, x2, y2, e2, _, hc2, ht2⟩ := hi i hlt 1 2 (Leaf.field Try.underlying34 1 _ rfl (of_decide_eq_true (by kernel_rfl))) (by kernel_rfl)
  obtain ⟨b3, o3, u3, x3, y3, e3, _, hc3, ht3⟩ := hi i hlt 2 2 (Leaf.field Try.underlying34 2 _ rfl (of_decide_eq_true (by kernel_rfl))) (by kernel_rfl)
  subst e1
  simp only [Option.some.injEq, Addr.mk.injEq, and_true] at e2 e3
  obtain ⟨rfl, rfl⟩ := e2
  obtain ⟨rfl, rfl⟩ := e3
  rw [hC] at hc1 hc2 hc3
  obtain ⟨x, h1, w1⟩ := open_num Try.underlying2 ht1
  obtain ⟨y, h2, w2⟩ := open_num Try.underlying2 ht2
  obtain ⟨z, h3, w3⟩ := open_num Try.underlying2 ht3
  simp only [List.cons.injEq, and_true] at h1 h2 h3
  subst h1; subst h2; subst h3
  exact ⟨b, o, x, y, z, rfl, hb, hc1, by rw [Nat.add_assoc]; exact hc2, by rw [Nat.add_assoc]; exact hc3, i64_of_wf w1, i64_of_wf w2, i64_of_wf w3⟩

end Go.Proofs.Ytpkdkkbmmkhhhaa
