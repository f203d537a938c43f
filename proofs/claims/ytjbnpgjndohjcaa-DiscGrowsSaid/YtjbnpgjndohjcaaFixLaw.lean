/- The page's products; what the laws of layer 1 share. -/
import Derived.Test.YtjbnpgjndohjcaaSqrtM
import Derived.Test.YtjbnpgjndohjcaaOpen
namespace Go.Proofs.Ytjbnpgjndohjcaa
set_option maxRecDepth 20000
open Go.RowKit Go.WideShapes Go.ChangeShapes

theorem ref_size (A : Int) (w : World) (h0 : -9223372036854775807 ≤ A) (h1 : A ≤ 9223372036854775807) : Calls Try.prog 92 #[.int .i64 A] w fun e w' => e = .returned (.int .u64 (if A < 0 then -A else A)) ∧ w = w' := by
  by_cases h : A < 0
  · have H : Hid ((if A < 0 then -A else A) = -A) := by show _ = _; rw [if_pos h]
    generalize (if A < 0 then -A else A) = X at *
    go_enter Try.func92, Try.ntmps92
    go_wp2
    go_ret
    exact ⟨by rw [H.out]; rfl, rfl⟩
  · have H : Hid ((if A < 0 then -A else A) = A) := by show _ = _; rw [if_neg h]
    generalize (if A < 0 then -A else A) = X at *
    have h' : 0 ≤ A := by omega
    go_enter Try.func92, Try.ntmps92
    go_wp2
    go_ret
    exact ⟨by rw [H.out]; rfl, rfl⟩

def sgr (q : Int) (neg left : Bool) : Int := sg (if neg = true ∧ left = true then q + 1 else q) false neg
theorem sg_val (n : Int) (below : Bool) : (9223372036854775807 < n → sg n false below = sgn 9223372036854775807 below) ∧ (¬ 9223372036854775807 < n → sg n false below = sgn n below) := by
  refine ⟨fun h => ?_, fun h => ?_⟩
  · unfold sg; rw [if_pos (.inr h)]
  · unfold sg; rw [if_neg (by simp; omega)]

theorem ref_signed (q : Int) (neg left : Bool) (w : World) (h0 : 0 ≤ q) (h1 : q ≤ 18446744073709551615) : Calls Try.prog 109 #[.int .u64 q, .bool neg, .bool left] w fun e w' => e = .returned (.int .i64 (sgr q neg left)) ∧ w = w' := by
  have s1 := sg_val q neg
  have s2 := sg_val (q + 1) neg
  by_cases hc : q < 9223372036854775807
  · have H1 : Hid (sgr q false left = q ∧ sgr q true false = -q ∧ sgr q true true = -(q + 1)) := by
      refine ⟨?_, ?_, ?_⟩
      · unfold sgr; rw [if_neg (by simp), (sg_val q false).2 (by omega)]; rfl
      · unfold sgr; rw [if_neg (by simp), (sg_val q true).2 (by omega)]; rfl
      · unfold sgr; rw [if_pos (by simp), (sg_val (q + 1) true).2 (by omega)]; rfl
    clear s1 s2
    cases neg
    · go_enter Try.func109, Try.ntmps109
      go_wp2
      go_ret
      exact ⟨by rw [H1.out.1]; rfl, rfl⟩
    · cases left
      · go_enter Try.func109, Try.ntmps109
        go_wp2
        go_ret
        exact ⟨by rw [H1.out.2.1]; rfl, rfl⟩
      · go_enter Try.func109, Try.ntmps109
        go_wp2
        go_ret
        exact ⟨by rw [H1.out.2.2]; rfl, rfl⟩
  · by_cases hc2 : q = 9223372036854775807
    · have H1 : Hid (sgr q false left = 9223372036854775807 ∧ sgr q true false = -9223372036854775807 ∧ sgr q true true = -9223372036854775807) := by
        refine ⟨?_, ?_, ?_⟩
        · unfold sgr; rw [if_neg (by simp), (sg_val q false).2 (by omega), hc2]; rfl
        · unfold sgr; rw [if_neg (by simp), (sg_val q true).2 (by omega), hc2]; rfl
        · unfold sgr; rw [if_pos (by simp), (sg_val (q + 1) true).1 (by omega)]; rfl
      have q1 : 9223372036854775807 ≤ q := by omega
      have q2 : q ≤ 9223372036854775807 := by omega
      generalize sgr q = F at *
      subst hc2
      clear s1 s2 hc q1 q2 h0 h1
      cases neg
      · go_enter Try.func109, Try.ntmps109
        go_wp2
        go_ret
        exact ⟨by rw [H1.out.1]; rfl, rfl⟩
      · cases left
        · go_enter Try.func109, Try.ntmps109
          go_wp2
          go_ret
          exact ⟨by rw [H1.out.2.1]; rfl, rfl⟩
        · go_enter Try.func109, Try.ntmps109
          go_wp2
          go_ret
          exact ⟨by rw [H1.out.2.2]; rfl, rfl⟩
    · have hq : 9223372036854775808 ≤ q := by omega
      have H1 : Hid (∀ left, sgr q false left = 9223372036854775807 ∧ sgr q true left = -9223372036854775807) := by
        intro left
        refine ⟨?_, ?_⟩
        · unfold sgr; rw [if_neg (by simp), (sg_val q false).1 (by omega)]; rfl
        · unfold sgr; cases left
          · rw [if_neg (by simp), (sg_val q true).1 (by omega)]; rfl
          · rw [if_pos (by simp), (sg_val (q + 1) true).1 (by omega)]; rfl
      clear s1 s2 hc hc2
      cases neg
      · go_enter Try.func109, Try.ntmps109
        go_wp2
        go_ret
        exact ⟨by rw [(H1.out _).1]; rfl, rfl⟩
      · cases left <;>
        (go_enter Try.func109, Try.ntmps109
         go_wp2
         go_ret
         exact ⟨by rw [(H1.out _).2]; rfl, rfl⟩)

theorem fmul_ref (a b : Int) (ha : a ≤ 9223372036854775807) (hb : b ≤ 9223372036854775807) :
    fmul a b = sgr (overQ (mag a * mag b) 65536) (isNeg a != isNeg b) (decide (0 < mag a * mag b % 65536)) := by
  rw [fmul_eq a b ha hb]
  have h1 := mag_range ha
  have h2 := mag_range hb
  have hP : 0 ≤ mag a * mag b := Int.mul_nonneg h1.1 h2.1
  generalize mag a * mag b = P at *
  generalize (isNeg a != isNeg b) = s at *
  unfold sgr overQ dn
  by_cases hg : 18446744073709551616 ≤ P / 65536
  · rw [if_pos hg, (sg_val _ s).1 (by split <;> omega), (sg_val _ s).1 (by split <;> omega)]
  · rw [if_neg hg]
    cases s
    · simp
    · by_cases hr : 0 < P % 65536
      · rw [if_pos ⟨rfl, hr⟩, if_pos ⟨rfl, decide_eq_true hr⟩]
      · rw [if_neg (fun h => hr h.2), if_neg (fun h => hr (of_decide_eq_true h.2))]

theorem overQ_range {W b : Int} (h0 : 0 ≤ W) (hb : 0 < b) : 0 ≤ overQ W b ∧ overQ W b ≤ 18446744073709551615 := by
  have := Int.ediv_nonneg h0 (Int.le_of_lt hb)
  unfold overQ; split <;> omega

theorem wake_mul : (fmul 98304 98304 == 147456) = true := by decide +kernel
theorem wake_sqrt : (fsqrt 262144 == 131072) = true := by decide +kernel
/-- A slice of thronglaw1.Ask that came in. -/
def Asks1 (w : World) (A : Option Addr) (n : Nat) : Prop := ∀ i, i < n → ∃ (b o : Nat) (x y z : Int),
  A = some ⟨b, o, none⟩ ∧ b < w.heap.size ∧ w.cell? ⟨b, o + i * 3, none⟩ = some (.int .i64 x) ∧ w.cell? ⟨b, o + i * 3 + 1, none⟩ = some (.int .i64 y) ∧ w.cell? ⟨b, o + i * 3 + 2, none⟩ = some (.int .i64 z) ∧
  (-9223372036854775808 ≤ x ∧ x ≤ 9223372036854775807) ∧ (-9223372036854775808 ≤ y ∧ y ≤ 9223372036854775807) ∧ (-9223372036854775808 ≤ z ∧ z ≤ 9223372036854775807)
theorem Asks1.below {w w' : World} {A : Option Addr} {n : Nat} (h : Asks1 w A n) (hb : Below w.heap.size w w') : Asks1 w' A n := fun i hi => by
  obtain ⟨b, o, x, y, z, h1, h2, h3, h4, h5, h6⟩ := h i hi
  exact ⟨b, o, x, y, z, h1, Nat.lt_of_lt_of_le h2 hb.size, (hb.cell h2).trans h3, (hb.cell h2).trans h4, (hb.cell h2).trans h5, h6⟩
end Go.Proofs.Ytjbnpgjndohjcaa
