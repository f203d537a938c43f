/- Plain laws of the sum: of two parts; one byte changed changes it. -/
import Derived.Test.YtdcilabbjejklaaFnv
namespace Go.Proofs.Ytdcilabbjejklaa
set_option maxRecDepth 20000
open Go.RowKit

theorem fstep_bv (s c : Int) : fstep s c = (((BitVec.ofInt 64 s ^^^ BitVec.ofInt 64 c) * 1099511628211#64).toNat : Int) := by
  unfold fstep
  have h1 : bits .xor .u64 s c = ((BitVec.ofInt 64 s ^^^ BitVec.ofInt 64 c).toNat : Int) := by
    show IntKind.u64.wrap ((BitVec.ofInt 64 s ^^^ BitVec.ofInt 64 c).toNat : Int) = _
    generalize BitVec.ofInt 64 s ^^^ BitVec.ofInt 64 c = z
    have := z.isLt
    simp only [IntKind.wrap, IntKind.signed, IntKind.bits]
    simp
    omega
  rw [h1, BitVec.toNat_mul]
  simp only [IntKind.wrap, IntKind.signed, IntKind.bits]
  simp

theorem fstep_range (s c : Int) : 0 ≤ fstep s c ∧ fstep s c ≤ 18446744073709551615 := by
  rw [fstep_bv]
  have := ((BitVec.ofInt 64 s ^^^ BitVec.ofInt 64 c) * 1099511628211#64).isLt
  omega

theorem bv_inj {a b : Int} (ha : 0 ≤ a ∧ a ≤ 18446744073709551615) (hb : 0 ≤ b ∧ b ≤ 18446744073709551615) (h : BitVec.ofInt 64 a = BitVec.ofInt 64 b) : a = b := by
  have := congrArg BitVec.toNat h
  simp only [BitVec.toNat_ofInt] at this
  omega

theorem mul_inj (x y : BitVec 64) (h : x * 1099511628211#64 = y * 1099511628211#64) : x = y := by
  have h2 := congrArg (· * 14886173955864302971#64) h
  simp only [BitVec.mul_assoc] at h2
  have e : 1099511628211#64 * 14886173955864302971#64 = 1#64 := by decide
  rwa [e, BitVec.mul_one, BitVec.mul_one] at h2

theorem fstep_inj {s c s' c' : Int} (h : fstep s c = fstep s' c') : BitVec.ofInt 64 s ^^^ BitVec.ofInt 64 c = BitVec.ofInt 64 s' ^^^ BitVec.ofInt 64 c' := by
  rw [fstep_bv, fstep_bv] at h
  exact mul_inj _ _ (BitVec.eq_of_toNat_eq (by omega))
theorem xor_right_inj {x y z : BitVec 64} (h : x ^^^ z = y ^^^ z) : x = y := by
  have := congrArg (· ^^^ z) h
  simpa [BitVec.xor_assoc] using this
theorem xor_left_inj {x y z : BitVec 64} (h : z ^^^ x = z ^^^ y) : x = y := by
  rw [BitVec.xor_comm z x, BitVec.xor_comm z y] at h
  exact xor_right_inj h
theorem fstep_inj_s {s s' c : Int} (hs : 0 ≤ s ∧ s ≤ 18446744073709551615) (hs' : 0 ≤ s' ∧ s' ≤ 18446744073709551615) (h : fstep s c = fstep s' c) : s = s' := bv_inj hs hs' (xor_right_inj (fstep_inj h))
theorem fstep_inj_c {s c c' : Int} (hc : 0 ≤ c ∧ c ≤ 255) (hc' : 0 ≤ c' ∧ c' ≤ 255) (h : fstep s c = fstep s c') : c = c' := bv_inj ⟨hc.1, by omega⟩ ⟨hc'.1, by omega⟩ (xor_left_inj (fstep_inj h))

theorem fsum_inj (l : List Int) : ∀ {s s' : Int}, 0 ≤ s ∧ s ≤ 18446744073709551615 → 0 ≤ s' ∧ s' ≤ 18446744073709551615 → fsum s l = fsum s' l → s = s' := by
  induction l with
  | nil => intro s s' _ _ h; exact h
  | cons c l ih =>
    intro s s' hs hs' h
    exact fstep_inj_s hs hs' (ih (fstep_range s c) (fstep_range s' c) h)
theorem fsum_append (s : Int) (l m : List Int) : fsum s (l ++ m) = fsum (fsum s l) m := List.foldl_append ..
theorem fsum_parts (s : Int) (l : List Int) (k : Nat) : fsum (fsum s (l.take k)) (l.drop k) = fsum s l := by
  rw [← fsum_append, List.take_append_drop]
/-- One byte changed changes the sum. -/
theorem fsum_set (s : Int) (l : List Int) (i : Nat) (c : Int) (hi : i < l.length) (hc : 0 ≤ c ∧ c ≤ 255) (hl : 0 ≤ l.getD i 0 ∧ l.getD i 0 ≤ 255) (hne : c ≠ l.getD i 0) : fsum s (l.set i c) ≠ fsum s l := by
  intro h
  have e1 : l.set i c = l.take i ++ c :: l.drop (i + 1) := by rw [List.set_eq_take_append_cons_drop, if_pos hi]
  have hg : l[i] = l.getD i 0 := by simp [List.getD, hi]
  have e2 : l = l.take i ++ l.getD i 0 :: l.drop (i + 1) := by rw [← hg, ← List.drop_eq_getElem_cons hi, List.take_append_drop]
  rw [e1] at h
  conv at h => rhs; rw [e2]
  rw [fsum_append, fsum_append] at h
  have h2 : fsum (fstep (fsum s (l.take i)) c) (l.drop (i + 1)) = fsum (fstep (fsum s (l.take i)) (l.getD i 0)) (l.drop (i + 1)) := h
  exact hne (fstep_inj_c hc hl (fsum_inj _ (fstep_range _ _) (fstep_range _ _) h2))
end Go.Proofs.Ytdcilabbjejklaa
