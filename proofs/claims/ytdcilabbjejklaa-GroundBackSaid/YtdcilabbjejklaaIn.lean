/- The statements' search of a number in a list. -/
import Derived.Test.YtdcilabbjejklaaNumbers
namespace Go.Proofs.Ytdcilabbjejklaa
open Go.RowKit

/-- Where a number first stands in a list; -1: nowhere. -/
def inV (x : Int) : List Int → Nat → Int
  | [], _ => -1
  | y :: l, k => if y = x then (k : Int) else inV x l (k + 1)
theorem inV_none {x : Int} : ∀ {l : List Int} {k : Nat}, (∀ j, j < l.length → ¬ l.getD j 0 = x) → inV x l k = -1
  | [], _, _ => rfl
  | y :: l, k, h => by
    have h0 := h 0 (by simp)
    have h1 : ¬ y = x := by simpa using h0
    rw [inV, if_neg h1]
    exact inV_none fun j hj => by simpa using h (j + 1) (by simpa using hj)
theorem inV_some {x : Int} : ∀ {l : List Int} {k j : Nat}, j < l.length → l.getD j 0 = x → 0 ≤ inV x l k
  | [], _, _, h, _ => by simp at h
  | y :: l, k, j, hj, hx => by
    rw [inV]
    by_cases h : y = x
    · rw [if_pos h]; omega
    · rw [if_neg h]
      cases j with
      | zero => exact absurd (by simpa using hx) h
      | succ j => exact inV_some (j := j) (by simpa using hj) (by simpa using hx)
theorem drop_one {l : List Int} {k : Nat} (h : k < l.length) : l.drop k = l.getD k 0 :: l.drop (k + 1) := by
  rw [List.drop_eq_getElem_cons h]
  simp [List.getD, h]

set_option maxHeartbeats 400000 in
theorem in_is (A : Option Addr) (n c B : Nat) (l : List Int) (x : Int) (w : World) (hr : Reads w B 1 A n (nums .i64 l)) (hn : n ≤ 4611686018427387904) :
    Calls Try.prog 38 #[.slice A n c, .int .i64 x] w fun e w' => e = .returned (.int .i64 (inV x l 0)) ∧ ∃ q, w' = w.drewN q := by
  have hll : l.length = n := by have := hr.1; simpa [nums] using this
  have HS : Hid (inV x l 0 = inV x (l.drop 0) 0) := rfl
  go_enter Try.func38, Try.ntmps38
  go_wp2
  go_loopw [5] (fun i wr => ∃ (k q : Nat), k ≤ n ∧ i = .int .i64 k ∧ wr = w.drewN q ∧ Hid (inV x l 0 = inV x (l.drop k) k)) (fun i _ => n - (intOf i).toNat)
  case atStart => exact ⟨0, 0, Nat.zero_le _, rfl, rfl, HS⟩
  case round =>
    clear HS
    obtain ⟨k, q, hk, rfl, rfl, HK⟩ := hrel
    by_cases hlt : k < n
    · obtain ⟨_, b, o, rfl, hb, hc⟩ := hr.num hlt
      have HD := Lib.hid (drop_one (l := l) (k := k) (by omega))
      by_cases he : l.getD k 0 = x
      · have HE : Hid (inV x l 0 = (k : Int)) := by
          show _ = _
          rw [HK.out, HD.out, inV, if_pos he]
        rw [he] at hc
        clear HK HD hll
        go_wp2
        go_ret
        exact ⟨by rw [HE.out]; rfl, q, rfl⟩
      · have HE : Hid (inV x l 0 = inV x (l.drop (k + 1)) (k + 1)) := by
          show _ = _
          rw [HK.out, HD.out, inV, if_neg he]
        clear HK HD
        generalize l.getD k 0 = y at *
        go_wp2
        go_roundw
        case rel => exact ⟨k + 1, q, by omega, by go_num, rfl, HE⟩
        case measure => simp [intOf]; omega
    · have HE : Hid (inV x l 0 = -1) := by
        show _ = _
        rw [HK.out, List.drop_of_length_le (by omega)]
        rfl
      go_wp2
      go_ret
      exact ⟨by rw [HE.out]; rfl, q, rfl⟩
end Go.Proofs.Ytdcilabbjejklaa
