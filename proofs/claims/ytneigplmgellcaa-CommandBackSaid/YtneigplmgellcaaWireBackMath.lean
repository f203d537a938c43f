/- What was written is read again; each true beginning is cut off: plain mathematics, and parts of a list. -/
import Derived.Test.YtneigplmgellcaaWireRaw
namespace Go.Proofs.Ytneigplmgellcaa
set_option maxRecDepth 20000
open Go.RowKit

theorem get_put0 {n : Nat} (h : (n : Int) ≤ 9223372036854775807) (l : List Int) : get 0 0 (put n ++ l) = ((n : Int), ((put n).length : Int), 0) := by
  have := get_put l n 0 0 (by simp; omega) (fun h => absurd h (by omega)) (by omega)
  rw [this]; simp
theorem get_cut0 {n j : Nat} (h : (n : Int) ≤ 9223372036854775807) (hj : j < (put n).length) : get 0 0 ((put n).take j) = (0, 0, 11) :=
  get_cut n 0 j 0 (by simp; omega) (fun h => absurd h (by omega)) (by omega) hj
theorem getI_put {x : Int} (h0 : -4611686018427387904 ≤ x) (h1 : x < 4611686018427387904) (l : List Int) : getI (put (zig x) ++ l) = (x, ((put (zig x)).length : Int), 0) := by
  have := zig_lt h0 h1
  unfold getI
  rw [get_put0 (by omega), zag_zig]
theorem getI_cut {x : Int} {j : Nat} (h0 : -4611686018427387904 ≤ x) (h1 : x < 4611686018427387904) (hj : j < (put (zig x)).length) : getI ((put (zig x)).take j) = (0, 0, 11) := by
  have := zig_lt h0 h1
  unfold getI
  rw [get_cut0 (by omega) hj]
  rfl
theorem getRaw_put {n : Nat} {l : List Int} (hl : l.length = n) (hn : n ≤ 5000) (m : List Int) : getRawR (put n ++ l ++ m) = (l, (((put n).length + n : Nat) : Int), 0) := by
  unfold getRawR
  rw [List.append_assoc, get_put0 (by omega)]
  simp only [ne_eq, not_true_eq_false, if_false]
  rw [if_neg (by omega), if_neg (by simp; omega)]
  refine Prod.ext ?_ (Prod.ext ?_ rfl)
  · show List.take ((n : Int).toNat) (List.drop (((put n).length : Int).toNat) (put n ++ (l ++ m))) = l
    rw [Int.toNat_natCast, Int.toNat_natCast, List.drop_left, ← hl, List.take_left]
  · show ((put n).length : Int) + (n : Int) = (((put n).length + n : Nat) : Int)
    simp
theorem getRaw_cut {n j : Nat} {l : List Int} (hl : l.length = n) (hn : n ≤ 5000) (hj : j < (put n).length + n) : getRawR ((put n ++ l).take j) = ([], 0, 11) := by
  by_cases h : j < (put n).length
  · rw [List.take_append_of_le_length (by omega)]
    unfold getRawR
    rw [get_cut0 (by omega) h]
    rfl
  · rw [List.take_append, List.take_of_length_le (by omega)]
    unfold getRawR
    rw [get_put0 (by omega)]
    simp only [ne_eq, not_true_eq_false, if_false]
    rw [if_neg (by omega), if_pos (by simp; omega)]
theorem reads_take {w : World} {B n j : Nat} {A : Option Addr} {k : IntKind} {l : List Int} (h : Reads w B 1 A n (nums k l)) (hj : j ≤ n) : Reads w B 1 A j (nums k (l.take j)) := by
  have hll : l.length = n := by have := h.1; simpa [nums] using this
  refine ⟨by simp [nums]; omega, fun hp => ?_⟩
  obtain ⟨ad, h1, h2, h3⟩ := h.2 (by omega)
  refine ⟨ad, h1, h2, fun i u hu => h3 i u ?_⟩
  unfold nums at hu ⊢
  rw [List.map_take, List.getElem?_take] at hu
  split at hu
  · exact hu
  · cases hu
theorem bytes_take {l : List Int} (h : IsBytes l) (j : Nat) : IsBytes (l.take j) := fun x hx => h x (List.mem_of_mem_take hx)
theorem bytes_app {l m : List Int} (h : IsBytes l) (h2 : IsBytes m) : IsBytes (l ++ m) := fun x hx => (List.mem_append.1 hx).elim (h x) (h2 x)
/-- Where a row of the call's own, that is not empty, lies. -/
theorem own_place {w : World} {base : Nat} {e : TypeId} {A : Option Addr} {n c : Nat} {xs : List Value} (h : w.ownsRow base e 1 (.slice A n c) n xs) (hn : 0 < n) : ∃ g, A = some ⟨g, 0, none⟩ := by
  obtain ⟨g, cap, hv, _, _⟩ := h.form hn
  injection hv with hA
  exact ⟨g, hA⟩
/-- What is read of the number that stands first. -/
theorem get_num_at {n : Nat} {m : List Int} (h : (n : Int) ≤ 9223372036854775807) (hm : IsBytes m) (hlen : (put n ++ m).length ≤ 4611686018427387904) (A : Option Addr) (c B : Nat) (w : World) (hr : Reads w B 1 A (put n ++ m).length (nums .u8 (put n ++ m))) :
    Calls Try.prog 60 #[.slice A (put n ++ m).length c] w fun e w' => e = .returned (.tuple #[.int .i64 (n : Int), .int .i64 ((put n).length : Int), .int .i64 0]) ∧ w = w' :=
  (get_num A _ c B _ w hr (bytes_app (put_bytes n) hm) hlen).mono (gives3 (get_put0 h m))
theorem get_num_cut {n j : Nat} (h : (n : Int) ≤ 9223372036854775807) (hj : j < (put n).length) (A : Option Addr) (c B : Nat) (w : World) (hr : Reads w B 1 A (put n).length (nums .u8 (put n))) :
    Calls Try.prog 60 #[.slice A j c] w fun e w' => e = .returned (.tuple #[.int .i64 0, .int .i64 0, .int .i64 11]) ∧ w = w' :=
  (get_num A _ c B _ w (reads_take hr (by omega)) (bytes_take (put_bytes n) j) (by have := put_nine h; omega)).mono (gives3 (get_cut0 h hj))
theorem get_int_at {x : Int} {m : List Int} (h0 : -4611686018427387904 ≤ x) (h1 : x < 4611686018427387904) (hm : IsBytes m) (hlen : (put (zig x) ++ m).length ≤ 4611686018427387904) (A : Option Addr) (c B : Nat) (w : World) (hr : Reads w B 1 A (put (zig x) ++ m).length (nums .u8 (put (zig x) ++ m))) :
    Calls Try.prog 63 #[.slice A (put (zig x) ++ m).length c] w fun e w' => e = .returned (.tuple #[.int .i64 x, .int .i64 ((put (zig x)).length : Int), .int .i64 0]) ∧ w = w' :=
  (get_int A _ c B _ w hr (bytes_app (put_bytes _) hm) hlen).mono (gives3 (getI_put h0 h1 m))
theorem get_int_cut {x : Int} {j : Nat} (h0 : -4611686018427387904 ≤ x) (h1 : x < 4611686018427387904) (hj : j < (put (zig x)).length) (A : Option Addr) (c B : Nat) (w : World) (hr : Reads w B 1 A (put (zig x)).length (nums .u8 (put (zig x)))) :
    Calls Try.prog 63 #[.slice A j c] w fun e w' => e = .returned (.tuple #[.int .i64 0, .int .i64 0, .int .i64 11]) ∧ w = w' :=
  (get_int A _ c B _ w (reads_take hr (by omega)) (bytes_take (put_bytes _) j) (by have := put_nine (n := zig x) (by have := zig_lt h0 h1; omega); omega)).mono (gives3 (getI_cut h0 h1 hj))
end Go.Proofs.Ytneigplmgellcaa
