/- The small questions about commands: bounds, places, units. -/
import Derived.Test.YtneigplmgellcaaCmdRead
namespace Go.Proofs.Ytneigplmgellcaa
set_option maxRecDepth 20000
open Go.RowKit

theorem inB_false {n a b : Int} (h : inB n a b = false) : ¬ (a ≤ n ∧ n ≤ b) := fun h2 => by rw [inB_iff.2 h2] at h; cases h
theorem within_is (n a b : Int) (w : World) : Calls Try.prog 45 #[.int .i64 n, .int .i64 a, .int .i64 b] w fun e w' => e = .returned (.bool (inB n a b)) ∧ w = w' := by
  by_cases h1 : a ≤ n
  · by_cases h2 : n ≤ b
    · have HR : Hid (inB n a b = true) := inB_iff.2 ⟨h1, h2⟩
      go_enter Try.func45, Try.ntmps45
      go_wp2
      go_ret
      exact ⟨by rw [HR.out]; rfl, rfl⟩
    · have HR : Hid (inB n a b = false) := by show _ = _; simp [inB]; omega
      have d : decide (n ≤ b) = false := by simpa using h2
      go_enter Try.func45, Try.ntmps45
      go_wp2
      go_ret
      exact ⟨by rw [HR.out]; rfl, rfl⟩
  · have HR : Hid (inB n a b = false) := by show _ = _; simp [inB]; omega
    have d : decide (a ≤ n) = false := by simpa using h1
    go_enter Try.func45, Try.ntmps45
    go_wp2
    go_ret
    exact ⟨by rw [HR.out]; rfl, rfl⟩
theorem kind_is (n : Int) (w : World) : Calls Try.prog 57 #[.int .i64 n] w fun e w' => e = .returned (.bool (inB n 0 3)) ∧ w = w' := by
  by_cases h1 : 0 ≤ n
  · by_cases h2 : n < 4
    · have HR : Hid (inB n 0 3 = true) := inB_iff.2 ⟨h1, by omega⟩
      go_enter Try.func57, Try.ntmps57
      go_wp2
      go_ret
      exact ⟨by rw [HR.out]; rfl, rfl⟩
    · have HR : Hid (inB n 0 3 = false) := by show _ = _; simp [inB]; omega
      have d : decide (n < 4) = false := by simpa using h2
      go_enter Try.func57, Try.ntmps57
      go_wp2
      go_ret
      exact ⟨by rw [HR.out]; rfl, rfl⟩
  · have HR : Hid (inB n 0 3 = false) := by show _ = _; simp [inB]; omega
    have d : decide (0 ≤ n) = false := by simpa using h1
    go_enter Try.func57, Try.ntmps57
    go_wp2
    go_ret
    exact ⟨by rw [HR.out]; rfl, rfl⟩
def placeB (x y : Int) : Bool := inB x (-1099511627776) 1099511627776 && inB y (-1099511627776) 1099511627776
theorem place_is (x y : Int) (w : World) : Calls Try.prog 58 #[.agg #[.int .i64 x, .int .i64 y]] w fun e w' => e = .returned (.bool (placeB x y)) ∧ Below w.heap.size w w' := by
  have HB : Hid (∀ o, Below w.heap.size w (w.alloc o)) := fun o => (Below.refl _ _).alloc (Nat.le_refl _) o
  by_cases h1 : -1099511627776 ≤ x
  · by_cases h2 : x ≤ 1099511627776
    · by_cases h3 : -1099511627776 ≤ y
      · by_cases h4 : y ≤ 1099511627776
        · have HR : Hid (placeB x y = true) := by show _ = _; simp [placeB, inB]; omega
          go_enter Try.func58, Try.ntmps58
          go_wp2
          go_ret
          exact ⟨by rw [HR.out]; rfl, HB.out _⟩
        · have HR : Hid (placeB x y = false) := by show _ = _; simp [placeB, inB]; omega
          have d : decide (y ≤ 1099511627776) = false := by simpa using h4
          go_enter Try.func58, Try.ntmps58
          go_wp2
          go_ret
          exact ⟨by rw [HR.out]; rfl, HB.out _⟩
      · have HR : Hid (placeB x y = false) := by show _ = _; simp [placeB, inB]; omega
        have d : decide (-1099511627776 ≤ y) = false := by simpa using h3
        go_enter Try.func58, Try.ntmps58
        go_wp2
        go_ret
        exact ⟨by rw [HR.out]; rfl, HB.out _⟩
    · have HR : Hid (placeB x y = false) := by show _ = _; simp [placeB, inB]; omega
      have d : decide (x ≤ 1099511627776) = false := by simpa using h2
      go_enter Try.func58, Try.ntmps58
      go_wp2
      go_ret
      exact ⟨by rw [HR.out]; rfl, HB.out _⟩
  · have HR : Hid (placeB x y = false) := by show _ = _; simp [placeB, inB]; omega
    have d : decide (-1099511627776 ≤ x) = false := by simpa using h1
    go_enter Try.func58, Try.ntmps58
    go_wp2
    go_ret
    exact ⟨by rw [HR.out]; rfl, HB.out _⟩

theorem rising_iff : ∀ l : List Int, risingB l = true ↔ ∀ i, i + 1 < l.length → l.getD i 0 < l.getD (i + 1) 0
  | [] => by simp [risingB]
  | [a] => by simp [risingB]
  | a :: b :: l => by
    have ih := rising_iff (b :: l)
    simp only [risingB, Bool.and_eq_true, decide_eq_true_eq, ih]
    constructor
    · intro ⟨h1, h2⟩ i hi
      cases i with
      | zero => simpa using h1
      | succ i =>
        have := h2 i (by simpa using hi)
        simpa using this
    · intro h
      refine ⟨by simpa using h 0 (by simp), fun i hi => ?_⟩
      have := h (i + 1) (by simpa using hi)
      simpa using this
theorem getD_in' {l : List Int} {P : Int → Prop} (h : ∀ x ∈ l, P x) {k : Nat} (hk : k < l.length) : P (l.getD k 0) := by
  have : l.getD k 0 = l[k] := by simp [List.getD, hk]
  rw [this]; exact h _ (List.getElem_mem hk)
theorem all_iff {l : List Int} {P : Int → Prop} : (∀ x ∈ l, P x) ↔ ∀ i, i < l.length → P (l.getD i 0) := by
  constructor
  · intro h i hi; exact getD_in' h hi
  · intro h x hx
    obtain ⟨i, hi, rfl⟩ := List.getElem_of_mem hx
    have := h i hi
    simpa [List.getD, hi] using this
/-- Up to k the units are as they should be. -/
def goodTo (us : List Int) (k : Nat) : Prop := ∀ i, i < k → (1 ≤ us.getD i 0 ∧ us.getD i 0 ≤ 1099511627776) ∧ (0 < i → us.getD (i - 1) 0 < us.getD i 0)
theorem goodTo_all {us : List Int} : goodTo us us.length ↔ risingB us = true ∧ ∀ x ∈ us, 1 ≤ x ∧ x ≤ 1099511627776 := by
  rw [rising_iff, all_iff (P := fun x => 1 ≤ x ∧ x ≤ 1099511627776)]
  constructor
  · intro h
    exact ⟨fun i hi => by have := (h (i + 1) hi).2 (by omega); simpa using this, fun i hi => (h i hi).1⟩
  · intro ⟨h1, h2⟩ i hi
    refine ⟨h2 i hi, fun h0 => ?_⟩
    have := h1 (i - 1) (by omega)
    rwa [show i - 1 + 1 = i by omega] at this
theorem goodTo_no {us : List Int} {k : Nat} (hk : k < us.length) (h : ¬ ((1 ≤ us.getD k 0 ∧ us.getD k 0 ≤ 1099511627776) ∧ (0 < k → us.getD (k - 1) 0 < us.getD k 0))) : okUs us = false := by
  cases h2 : okUs us with
  | false => rfl
  | true =>
    obtain ⟨_, _, h3, h4⟩ := okUs_iff.1 h2
    exact absurd (goodTo_all.2 ⟨h3, h4⟩ k hk) h

set_option maxHeartbeats 800000 in
set_option maxRecDepth 20000 in
theorem units_is (A : Option Addr) (n c B : Nat) (us : List Int) (w : World) (hr : Reads w B 1 A n (nums .i64 us)) (hn : n ≤ 1000000) :
    Calls Try.prog 59 #[.slice A n c] w fun e w' => e = .returned (.bool (okUs us)) ∧ w = w' := by
  have hll : us.length = n := by have := hr.1; simpa [nums] using this
  have HLL := Lib.hid hll
  clear hll
  go_enter Try.func59, Try.ntmps59
  go_wp2_with fail
  go_loop [3, 4, 7] (fun _ _ i => ∃ (k : Nat), k ≤ n ∧ i = .int .i64 (k : Int) ∧ goodTo us k) (fun _ _ i => n - (intOf i).toNat)
  case atStart => exact ⟨0, Nat.zero_le _, rfl, fun i hi => absurd hi (by omega)⟩
  case round =>
    obtain ⟨k, hk, rfl, HG⟩ := hrel
    have HG := Lib.hid HG
    by_cases hlt : k < n
    · obtain ⟨_, b, o, rfl, hb, hc⟩ := hr.num hlt
      have HN := Lib.hid (fun h => goodTo_no (us := us) (k := k) (by rw [HLL.out]; exact hlt) h)
      have HS : Hid ((1 ≤ us.getD k 0 ∧ us.getD k 0 ≤ 1099511627776) ∧ (0 < k → us.getD (k - 1) 0 < us.getD k 0) → goodTo us (k + 1)) := by
        intro h i hi
        rcases Nat.lt_or_ge i k with h1 | h1
        · exact HG.out i h1
        · obtain rfl : i = k := by omega
          exact h
      by_cases hk0 : 0 < k
      · obtain ⟨_, b2, o2, h2, _, hc2⟩ := hr.num (i := k - 1) (by omega)
        simp only [Option.some.injEq, Addr.mk.injEq, and_true] at h2
        obtain ⟨rfl, rfl⟩ := h2
        generalize us.getD k 0 = x at *
        generalize us.getD (k - 1) 0 = y at *
        by_cases h1 : 1 ≤ x
        · by_cases h2 : x ≤ 1099511627776
          · by_cases h3 : y < x
            · go_wp2_with fail
              go_round
              case rel => exact ⟨k + 1, by omega, by go_num, HS.out ⟨⟨h1, h2⟩, fun _ => h3⟩⟩
              case measure => simp [intOf]; omega
            · have d : decide (x ≤ y) = true := by simp; omega
              go_wp2_with fail
              go_ret
              exact ⟨by rw [HN.out (fun h => by have := h.2 hk0; omega)]; rfl, rfl⟩
          · have d : decide (1099511627776 < x) = true := by simp; omega
            go_wp2_with fail
            go_ret
            exact ⟨by rw [HN.out (fun h => by have := h.1.2; omega)]; rfl, rfl⟩
        · have d : decide (x < 1) = true := by simp; omega
          go_wp2_with fail
          go_ret
          exact ⟨by rw [HN.out (fun h => by have := h.1.1; omega)]; rfl, rfl⟩
      · obtain rfl : k = 0 := by omega
        rw [Nat.add_zero] at hc
        generalize us.getD 0 0 = x at *
        by_cases h1 : 1 ≤ x
        · by_cases h2 : x ≤ 1099511627776
          · go_wp2_with fail
            go_round
            case rel => exact ⟨1, by omega, by go_num, HS.out ⟨⟨h1, h2⟩, fun h => absurd h (by omega)⟩⟩
            case measure => simp [intOf]; omega
          · have d : decide (1099511627776 < x) = true := by simp; omega
            go_wp2_with fail
            go_ret
            exact ⟨by rw [HN.out (fun h => by have := h.1.2; omega)]; rfl, rfl⟩
        · have d : decide (x < 1) = true := by simp; omega
          go_wp2_with fail
          go_ret
          exact ⟨by rw [HN.out (fun h => by have := h.1.1; omega)]; rfl, rfl⟩
    · obtain rfl : k = n := by omega
      have HO : Hid (okUs us = decide (1 ≤ k ∧ k ≤ 64)) := by
        show _ = _
        have h1 := HG.out
        have h2 := HLL.out
        subst h2
        obtain ⟨h3, h4⟩ := goodTo_all.1 h1
        cases h5 : okUs us with
        | true => have := okUs_iff.1 h5; simp; omega
        | false =>
          symm
          rw [decide_eq_false_iff_not]
          intro h6
          rw [okUs_iff.2 ⟨h6.1, h6.2, h3, h4⟩] at h5
          cases h5
      by_cases h1 : 1 ≤ k
      · by_cases h2 : k ≤ 64
        · have d : decide ((k : Int) ≤ 64) = true := by simp; omega
          have d2 : decide ((1 : Int) ≤ (k : Int)) = true := by simp; omega
          go_wp2_with fail
          go_ret
          exact ⟨by rw [HO.out, decide_eq_true (show 1 ≤ k ∧ k ≤ 64 by omega)]; rfl, rfl⟩
        · have d : decide ((k : Int) ≤ 64) = false := by simp; omega
          go_wp2_with fail
          go_ret
          exact ⟨by rw [HO.out, decide_eq_false (show ¬ (1 ≤ k ∧ k ≤ 64) by omega)]; rfl, rfl⟩
      · have d : decide ((1 : Int) ≤ (k : Int)) = false := by simp; omega
        go_wp2_with fail
        go_ret
        exact ⟨by rw [HO.out, decide_eq_false (show ¬ (1 ≤ k ∧ k ≤ 64) by omega)]; rfl, rfl⟩

/-! The page's own questions. -/
theorem ref_tile_is (n : Int) (w : World) : Calls Try.prog 34 #[.int .i64 n] w fun e w' => e = .returned (.bool (inB n 0 16383)) ∧ w = w' := by
  by_cases h1 : 0 ≤ n
  · by_cases h2 : n < 16384
    · have HR : Hid (inB n 0 16383 = true) := inB_iff.2 ⟨h1, by omega⟩
      go_enter Try.func34, Try.ntmps34
      go_wp2
      go_ret
      exact ⟨by rw [HR.out]; rfl, rfl⟩
    · have HR : Hid (inB n 0 16383 = false) := by show _ = _; simp [inB]; omega
      have d : decide (n < 16384) = false := by simpa using h2
      go_enter Try.func34, Try.ntmps34
      go_wp2
      go_ret
      exact ⟨by rw [HR.out]; rfl, rfl⟩
  · have HR : Hid (inB n 0 16383 = false) := by show _ = _; simp [inB]; omega
    have d : decide (0 ≤ n) = false := by simpa using h1
    go_enter Try.func34, Try.ntmps34
    go_wp2
    go_ret
    exact ⟨by rw [HR.out]; rfl, rfl⟩
theorem ref_id_is (n : Int) (w : World) : Calls Try.prog 35 #[.int .i64 n] w fun e w' => e = .returned (.bool (inB n 1 1099511627776)) ∧ w = w' := by
  by_cases h1 : 1 ≤ n
  · by_cases h2 : n ≤ 1099511627776
    · have HR : Hid (inB n 1 1099511627776 = true) := inB_iff.2 ⟨h1, by omega⟩
      go_enter Try.func35, Try.ntmps35
      go_wp2
      go_ret
      exact ⟨by rw [HR.out]; rfl, rfl⟩
    · have HR : Hid (inB n 1 1099511627776 = false) := by show _ = _; simp [inB]; omega
      have d : decide (n ≤ 1099511627776) = false := by simpa using h2
      go_enter Try.func35, Try.ntmps35
      go_wp2
      go_ret
      exact ⟨by rw [HR.out]; rfl, rfl⟩
  · have HR : Hid (inB n 1 1099511627776 = false) := by show _ = _; simp [inB]; omega
    have d : decide (1 ≤ n) = false := by simpa using h1
    go_enter Try.func35, Try.ntmps35
    go_wp2
    go_ret
    exact ⟨by rw [HR.out]; rfl, rfl⟩
theorem ref_num_is (n b : Int) (w : World) : Calls Try.prog 31 #[.int .i64 n, .int .i64 b] w fun e w' => e = .returned (.bool (inB n 0 b)) ∧ w = w' := by
  by_cases h1 : 0 ≤ n
  · by_cases h2 : n ≤ b
    · have HR : Hid (inB n 0 b = true) := inB_iff.2 ⟨h1, h2⟩
      go_enter Try.func31, Try.ntmps31
      go_wp2
      go_ret
      exact ⟨by rw [HR.out]; rfl, rfl⟩
    · have HR : Hid (inB n 0 b = false) := by show _ = _; simp [inB]; omega
      have d : decide (n ≤ b) = false := by simpa using h2
      go_enter Try.func31, Try.ntmps31
      go_wp2
      go_ret
      exact ⟨by rw [HR.out]; rfl, rfl⟩
  · have HR : Hid (inB n 0 b = false) := by show _ = _; simp [inB]; omega
    have d : decide (0 ≤ n) = false := by simpa using h1
    go_enter Try.func31, Try.ntmps31
    go_wp2
    go_ret
    exact ⟨by rw [HR.out]; rfl, rfl⟩
theorem ref_place_is (x y : Int) (w : World) : Calls Try.prog 32 #[.agg #[.int .i64 x, .int .i64 y], .int .i64 0] w fun e w' => e = .returned (.bool (placeB x y)) ∧ Below w.heap.size w w' := by
  have HB : Hid (∀ o, Below w.heap.size w (w.alloc o)) := fun o => (Below.refl _ _).alloc (Nat.le_refl _) o
  by_cases h1 : -1099511627776 ≤ x
  · by_cases h2 : x ≤ 1099511627776
    · by_cases h3 : -1099511627776 ≤ y
      · by_cases h4 : y ≤ 1099511627776
        · have HR : Hid (placeB x y = true) := by show _ = _; simp [placeB, inB]; omega
          go_enter Try.func32, Try.ntmps32
          go_wp2
          go_ret
          exact ⟨by rw [HR.out]; rfl, HB.out _⟩
        · have HR : Hid (placeB x y = false) := by show _ = _; simp [placeB, inB]; omega
          have d : decide (y ≤ 1099511627776) = false := by simpa using h4
          go_enter Try.func32, Try.ntmps32
          go_wp2
          go_ret
          exact ⟨by rw [HR.out]; rfl, HB.out _⟩
      · have HR : Hid (placeB x y = false) := by show _ = _; simp [placeB, inB]; omega
        have d : decide (-1099511627776 ≤ y) = false := by simpa using h3
        go_enter Try.func32, Try.ntmps32
        go_wp2
        go_ret
        exact ⟨by rw [HR.out]; rfl, HB.out _⟩
    · have HR : Hid (placeB x y = false) := by show _ = _; simp [placeB, inB]; omega
      have d : decide (x ≤ 1099511627776) = false := by simpa using h2
      go_enter Try.func32, Try.ntmps32
      go_wp2
      go_ret
      exact ⟨by rw [HR.out]; rfl, HB.out _⟩
  · have HR : Hid (placeB x y = false) := by show _ = _; simp [placeB, inB]; omega
    have d : decide (-1099511627776 ≤ x) = false := by simpa using h1
    go_enter Try.func32, Try.ntmps32
    go_wp2
    go_ret
    exact ⟨by rw [HR.out]; rfl, HB.out _⟩

set_option maxHeartbeats 800000 in
set_option maxRecDepth 20000 in
theorem ref_rising (A : Option Addr) (n c B : Nat) (us : List Int) (w : World) (hr : Reads w B 1 A n (nums .i64 us)) (hn : n ≤ 1000000) :
    Calls Try.prog 50 #[.slice A n c] w (QuietBool (risingB us) w) := by
  have hll : us.length = n := by have := hr.1; simpa [nums] using this
  have HLL := Lib.hid hll
  clear hll
  go_enter Try.func50, Try.ntmps50
  go_wp2_with fail
  go_loopw [3] (fun i wr => ∃ (k q : Nat), 1 ≤ k ∧ (k ≤ n ∨ k = 1) ∧ i = .int .i64 (k : Int) ∧ wr = w.drewN q ∧ ∀ j, j + 1 < k → us.getD j 0 < us.getD (j + 1) 0) (fun i _ => n - (intOf i).toNat)
  case atStart => exact ⟨1, 0, Nat.le_refl _, .inr rfl, rfl, rfl, fun j hj => absurd hj (by omega)⟩
  case round =>
    obtain ⟨k, q, hk1, hk, rfl, rfl, HG⟩ := hrel
    have HG := Lib.hid HG
    by_cases hlt : k < n
    · obtain ⟨_, b, o, rfl, hb, hc⟩ := hr.num hlt
      obtain ⟨_, b2, o2, h2, _, hc2⟩ := hr.num (i := k - 1) (by omega)
      simp only [Option.some.injEq, Addr.mk.injEq, and_true] at h2
      obtain ⟨rfl, rfl⟩ := h2
      have HS : Hid (us.getD (k - 1) 0 < us.getD k 0 → ∀ j, j + 1 < k + 1 → us.getD j 0 < us.getD (j + 1) 0) := by
        intro h j hj
        rcases Nat.lt_or_ge (j + 1) k with h1 | h1
        · exact HG.out j h1
        · obtain rfl : j = k - 1 := by omega
          rw [show k - 1 + 1 = k by omega]; exact h
      have HN : Hid (¬ us.getD (k - 1) 0 < us.getD k 0 → risingB us = false) := by
        intro h
        cases h5 : risingB us with
        | false => rfl
        | true =>
          have := rising_iff us |>.1 h5 (k - 1) (by rw [HLL.out]; omega)
          rw [show k - 1 + 1 = k by omega] at this
          exact absurd this h
      generalize us.getD k 0 = x at *
      generalize us.getD (k - 1) 0 = y at *
      have hki : (1 : Int) ≤ (k : Int) := by omega
      have hkn : (k : Int) < (n : Int) := by omega
      by_cases h3 : y < x
      · have d : decide (x ≤ y) = false := by simp; omega
        go_wp2_with fail
        go_quiet (fail)
        go_wp2_with fail
        go_roundw
        case rel => exact ⟨k + 1, q + nq, by omega, .inl (by omega), by go_num, rfl, HS.out h3⟩
        case measure => simp [intOf]; omega
      · have d : decide (x ≤ y) = true := by simp; omega
        go_wp2_with fail
        go_quiet (fail)
        go_wp2_with fail
        go_ret
        exact ⟨by rw [HN.out (by omega)]; rfl, q + nq, World.drewN_drewN _ _ _⟩
    · have HO : Hid (risingB us = true) := by
        refine (rising_iff us).2 fun i hi => HG.out i ?_
        rw [HLL.out] at hi
        omega
      go_wp2_with fail
      go_ret
      exact ⟨by rw [HO.out]; rfl, q, rfl⟩

set_option maxHeartbeats 800000 in
set_option maxRecDepth 20000 in
theorem ref_between (A : Option Addr) (n c B : Nat) (us : List Int) (w : World) (hr : Reads w B 1 A n (nums .i64 us)) (hn : n ≤ 1000000) :
    Calls Try.prog 51 #[.slice A n c, .int .i64 1, .int .i64 1099511627776] w fun e w' => e = .returned (.bool (us.all fun x => inB x 1 1099511627776)) ∧ w = w' := by
  have hll : us.length = n := by have := hr.1; simpa [nums] using this
  have HLL := Lib.hid hll
  have HA : Hid ((us.all fun x => inB x 1 1099511627776) = true ↔ ∀ i, i < us.length → 1 ≤ us.getD i 0 ∧ us.getD i 0 ≤ 1099511627776) := by
    show _ ↔ _
    rw [← all_iff (P := fun x => 1 ≤ x ∧ x ≤ 1099511627776)]
    simp only [List.all_eq_true, inB_iff]
  generalize us.all (fun x => inB x 1 1099511627776) = R at *
  clear hll
  go_enter Try.func51, Try.ntmps51
  go_wp2_with fail
  go_loop [7] (fun i => ∃ (k : Nat), k ≤ n ∧ i = .int .i64 (k : Int) ∧ ∀ j, j < k → 1 ≤ us.getD j 0 ∧ us.getD j 0 ≤ 1099511627776) (fun i => n - (intOf i).toNat)
  case atStart => exact ⟨0, Nat.zero_le _, rfl, fun i hi => absurd hi (by omega)⟩
  case round =>
    obtain ⟨k, hk, rfl, HG⟩ := hrel
    have HG := Lib.hid HG
    by_cases hlt : k < n
    · obtain ⟨_, b, o, rfl, hb, hc⟩ := hr.num hlt
      have HS : Hid (1 ≤ us.getD k 0 ∧ us.getD k 0 ≤ 1099511627776 → ∀ j, j < k + 1 → 1 ≤ us.getD j 0 ∧ us.getD j 0 ≤ 1099511627776) := by
        intro h j hj
        rcases Nat.lt_or_ge j k with h1 | h1
        · exact HG.out j h1
        · obtain rfl : j = k := by omega
          exact h
      have HN : Hid (¬ (1 ≤ us.getD k 0 ∧ us.getD k 0 ≤ 1099511627776) → R = false) := by
        intro h
        cases h5 : R with
        | false => rfl
        | true => exact absurd (HA.out.1 h5 k (by rw [HLL.out]; exact hlt)) h
      generalize us.getD k 0 = x at *
      by_cases h1 : 1 ≤ x
      · by_cases h2 : x ≤ 1099511627776
        · have d : decide (x < 1) = false := by simp; omega
          have d2 : decide (1099511627776 < x) = false := by simp; omega
          go_wp2_with fail
          go_round
          case rel => exact ⟨k + 1, by omega, by go_num, HS.out (by omega)⟩
          case measure => simp [intOf]; omega
        · have d : decide (1099511627776 < x) = true := by simp; omega
          go_wp2_with fail
          go_ret
          exact ⟨by rw [HN.out (by omega)]; rfl, rfl⟩
      · have d : decide (x < 1) = true := by simp; omega
        go_wp2_with fail
        go_ret
        exact ⟨by rw [HN.out (by omega)]; rfl, rfl⟩
    · have HO : Hid (R = true) := by
        refine HA.out.2 fun i hi => HG.out i ?_
        rw [HLL.out] at hi
        omega
      go_wp2_with fail
      go_ret
      exact ⟨by rw [HO.out]; rfl, rfl⟩

set_option maxHeartbeats 800000 in
theorem ref_ids_is (A : Option Addr) (n c B : Nat) (us : List Int) (w : World) (hr : Reads w B 1 A n (nums .i64 us)) (hn : n ≤ 1000000) :
    Calls Try.prog 33 #[.slice A n c] w (QuietBool (okUs us) w) := by
  have hll : us.length = n := by have := hr.1; simpa [nums] using this
  have C1 := Lib.hid (ref_rising A n c B us w hr hn)
  have C2 := Lib.hid (fun q => ref_between A n c B us (w.drewN q) (hr.drewN q) hn)
  have HO : Hid (okUs us = (decide (1 ≤ n) && decide (n ≤ 64) && risingB us && us.all fun x => inB x 1 1099511627776)) := by show _ = _; unfold okUs; rw [hll]
  generalize (us.all fun x => inB x 1 1099511627776) = R at *
  generalize risingB us = T at *
  clear hll
  by_cases h1 : 1 ≤ n
  · have d1 : decide ((1 : Int) ≤ (n : Int)) = true := by simp; omega
    by_cases h2 : n ≤ 64
    · have d2 : decide ((n : Int) ≤ 64) = true := by simp; omega
      have HV : Hid (okUs us = (T && R)) := by show _ = _; rw [HO.out]; simp [h1, h2]
      clear HO
      cases T with
      | false =>
        go_enter Try.func33, Try.ntmps33
        go_wp2_with fail
        refine Calls.mono C1.out ?_
        rintro e w1 ⟨rfl, q, rfl⟩
        go_wp2_with fail
        go_ret
        exact ⟨by rw [HV.out]; rfl, q, rfl⟩
      | true =>
        go_enter Try.func33, Try.ntmps33
        go_wp2_with fail
        refine Calls.mono C1.out ?_
        rintro e w1 ⟨rfl, q, rfl⟩
        go_wp2_with fail
        refine Calls.mono (C2.out q) ?_
        rintro e w1 ⟨rfl, rfl⟩
        go_wp2_with fail
        go_ret
        exact ⟨by rw [HV.out]; rfl, q, rfl⟩
    · have d2 : decide ((n : Int) ≤ 64) = false := by simp; omega
      have HV : Hid (okUs us = false) := by show _ = _; rw [HO.out]; simp [h2]
      clear HO
      go_enter Try.func33, Try.ntmps33
      go_wp2_with fail
      go_ret
      exact ⟨by rw [HV.out]; rfl, 0, rfl⟩
  · have d1 : decide ((1 : Int) ≤ (n : Int)) = false := by simp; omega
    have HV : Hid (okUs us = false) := by show _ = _; rw [HO.out]; simp [h1]
    clear HO
    go_enter Try.func33, Try.ntmps33
    go_wp2_with fail
    go_ret
    exact ⟨by rw [HV.out]; rfl, 0, rfl⟩
end Go.Proofs.Ytneigplmgellcaa
