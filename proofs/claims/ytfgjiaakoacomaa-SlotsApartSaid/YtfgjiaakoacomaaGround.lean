/- ground's questions, and the page's: whether a ground may be, whether a number is a tile. -/
import Derived.Test.YtfgjiaakoacomaaRows
import Derived.Test.YtfgjiaakoacomaaBytes
import Derived.Test.YtfgjiaakoacomaaMem
import Derived.Outline
namespace Go.Proofs.Ytfgjiaakoacomaa
set_option maxRecDepth 20000
open Go.RowKit

/-- May a map be so wide, or high? -/
def sideB (n : Int) : Bool := decide (1 ≤ n ∧ n ≤ 128)
/-- Is it a ground? -/
def isG (W H : Int) (l : List Int) : Bool := decide (1 ≤ W ∧ W ≤ 128 ∧ 1 ≤ H ∧ H ≤ 128 ∧ (l.length : Int) = W * H ∧ ∀ x ∈ l, x ≤ 5)

theorem ground_side (n : Int) (w : World) : Calls Try.prog 69 #[.int .i64 n] w fun e w' => e = .returned (.bool (sideB n)) ∧ w = w' := by
  by_cases h1 : 1 ≤ n
  · by_cases h2 : n ≤ 128
    · have HR : Hid (sideB n = true) := decide_eq_true ⟨h1, h2⟩
      have d : decide (n ≤ 128) = true := by simpa using h2
      go_enter Try.func69, Try.ntmps69
      go_wp2
      go_ret
      exact ⟨by rw [HR.out]; rfl, rfl⟩
    · have HR : Hid (sideB n = false) := decide_eq_false (fun h => h2 h.2)
      have d : decide (n ≤ 128) = false := by simpa using h2
      clear h2
      go_enter Try.func69, Try.ntmps69
      go_wp2
      go_ret
      exact ⟨by rw [HR.out]; rfl, rfl⟩
  · have HR : Hid (sideB n = false) := decide_eq_false (fun h => h1 h.1)
    have d : decide (1 ≤ n) = false := by simpa using h1
    clear h1
    go_enter Try.func69, Try.ntmps69
    go_wp2
    go_ret
    exact ⟨by rw [HR.out]; rfl, rfl⟩

theorem low_snoc {l : List Int} {k : Nat} (h : k < l.length) : (∀ x ∈ l.take (k + 1), x ≤ 5) ↔ (∀ x ∈ l.take k, x ≤ 5) ∧ l.getD k 0 ≤ 5 := by
  rw [List.take_succ_eq_append_getElem h]
  simp only [List.mem_append, List.mem_singleton]
  have e : l.getD k 0 = l[k] := by simp [List.getD, h]
  rw [e]
  constructor
  · intro H; exact ⟨fun x hx => H x (.inl hx), H _ (.inr rfl)⟩
  · rintro ⟨h1, h2⟩ x (hx | rfl)
    · exact h1 x hx
    · exact h2

/-- What 'slices.Max' gives: it is low just where all are. -/
def MaxOf (l : List Int) (w : World) (e : Ending) (w' : World) : Prop := ∃ m : Int, e = .returned (.int .u8 m) ∧ (m ≤ 5 ↔ ∀ x ∈ l, x ≤ 5) ∧ w = w'
set_option maxHeartbeats 400000 in
theorem slices_max (A : Option Addr) (n c B : Nat) (l : List Int) (w : World) (hr : Reads w B 1 A n (nums .u8 l)) (hl : IsBytes l) (h1 : 1 ≤ n) (hn : n ≤ 1048576) :
    Calls Try.prog 70 #[.slice A n c] w (MaxOf l w) := by
  have hll : l.length = n := by have := hr.1; simpa [nums] using this
  obtain ⟨_, b0, o0, rfl, hb0, hc0⟩ := hr.num (i := 0) (by omega)
  have hd : ((n : Int) < 1) = False := by simp; omega
  have HLL := Lib.hid hll
  have h00 := hl.at_ 0
  have HS : Hid ((l.getD 0 0 ≤ 5) ↔ ∀ x ∈ l.take 1, x ≤ 5) := by
    show _ ↔ _
    rw [low_snoc (by omega)]; simp
  clear hll
  generalize hx0 : l.getD 0 0 = x0 at *
  have HX := Lib.hid hx0
  clear hx0
  rw [Nat.add_zero] at hc0
  go_enter Try.func70, Try.ntmps70
  go_wp2
  go_loop [3, 4] (fun m i => ∃ (k : Nat) (y : Int), 1 ≤ k ∧ k ≤ n ∧ i = .int .i64 k ∧ m = .int .u8 y ∧ (y ≤ 5 ↔ ∀ x ∈ l.take k, x ≤ 5)) (fun _ i => n - (intOf i).toNat)
  case atStart => exact ⟨1, x0, by omega, by omega, rfl, rfl, HS.out⟩
  case round =>
    obtain ⟨k, y, hk0, hk, rfl, rfl, HY⟩ := hrel
    have HY := Lib.hid HY
    by_cases hlt : k < n
    · obtain ⟨_, b, o, he, hb, hc⟩ := hr.num hlt
      have hx := hl.at_ k
      generalize hxk : l.getD k 0 = x at *
      have HX2 := Lib.hid hxk
      clear hxk hc0
      injection he with he
      injection he with he1 he2
      subst he1; subst he2
      go_wp2
      go_round
      case rel =>
        refine ⟨k + 1, _, by omega, by omega, by go_num, rfl, ?_⟩
        rw [low_snoc (by rw [HLL.out]; exact hlt), HX2.out]
        have h := HY.out
        constructor
        · intro h5
          exact ⟨h.1 (by split at h5 <;> omega), by split at h5 <;> omega⟩
        · rintro ⟨h6, h7⟩
          have := h.2 h6
          split <;> omega
      case measure => simp [intOf]; omega
    · obtain rfl : k = n := by omega
      go_wp2
      go_ret
      refine ⟨y, rfl, ?_, rfl⟩
      have h := HY.out
      rw [List.take_of_length_le (by rw [HLL.out]; exact Nat.le_refl _)] at h
      exact h

theorem isG_yes {W H : Int} {l : List Int} (h1 : 1 ≤ W) (h2 : W ≤ 128) (h3 : 1 ≤ H) (h4 : H ≤ 128) (h5 : (l.length : Int) = W * H) : isG W H l = decide (∀ x ∈ l, x ≤ 5) := by
  unfold isG
  exact decide_eq_decide.2 ⟨fun h => h.2.2.2.2.2, fun h => ⟨h1, h2, h3, h4, h5, h⟩⟩
theorem prod_range {W H : Int} (h1 : 1 ≤ W) (h2 : W ≤ 128) (h3 : 1 ≤ H) (h4 : H ≤ 128) : 1 ≤ W * H ∧ W * H ≤ 16384 := by
  have a := Int.mul_le_mul h2 h4 (by omega) (by omega)
  have b := Int.mul_le_mul h1 h3 (by omega) (by omega)
  omega

set_option maxHeartbeats 800000 in
theorem ground_may (W H : Int) (A : Option Addr) (n c B : Nat) (l : List Int) (w : World) (hr : Reads w B 1 A n (nums .u8 l)) (hB : B ≤ w.heap.size) (hl : IsBytes l) :
    Calls Try.prog 56 #[.agg #[.int .i64 W, .int .i64 H, .slice A n c]] w fun e w' => e = .returned (.bool (isG W H l)) ∧ Below w.heap.size w w' := by
  have hll : l.length = n := by have := hr.1; simpa [nums] using this
  have S1 := Lib.hid (fun w => ground_side W w)
  have S2 := Lib.hid (fun w => ground_side H w)
  by_cases hW : 1 ≤ W ∧ W ≤ 128
  · obtain ⟨hW1, hW2⟩ := hW
    rw [show sideB W = true from decide_eq_true ⟨hW1, hW2⟩] at S1
    by_cases hH : 1 ≤ H ∧ H ≤ 128
    · obtain ⟨hH1, hH2⟩ := hH
      rw [show sideB H = true from decide_eq_true ⟨hH1, hH2⟩] at S2
      obtain ⟨p1, p2⟩ := prod_range hW1 hW2 hH1 hH2
      have hwr : IntKind.i64.wrap (W * H) = W * H := IntWalk.i64_in _ (by omega)
      by_cases he : (l.length : Int) = W * H
      · have HR := Lib.hid (isG_yes hW1 hW2 hH1 hH2 he)
        have hd : ((n : Int) != W * H) = false := by rw [← he, hll]; simp
        have M := Lib.hid (fun w (hr : Reads w B 1 A n (nums .u8 l)) => slices_max A n c B l w hr hl (by omega) (by omega))
        have hr' := hr.alloc hB (.cells #[.int .i64 W, .int .i64 H, .slice A n c] 24)
        clear hll he hl
        go_enter Try.func56, Try.ntmps56
        go_wp2_with fail
        refine Calls.mono (S1.out _) ?_
        rintro e w1 ⟨rfl, rfl⟩
        go_wp2_with fail
        refine Calls.mono (S2.out _) ?_
        rintro e w1 ⟨rfl, rfl⟩
        go_wp2_with fail
        refine Calls.mono (M.out _ hr') ?_
        rintro e w1 ⟨m, rfl, hm, rfl⟩
        have HM := Lib.hid hm
        clear hm
        go_wp2
        go_ret
        refine ⟨?_, (Below.refl _ _).alloc (Nat.le_refl _) _⟩
        rw [HR.out]
        show Ending.returned (.bool (decide (m ≤ 5))) = _
        rw [decide_eq_decide.2 HM.out]
      · have HR : Hid (isG W H l = false) := decide_eq_false (fun h => he h.2.2.2.2.1)
        have hd : ((n : Int) != W * H) = true := by rw [bne_iff_ne, ← hll]; exact he
        clear hll he hl
        go_enter Try.func56, Try.ntmps56
        go_wp2_with fail
        refine Calls.mono (S1.out _) ?_
        rintro e w1 ⟨rfl, rfl⟩
        go_wp2_with fail
        refine Calls.mono (S2.out _) ?_
        rintro e w1 ⟨rfl, rfl⟩
        go_wp2
        go_ret
        exact ⟨by rw [HR.out]; rfl, (Below.refl _ _).alloc (Nat.le_refl _) _⟩
    · have HR : Hid (isG W H l = false) := decide_eq_false (fun h => hH ⟨h.2.2.1, h.2.2.2.1⟩)
      rw [show sideB H = false from decide_eq_false hH] at S2
      clear hH hl hll
      go_enter Try.func56, Try.ntmps56
      go_wp2_with fail
      refine Calls.mono (S1.out _) ?_
      rintro e w1 ⟨rfl, rfl⟩
      go_wp2_with fail
      refine Calls.mono (S2.out _) ?_
      rintro e w1 ⟨rfl, rfl⟩
      go_wp2
      go_ret
      exact ⟨by rw [HR.out]; rfl, (Below.refl _ _).alloc (Nat.le_refl _) _⟩
  · have HR : Hid (isG W H l = false) := decide_eq_false (fun h => hW ⟨h.1, h.2.1⟩)
    rw [show sideB W = false from decide_eq_false hW] at S1
    clear hW hl hll
    go_enter Try.func56, Try.ntmps56
    go_wp2_with fail
    refine Calls.mono (S1.out _) ?_
    rintro e w1 ⟨rfl, rfl⟩
    go_wp2
    go_ret
    exact ⟨by rw [HR.out]; rfl, (Below.refl _ _).alloc (Nat.le_refl _) _⟩

set_option maxHeartbeats 800000 in
theorem ref_ground (W H : Int) (A : Option Addr) (n c B : Nat) (l : List Int) (w : World) (hr : Reads w B 1 A n (nums .u8 l)) (hB : B ≤ w.heap.size) (hl : IsBytes l) (hn : n ≤ 4611686018427387904) :
    Calls Try.prog 50 #[.agg #[.int .i64 W, .int .i64 H, .slice A n c]] w fun e w' => e = .returned (.bool (isG W H l)) ∧ Below w.heap.size w w' := by
  have hll : l.length = n := by have := hr.1; simpa [nums] using this
  by_cases hW1 : W < 1
  · have d1 := hW1
    have HR : Hid (isG W H l = false) := decide_eq_false (fun h => by have := h.1; omega)
    clear hl hll
    go_enter Try.func50, Try.ntmps50
    go_wp2
    go_ret
    exact ⟨by rw [HR.out]; rfl, (Below.refl _ _).alloc (Nat.le_refl _) _⟩
  by_cases hW2 : 128 < W
  · have d1 : ¬ W < 1 := hW1
    have HR : Hid (isG W H l = false) := decide_eq_false (fun h => by have := h.2.1; omega)
    clear hl hll
    go_enter Try.func50, Try.ntmps50
    go_wp2
    go_ret
    exact ⟨by rw [HR.out]; rfl, (Below.refl _ _).alloc (Nat.le_refl _) _⟩
  by_cases hH1 : H < 1
  · have d1 : ¬ H < 0 ∨ True := .inr trivial
    have HR : Hid (isG W H l = false) := decide_eq_false (fun h => by have := h.2.2.1; omega)
    clear hl hll
    go_enter Try.func50, Try.ntmps50
    go_wp2
    go_ret
    exact ⟨by rw [HR.out]; rfl, (Below.refl _ _).alloc (Nat.le_refl _) _⟩
  by_cases hH2 : 128 < H
  · have d1 := hH2
    have HR : Hid (isG W H l = false) := decide_eq_false (fun h => by have := h.2.2.2.1; omega)
    clear hl hll
    go_enter Try.func50, Try.ntmps50
    go_wp2
    go_ret
    exact ⟨by rw [HR.out]; rfl, (Below.refl _ _).alloc (Nat.le_refl _) _⟩
  obtain ⟨p1, p2⟩ := prod_range (show 1 ≤ W by omega) (show W ≤ 128 by omega) (show 1 ≤ H by omega) (show H ≤ 128 by omega)
  by_cases he : (l.length : Int) = W * H
  · have HR := Lib.hid (isG_yes (show 1 ≤ W by omega) (show W ≤ 128 by omega) (show 1 ≤ H by omega) (show H ≤ 128 by omega) he)
    have hd : ((n : Int) != W * H) = false := by rw [← he, hll]; simp
    have hr' := hr.alloc hB (.cells #[.int .i64 W, .int .i64 H, .slice A n c] 24)
    have HLL := Lib.hid hll
    have hn' : n ≤ 16384 := by omega
    clear hll he hr
    go_enter Try.func50, Try.ntmps50
    go_wp2
    go_loop [3] (fun i => ∃ (k : Nat), k ≤ n ∧ i = .int .i64 k ∧ (∀ x ∈ l.take k, x ≤ 5)) (fun i => n - (intOf i).toNat)
    case atStart => exact ⟨0, by omega, rfl, by simp⟩
    case round =>
      obtain ⟨k, hk, rfl, HY⟩ := hrel
      have HY := Lib.hid HY
      by_cases hlt : k < n
      · obtain ⟨_, b, o, rfl, hb, hc⟩ := hr'.num hlt
        have hx := hl.at_ k
        have HS := Lib.hid (low_snoc (l := l) (k := k) (by rw [HLL.out]; exact hlt))
        generalize l.getD k 0 = x at *
        by_cases h5 : 5 < x
        · go_wp2
          go_ret
          refine ⟨?_, (Below.refl _ _).alloc (Nat.le_refl _) _⟩
          rw [HR.out, decide_eq_false (fun h => ?_)]
          · rfl
          · have := HS.out.1 (fun x hx => h x (List.mem_of_mem_take hx))
            omega
        · go_wp2
          go_round
          case rel => exact ⟨k + 1, by omega, by go_num, HS.out.2 ⟨HY.out, by omega⟩⟩
          case measure => simp [intOf]; omega
      · obtain rfl : k = n := by omega
        go_wp2
        go_ret
        refine ⟨?_, (Below.refl _ _).alloc (Nat.le_refl _) _⟩
        have h := HY.out
        rw [List.take_of_length_le (by rw [HLL.out]; exact Nat.le_refl _)] at h
        rw [HR.out, decide_eq_true h]
        rfl
  · have HR : Hid (isG W H l = false) := decide_eq_false (fun h => he h.2.2.2.2.1)
    have hd : ((n : Int) != W * H) = true := by rw [bne_iff_ne, ← hll]; exact he
    clear hll he hl
    go_enter Try.func50, Try.ntmps50
    go_wp2
    go_ret
    exact ⟨by rw [HR.out]; rfl, (Below.refl _ _).alloc (Nat.le_refl _) _⟩

/-- Is a number a tile? -/
def tileB (W H t : Int) : Bool := decide (0 ≤ t ∧ t < W * H)
theorem ground_is (W H t : Int) (A : Option Addr) (n c : Nat) (w : World) (h1 : 1 ≤ W) (h2 : W ≤ 128) (h3 : 1 ≤ H) (h4 : H ≤ 128) :
    Calls Try.prog 46 #[.agg #[.int .i64 W, .int .i64 H, .slice A n c], .int .i64 t] w fun e w' => e = .returned (.bool (tileB W H t)) ∧ Below w.heap.size w w' := by
  obtain ⟨p1, p2⟩ := prod_range h1 h2 h3 h4
  by_cases ht : 0 ≤ t
  · by_cases hl : t < W * H
    · have HR : Hid (tileB W H t = true) := decide_eq_true ⟨ht, hl⟩
      have d1 : decide (0 ≤ t) = true := by simpa using ht
      have d2 : decide (t < W * H) = true := by simpa using hl
      go_enter Try.func46, Try.ntmps46
      go_wp2
      go_ret
      exact ⟨by rw [HR.out]; rfl, (Below.refl _ _).alloc (Nat.le_refl _) _⟩
    · have HR : Hid (tileB W H t = false) := decide_eq_false (fun h => hl h.2)
      have d1 : decide (0 ≤ t) = true := by simpa using ht
      have d2 : decide (t < W * H) = false := by simpa using hl
      clear hl
      go_enter Try.func46, Try.ntmps46
      go_wp2
      go_ret
      exact ⟨by rw [HR.out]; rfl, (Below.refl _ _).alloc (Nat.le_refl _) _⟩
  · have HR : Hid (tileB W H t = false) := decide_eq_false (fun h => ht h.1)
    have d1 : decide (0 ≤ t) = false := by simpa using ht
    clear ht
    go_enter Try.func46, Try.ntmps46
    go_wp2
    go_ret
    exact ⟨by rw [HR.out]; rfl, (Below.refl _ _).alloc (Nat.le_refl _) _⟩
theorem ref_tile (W H t : Int) (A : Option Addr) (n c : Nat) (w : World) (h1 : 1 ≤ W) (h2 : W ≤ 128) (h3 : 1 ≤ H) (h4 : H ≤ 128) :
    Calls Try.prog 27 #[.agg #[.int .i64 W, .int .i64 H, .slice A n c], .int .i64 t] w fun e w' => e = .returned (.bool (tileB W H t)) ∧ Below w.heap.size w w' := by
  obtain ⟨p1, p2⟩ := prod_range h1 h2 h3 h4
  by_cases ht : 0 ≤ t
  · by_cases hl : t < W * H
    · have HR : Hid (tileB W H t = true) := decide_eq_true ⟨ht, hl⟩
      have d1 : decide (0 ≤ t) = true := by simpa using ht
      have d2 : decide (t < W * H) = true := by simpa using hl
      go_enter Try.func27, Try.ntmps27
      go_wp2
      go_ret
      exact ⟨by rw [HR.out]; rfl, (Below.refl _ _).alloc (Nat.le_refl _) _⟩
    · have HR : Hid (tileB W H t = false) := decide_eq_false (fun h => hl h.2)
      have d1 : decide (0 ≤ t) = true := by simpa using ht
      have d2 : decide (t < W * H) = false := by simpa using hl
      clear hl
      go_enter Try.func27, Try.ntmps27
      go_wp2
      go_ret
      exact ⟨by rw [HR.out]; rfl, (Below.refl _ _).alloc (Nat.le_refl _) _⟩
  · have HR : Hid (tileB W H t = false) := decide_eq_false (fun h => ht h.1)
    have d1 : decide (0 ≤ t) = false := by simpa using ht
    clear ht
    go_enter Try.func27, Try.ntmps27
    go_wp2
    go_ret
    exact ⟨by rw [HR.out]; rfl, (Below.refl _ _).alloc (Nat.le_refl _) _⟩

end Go.Proofs.Ytfgjiaakoacomaa
