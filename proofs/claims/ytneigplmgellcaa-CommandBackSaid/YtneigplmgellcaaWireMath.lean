/- Plain mathematics of the wire's numbers: seven bits a byte, lowest first. No program. -/
import Derived.WalkKit
namespace Go.Proofs.Ytneigplmgellcaa
set_option maxRecDepth 20000

/-- A number's bytes. -/
def put (n : Nat) : List Int := if n < 128 then [(n : Int)] else ((n % 128 + 128 : Nat) : Int) :: put (n / 128)
termination_by n
decreasing_by omega

theorem put_small {n : Nat} (h : n < 128) : put n = [(n : Int)] := by rw [put, if_pos h]
theorem put_great {n : Nat} (h : 128 ≤ n) : put n = ((n % 128 + 128 : Nat) : Int) :: put (n / 128) := by rw [put, if_neg (by omega)]
theorem put_pos (n : Nat) : 0 < (put n).length := by
  by_cases h : n < 128
  · rw [put_small h]; simp
  · rw [put_great (by omega)]; simp

theorem put_bytes (n : Nat) : ∀ x ∈ put n, 0 ≤ x ∧ x ≤ 255 := by
  induction n using Nat.strongRecOn with
  | _ n ih =>
    by_cases h : n < 128
    · rw [put_small h]
      intro x hx
      simp at hx
      omega
    · rw [put_great (by omega)]
      intro x hx
      rcases List.mem_cons.1 hx with rfl | hx
      · omega
      · exact ih (n / 128) (by omega) x hx

theorem put_length {n k : Nat} : n < 128 ^ k → 0 < k → (put n).length ≤ k := by
  induction k generalizing n with
  | zero => intro _ h; omega
  | succ k ih =>
    intro h _
    by_cases hs : n < 128
    · rw [put_small hs]; simp
    · rw [put_great (by omega)]
      have hk : 0 < k := by
        rcases Nat.eq_zero_or_pos k with rfl | hk
        · simp at h; omega
        · exact hk
      have : n / 128 < 128 ^ k := by
        rw [Nat.pow_succ] at h
        exact Nat.div_lt_of_lt_mul (by omega)
      have := ih this hk
      simp; omega

theorem put_nine {n : Nat} (h : (n : Int) ≤ 9223372036854775807) : (put n).length ≤ 9 := by
  refine put_length (n := n) (k := 9) ?_ (by omega)
  have : (128 : Nat) ^ 9 = 9223372036854775808 := by decide
  omega
/-- Where a writer stands: what is laid, and what is still to be laid, are the whole. -/
theorem put_left {l xs : List Int} {k n : Nat} (h : l ++ put k = xs ++ put n) (hn : (n : Int) ≤ 9223372036854775807) : l.length < xs.length + 9 := by
  have h1 := congrArg List.length h
  simp only [List.length_append] at h1
  have := put_pos k
  have := put_nine hn
  omega

/-- How a number is read: the place, what was read so far; the number, its bytes, the error. -/
def get : Nat → Int → List Int → Int × Int × Int
  | _, _, [] => (0, 0, 11)
  | i, acc, c :: l => if (128 ≤ c ∧ i = 8) ∨ (c = 0 ∧ 0 < i) then (0, 0, 1) else if c < 128 then (acc + c % 128 * 128 ^ i, (i : Int) + 1, 0) else get (i + 1) (acc + c % 128 * 128 ^ i) l

theorem get_nil (i : Nat) (acc : Int) : get i acc [] = (0, 0, 11) := rfl
theorem get_bad {i : Nat} {acc c : Int} {l : List Int} (h : (128 ≤ c ∧ i = 8) ∨ (c = 0 ∧ 0 < i)) : get i acc (c :: l) = (0, 0, 1) := by rw [get, if_pos h]
theorem get_last {i : Nat} {acc c : Int} {l : List Int} (h : ¬ (c = 0 ∧ 0 < i)) (hc : c < 128) : get i acc (c :: l) = (acc + c % 128 * 128 ^ i, (i : Int) + 1, 0) := by
  rw [get, if_neg (by omega), if_pos hc]
theorem get_more {i : Nat} {acc c : Int} {l : List Int} (hc : 128 ≤ c) (hi : i ≠ 8) : get i acc (c :: l) = get (i + 1) (acc + c % 128 * 128 ^ i) l := by
  rw [get, if_neg (by omega), if_neg (by omega)]

theorem pow128 (i : Nat) (h : i ≤ 8) : (128 : Int) ^ i ≤ 72057594037927936 := by
  have h1 : (128 : Nat) ^ i ≤ 128 ^ 8 := Nat.pow_le_pow_right (by omega) h
  have h2 : ((128 ^ i : Nat) : Int) = (128 : Int) ^ i := by simp
  rw [← h2]
  have : (128 : Nat) ^ 8 = 72057594037927936 := by decide
  omega
theorem pow128_pos (i : Nat) : (0 : Int) < (128 : Int) ^ i := Int.pow_pos (by omega)

/-- What a reading may be: a number with its bytes, or one of two errors. -/
theorem get_ok : ∀ (l : List Int) (i : Nat) (acc : Int), (∀ x ∈ l, 0 ≤ x ∧ x ≤ 255) → 0 ≤ acc → acc < 128 ^ i → i ≤ 8 →
    (∃ n k : Int, get i acc l = (n, k, 0) ∧ 0 ≤ n ∧ n ≤ 9223372036854775807 ∧ (i : Int) < k ∧ k ≤ i + l.length ∧ k ≤ 9) ∨ get i acc l = (0, 0, 1) ∨ get i acc l = (0, 0, 11) := by
  intro l
  induction l with
  | nil => intro i acc _ _ _ _; exact .inr (.inr rfl)
  | cons c l ih =>
    intro i acc hb ha hlt hi
    have hc := hb c (List.mem_cons_self ..)
    have h0 : 0 ≤ acc + c % 128 * 128 ^ i := by
      have : 0 ≤ c % 128 * 128 ^ i := Int.mul_nonneg (by omega) (by have := pow128_pos i; omega)
      omega
    have h1 : acc + c % 128 * 128 ^ i < 128 ^ (i + 1) := by
      have hpos := pow128_pos i
      have h2 : c % 128 * 128 ^ i ≤ 127 * 128 ^ i := Int.mul_le_mul_of_nonneg_right (by omega) (by omega)
      rw [Int.pow_succ]
      omega
    by_cases hbad : (128 ≤ c ∧ i = 8) ∨ (c = 0 ∧ 0 < i)
    · exact .inr (.inl (get_bad hbad))
    · by_cases hl : c < 128
      · refine .inl ⟨_, _, get_last (by omega) hl, h0, ?_, by omega, by simp; omega, by omega⟩
        have := pow128 i hi
        have e : (128 : Int) ^ (i + 1) = 128 ^ i * 128 := Int.pow_succ ..
        omega
      · rw [get_more (by omega) (by omega)]
        rcases ih (i + 1) (acc + c % 128 * 128 ^ i) (fun x hx => hb x (List.mem_cons_of_mem _ hx)) h0 h1 (by omega) with ⟨n, k, e, h3, h4, h5, h6, h7⟩ | h
        · exact .inl ⟨n, k, e, h3, h4, by omega, by simp; omega, h7⟩
        · exact .inr h

theorem get_ok0 {l : List Int} (h : ∀ x ∈ l, 0 ≤ x ∧ x ≤ 255) : (∃ n k : Int, get 0 0 l = (n, k, 0) ∧ 0 ≤ n ∧ n ≤ 9223372036854775807 ∧ 1 ≤ k ∧ k ≤ l.length ∧ k ≤ 9) ∨ get 0 0 l = (0, 0, 1) ∨ get 0 0 l = (0, 0, 11) := by
  rcases get_ok l 0 0 h (by omega) (by simp) (by omega) with ⟨n, k, e, h3, h4, h5, h6, h7⟩ | h
  · exact .inl ⟨n, k, e, h3, h4, by omega, by omega, h7⟩
  · exact .inr h

/-- What is read back: the number whose bytes stand first, whatever stands behind them. -/
theorem get_put (l : List Int) : ∀ (n i : Nat) (acc : Int), n * 128 ^ i < 9223372036854775808 → (0 < i → 0 < n) → i ≤ 8 →
    get i acc (put n ++ l) = (acc + n * 128 ^ i, (i : Int) + (put n).length, 0) := by
  intro n
  induction n using Nat.strongRecOn with
  | _ n ih =>
    intro i acc hn hpos hi
    by_cases h : n < 128
    · rw [put_small h, List.singleton_append, get_last (by omega) (by omega)]
      have : (n : Int) % 128 = n := by omega
      rw [this]
      simp
    · have hi8 : i ≠ 8 := by
        rintro rfl
        have : (128 : Nat) ^ 8 = 72057594037927936 := by decide
        rw [this] at hn
        omega
      rw [put_great (by omega), List.cons_append, get_more (by omega) hi8, ih (n / 128) (by omega) (i + 1) _ ?_ (fun _ => by omega) (by omega)]
      · have e1 : (((n % 128 + 128 : Nat) : Int)) % 128 = ((n % 128 : Nat) : Int) := by omega
        have e2 : (n : Int) = ((n % 128 : Nat) : Int) + 128 * ((n / 128 : Nat) : Int) := by omega
        rw [e1, Int.pow_succ]
        refine Prod.ext ?_ (Prod.ext ?_ rfl)
        · show acc + _ + _ = acc + _
          rw [Int.add_assoc]
          congr 1
          conv => rhs; rw [e2]
          rw [Int.add_mul, Int.mul_comm ((128 : Int) ^ i) 128, ← Int.mul_assoc, Int.mul_comm (128 : Int)]
        · simp; omega
      · calc n / 128 * 128 ^ (i + 1) = n / 128 * 128 * 128 ^ i := by rw [Nat.pow_succ, Nat.mul_comm (128 ^ i), Nat.mul_assoc]
          _ ≤ n * 128 ^ i := Nat.mul_le_mul_right _ (Nat.div_mul_le_self n 128)
          _ < _ := hn

/-- A true beginning is cut off. -/
theorem get_cut : ∀ (n i j : Nat) (acc : Int), n * 128 ^ i < 9223372036854775808 → (0 < i → 0 < n) → i ≤ 8 → j < (put n).length → get i acc ((put n).take j) = (0, 0, 11) := by
  intro n
  induction n using Nat.strongRecOn with
  | _ n ih =>
    intro i j acc hn hpos hi hj
    by_cases h : n < 128
    · rw [put_small h] at hj ⊢
      have : j = 0 := by simp at hj; omega
      subst this
      rfl
    · have hi8 : i ≠ 8 := by
        rintro rfl
        have : (128 : Nat) ^ 8 = 72057594037927936 := by decide
        rw [this] at hn
        omega
      rw [put_great (by omega)] at hj ⊢
      cases j with
      | zero => rfl
      | succ j =>
        rw [List.take_succ_cons, get_more (by omega) hi8]
        refine ih (n / 128) (by omega) (i + 1) j _ ?_ (fun _ => by omega) (by omega) (by simpa using hj)
        calc n / 128 * 128 ^ (i + 1) = n / 128 * 128 * 128 ^ i := by rw [Nat.pow_succ, Nat.mul_comm (128 ^ i), Nat.mul_assoc]
          _ ≤ n * 128 ^ i := Nat.mul_le_mul_right _ (Nat.div_mul_le_self n 128)
          _ < _ := hn

/-- A number that may be below 0, as one that is not. -/
def zig (n : Int) : Nat := if n < 0 then (-2 * n - 1).toNat else (2 * n).toNat
/-- .. and back. -/
def zag (n : Int) : Int := if n % 2 = 0 then n / 2 else -(n / 2) - 1
theorem zag_zig (n : Int) : zag (zig n) = n := by unfold zag zig; split <;> split <;> omega
theorem zig_lt {n : Int} (h : -4611686018427387904 ≤ n) (h' : n < 4611686018427387904) : zig n < 9223372036854775808 := by unfold zig; split <;> omega
theorem zig_inj {n m : Int} (h : zig n = zig m) : n = m := by rw [← zag_zig n, ← zag_zig m, h]
theorem put_inj : ∀ {n m : Nat}, put n = put m → n = m := by
  intro n
  induction n using Nat.strongRecOn with
  | _ n ih =>
    intro m h
    have hp := put_pos (n / 128)
    have hq := put_pos (m / 128)
    by_cases hn : n < 128 <;> by_cases hm : m < 128
    · rw [put_small hn, put_small hm] at h
      injection h with h _
      omega
    · rw [put_small hn, put_great (n := m) (by omega)] at h
      injection h with _ h
      rw [← h] at hq; simp at hq
    · rw [put_small hm, put_great (n := n) (by omega)] at h
      injection h with _ h
      rw [h] at hp; simp at hp
    · rw [put_great (n := n) (by omega), put_great (n := m) (by omega)] at h
      injection h with h1 h
      have := ih (n / 128) (by omega) h
      omega

/-- How a number that may be below 0 is read. -/
def getI (l : List Int) : Int × Int × Int := (zag (get 0 0 l).1, (get 0 0 l).2.1, (get 0 0 l).2.2)

/-- The first byte is odd just where the number is. -/
theorem put_head (n : Nat) : ∃ c l, put n = c :: l ∧ c % 2 = (n : Int) % 2 := by
  by_cases h : n < 128
  · exact ⟨_, _, put_small h, by omega⟩
  · exact ⟨_, _, put_great (by omega), by omega⟩
theorem zig_odd {n : Int} : (zig n : Int) % 2 = if n < 0 then 1 else 0 := by unfold zig; split <;> omega
theorem put_len_mono {n m : Nat} (h : n ≤ m) : (put n).length ≤ (put m).length := by
  induction n using Nat.strongRecOn generalizing m with
  | _ n ih =>
    by_cases hn : n < 128
    · rw [put_small hn]; have := put_pos m; simp; omega
    · rw [put_great (n := n) (by omega), put_great (n := m) (by omega)]
      have := @ih (n / 128) (by omega) (m / 128) (Nat.div_le_div_right h)
      simp; omega
theorem put_eq_iff (n m : Int) : (put (zig n) == put (zig m)) = (n == m) := by
  by_cases h : n = m
  · subst h; simp
  · rw [beq_eq_false_iff_ne.2 h, beq_eq_false_iff_ne]
    exact fun e => h (zig_inj (put_inj e))

end Go.Proofs.Ytneigplmgellcaa
