/- The wire's readers and the page's own: what each computes. -/
import Derived.Test.YtneigplmgellcaaRows
import Derived.Test.YtneigplmgellcaaWire
namespace Go.Proofs.Ytneigplmgellcaa
set_option maxRecDepth 20000
open Go.RowKit

/-- Three numbers are handed back; memory as it was. -/
def Gives3 (r : Int × Int × Int) (w : World) (e : Ending) (w' : World) : Prop := e = .returned (.tuple #[.int .i64 r.1, .int .i64 r.2.1, .int .i64 r.2.2]) ∧ w = w'

theorem ofInt_i64 (a : Nat) (ha : a < 9223372036854775808) : (BitVec.ofInt 64 (a : Int)).toNat = a := by
  rw [BitVec.ofInt_natCast, BitVec.toNat_ofNat]; exact Nat.mod_eq_of_lt (by omega)
theorem i64_or_nat (a b : Nat) (ha : a < 9223372036854775808) (hb : b < 9223372036854775808) : bits .or .i64 (a : Int) (b : Int) = ((a ||| b : Nat) : Int) := by
  have hx : a ||| b < 2 ^ 63 := Nat.or_lt_two_pow (by omega) (by omega)
  show IntKind.i64.wrap ((BitVec.ofInt 64 (a : Int) ||| BitVec.ofInt 64 (b : Int)).toNat : Int) = _
  rw [BitVec.toNat_or, ofInt_i64 a ha, ofInt_i64 b hb, IntKind.wrap_i64]
  omega
theorem u8_and127 (x : Int) (h : 0 ≤ x ∧ x ≤ 255) : bits .and .u8 x 127 = x % 128 := by
  have h2 : ∀ x : Fin 256, bits .and .u8 ((x.val : Nat) : Int) 127 = ((x.val : Nat) : Int) % 128 := by decide +kernel
  have := h2 ⟨x.toNat, by omega⟩
  simp only [Int.toNat_of_nonneg h.1] at this
  exact this
theorem or_low (x acc : Int) (k : Nat) (hx : 0 ≤ x ∧ x ≤ 127) (ha : 0 ≤ acc) (hk : k ≤ 8) (hacc : acc < 128 ^ k) :
    bits .or .i64 acc (wrap64 (x * 2 ^ (7 * k))) = acc + x * 128 ^ k := by
  have hp : (2 : Int) ^ (7 * k) = 128 ^ k := by rw [Int.pow_mul]; rfl
  have hpn : (2 : Nat) ^ (7 * k) = 128 ^ k := by rw [Nat.pow_mul]
  have hb := pow128 k hk
  have hpos := pow128_pos k
  obtain ⟨a, rfl⟩ := Int.eq_ofNat_of_zero_le ha
  obtain ⟨y, rfl⟩ := Int.eq_ofNat_of_zero_le hx.1
  have hc : ((128 ^ k : Nat) : Int) = (128 : Int) ^ k := by simp
  have hlt : y * 128 ^ k < 9223372036854775808 := by
    have : y * 128 ^ k ≤ 127 * 128 ^ k := Nat.mul_le_mul_right _ (by omega)
    omega
  rw [hp]
  have hw : wrap64 ((y : Int) * 128 ^ k) = ((y * 128 ^ k : Nat) : Int) := by
    have e : (y : Int) * 128 ^ k = ((y * 128 ^ k : Nat) : Int) := by simp
    rw [e]
    generalize y * 128 ^ k = z at *
    unfold wrap64
    omega
  rw [hw, i64_or_nat _ _ (by omega) hlt]
  have ho := Nat.two_pow_add_eq_or_of_lt (i := 7 * k) (b := a) (by rw [hpn]; omega) y
  rw [hpn, Nat.mul_comm] at ho
  rw [Nat.or_comm, ← ho]
  simp
  omega
theorem wrap64_small (x : Int) (h : 0 ≤ x ∧ x ≤ 127) : wrap64 x = x := by unfold wrap64; omega
theorem get_or (x acc : Int) (k : Nat) (hx : 0 ≤ x ∧ x ≤ 255) (ha : 0 ≤ acc) (hk : k ≤ 8) (hacc : acc < 128 ^ k) :
    bits .or .i64 acc (wrap64 (wrap64 (bits .and .u8 x 127) * 2 ^ (7 * k))) = acc + x % 128 * 128 ^ k := by
  rw [u8_and127 x hx, wrap64_small (x % 128) (by omega), or_low _ _ _ (by omega) ha hk hacc]
theorem get_acc (x acc : Int) (k : Nat) (ha : 0 ≤ acc) (hacc : acc < 128 ^ k) : 0 ≤ acc + x % 128 * 128 ^ k ∧ acc + x % 128 * 128 ^ k < 128 ^ (k + 1) := by
  have hpos := pow128_pos k
  have h1 : 0 ≤ x % 128 := by omega
  have h2 : x % 128 * 128 ^ k ≤ 127 * 128 ^ k := Int.mul_le_mul_of_nonneg_right (by omega) (by omega)
  have h3 : 0 ≤ x % 128 * 128 ^ k := Int.mul_nonneg h1 (by omega)
  rw [Int.pow_succ]
  omega
theorem drop_cons {l : List Int} {k : Nat} (h : k < l.length) : l.drop k = l.getD k 0 :: l.drop (k + 1) := by
  rw [List.drop_eq_getElem_cons h]
  simp [List.getD, h]

set_option maxHeartbeats 400000 in
set_option maxRecDepth 20000 in
theorem get_num (A : Option Addr) (n c B : Nat) (l : List Int) (w : World) (hr : Reads w B 1 A n (nums .u8 l)) (hl : IsBytes l) (hn : n ≤ 4611686018427387904) :
    Calls Try.prog 60 #[.slice A n c] w (Gives3 (get 0 0 l) w) := by
  go_enter Try.func60, Try.ntmps60
  go_wp2
  go_loop [2, 9] (fun t i => ∃ (k : Nat) (acc : Int), k ≤ n ∧ k ≤ 8 ∧ i = .int .i64 k ∧ t = .int .i64 acc ∧ 0 ≤ acc ∧ acc < 128 ^ k ∧ get 0 0 l = get k acc (l.drop k)) (fun _ i => n - (intOf i).toNat)
  case atStart => exact ⟨0, 0, Nat.zero_le _, by omega, rfl, rfl, by omega, by simp, rfl⟩
  case round =>
    obtain ⟨k, acc, hk, hk8, rfl, rfl, ha, HA, HG⟩ := hrel
    by_cases hlt : k < n
    · obtain ⟨hll, b, o, rfl, hb, hc⟩ := hr.num hlt
      have hx := hl.at_ k
      have hd := drop_cons (l := l) (k := k) (by omega)
      rw [hd] at HG
      clear hd
      have HA' := Lib.hid HA
      have HG' := Lib.hid HG
      clear HA HG hll hr hl
      generalize l.getD k 0 = x at *
      by_cases h128 : 128 ≤ x
      · have d1 : (x == 0) = false := by rw [beq_eq_false_iff_ne]; omega
        by_cases h8 : 8 ≤ k
        · have d2 : ((k : Int) == 8) = true := by rw [beq_iff_eq]; omega
          go_wp2
          go_ret3
          exact ⟨by rw [HG'.out, get_bad (by omega)]; rfl, rfl⟩
        · have d2 : ((k : Int) == 8) = false := by rw [beq_eq_false_iff_ne]; omega
          go_wp2
          go_round
          case rel =>
            have h2 := get_acc x acc k ha HA'.out
            rw [get_more h128 (by omega)] at HG'
            exact ⟨k + 1, _, by omega, by omega, by go_num, ret_val (get_or x acc k hx ha hk8 HA'.out), h2.1, h2.2, HG'.out⟩
          case measure => simp [intOf]; omega
      · have h128' : x < 128 := by omega
        by_cases h0 : 1 ≤ x
        · have d1 : (x == 0) = false := by rw [beq_eq_false_iff_ne]; omega
          have HX := Lib.hid (get_or x acc k hx ha hk8 HA'.out)
          go_wp2
          go_ret3
          exact ⟨by rw [HG'.out, get_last (by omega) h128']; show _ = Ending.returned (.tuple #[.int .i64 (acc + x % 128 * 128 ^ k), .int .i64 ((k : Int) + 1), .int .i64 0]); rw [← HX.out]; rfl, rfl⟩
        · have d1 : (x == 0) = true := by rw [beq_iff_eq]; omega
          by_cases hk0 : 0 < k
          · go_wp2
            go_ret3
            exact ⟨by rw [HG'.out, get_bad (by omega)]; rfl, rfl⟩
          · have HX := Lib.hid (get_or x acc k hx ha hk8 HA'.out)
            go_wp2
            go_ret3
            exact ⟨by rw [HG'.out, get_last (by omega) h128']; show _ = Ending.returned (.tuple #[.int .i64 (acc + x % 128 * 128 ^ k), .int .i64 ((k : Int) + 1), .int .i64 0]); rw [← HX.out]; rfl, rfl⟩
    · obtain rfl : k = n := by omega
      have hll : l.length = k := by have := hr.1; simpa [nums] using this
      have HG' := Lib.hid HG
      clear HG HA
      go_wp2
      go_ret3
      exact ⟨by rw [HG'.out, List.drop_of_length_le (by omega), get_nil]; rfl, rfl⟩

/-- The page's reader looks at nine bytes at most. -/
def getR (k : Nat) (acc : Int) (l : List Int) : Int × Int × Int := if k = 9 then (0, 0, 1) else get k acc l
theorem getR_step {k : Nat} {acc x : Int} {l : List Int} (hx : 128 ≤ x) (hk : k ≤ 8) : getR k acc (x :: l) = getR (k + 1) (acc + x % 128 * 128 ^ k) l := by
  unfold getR
  rw [if_neg (by omega)]
  by_cases h : k = 8
  · subst h; rw [if_pos rfl, get_bad (by omega)]
  · rw [if_neg (by omega), get_more hx h]

set_option maxHeartbeats 400000 in
set_option maxRecDepth 20000 in
theorem ref_get_num (A : Option Addr) (n c B : Nat) (l : List Int) (w : World) (hr : Reads w B 1 A n (nums .u8 l)) (hl : IsBytes l) (hn : n ≤ 4611686018427387904) :
    Calls Try.prog 55 #[.slice A n c] w (Gives3 (get 0 0 l) w) := by
  go_enter Try.func55, Try.ntmps55
  go_wp2
  go_loop [5, 6] (fun t i => ∃ (k : Nat) (acc : Int), k ≤ n ∧ k ≤ 9 ∧ i = .int .i64 k ∧ t = .int .i64 acc ∧ 0 ≤ acc ∧ acc < 128 ^ k ∧ get 0 0 l = getR k acc (l.drop k)) (fun _ i => n - (intOf i).toNat)
  case atStart => exact ⟨0, 0, Nat.zero_le _, by omega, rfl, rfl, by omega, by simp, rfl⟩
  case round =>
    obtain ⟨k, acc, hk, hk9, rfl, rfl, ha, HA, HG⟩ := hrel
    by_cases hlt : k < n
    · by_cases h9 : k < 9
      · obtain ⟨hll, b, o, rfl, hb, hc⟩ := hr.num hlt
        have hx := hl.at_ k
        have hd := drop_cons (l := l) (k := k) (by omega)
        rw [hd] at HG
        clear hd
        have HA' := Lib.hid HA
        have HG' := Lib.hid HG
        clear HA HG hll hr hl
        generalize l.getD k 0 = x at *
        by_cases h128 : 128 ≤ x
        · go_wp2
          go_round
          case rel =>
            have h2 := get_acc x acc k ha HA'.out
            rw [getR_step h128 (by omega)] at HG'
            exact ⟨k + 1, _, by omega, by omega, by go_num, ret_val (or_low (x % 128) acc k (by omega) ha (by omega) HA'.out), h2.1, h2.2, HG'.out⟩
          case measure => simp [intOf]; omega
        · have h128' : x < 128 := by omega
          unfold getR at HG'
          rw [if_neg (by omega)] at HG'
          by_cases h0 : 1 ≤ x
          · have d1 : (x == 0) = false := by rw [beq_eq_false_iff_ne]; omega
            have HX := Lib.hid (or_low (x % 128) acc k (by omega) ha (by omega) HA'.out)
            go_wp2
            go_ret3
            exact ⟨by rw [HG'.out, get_last (by omega) h128']; show _ = Ending.returned (.tuple #[.int .i64 (acc + x % 128 * 128 ^ k), .int .i64 ((k : Int) + 1), .int .i64 0]); rw [← HX.out]; rfl, rfl⟩
          · have d1 : (x == 0) = true := by rw [beq_iff_eq]; omega
            by_cases hk0 : 0 < k
            · go_wp2
              go_ret3
              exact ⟨by rw [HG'.out, get_bad (by omega)]; rfl, rfl⟩
            · have HX := Lib.hid (or_low (x % 128) acc k (by omega) ha (by omega) HA'.out)
              go_wp2
              go_ret3
              exact ⟨by rw [HG'.out, get_last (by omega) h128']; show _ = Ending.returned (.tuple #[.int .i64 (acc + x % 128 * 128 ^ k), .int .i64 ((k : Int) + 1), .int .i64 0]); rw [← HX.out]; rfl, rfl⟩
      · have HG' : Hid (get 0 0 l = (0, 0, 1)) := by
          show _ = _
          rw [HG]; unfold getR; rw [if_pos (by omega)]
        clear HG HA
        have hge : 9 ≤ n := by omega
        go_wp2
        go_ret3
        exact ⟨by rw [HG'.out]; rfl, rfl⟩
    · have hll : l.length = n := by have := hr.1; simpa [nums] using this
      by_cases h9 : 9 ≤ k
      · have HG' : Hid (get 0 0 l = (0, 0, 1)) := by
          show _ = _
          rw [HG]; unfold getR; rw [if_pos (by omega)]
        have hge : 9 ≤ n := by omega
        clear HG HA hll
        go_wp2
        go_ret3
        exact ⟨by rw [HG'.out]; rfl, rfl⟩
      · have HG' : Hid (get 0 0 l = (0, 0, 11)) := by
          show _ = _
          rw [HG]; unfold getR; rw [if_neg (by omega), List.drop_of_length_le (by omega), get_nil]
        have hge : n < 9 := by omega
        clear HG HA hll
        go_wp2
        go_ret3
        exact ⟨by rw [HG'.out]; rfl, rfl⟩

theorem gives3 {n k x : Int} {r : Int × Int × Int} {w : World} (h : r = (n, k, x)) : ∀ (e : Ending) (w' : World), Gives3 r w e w' → e = .returned (.tuple #[.int .i64 n, .int .i64 k, .int .i64 x]) ∧ w = w' := by
  subst h; exact fun _ _ h => h
theorem zag_odd {n : Int} (h : ¬ n % 2 = 0) : zag n = -(n / 2) - 1 := by unfold zag; rw [if_neg h]
theorem zag_even {n : Int} (h : n % 2 = 0) : zag n = n / 2 := by unfold zag; rw [if_pos h]

set_option maxHeartbeats 400000 in
theorem get_int (A : Option Addr) (n c B : Nat) (l : List Int) (w : World) (hr : Reads w B 1 A n (nums .u8 l)) (hl : IsBytes l) (hn : n ≤ 4611686018427387904) :
    Calls Try.prog 63 #[.slice A n c] w (Gives3 (getI l) w) := by
  have hg : ∀ m k x, get 0 0 l = (m, k, x) → 0 ≤ m → m ≤ 9223372036854775807 → Calls Try.prog 63 #[.slice A n c] w (Gives3 (zag m, k, x) w) := by
    intro m k x h h0 h1
    have C := (get_num A n c B l w hr hl hn).mono (gives3 h)
    have C := Lib.hid C
    clear h hr hl
    by_cases hm : m % 2 = 0
    · have d : (m % 2 != 0) = false := by rw [hm]; rfl
      have HM := Lib.hid (zag_even hm)
      clear hm
      go_enter Try.func63, Try.ntmps63
      go_wp2_with fail
      refine Calls.mono C.out ?_
      rintro e w1 ⟨rfl, rfl⟩
      go_wp2
      go_ret3
      exact ⟨by rw [HM.out]; rfl, rfl⟩
    · have d : (m % 2 != 0) = true := by simpa using hm
      have HM := Lib.hid (zag_odd hm)
      clear hm
      go_enter Try.func63, Try.ntmps63
      go_wp2_with fail
      refine Calls.mono C.out ?_
      rintro e w1 ⟨rfl, rfl⟩
      go_wp2
      go_ret3
      exact ⟨by rw [HM.out]; rfl, rfl⟩
  rcases get_ok0 hl with ⟨m, k, h, h0, h1, _⟩ | h | h
  · have := hg m k 0 h h0 h1; unfold getI; rw [h]; exact this
  · have := hg 0 0 1 h (by omega) (by omega); unfold getI; rw [h]; exact this
  · have := hg 0 0 11 h (by omega) (by omega); unfold getI; rw [h]; exact this

set_option maxHeartbeats 400000 in
theorem ref_get_int (A : Option Addr) (n c B : Nat) (l : List Int) (w : World) (hr : Reads w B 1 A n (nums .u8 l)) (hl : IsBytes l) (hn : n ≤ 4611686018427387904) :
    Calls Try.prog 56 #[.slice A n c] w (Gives3 (getI l) w) := by
  have hg : ∀ m k, get 0 0 l = (m, k, 0) → 0 ≤ m → m ≤ 9223372036854775807 → Calls Try.prog 56 #[.slice A n c] w (Gives3 (zag m, k, 0) w) := by
    intro m k h h0 h1
    have C := (ref_get_num A n c B l w hr hl hn).mono (gives3 h)
    have C := Lib.hid C
    clear h hr hl
    by_cases hm : m % 2 = 0
    · have d : (m % 2 == 1) = false := by rw [hm]; rfl
      have HM := Lib.hid (zag_even hm)
      clear hm
      go_enter Try.func56, Try.ntmps56
      go_wp2_with fail
      refine Calls.mono C.out ?_
      rintro e w1 ⟨rfl, rfl⟩
      go_wp2
      go_ret3
      exact ⟨by rw [HM.out]; rfl, rfl⟩
    · have d : (m % 2 == 1) = true := by rw [beq_iff_eq]; omega
      have HM := Lib.hid (zag_odd hm)
      clear hm
      go_enter Try.func56, Try.ntmps56
      go_wp2_with fail
      refine Calls.mono C.out ?_
      rintro e w1 ⟨rfl, rfl⟩
      go_wp2
      go_ret3
      exact ⟨by rw [HM.out]; rfl, rfl⟩
  have hbad : ∀ x : Int, (x != 0) = true → get 0 0 l = (0, 0, x) → Calls Try.prog 56 #[.slice A n c] w (Gives3 (0, 0, x) w) := by
    intro x hx h
    have C := (ref_get_num A n c B l w hr hl hn).mono (gives3 h)
    have C := Lib.hid C
    clear h hr hl
    go_enter Try.func56, Try.ntmps56
    go_wp2_with fail
    refine Calls.mono C.out ?_
    rintro e w1 ⟨rfl, rfl⟩
    go_wp2
    go_ret3
    exact ⟨rfl, rfl⟩
  rcases get_ok0 hl with ⟨m, k, h, h0, h1, _⟩ | h | h
  · have := hg m k h h0 h1; unfold getI; rw [h]; exact this
  · have := hbad 1 rfl h; unfold getI; rw [h]; exact this
  · have := hbad 11 rfl h; unfold getI; rw [h]; exact this

end Go.Proofs.Ytneigplmgellcaa
