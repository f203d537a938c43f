/- wire.Raw, wire.GetRaw, the page's own; copies; answers written over. -/
import Derived.Test.YtpklgghppmlklaaRows
import Derived.Test.YtpklgghppmlklaaWireNum
namespace Go.Proofs.Ytpklgghppmlklaa
open Go.RowKit

theorem nums_one (k : IntKind) (l : List Int) : ∀ u ∈ nums k l, u.oneCell' = true := by
  intro u hu
  obtain ⟨x, _, rfl⟩ := List.mem_map.1 hu
  rfl
theorem own_empty (w : World) (e : TypeId) : (w.alloc (.cells #[] e)).ownsRow w.heap.size e 1 (.slice (some ⟨w.heap.size, 0, none⟩) 0 0) 0 [] :=
  ⟨by simp, .inr ⟨w.heap.size, 0, #[], rfl, Nat.le_refl _, heap_alloc_new w _, Nat.le_refl _, Nat.zero_le _, by simp, by simp⟩⟩

set_option maxHeartbeats 400000 in
theorem clone_bytes (A : Option Addr) (n c B : Nat) (l : List Int) (w : World) (hr : Reads w B 1 A n (nums .u8 l)) (hB : B ≤ w.heap.size) (hn : n ≤ 1073741824) (hc : A = none → c = 0) :
    Calls Try.prog 36 #[.slice A n c] w (GivesBytes w.heap.size w l) := by
  have hll : l.length = n := by have := hr.1; simpa [nums] using this
  obtain ⟨i0, hi0, hz0, hz1, hz2⟩ := info_parts info_u8
  rcases A with _ | a
  · have hn0 : n = 0 := by
      rcases Nat.eq_zero_or_pos n with h | h
      · exact h
      · obtain ⟨_, h, _⟩ := hr.2 h; cases h
    subst hn0
    have hl : l = [] := List.eq_nil_of_length_eq_zero hll
    subst hl
    have hc0 := hc rfl
    subst hc0
    have hs := fun W => Lib.run_eql_slice_nil (P := Try.prog) W 24 5 none 0 0 0 0 Try.underlying24
    go_enter Try.func36, Try.ntmps36
    go_wp2
    go_ret
    exact ⟨none, 0, rfl, World.ownsRow_nil _ _ _ _, Below.refl _ _⟩
  · have hs := fun W => Lib.run_eql_slice_nil (P := Try.prog) W 24 5 (some a) n c 0 0 Try.underlying24
    have hr := hr.more hB
    have HLL := Lib.hid hll
    clear hll hB
    go_enter Try.func36, Try.ntmps36
    go_wp2_with (at_builtin; refine wpList_append_reads _ rfl _ _ _ rfl w.heap.size 5 i0 _ 1 1 Try.underlying24 hi0 hz0 hz1 hz2 rfl (by omega) _ _ _ rfl (own_empty w 5) _ _ _ _ _ rfl (hr.alloc (Nat.le_refl _) _) (nums_one _ _) (by unfold maxLen; omega) (by omega) (by simp) ?_; intro A2 c2 w2 hown2 hb2)
    go_ret
    have hl2 := HLL.out
    refine ⟨A2, c2, ?_, ?_, ((Below.refl _ _).alloc (Nat.le_refl _) _).trans hb2⟩
    · rw [hl2]; rfl
    · rw [hl2]; rw [Nat.zero_add, List.nil_append] at hown2; exact hown2

/-- 'wire.Raw': bytes with their number ahead. -/
def rawR (l : List Int) : List Int × Int := if 1048576 < l.length then ([], 2) else (put l.length ++ l, 0)
set_option maxHeartbeats 400000 in
theorem wire_raw (A : Option Addr) (n c B : Nat) (l : List Int) (w : World) (hr : Reads w B 1 A n (nums .u8 l)) (hB : B ≤ w.heap.size) (hn : n ≤ 1048576) :
    Calls Try.prog 31 #[.slice A n c] w (GivesNum w.heap.size w (put n ++ l, 0)) := by
  have hll : l.length = n := by have := hr.1; simpa [nums] using this
  obtain ⟨i0, hi0, hz0, hz1, hz2⟩ := info_parts info_u8
  have hr := hr.more hB
  have HLL := Lib.hid hll
  have P1 := Lib.hid (put_nil_i (n : Int) w (by omega) (by omega))
  have hpl : (put n).length ≤ 9 := put_nine (by omega)
  clear hll hB
  go_enter Try.func31, Try.ntmps31
  go_wp2_with fail
  refine Calls.mono P1.out ?_
  rintro e w1 ⟨A1, c1, rfl, hown1, hb1⟩
  rw [Int.toNat_natCast] at hown1 ⊢
  go_wp2_with (at_builtin; refine wpList_append_reads _ rfl _ _ _ rfl w.heap.size 5 i0 _ 1 1 Try.underlying24 hi0 hz0 hz1 hz2 rfl (by omega) _ _ _ rfl hown1 _ _ _ _ _ rfl (hr.below hb1) (nums_one _ _) (by unfold maxLen; omega) (by omega) hb1.size ?_; intro A2 c2 w2 hown2 hb2)
  go_ret2
  have hl2 := HLL.out
  have hlen : (put n ++ l).length = (put n).length + n := by simp [hl2]
  refine ⟨A2, c2, ?_, ?_, hb1.trans hb2⟩
  · show _ = Ending.returned (.tuple #[.slice A2 (put n ++ l).length c2, .int .i64 0]); rw [hlen]; rfl
  · show w2.ownsRow _ _ _ (.slice A2 (put n ++ l).length c2) (put n ++ l).length (nums .u8 (put n ++ l))
    rw [hlen]
    have e : nums .u8 (put n ++ l) = nums .u8 (put n) ++ nums .u8 l := by simp [nums]
    rw [e]; exact hown2

/-- What 'GetRaw' finds: the bytes, how many were read, the error. -/
def getRawR (l : List Int) : List Int × Int × Int :=
  if (get 0 0 l).2.2 ≠ 0 then ([], 0, (get 0 0 l).2.2)
  else if 1048576 < (get 0 0 l).1 then ([], 0, 1)
  else if (l.length : Int) - (get 0 0 l).2.1 < (get 0 0 l).1 then ([], 0, 11)
  else ((l.drop (get 0 0 l).2.1.toNat).take (get 0 0 l).1.toNat, (get 0 0 l).2.1 + (get 0 0 l).1, 0)
/-- Bytes of the call's own, two numbers. -/
def GivesRaw (base : Nat) (w : World) (r : List Int × Int × Int) (e : Ending) (w' : World) : Prop :=
  ∃ A c, e = .returned (.tuple #[.slice A r.1.length c, .int .i64 r.2.1, .int .i64 r.2.2]) ∧ w'.ownsRow base 5 1 (.slice A r.1.length c) r.1.length (nums .u8 r.1) ∧ Below base w w'

set_option maxHeartbeats 800000 in
theorem get_raw (A : Option Addr) (n c B : Nat) (l : List Int) (w : World) (hr : Reads w B 1 A n (nums .u8 l)) (hB : B ≤ w.heap.size) (hl : IsBytes l) (hn : n ≤ 2097152) (hnc : n ≤ c) (hc : c ≤ 9223372036854775807) :
    Calls Try.prog 32 #[.slice A n c] w (GivesRaw w.heap.size w (getRawR l)) := by
  have hll : l.length = n := by have := hr.1; simpa [nums] using this
  have hr := hr.more hB
  have hbad : ∀ x : Int, (x != 0) = true → get 0 0 l = (0, 0, x) → Calls Try.prog 32 #[.slice A n c] w (GivesRaw w.heap.size w ([], 0, x)) := by
    intro x hx h
    have C := Lib.hid ((get_num A n c _ l w hr hl (by omega)).mono (gives3 h))
    clear h
    go_enter Try.func32, Try.ntmps32
    go_wp2_with fail
    refine Calls.mono C.out ?_
    rintro e w1 ⟨rfl, rfl⟩
    go_wp2
    go_ret3
    exact ⟨none, 0, rfl, World.ownsRow_nil _ _ _ _, Below.refl _ _⟩
  rcases get_ok0 hl with ⟨m, k, h, h0, h1, h2, h3, h4⟩ | h | h
  · have C := Lib.hid ((get_num A n c _ l w hr hl (by omega)).mono (gives3 h))
    by_cases hm : 1048576 < m
    · have HR : Hid (getRawR l = ([], 0, 1)) := by
        show _ = _
        unfold getRawR; rw [h]; simp [hm]
      clear h
      go_enter Try.func32, Try.ntmps32
      go_wp2_with fail
      refine Calls.mono C.out ?_
      rintro e w1 ⟨rfl, rfl⟩
      go_wp2
      go_ret3
      rw [HR.out]
      exact ⟨none, 0, rfl, World.ownsRow_nil _ _ _ _, Below.refl _ _⟩
    · by_cases hcut : (n : Int) - k < m
      · have HR : Hid (getRawR l = ([], 0, 11)) := by
          show _ = _
          unfold getRawR; rw [h]; simp [hm, hll, hcut]
        have hm' : m ≤ 1048576 := by omega
        clear h
        go_enter Try.func32, Try.ntmps32
        go_wp2_with fail
        refine Calls.mono C.out ?_
        rintro e w1 ⟨rfl, rfl⟩
        go_wp2
        go_ret3
        rw [HR.out]
        exact ⟨none, 0, rfl, World.ownsRow_nil _ _ _ _, Below.refl _ _⟩
      · have HR : Hid (getRawR l = ((l.drop k.toNat).take m.toNat, k + m, 0)) := by
          show _ = _
          unfold getRawR; rw [h]; simp [hm, hll, hcut]
        have hm' : m ≤ 1048576 := by omega
        have hcut' : k + m ≤ (n : Int) := by omega
        obtain ⟨q, rfl⟩ := Int.eq_ofNat_of_zero_le (show 0 ≤ k by omega)
        obtain ⟨p, rfl⟩ := Int.eq_ofNat_of_zero_le h0
        rw [Int.toNat_natCast, Int.toNat_natCast] at HR
        obtain ⟨_, b, o, rfl, hbb, _⟩ := hr.num (i := 0) (by omega)
        have hmid := hr.mid (q := q) (m := p) (c := c) (by omega) hnc
        have hlm : ((l.drop q).take p).length = p := by simp [hll]; omega
        have K := Lib.hid (fun A (hA : A = (if c = q then some ⟨b, o, none⟩ else some ⟨b, o + q, none⟩)) => clone_bytes A p (c - q) _ ((l.drop q).take p) w (by rw [hA]; exact hmid) (Nat.le_refl _) (by omega) (fun e => by rw [hA] at e; split at e <;> cases e))
        have HLM := Lib.hid hlm
        clear h hcut hm hll hlm hmid hr
        by_cases hcq : c = q
        · have K1 := Lib.hid (K.out _ (if_pos hcq).symm)
          clear K
          subst hcq
          go_enter Try.func32, Try.ntmps32
          go_wp2_with fail
          refine Calls.mono C.out ?_
          rintro e w1 ⟨rfl, rfl⟩
          go_wp2_with fail
          rw [Nat.sub_self] at K1
          refine Calls.mono K1.out ?_
          rintro e w1 ⟨A2, c2, rfl, hown, hb⟩
          rw [HLM.out] at hown ⊢
          go_wp2
          go_ret3
          rw [HR.out]
          refine ⟨A2, c2, ?_, ?_, hb⟩
          · show _ = Ending.returned (.tuple #[.slice A2 (List.length _) c2, .int .i64 _, .int .i64 _]); rw [HLM.out]; rfl
          · show World.ownsRow _ _ _ _ (.slice A2 (List.length _) c2) (List.length _) _; rw [HLM.out]; exact hown
        · have K1 := Lib.hid (K.out _ (if_neg hcq).symm)
          clear K
          go_enter Try.func32, Try.ntmps32
          go_wp2_with fail
          refine Calls.mono C.out ?_
          rintro e w1 ⟨rfl, rfl⟩
          go_wp2_with fail
          refine Calls.mono K1.out ?_
          rintro e w1 ⟨A2, c2, rfl, hown, hb⟩
          rw [HLM.out] at hown ⊢
          go_wp2
          go_ret3
          rw [HR.out]
          refine ⟨A2, c2, ?_, ?_, hb⟩
          · show _ = Ending.returned (.tuple #[.slice A2 (List.length _) c2, .int .i64 _, .int .i64 _]); rw [HLM.out]; rfl
          · show World.ownsRow _ _ _ _ (.slice A2 (List.length _) c2) (List.length _) _; rw [HLM.out]; exact hown
  · have := hbad 1 rfl h; unfold getRawR; rw [h]; exact this
  · have := hbad 11 rfl h; unfold getRawR; rw [h]; exact this
end Go.Proofs.Ytpklgghppmlklaa
