/- The page's GetRaw: a part of what came in; answers written over. -/
import Derived.Test.YtpklgghppmlklaaWireRaw
import Derived.Test.YtpklgghppmlklaaMem
namespace Go.Proofs.Ytpklgghppmlklaa
open Go.RowKit

/-- A part of what came in, two numbers; memory as it was. -/
def GivesPart (B : Nat) (w : World) (r : List Int × Int × Int) (e : Ending) (w' : World) : Prop :=
  ∃ A c, e = .returned (.tuple #[.slice A r.1.length c, .int .i64 r.2.1, .int .i64 r.2.2]) ∧ Reads w B 1 A r.1.length (nums .u8 r.1) ∧ w = w'

set_option maxHeartbeats 800000 in
theorem ref_get_raw (A : Option Addr) (n c B : Nat) (l : List Int) (w : World) (hr : Reads w B 1 A n (nums .u8 l)) (hl : IsBytes l) (hn : n ≤ 2097152) (hnc : n ≤ c) (hc : c ≤ 9223372036854775807) :
    Calls Try.prog 33 #[.slice A n c] w (GivesPart B w (getRawR l)) := by
  have hll : l.length = n := by have := hr.1; simpa [nums] using this
  have hbad : ∀ x : Int, (x != 0) = true → get 0 0 l = (0, 0, x) → Calls Try.prog 33 #[.slice A n c] w (GivesPart B w ([], 0, x)) := by
    intro x hx h
    have C := Lib.hid ((ref_get_num A n c _ l w hr hl (by omega)).mono (gives3 h))
    clear h
    go_enter Try.func33, Try.ntmps33
    go_wp2_with fail
    refine Calls.mono C.out ?_
    rintro e w1 ⟨rfl, rfl⟩
    go_wp2
    go_ret3
    exact ⟨none, 0, rfl, Reads.none_, rfl⟩
  rcases get_ok0 hl with ⟨m, k, h, h0, h1, h2, h3, h4⟩ | h | h
  · have C := Lib.hid ((ref_get_num A n c _ l w hr hl (by omega)).mono (gives3 h))
    by_cases hm : 1048576 < m
    · have HR : Hid (getRawR l = ([], 0, 1)) := by
        show _ = _
        unfold getRawR; rw [h]; simp [hm]
      clear h
      go_enter Try.func33, Try.ntmps33
      go_wp2_with fail
      refine Calls.mono C.out ?_
      rintro e w1 ⟨rfl, rfl⟩
      go_wp2
      go_ret3
      rw [HR.out]
      exact ⟨none, 0, rfl, Reads.none_, rfl⟩
    · by_cases hcut : (n : Int) - k < m
      · have HR : Hid (getRawR l = ([], 0, 11)) := by
          show _ = _
          unfold getRawR; rw [h]; simp [hm, hll, hcut]
        have hm' : m ≤ 1048576 := by omega
        clear h
        go_enter Try.func33, Try.ntmps33
        go_wp2_with fail
        refine Calls.mono C.out ?_
        rintro e w1 ⟨rfl, rfl⟩
        go_wp2
        go_ret3
        rw [HR.out]
        exact ⟨none, 0, rfl, Reads.none_, rfl⟩
      · have HR : Hid (getRawR l = ((l.drop k.toNat).take m.toNat, k + m, 0)) := by
          show _ = _
          unfold getRawR; rw [h]; simp [hm, hll, hcut]
        have hm' : m ≤ 1048576 := by omega
        have hcut' : k + m ≤ (n : Int) := by omega
        obtain ⟨q, rfl⟩ := Int.eq_ofNat_of_zero_le (show 0 ≤ k by omega)
        obtain ⟨p, rfl⟩ := Int.eq_ofNat_of_zero_le h0
        rw [Int.toNat_natCast, Int.toNat_natCast] at HR
        obtain ⟨_, b, o, rfl, hbb, _⟩ := hr.num (i := 0) (by omega)
        have hmid := hr.mid (q := q) (m := p) (c := c) (by omega) hnc
        have hlm : ((l.drop q).take p).length = p := by simp [hll]; omega
        have HLM := Lib.hid hlm
        clear h hcut hm hll hlm hr
        by_cases hcq : c = q
        · rw [if_pos hcq] at hmid
          subst hcq
          go_enter Try.func33, Try.ntmps33
          go_wp2_with fail
          refine Calls.mono C.out ?_
          rintro e w1 ⟨rfl, rfl⟩
          go_wp2
          go_ret3
          rw [HR.out]
          refine ⟨some ⟨b, o, none⟩, 0, ?_, ?_, rfl⟩
          · show Ending.returned (.tuple #[.slice (some ⟨b, o, none⟩) (c + p - c) 0, .int .i64 ((c : Int) + (p : Int)), .int .i64 0]) = Ending.returned (.tuple #[.slice (some ⟨b, o, none⟩) (List.length _) 0, .int .i64 _, .int .i64 _]); rw [HLM.out, Nat.add_sub_cancel_left]
          · show Reads _ _ _ _ (List.length _) _; rw [HLM.out]; exact hmid
        · rw [if_neg hcq] at hmid
          go_enter Try.func33, Try.ntmps33
          go_wp2_with fail
          refine Calls.mono C.out ?_
          rintro e w1 ⟨rfl, rfl⟩
          go_wp2
          go_ret3
          rw [HR.out]
          refine ⟨some ⟨b, o + q, none⟩, c - q, ?_, ?_, rfl⟩
          · show Ending.returned (.tuple #[.slice (some ⟨b, o + q, none⟩) (q + p - q) (c - q), .int .i64 ((q : Int) + (p : Int)), .int .i64 0]) = Ending.returned (.tuple #[.slice (some ⟨b, o + q, none⟩) (List.length _) (c - q), .int .i64 _, .int .i64 _]); rw [HLM.out, Nat.add_sub_cancel_left]
          · show Reads _ _ _ _ (List.length _) _; rw [HLM.out]; exact hmid
  · have := hbad 1 rfl h; unfold getRawR; rw [h]; exact this
  · have := hbad 11 rfl h; unfold getRawR; rw [h]; exact this

set_option maxHeartbeats 800000 in
set_option maxRecDepth 20000 in
theorem spoil_bytes (A : Option Addr) (n c base : Nat) (l : List Int) (w : World) (hown : w.ownsRow base 5 1 (.slice A n c) n (nums .u8 l)) (hbase : base ≤ w.heap.size) (hn : n ≤ 2097152) :
    Calls Try.prog 34 #[.slice A n c] w fun e w' => e = .returned (.tuple #[]) ∧ Below base w w' := by
  obtain ⟨i0, hi0, hz0, hz1, hz2⟩ := info_parts info_u8
  go_enter Try.func34, Try.ntmps34
  go_wp2
  go_loopw [2] (fun i wr => ∃ (k : Nat) (l' : List Int), k ≤ n ∧ i = .int .i64 k ∧ wr.ownsRow base 5 1 (.slice A n c) n (nums .u8 l') ∧ Below base w wr) (fun i _ => n - (intOf i).toNat)
  case atStart => exact ⟨0, l, Nat.zero_le _, rfl, hown, Below.refl _ _⟩
  case round =>
    obtain ⟨k, l', hk, rfl, hown', hbl⟩ := hrel
    by_cases hlt : k < n
    · obtain ⟨g, rfl, hb, hg, hc, hf⟩ := own_at hown' hlt
      go_wp2
      go_roundw
      case rel => exact ⟨k + 1, _, by omega, by go_num, own_store hown' _, hbl.setCell hb _⟩
      case measure => simp [intOf]; omega
    · obtain rfl : k = n := by omega
      go_wp2_with (at_builtin; refine wpList_push wr _ rfl _ _ _ rfl base 5 i0 _ 1 1 Try.underlying24 hi0 hz0 hz1 hz2 rfl (by omega) _ _ _ rfl hown' [.int .u8 5] rfl rfl rfl (one_int _ _) (by unfold maxLen; omega) (by omega) (Nat.le_trans hbase hbl.size) ?_; intro A2 c2 w2 hown2 hb2)
      go_end0
      exact ⟨rfl, hbl.trans hb2⟩

end Go.Proofs.Ytpklgghppmlklaa
